/- Walks of the program's functions. Printed by a program of this claim's author. No condition. -/
import Derived.Test.YteogdknlofcpiaaGreatSlBA
import Derived.Test.YteogdknlofcpiaaGreatSlDB
import Derived.Test.YteogdknlofcpiaaGreatSlQ
import Derived.Test.YteogdknlofcpiaaGreatSlR
import Derived.Test.YteogdknlofcpiaaGreatSlP
import Derived.Test.YteogdknlofcpiaaGreatSlI
import Derived.Test.YteogdknlofcpiaaGreatSlAF
import Derived.Test.YteogdknlofcpiaaGreatSlDK
import Derived.Test.YteogdknlofcpiaaGreatSlDL
import Derived.Test.YteogdknlofcpiaaGreatSlDS
import Derived.Test.YteogdknlofcpiaaGreatSlZA
import Derived.Test.YteogdknlofcpiaaGreatProg
import Derived.Test.YteogdknlofcpiaaGreatWalkMigrateItems0
namespace Sl
open _root_.Go _root_.Go.RowKit _root_.Go.Proofs
set_option linter.all false
set_option maxHeartbeats 4000000 in
set_option maxRecDepth 100000 in
theorem Src_Nat {W w : World} {F : List Atom} (b : Nat) (bs : List UInt8) (p : Nat) (hp : p ≤ 8 * bs.length) (hb : bs.length ≤ 140737488355328) {i : Nat} (hi : F[i]? = some (SrcA b bs p)) (H : St W w F) : Calls Tryz.prog 75 #[.pointer (some ⟨b, 0, none⟩)] w (Ret fun v w' => v = .tuple #[.int .u64 (natU (remB bs p) : Int), .int .i64 (natE (remB bs p))] ∧ St W w' (F.set i (SrcA b bs (p + natN (remB bs p))))) := by
 have H0 := H.front hi
 refine calls_of_go (n := 82) Tryz.func75 rfl Tryz.ntmps75 rfl ?_
 refine g_seq (g_region (Ag (.int .u64 0) (Ag (.int .i64 0) (r_nil (g_seq (g_seq (g_region (Mv (.pointer (some ⟨b, 0, none⟩)) (rc (s_peql false un_70 rfl rfl rfl rfl (Mv (.bool false) (Rt (Mw (.pointer (some ⟨b, 0, none⟩)) (Rt (s_nilCheck (.pointer (some ⟨b, 0, none⟩)) rfl ⟨_, rfl⟩ rfl (Rt (s_fieldAddr 124 0 0 0 4 rfl fi_124_0 rfl rfl (Rt ?_))))))))))))))))))
 have H1 := H0.move 0 rfl
 obtain ⟨vv2, H3⟩ := St.open_ex H1
 have H4 := St.open_star H3
 obtain ⟨pp5, cc6, gA7, oA8, kA9, eA10, zA11, rfl, hn12, hp13, hx14, hs15, hml, H16⟩ := Im.open_ H4 (i := 1) rfl
 have H17 : St W w (_ :: _ :: _ :: (F.set i emp)) := H16
 refine s_load (.bool true) ag_4 rfl (H17.blk_at (i := 1) rfl) rfl rfl (Rt (s_not true rfl false rfl rfl (Pf (.bool false) (r_nil (g_false rfl (g_skip (g_seq (g_region (Mv (.pointer (some ⟨b, 0, none⟩)) (Nc (.pointer (some ⟨b, 0, none⟩)) (Fa 2 fi_124_2 rfl (Lo (.int .i64 ((p : Nat) : Int)) ag_3 H17 1 (Ag (.int .i64 ((p : Nat) : Int)) (r_nil (g_seq (g_region (Ag (.int .i64 0) (r_nil (g_seq (g_block ?_))))))))))))))))))))
 have H18 : St W w (_ :: _ :: (F.set i emp)) := (((H17.move 2 rfl).move 2 rfl).drop 2 rfl)
 have H19 : St W w (SrcA b bs p :: (F.set i emp)) := St.shut_ex (.slice pp5 bs.length cc6) (St.shut_star (ls := [blk b (.cells #[.bool true, .slice pp5 bs.length cc6, .int .i64 ((p : Nat) : Int)] 124 (0, 0)), Im 1 (.slice pp5 bs.length cc6) bs.length (bs.flatMap u8c)]) H18)
 have H20 : St W w (_ :: (F.set i emp)) := H19
 have hL := remB_len bs p
 refine g_loop_inv (fun (x_ : Nat) => match x_ with | k => [(0, .pointer (some ⟨b, 0, none⟩)), (2, .int .u64 0), (3, .int .i64 0), (4, .int .i64 ((p : Nat) : Int)), (5, .int .i64 (k : Int))]) (fun (x_ : Nat) w => match x_ with | k => (k ≤ 65) ∧ (k ≤ (remB bs p).length) ∧ (∀ j, j < k → (remB bs p).getD j false = false) ∧ St W w (SrcA b bs p :: (F.set i emp))) (fun (x_ : Nat) => match x_ with | k => 65 - k) (0) ?_ ?_ ?_
 ·exact t2
 ·exact ⟨t0, t0, (fun j hj => by omega), H20⟩
 rintro k ρ21 w22 ⟨hk, hkr, hz, H23⟩ nx24
 change Ends _ _ (upds ρ21 [(0, .pointer (some ⟨b, 0, none⟩)), (2, .int .u64 0), (3, .int .i64 0), (4, .int .i64 ((p : Nat) : Int)), (5, .int .i64 (k : Int))]) w22
 refine g_seq (g_seq (g_region (Mv (.int .i64 (k : Int)) ?_)))
 by_cases hc25 : (k : Int) < 65
 ·refine rc (s_lss true rfl rfl (dtrue hc25) rfl (Mv (.bool true) (Rt (Mw (.int .i64 (k : Int)) (Rt (Mw (.pointer (some ⟨b, 0, none⟩)) (Rt (s_call [.pointer (some ⟨b, 0, none⟩)] pl_99 rfl rfl (Src_Left b bs p t4 t18   (i := 0) rfl H23) ?_))))))))
  rintro _ w26 ⟨rfl, H27⟩
  refine Rt ?_
  by_cases hc28 : (k : Int) < ((remB bs p).length : Int)
  ·refine s_lss true rfl rfl (dtrue hc28) rfl (Pt (.bool true) (Mv (.bool true) (Rt (Mw (.pointer (some ⟨b, 0, none⟩)) (Rt (Mw (.int .i64 ((p : Nat) : Int)) (Rt (Mw (.int .i64 (k : Int)) (Rt (s_add (((p : Nat) : Int) + (k : Int)) rfl rfl (wi64 t0) rfl (Rt (s_call [.pointer (some ⟨b, 0, none⟩), .int .i64 (((p : Nat) : Int) + (k : Int))] pl_100 rfl rfl (Src_bit b bs p t4 t18 (p + k) t0 (i := 0) rfl H27) ?_))))))))))))
   rintro _ w29 ⟨rfl, H30⟩
   refine Rt ?_
   by_cases hc31 : ((bitAt bs (p + k)).toNat : Int) = 0
   ·refine s_eql true rfl rfl (dtrue hc31) rfl (Pt (.bool true) (r_nil (g_true rfl (g_skip (g_block (g_region (Mv (.int .i64 (k : Int)) (rc (s_add ((k : Int) + 1) rfl rfl (wi64 t0) rfl (Ag (.int .i64 ((k : Int) + 1)) (r_nil (g_inBlock ?_))))))))))))
    have H32 : St W w29 (_ :: (F.set i emp)) := H30
    have hbit : bitAt bs (p + k) = false := toNat_1.1 ‹_›
    exact nx24 (k + 1) _ _ ⟨t0, t0, (fun j hj => (Nat.lt_or_ge j k).elim (hz j) (fun h => by rw [show j = k from by omega, remB_getD t0]; exact hbit)), H32⟩ t9 t2
   refine s_eql false rfl rfl (dfalse hc31) rfl (Pt (.bool false) (r_nil (g_false rfl (g_exit t40 (g_seq (g_block (g_seq (g_region ?_))))))))
   have hzz : zeros (remB bs p) = k := zeros_is hk hkr hz t37
   clear hz
   refine Mv (.int .i64 (k : Int)) (rc (s_eql false rfl rfl (dfalse t0) rfl (Ag (.bool false) (r_nil (g_false rfl (g_seq (g_region (Mv (.pointer (some ⟨b, 0, none⟩)) (rc (s_call [.pointer (some ⟨b, 0, none⟩)] pl_99 rfl rfl (Src_Left b bs p t4 t18   (i := 0) rfl H30) ?_))))))))))
   rintro _ w33 ⟨rfl, H34⟩
   refine Mv (.int .i64 (k : Int)) (rc (s_mul (2 * (k : Int)) rfl rfl (wi64 t0) rfl (rc (s_add (2 * (k : Int) + 1) rfl rfl (wi64 t0) rfl ?_))))
   by_cases hc35 : ((remB bs p).length : Int) < 2 * (k : Int) + 1
   ·refine rc (s_lss true rfl rfl (dtrue hc35) rfl (Ag (.bool true) (r_nil (g_true rfl (g_seq (g_region (Ag (.int .u64 0) (Ag (.int .i64 10) (r_nil (Gr [.int .u64 0, .int .i64 10] Tryz.func75 Tryz.results75 ?_))))))))))
    have H36 : St W w33 (_ :: (F.set i emp)) := H34
    have hE : natE (remB bs p) = 10 := natE_10 t0 t0
    have hE0 : ¬ natE (remB bs p) = 0 := by rw [hE]; decide
    exact ⟨by rw [natU_no hE0, hE]; rfl, by rw [natN_no hE0]; exact St.back hi H36⟩
   refine rc (s_lss false rfl rfl (dfalse hc35) rfl (Ag (.bool false) (r_nil (g_false rfl (g_skip (g_inBlock (g_seq (g_region (Mv (.pointer (some ⟨b, 0, none⟩)) (Nc (.pointer (some ⟨b, 0, none⟩)) (Fa 2 fi_124_2 rfl ?_)))))))))))
   have H37 := H34.move 0 rfl
   obtain ⟨vv38, H39⟩ := St.open_ex H37
   have H40 := St.open_star H39
   obtain ⟨pp41, cc42, gA43, oA44, kA45, eA46, zA47, rfl, hn48, hp49, hx50, hs51, hml, H52⟩ := Im.open_ H40 (i := 1) rfl
   have H53 : St W w33 (_ :: _ :: _ :: (F.set i emp)) := H52
   refine Lo (.int .i64 ((p : Nat) : Int)) ag_3 H53 1 (Mv (.int .i64 (k : Int)) (rc (s_add ((k : Int) + 1) rfl rfl (wi64 t0) rfl (rc (s_add (((p : Nat) : Int) + ((k : Int) + 1)) rfl rfl (wi64 t0) rfl (Nc (.pointer (some ⟨b, 0, none⟩)) (Fa 2 fi_124_2 rfl (rc (s_store H53 1 (.int .i64 (((p : Nat) : Int) + ((k : Int) + 1))) rfl rfl rfl sz_3 rfl (nbl rfl) rfl (cs' := #[.bool true, .slice pp41 bs.length cc42, .int .i64 (((p : Nat) : Int) + ((k : Int) + 1))]) rfl (fun w54 H55 => r_nil (g_seq (g_region ?_))))))))))))
   have hL1 := remB_len bs (p + k + 1)
   have he : srcE (remB bs (p + k + 1)) (k : Int) = 0 := srcE_0 t0 t0
   have hu1 : srcU (remB bs (p + k + 1)) (k : Int) = valOf (((remB bs p).drop (zeros (remB bs p) + 1)).take (zeros (remB bs p))) := by rw [srcU_0 he, hzz, Int.toNat_natCast, remB_drop, Nat.add_assoc]
   have hu2 := srcU_lt_pow (R := remB bs (p + k + 1)) (k := k)
   have hN1 : srcN (remB bs (p + k + 1)) (k : Int) = k := by rw [srcN_0 he]; exact Int.toNat_natCast k
   refine Mv (.pointer (some ⟨b, 0, none⟩)) (Mv (.int .i64 (k : Int)) ?_)
   have H56 : St W w54 (_ :: _ :: (F.set i emp)) := (((H55.move 2 rfl).move 2 rfl).drop 2 rfl)
   have H57 : St W w54 (blk b (.cells #[.bool true, .slice pp41 bs.length cc42, .int .i64 ((p + k + 1 : Nat) : Int)] 124 (0, 0)) :: Im 1 (.slice pp41 bs.length cc42) bs.length (bs.flatMap u8c) :: (F.set i emp)) := by rw [show ((p + k + 1 : Nat) : Int) = ((p : Nat) : Int) + ((k : Int) + 1) from by omega]; exact H56
   have H58 : St W w54 (SrcA b bs (p + k + 1) :: (F.set i emp)) := St.shut_ex (.slice pp41 bs.length cc42) (St.shut_star (ls := [blk b (.cells #[.bool true, .slice pp41 bs.length cc42, .int .i64 ((p + k + 1 : Nat) : Int)] 124 (0, 0)), Im 1 (.slice pp41 bs.length cc42) bs.length (bs.flatMap u8c)]) H57)
   refine rc (s_call [.pointer (some ⟨b, 0, none⟩), .int .i64 (k : Int)] pl_76 rfl rfl (Src_Bits b bs (p + k + 1) t4 t18 (k : Int)  (i := 0) rfl H58) ?_)
   rintro _ w59 ⟨rfl, H60⟩
   refine Mv (.tuple #[.int .u64 (srcU (remB bs (p + k + 1)) (k : Int) : Int), .int .i64 (srcE (remB bs (p + k + 1)) (k : Int))]) (Ex (.int .u64 (srcU (remB bs (p + k + 1)) (k : Int) : Int)) (Ex (.int .i64 (srcE (remB bs (p + k + 1)) (k : Int))) (Ag (.int .u64 (srcU (remB bs (p + k + 1)) (k : Int) : Int)) (Ag (.int .i64 (srcE (remB bs (p + k + 1)) (k : Int))) (r_nil (g_seq (g_seq (g_region (Mv (.pointer (some ⟨b, 0, none⟩)) (Mv (.int .i64 ((p : Nat) : Int)) (Mv (.int .i64 (srcE (remB bs (p + k + 1)) (k : Int))) (rc (s_call [.pointer (some ⟨b, 0, none⟩), .int .i64 ((p : Nat) : Int), .int .i64 (srcE (remB bs (p + k + 1)) (k : Int))] pl_101 rfl rfl (Src_back_ok b bs (p + k + 1 + srcN (remB bs (p + k + 1)) (k : Int)) ((p : Nat) : Int) (srcE (remB bs (p + k + 1)) (k : Int)) he (i := 0) rfl H60) ?_)))))))))))))
   rintro _ w61 ⟨rfl, H62⟩
   refine rc (s_neq false rfl rfl (ntrue he) rfl (r_nil (g_false rfl (g_skip (g_seq (g_seq (g_region (Mv (.int .i64 (k : Int)) ?_))))))))
   by_cases hc63 : (k : Int) = 64
   ·refine rc (s_eql true rfl rfl (dtrue hc63) rfl (r_nil (g_true rfl (g_seq (g_seq (g_region (Mv (.int .u64 (srcU (remB bs (p + k + 1)) (k : Int) : Int)) ?_)))))))
    by_cases hc64 : (srcU (remB bs (p + k + 1)) (k : Int) : Int) = 0
    ·refine rc (s_neq false rfl rfl (ntrue hc64) rfl (r_nil (g_false rfl (g_skip (g_seq (g_region (Ag (.int .u64 18446744073709551615) (Ag (.int .i64 0) (r_nil (Gr [.int .u64 18446744073709551615, .int .i64 0] Tryz.func75 Tryz.results75 ?_))))))))))
     have H65 : St W w61 (_ :: (F.set i emp)) := H62
     have hE : natE (remB bs p) = 0 := natE_0 t0 t0 t55
     have hN : natN (remB bs p) = k + 1 + k := by rw [natN_0 hE]; omega
     have hU : natU (remB bs p) = 18446744073709551615 := by exact natU_64 hE t0
     have hP : p + natN (remB bs p) = p + k + 1 + srcN (remB bs (p + k + 1)) (k : Int) := by rw [hN, hN1]; omega
     have hv : (natU (remB bs p) : Int) = 18446744073709551615 := by rw [hU]; rfl
     exact ⟨by rw [hE, hv]; rfl, by rw [hP]; exact St.back hi H65⟩
    refine rc (s_neq true rfl rfl (nfalse hc64) rfl (r_nil (g_true rfl (g_seq (g_region (Mv (.pointer (some ⟨b, 0, none⟩)) (Mv (.int .i64 ((p : Nat) : Int)) (rc (s_call [.pointer (some ⟨b, 0, none⟩), .int .i64 ((p : Nat) : Int), .int .i64 11] pl_101 rfl rfl (Src_back_no b bs (p + k + 1 + srcN (remB bs (p + k + 1)) (k : Int)) (p) 11 t10 (i := 0) rfl H62) ?_)))))))))
    rintro _ w66 ⟨rfl, H67⟩
    refine Ag (.int .u64 0) (Ag (.int .i64 11) (r_nil (Gr [.int .u64 0, .int .i64 11] Tryz.func75 Tryz.results75 ?_)))
    have H68 : St W w66 (_ :: (F.set i emp)) := H67
    have hE : natE (remB bs p) = 11 := by first | exact natE_65 t0 | exact natE_11 t0 t0 t55
    have hE0 : ¬ natE (remB bs p) = 0 := by rw [hE]; decide
    exact ⟨by rw [natU_no hE0, hE]; rfl, by rw [natN_no hE0]; exact St.back hi H68⟩
   refine rc (s_eql false rfl rfl (dfalse hc63) rfl (r_nil (g_false rfl (g_skip (g_seq (g_region ?_))))))
   have hpw := pow_le63 (k := k) t0
   refine Mv (.int .u64 (srcU (remB bs (p + k + 1)) (k : Int) : Int)) (Mv (.int .i64 (k : Int)) (rc (s_shl ((2 ^ k : Nat) : Int) rfl rfl t0 (shl_one rfl t0) rfl ?_)))
   have hq : 0 < 2 ^ k := Nat.pow_pos t10
   refine rc (s_add ((srcU (remB bs (p + k + 1)) (k : Int) + 2 ^ k : Nat) : Int) rfl rfl ((wu64 t19).trans t19) rfl (rc (s_sub ((srcU (remB bs (p + k + 1)) (k : Int) + 2 ^ k - 1 : Nat) : Int) rfl rfl ((wu64 t19).trans t19) rfl (Ag (.int .u64 ((srcU (remB bs (p + k + 1)) (k : Int) + 2 ^ k - 1 : Nat) : Int)) (Ag (.int .i64 0) (r_nil (Gr [.int .u64 ((srcU (remB bs (p + k + 1)) (k : Int) + 2 ^ k - 1 : Nat) : Int), .int .i64 0] Tryz.func75 Tryz.results75 ?_)))))))
   have H69 : St W w61 (_ :: (F.set i emp)) := H62
   have hE : natE (remB bs p) = 0 := natE_0 t0 t0 t55
   have hN : natN (remB bs p) = k + 1 + k := by rw [natN_0 hE]; omega
   have hU : natU (remB bs p) = valOf (((remB bs p).drop (zeros (remB bs p) + 1)).take (zeros (remB bs p))) + 2 ^ k - 1 := by rw [natU_is hE t0, hzz]
   have hP : p + natN (remB bs p) = p + k + 1 + srcN (remB bs (p + k + 1)) (k : Int) := by rw [hN, hN1]; omega
   have hv : (natU (remB bs p) : Int) = ((srcU (remB bs (p + k + 1)) (k : Int) + 2 ^ k - 1 : Nat) : Int) := by rw [hU, ← hu1]; skip
   exact ⟨by rw [hE, hv]; rfl, by rw [hP]; exact St.back hi H69⟩
  refine s_lss false rfl rfl (dfalse hc28) rfl (Pt (.bool false) (Mv (.bool false) (Rp (Rp (Rp (Rp (Rp (Rp (Pf (.bool false) (r_nil (g_false rfl (g_exit t40 (g_seq (g_block (g_seq (g_region ?_))))))))))))))))
  have hzz : zeros (remB bs p) = k := zeros_is hk hkr hz t37
  clear hz
  refine Mv (.int .i64 (k : Int)) (rc (s_eql false rfl rfl (dfalse t0) rfl (Ag (.bool false) (r_nil (g_false rfl (g_seq (g_region (Mv (.pointer (some ⟨b, 0, none⟩)) (rc (s_call [.pointer (some ⟨b, 0, none⟩)] pl_99 rfl rfl (Src_Left b bs p t4 t18   (i := 0) rfl H27) ?_))))))))))
  rintro _ w70 ⟨rfl, H71⟩
  refine Mv (.int .i64 (k : Int)) (rc (s_mul (2 * (k : Int)) rfl rfl (wi64 t0) rfl (rc (s_add (2 * (k : Int) + 1) rfl rfl (wi64 t0) rfl ?_))))
  by_cases hc72 : ((remB bs p).length : Int) < 2 * (k : Int) + 1
  ·refine rc (s_lss true rfl rfl (dtrue hc72) rfl (Ag (.bool true) (r_nil (g_true rfl (g_seq (g_region (Ag (.int .u64 0) (Ag (.int .i64 10) (r_nil (Gr [.int .u64 0, .int .i64 10] Tryz.func75 Tryz.results75 ?_))))))))))
   have H73 : St W w70 (_ :: (F.set i emp)) := H71
   have hE : natE (remB bs p) = 10 := natE_10 t0 t0
   have hE0 : ¬ natE (remB bs p) = 0 := by rw [hE]; decide
   exact ⟨by rw [natU_no hE0, hE]; rfl, by rw [natN_no hE0]; exact St.back hi H73⟩
  refine rc (s_lss false rfl rfl (dfalse hc72) rfl (Ag (.bool false) (r_nil (g_false rfl (g_skip (g_inBlock (g_seq (g_region (Mv (.pointer (some ⟨b, 0, none⟩)) (Nc (.pointer (some ⟨b, 0, none⟩)) (Fa 2 fi_124_2 rfl ?_)))))))))))
  have H74 := H71.move 0 rfl
  obtain ⟨vv75, H76⟩ := St.open_ex H74
  have H77 := St.open_star H76
  obtain ⟨pp78, cc79, gA80, oA81, kA82, eA83, zA84, rfl, hn85, hp86, hx87, hs88, hml, H89⟩ := Im.open_ H77 (i := 1) rfl
  have H90 : St W w70 (_ :: _ :: _ :: (F.set i emp)) := H89
  refine Lo (.int .i64 ((p : Nat) : Int)) ag_3 H90 1 (Mv (.int .i64 (k : Int)) (rc (s_add ((k : Int) + 1) rfl rfl (wi64 t0) rfl (rc (s_add (((p : Nat) : Int) + ((k : Int) + 1)) rfl rfl (wi64 t0) rfl (Nc (.pointer (some ⟨b, 0, none⟩)) (Fa 2 fi_124_2 rfl (rc (s_store H90 1 (.int .i64 (((p : Nat) : Int) + ((k : Int) + 1))) rfl rfl rfl sz_3 rfl (nbl rfl) rfl (cs' := #[.bool true, .slice pp78 bs.length cc79, .int .i64 (((p : Nat) : Int) + ((k : Int) + 1))]) rfl (fun w91 H92 => r_nil (g_seq (g_region ?_))))))))))))
  have hL1 := remB_len bs (p + k + 1)
  have he : srcE (remB bs (p + k + 1)) (k : Int) = 0 := srcE_0 t0 t0
  have hu1 : srcU (remB bs (p + k + 1)) (k : Int) = valOf (((remB bs p).drop (zeros (remB bs p) + 1)).take (zeros (remB bs p))) := by rw [srcU_0 he, hzz, Int.toNat_natCast, remB_drop, Nat.add_assoc]
  have hu2 := srcU_lt_pow (R := remB bs (p + k + 1)) (k := k)
  have hN1 : srcN (remB bs (p + k + 1)) (k : Int) = k := by rw [srcN_0 he]; exact Int.toNat_natCast k
  refine Mv (.pointer (some ⟨b, 0, none⟩)) (Mv (.int .i64 (k : Int)) ?_)
  have H93 : St W w91 (_ :: _ :: (F.set i emp)) := (((H92.move 2 rfl).move 2 rfl).drop 2 rfl)
  have H94 : St W w91 (blk b (.cells #[.bool true, .slice pp78 bs.length cc79, .int .i64 ((p + k + 1 : Nat) : Int)] 124 (0, 0)) :: Im 1 (.slice pp78 bs.length cc79) bs.length (bs.flatMap u8c) :: (F.set i emp)) := by rw [show ((p + k + 1 : Nat) : Int) = ((p : Nat) : Int) + ((k : Int) + 1) from by omega]; exact H93
  have H95 : St W w91 (SrcA b bs (p + k + 1) :: (F.set i emp)) := St.shut_ex (.slice pp78 bs.length cc79) (St.shut_star (ls := [blk b (.cells #[.bool true, .slice pp78 bs.length cc79, .int .i64 ((p + k + 1 : Nat) : Int)] 124 (0, 0)), Im 1 (.slice pp78 bs.length cc79) bs.length (bs.flatMap u8c)]) H94)
  refine rc (s_call [.pointer (some ⟨b, 0, none⟩), .int .i64 (k : Int)] pl_76 rfl rfl (Src_Bits b bs (p + k + 1) t4 t18 (k : Int)  (i := 0) rfl H95) ?_)
  rintro _ w96 ⟨rfl, H97⟩
  refine Mv (.tuple #[.int .u64 (srcU (remB bs (p + k + 1)) (k : Int) : Int), .int .i64 (srcE (remB bs (p + k + 1)) (k : Int))]) (Ex (.int .u64 (srcU (remB bs (p + k + 1)) (k : Int) : Int)) (Ex (.int .i64 (srcE (remB bs (p + k + 1)) (k : Int))) (Ag (.int .u64 (srcU (remB bs (p + k + 1)) (k : Int) : Int)) (Ag (.int .i64 (srcE (remB bs (p + k + 1)) (k : Int))) (r_nil (g_seq (g_seq (g_region (Mv (.pointer (some ⟨b, 0, none⟩)) (Mv (.int .i64 ((p : Nat) : Int)) (Mv (.int .i64 (srcE (remB bs (p + k + 1)) (k : Int))) (rc (s_call [.pointer (some ⟨b, 0, none⟩), .int .i64 ((p : Nat) : Int), .int .i64 (srcE (remB bs (p + k + 1)) (k : Int))] pl_101 rfl rfl (Src_back_ok b bs (p + k + 1 + srcN (remB bs (p + k + 1)) (k : Int)) ((p : Nat) : Int) (srcE (remB bs (p + k + 1)) (k : Int)) he (i := 0) rfl H97) ?_)))))))))))))
  rintro _ w98 ⟨rfl, H99⟩
  refine rc (s_neq false rfl rfl (ntrue he) rfl (r_nil (g_false rfl (g_skip (g_seq (g_seq (g_region (Mv (.int .i64 (k : Int)) ?_))))))))
  by_cases hc100 : (k : Int) = 64
  ·refine rc (s_eql true rfl rfl (dtrue hc100) rfl (r_nil (g_true rfl (g_seq (g_seq (g_region (Mv (.int .u64 (srcU (remB bs (p + k + 1)) (k : Int) : Int)) ?_)))))))
   by_cases hc101 : (srcU (remB bs (p + k + 1)) (k : Int) : Int) = 0
   ·refine rc (s_neq false rfl rfl (ntrue hc101) rfl (r_nil (g_false rfl (g_skip (g_seq (g_region (Ag (.int .u64 18446744073709551615) (Ag (.int .i64 0) (r_nil (Gr [.int .u64 18446744073709551615, .int .i64 0] Tryz.func75 Tryz.results75 ?_))))))))))
    have H102 : St W w98 (_ :: (F.set i emp)) := H99
    have hE : natE (remB bs p) = 0 := natE_0 t0 t0 t55
    have hN : natN (remB bs p) = k + 1 + k := by rw [natN_0 hE]; omega
    have hU : natU (remB bs p) = 18446744073709551615 := by exact natU_64 hE t0
    have hP : p + natN (remB bs p) = p + k + 1 + srcN (remB bs (p + k + 1)) (k : Int) := by rw [hN, hN1]; omega
    have hv : (natU (remB bs p) : Int) = 18446744073709551615 := by rw [hU]; rfl
    exact ⟨by rw [hE, hv]; rfl, by rw [hP]; exact St.back hi H102⟩
   refine rc (s_neq true rfl rfl (nfalse hc101) rfl (r_nil (g_true rfl (g_seq (g_region (Mv (.pointer (some ⟨b, 0, none⟩)) (Mv (.int .i64 ((p : Nat) : Int)) (rc (s_call [.pointer (some ⟨b, 0, none⟩), .int .i64 ((p : Nat) : Int), .int .i64 11] pl_101 rfl rfl (Src_back_no b bs (p + k + 1 + srcN (remB bs (p + k + 1)) (k : Int)) (p) 11 t10 (i := 0) rfl H99) ?_)))))))))
   rintro _ w103 ⟨rfl, H104⟩
   refine Ag (.int .u64 0) (Ag (.int .i64 11) (r_nil (Gr [.int .u64 0, .int .i64 11] Tryz.func75 Tryz.results75 ?_)))
   have H105 : St W w103 (_ :: (F.set i emp)) := H104
   have hE : natE (remB bs p) = 11 := by first | exact natE_65 t0 | exact natE_11 t0 t0 t55
   have hE0 : ¬ natE (remB bs p) = 0 := by rw [hE]; decide
   exact ⟨by rw [natU_no hE0, hE]; rfl, by rw [natN_no hE0]; exact St.back hi H105⟩
  refine rc (s_eql false rfl rfl (dfalse hc100) rfl (r_nil (g_false rfl (g_skip (g_seq (g_region ?_))))))
  have hpw := pow_le63 (k := k) t0
  refine Mv (.int .u64 (srcU (remB bs (p + k + 1)) (k : Int) : Int)) (Mv (.int .i64 (k : Int)) (rc (s_shl ((2 ^ k : Nat) : Int) rfl rfl t0 (shl_one rfl t0) rfl ?_)))
  have hq : 0 < 2 ^ k := Nat.pow_pos t10
  refine rc (s_add ((srcU (remB bs (p + k + 1)) (k : Int) + 2 ^ k : Nat) : Int) rfl rfl ((wu64 t19).trans t19) rfl (rc (s_sub ((srcU (remB bs (p + k + 1)) (k : Int) + 2 ^ k - 1 : Nat) : Int) rfl rfl ((wu64 t19).trans t19) rfl (Ag (.int .u64 ((srcU (remB bs (p + k + 1)) (k : Int) + 2 ^ k - 1 : Nat) : Int)) (Ag (.int .i64 0) (r_nil (Gr [.int .u64 ((srcU (remB bs (p + k + 1)) (k : Int) + 2 ^ k - 1 : Nat) : Int), .int .i64 0] Tryz.func75 Tryz.results75 ?_)))))))
  have H106 : St W w98 (_ :: (F.set i emp)) := H99
  have hE : natE (remB bs p) = 0 := natE_0 t0 t0 t55
  have hN : natN (remB bs p) = k + 1 + k := by rw [natN_0 hE]; omega
  have hU : natU (remB bs p) = valOf (((remB bs p).drop (zeros (remB bs p) + 1)).take (zeros (remB bs p))) + 2 ^ k - 1 := by rw [natU_is hE t0, hzz]
  have hP : p + natN (remB bs p) = p + k + 1 + srcN (remB bs (p + k + 1)) (k : Int) := by rw [hN, hN1]; omega
  have hv : (natU (remB bs p) : Int) = ((srcU (remB bs (p + k + 1)) (k : Int) + 2 ^ k - 1 : Nat) : Int) := by rw [hU, ← hu1]; skip
  exact ⟨by rw [hE, hv]; rfl, by rw [hP]; exact St.back hi H106⟩
 refine rc (s_lss false rfl rfl (dfalse hc25) rfl (Mv (.bool false) (Rp (Rp (Rp (Rp (Pf (.bool false) (Mv (.bool false) (Rp (Rp (Rp (Rp (Rp (Rp (Pf (.bool false) (r_nil (g_false rfl (g_exit t40 (g_seq (g_block (g_seq (g_region ?_))))))))))))))))))))))
 have hzz : zeros (remB bs p) = k := zeros_is hk hkr hz t37
 clear hz
 refine Mv (.int .i64 (k : Int)) ?_
 by_cases hc107 : (k : Int) = 65
 ·refine rc (s_eql true rfl rfl (dtrue hc107) rfl (Ag (.bool true) (r_nil (g_true rfl (g_seq (g_region (Ag (.int .u64 0) (Ag (.int .i64 11) (r_nil (Gr [.int .u64 0, .int .i64 11] Tryz.func75 Tryz.results75 ?_))))))))))
  have H108 : St W w22 (_ :: (F.set i emp)) := H23
  have hE : natE (remB bs p) = 11 := by first | exact natE_65 t0 | exact natE_11 t0 t0 t55
  have hE0 : ¬ natE (remB bs p) = 0 := by rw [hE]; decide
  exact ⟨by rw [natU_no hE0, hE]; rfl, by rw [natN_no hE0]; exact St.back hi H108⟩
 refine rc (s_eql false rfl rfl (dfalse hc107) rfl (Ag (.bool false) (r_nil (g_false rfl (g_seq (g_region (Mv (.pointer (some ⟨b, 0, none⟩)) (rc (s_call [.pointer (some ⟨b, 0, none⟩)] pl_99 rfl rfl (Src_Left b bs p t4 t18   (i := 0) rfl H23) ?_)))))))))
 rintro _ w109 ⟨rfl, H110⟩
 refine Mv (.int .i64 (k : Int)) (rc (s_mul (2 * (k : Int)) rfl rfl (wi64 t0) rfl (rc (s_add (2 * (k : Int) + 1) rfl rfl (wi64 t0) rfl ?_))))
 by_cases hc111 : ((remB bs p).length : Int) < 2 * (k : Int) + 1
 ·refine rc (s_lss true rfl rfl (dtrue hc111) rfl (Ag (.bool true) (r_nil (g_true rfl (g_seq (g_region (Ag (.int .u64 0) (Ag (.int .i64 10) (r_nil (Gr [.int .u64 0, .int .i64 10] Tryz.func75 Tryz.results75 ?_))))))))))
  have H112 : St W w109 (_ :: (F.set i emp)) := H110
  have hE : natE (remB bs p) = 10 := natE_10 t0 t0
  have hE0 : ¬ natE (remB bs p) = 0 := by rw [hE]; decide
  exact ⟨by rw [natU_no hE0, hE]; rfl, by rw [natN_no hE0]; exact St.back hi H112⟩
 refine rc (s_lss false rfl rfl (dfalse hc111) rfl (Ag (.bool false) (r_nil (g_false rfl (g_skip (g_inBlock (g_seq (g_region (Mv (.pointer (some ⟨b, 0, none⟩)) (Nc (.pointer (some ⟨b, 0, none⟩)) (Fa 2 fi_124_2 rfl ?_)))))))))))
 have H113 := H110.move 0 rfl
 obtain ⟨vv114, H115⟩ := St.open_ex H113
 have H116 := St.open_star H115
 obtain ⟨pp117, cc118, gA119, oA120, kA121, eA122, zA123, rfl, hn124, hp125, hx126, hs127, hml, H128⟩ := Im.open_ H116 (i := 1) rfl
 have H129 : St W w109 (_ :: _ :: _ :: (F.set i emp)) := H128
 refine Lo (.int .i64 ((p : Nat) : Int)) ag_3 H129 1 (Mv (.int .i64 (k : Int)) (rc (s_add ((k : Int) + 1) rfl rfl (wi64 t0) rfl (rc (s_add (((p : Nat) : Int) + ((k : Int) + 1)) rfl rfl (wi64 t0) rfl (Nc (.pointer (some ⟨b, 0, none⟩)) (Fa 2 fi_124_2 rfl (rc (s_store H129 1 (.int .i64 (((p : Nat) : Int) + ((k : Int) + 1))) rfl rfl rfl sz_3 rfl (nbl rfl) rfl (cs' := #[.bool true, .slice pp117 bs.length cc118, .int .i64 (((p : Nat) : Int) + ((k : Int) + 1))]) rfl (fun w130 H131 => r_nil (g_seq (g_region ?_))))))))))))
 have hL1 := remB_len bs (p + k + 1)
 have he : srcE (remB bs (p + k + 1)) (k : Int) = 0 := srcE_0 t0 t0
 have hu1 : srcU (remB bs (p + k + 1)) (k : Int) = valOf (((remB bs p).drop (zeros (remB bs p) + 1)).take (zeros (remB bs p))) := by rw [srcU_0 he, hzz, Int.toNat_natCast, remB_drop, Nat.add_assoc]
 have hu2 := srcU_lt_pow (R := remB bs (p + k + 1)) (k := k)
 have hN1 : srcN (remB bs (p + k + 1)) (k : Int) = k := by rw [srcN_0 he]; exact Int.toNat_natCast k
 refine Mv (.pointer (some ⟨b, 0, none⟩)) (Mv (.int .i64 (k : Int)) ?_)
 have H132 : St W w130 (_ :: _ :: (F.set i emp)) := (((H131.move 2 rfl).move 2 rfl).drop 2 rfl)
 have H133 : St W w130 (blk b (.cells #[.bool true, .slice pp117 bs.length cc118, .int .i64 ((p + k + 1 : Nat) : Int)] 124 (0, 0)) :: Im 1 (.slice pp117 bs.length cc118) bs.length (bs.flatMap u8c) :: (F.set i emp)) := by rw [show ((p + k + 1 : Nat) : Int) = ((p : Nat) : Int) + ((k : Int) + 1) from by omega]; exact H132
 have H134 : St W w130 (SrcA b bs (p + k + 1) :: (F.set i emp)) := St.shut_ex (.slice pp117 bs.length cc118) (St.shut_star (ls := [blk b (.cells #[.bool true, .slice pp117 bs.length cc118, .int .i64 ((p + k + 1 : Nat) : Int)] 124 (0, 0)), Im 1 (.slice pp117 bs.length cc118) bs.length (bs.flatMap u8c)]) H133)
 refine rc (s_call [.pointer (some ⟨b, 0, none⟩), .int .i64 (k : Int)] pl_76 rfl rfl (Src_Bits b bs (p + k + 1) t4 t18 (k : Int)  (i := 0) rfl H134) ?_)
 rintro _ w135 ⟨rfl, H136⟩
 refine Mv (.tuple #[.int .u64 (srcU (remB bs (p + k + 1)) (k : Int) : Int), .int .i64 (srcE (remB bs (p + k + 1)) (k : Int))]) (Ex (.int .u64 (srcU (remB bs (p + k + 1)) (k : Int) : Int)) (Ex (.int .i64 (srcE (remB bs (p + k + 1)) (k : Int))) (Ag (.int .u64 (srcU (remB bs (p + k + 1)) (k : Int) : Int)) (Ag (.int .i64 (srcE (remB bs (p + k + 1)) (k : Int))) (r_nil (g_seq (g_seq (g_region (Mv (.pointer (some ⟨b, 0, none⟩)) (Mv (.int .i64 ((p : Nat) : Int)) (Mv (.int .i64 (srcE (remB bs (p + k + 1)) (k : Int))) (rc (s_call [.pointer (some ⟨b, 0, none⟩), .int .i64 ((p : Nat) : Int), .int .i64 (srcE (remB bs (p + k + 1)) (k : Int))] pl_101 rfl rfl (Src_back_ok b bs (p + k + 1 + srcN (remB bs (p + k + 1)) (k : Int)) ((p : Nat) : Int) (srcE (remB bs (p + k + 1)) (k : Int)) he (i := 0) rfl H136) ?_)))))))))))))
 rintro _ w137 ⟨rfl, H138⟩
 refine rc (s_neq false rfl rfl (ntrue he) rfl (r_nil (g_false rfl (g_skip (g_seq (g_seq (g_region (Mv (.int .i64 (k : Int)) (rc (s_eql false rfl rfl (dfalse t0) rfl (r_nil (g_false rfl (g_skip (g_seq (g_region ?_)))))))))))))))
 have hpw := pow_le63 (k := k) t0
 refine Mv (.int .u64 (srcU (remB bs (p + k + 1)) (k : Int) : Int)) (Mv (.int .i64 (k : Int)) (rc (s_shl ((2 ^ k : Nat) : Int) rfl rfl t0 (shl_one rfl t0) rfl ?_)))
 have hq : 0 < 2 ^ k := Nat.pow_pos t10
 refine rc (s_add ((srcU (remB bs (p + k + 1)) (k : Int) + 2 ^ k : Nat) : Int) rfl rfl ((wu64 t19).trans t19) rfl (rc (s_sub ((srcU (remB bs (p + k + 1)) (k : Int) + 2 ^ k - 1 : Nat) : Int) rfl rfl ((wu64 t19).trans t19) rfl (Ag (.int .u64 ((srcU (remB bs (p + k + 1)) (k : Int) + 2 ^ k - 1 : Nat) : Int)) (Ag (.int .i64 0) (r_nil (Gr [.int .u64 ((srcU (remB bs (p + k + 1)) (k : Int) + 2 ^ k - 1 : Nat) : Int), .int .i64 0] Tryz.func75 Tryz.results75 ?_)))))))
 have H139 : St W w137 (_ :: (F.set i emp)) := H138
 have hE : natE (remB bs p) = 0 := natE_0 t0 t0 t55
 have hN : natN (remB bs p) = k + 1 + k := by rw [natN_0 hE]; omega
 have hU : natU (remB bs p) = valOf (((remB bs p).drop (zeros (remB bs p) + 1)).take (zeros (remB bs p))) + 2 ^ k - 1 := by rw [natU_is hE t0, hzz]
 have hP : p + natN (remB bs p) = p + k + 1 + srcN (remB bs (p + k + 1)) (k : Int) := by rw [hN, hN1]; omega
 have hv : (natU (remB bs p) : Int) = ((srcU (remB bs (p + k + 1)) (k : Int) + 2 ^ k - 1 : Nat) : Int) := by rw [hU, ← hu1]; skip
 exact ⟨by rw [hE, hv]; rfl, by rw [hP]; exact St.back hi H139⟩
set_option maxHeartbeats 4000000 in
set_option maxRecDepth 100000 in
theorem Src_Num {W w : World} {F : List Atom} (b : Nat) (bs : List UInt8) (p : Nat) (hp : p ≤ 8 * bs.length) (hb : bs.length ≤ 140737488355328) {i : Nat} (hi : F[i]? = some (SrcA b bs p)) (H : St W w F) : Calls Tryz.prog 134 #[.pointer (some ⟨b, 0, none⟩)] w (Ret fun v w' => v = .tuple #[.int .i64 (zagN (natU (remB bs p))), .int .i64 (natE (remB bs p))] ∧ St W w' (F.set i (SrcA b bs (p + natN (remB bs p))))) := by
 have H0 := H.front hi
 refine calls_of_go (n := 20) Tryz.func134 rfl Tryz.ntmps134 rfl ?_
 refine g_seq (g_region (Ag (.int .i64 0) (Ag (.int .i64 0) (r_nil (g_seq (g_region (Mv (.pointer (some ⟨b, 0, none⟩)) (rc (s_call [.pointer (some ⟨b, 0, none⟩)] pl_75 rfl rfl (Src_Nat b bs p t4 t18   (i := 0) rfl H0) ?_)))))))))
 rintro _ w1 ⟨rfl, H2⟩
 refine Mv (.tuple #[.int .u64 (natU (remB bs p) : Int), .int .i64 (natE (remB bs p))]) (Ex (.int .u64 (natU (remB bs p) : Int)) (Ex (.int .i64 (natE (remB bs p))) (Ag (.int .u64 (natU (remB bs p) : Int)) (Ag (.int .i64 (natE (remB bs p))) (r_nil (g_seq (g_region (Mv (.int .u64 (natU (remB bs p) : Int)) ?_))))))))
 have hlt := natU_lt (remB bs p)
 refine rc (s_shr (((natU (remB bs p)) / 2 ^ 1 : Nat) : Int) rfl rfl t0 (shr_nat (k := 1) rfl t10) rfl (rc (s_conv (((natU (remB bs p)) / 2 ^ 1 : Nat) : Int) rfl us_61 ik_2 (wi64 t0) rfl (Mv (.int .u64 (natU (remB bs p) : Int)) (rc (s_and (((natU (remB bs p)) % 2 : Nat) : Int) rfl rfl (and_one _ t0) rfl (rc (s_conv (((natU (remB bs p)) % 2 : Nat) : Int) rfl us_61 ik_2 (wi64 t0) rfl (rc (s_neg (-(((natU (remB bs p)) % 2 : Nat) : Int)) rfl (wi64 t0) rfl (rc (s_xor (zagN (natU (remB bs p))) rfl rfl (zag_bits _ hlt) rfl (Mv (.int .i64 (natE (remB bs p))) (Ag (.int .i64 (zagN (natU (remB bs p)))) (Ag (.int .i64 (natE (remB bs p))) (r_nil (Gr [.int .i64 (zagN (natU (remB bs p))), .int .i64 (natE (remB bs p))] Tryz.func134 Tryz.results134 ?_)))))))))))))))))
 have H3 : St W w1 (_ :: (F.set i emp)) := H2
 exact ⟨rfl, St.back hi H3⟩
set_option maxHeartbeats 4000000 in
set_option maxRecDepth 100000 in
theorem Src_End {W w : World} {F : List Atom} (b : Nat) (bs : List UInt8) (p : Nat) (hp : p ≤ 8 * bs.length) (hb : bs.length ≤ 140737488355328) {i : Nat} (hi : F[i]? = some (SrcA b bs p)) (H : St W w F) : Calls Tryz.prog 78 #[.pointer (some ⟨b, 0, none⟩)] w (Ret fun v w' => v = .int .i64 (endE (remB bs p)) ∧ St W w' F) := by
 have H0 := H.front hi
 refine calls_of_go (n := 34) Tryz.func78 rfl Tryz.ntmps78 rfl ?_
 refine g_seq (g_region (Ag (.int .i64 0) (r_nil (g_seq (g_seq (g_region (Mv (.pointer (some ⟨b, 0, none⟩)) (rc (s_peql false un_70 rfl rfl rfl rfl (Mv (.bool false) (Rt (Mw (.pointer (some ⟨b, 0, none⟩)) (Rt (s_nilCheck (.pointer (some ⟨b, 0, none⟩)) rfl ⟨_, rfl⟩ rfl (Rt (s_fieldAddr 124 0 0 0 4 rfl fi_124_0 rfl rfl (Rt ?_)))))))))))))))))
 have H1 := H0.move 0 rfl
 obtain ⟨vv2, H3⟩ := St.open_ex H1
 have H4 := St.open_star H3
 obtain ⟨pp5, cc6, gA7, oA8, kA9, eA10, zA11, rfl, hn12, hp13, hx14, hs15, hml, H16⟩ := Im.open_ H4 (i := 1) rfl
 have H17 : St W w (_ :: _ :: _ :: (F.set i emp)) := H16
 refine s_load (.bool true) ag_4 rfl (H17.blk_at (i := 1) rfl) rfl rfl (Rt (s_not true rfl false rfl rfl (Pf (.bool false) (r_nil (g_false rfl (g_skip (g_seq (g_seq (g_region (Mv (.pointer (some ⟨b, 0, none⟩)) ?_))))))))))
 have H18 : St W w (_ :: _ :: (F.set i emp)) := (((H17.move 2 rfl).move 2 rfl).drop 2 rfl)
 have H19 : St W w (SrcA b bs p :: (F.set i emp)) := St.shut_ex (.slice pp5 bs.length cc6) (St.shut_star (ls := [blk b (.cells #[.bool true, .slice pp5 bs.length cc6, .int .i64 ((p : Nat) : Int)] 124 (0, 0)), Im 1 (.slice pp5 bs.length cc6) bs.length (bs.flatMap u8c)]) H18)
 refine rc (s_call [.pointer (some ⟨b, 0, none⟩)] pl_99 rfl rfl (Src_Left b bs p t4 t18   (i := 0) rfl H19) ?_)
 rintro _ w20 ⟨rfl, H21⟩
 by_cases hc22 : (8 : Int) ≤ ((remB bs p).length : Int)
 ·refine rc (s_geq true rfl rfl (dtrue hc22) rfl (r_nil (g_true rfl (g_seq (g_region (Ag (.int .i64 12) (r_nil (Gr [.int .i64 12] Tryz.func78 Tryz.results78 ?_))))))))
  have H23 : St W w20 (_ :: (F.set i emp)) := H21
  exact ⟨vint t23, St.back_same hi H23⟩
 refine rc (s_geq false rfl rfl (dfalse hc22) rfl (r_nil (g_false rfl (g_skip (g_seq (g_seq (g_region (Mv (.pointer (some ⟨b, 0, none⟩)) (Nc (.pointer (some ⟨b, 0, none⟩)) (Fa 2 fi_124_2 rfl ?_))))))))))
 have H24 := H21.move 0 rfl
 obtain ⟨vv25, H26⟩ := St.open_ex H24
 have H27 := St.open_star H26
 obtain ⟨pp28, cc29, gA30, oA31, kA32, eA33, zA34, rfl, hn35, hp36, hx37, hs38, hml, H39⟩ := Im.open_ H27 (i := 1) rfl
 have H40 : St W w20 (_ :: _ :: _ :: (F.set i emp)) := H39
 refine Lo (.int .i64 ((p : Nat) : Int)) ag_3 H40 1 (Ag (.int .i64 ((p : Nat) : Int)) (r_nil (g_block ?_)))
 have H41 : St W w20 (_ :: _ :: (F.set i emp)) := (((H40.move 2 rfl).move 2 rfl).drop 2 rfl)
 have H42 : St W w20 (SrcA b bs p :: (F.set i emp)) := St.shut_ex (.slice pp28 bs.length cc29) (St.shut_star (ls := [blk b (.cells #[.bool true, .slice pp28 bs.length cc29, .int .i64 ((p : Nat) : Int)] 124 (0, 0)), Im 1 (.slice pp28 bs.length cc29) bs.length (bs.flatMap u8c)]) H41)
 have H43 : St W w20 (_ :: (F.set i emp)) := H42
 have hL := remB_len bs p
 refine g_loop_inv (fun (x_ : Nat) => match x_ with | k => [(0, .pointer (some ⟨b, 0, none⟩)), (2, .int .i64 0), (3, .int .i64 ((p + k : Nat) : Int))]) (fun (x_ : Nat) w => match x_ with | k => (p + k ≤ 8 * bs.length) ∧ (∀ j, j < k → (remB bs p).getD j false = false) ∧ St W w (SrcA b bs p :: (F.set i emp))) (fun (x_ : Nat) => match x_ with | k => 8 * bs.length - (p + k)) (0) ?_ ?_ ?_
 ·exact t2
 ·exact ⟨t0, (fun j hj => by omega), H43⟩
 rintro k ρ44 w45 ⟨hk, hz, H46⟩ nx47
 change Ends _ _ (upds ρ44 [(0, .pointer (some ⟨b, 0, none⟩)), (2, .int .i64 0), (3, .int .i64 ((p + k : Nat) : Int))]) w45
 refine g_seq (g_seq (g_region (Mv (.int .i64 ((p + k : Nat) : Int)) (Mv (.pointer (some ⟨b, 0, none⟩)) (Nc (.pointer (some ⟨b, 0, none⟩)) (Fa 1 fi_124_1 rfl ?_))))))
 have H48 := H46.move 0 rfl
 obtain ⟨vv49, H50⟩ := St.open_ex H48
 have H51 := St.open_star H50
 obtain ⟨pp52, cc53, gA54, oA55, kA56, eA57, zA58, rfl, hn59, hp60, hx61, hs62, hml, H63⟩ := Im.open_ H51 (i := 1) rfl
 have H64 : St W w45 (_ :: _ :: _ :: (F.set i emp)) := H63
 refine Lo (.slice pp52 bs.length cc53) ag_27 H64 1 (rc (s_len bs.length rfl ⟨_, un_27⟩ rfl (rc (s_mul (8 * (bs.length : Int)) rfl rfl (wi64 t0) rfl ?_))))
 by_cases hc65 : ((p + k : Nat) : Int) < 8 * (bs.length : Int)
 ·refine rc (s_lss true rfl rfl (dtrue hc65) rfl (r_nil (g_true rfl (g_skip (g_seq (g_block (g_seq (g_region (Mv (.pointer (some ⟨b, 0, none⟩)) (Mv (.int .i64 ((p + k : Nat) : Int)) ?_))))))))))
  have H66 : St W w45 (_ :: _ :: (F.set i emp)) := (((H64.move 2 rfl).move 2 rfl).drop 2 rfl)
  have H67 : St W w45 (SrcA b bs p :: (F.set i emp)) := St.shut_ex (.slice pp52 bs.length cc53) (St.shut_star (ls := [blk b (.cells #[.bool true, .slice pp52 bs.length cc53, .int .i64 ((p : Nat) : Int)] 124 (0, 0)), Im 1 (.slice pp52 bs.length cc53) bs.length (bs.flatMap u8c)]) H66)
  refine rc (s_call [.pointer (some ⟨b, 0, none⟩), .int .i64 ((p + k : Nat) : Int)] pl_100 rfl rfl (Src_bit b bs p t4 t18 (p + k) t0 (i := 0) rfl H67) ?_)
  rintro _ w68 ⟨rfl, H69⟩
  by_cases hc70 : ((bitAt bs (p + k)).toNat : Int) = 1
  ·refine rc (s_eql true rfl rfl (dtrue hc70) rfl (r_nil (g_true rfl (g_seq (g_region (Ag (.int .i64 12) (r_nil (Gr [.int .i64 12] Tryz.func78 Tryz.results78 ?_))))))))
   have H71 : St W w68 (_ :: (F.set i emp)) := H69
   exact ⟨vint t23, St.back_same hi H71⟩
  refine rc (s_eql false rfl rfl (dfalse hc70) rfl (r_nil (g_false rfl (g_skip (g_inBlock (g_region (Mv (.int .i64 ((p + k : Nat) : Int)) (rc (s_add (((p + k : Nat) : Int) + 1) rfl rfl (wi64 t0) rfl (Ag (.int .i64 (((p + k : Nat) : Int) + 1)) (r_nil ?_)))))))))))
  have H72 : St W w68 (_ :: (F.set i emp)) := H69
  have hbit : bitAt bs (p + k) = false := by cases hh : bitAt bs (p + k) with | false => rfl | true => exact absurd (show (((bitAt bs (p + k)).toNat : Nat) : Int) = 1 by rw [hh]; rfl) ‹_›
  exact nx47 (k + 1) _ _ ⟨t0, (fun j hj => (Nat.lt_or_ge j k).elim (hz j) (fun h => by rw [show j = k from by omega, remB_getD t0]; exact hbit)), H72⟩ t9 t2
 refine rc (s_lss false rfl rfl (dfalse hc65) rfl (r_nil (g_false rfl (g_exit t40 (g_seq (g_region (Ag (.int .i64 0) (r_nil (Gr [.int .i64 0] Tryz.func78 Tryz.results78 ?_)))))))))
 have H73 : St W w45 (_ :: _ :: (F.set i emp)) := (((H64.move 2 rfl).move 2 rfl).drop 2 rfl)
 have H74 : St W w45 (SrcA b bs p :: (F.set i emp)) := St.shut_ex (.slice pp52 bs.length cc53) (St.shut_star (ls := [blk b (.cells #[.bool true, .slice pp52 bs.length cc53, .int .i64 ((p : Nat) : Int)] 124 (0, 0)), Im 1 (.slice pp52 bs.length cc53) bs.length (bs.flatMap u8c)]) H73)
 have H75 : St W w45 (_ :: (F.set i emp)) := H74
 exact ⟨vint t23, St.back_same hi H75⟩
set_option maxHeartbeats 4000000 in
set_option maxRecDepth 100000 in
theorem bytes_Equal {W w : World} {F : List Atom} (A B : Atom) (u v : Value) (m n : Nat) (xs ys : List UInt8) (hA : RdA A 1 u m (xs.flatMap u8c)) (hB : RdA B 1 v n (ys.flatMap u8c)) {j k : Nat} (hj : F[j]? = some A) (hk : F[k]? = some B) (H : St W w F) : Calls Tryz.prog 12 #[u, v] w (Ret fun v w' => v = .bool (decide (xs = ys)) ∧ St W w' F) := by
 have hml := (hA _ _ _ j H hj).2
 obtain ⟨pp1, cc2, rfl, hn3⟩ := Rd.shape (hA _ _ _ j H hj).1
 have hml := (hB _ _ _ k H hk).2
 obtain ⟨pp4, cc5, rfl, hn6⟩ := Rd.shape (hB _ _ _ k H hk).1
 refine calls_of_go (n := 10) Tryz.func12 rfl Tryz.ntmps12 rfl ?_
 refine g_seq (g_region (Ag (.bool false) (r_nil (g_seq (g_region (Mv (.slice pp1 m cc2) (rc (s_bytes_str (xs := xs) rfl (by rw [bytesV_flat]; exact (hA _ _ _ (j + 0) H (by exact hj)).1) un_27 un_5 un_9 rfl (Mv (.slice pp4 n cc5) (rc (s_bytes_str (xs := ys) rfl (by rw [bytesV_flat]; exact (hB _ _ _ (k + 0) H (by exact hk)).1) un_27 un_5 un_9 rfl (rc (s_seql (decide ((⟨(xs).toArray⟩ : ByteArray) = ⟨(ys).toArray⟩)) rfl rfl rfl rfl (Ag (.bool (decide ((⟨(xs).toArray⟩ : ByteArray) = ⟨(ys).toArray⟩))) (r_nil (Gr [.bool (decide ((⟨(xs).toArray⟩ : ByteArray) = ⟨(ys).toArray⟩))] Tryz.func12 Tryz.results12 ?_))))))))))))))))
 have H7 : St W w F := H
 exact ⟨congrArg Value.bool lit_bytes, H7⟩
set_option maxHeartbeats 4000000 in
set_option maxRecDepth 100000 in
theorem Src_Text {W w : World} {F : List Atom} (b : Nat) (bs : List UInt8) (p : Nat) (hp : p ≤ 8 * bs.length) (hb : bs.length ≤ 140737488355328) {i : Nat} (hi : F[i]? = some (SrcA b bs p)) (H : St W w F) : Calls Tryz.prog 102 #[.pointer (some ⟨b, 0, none⟩)] w (Ret fun v w' => v = .tuple #[.string (textS (remB bs p)), .int .i64 (textE (remB bs p))] ∧ St W w' (F.set i (SrcA b bs (p + textN (remB bs p))))) := by
 have H0 := H.front hi
 refine calls_of_go (n := 61) Tryz.func102 rfl Tryz.ntmps102 rfl ?_
 refine g_seq (g_region (Ag (.string ByteArray.empty) (Ag (.int .i64 0) (r_nil (g_seq (g_seq (g_region (Mv (.pointer (some ⟨b, 0, none⟩)) (rc (s_peql false un_70 rfl rfl rfl rfl (Mv (.bool false) (Rt (Mw (.pointer (some ⟨b, 0, none⟩)) (Rt (s_nilCheck (.pointer (some ⟨b, 0, none⟩)) rfl ⟨_, rfl⟩ rfl (Rt (s_fieldAddr 124 0 0 0 4 rfl fi_124_0 rfl rfl (Rt ?_))))))))))))))))))
 have H1 := H0.move 0 rfl
 obtain ⟨vv2, H3⟩ := St.open_ex H1
 have H4 := St.open_star H3
 obtain ⟨pp5, cc6, gA7, oA8, kA9, eA10, zA11, rfl, hn12, hp13, hx14, hs15, hml, H16⟩ := Im.open_ H4 (i := 1) rfl
 have H17 : St W w (_ :: _ :: _ :: (F.set i emp)) := H16
 refine s_load (.bool true) ag_4 rfl (H17.blk_at (i := 1) rfl) rfl rfl (Rt (s_not true rfl false rfl rfl (Pf (.bool false) (r_nil (g_false rfl (g_skip (g_seq (g_region (Mv (.pointer (some ⟨b, 0, none⟩)) (Nc (.pointer (some ⟨b, 0, none⟩)) (Fa 2 fi_124_2 rfl (Lo (.int .i64 ((p : Nat) : Int)) ag_3 H17 1 (Ag (.int .i64 ((p : Nat) : Int)) (r_nil (g_seq (g_region (Mv (.pointer (some ⟨b, 0, none⟩)) ?_)))))))))))))))))
 have H18 : St W w (_ :: _ :: (F.set i emp)) := (((H17.move 2 rfl).move 2 rfl).drop 2 rfl)
 have H19 : St W w (SrcA b bs p :: (F.set i emp)) := St.shut_ex (.slice pp5 bs.length cc6) (St.shut_star (ls := [blk b (.cells #[.bool true, .slice pp5 bs.length cc6, .int .i64 ((p : Nat) : Int)] 124 (0, 0)), Im 1 (.slice pp5 bs.length cc6) bs.length (bs.flatMap u8c)]) H18)
 refine rc (s_call [.pointer (some ⟨b, 0, none⟩)] pl_75 rfl rfl (Src_Nat b bs p t4 t18   (i := 0) rfl H19) ?_)
 rintro _ w20 ⟨rfl, H21⟩
 refine Mv (.tuple #[.int .u64 (natU (remB bs p) : Int), .int .i64 (natE (remB bs p))]) (Ex (.int .u64 (natU (remB bs p) : Int)) (Ex (.int .i64 (natE (remB bs p))) (Ag (.int .u64 (natU (remB bs p) : Int)) (Ag (.int .i64 (natE (remB bs p))) (r_nil (g_seq (g_seq (g_region (Mv (.int .i64 (natE (remB bs p))) ?_)))))))))
 by_cases hc22 : natE (remB bs p) = 0
 ·refine rc (s_neq false rfl rfl (ntrue hc22) rfl (r_nil (g_false rfl (g_skip (g_seq (g_seq (g_region (Mv (.int .u64 (natU (remB bs p) : Int)) (Mv (.pointer (some ⟨b, 0, none⟩)) ?_)))))))))
  have hL := remB_len bs p
  have hL2 := remB_len bs (p + natN (remB bs p))
  refine rc (s_call [.pointer (some ⟨b, 0, none⟩)] pl_99 rfl rfl (Src_Left b bs (p + natN (remB bs p)) t4 t18   (i := 0) rfl H21) ?_)
  rintro _ w23 ⟨rfl, H24⟩
  refine rc (s_quo ((((remB bs (p + natN (remB bs p))).length) / 8 : Nat) : Int) rfl rfl t0 t52 rfl (rc (s_conv ((((remB bs (p + natN (remB bs p))).length) / 8 : Nat) : Int) rfl us_3 ik_61 (wu64 t0) rfl ?_)))
  by_cases hc25 : ((((remB bs (p + natN (remB bs p))).length) / 8 : Nat) : Int) < (natU (remB bs p) : Int)
  ·refine rc (s_gtr true rfl rfl (dtrue hc25) rfl (r_nil (g_true rfl (g_seq (g_region (Mv (.pointer (some ⟨b, 0, none⟩)) (Mv (.int .i64 ((p : Nat) : Int)) (rc (s_call [.pointer (some ⟨b, 0, none⟩), .int .i64 ((p : Nat) : Int), .int .i64 10] pl_101 rfl rfl (Src_back_no b bs (p + natN (remB bs p)) (p) 10 t10 (i := 0) rfl H24) ?_)))))))))
   rintro _ w26 ⟨rfl, H27⟩
   refine Ag (.string ByteArray.empty) (Ag (.int .i64 10) (r_nil (Gr [.string ByteArray.empty, .int .i64 10] Tryz.func102 Tryz.results102 ?_)))
   have H28 : St W w26 (_ :: (F.set i emp)) := H27
   have hT : textE (remB bs p) = 10 := textE_10 t11 t0
   have hT0 : ¬ textE (remB bs p) = 0 := by rw [hT]; first | assumption | decide
   exact ⟨by rw [textS_0 hT0, hT]; rfl, by rw [textN_no hT0]; exact St.back hi H28⟩
  refine rc (s_gtr false rfl rfl (dfalse hc25) rfl (r_nil (g_false rfl (g_skip (g_seq (g_region (Mv (.int .u64 (natU (remB bs p) : Int)) (rc (s_make H24 (natU (remB bs p) : Int) 1 1 rfl rfl un_27 in_5 t0 t0 t0 (by exact made_bytes (natU (remB bs p))) rfl ?_))))))))); intro bk29 w30 H31
  have H32 : St W w30 (Row 5 1 (.slice (some ⟨bk29, 0, none⟩) (natU (remB bs p)) (natU (remB bs p))) (natU (remB bs p)) ((List.replicate (natU (remB bs p)) (0 : UInt8)).flatMap u8c) :: SrcA b bs (p + natN (remB bs p)) :: (F.set i emp)) := Row.of_list (xs := (List.replicate (natU (remB bs p)) (0 : UInt8)).flatMap u8c) (n := natU (remB bs p)) H31 (i := 0) rfl t15 (by simp [flat1, u8c_len, blc_len]) (by intro x hx; first | exact one_u8 _ x hx | exact one_bl _ x hx)
  have H33 : St W w30 (Row 5 1 (.slice (some ⟨bk29, 0, none⟩) (natU (remB bs p)) (natU (remB bs p))) (natU (remB bs p)) ((textP (remB bs p) 0).flatMap u8c) :: SrcA b bs (p + natN (remB bs p)) :: (F.set i emp)) := by rw [textP_0]; exact H32
  refine Ag (.slice (some ⟨bk29, 0, none⟩) (natU (remB bs p)) (natU (remB bs p))) (r_nil (g_seq (g_seq (g_region (Mv (.slice (some ⟨bk29, 0, none⟩) (natU (remB bs p)) (natU (remB bs p))) (rc (s_len (natU (remB bs p)) rfl ⟨_, un_27⟩ rfl (Mv (.int .i64 0) (r_nil (g_block ?_))))))))))
  have H34 : St W w30 (_ :: _ :: (F.set i emp)) := H33
  have H35 : St W w30 (_ :: _ :: (F.set i emp)) := ((H34.move 1 rfl).move 1 rfl)
  refine g_loop_inv (fun (x_ : Nat × (Option Addr) × Nat) => match x_ with | (j, pq, cq) => [(0, .pointer (some ⟨b, 0, none⟩)), (2, .string ByteArray.empty), (3, .int .i64 0), (7, .slice pq (natU (remB bs p)) cq), (44, .int .i64 (natU (remB bs p) : Int)), (45, .int .i64 (j : Int))]) (fun (x_ : Nat × (Option Addr) × Nat) w => match x_ with | (j, pq, cq) => (j ≤ natU (remB bs p)) ∧ St W w (Row 5 1 (.slice pq (natU (remB bs p)) cq) (natU (remB bs p)) ((textP (remB bs p) j).flatMap u8c) :: SrcA b bs (p + natN (remB bs p) + 8 * j) :: (F.set i emp))) (fun (x_ : Nat × (Option Addr) × Nat) => match x_ with | (j, pq, cq) => natU (remB bs p) - j) (0, (some ⟨bk29, 0, none⟩), natU (remB bs p)) ?_ ?_ ?_
  ·exact t2
  ·exact ⟨t0, H35⟩
  rintro ⟨j, pq, cq⟩ ρ36 w37 ⟨hj, H38⟩ nx39
  change Ends _ _ (upds ρ36 [(0, .pointer (some ⟨b, 0, none⟩)), (2, .string ByteArray.empty), (3, .int .i64 0), (7, .slice pq (natU (remB bs p)) cq), (44, .int .i64 (natU (remB bs p) : Int)), (45, .int .i64 (j : Int))]) w37
  refine g_seq (g_region ?_)
  by_cases hc40 : (j : Int) < (natU (remB bs p) : Int)
  ·refine rc (s_lss true rfl rfl (dtrue hc40) rfl (r_nil (g_seq (g_true rfl (g_skip (g_seq (g_block (g_seq (g_region (Mv (.int .i64 (j : Int)) (Ag (.int .i64 (j : Int)) (r_nil (g_seq (g_region (Mv (.pointer (some ⟨b, 0, none⟩)) ?_)))))))))))))))
   have hL3 := remB_len bs (p + natN (remB bs p) + 8 * j)
   have hE8 : srcE (remB bs (p + natN (remB bs p) + 8 * j)) 8 = 0 := srcE_0 t0 t0
   have hN8 : srcN (remB bs (p + natN (remB bs p) + 8 * j)) 8 = 8 := srcN_0 hE8
   have hU8 : srcU (remB bs (p + natN (remB bs p) + 8 * j)) 8 < 256 := srcU_lt_pow (k := 8)
   have hB8 : byteT (remB bs p) j = UInt8.ofNat (srcU (remB bs (p + natN (remB bs p) + 8 * j)) 8) := by unfold byteT; rw [srcU_0 hE8, remB_drop, ← Nat.add_assoc]; rfl
   refine rc (s_call [.pointer (some ⟨b, 0, none⟩), .int .i64 8] pl_76 rfl rfl (Src_Bits b bs (p + natN (remB bs p) + 8 * j) t4 t18 8  (i := 1) rfl H38) ?_)
   rintro _ w41 ⟨rfl, H42⟩
   refine Mv (.tuple #[.int .u64 (srcU (remB bs (p + natN (remB bs p) + 8 * j)) 8 : Int), .int .i64 (srcE (remB bs (p + natN (remB bs p) + 8 * j)) 8)]) (Ex (.int .u64 (srcU (remB bs (p + natN (remB bs p) + 8 * j)) 8 : Int)) (Ex (.int .i64 (srcE (remB bs (p + natN (remB bs p) + 8 * j)) 8)) (Ag (.int .u64 (srcU (remB bs (p + natN (remB bs p) + 8 * j)) 8 : Int)) (Ag (.int .i64 (srcE (remB bs (p + natN (remB bs p) + 8 * j)) 8)) (r_nil (g_region (Mv (.slice pq (natU (remB bs p)) cq) (Mv (.int .i64 (j : Int)) (Mv (.int .u64 (srcU (remB bs (p + natN (remB bs p) + 8 * j)) 8 : Int)) (rc (s_conv (srcU (remB bs (p + natN (remB bs p) + 8 * j)) 8 : Int) rfl us_61 ik_5 (wu8 t0) rfl ?_)))))))))))
   obtain ⟨bk43, cur44, hp45, h46, h47, h48, h49, h50, H51⟩ := Row.open2 H42 (i := 0) rfl t0
   refine rc (s_indexAddr bk43 (off := 0) (j : Int) 1 (0 + j * 1) (by exact congrArg (fun z_ => Value.slice z_ (natU (remB bs p)) cq) ((fun (_ : 0 < 1) => hp45) t0)) rfl el_27 t0 rfl rfl ?_)
   have hx54 := row_set1 (f := u8c) (L := textP (remB bs p) j) (cur := cur44) u8c_len (by rw [(textP_len (remB bs p) j)]; exact h49) (show (textP (remB bs p) j).length * 1 ≤ cur44.size by rw [(textP_len (remB bs p) j), h48]; exact Nat.mul_le_mul_right 1 h46) (j := j) (by have hh := (textP_len (remB bs p) j); omega) 0 (.int .u8 (srcU (remB bs (p + natN (remB bs p) + 8 * j)) 8 : Int)) (byteT (remB bs p) j) ((by rw [hB8]; exact u8_set hU8))
   refine rc (s_store H51 0 (.int .u8 (srcU (remB bs (p + natN (remB bs p) + 8 * j)) 8 : Int)) rfl rfl rfl sz_5 rfl (by have hh := (textP_len (remB bs p) j); have hk := (show (textP (remB bs p) j).length * 1 ≤ cur44.size by rw [(textP_len (remB bs p) j), h48]; exact Nat.mul_le_mul_right 1 h46); omega) rfl (cs' := (cur44.setIfInBounds (0 + j * 1) (.int .u8 (srcU (remB bs (p + natN (remB bs p) + 8 * j)) 8 : Int)))) rfl (fun w52 H53 => r_nil (g_inBlock (g_region (rc (s_add ((j : Int) + 1) rfl rfl (wi64 t0) rfl (Mv (.int .i64 ((j : Int) + 1)) (r_nil ?_))))))))
   have H55 := Row.shut2 (p := pq) (n := natU (remB bs p)) (c := cq) (size := 1) (xs := (textP (remB bs p) (j + 1)).flatMap u8c) H53 (i := 0) rfl hp45 h46 h47 (show ((cur44.setIfInBounds (0 + j * 1) (.int .u8 (srcU (remB bs (p + natN (remB bs p) + 8 * j)) 8 : Int)))).size = cq * 1 from by rw [Array.size_setIfInBounds]; exact h48) (by have hh : ((cur44.setIfInBounds (0 + j * 1) (.int .u8 (srcU (remB bs (p + natN (remB bs p) + 8 * j)) 8 : Int))).toList.drop 0).take (((textP (remB bs p) j).set j (byteT (remB bs p) j)).length * 1) = ((textP (remB bs p) j).set j (byteT (remB bs p) j)).flatMap u8c := hx54; have hk : ((textP (remB bs p) j).set j (byteT (remB bs p) j)).length = natU (remB bs p) := (show ((textP (remB bs p) j).set j (byteT (remB bs p) j)).length = natU (remB bs p) from by first | (rw [List.length_set]; exact (textP_len (remB bs p) j)) | rw [List.length_set]); rw [hk] at hh; rw [(textP_succ t0).symm] at hh; exact hh) (one_u8 _)
   have H56 : St W w52 (Row 5 1 (.slice pq (natU (remB bs p)) cq) (natU (remB bs p)) ((textP (remB bs p) (j + 1)).flatMap u8c) :: SrcA b bs (p + natN (remB bs p) + 8 * (j + 1)) :: (F.set i emp)) := by rw [show p + natN (remB bs p) + 8 * (j + 1) = p + natN (remB bs p) + 8 * j + srcN (remB bs (p + natN (remB bs p) + 8 * j)) 8 from by rw [hN8]; omega]; exact H55
   have H57 : St W w52 (_ :: _ :: (F.set i emp)) := ((H56.move 1 rfl).move 1 rfl)
   exact nx39 (j + 1, pq, cq) _ _ ⟨t0, H57⟩ t9 t2
  refine rc (s_lss false rfl rfl (dfalse hc40) rfl (r_nil (g_seq (g_false rfl (g_exit t40 (g_seq (g_region (Mv (.slice pq (natU (remB bs p)) cq) (rc (s_bytes_str (xs := (textP (remB bs p) j)) rfl (by rw [bytesV_flat]; exact (Row.rd H38 (i := 0) rfl)) un_27 un_5 un_9 rfl (Ag (.string (⟨((textP (remB bs p) j)).toArray⟩)) (Ag (.int .i64 0) (r_nil (Gr [.string (⟨((textP (remB bs p) j)).toArray⟩), .int .i64 0] Tryz.func102 Tryz.results102 ?_))))))))))))))
  have H58 : St W w37 (_ :: (F.set i emp)) := ((H38.move 1 rfl).drop 1 rfl)
  have hT : textE (remB bs p) = 0 := textE_0 t11 t0
  obtain rfl : j = natU (remB bs p) := by omega
  exact ⟨by rw [hT, textP_all hT]; rfl, by rw [textN_0 hT, ← Nat.add_assoc]; exact St.back hi H58⟩
 refine rc (s_neq true rfl rfl (nfalse hc22) rfl (r_nil (g_true rfl (g_seq (g_region (Mv (.int .i64 (natE (remB bs p))) (Ag (.string ByteArray.empty) (Ag (.int .i64 (natE (remB bs p))) (r_nil (Gr [.string ByteArray.empty, .int .i64 (natE (remB bs p))] Tryz.func102 Tryz.results102 ?_))))))))))
 have H59 : St W w20 (_ :: (F.set i emp)) := H21
 have hT : textE (remB bs p) = natE (remB bs p) := textE_nat t11
 have hT0 : ¬ textE (remB bs p) = 0 := by rw [hT]; first | assumption | decide
 exact ⟨by rw [textS_0 hT0, hT]; rfl, by rw [textN_no hT0]; have hx := H59; rw [natN_no t11] at hx; exact St.back hi hx⟩
set_option maxHeartbeats 4000000 in
set_option maxRecDepth 100000 in
theorem ref01_value {W w : World} {F : List Atom} (v0 : Value) (n : Nat) (R : List Bool) (hR : R.length = n) (hn : n ≤ 64) {j : Nat} (hj : F[j]? = some (Im 1 v0 n (R.flatMap blc))) (H : St W w F) : Calls Tryz.prog 104 #[v0] w (Ret fun v w' => v = .int .u64 (valOf R : Int) ∧ St W w' F) := by
 subst hR
 obtain ⟨pA1, cA2, gA3, oA4, kA5, eA6, zA7, rfl, hn8, hp9, hx10, hs11, hml, H12⟩ := Im.open_ H hj
 refine calls_of_go (n := 20) Tryz.func104 rfl Tryz.ntmps104 rfl ?_
 refine g_seq (g_region (Ag (.int .u64 0) (r_nil (g_seq (g_region (Ag (.int .u64 0) (r_nil (g_seq (g_seq (g_region (Ag (.int .i64 0) (r_nil (g_block ?_)))))))))))))
 refine g_loop_inv (fun (x_ : Nat) => match x_ with | j => [(0, .slice pA1 R.length cA2), (2, .int .u64 0), (3, .int .u64 (valOf (R.take j) : Int)), (4, .int .i64 (j : Int))]) (fun (x_ : Nat) w => match x_ with | j => (j ≤ R.length) ∧ St W w (imi (0 < R.length) gA3 (.cells kA5 eA6 zA7) :: F)) (fun (x_ : Nat) => match x_ with | j => R.length - j) (0) ?_ ?_ ?_
 ·exact t2
 ·exact ⟨t0, H12⟩
 rintro j ρ13 w14 ⟨hj, H15⟩ nx16
 change Ends _ _ (upds ρ13 [(0, .slice pA1 R.length cA2), (2, .int .u64 0), (3, .int .u64 (valOf (R.take j) : Int)), (4, .int .i64 (j : Int))]) w14
 refine g_seq (g_seq (g_region (Mv (.int .i64 (j : Int)) (Mv (.slice pA1 R.length cA2) (rc (s_len R.length rfl ⟨_, un_39⟩ rfl ?_))))))
 by_cases hc17 : (j : Int) < (R.length : Int)
 ·refine rc (s_lss true rfl rfl (dtrue hc17) rfl (r_nil (g_true rfl (g_skip (g_seq (g_block (g_seq (g_region (Mv (.int .u64 (valOf (R.take j) : Int)) ?_)))))))))
  have hv := val_take_lt63 R (j := j) t0
  refine rc (s_mul ((valOf (R.take j) * 2 : Nat) : Int) rfl rfl ((wu64 t0).trans t0) rfl (Ag (.int .u64 ((valOf (R.take j) * 2 : Nat) : Int)) (r_nil (g_seq (g_region (Mv (.slice pA1 R.length cA2) (Mv (.int .i64 (j : Int)) (rc (s_indexAddr gA3 (off := oA4) (j : Int) 1 (oA4 + j * 1) (by exact congrArg (fun z_ => Value.slice z_ R.length cA2) (hp9 t0)) rfl el_39 t0 rfl rfl (rc (s_load (.bool (R.getD j false)) ag_4 rfl (H15.imi_at (i := 0) rfl t0) (elem_cell (L := R) (i := j) blc_len (hx10 t0) t0 false 0 t10 _ rfl) rfl (r_nil ?_))))))))))))
  by_cases hb18 : (R.getD j false) = true
  ·exact g_true (congrArg Value.bool hb18) (g_region (Mv (.int .u64 ((valOf (R.take j) * 2 : Nat) : Int)) (rc (s_add ((valOf (R.take j) * 2 + 1 : Nat) : Int) rfl rfl ((wu64 t0).trans t0) rfl (Ag (.int .u64 ((valOf (R.take j) * 2 + 1 : Nat) : Int)) (r_nil (g_inBlock (g_region (Mv (.int .i64 (j : Int)) (rc (s_add ((j : Int) + 1) rfl rfl (wi64 t0) rfl (Ag (.int .i64 ((j : Int) + 1)) (r_nil (nx16 (j + 1) _ _ ⟨t0, H15⟩ t9 ⟨by first | rfl | exact vint t0, by first | rfl | exact vint t0, vint (by rw [valOf_take t0, hb18]; first | rfl | (simp only [Bool.toNat_true, Bool.toNat_false]; omega)), by first | rfl | exact vint t0, trivial⟩))))))))))))))
  have hb18 := eq_false_of_ne_true hb18
  exact g_false (congrArg Value.bool hb18) (g_skip (g_inBlock (g_region (Mv (.int .i64 (j : Int)) (rc (s_add ((j : Int) + 1) rfl rfl (wi64 t0) rfl (Ag (.int .i64 ((j : Int) + 1)) (r_nil (nx16 (j + 1) _ _ ⟨t0, H15⟩ t9 ⟨by first | rfl | exact vint t0, by first | rfl | exact vint t0, vint (by rw [valOf_take t0, hb18]; first | rfl | (simp only [Bool.toNat_true, Bool.toNat_false]; omega)), by first | rfl | exact vint t0, trivial⟩)))))))))
 refine rc (s_lss false rfl rfl (dfalse hc17) rfl (r_nil (g_false rfl (g_exit t40 (g_seq (g_region (Mv (.int .u64 (valOf (R.take j) : Int)) (Ag (.int .u64 (valOf (R.take j) : Int)) (r_nil (Gr [.int .u64 (valOf (R.take j) : Int)] Tryz.func104 Tryz.results104 ?_))))))))))
 have H19 : St W w14 F := (H15.drop 0 rfl)
 obtain rfl : j = R.length := by omega
 exact ⟨vint (by rw [List.take_length]), H19⟩
/-- Bits that are taken, of the reference. -/
def RSrc (b : Nat) (R : List Bool) : Atom := ex fun v : Value => star [blk b (.cells #[v] 129 (0, 0)), Im 1 v R.length (R.flatMap blc)]
set_option maxHeartbeats 4000000 in
set_option maxRecDepth 100000 in
theorem RSrc_Bits {W w : World} {F : List Atom} (b : Nat) (R : List Bool) (n : Int) {i : Nat} (hi : F[i]? = some (RSrc b R)) (H : St W w F) : Calls Tryz.prog 81 #[.pointer (some ⟨b, 0, none⟩), .int .i64 n] w (Ret fun v w' => v = .tuple #[.int .u64 (srcU R n : Int), .int .i64 (srcE R n)] ∧ St W w' (F.set i (RSrc b (R.drop (srcN R n))))) := by
 have H0 := H.front hi
 refine calls_of_go (n := 37) Tryz.func81 rfl Tryz.ntmps81 rfl ?_
 refine g_seq (g_region (Ag (.int .u64 0) (Ag (.int .i64 0) (r_nil (g_seq (g_seq (g_region (Mv (.int .i64 n) ?_))))))))
 by_cases hc1 : n < 0
 ·refine rc (s_lss true rfl rfl (dtrue hc1) rfl (Mv (.bool true) (Rp (Rp (Pt (.bool true) (r_nil (g_true rfl (g_seq (g_region (Ag (.int .u64 0) (Ag (.int .i64 1) (r_nil (Gr [.int .u64 0, .int .i64 1] Tryz.func81 Tryz.results81 ?_)))))))))))))
  have H2 : St W w (_ :: (F.set i emp)) := H0
  have hE : srcE R n = 1 := by first | exact srcE_1 t0 | exact srcE_10 t0 t0
  have hE0 : ¬ srcE R n = 0 := by rw [hE]; decide
  exact ⟨by rw [srcU_no hE0, hE]; rfl, by rw [srcN_no hE0, List.drop_zero]; exact St.back hi H2⟩
 refine rc (s_lss false rfl rfl (dfalse hc1) rfl (Mv (.bool false) (Rt (Mw (.int .i64 n) (Rt ?_)))))
 by_cases hc3 : (64 : Int) < n
 ·refine s_gtr true rfl rfl (dtrue hc3) rfl (Pf (.bool true) (r_nil (g_true rfl (g_seq (g_region (Ag (.int .u64 0) (Ag (.int .i64 1) (r_nil (Gr [.int .u64 0, .int .i64 1] Tryz.func81 Tryz.results81 ?_)))))))))
  have H4 : St W w (_ :: (F.set i emp)) := H0
  have hE : srcE R n = 1 := by first | exact srcE_1 t0 | exact srcE_10 t0 t0
  have hE0 : ¬ srcE R n = 0 := by rw [hE]; decide
  exact ⟨by rw [srcU_no hE0, hE]; rfl, by rw [srcN_no hE0, List.drop_zero]; exact St.back hi H4⟩
 refine s_gtr false rfl rfl (dfalse hc3) rfl (Pf (.bool false) (r_nil (g_false rfl (g_skip (g_seq (g_seq (g_region (Mv (.int .i64 n) (Mv (.pointer (some ⟨b, 0, none⟩)) (Nc (.pointer (some ⟨b, 0, none⟩)) (Fa 0 fi_129_0 rfl ?_)))))))))))
 have H5 := H0.move 0 rfl
 obtain ⟨vv6, H7⟩ := St.open_ex H5
 have H8 := St.open_star H7
 obtain ⟨pp9, cc10, gA11, oA12, kA13, eA14, zA15, rfl, hn16, hp17, hx18, hs19, hml, H20⟩ := Im.open_ H8 (i := 1) rfl
 have H21 : St W w (_ :: _ :: _ :: (F.set i emp)) := H20
 refine Lo (.slice pp9 R.length cc10) ag_39 H21 1 (rc (s_len R.length rfl ⟨_, un_39⟩ rfl ?_))
 by_cases hc22 : (R.length : Int) < n
 ·refine rc (s_gtr true rfl rfl (dtrue hc22) rfl (r_nil (g_true rfl (g_seq (g_region (Ag (.int .u64 0) (Ag (.int .i64 10) (r_nil (Gr [.int .u64 0, .int .i64 10] Tryz.func81 Tryz.results81 ?_)))))))))
  have H23 : St W w (_ :: _ :: (F.set i emp)) := (((H21.move 2 rfl).move 2 rfl).drop 2 rfl)
  have H24 : St W w (RSrc b R :: (F.set i emp)) := St.shut_ex (.slice pp9 R.length cc10) (St.shut_star (ls := [blk b (.cells #[.slice pp9 R.length cc10] 129 (0, 0)), Im 1 (.slice pp9 R.length cc10) R.length (R.flatMap blc)]) H23)
  have H25 : St W w (_ :: (F.set i emp)) := H24
  have hE : srcE R n = 10 := by first | exact srcE_1 t0 | exact srcE_10 t0 t0
  have hE0 : ¬ srcE R n = 0 := by rw [hE]; decide
  exact ⟨by rw [srcU_no hE0, hE]; rfl, by rw [srcN_no hE0, List.drop_zero]; exact St.back hi H25⟩
 refine rc (s_gtr false rfl rfl (dfalse hc22) rfl (r_nil (g_false rfl (g_skip (g_seq (g_region (Mv (.pointer (some ⟨b, 0, none⟩)) (Nc (.pointer (some ⟨b, 0, none⟩)) (Fa 0 fi_129_0 rfl (Lo (.slice pp9 R.length cc10) ag_39 H21 1 (Mv (.int .i64 n) ?_)))))))))))
 have hc26 := Im.cap H21 (i := 2) rfl
 refine rc (s_slice_h pp9 n 1 (.slice pp9 n.toNat cc10) rfl rfl el_39 t0 t38 rfl ?_)
 have H27 : St W w (Im 1 (.slice pp9 n.toNat cc10) n.toNat ((R.take n.toNat).flatMap blc) :: imi (0 < R.length) gA11 (.cells kA13 eA14 zA15) :: blk b (.cells #[.slice pp9 R.length cc10] 129 (0, 0)) :: Im 1 (.slice pp9 R.length cc10) R.length (R.flatMap blc) :: (F.set i emp)) := Im.cut_h blc_len n.toNat H21 (i := 2) rfl t0
 refine rc (s_call [.slice pp9 n.toNat cc10] pl_104 rfl rfl (ref01_value _ _ (R.take n.toNat) t45 t0 (j := 0) rfl H27) ?_)
 rintro _ w28 ⟨rfl, H29⟩
 refine Ag (.int .u64 (valOf (R.take n.toNat) : Int)) (r_nil (g_seq (g_region (Mv (.pointer (some ⟨b, 0, none⟩)) (Mv (.pointer (some ⟨b, 0, none⟩)) (Nc (.pointer (some ⟨b, 0, none⟩)) (Fa 0 fi_129_0 rfl (Lo (.slice pp9 R.length cc10) ag_39 H29 2 (Mv (.int .i64 n) ?_)))))))))
 have hc30 := Im.cap H29 (i := 3) rfl
 refine rc (s_slice_l pp9 n 1 (.slice (cutAt pp9 n.toNat cc10 1) (R.length - n.toNat) (cc10 - n.toNat)) rfl rfl el_39 t0 t38 rfl ?_)
 have H31 : St W w28 (Im 1 (.slice (cutAt pp9 n.toNat cc10 1) (R.length - n.toNat) (cc10 - n.toNat)) (R.length - n.toNat) ((R.drop n.toNat).flatMap blc) :: Im 1 (.slice pp9 n.toNat cc10) n.toNat ((R.take n.toNat).flatMap blc) :: imi (0 < R.length) gA11 (.cells kA13 eA14 zA15) :: blk b (.cells #[.slice pp9 R.length cc10] 129 (0, 0)) :: Im 1 (.slice pp9 R.length cc10) R.length (R.flatMap blc) :: (F.set i emp)) := Im.cut_l blc_len n.toNat H29 (i := 3) rfl t0
 refine Nc (.pointer (some ⟨b, 0, none⟩)) (Fa 0 fi_129_0 rfl (rc (s_store H31 3 (.slice (cutAt pp9 n.toNat cc10 1) (R.length - n.toNat) (cc10 - n.toNat)) rfl rfl rfl sz_39 rfl (nbl rfl) rfl (cs' := #[.slice (cutAt pp9 n.toNat cc10 1) (R.length - n.toNat) (cc10 - n.toNat)]) rfl (fun w32 H33 => r_nil (g_seq (g_region (Mv (.int .u64 (valOf (R.take n.toNat) : Int)) (Ag (.int .u64 (valOf (R.take n.toNat) : Int)) (Ag (.int .i64 0) (r_nil (Gr [.int .u64 (valOf (R.take n.toNat) : Int), .int .i64 0] Tryz.func81 Tryz.results81 ?_)))))))))))
 have H34 : St W w32 (_ :: _ :: _ :: _ :: (F.set i emp)) := (((((H33.move 4 rfl).move 2 rfl).move 2 rfl).move 4 rfl).drop 4 rfl)
 have H35 : St W w32 (blk b (.cells #[.slice (cutAt pp9 n.toNat cc10 1) (R.length - n.toNat) (cc10 - n.toNat)] 129 (0, 0)) :: Im 1 (.slice (cutAt pp9 n.toNat cc10 1) (R.length - n.toNat) (cc10 - n.toNat)) ((R.drop n.toNat).length) ((R.drop n.toNat).flatMap blc) :: Im 1 (.slice pp9 n.toNat cc10) n.toNat ((R.take n.toNat).flatMap blc) :: Im 1 (.slice pp9 R.length cc10) R.length (R.flatMap blc) :: (F.set i emp)) := by rw [show (R.drop n.toNat).length = R.length - n.toNat from by simp only [List.length_drop, List.length_take]; (try omega)]; exact H34
 have H36 : St W w32 (RSrc b (R.drop n.toNat) :: Im 1 (.slice pp9 n.toNat cc10) n.toNat ((R.take n.toNat).flatMap blc) :: Im 1 (.slice pp9 R.length cc10) R.length (R.flatMap blc) :: (F.set i emp)) := St.shut_ex (.slice (cutAt pp9 n.toNat cc10 1) (R.length - n.toNat) (cc10 - n.toNat)) (St.shut_star (ls := [blk b (.cells #[.slice (cutAt pp9 n.toNat cc10 1) (R.length - n.toNat) (cc10 - n.toNat)] 129 (0, 0)), Im 1 (.slice (cutAt pp9 n.toNat cc10 1) (R.length - n.toNat) (cc10 - n.toNat)) ((R.drop n.toNat).length) ((R.drop n.toNat).flatMap blc)]) H35)
 have H37 : St W w32 (_ :: (F.set i emp)) := ((H36.drop 1 rfl).drop 1 rfl)
 have hE := srcE_0 (R := R) (n := n) t0 t0
 exact ⟨by rw [hE, srcU_0 hE]; rfl, by rw [srcN_0 hE]; exact St.back hi H37⟩
set_option maxHeartbeats 4000000 in
set_option maxRecDepth 100000 in
theorem RSrc_Nat {W w : World} {F : List Atom} (b : Nat) (R : List Bool) {i : Nat} (hi : F[i]? = some (RSrc b R)) (H : St W w F) : Calls Tryz.prog 80 #[.pointer (some ⟨b, 0, none⟩)] w (Ret fun v w' => v = .tuple #[.int .u64 (natU R : Int), .int .i64 (natE R)] ∧ St W w' (F.set i (RSrc b (R.drop (natN R))))) := by
 have H0 := H.front hi
 refine calls_of_go (n := 75) Tryz.func80 rfl Tryz.ntmps80 rfl ?_
 refine g_seq (g_region (Ag (.int .u64 0) (Ag (.int .i64 0) (r_nil (g_seq (g_region (Ag (.int .i64 0) (r_nil (g_seq (g_block ?_))))))))))
 have H1 : St W w (_ :: (F.set i emp)) := H0
 refine g_loop_inv (fun (x_ : Nat) => match x_ with | k => [(0, .pointer (some ⟨b, 0, none⟩)), (2, .int .u64 0), (3, .int .i64 0), (4, .int .i64 (k : Int))]) (fun (x_ : Nat) w => match x_ with | k => (k ≤ 65) ∧ (k ≤ R.length) ∧ (∀ j, j < k → R.getD j false = false) ∧ St W w (RSrc b R :: (F.set i emp))) (fun (x_ : Nat) => match x_ with | k => 65 - k) (0) ?_ ?_ ?_
 ·exact t2
 ·exact ⟨t0, t0, (fun j hj => by omega), H1⟩
 rintro k ρ2 w3 ⟨hk, hkr, hz, H4⟩ nx5
 change Ends _ _ (upds ρ2 [(0, .pointer (some ⟨b, 0, none⟩)), (2, .int .u64 0), (3, .int .i64 0), (4, .int .i64 (k : Int))]) w3
 refine g_seq (g_seq (g_region (Mv (.int .i64 (k : Int)) (Mv (.pointer (some ⟨b, 0, none⟩)) (Nc (.pointer (some ⟨b, 0, none⟩)) (Fa 0 fi_129_0 rfl ?_))))))
 have H6 := H4.move 0 rfl
 obtain ⟨vv7, H8⟩ := St.open_ex H6
 have H9 := St.open_star H8
 obtain ⟨pp10, cc11, gA12, oA13, kA14, eA15, zA16, rfl, hn17, hp18, hx19, hs20, hml, H21⟩ := Im.open_ H9 (i := 1) rfl
 have H22 : St W w3 (_ :: _ :: _ :: (F.set i emp)) := H21
 refine Lo (.slice pp10 R.length cc11) ag_39 H22 1 (rc (s_len R.length rfl ⟨_, un_39⟩ rfl ?_))
 by_cases hc23 : (k : Int) < (R.length : Int)
 ·refine rc (s_lss true rfl rfl (dtrue hc23) rfl (Mv (.bool true) (Rt (Mw (.int .i64 (k : Int)) (Rt ?_)))))
  by_cases hc24 : (k : Int) < 65
  ·refine s_lss true rfl rfl (dtrue hc24) rfl (Pt (.bool true) (Mv (.bool true) (Rt (Mw (.pointer (some ⟨b, 0, none⟩)) (Rt (s_nilCheck (.pointer (some ⟨b, 0, none⟩)) rfl ⟨_, rfl⟩ rfl (Rt (s_fieldAddr 129 0 0 0 39 rfl fi_129_0 rfl rfl (Rt (s_load (.slice pp10 R.length cc11) ag_39 rfl (H22.blk_at (i := 1) rfl) rfl rfl (Rt (Mw (.int .i64 (k : Int)) (Rt (s_indexAddr gA12 (off := oA13) (k : Int) 1 (oA13 + k * 1) (by exact congrArg (fun z_ => Value.slice z_ R.length cc11) (hp18 t0)) rfl el_39 t0 rfl rfl (Rt (s_load (.bool (R.getD k false)) ag_4 rfl (H22.imi_at (i := 0) rfl t0) (elem_cell (L := R) (i := k) blc_len (hx19 t0) t0 false 0 t10 _ rfl) rfl (Rt (s_not (R.getD k false) rfl (!(R.getD k false)) rfl rfl (Pt (.bool (!(R.getD k false))) (r_nil ?_))))))))))))))))))))
   by_cases hb25 : (!(R.getD k false)) = true
   ·refine g_true (congrArg Value.bool hb25) (g_skip (g_block (g_region (Mv (.int .i64 (k : Int)) (rc (s_add ((k : Int) + 1) rfl rfl (wi64 t0) rfl (Ag (.int .i64 ((k : Int) + 1)) (r_nil (g_inBlock ?_)))))))))
    have H26 : St W w3 (_ :: _ :: (F.set i emp)) := (((H22.move 2 rfl).move 2 rfl).drop 2 rfl)
    have H27 : St W w3 (RSrc b R :: (F.set i emp)) := St.shut_ex (.slice pp10 R.length cc11) (St.shut_star (ls := [blk b (.cells #[.slice pp10 R.length cc11] 129 (0, 0)), Im 1 (.slice pp10 R.length cc11) R.length (R.flatMap blc)]) H26)
    have H28 : St W w3 (_ :: (F.set i emp)) := H27
    exact nx5 (k + 1) _ _ ⟨t0, t0, (fun j hj => (Nat.lt_or_ge j k).elim (hz j) (fun h => by rw [show j = k from by omega]; simpa using hb25)), H28⟩ t9 t2
   have hb25 := eq_false_of_ne_true hb25
   refine g_false (congrArg Value.bool hb25) (g_exit t40 (g_seq (g_seq (g_region (Mv (.int .i64 (k : Int)) ?_)))))
   have hzz : zeros R = k := zeros_is hk hkr hz (by first | (left; omega) | (right; left; omega) | (right; right; simpa using hb25))
   clear hz
   refine rc (s_eql false rfl rfl (dfalse t0) rfl (r_nil (g_false rfl (g_skip (g_seq (g_seq (g_region (Mv (.int .i64 (k : Int)) (rc (s_mul ((2 * k : Nat) : Int) rfl rfl ((wi64 t0).trans t0) rfl (rc (s_add (((2 * k : Nat) : Int) + 1) rfl rfl (wi64 t0) rfl (Mv (.pointer (some ⟨b, 0, none⟩)) (Nc (.pointer (some ⟨b, 0, none⟩)) (Fa 0 fi_129_0 rfl (Lo (.slice pp10 R.length cc11) ag_39 H22 1 (rc (s_len R.length rfl ⟨_, un_39⟩ rfl ?_))))))))))))))))))
   by_cases hc29 : (R.length : Int) < ((2 * k : Nat) : Int) + 1
   ·refine rc (s_gtr true rfl rfl (dtrue hc29) rfl (r_nil (g_true rfl (g_seq (g_region (Ag (.int .u64 0) (Ag (.int .i64 10) (r_nil (Gr [.int .u64 0, .int .i64 10] Tryz.func80 Tryz.results80 ?_)))))))))
    have H30 : St W w3 (_ :: _ :: (F.set i emp)) := (((H22.move 2 rfl).move 2 rfl).drop 2 rfl)
    have H31 : St W w3 (RSrc b R :: (F.set i emp)) := St.shut_ex (.slice pp10 R.length cc11) (St.shut_star (ls := [blk b (.cells #[.slice pp10 R.length cc11] 129 (0, 0)), Im 1 (.slice pp10 R.length cc11) R.length (R.flatMap blc)]) H30)
    have H32 : St W w3 (_ :: (F.set i emp)) := H31
    have hE : natE R = 10 := natE_10 t0 t0
    have hE0 : ¬ natE R = 0 := by rw [hE]; decide
    exact ⟨by rw [natU_no hE0, hE]; rfl, by rw [natN_no hE0, List.drop_zero]; exact St.back hi H32⟩
   refine rc (s_gtr false rfl rfl (dfalse hc29) rfl (r_nil (g_false rfl (g_skip (g_seq (g_region (Mv (.pointer (some ⟨b, 0, none⟩)) (Nc (.pointer (some ⟨b, 0, none⟩)) (Fa 0 fi_129_0 rfl (Lo (.slice pp10 R.length cc11) ag_39 H22 1 (Mv (.int .i64 (k : Int)) (rc (s_add ((k : Int) + 1) rfl rfl (wi64 t0) rfl (Mv (.int .i64 (k : Int)) (rc (s_mul ((2 * k : Nat) : Int) rfl rfl ((wi64 t0).trans t0) rfl (rc (s_add (((2 * k : Nat) : Int) + 1) rfl rfl (wi64 t0) rfl ?_))))))))))))))))))
   have hc33 := Im.cap H22 (i := 2) rfl
   refine rc (s_slice pp10 ((k : Int) + 1) (((2 * k : Nat) : Int) + 1) 1 (.slice (cutAt pp10 (k + 1) cc11 1) ((2 * k + 1) - (k + 1)) (cc11 - (k + 1))) rfl rfl rfl el_39 t0 t38 rfl ?_)
   have H34 : St W w3 (Im 1 (.slice (cutAt pp10 (k + 1) cc11 1) ((2 * k + 1) - (k + 1)) (cc11 - (k + 1))) ((2 * k + 1) - (k + 1)) (((R.drop (k + 1)).take ((2 * k + 1) - (k + 1))).flatMap blc) :: imi (0 < R.length) gA12 (.cells kA14 eA15 zA16) :: blk b (.cells #[.slice pp10 R.length cc11] 129 (0, 0)) :: Im 1 (.slice pp10 R.length cc11) R.length (R.flatMap blc) :: (F.set i emp)) := Im.cut blc_len (k + 1) (2 * k + 1) H22 (i := 2) rfl t0 t0
   refine rc (s_call [.slice (cutAt pp10 (k + 1) cc11 1) ((2 * k + 1) - (k + 1)) (cc11 - (k + 1))] pl_104 rfl rfl (ref01_value _ _ ((R.drop (k + 1)).take ((2 * k + 1) - (k + 1))) t45 t0 (j := 0) rfl H34) ?_)
   rintro _ w35 ⟨rfl, H36⟩
   refine Ag (.int .u64 (valOf ((R.drop (k + 1)).take ((2 * k + 1) - (k + 1))) : Int)) (r_nil (g_seq (g_seq (g_region ?_))))
   have hlow : valOf ((R.drop (k + 1)).take (2 * k + 1 - (k + 1))) = valOf ((R.drop (zeros R + 1)).take (zeros R)) := by rw [hzz]; congr 2; omega
   have hlt : valOf ((R.drop (k + 1)).take (2 * k + 1 - (k + 1))) < 2 ^ k := by rw [hlow, hzz]; exact valOf_take_lt _ _
   refine Mv (.int .i64 (k : Int)) ?_
   by_cases hc37 : (k : Int) = 64
   ·refine rc (s_eql true rfl rfl (dtrue hc37) rfl (Mv (.bool true) (Rt (Mw (.int .u64 (valOf ((R.drop (k + 1)).take ((2 * k + 1) - (k + 1))) : Int)) (Rt ?_)))))
    by_cases hc38 : (0 : Int) < (valOf ((R.drop (k + 1)).take ((2 * k + 1) - (k + 1))) : Int)
    ·refine s_gtr true rfl rfl (dtrue hc38) rfl (Pt (.bool true) (r_nil (g_true rfl (g_seq (g_region (Ag (.int .u64 0) (Ag (.int .i64 11) (r_nil (Gr [.int .u64 0, .int .i64 11] Tryz.func80 Tryz.results80 ?_)))))))))
     have H39 : St W w35 (_ :: _ :: _ :: (F.set i emp)) := (((H36.move 3 rfl).move 3 rfl).drop 3 rfl)
     have H40 : St W w35 (RSrc b R :: Im 1 (.slice (cutAt pp10 (k + 1) cc11 1) ((2 * k + 1) - (k + 1)) (cc11 - (k + 1))) ((2 * k + 1) - (k + 1)) (((R.drop (k + 1)).take ((2 * k + 1) - (k + 1))).flatMap blc) :: (F.set i emp)) := St.shut_ex (.slice pp10 R.length cc11) (St.shut_star (ls := [blk b (.cells #[.slice pp10 R.length cc11] 129 (0, 0)), Im 1 (.slice pp10 R.length cc11) R.length (R.flatMap blc)]) H39)
     have H41 : St W w35 (_ :: (F.set i emp)) := (H40.drop 1 rfl)
     have hE : natE R = 11 := by first | exact natE_65 t0 | exact natE_11 t0 t0 t49
     have hE0 : ¬ natE R = 0 := by rw [hE]; decide
     exact ⟨by rw [natU_no hE0, hE]; rfl, by rw [natN_no hE0, List.drop_zero]; exact St.back hi H41⟩
    refine s_gtr false rfl rfl (dfalse hc38) rfl (Pt (.bool false) (r_nil (g_false rfl (g_skip (g_seq (g_region (Mv (.pointer (some ⟨b, 0, none⟩)) (Mv (.pointer (some ⟨b, 0, none⟩)) (Nc (.pointer (some ⟨b, 0, none⟩)) (Fa 0 fi_129_0 rfl (Lo (.slice pp10 R.length cc11) ag_39 H36 2 (Mv (.int .i64 (k : Int)) (rc (s_mul ((2 * k : Nat) : Int) rfl rfl ((wi64 t0).trans t0) rfl (rc (s_add (((2 * k : Nat) : Int) + 1) rfl rfl (wi64 t0) rfl ?_))))))))))))))))
    have hc42 := Im.cap H36 (i := 3) rfl
    refine rc (s_slice_l pp10 (((2 * k : Nat) : Int) + 1) 1 (.slice (cutAt pp10 (2 * k + 1) cc11 1) (R.length - (2 * k + 1)) (cc11 - (2 * k + 1))) rfl rfl el_39 t0 t38 rfl ?_)
    have H43 : St W w35 (Im 1 (.slice (cutAt pp10 (2 * k + 1) cc11 1) (R.length - (2 * k + 1)) (cc11 - (2 * k + 1))) (R.length - (2 * k + 1)) ((R.drop (2 * k + 1)).flatMap blc) :: Im 1 (.slice (cutAt pp10 (k + 1) cc11 1) ((2 * k + 1) - (k + 1)) (cc11 - (k + 1))) ((2 * k + 1) - (k + 1)) (((R.drop (k + 1)).take ((2 * k + 1) - (k + 1))).flatMap blc) :: imi (0 < R.length) gA12 (.cells kA14 eA15 zA16) :: blk b (.cells #[.slice pp10 R.length cc11] 129 (0, 0)) :: Im 1 (.slice pp10 R.length cc11) R.length (R.flatMap blc) :: (F.set i emp)) := Im.cut_l blc_len (2 * k + 1) H36 (i := 3) rfl t0
    refine Nc (.pointer (some ⟨b, 0, none⟩)) (Fa 0 fi_129_0 rfl (rc (s_store H43 3 (.slice (cutAt pp10 (2 * k + 1) cc11 1) (R.length - (2 * k + 1)) (cc11 - (2 * k + 1))) rfl rfl rfl sz_39 rfl (nbl rfl) rfl (cs' := #[.slice (cutAt pp10 (2 * k + 1) cc11 1) (R.length - (2 * k + 1)) (cc11 - (2 * k + 1))]) rfl (fun w44 H45 => r_nil (g_seq (g_seq (g_region (Mv (.int .i64 (k : Int)) (rc (s_eql true rfl rfl (dtrue t0) rfl (r_nil (g_true rfl (g_seq (g_region (Ag (.int .u64 18446744073709551615) (Ag (.int .i64 0) (r_nil (Gr [.int .u64 18446744073709551615, .int .i64 0] Tryz.func80 Tryz.results80 ?_))))))))))))))))))
    have H46 : St W w44 (_ :: _ :: _ :: _ :: (F.set i emp)) := (((((H45.move 4 rfl).move 2 rfl).move 2 rfl).move 4 rfl).drop 4 rfl)
    have H47 : St W w44 (blk b (.cells #[.slice (cutAt pp10 (2 * k + 1) cc11 1) (R.length - (2 * k + 1)) (cc11 - (2 * k + 1))] 129 (0, 0)) :: Im 1 (.slice (cutAt pp10 (2 * k + 1) cc11 1) (R.length - (2 * k + 1)) (cc11 - (2 * k + 1))) ((R.drop (2 * k + 1)).length) ((R.drop (2 * k + 1)).flatMap blc) :: Im 1 (.slice (cutAt pp10 (k + 1) cc11 1) ((2 * k + 1) - (k + 1)) (cc11 - (k + 1))) ((2 * k + 1) - (k + 1)) (((R.drop (k + 1)).take ((2 * k + 1) - (k + 1))).flatMap blc) :: Im 1 (.slice pp10 R.length cc11) R.length (R.flatMap blc) :: (F.set i emp)) := by rw [show (R.drop (2 * k + 1)).length = R.length - (2 * k + 1) from by simp only [List.length_drop, List.length_take]; (try omega)]; exact H46
    have H48 : St W w44 (RSrc b (R.drop (2 * k + 1)) :: Im 1 (.slice (cutAt pp10 (k + 1) cc11 1) ((2 * k + 1) - (k + 1)) (cc11 - (k + 1))) ((2 * k + 1) - (k + 1)) (((R.drop (k + 1)).take ((2 * k + 1) - (k + 1))).flatMap blc) :: Im 1 (.slice pp10 R.length cc11) R.length (R.flatMap blc) :: (F.set i emp)) := St.shut_ex (.slice (cutAt pp10 (2 * k + 1) cc11 1) (R.length - (2 * k + 1)) (cc11 - (2 * k + 1))) (St.shut_star (ls := [blk b (.cells #[.slice (cutAt pp10 (2 * k + 1) cc11 1) (R.length - (2 * k + 1)) (cc11 - (2 * k + 1))] 129 (0, 0)), Im 1 (.slice (cutAt pp10 (2 * k + 1) cc11 1) (R.length - (2 * k + 1)) (cc11 - (2 * k + 1))) ((R.drop (2 * k + 1)).length) ((R.drop (2 * k + 1)).flatMap blc)]) H47)
    have H49 : St W w44 (_ :: (F.set i emp)) := ((H48.drop 1 rfl).drop 1 rfl)
    have hE : natE R = 0 := natE_0 t0 t0 t49
    have hN : natN R = 2 * k + 1 := by rw [natN_0 hE]; omega
    have hv : (natU R : Int) = 18446744073709551615 := by rw [natU_64 hE t0]; rfl
    exact ⟨by rw [hE, hv]; rfl, by rw [hN]; exact St.back hi H49⟩
   refine rc (s_eql false rfl rfl (dfalse hc37) rfl (Mv (.bool false) (Rp (Rp (Pf (.bool false) (r_nil (g_false rfl (g_skip (g_seq (g_region (Mv (.pointer (some ⟨b, 0, none⟩)) (Mv (.pointer (some ⟨b, 0, none⟩)) (Nc (.pointer (some ⟨b, 0, none⟩)) (Fa 0 fi_129_0 rfl (Lo (.slice pp10 R.length cc11) ag_39 H36 2 (Mv (.int .i64 (k : Int)) (rc (s_mul ((2 * k : Nat) : Int) rfl rfl ((wi64 t0).trans t0) rfl (rc (s_add (((2 * k : Nat) : Int) + 1) rfl rfl (wi64 t0) rfl ?_))))))))))))))))))))
   have hc50 := Im.cap H36 (i := 3) rfl
   refine rc (s_slice_l pp10 (((2 * k : Nat) : Int) + 1) 1 (.slice (cutAt pp10 (2 * k + 1) cc11 1) (R.length - (2 * k + 1)) (cc11 - (2 * k + 1))) rfl rfl el_39 t0 t38 rfl ?_)
   have H51 : St W w35 (Im 1 (.slice (cutAt pp10 (2 * k + 1) cc11 1) (R.length - (2 * k + 1)) (cc11 - (2 * k + 1))) (R.length - (2 * k + 1)) ((R.drop (2 * k + 1)).flatMap blc) :: Im 1 (.slice (cutAt pp10 (k + 1) cc11 1) ((2 * k + 1) - (k + 1)) (cc11 - (k + 1))) ((2 * k + 1) - (k + 1)) (((R.drop (k + 1)).take ((2 * k + 1) - (k + 1))).flatMap blc) :: imi (0 < R.length) gA12 (.cells kA14 eA15 zA16) :: blk b (.cells #[.slice pp10 R.length cc11] 129 (0, 0)) :: Im 1 (.slice pp10 R.length cc11) R.length (R.flatMap blc) :: (F.set i emp)) := Im.cut_l blc_len (2 * k + 1) H36 (i := 3) rfl t0
   refine Nc (.pointer (some ⟨b, 0, none⟩)) (Fa 0 fi_129_0 rfl (rc (s_store H51 3 (.slice (cutAt pp10 (2 * k + 1) cc11 1) (R.length - (2 * k + 1)) (cc11 - (2 * k + 1))) rfl rfl rfl sz_39 rfl (nbl rfl) rfl (cs' := #[.slice (cutAt pp10 (2 * k + 1) cc11 1) (R.length - (2 * k + 1)) (cc11 - (2 * k + 1))]) rfl (fun w52 H53 => r_nil (g_seq (g_seq (g_region (Mv (.int .i64 (k : Int)) (rc (s_eql false rfl rfl (dfalse t0) rfl (r_nil (g_false rfl (g_skip (g_seq (g_region (Mv (.int .i64 (k : Int)) ?_))))))))))))))))
   have hpw := pow_le63 (k := k) t0
   have hq : 0 < 2 ^ k := Nat.pow_pos t10
   refine rc (s_shl ((2 ^ k : Nat) : Int) rfl rfl t0 (shl_one rfl t0) rfl (Mv (.int .u64 (valOf ((R.drop (k + 1)).take ((2 * k + 1) - (k + 1))) : Int)) (rc (s_add ((2 ^ k + valOf ((R.drop (k + 1)).take (2 * k + 1 - (k + 1))) : Nat) : Int) rfl rfl ((wu64 t19).trans t19) rfl (rc (s_sub ((2 ^ k + valOf ((R.drop (k + 1)).take (2 * k + 1 - (k + 1))) - 1 : Nat) : Int) rfl rfl ((wu64 t19).trans t19) rfl (Ag (.int .u64 ((2 ^ k + valOf ((R.drop (k + 1)).take (2 * k + 1 - (k + 1))) - 1 : Nat) : Int)) (Ag (.int .i64 0) (r_nil (Gr [.int .u64 ((2 ^ k + valOf ((R.drop (k + 1)).take (2 * k + 1 - (k + 1))) - 1 : Nat) : Int), .int .i64 0] Tryz.func80 Tryz.results80 ?_))))))))))
   have H54 : St W w52 (_ :: _ :: _ :: _ :: (F.set i emp)) := (((((H53.move 4 rfl).move 2 rfl).move 2 rfl).move 4 rfl).drop 4 rfl)
   have H55 : St W w52 (blk b (.cells #[.slice (cutAt pp10 (2 * k + 1) cc11 1) (R.length - (2 * k + 1)) (cc11 - (2 * k + 1))] 129 (0, 0)) :: Im 1 (.slice (cutAt pp10 (2 * k + 1) cc11 1) (R.length - (2 * k + 1)) (cc11 - (2 * k + 1))) ((R.drop (2 * k + 1)).length) ((R.drop (2 * k + 1)).flatMap blc) :: Im 1 (.slice (cutAt pp10 (k + 1) cc11 1) ((2 * k + 1) - (k + 1)) (cc11 - (k + 1))) ((2 * k + 1) - (k + 1)) (((R.drop (k + 1)).take ((2 * k + 1) - (k + 1))).flatMap blc) :: Im 1 (.slice pp10 R.length cc11) R.length (R.flatMap blc) :: (F.set i emp)) := by rw [show (R.drop (2 * k + 1)).length = R.length - (2 * k + 1) from by simp only [List.length_drop, List.length_take]; (try omega)]; exact H54
   have H56 : St W w52 (RSrc b (R.drop (2 * k + 1)) :: Im 1 (.slice (cutAt pp10 (k + 1) cc11 1) ((2 * k + 1) - (k + 1)) (cc11 - (k + 1))) ((2 * k + 1) - (k + 1)) (((R.drop (k + 1)).take ((2 * k + 1) - (k + 1))).flatMap blc) :: Im 1 (.slice pp10 R.length cc11) R.length (R.flatMap blc) :: (F.set i emp)) := St.shut_ex (.slice (cutAt pp10 (2 * k + 1) cc11 1) (R.length - (2 * k + 1)) (cc11 - (2 * k + 1))) (St.shut_star (ls := [blk b (.cells #[.slice (cutAt pp10 (2 * k + 1) cc11 1) (R.length - (2 * k + 1)) (cc11 - (2 * k + 1))] 129 (0, 0)), Im 1 (.slice (cutAt pp10 (2 * k + 1) cc11 1) (R.length - (2 * k + 1)) (cc11 - (2 * k + 1))) ((R.drop (2 * k + 1)).length) ((R.drop (2 * k + 1)).flatMap blc)]) H55)
   have H57 : St W w52 (_ :: (F.set i emp)) := ((H56.drop 1 rfl).drop 1 rfl)
   have hE : natE R = 0 := natE_0 t0 t0 t49
   have hN : natN R = 2 * k + 1 := by rw [natN_0 hE]; omega
   have hv : (natU R : Int) = ((2 ^ k + valOf ((R.drop (k + 1)).take (2 * k + 1 - (k + 1))) - 1 : Nat) : Int) := by rw [natU_is hE t0, ← hlow, hzz]; congr 1; omega
   exact ⟨by rw [hE, hv]; rfl, by rw [hN]; exact St.back hi H57⟩
  refine s_lss false rfl rfl (dfalse hc24) rfl (Pt (.bool false) (Mv (.bool false) (Rp (Rp (Rp (Rp (Rp (Rp (Rp (Rp (Pf (.bool false) (r_nil (g_false rfl (g_exit t40 (g_seq (g_seq (g_region (Mv (.int .i64 (k : Int)) ?_))))))))))))))))))
  have hzz : zeros R = k := zeros_is hk hkr hz (by first | (left; omega) | (right; left; omega) | (right; right; simpa using hz))
  clear hz
  by_cases hc58 : (k : Int) = 65
  ·refine rc (s_eql true rfl rfl (dtrue hc58) rfl (r_nil (g_true rfl (g_seq (g_region (Ag (.int .u64 0) (Ag (.int .i64 11) (r_nil (Gr [.int .u64 0, .int .i64 11] Tryz.func80 Tryz.results80 ?_)))))))))
   have H59 : St W w3 (_ :: _ :: (F.set i emp)) := (((H22.move 2 rfl).move 2 rfl).drop 2 rfl)
   have H60 : St W w3 (RSrc b R :: (F.set i emp)) := St.shut_ex (.slice pp10 R.length cc11) (St.shut_star (ls := [blk b (.cells #[.slice pp10 R.length cc11] 129 (0, 0)), Im 1 (.slice pp10 R.length cc11) R.length (R.flatMap blc)]) H59)
   have H61 : St W w3 (_ :: (F.set i emp)) := H60
   have hE : natE R = 11 := by first | exact natE_65 t0 | exact natE_11 t0 t0 t49
   have hE0 : ¬ natE R = 0 := by rw [hE]; decide
   exact ⟨by rw [natU_no hE0, hE]; rfl, by rw [natN_no hE0, List.drop_zero]; exact St.back hi H61⟩
  refine rc (s_eql false rfl rfl (dfalse hc58) rfl (r_nil (g_false rfl (g_skip (g_seq (g_seq (g_region (Mv (.int .i64 (k : Int)) (rc (s_mul ((2 * k : Nat) : Int) rfl rfl ((wi64 t0).trans t0) rfl (rc (s_add (((2 * k : Nat) : Int) + 1) rfl rfl (wi64 t0) rfl (Mv (.pointer (some ⟨b, 0, none⟩)) (Nc (.pointer (some ⟨b, 0, none⟩)) (Fa 0 fi_129_0 rfl (Lo (.slice pp10 R.length cc11) ag_39 H22 1 (rc (s_len R.length rfl ⟨_, un_39⟩ rfl ?_))))))))))))))))))
  by_cases hc62 : (R.length : Int) < ((2 * k : Nat) : Int) + 1
  ·refine rc (s_gtr true rfl rfl (dtrue hc62) rfl (r_nil (g_true rfl (g_seq (g_region (Ag (.int .u64 0) (Ag (.int .i64 10) (r_nil (Gr [.int .u64 0, .int .i64 10] Tryz.func80 Tryz.results80 ?_)))))))))
   have H63 : St W w3 (_ :: _ :: (F.set i emp)) := (((H22.move 2 rfl).move 2 rfl).drop 2 rfl)
   have H64 : St W w3 (RSrc b R :: (F.set i emp)) := St.shut_ex (.slice pp10 R.length cc11) (St.shut_star (ls := [blk b (.cells #[.slice pp10 R.length cc11] 129 (0, 0)), Im 1 (.slice pp10 R.length cc11) R.length (R.flatMap blc)]) H63)
   have H65 : St W w3 (_ :: (F.set i emp)) := H64
   have hE : natE R = 10 := natE_10 t0 t0
   have hE0 : ¬ natE R = 0 := by rw [hE]; decide
   exact ⟨by rw [natU_no hE0, hE]; rfl, by rw [natN_no hE0, List.drop_zero]; exact St.back hi H65⟩
  refine rc (s_gtr false rfl rfl (dfalse hc62) rfl (r_nil (g_false rfl (g_skip (g_seq (g_region (Mv (.pointer (some ⟨b, 0, none⟩)) (Nc (.pointer (some ⟨b, 0, none⟩)) (Fa 0 fi_129_0 rfl (Lo (.slice pp10 R.length cc11) ag_39 H22 1 (Mv (.int .i64 (k : Int)) (rc (s_add ((k : Int) + 1) rfl rfl (wi64 t0) rfl (Mv (.int .i64 (k : Int)) (rc (s_mul ((2 * k : Nat) : Int) rfl rfl ((wi64 t0).trans t0) rfl (rc (s_add (((2 * k : Nat) : Int) + 1) rfl rfl (wi64 t0) rfl ?_))))))))))))))))))
  have hc66 := Im.cap H22 (i := 2) rfl
  refine rc (s_slice pp10 ((k : Int) + 1) (((2 * k : Nat) : Int) + 1) 1 (.slice (cutAt pp10 (k + 1) cc11 1) ((2 * k + 1) - (k + 1)) (cc11 - (k + 1))) rfl rfl rfl el_39 t0 t38 rfl ?_)
  have H67 : St W w3 (Im 1 (.slice (cutAt pp10 (k + 1) cc11 1) ((2 * k + 1) - (k + 1)) (cc11 - (k + 1))) ((2 * k + 1) - (k + 1)) (((R.drop (k + 1)).take ((2 * k + 1) - (k + 1))).flatMap blc) :: imi (0 < R.length) gA12 (.cells kA14 eA15 zA16) :: blk b (.cells #[.slice pp10 R.length cc11] 129 (0, 0)) :: Im 1 (.slice pp10 R.length cc11) R.length (R.flatMap blc) :: (F.set i emp)) := Im.cut blc_len (k + 1) (2 * k + 1) H22 (i := 2) rfl t0 t0
  refine rc (s_call [.slice (cutAt pp10 (k + 1) cc11 1) ((2 * k + 1) - (k + 1)) (cc11 - (k + 1))] pl_104 rfl rfl (ref01_value _ _ ((R.drop (k + 1)).take ((2 * k + 1) - (k + 1))) t45 t0 (j := 0) rfl H67) ?_)
  rintro _ w68 ⟨rfl, H69⟩
  refine Ag (.int .u64 (valOf ((R.drop (k + 1)).take ((2 * k + 1) - (k + 1))) : Int)) (r_nil (g_seq (g_seq (g_region ?_))))
  have hlow : valOf ((R.drop (k + 1)).take (2 * k + 1 - (k + 1))) = valOf ((R.drop (zeros R + 1)).take (zeros R)) := by rw [hzz]; congr 2; omega
  have hlt : valOf ((R.drop (k + 1)).take (2 * k + 1 - (k + 1))) < 2 ^ k := by rw [hlow, hzz]; exact valOf_take_lt _ _
  refine Mv (.int .i64 (k : Int)) (rc (s_eql false rfl rfl (dfalse t0) rfl (Mv (.bool false) (Rp (Rp (Pf (.bool false) (r_nil (g_false rfl (g_skip (g_seq (g_region (Mv (.pointer (some ⟨b, 0, none⟩)) (Mv (.pointer (some ⟨b, 0, none⟩)) (Nc (.pointer (some ⟨b, 0, none⟩)) (Fa 0 fi_129_0 rfl (Lo (.slice pp10 R.length cc11) ag_39 H69 2 (Mv (.int .i64 (k : Int)) (rc (s_mul ((2 * k : Nat) : Int) rfl rfl ((wi64 t0).trans t0) rfl (rc (s_add (((2 * k : Nat) : Int) + 1) rfl rfl (wi64 t0) rfl ?_)))))))))))))))))))))
  have hc70 := Im.cap H69 (i := 3) rfl
  refine rc (s_slice_l pp10 (((2 * k : Nat) : Int) + 1) 1 (.slice (cutAt pp10 (2 * k + 1) cc11 1) (R.length - (2 * k + 1)) (cc11 - (2 * k + 1))) rfl rfl el_39 t0 t38 rfl ?_)
  have H71 : St W w68 (Im 1 (.slice (cutAt pp10 (2 * k + 1) cc11 1) (R.length - (2 * k + 1)) (cc11 - (2 * k + 1))) (R.length - (2 * k + 1)) ((R.drop (2 * k + 1)).flatMap blc) :: Im 1 (.slice (cutAt pp10 (k + 1) cc11 1) ((2 * k + 1) - (k + 1)) (cc11 - (k + 1))) ((2 * k + 1) - (k + 1)) (((R.drop (k + 1)).take ((2 * k + 1) - (k + 1))).flatMap blc) :: imi (0 < R.length) gA12 (.cells kA14 eA15 zA16) :: blk b (.cells #[.slice pp10 R.length cc11] 129 (0, 0)) :: Im 1 (.slice pp10 R.length cc11) R.length (R.flatMap blc) :: (F.set i emp)) := Im.cut_l blc_len (2 * k + 1) H69 (i := 3) rfl t0
  refine Nc (.pointer (some ⟨b, 0, none⟩)) (Fa 0 fi_129_0 rfl (rc (s_store H71 3 (.slice (cutAt pp10 (2 * k + 1) cc11 1) (R.length - (2 * k + 1)) (cc11 - (2 * k + 1))) rfl rfl rfl sz_39 rfl (nbl rfl) rfl (cs' := #[.slice (cutAt pp10 (2 * k + 1) cc11 1) (R.length - (2 * k + 1)) (cc11 - (2 * k + 1))]) rfl (fun w72 H73 => r_nil (g_seq (g_seq (g_region (Mv (.int .i64 (k : Int)) (rc (s_eql false rfl rfl (dfalse t0) rfl (r_nil (g_false rfl (g_skip (g_seq (g_region (Mv (.int .i64 (k : Int)) ?_))))))))))))))))
  have hpw := pow_le63 (k := k) t0
  have hq : 0 < 2 ^ k := Nat.pow_pos t10
  refine rc (s_shl ((2 ^ k : Nat) : Int) rfl rfl t0 (shl_one rfl t0) rfl (Mv (.int .u64 (valOf ((R.drop (k + 1)).take ((2 * k + 1) - (k + 1))) : Int)) (rc (s_add ((2 ^ k + valOf ((R.drop (k + 1)).take (2 * k + 1 - (k + 1))) : Nat) : Int) rfl rfl ((wu64 t19).trans t19) rfl (rc (s_sub ((2 ^ k + valOf ((R.drop (k + 1)).take (2 * k + 1 - (k + 1))) - 1 : Nat) : Int) rfl rfl ((wu64 t19).trans t19) rfl (Ag (.int .u64 ((2 ^ k + valOf ((R.drop (k + 1)).take (2 * k + 1 - (k + 1))) - 1 : Nat) : Int)) (Ag (.int .i64 0) (r_nil (Gr [.int .u64 ((2 ^ k + valOf ((R.drop (k + 1)).take (2 * k + 1 - (k + 1))) - 1 : Nat) : Int), .int .i64 0] Tryz.func80 Tryz.results80 ?_))))))))))
  have H74 : St W w72 (_ :: _ :: _ :: _ :: (F.set i emp)) := (((((H73.move 4 rfl).move 2 rfl).move 2 rfl).move 4 rfl).drop 4 rfl)
  have H75 : St W w72 (blk b (.cells #[.slice (cutAt pp10 (2 * k + 1) cc11 1) (R.length - (2 * k + 1)) (cc11 - (2 * k + 1))] 129 (0, 0)) :: Im 1 (.slice (cutAt pp10 (2 * k + 1) cc11 1) (R.length - (2 * k + 1)) (cc11 - (2 * k + 1))) ((R.drop (2 * k + 1)).length) ((R.drop (2 * k + 1)).flatMap blc) :: Im 1 (.slice (cutAt pp10 (k + 1) cc11 1) ((2 * k + 1) - (k + 1)) (cc11 - (k + 1))) ((2 * k + 1) - (k + 1)) (((R.drop (k + 1)).take ((2 * k + 1) - (k + 1))).flatMap blc) :: Im 1 (.slice pp10 R.length cc11) R.length (R.flatMap blc) :: (F.set i emp)) := by rw [show (R.drop (2 * k + 1)).length = R.length - (2 * k + 1) from by simp only [List.length_drop, List.length_take]; (try omega)]; exact H74
  have H76 : St W w72 (RSrc b (R.drop (2 * k + 1)) :: Im 1 (.slice (cutAt pp10 (k + 1) cc11 1) ((2 * k + 1) - (k + 1)) (cc11 - (k + 1))) ((2 * k + 1) - (k + 1)) (((R.drop (k + 1)).take ((2 * k + 1) - (k + 1))).flatMap blc) :: Im 1 (.slice pp10 R.length cc11) R.length (R.flatMap blc) :: (F.set i emp)) := St.shut_ex (.slice (cutAt pp10 (2 * k + 1) cc11 1) (R.length - (2 * k + 1)) (cc11 - (2 * k + 1))) (St.shut_star (ls := [blk b (.cells #[.slice (cutAt pp10 (2 * k + 1) cc11 1) (R.length - (2 * k + 1)) (cc11 - (2 * k + 1))] 129 (0, 0)), Im 1 (.slice (cutAt pp10 (2 * k + 1) cc11 1) (R.length - (2 * k + 1)) (cc11 - (2 * k + 1))) ((R.drop (2 * k + 1)).length) ((R.drop (2 * k + 1)).flatMap blc)]) H75)
  have H77 : St W w72 (_ :: (F.set i emp)) := ((H76.drop 1 rfl).drop 1 rfl)
  have hE : natE R = 0 := natE_0 t0 t0 t49
  have hN : natN R = 2 * k + 1 := by rw [natN_0 hE]; omega
  have hv : (natU R : Int) = ((2 ^ k + valOf ((R.drop (k + 1)).take (2 * k + 1 - (k + 1))) - 1 : Nat) : Int) := by rw [natU_is hE t0, ← hlow, hzz]; congr 1; omega
  exact ⟨by rw [hE, hv]; rfl, by rw [hN]; exact St.back hi H77⟩
 refine rc (s_lss false rfl rfl (dfalse hc23) rfl (Mv (.bool false) (Rp (Rp (Pf (.bool false) (Mv (.bool false) (Rp (Rp (Rp (Rp (Rp (Rp (Rp (Rp (Pf (.bool false) (r_nil (g_false rfl (g_exit t40 (g_seq (g_seq (g_region (Mv (.int .i64 (k : Int)) ?_))))))))))))))))))))))
 have hzz : zeros R = k := zeros_is hk hkr hz (by first | (left; omega) | (right; left; omega) | (right; right; simpa using hz))
 clear hz
 by_cases hc78 : (k : Int) = 65
 ·refine rc (s_eql true rfl rfl (dtrue hc78) rfl (r_nil (g_true rfl (g_seq (g_region (Ag (.int .u64 0) (Ag (.int .i64 11) (r_nil (Gr [.int .u64 0, .int .i64 11] Tryz.func80 Tryz.results80 ?_)))))))))
  have H79 : St W w3 (_ :: _ :: (F.set i emp)) := (((H22.move 2 rfl).move 2 rfl).drop 2 rfl)
  have H80 : St W w3 (RSrc b R :: (F.set i emp)) := St.shut_ex (.slice pp10 R.length cc11) (St.shut_star (ls := [blk b (.cells #[.slice pp10 R.length cc11] 129 (0, 0)), Im 1 (.slice pp10 R.length cc11) R.length (R.flatMap blc)]) H79)
  have H81 : St W w3 (_ :: (F.set i emp)) := H80
  have hE : natE R = 11 := by first | exact natE_65 t0 | exact natE_11 t0 t0 t49
  have hE0 : ¬ natE R = 0 := by rw [hE]; decide
  exact ⟨by rw [natU_no hE0, hE]; rfl, by rw [natN_no hE0, List.drop_zero]; exact St.back hi H81⟩
 refine rc (s_eql false rfl rfl (dfalse hc78) rfl (r_nil (g_false rfl (g_skip (g_seq (g_seq (g_region (Mv (.int .i64 (k : Int)) (rc (s_mul ((2 * k : Nat) : Int) rfl rfl ((wi64 t0).trans t0) rfl (rc (s_add (((2 * k : Nat) : Int) + 1) rfl rfl (wi64 t0) rfl (Mv (.pointer (some ⟨b, 0, none⟩)) (Nc (.pointer (some ⟨b, 0, none⟩)) (Fa 0 fi_129_0 rfl (Lo (.slice pp10 R.length cc11) ag_39 H22 1 (rc (s_len R.length rfl ⟨_, un_39⟩ rfl ?_))))))))))))))))))
 by_cases hc82 : (R.length : Int) < ((2 * k : Nat) : Int) + 1
 ·refine rc (s_gtr true rfl rfl (dtrue hc82) rfl (r_nil (g_true rfl (g_seq (g_region (Ag (.int .u64 0) (Ag (.int .i64 10) (r_nil (Gr [.int .u64 0, .int .i64 10] Tryz.func80 Tryz.results80 ?_)))))))))
  have H83 : St W w3 (_ :: _ :: (F.set i emp)) := (((H22.move 2 rfl).move 2 rfl).drop 2 rfl)
  have H84 : St W w3 (RSrc b R :: (F.set i emp)) := St.shut_ex (.slice pp10 R.length cc11) (St.shut_star (ls := [blk b (.cells #[.slice pp10 R.length cc11] 129 (0, 0)), Im 1 (.slice pp10 R.length cc11) R.length (R.flatMap blc)]) H83)
  have H85 : St W w3 (_ :: (F.set i emp)) := H84
  have hE : natE R = 10 := natE_10 t0 t0
  have hE0 : ¬ natE R = 0 := by rw [hE]; decide
  exact ⟨by rw [natU_no hE0, hE]; rfl, by rw [natN_no hE0, List.drop_zero]; exact St.back hi H85⟩
 refine rc (s_gtr false rfl rfl (dfalse hc82) rfl (r_nil (g_false rfl (g_skip (g_seq (g_region (Mv (.pointer (some ⟨b, 0, none⟩)) (Nc (.pointer (some ⟨b, 0, none⟩)) (Fa 0 fi_129_0 rfl (Lo (.slice pp10 R.length cc11) ag_39 H22 1 (Mv (.int .i64 (k : Int)) (rc (s_add ((k : Int) + 1) rfl rfl (wi64 t0) rfl (Mv (.int .i64 (k : Int)) (rc (s_mul ((2 * k : Nat) : Int) rfl rfl ((wi64 t0).trans t0) rfl (rc (s_add (((2 * k : Nat) : Int) + 1) rfl rfl (wi64 t0) rfl ?_))))))))))))))))))
 have hc86 := Im.cap H22 (i := 2) rfl
 refine rc (s_slice pp10 ((k : Int) + 1) (((2 * k : Nat) : Int) + 1) 1 (.slice (cutAt pp10 (k + 1) cc11 1) ((2 * k + 1) - (k + 1)) (cc11 - (k + 1))) rfl rfl rfl el_39 t0 t38 rfl ?_)
 have H87 : St W w3 (Im 1 (.slice (cutAt pp10 (k + 1) cc11 1) ((2 * k + 1) - (k + 1)) (cc11 - (k + 1))) ((2 * k + 1) - (k + 1)) (((R.drop (k + 1)).take ((2 * k + 1) - (k + 1))).flatMap blc) :: imi (0 < R.length) gA12 (.cells kA14 eA15 zA16) :: blk b (.cells #[.slice pp10 R.length cc11] 129 (0, 0)) :: Im 1 (.slice pp10 R.length cc11) R.length (R.flatMap blc) :: (F.set i emp)) := Im.cut blc_len (k + 1) (2 * k + 1) H22 (i := 2) rfl t0 t0
 refine rc (s_call [.slice (cutAt pp10 (k + 1) cc11 1) ((2 * k + 1) - (k + 1)) (cc11 - (k + 1))] pl_104 rfl rfl (ref01_value _ _ ((R.drop (k + 1)).take ((2 * k + 1) - (k + 1))) t45 t0 (j := 0) rfl H87) ?_)
 rintro _ w88 ⟨rfl, H89⟩
 refine Ag (.int .u64 (valOf ((R.drop (k + 1)).take ((2 * k + 1) - (k + 1))) : Int)) (r_nil (g_seq (g_seq (g_region ?_))))
 have hlow : valOf ((R.drop (k + 1)).take (2 * k + 1 - (k + 1))) = valOf ((R.drop (zeros R + 1)).take (zeros R)) := by rw [hzz]; congr 2; omega
 have hlt : valOf ((R.drop (k + 1)).take (2 * k + 1 - (k + 1))) < 2 ^ k := by rw [hlow, hzz]; exact valOf_take_lt _ _
 refine Mv (.int .i64 (k : Int)) ?_
 by_cases hc90 : (k : Int) = 64
 ·refine rc (s_eql true rfl rfl (dtrue hc90) rfl (Mv (.bool true) (Rt (Mw (.int .u64 (valOf ((R.drop (k + 1)).take ((2 * k + 1) - (k + 1))) : Int)) (Rt ?_)))))
  by_cases hc91 : (0 : Int) < (valOf ((R.drop (k + 1)).take ((2 * k + 1) - (k + 1))) : Int)
  ·refine s_gtr true rfl rfl (dtrue hc91) rfl (Pt (.bool true) (r_nil (g_true rfl (g_seq (g_region (Ag (.int .u64 0) (Ag (.int .i64 11) (r_nil (Gr [.int .u64 0, .int .i64 11] Tryz.func80 Tryz.results80 ?_)))))))))
   have H92 : St W w88 (_ :: _ :: _ :: (F.set i emp)) := (((H89.move 3 rfl).move 3 rfl).drop 3 rfl)
   have H93 : St W w88 (RSrc b R :: Im 1 (.slice (cutAt pp10 (k + 1) cc11 1) ((2 * k + 1) - (k + 1)) (cc11 - (k + 1))) ((2 * k + 1) - (k + 1)) (((R.drop (k + 1)).take ((2 * k + 1) - (k + 1))).flatMap blc) :: (F.set i emp)) := St.shut_ex (.slice pp10 R.length cc11) (St.shut_star (ls := [blk b (.cells #[.slice pp10 R.length cc11] 129 (0, 0)), Im 1 (.slice pp10 R.length cc11) R.length (R.flatMap blc)]) H92)
   have H94 : St W w88 (_ :: (F.set i emp)) := (H93.drop 1 rfl)
   have hE : natE R = 11 := by first | exact natE_65 t0 | exact natE_11 t0 t0 t49
   have hE0 : ¬ natE R = 0 := by rw [hE]; decide
   exact ⟨by rw [natU_no hE0, hE]; rfl, by rw [natN_no hE0, List.drop_zero]; exact St.back hi H94⟩
  refine s_gtr false rfl rfl (dfalse hc91) rfl (Pt (.bool false) (r_nil (g_false rfl (g_skip (g_seq (g_region (Mv (.pointer (some ⟨b, 0, none⟩)) (Mv (.pointer (some ⟨b, 0, none⟩)) (Nc (.pointer (some ⟨b, 0, none⟩)) (Fa 0 fi_129_0 rfl (Lo (.slice pp10 R.length cc11) ag_39 H89 2 (Mv (.int .i64 (k : Int)) (rc (s_mul ((2 * k : Nat) : Int) rfl rfl ((wi64 t0).trans t0) rfl (rc (s_add (((2 * k : Nat) : Int) + 1) rfl rfl (wi64 t0) rfl ?_))))))))))))))))
  have hc95 := Im.cap H89 (i := 3) rfl
  refine rc (s_slice_l pp10 (((2 * k : Nat) : Int) + 1) 1 (.slice (cutAt pp10 (2 * k + 1) cc11 1) (R.length - (2 * k + 1)) (cc11 - (2 * k + 1))) rfl rfl el_39 t0 t38 rfl ?_)
  have H96 : St W w88 (Im 1 (.slice (cutAt pp10 (2 * k + 1) cc11 1) (R.length - (2 * k + 1)) (cc11 - (2 * k + 1))) (R.length - (2 * k + 1)) ((R.drop (2 * k + 1)).flatMap blc) :: Im 1 (.slice (cutAt pp10 (k + 1) cc11 1) ((2 * k + 1) - (k + 1)) (cc11 - (k + 1))) ((2 * k + 1) - (k + 1)) (((R.drop (k + 1)).take ((2 * k + 1) - (k + 1))).flatMap blc) :: imi (0 < R.length) gA12 (.cells kA14 eA15 zA16) :: blk b (.cells #[.slice pp10 R.length cc11] 129 (0, 0)) :: Im 1 (.slice pp10 R.length cc11) R.length (R.flatMap blc) :: (F.set i emp)) := Im.cut_l blc_len (2 * k + 1) H89 (i := 3) rfl t0
  refine Nc (.pointer (some ⟨b, 0, none⟩)) (Fa 0 fi_129_0 rfl (rc (s_store H96 3 (.slice (cutAt pp10 (2 * k + 1) cc11 1) (R.length - (2 * k + 1)) (cc11 - (2 * k + 1))) rfl rfl rfl sz_39 rfl (nbl rfl) rfl (cs' := #[.slice (cutAt pp10 (2 * k + 1) cc11 1) (R.length - (2 * k + 1)) (cc11 - (2 * k + 1))]) rfl (fun w97 H98 => r_nil (g_seq (g_seq (g_region (Mv (.int .i64 (k : Int)) (rc (s_eql true rfl rfl (dtrue t0) rfl (r_nil (g_true rfl (g_seq (g_region (Ag (.int .u64 18446744073709551615) (Ag (.int .i64 0) (r_nil (Gr [.int .u64 18446744073709551615, .int .i64 0] Tryz.func80 Tryz.results80 ?_))))))))))))))))))
  have H99 : St W w97 (_ :: _ :: _ :: _ :: (F.set i emp)) := (((((H98.move 4 rfl).move 2 rfl).move 2 rfl).move 4 rfl).drop 4 rfl)
  have H100 : St W w97 (blk b (.cells #[.slice (cutAt pp10 (2 * k + 1) cc11 1) (R.length - (2 * k + 1)) (cc11 - (2 * k + 1))] 129 (0, 0)) :: Im 1 (.slice (cutAt pp10 (2 * k + 1) cc11 1) (R.length - (2 * k + 1)) (cc11 - (2 * k + 1))) ((R.drop (2 * k + 1)).length) ((R.drop (2 * k + 1)).flatMap blc) :: Im 1 (.slice (cutAt pp10 (k + 1) cc11 1) ((2 * k + 1) - (k + 1)) (cc11 - (k + 1))) ((2 * k + 1) - (k + 1)) (((R.drop (k + 1)).take ((2 * k + 1) - (k + 1))).flatMap blc) :: Im 1 (.slice pp10 R.length cc11) R.length (R.flatMap blc) :: (F.set i emp)) := by rw [show (R.drop (2 * k + 1)).length = R.length - (2 * k + 1) from by simp only [List.length_drop, List.length_take]; (try omega)]; exact H99
  have H101 : St W w97 (RSrc b (R.drop (2 * k + 1)) :: Im 1 (.slice (cutAt pp10 (k + 1) cc11 1) ((2 * k + 1) - (k + 1)) (cc11 - (k + 1))) ((2 * k + 1) - (k + 1)) (((R.drop (k + 1)).take ((2 * k + 1) - (k + 1))).flatMap blc) :: Im 1 (.slice pp10 R.length cc11) R.length (R.flatMap blc) :: (F.set i emp)) := St.shut_ex (.slice (cutAt pp10 (2 * k + 1) cc11 1) (R.length - (2 * k + 1)) (cc11 - (2 * k + 1))) (St.shut_star (ls := [blk b (.cells #[.slice (cutAt pp10 (2 * k + 1) cc11 1) (R.length - (2 * k + 1)) (cc11 - (2 * k + 1))] 129 (0, 0)), Im 1 (.slice (cutAt pp10 (2 * k + 1) cc11 1) (R.length - (2 * k + 1)) (cc11 - (2 * k + 1))) ((R.drop (2 * k + 1)).length) ((R.drop (2 * k + 1)).flatMap blc)]) H100)
  have H102 : St W w97 (_ :: (F.set i emp)) := ((H101.drop 1 rfl).drop 1 rfl)
  have hE : natE R = 0 := natE_0 t0 t0 t49
  have hN : natN R = 2 * k + 1 := by rw [natN_0 hE]; omega
  have hv : (natU R : Int) = 18446744073709551615 := by rw [natU_64 hE t0]; rfl
  exact ⟨by rw [hE, hv]; rfl, by rw [hN]; exact St.back hi H102⟩
 refine rc (s_eql false rfl rfl (dfalse hc90) rfl (Mv (.bool false) (Rp (Rp (Pf (.bool false) (r_nil (g_false rfl (g_skip (g_seq (g_region (Mv (.pointer (some ⟨b, 0, none⟩)) (Mv (.pointer (some ⟨b, 0, none⟩)) (Nc (.pointer (some ⟨b, 0, none⟩)) (Fa 0 fi_129_0 rfl (Lo (.slice pp10 R.length cc11) ag_39 H89 2 (Mv (.int .i64 (k : Int)) (rc (s_mul ((2 * k : Nat) : Int) rfl rfl ((wi64 t0).trans t0) rfl (rc (s_add (((2 * k : Nat) : Int) + 1) rfl rfl (wi64 t0) rfl ?_))))))))))))))))))))
 have hc103 := Im.cap H89 (i := 3) rfl
 refine rc (s_slice_l pp10 (((2 * k : Nat) : Int) + 1) 1 (.slice (cutAt pp10 (2 * k + 1) cc11 1) (R.length - (2 * k + 1)) (cc11 - (2 * k + 1))) rfl rfl el_39 t0 t38 rfl ?_)
 have H104 : St W w88 (Im 1 (.slice (cutAt pp10 (2 * k + 1) cc11 1) (R.length - (2 * k + 1)) (cc11 - (2 * k + 1))) (R.length - (2 * k + 1)) ((R.drop (2 * k + 1)).flatMap blc) :: Im 1 (.slice (cutAt pp10 (k + 1) cc11 1) ((2 * k + 1) - (k + 1)) (cc11 - (k + 1))) ((2 * k + 1) - (k + 1)) (((R.drop (k + 1)).take ((2 * k + 1) - (k + 1))).flatMap blc) :: imi (0 < R.length) gA12 (.cells kA14 eA15 zA16) :: blk b (.cells #[.slice pp10 R.length cc11] 129 (0, 0)) :: Im 1 (.slice pp10 R.length cc11) R.length (R.flatMap blc) :: (F.set i emp)) := Im.cut_l blc_len (2 * k + 1) H89 (i := 3) rfl t0
 refine Nc (.pointer (some ⟨b, 0, none⟩)) (Fa 0 fi_129_0 rfl (rc (s_store H104 3 (.slice (cutAt pp10 (2 * k + 1) cc11 1) (R.length - (2 * k + 1)) (cc11 - (2 * k + 1))) rfl rfl rfl sz_39 rfl (nbl rfl) rfl (cs' := #[.slice (cutAt pp10 (2 * k + 1) cc11 1) (R.length - (2 * k + 1)) (cc11 - (2 * k + 1))]) rfl (fun w105 H106 => r_nil (g_seq (g_seq (g_region (Mv (.int .i64 (k : Int)) (rc (s_eql false rfl rfl (dfalse t0) rfl (r_nil (g_false rfl (g_skip (g_seq (g_region (Mv (.int .i64 (k : Int)) ?_))))))))))))))))
 have hpw := pow_le63 (k := k) t0
 have hq : 0 < 2 ^ k := Nat.pow_pos t10
 refine rc (s_shl ((2 ^ k : Nat) : Int) rfl rfl t0 (shl_one rfl t0) rfl (Mv (.int .u64 (valOf ((R.drop (k + 1)).take ((2 * k + 1) - (k + 1))) : Int)) (rc (s_add ((2 ^ k + valOf ((R.drop (k + 1)).take (2 * k + 1 - (k + 1))) : Nat) : Int) rfl rfl ((wu64 t19).trans t19) rfl (rc (s_sub ((2 ^ k + valOf ((R.drop (k + 1)).take (2 * k + 1 - (k + 1))) - 1 : Nat) : Int) rfl rfl ((wu64 t19).trans t19) rfl (Ag (.int .u64 ((2 ^ k + valOf ((R.drop (k + 1)).take (2 * k + 1 - (k + 1))) - 1 : Nat) : Int)) (Ag (.int .i64 0) (r_nil (Gr [.int .u64 ((2 ^ k + valOf ((R.drop (k + 1)).take (2 * k + 1 - (k + 1))) - 1 : Nat) : Int), .int .i64 0] Tryz.func80 Tryz.results80 ?_))))))))))
 have H107 : St W w105 (_ :: _ :: _ :: _ :: (F.set i emp)) := (((((H106.move 4 rfl).move 2 rfl).move 2 rfl).move 4 rfl).drop 4 rfl)
 have H108 : St W w105 (blk b (.cells #[.slice (cutAt pp10 (2 * k + 1) cc11 1) (R.length - (2 * k + 1)) (cc11 - (2 * k + 1))] 129 (0, 0)) :: Im 1 (.slice (cutAt pp10 (2 * k + 1) cc11 1) (R.length - (2 * k + 1)) (cc11 - (2 * k + 1))) ((R.drop (2 * k + 1)).length) ((R.drop (2 * k + 1)).flatMap blc) :: Im 1 (.slice (cutAt pp10 (k + 1) cc11 1) ((2 * k + 1) - (k + 1)) (cc11 - (k + 1))) ((2 * k + 1) - (k + 1)) (((R.drop (k + 1)).take ((2 * k + 1) - (k + 1))).flatMap blc) :: Im 1 (.slice pp10 R.length cc11) R.length (R.flatMap blc) :: (F.set i emp)) := by rw [show (R.drop (2 * k + 1)).length = R.length - (2 * k + 1) from by simp only [List.length_drop, List.length_take]; (try omega)]; exact H107
 have H109 : St W w105 (RSrc b (R.drop (2 * k + 1)) :: Im 1 (.slice (cutAt pp10 (k + 1) cc11 1) ((2 * k + 1) - (k + 1)) (cc11 - (k + 1))) ((2 * k + 1) - (k + 1)) (((R.drop (k + 1)).take ((2 * k + 1) - (k + 1))).flatMap blc) :: Im 1 (.slice pp10 R.length cc11) R.length (R.flatMap blc) :: (F.set i emp)) := St.shut_ex (.slice (cutAt pp10 (2 * k + 1) cc11 1) (R.length - (2 * k + 1)) (cc11 - (2 * k + 1))) (St.shut_star (ls := [blk b (.cells #[.slice (cutAt pp10 (2 * k + 1) cc11 1) (R.length - (2 * k + 1)) (cc11 - (2 * k + 1))] 129 (0, 0)), Im 1 (.slice (cutAt pp10 (2 * k + 1) cc11 1) (R.length - (2 * k + 1)) (cc11 - (2 * k + 1))) ((R.drop (2 * k + 1)).length) ((R.drop (2 * k + 1)).flatMap blc)]) H108)
 have H110 : St W w105 (_ :: (F.set i emp)) := ((H109.drop 1 rfl).drop 1 rfl)
 have hE : natE R = 0 := natE_0 t0 t0 t49
 have hN : natN R = 2 * k + 1 := by rw [natN_0 hE]; omega
 have hv : (natU R : Int) = ((2 ^ k + valOf ((R.drop (k + 1)).take (2 * k + 1 - (k + 1))) - 1 : Nat) : Int) := by rw [natU_is hE t0, ← hlow, hzz]; congr 1; omega
 exact ⟨by rw [hE, hv]; rfl, by rw [hN]; exact St.back hi H110⟩
set_option maxHeartbeats 4000000 in
set_option maxRecDepth 100000 in
theorem RSrc_Num {W w : World} {F : List Atom} (b : Nat) (R : List Bool) {i : Nat} (hi : F[i]? = some (RSrc b R)) (H : St W w F) : Calls Tryz.prog 135 #[.pointer (some ⟨b, 0, none⟩)] w (Ret fun v w' => v = .tuple #[.int .i64 (zagN (natU R)), .int .i64 (natE R)] ∧ St W w' (F.set i (RSrc b (R.drop (natN R))))) := by
 have H0 := H.front hi
 refine calls_of_go (n := 25) Tryz.func135 rfl Tryz.ntmps135 rfl ?_
 refine g_seq (g_region (Ag (.int .i64 0) (Ag (.int .i64 0) (r_nil (g_seq (g_region (Mv (.pointer (some ⟨b, 0, none⟩)) (rc (s_call [.pointer (some ⟨b, 0, none⟩)] pl_80 rfl rfl (RSrc_Nat b R   (i := 0) rfl H0) ?_)))))))))
 rintro _ w1 ⟨rfl, H2⟩
 refine Mv (.tuple #[.int .u64 (natU R : Int), .int .i64 (natE R)]) (Ex (.int .u64 (natU R : Int)) (Ex (.int .i64 (natE R)) (Ag (.int .u64 (natU R : Int)) (Ag (.int .i64 (natE R)) (r_nil (g_seq (g_seq (g_region (Mv (.int .i64 (natE R)) ?_)))))))))
 by_cases hc3 : natE R = 0
 ·refine rc (s_neq false rfl rfl (ntrue hc3) rfl (r_nil (g_false rfl (g_skip (g_seq (g_seq (g_region (Mv (.int .u64 (natU R : Int)) ?_))))))))
  have hlt := natU_lt R
  refine rc (s_rem ((natU R : Int) % 2) rfl rfl t0 (tmod_pos t0) rfl ?_)
  by_cases hc4 : (natU R : Int) % 2 = 1
  ·refine rc (s_eql true rfl rfl (dtrue hc4) rfl (r_nil (g_true rfl (g_seq (g_region (Mv (.int .u64 (natU R : Int)) (rc (s_quo ((natU R : Int) / 2) rfl rfl t0 (by rw [tdiv_pos t0]; exact wu64 t0) rfl (rc (s_conv ((natU R : Int) / 2) rfl us_61 ik_2 (wi64 t0) rfl (rc (s_neg (-((natU R : Int) / 2)) rfl (wi64 t0) rfl (rc (s_sub (-((natU R : Int) / 2) - 1) rfl rfl (wi64 t0) rfl (Ag (.int .i64 (-((natU R : Int) / 2) - 1)) (Ag (.int .i64 0) (r_nil (Gr [.int .i64 (-((natU R : Int) / 2) - 1), .int .i64 0] Tryz.func135 Tryz.results135 ?_))))))))))))))))))
   have H5 : St W w1 (_ :: (F.set i emp)) := H2
   have hz : zagN (natU R) = -((natU R : Int) / 2) - 1 := by unfold zagN; first | (rw [if_pos t0]; done) | (rw [if_neg t0]; done) | (rw [if_pos t0]; omega) | (rw [if_neg t0]; omega)
   have hE : natE R = 0 := by assumption
   exact ⟨by rw [hE, hz]; rfl, St.back hi H5⟩
  refine rc (s_eql false rfl rfl (dfalse hc4) rfl (r_nil (g_false rfl (g_skip (g_seq (g_region (Mv (.int .u64 (natU R : Int)) (rc (s_quo ((natU R : Int) / 2) rfl rfl t0 (by rw [tdiv_pos t0]; exact wu64 t0) rfl (rc (s_conv ((natU R : Int) / 2) rfl us_61 ik_2 (wi64 t0) rfl (Ag (.int .i64 ((natU R : Int) / 2)) (Ag (.int .i64 0) (r_nil (Gr [.int .i64 ((natU R : Int) / 2), .int .i64 0] Tryz.func135 Tryz.results135 ?_)))))))))))))))
  have H6 : St W w1 (_ :: (F.set i emp)) := H2
  have hz : zagN (natU R) = (natU R : Int) / 2 := by unfold zagN; first | (rw [if_pos t0]; done) | (rw [if_neg t0]; done) | (rw [if_pos t0]; omega) | (rw [if_neg t0]; omega)
  have hE : natE R = 0 := by assumption
  exact ⟨by rw [hE, hz]; rfl, St.back hi H6⟩
 refine rc (s_neq true rfl rfl (nfalse hc3) rfl (r_nil (g_true rfl (g_seq (g_region (Mv (.int .i64 (natE R)) (Ag (.int .i64 0) (Ag (.int .i64 (natE R)) (r_nil (Gr [.int .i64 0, .int .i64 (natE R)] Tryz.func135 Tryz.results135 ?_))))))))))
 have H7 : St W w1 (_ :: (F.set i emp)) := H2
 have hE : ¬ natE R = 0 := by assumption
 exact ⟨by rw [natU_no hE]; rfl, St.back hi H7⟩
set_option maxHeartbeats 4000000 in
set_option maxRecDepth 100000 in
theorem RSrc_End {W w : World} {F : List Atom} (b : Nat) (R : List Bool) {i : Nat} (hi : F[i]? = some (RSrc b R)) (H : St W w F) : Calls Tryz.prog 45 #[.pointer (some ⟨b, 0, none⟩)] w (Ret fun v w' => v = .int .i64 (endE R) ∧ St W w' F) := by
 have H0 := H.front hi
 refine calls_of_go (n := 26) Tryz.func45 rfl Tryz.ntmps45 rfl ?_
 refine g_seq (g_region (Ag (.int .i64 0) (r_nil (g_seq (g_seq (g_region (Mv (.pointer (some ⟨b, 0, none⟩)) (Nc (.pointer (some ⟨b, 0, none⟩)) (Fa 0 fi_129_0 rfl ?_)))))))))
 have H1 := H0.move 0 rfl
 obtain ⟨vv2, H3⟩ := St.open_ex H1
 have H4 := St.open_star H3
 obtain ⟨pp5, cc6, gA7, oA8, kA9, eA10, zA11, rfl, hn12, hp13, hx14, hs15, hml, H16⟩ := Im.open_ H4 (i := 1) rfl
 have H17 : St W w (_ :: _ :: _ :: (F.set i emp)) := H16
 refine Lo (.slice pp5 R.length cc6) ag_39 H17 1 (rc (s_len R.length rfl ⟨_, un_39⟩ rfl ?_))
 by_cases hc18 : (7 : Int) < (R.length : Int)
 ·refine rc (s_gtr true rfl rfl (dtrue hc18) rfl (r_nil (g_true rfl (g_seq (g_region (Ag (.int .i64 12) (r_nil (Gr [.int .i64 12] Tryz.func45 Tryz.results45 ?_))))))))
  have H19 : St W w (_ :: _ :: (F.set i emp)) := (((H17.move 2 rfl).move 2 rfl).drop 2 rfl)
  have H20 : St W w (RSrc b R :: (F.set i emp)) := St.shut_ex (.slice pp5 R.length cc6) (St.shut_star (ls := [blk b (.cells #[.slice pp5 R.length cc6] 129 (0, 0)), Im 1 (.slice pp5 R.length cc6) R.length (R.flatMap blc)]) H19)
  have H21 : St W w (_ :: (F.set i emp)) := H20
  exact ⟨vint t41, St.back_same hi H21⟩
 refine rc (s_gtr false rfl rfl (dfalse hc18) rfl (r_nil (g_false rfl (g_skip (g_seq (g_seq (g_region (Ag (.int .i64 0) (r_nil (g_block ?_))))))))))
 have H22 : St W w (_ :: _ :: (F.set i emp)) := (((H17.move 2 rfl).move 2 rfl).drop 2 rfl)
 have H23 : St W w (RSrc b R :: (F.set i emp)) := St.shut_ex (.slice pp5 R.length cc6) (St.shut_star (ls := [blk b (.cells #[.slice pp5 R.length cc6] 129 (0, 0)), Im 1 (.slice pp5 R.length cc6) R.length (R.flatMap blc)]) H22)
 have H24 : St W w (_ :: (F.set i emp)) := H23
 refine g_loop_inv (fun (x_ : Nat) => match x_ with | k => [(0, .pointer (some ⟨b, 0, none⟩)), (2, .int .i64 0), (3, .int .i64 (k : Int))]) (fun (x_ : Nat) w => match x_ with | k => (k ≤ R.length) ∧ (∀ j, j < k → R.getD j false = false) ∧ St W w (RSrc b R :: (F.set i emp))) (fun (x_ : Nat) => match x_ with | k => R.length - k) (0) ?_ ?_ ?_
 ·exact t2
 ·exact ⟨t0, (fun j hj => by omega), H24⟩
 rintro k ρ25 w26 ⟨hk, hz, H27⟩ nx28
 change Ends _ _ (upds ρ25 [(0, .pointer (some ⟨b, 0, none⟩)), (2, .int .i64 0), (3, .int .i64 (k : Int))]) w26
 refine g_seq (g_seq (g_region (Mv (.int .i64 (k : Int)) (Mv (.pointer (some ⟨b, 0, none⟩)) (Nc (.pointer (some ⟨b, 0, none⟩)) (Fa 0 fi_129_0 rfl ?_))))))
 have H29 := H27.move 0 rfl
 obtain ⟨vv30, H31⟩ := St.open_ex H29
 have H32 := St.open_star H31
 obtain ⟨pp33, cc34, gA35, oA36, kA37, eA38, zA39, rfl, hn40, hp41, hx42, hs43, hml, H44⟩ := Im.open_ H32 (i := 1) rfl
 have H45 : St W w26 (_ :: _ :: _ :: (F.set i emp)) := H44
 refine Lo (.slice pp33 R.length cc34) ag_39 H45 1 (rc (s_len R.length rfl ⟨_, un_39⟩ rfl ?_))
 by_cases hc46 : (k : Int) < (R.length : Int)
 ·refine rc (s_lss true rfl rfl (dtrue hc46) rfl (r_nil (g_true rfl (g_skip (g_seq (g_block (g_seq (g_region (Mv (.pointer (some ⟨b, 0, none⟩)) (Nc (.pointer (some ⟨b, 0, none⟩)) (Fa 0 fi_129_0 rfl (Lo (.slice pp33 R.length cc34) ag_39 H45 1 (Mv (.int .i64 (k : Int)) (rc (s_indexAddr gA35 (off := oA36) (k : Int) 1 (oA36 + k * 1) (by exact congrArg (fun z_ => Value.slice z_ R.length cc34) (hp41 t0)) rfl el_39 t0 rfl rfl (rc (s_load (.bool (R.getD k false)) ag_4 rfl (H45.imi_at (i := 0) rfl t0) (elem_cell (L := R) (i := k) blc_len (hx42 t0) t0 false 0 t10 _ rfl) rfl (r_nil ?_))))))))))))))))))
  by_cases hb47 : (R.getD k false) = true
  ·refine g_true (congrArg Value.bool hb47) (g_seq (g_region (Ag (.int .i64 12) (r_nil (Gr [.int .i64 12] Tryz.func45 Tryz.results45 ?_)))))
   have H48 : St W w26 (_ :: _ :: (F.set i emp)) := (((H45.move 2 rfl).move 2 rfl).drop 2 rfl)
   have H49 : St W w26 (RSrc b R :: (F.set i emp)) := St.shut_ex (.slice pp33 R.length cc34) (St.shut_star (ls := [blk b (.cells #[.slice pp33 R.length cc34] 129 (0, 0)), Im 1 (.slice pp33 R.length cc34) R.length (R.flatMap blc)]) H48)
   have H50 : St W w26 (_ :: (F.set i emp)) := H49
   exact ⟨vint t41, St.back_same hi H50⟩
  have hb47 := eq_false_of_ne_true hb47
  refine g_false (congrArg Value.bool hb47) (g_skip (g_inBlock (g_region (Mv (.int .i64 (k : Int)) (rc (s_add ((k : Int) + 1) rfl rfl (wi64 t0) rfl (Ag (.int .i64 ((k : Int) + 1)) (r_nil ?_))))))))
  have H51 : St W w26 (_ :: _ :: (F.set i emp)) := (((H45.move 2 rfl).move 2 rfl).drop 2 rfl)
  have H52 : St W w26 (RSrc b R :: (F.set i emp)) := St.shut_ex (.slice pp33 R.length cc34) (St.shut_star (ls := [blk b (.cells #[.slice pp33 R.length cc34] 129 (0, 0)), Im 1 (.slice pp33 R.length cc34) R.length (R.flatMap blc)]) H51)
  have H53 : St W w26 (_ :: (F.set i emp)) := H52
  exact nx28 (k + 1) _ _ ⟨t0, (fun j hj => (Nat.lt_or_ge j k).elim (hz j) (fun h => by rw [show j = k from by omega]; exact hb47)), H53⟩ t9 t2
 refine rc (s_lss false rfl rfl (dfalse hc46) rfl (r_nil (g_false rfl (g_exit t40 (g_seq (g_region (Ag (.int .i64 0) (r_nil (Gr [.int .i64 0] Tryz.func45 Tryz.results45 ?_)))))))))
 have H54 : St W w26 (_ :: _ :: (F.set i emp)) := (((H45.move 2 rfl).move 2 rfl).drop 2 rfl)
 have H55 : St W w26 (RSrc b R :: (F.set i emp)) := St.shut_ex (.slice pp33 R.length cc34) (St.shut_star (ls := [blk b (.cells #[.slice pp33 R.length cc34] 129 (0, 0)), Im 1 (.slice pp33 R.length cc34) R.length (R.flatMap blc)]) H54)
 have H56 : St W w26 (_ :: (F.set i emp)) := H55
 exact ⟨vint t41, St.back_same hi H56⟩
set_option maxHeartbeats 4000000 in
set_option maxRecDepth 100000 in
theorem RSrc_Text {W w : World} {F : List Atom} (b : Nat) (R : List Bool) (hRl : R.length ≤ 1125899906842624) {i : Nat} (hi : F[i]? = some (RSrc b R)) (H : St W w F) : Calls Tryz.prog 118 #[.pointer (some ⟨b, 0, none⟩)] w (Ret fun v w' => v = .tuple #[.string (textS R), .int .i64 (textE R)] ∧ St W w' (F.set i (RSrc b (R.drop (textN R))))) := by
 have H0 := H.front hi
 refine calls_of_go (n := 53) Tryz.func118 rfl Tryz.ntmps118 rfl ?_
 refine g_seq (g_region (Ag (.string ByteArray.empty) (Ag (.int .i64 0) (r_nil (g_seq (g_region (Mv (.pointer (some ⟨b, 0, none⟩)) (Nc (.pointer (some ⟨b, 0, none⟩)) (Fa 0 fi_129_0 rfl ?_)))))))))
 have H1 := H0.move 0 rfl
 obtain ⟨vv2, H3⟩ := St.open_ex H1
 have H4 := St.open_star H3
 obtain ⟨pp5, cc6, gA7, oA8, kA9, eA10, zA11, rfl, hn12, hp13, hx14, hs15, hml, H16⟩ := Im.open_ H4 (i := 1) rfl
 have H17 : St W w (_ :: _ :: _ :: (F.set i emp)) := H16
 refine Lo (.slice pp5 R.length cc6) ag_39 H17 1 ?_
 have H18 : St W w (Im 1 (.slice pp5 R.length cc6) R.length (R.flatMap blc) :: imi (0 < R.length) gA7 (.cells kA9 eA10 zA11) :: blk b (.cells #[.slice pp5 R.length cc6] 129 (0, 0)) :: Im 1 (.slice pp5 R.length cc6) R.length (R.flatMap blc) :: (F.set i emp)) := H17.dup (i := 2) rfl (Im_pers _ _ _ _)
 refine Ag (.slice pp5 R.length cc6) (r_nil (g_seq (g_region (Mv (.pointer (some ⟨b, 0, none⟩)) ?_))))
 have H19 : St W w (_ :: _ :: _ :: (F.set i emp)) := ((((H18.move 3 rfl).move 1 rfl).move 3 rfl).drop 3 rfl)
 have H20 : St W w (RSrc b R :: Im 1 (.slice pp5 R.length cc6) R.length (R.flatMap blc) :: (F.set i emp)) := St.shut_ex (.slice pp5 R.length cc6) (St.shut_star (ls := [blk b (.cells #[.slice pp5 R.length cc6] 129 (0, 0)), Im 1 (.slice pp5 R.length cc6) R.length (R.flatMap blc)]) H19)
 refine rc (s_call [.pointer (some ⟨b, 0, none⟩)] pl_80 rfl rfl (RSrc_Nat b R   (i := 0) rfl H20) ?_)
 rintro _ w21 ⟨rfl, H22⟩
 refine Mv (.tuple #[.int .u64 (natU R : Int), .int .i64 (natE R)]) (Ex (.int .u64 (natU R : Int)) (Ex (.int .i64 (natE R)) (Ag (.int .u64 (natU R : Int)) (Ag (.int .i64 (natE R)) (r_nil (g_seq (g_seq (g_region (Mv (.int .i64 (natE R)) ?_)))))))))
 by_cases hc23 : natE R = 0
 ·refine rc (s_neq false rfl rfl (ntrue hc23) rfl (r_nil (g_false rfl (g_skip (g_seq (g_seq (g_region (Mv (.int .u64 (natU R : Int)) (Mv (.pointer (some ⟨b, 0, none⟩)) (Nc (.pointer (some ⟨b, 0, none⟩)) (Fa 0 fi_129_0 rfl ?_)))))))))))
  have H24 := H22.move 0 rfl
  obtain ⟨vv25, H26⟩ := St.open_ex H24
  have H27 := St.open_star H26
  obtain ⟨pp28, cc29, gA30, oA31, kA32, eA33, zA34, rfl, hn35, hp36, hx37, hs38, hml, H39⟩ := Im.open_ H27 (i := 1) rfl
  have H40 : St W w21 (_ :: _ :: _ :: _ :: (F.set i emp)) := H39
  refine Lo (.slice pp28 ((R.drop (natN R)).length) cc29) ag_39 H40 1 ?_
  have hL := List.length_drop (i := natN R) (l := R)
  refine rc (s_len ((R.drop (natN R)).length) rfl ⟨_, un_39⟩ rfl (rc (s_quo ((((R.drop (natN R)).length) / 8 : Nat) : Int) rfl rfl t0 t52 rfl (rc (s_conv ((((R.drop (natN R)).length) / 8 : Nat) : Int) rfl us_3 ik_61 (wu64 t0) rfl ?_)))))
  by_cases hc41 : ((((R.drop (natN R)).length) / 8 : Nat) : Int) < (natU R : Int)
  ·refine rc (s_gtr true rfl rfl (dtrue hc41) rfl (r_nil (g_true rfl (g_seq (g_region (Mv (.pointer (some ⟨b, 0, none⟩)) (Mv (.slice pp5 R.length cc6) (Nc (.pointer (some ⟨b, 0, none⟩)) (Fa 0 fi_129_0 rfl (rc (s_store H40 1 (.slice pp5 R.length cc6) rfl rfl rfl sz_39 rfl (nbl rfl) rfl (cs' := #[.slice pp5 R.length cc6]) rfl (fun w42 H43 => r_nil (g_seq (g_region (Ag (.string ByteArray.empty) (Ag (.int .i64 10) (r_nil (Gr [.string ByteArray.empty, .int .i64 10] Tryz.func118 Tryz.results118 ?_))))))))))))))))))
   have H44 : St W w42 (_ :: _ :: _ :: (F.set i emp)) := ((((H43.move 2 rfl).move 3 rfl).move 3 rfl).drop 3 rfl)
   have H45 : St W w42 (RSrc b R :: Im 1 (.slice pp28 ((R.drop (natN R)).length) cc29) ((R.drop (natN R)).length) ((R.drop (natN R)).flatMap blc) :: (F.set i emp)) := St.shut_ex (.slice pp5 R.length cc6) (St.shut_star (ls := [blk b (.cells #[.slice pp5 R.length cc6] 129 (0, 0)), Im 1 (.slice pp5 R.length cc6) R.length (R.flatMap blc)]) H44)
   have H46 : St W w42 (_ :: (F.set i emp)) := (H45.drop 1 rfl)
   have hT : textE R = 10 := textE_10 t11 t0
   have hT0 : ¬ textE R = 0 := by rw [hT]; first | assumption | decide
   exact ⟨by rw [textS_0 hT0, hT]; rfl, by rw [textN_no hT0, List.drop_zero]; exact St.back hi H46⟩
  refine rc (s_gtr false rfl rfl (dfalse hc41) rfl (r_nil (g_false rfl (g_skip (g_seq (g_region (Ag (.slice none 0 0) (r_nil (g_seq (g_seq (g_region (Ag (.int .u64 0) (r_nil (g_block ?_))))))))))))))
  have H47 : St W w21 (_ :: _ :: _ :: (F.set i emp)) := ((((H40.move 3 rfl).move 3 rfl).move 3 rfl).drop 3 rfl)
  have H48 : St W w21 (RSrc b (R.drop (natN R)) :: Im 1 (.slice pp5 R.length cc6) R.length (R.flatMap blc) :: (F.set i emp)) := St.shut_ex (.slice pp28 ((R.drop (natN R)).length) cc29) (St.shut_star (ls := [blk b (.cells #[.slice pp28 ((R.drop (natN R)).length) cc29] 129 (0, 0)), Im 1 (.slice pp28 ((R.drop (natN R)).length) cc29) ((R.drop (natN R)).length) ((R.drop (natN R)).flatMap blc)]) H47)
  have H49 := Row.nil_intro H48 5 1
  have H50 : St W w21 (_ :: _ :: _ :: (F.set i emp)) := H49
  have H51 : St W w21 (_ :: _ :: (F.set i emp)) := (((H50.move 1 rfl).move 1 rfl).drop 2 rfl)
  refine g_loop_inv (fun (x_ : Nat × (Option Addr) × Nat) => match x_ with | (j, pq, cq) => [(0, .pointer (some ⟨b, 0, none⟩)), (2, .string ByteArray.empty), (3, .int .i64 0), (5, .int .u64 (natU R : Int)), (7, .slice pq j cq), (8, .int .u64 (j : Int))]) (fun (x_ : Nat × (Option Addr) × Nat) w => match x_ with | (j, pq, cq) => (j ≤ natU R) ∧ St W w (Row 5 1 (.slice pq j cq) j (((List.range j).map (byteT R)).flatMap u8c) :: RSrc b (R.drop (natN R + 8 * j)) :: (F.set i emp))) (fun (x_ : Nat × (Option Addr) × Nat) => match x_ with | (j, pq, cq) => natU R - j) (0, none, 0) ?_ ?_ ?_
  ·exact t2
  ·exact ⟨t0, H51⟩
  rintro ⟨j, pq, cq⟩ ρ52 w53 ⟨hj, H54⟩ nx55
  change Ends _ _ (upds ρ52 [(0, .pointer (some ⟨b, 0, none⟩)), (2, .string ByteArray.empty), (3, .int .i64 0), (5, .int .u64 (natU R : Int)), (7, .slice pq j cq), (8, .int .u64 (j : Int))]) w53
  refine g_seq (g_seq (g_region (Mv (.int .u64 (j : Int)) (Mv (.int .u64 (natU R : Int)) ?_))))
  by_cases hc56 : (j : Int) < (natU R : Int)
  ·refine rc (s_lss true rfl rfl (dtrue hc56) rfl (r_nil (g_true rfl (g_skip (g_seq (g_block (g_seq (g_region (Mv (.pointer (some ⟨b, 0, none⟩)) ?_)))))))))
   have hL3 := List.length_drop (i := natN R + 8 * j) (l := R)
   have hE8 : srcE (R.drop (natN R + 8 * j)) 8 = 0 := srcE_0 t0 t0
   have hN8 : srcN (R.drop (natN R + 8 * j)) 8 = 8 := srcN_0 hE8
   have hU8 : srcU (R.drop (natN R + 8 * j)) 8 < 256 := srcU_lt_pow (k := 8)
   have hB8 : byteT R j = UInt8.ofNat (srcU (R.drop (natN R + 8 * j)) 8) := by unfold byteT; rw [srcU_0 hE8]; rfl
   refine rc (s_call [.pointer (some ⟨b, 0, none⟩), .int .i64 8] pl_81 rfl rfl (RSrc_Bits b (R.drop (natN R + 8 * j)) 8  (i := 1) rfl H54) ?_)
   rintro _ w57 ⟨rfl, H58⟩
   refine Mv (.tuple #[.int .u64 (srcU (R.drop (natN R + 8 * j)) 8 : Int), .int .i64 (srcE (R.drop (natN R + 8 * j)) 8)]) (Ex (.int .u64 (srcU (R.drop (natN R + 8 * j)) 8 : Int)) (Ex (.int .i64 (srcE (R.drop (natN R + 8 * j)) 8)) (Ag (.int .u64 (srcU (R.drop (natN R + 8 * j)) 8 : Int)) (Ag (.int .i64 (srcE (R.drop (natN R + 8 * j)) 8)) (r_nil (g_region (Mv (.slice pq j cq) (Mv (.int .u64 (srcU (R.drop (natN R + 8 * j)) 8 : Int)) (rc (s_conv (srcU (R.drop (natN R + 8 * j)) 8 : Int) rfl us_61 ik_5 (wu8 t0) rfl (rc (s_buildSlice H58 1 1 (cs := #[.int .u8 (srcU (R.drop (natN R + 8 * j)) 8 : Int)]) #[.int .u8 0] el_27 ze_5 t10 t10 t7 rfl (fun bk59 w60 H61 => rc (s_append H61 1 rfl rfl rfl (rd_blk (H61.blk_at (i := 0) rfl) rfl (nbl rfl) t26) ap_27 t10 t15 t0 (n' := j + 1) (xs' := ((List.range (j + 1)).map (byteT R)).flatMap u8c) t0 (by rw [List.range_succ, List.map_append, List.flatMap_append]; congr 1; show [Value.int .u8 (srcU (R.drop (natN R + 8 * j)) 8 : Int)] = [Value.int .u8 ((byteT R j).toNat : Int)]; rw [hB8, u8_nat hU8]) rfl ?_)))))))))))))); intro vv62 w63 H64 hn65
   obtain ⟨pp66, cc67, rfl⟩ := Row.slice H64 (i := 1) rfl
   refine Ag (.slice pp66 (j + 1) cc67) (r_nil (g_inBlock (g_region (Mv (.int .u64 (j : Int)) (rc (s_add ((j : Int) + 1) rfl rfl (wu64 t0) rfl (Ag (.int .u64 ((j : Int) + 1)) (r_nil ?_))))))))
   have H68 : St W w63 (blk bk59 (.cells #[.int .u8 (srcU (R.drop (natN R + 8 * j)) 8 : Int)] 5 (0, 0)) :: Row 5 1 (.slice pp66 (j + 1) cc67) (j + 1) (((List.range (j + 1)).map (byteT R)).flatMap u8c) :: RSrc b (R.drop (natN R + 8 * (j + 1))) :: (F.set i emp)) := by rw [show R.drop (natN R + 8 * (j + 1)) = (R.drop (natN R + 8 * j)).drop (srcN (R.drop (natN R + 8 * j)) 8) from by rw [hN8, List.drop_drop]; congr 1 <;> omega]; exact H64
   have H69 : St W w63 (_ :: _ :: (F.set i emp)) := (((H68.move 2 rfl).move 2 rfl).drop 2 rfl)
   exact nx55 (j + 1, pp66, cc67) _ _ ⟨t0, H69⟩ t9 t2
  refine rc (s_lss false rfl rfl (dfalse hc56) rfl (r_nil (g_false rfl (g_exit t40 (g_seq (g_region (Mv (.slice pq j cq) (rc (s_bytes_str (xs := ((List.range j).map (byteT R))) rfl (by rw [bytesV_flat]; exact (Row.rd H54 (i := 0) rfl)) un_27 un_5 un_9 rfl (Ag (.string (⟨(((List.range j).map (byteT R))).toArray⟩)) (Ag (.int .i64 0) (r_nil (Gr [.string (⟨(((List.range j).map (byteT R))).toArray⟩), .int .i64 0] Tryz.func118 Tryz.results118 ?_)))))))))))))
  have H70 : St W w53 (_ :: (F.set i emp)) := ((H54.move 1 rfl).drop 1 rfl)
  have hT : textE R = 0 := textE_0 t11 t0
  obtain rfl : j = natU R := by omega
  exact ⟨by rw [hT, show textS R = ⟨((List.range (natU R)).map (byteT R)).toArray⟩ from by unfold textS textBytes; rw [if_pos hT]]; rfl, by rw [textN_0 hT]; exact St.back hi H70⟩
 refine rc (s_neq true rfl rfl (nfalse hc23) rfl (r_nil (g_true rfl (g_seq (g_region (Mv (.int .i64 (natE R)) (Ag (.string ByteArray.empty) (Ag (.int .i64 (natE R)) (r_nil (Gr [.string ByteArray.empty, .int .i64 (natE R)] Tryz.func118 Tryz.results118 ?_))))))))))
 have H71 : St W w21 (_ :: (F.set i emp)) := (H22.drop 1 rfl)
 have hT : textE R = natE R := textE_nat t11
 have hT0 : ¬ textE R = 0 := by rw [hT]; first | assumption | decide
 exact ⟨by rw [textS_0 hT0, hT]; rfl, by rw [textN_no hT0, List.drop_zero]; have hx := H71; rw [natN_no t11, List.drop_zero] at hx; exact St.back hi hx⟩
set_option maxHeartbeats 4000000 in
set_option maxRecDepth 100000 in
theorem RSrc_New {W w : World} {F : List Atom} (bs : List UInt8) (v0 : Value) (hb : bs.length ≤ 17592186044416) {j : Nat} (hj : F[j]? = some (Im 1 v0 bs.length (bs.flatMap u8c))) (H : St W w F) : Calls Tryz.prog 43 #[v0] w (Ret fun v w' => ∃ k, v = .pointer (some ⟨k, 0, none⟩) ∧ St W w' (RSrc k (bitsOf bs) :: F)) := by
 obtain ⟨pA1, cA2, gA3, oA4, kA5, eA6, zA7, rfl, hn8, hp9, hx10, hs11, hml, H12⟩ := Im.open_ H hj
 refine calls_of_go (n := 28) Tryz.func43 rfl Tryz.ntmps43 rfl ?_
 refine g_seq (g_region (Ag (.pointer none) (r_nil (g_seq (g_region (rc (s_build (cs := #[.slice none 0 0]) t7 rfl (Bx H12 129 #[.slice none 0 0] (fun bk13 w14 H15 => Ag (.pointer (some ⟨bk13, 0, none⟩)) (r_nil (g_seq (g_seq (g_region (Ag (.int .i64 0) (r_nil (g_block ?_))))))))))))))))
 have H16 : St W w14 (_ :: _ :: F) := ((H15.move 1 rfl).move 1 rfl)
 have H17 := Row.nil_intro H16 4 1
 refine g_loop_inv (fun (x_ : Nat × (Option Addr) × Nat) => match x_ with | (j, pq, cq) => [(0, .slice pA1 bs.length cA2), (2, .pointer none), (3, .pointer (some ⟨bk13, 0, none⟩)), (4, .int .i64 (j : Int))]) (fun (x_ : Nat × (Option Addr) × Nat) w => match x_ with | (j, pq, cq) => (j ≤ bs.length) ∧ St W w (Row 4 1 (.slice pq (8 * j) cq) (8 * j) ((bitsOf (bs.take j)).flatMap blc) :: blk bk13 (.cells #[.slice pq (8 * j) cq] 129 (0, 0)) :: imi (0 < bs.length) gA3 (.cells kA5 eA6 zA7) :: F)) (fun (x_ : Nat × (Option Addr) × Nat) => match x_ with | (j, pq, cq) => bs.length - j) (0, none, 0) ?_ ?_ ?_
 ·exact t2
 ·exact ⟨t0, H17⟩
 rintro ⟨j, pq, cq⟩ ρ18 w19 ⟨hj, H20⟩ nx21
 change Ends _ _ (upds ρ18 [(0, .slice pA1 bs.length cA2), (2, .pointer none), (3, .pointer (some ⟨bk13, 0, none⟩)), (4, .int .i64 (j : Int))]) w19
 have hlt := (bs.getD j 0).toNat_lt
 refine g_seq (g_seq (g_region (Mv (.int .i64 (j : Int)) (Mv (.slice pA1 bs.length cA2) (rc (s_len bs.length rfl ⟨_, un_27⟩ rfl ?_))))))
 by_cases hc22 : (j : Int) < (bs.length : Int)
 ·refine rc (s_lss true rfl rfl (dtrue hc22) rfl (r_nil (g_true rfl (g_skip (g_seq (g_block ?_))))))
  refine g_cut (fun (x_ : Option Addr × Nat × Option Addr × Nat) => match x_ with | (pp23, cc24, pp31, cc32) => [(0, .slice pA1 bs.length cA2), (2, .pointer none), (3, .pointer (some ⟨bk13, 0, none⟩)), (4, .int .i64 (j : Int)), (7, .int .i64 (j : Int)), (8, .slice pA1 bs.length cA2), (9, .int .i64 (bs.length : Int)), (10, .bool true), (13, .pointer (some ⟨bk13, 0, none⟩)), (14, .pointer (some ⟨bk13, 0, none⟩)), (15, .pointer (some ⟨bk13, 0, none⟩)), (16, .pointer (some ⟨bk13, 0, none⟩)), (17, .slice pq (8 * j) cq), (18, .slice pA1 bs.length cA2), (19, .int .i64 (j : Int)), (20, .pointer (some ⟨gA3, oA4 + j * 1, none⟩)), (21, .int .u8 ((bs.getD j 0).toNat : Int)), (22, .int .u64 ((bs.getD j 0).toNat : Int)), (23, .slice pp23 8 cc24), (24, .slice pp31 (8 * (j + 1)) cc32), (25, .pointer (some ⟨bk13, 0, none⟩)), (26, .pointer (some ⟨bk13, 0, none⟩))]) (fun (x_ : Option Addr × Nat × Option Addr × Nat) w => match x_ with | (pp23, cc24, pp31, cc32) => St W w (Row 4 1 (.slice pp23 8 cc24) 8 ((lowB ((bs.getD j 0).toNat) 8).flatMap blc) :: Row 4 1 (.slice pp31 (8 * (j + 1)) cc32) (8 * (j + 1)) ((bitsOf (bs.take (j + 1))).flatMap blc) :: blk bk13 (.cells #[.slice pp31 (8 * (j + 1)) cc32] 129 (0, 0)) :: imi (0 < bs.length) gA3 (.cells kA5 eA6 zA7) :: F)) ?_ ?_
  ·rintro ⟨pp23, cc24, pp31, cc32⟩ ρ26 w24 H25
   change Ends _ _ (upds ρ26 [(0, .slice pA1 bs.length cA2), (2, .pointer none), (3, .pointer (some ⟨bk13, 0, none⟩)), (4, .int .i64 (j : Int)), (7, .int .i64 (j : Int)), (8, .slice pA1 bs.length cA2), (9, .int .i64 (bs.length : Int)), (10, .bool true), (13, .pointer (some ⟨bk13, 0, none⟩)), (14, .pointer (some ⟨bk13, 0, none⟩)), (15, .pointer (some ⟨bk13, 0, none⟩)), (16, .pointer (some ⟨bk13, 0, none⟩)), (17, .slice pq (8 * j) cq), (18, .slice pA1 bs.length cA2), (19, .int .i64 (j : Int)), (20, .pointer (some ⟨gA3, oA4 + j * 1, none⟩)), (21, .int .u8 ((bs.getD j 0).toNat : Int)), (22, .int .u64 ((bs.getD j 0).toNat : Int)), (23, .slice pp23 8 cc24), (24, .slice pp31 (8 * (j + 1)) cc32), (25, .pointer (some ⟨bk13, 0, none⟩)), (26, .pointer (some ⟨bk13, 0, none⟩))]) w24
   refine g_inBlock (g_region (Mv (.int .i64 (j : Int)) (rc (s_add ((j : Int) + 1) rfl rfl (wi64 t0) rfl (Ag (.int .i64 ((j : Int) + 1)) (r_nil ?_))))))
   have H27 : St W w24 (_ :: _ :: _ :: F) := ((((H25.move 3 rfl).move 3 rfl).move 3 rfl).drop 3 rfl)
   exact nx21 (j + 1, pp31, cc32) _ _ ⟨t0, H27⟩ t9 t2
  intro join23
  refine g_any mixed 15 rfl ?_
  intro w28 hw29
  have H30 := H20.drew
  rw [← hw29] at H30
  clear hw29
  refine Av 0 rfl (fun w => x_move (.pointer (some ⟨bk13, 0, none⟩)) rfl w) (Av 1 rfl (fun w => x_move (.pointer (some ⟨bk13, 0, none⟩)) rfl w) (Av 2 rfl (fun w => x_nilCheck (.pointer (some ⟨bk13, 0, none⟩)) rfl ⟨_, rfl⟩ w) (Av 3 rfl (fun w => x_fieldAddr 129 0 0 0 39 rfl fi_129_0 rfl w) (Av 5 rfl (fun w => x_move (.slice pA1 bs.length cA2) rfl w) (Av 6 rfl (fun w => x_move (.int .i64 (j : Int)) rfl w) (Av 7 rfl (fun w => x_indexAddr gA3 (off := oA4) (j : Int) 1 (oA4 + j * 1) (by exact congrArg (fun z_ => Value.slice z_ bs.length cA2) (hp9 t0)) rfl el_27 t0 rfl w) ?_))))))
  refine a_all (rs := [4, 8]) t7 t16 ?_
  refine a_cons ⟨_, rfl, ?_⟩ (a_cons ⟨_, rfl, ?_⟩ (fun x hx => absurd hx t16))
  ·refine s_load (.slice pq (8 * j) cq) ag_39 rfl (H30.blk_at (i := 1) rfl) rfl rfl ?_
   change AnyG _ _ _ _ #[true, true, true, true, true, true, true, true, false, false, false, false, false, false, false] _ _
   refine a_all (rs := [8]) t7 t16 ?_
   refine a_cons ⟨_, rfl, ?_⟩ (fun x hx => absurd hx t16)
   refine s_load (.int .u8 ((bs.getD j 0).toNat : Int)) ag_5 rfl (H30.imi_at (i := 2) rfl t0) (elem_cell (L := bs) (i := j) u8c_len (hx10 t0) t0 0 0 t10 _ rfl) rfl ?_
   change AnyG _ _ _ _ #[true, true, true, true, true, true, true, true, true, false, false, false, false, false, false] _ _
   refine Av 9 rfl (fun w => x_conv ((bs.getD j 0).toNat : Int) rfl us_5 ik_61 (wu64 t0) w) ?_
   refine a_all (rs := [10]) t7 t16 ?_
   refine a_cons ⟨_, rfl, ?_⟩ (fun x hx => absurd hx t16)
   refine s_call [.int .u64 ((bs.getD j 0).toNat : Int), .int .i64 8] pl_33 rfl rfl (ref01_Low ((bs.getD j 0).toNat) 8 t0 t0 H30) ?_
   rintro _ w33 ⟨pp31, cc32, rfl, H34⟩
   change AnyG _ _ _ _ #[true, true, true, true, true, true, true, true, true, true, true, false, false, false, false] _ _
   refine a_all (rs := [11]) t7 t16 ?_
   refine a_cons ⟨_, rfl, ?_⟩ (fun x hx => absurd hx t16)
   refine s_append H34 1 rfl rfl rfl (Row.rd H34 (i := 0) rfl) ap_39 t10 t15 t0 (n' := 8 * (j + 1)) (xs' := (bitsOf (bs.take (j + 1))).flatMap blc) t0 (by rw [bitsOf_take t0]; exact List.flatMap_append.symm) rfl ?_; intro vv35 w36 H37 hn38
   obtain ⟨pp39, cc40, rfl⟩ := Row.slice H37 (i := 1) rfl
   change AnyG _ _ _ _ #[true, true, true, true, true, true, true, true, true, true, true, true, false, false, false] _ _
   refine Av 12 rfl (fun w => x_nilCheck (.pointer (some ⟨bk13, 0, none⟩)) rfl ⟨_, rfl⟩ w) (Av 13 rfl (fun w => x_fieldAddr 129 0 0 0 39 rfl fi_129_0 rfl w) ?_)
   refine a_all (rs := [14]) t7 t16 ?_
   refine a_cons ⟨_, rfl, ?_⟩ (fun x hx => absurd hx t16)
   refine s_store H37 2 (.slice pp39 (8 * (j + 1)) cc40) rfl rfl rfl sz_39 rfl (nbl rfl) rfl (cs' := #[.slice pp39 (8 * (j + 1)) cc40]) rfl ?_; intro w41 H42
   change AnyG _ _ _ _ #[true, true, true, true, true, true, true, true, true, true, true, true, true, true, true] _ _
   refine a_done t7 ?_
   exact join23 (pp31, cc32, pp39, cc40) _ _ H42 ⟨rfl, rfl, rfl, rfl, rfl, rfl, rfl, rfl, rfl, rfl, rfl, rfl, rfl, rfl, rfl, rfl, rfl, rfl, rfl, rfl, rfl, rfl, trivial⟩
  refine s_load (.int .u8 ((bs.getD j 0).toNat : Int)) ag_5 rfl (H30.imi_at (i := 2) rfl t0) (elem_cell (L := bs) (i := j) u8c_len (hx10 t0) t0 0 0 t10 _ rfl) rfl ?_
  change AnyG _ _ _ _ #[true, true, true, true, false, true, true, true, true, false, false, false, false, false, false] _ _
  refine Av 9 rfl (fun w => x_conv ((bs.getD j 0).toNat : Int) rfl us_5 ik_61 (wu64 t0) w) ?_
  refine a_all (rs := [4, 10]) t7 t16 ?_
  refine a_cons ⟨_, rfl, ?_⟩ (a_cons ⟨_, rfl, ?_⟩ (fun x hx => absurd hx t16))
  ·refine s_load (.slice pq (8 * j) cq) ag_39 rfl (H30.blk_at (i := 1) rfl) rfl rfl ?_
   change AnyG _ _ _ _ #[true, true, true, true, true, true, true, true, true, true, false, false, false, false, false] _ _
   refine a_all (rs := [10]) t7 t16 ?_
   refine a_cons ⟨_, rfl, ?_⟩ (fun x hx => absurd hx t16)
   refine s_call [.int .u64 ((bs.getD j 0).toNat : Int), .int .i64 8] pl_33 rfl rfl (ref01_Low ((bs.getD j 0).toNat) 8 t0 t0 H30) ?_
   rintro _ w45 ⟨pp43, cc44, rfl, H46⟩
   change AnyG _ _ _ _ #[true, true, true, true, true, true, true, true, true, true, true, false, false, false, false] _ _
   refine a_all (rs := [11]) t7 t16 ?_
   refine a_cons ⟨_, rfl, ?_⟩ (fun x hx => absurd hx t16)
   refine s_append H46 1 rfl rfl rfl (Row.rd H46 (i := 0) rfl) ap_39 t10 t15 t0 (n' := 8 * (j + 1)) (xs' := (bitsOf (bs.take (j + 1))).flatMap blc) t0 (by rw [bitsOf_take t0]; exact List.flatMap_append.symm) rfl ?_; intro vv47 w48 H49 hn50
   obtain ⟨pp51, cc52, rfl⟩ := Row.slice H49 (i := 1) rfl
   change AnyG _ _ _ _ #[true, true, true, true, true, true, true, true, true, true, true, true, false, false, false] _ _
   refine Av 12 rfl (fun w => x_nilCheck (.pointer (some ⟨bk13, 0, none⟩)) rfl ⟨_, rfl⟩ w) (Av 13 rfl (fun w => x_fieldAddr 129 0 0 0 39 rfl fi_129_0 rfl w) ?_)
   refine a_all (rs := [14]) t7 t16 ?_
   refine a_cons ⟨_, rfl, ?_⟩ (fun x hx => absurd hx t16)
   refine s_store H49 2 (.slice pp51 (8 * (j + 1)) cc52) rfl rfl rfl sz_39 rfl (nbl rfl) rfl (cs' := #[.slice pp51 (8 * (j + 1)) cc52]) rfl ?_; intro w53 H54
   change AnyG _ _ _ _ #[true, true, true, true, true, true, true, true, true, true, true, true, true, true, true] _ _
   refine a_done t7 ?_
   exact join23 (pp43, cc44, pp51, cc52) _ _ H54 ⟨rfl, rfl, rfl, rfl, rfl, rfl, rfl, rfl, rfl, rfl, rfl, rfl, rfl, rfl, rfl, rfl, rfl, rfl, rfl, rfl, rfl, rfl, trivial⟩
  refine s_call [.int .u64 ((bs.getD j 0).toNat : Int), .int .i64 8] pl_33 rfl rfl (ref01_Low ((bs.getD j 0).toNat) 8 t0 t0 H30) ?_
  rintro _ w57 ⟨pp55, cc56, rfl, H58⟩
  change AnyG _ _ _ _ #[true, true, true, true, false, true, true, true, true, true, true, false, false, false, false] _ _
  refine a_all (rs := [4]) t7 t16 ?_
  refine a_cons ⟨_, rfl, ?_⟩ (fun x hx => absurd hx t16)
  refine s_load (.slice pq (8 * j) cq) ag_39 rfl (H58.blk_at (i := 2) rfl) rfl rfl ?_
  change AnyG _ _ _ _ #[true, true, true, true, true, true, true, true, true, true, true, false, false, false, false] _ _
  refine a_all (rs := [11]) t7 t16 ?_
  refine a_cons ⟨_, rfl, ?_⟩ (fun x hx => absurd hx t16)
  refine s_append H58 1 rfl rfl rfl (Row.rd H58 (i := 0) rfl) ap_39 t10 t15 t0 (n' := 8 * (j + 1)) (xs' := (bitsOf (bs.take (j + 1))).flatMap blc) t0 (by rw [bitsOf_take t0]; exact List.flatMap_append.symm) rfl ?_; intro vv59 w60 H61 hn62
  obtain ⟨pp63, cc64, rfl⟩ := Row.slice H61 (i := 1) rfl
  change AnyG _ _ _ _ #[true, true, true, true, true, true, true, true, true, true, true, true, false, false, false] _ _
  refine Av 12 rfl (fun w => x_nilCheck (.pointer (some ⟨bk13, 0, none⟩)) rfl ⟨_, rfl⟩ w) (Av 13 rfl (fun w => x_fieldAddr 129 0 0 0 39 rfl fi_129_0 rfl w) ?_)
  refine a_all (rs := [14]) t7 t16 ?_
  refine a_cons ⟨_, rfl, ?_⟩ (fun x hx => absurd hx t16)
  refine s_store H61 2 (.slice pp63 (8 * (j + 1)) cc64) rfl rfl rfl sz_39 rfl (nbl rfl) rfl (cs' := #[.slice pp63 (8 * (j + 1)) cc64]) rfl ?_; intro w65 H66
  change AnyG _ _ _ _ #[true, true, true, true, true, true, true, true, true, true, true, true, true, true, true] _ _
  refine a_done t7 ?_
  exact join23 (pp55, cc56, pp63, cc64) _ _ H66 ⟨rfl, rfl, rfl, rfl, rfl, rfl, rfl, rfl, rfl, rfl, rfl, rfl, rfl, rfl, rfl, rfl, rfl, rfl, rfl, rfl, rfl, rfl, trivial⟩
 refine rc (s_lss false rfl rfl (dfalse hc22) rfl (r_nil (g_false rfl (g_exit t40 (g_seq (g_region (Mv (.pointer (some ⟨bk13, 0, none⟩)) (Ag (.pointer (some ⟨bk13, 0, none⟩)) (r_nil (Gr [.pointer (some ⟨bk13, 0, none⟩)] Tryz.func43 Tryz.results43 ?_))))))))))
 have H67 : St W w19 (_ :: _ :: F) := ((H20.move 1 rfl).drop 2 rfl)
 have H68 := Row.im H67 (i := 1) rfl
 obtain rfl : j = bs.length := by omega
 have H69 : St W w19 (blk bk13 (.cells #[.slice pq (8 * bs.length) cq] 129 (0, 0)) :: Im 1 (.slice pq (8 * bs.length) cq) (bitsOf (bs.take bs.length)).length ((bitsOf (bs.take bs.length)).flatMap blc) :: F) := by rw [show (bitsOf (bs.take bs.length)).length = 8 * bs.length from by rw [List.take_length, bitsOf_len]]; exact H68
 refine ⟨bk13, rfl, ?_⟩
 have hy : St W w19 (RSrc bk13 (bitsOf (bs.take bs.length)) :: F) := St.shut_ex (.slice pq (8 * bs.length) cq) (St.shut_star (ls := [blk bk13 (.cells #[.slice pq (8 * bs.length) cq] 129 (0, 0)), Im 1 (.slice pq (8 * bs.length) cq) (bitsOf (bs.take bs.length)).length ((bitsOf (bs.take bs.length)).flatMap blc)]) H69)
 rw [List.take_length] at hy
 exact hy
set_option maxHeartbeats 4000000 in
set_option maxRecDepth 100000 in
theorem ref01_Pack {W w : World} {F : List Atom} (L : List Bool) (n : Nat) (lv : Value) (hn : L.length = n) (hL : n ≤ 1125899906842624) {j : Nat} (hj : F[j]? = some (Im 1 lv n (L.flatMap blc))) (H : St W w F) : Calls Tryz.prog 35 #[lv] w (Ret fun v w' => ∃ p c, v = .slice p ((L.length + 7) / 8) c ∧ St W w' (Row 5 1 (.slice p ((L.length + 7) / 8) c) ((L.length + 7) / 8) ((pk L).flatMap u8c) :: F)) := by
 subst hn
 obtain ⟨pA1, cA2, gA3, oA4, kA5, eA6, zA7, rfl, hn8, hp9, hx10, hs11, hml, H12⟩ := Im.open_ H hj
 refine calls_of_go (n := 31) Tryz.func35 rfl Tryz.ntmps35 rfl ?_
 refine g_seq (g_region (Ag (.slice none 0 0) (r_nil (g_seq (g_region (Mv (.slice pA1 L.length cA2) (rc (s_len L.length rfl ⟨_, un_39⟩ rfl (rc (s_add ((L.length : Int) + 7) rfl rfl (wi64 t0) rfl (rc (s_quo (((L.length + 7) / 8 : Nat) : Int) rfl rfl t0 (by rw [tdiv_pos t0]; exact (wi64 t0).trans t0) rfl (rc (s_make H12 (((L.length + 7) / 8 : Nat) : Int) 1 1 rfl rfl un_27 in_5 t0 t0 t0 (by exact made_bytes ((L.length + 7) / 8)) rfl ?_)))))))))))))); intro bk13 w14 H15
 have H16 : St W w14 (Row 5 1 (.slice (some ⟨bk13, 0, none⟩) ((L.length + 7) / 8) ((L.length + 7) / 8)) ((L.length + 7) / 8) ((List.replicate ((L.length + 7) / 8) (0 : UInt8)).flatMap u8c) :: imi (0 < L.length) gA3 (.cells kA5 eA6 zA7) :: F) := Row.of_list (xs := (List.replicate ((L.length + 7) / 8) (0 : UInt8)).flatMap u8c) (n := (L.length + 7) / 8) H15 (i := 0) rfl t15 (by simp [flat1, u8c_len, blc_len]) (by intro x hx; first | exact one_u8 _ x hx | exact one_bl _ x hx)
 have H17 : St W w14 (Row 5 1 (.slice (some ⟨bk13, 0, none⟩) ((L.length + 7) / 8) ((L.length + 7) / 8)) ((L.length + 7) / 8) ((pkA L 0).flatMap u8c) :: imi (0 < L.length) gA3 (.cells kA5 eA6 zA7) :: F) := by rw [pkA_zero]; exact H16
 refine Ag (.slice (some ⟨bk13, 0, none⟩) ((L.length + 7) / 8) ((L.length + 7) / 8)) (r_nil (g_seq (g_seq (g_region (Ag (.int .i64 0) (r_nil (g_block ?_)))))))
 have H18 : St W w14 (_ :: _ :: F) := ((H17.move 1 rfl).move 1 rfl)
 refine g_loop_inv (fun (x_ : Nat × (Option Addr) × Nat) => match x_ with | (j, pq, cq) => [(0, .slice pA1 L.length cA2), (2, .slice none 0 0), (3, .slice pq ((L.length + 7) / 8) cq), (4, .int .i64 (j : Int))]) (fun (x_ : Nat × (Option Addr) × Nat) w => match x_ with | (j, pq, cq) => (j ≤ L.length) ∧ St W w (Row 5 1 (.slice pq ((L.length + 7) / 8) cq) ((L.length + 7) / 8) ((pkA L j).flatMap u8c) :: imi (0 < L.length) gA3 (.cells kA5 eA6 zA7) :: F)) (fun (x_ : Nat × (Option Addr) × Nat) => match x_ with | (j, pq, cq) => L.length - j) (0, (some ⟨bk13, 0, none⟩), (L.length + 7) / 8) ?_ ?_ ?_
 ·exact t2
 ·exact ⟨t0, H18⟩
 rintro ⟨j, pq, cq⟩ ρ19 w20 ⟨hj2, H21⟩ nx22
 change Ends _ _ (upds ρ19 [(0, .slice pA1 L.length cA2), (2, .slice none 0 0), (3, .slice pq ((L.length + 7) / 8) cq), (4, .int .i64 (j : Int))]) w20
 refine g_seq (g_seq (g_region (Mv (.int .i64 (j : Int)) (Mv (.slice pA1 L.length cA2) (rc (s_len L.length rfl ⟨_, un_39⟩ rfl ?_))))))
 by_cases hc23 : (j : Int) < (L.length : Int)
 ·refine rc (s_lss true rfl rfl (dtrue hc23) rfl (r_nil (g_true rfl (g_skip (g_seq (g_block (g_seq (g_region (Mv (.slice pA1 L.length cA2) ?_)))))))))
  obtain ⟨bk24, cur25, hp26, h27, h28, h29, h30, h31, H32⟩ := Row.open2 H21 (i := 0) rfl t0
  refine Mv (.int .i64 (j : Int)) (rc (s_indexAddr gA3 (off := oA4) (j : Int) 1 (oA4 + j * 1) (by exact congrArg (fun z_ => Value.slice z_ L.length cA2) (hp9 t0)) rfl el_39 t0 rfl rfl (rc (s_load (.bool (L.getD j false)) ag_4 rfl (H32.imi_at (i := 1) rfl t0) (elem_cell (L := L) (i := j) blc_len (hx10 t0) t0 false 0 t10 _ rfl) rfl (r_nil ?_)))))
  by_cases hb33 : (L.getD j false) = true
  ·refine g_true (congrArg Value.bool hb33) ?_
   have H34 : St W w20 (_ :: _ :: F) := (H32.move 1 rfl)
   refine g_mix (fun t_ w => St W w (imi (0 < L.length) gA3 (.cells kA5 eA6 zA7) :: t_)) (blk bk24 (.cells cur25 5 (0, 0)) :: F) mixed 11 rfl H34.drew ?_
   refine Fv 0 rfl (fun _ w _ => x_move (.slice pq ((L.length + 7) / 8) cq) rfl w) (Fv 1 rfl (fun _ w _ => x_move (.int .i64 (j : Int)) rfl w) (Fv 2 rfl (fun t_ w hw => x_quo ((j : Int) / 8) rfl rfl t0 t52 w) (Fv 3 rfl (fun t_ w hw => x_indexAddr bk24 (off := 0) ((j : Int) / 8) 1 (0 + (j / 8) * 1) (by exact congrArg (fun z_ => Value.slice z_ ((L.length + 7) / 8) cq) ((fun (_ : 0 < 1) => hp26) t0)) rfl el_27 t0 (by rw [show ((j : Int) / 8 : Int).toNat = j / 8 from by omega]) w) (Fv 5 rfl (fun _ w _ => x_move (.int .i64 (j : Int)) rfl w) (Fv 6 rfl (fun t_ w hw => x_rem ((j : Int) % 8) rfl rfl t0 (tmod_pos t0) w) (Fv 7 rfl (fun t_ w hw => x_shr ((2 ^ (7 - j % 8) : Nat) : Int) rfl rfl t0 (shr128 j rfl) w) ?_))))))
   refine f_all (rs := [4]) t7 t16 ?_
   refine a_cons ⟨_, rfl, ?_⟩ (fun x hx => absurd hx t16)
   intro w35 H36
   try dsimp only at H36
   refine s_load (.int .u8 (((pkA L j).getD (j / 8) 0).toNat : Int)) ag_5 rfl (H36.blk_at (i := 1) rfl) (elem_cell (L := pkA L j) (i := j / 8) u8c_len (by rw [(pkA_len L j)]; exact h30) (by have hh : (pkA L j).length = (L.length + 7) / 8 := (pkA_len L j); omega) 0 0 t10 _ rfl) rfl ?_
   refine ⟨blk bk24 (.cells cur25 5 (0, 0)) :: F, ?_, H36⟩
   change FReg _ _ _ _ _ #[true, true, true, true, true, true, true, true, false, false, false] _ _
   refine Fv 8 rfl (fun t_ w hw => x_add ((byteN (L.take j) (j / 8) + 2 ^ (7 - j % 8) : Nat) : Int) rfl rfl (by rw [pkA_getD t0, u8_nat (byteN_lt _ _)]; have hpl := pkA_lt (L := L) (j := j) t0; have hp2 : 0 < 2 ^ (7 - j % 8) := Nat.pow_pos t10; exact (wu8 t0).trans t0) w) (Fv 9 rfl (fun t_ w hw => x_indexAddr bk24 (off := 0) ((j : Int) / 8) 1 (0 + (j / 8) * 1) (by exact congrArg (fun z_ => Value.slice z_ ((L.length + 7) / 8) cq) ((fun (_ : 0 < 1) => hp26) t0)) rfl el_27 t0 (by rw [show ((j : Int) / 8 : Int).toNat = j / 8 from by omega]) w) ?_)
   refine f_all (rs := [10]) t7 t16 ?_
   refine a_cons ⟨_, rfl, ?_⟩ (fun x hx => absurd hx t16)
   intro w37 H38
   try dsimp only at H38
   have hx41 := row_set1 (f := u8c) (L := pkA L j) (cur := cur25) u8c_len (by rw [(pkA_len L j)]; exact h30) (show (pkA L j).length * 1 ≤ cur25.size by rw [(pkA_len L j), h29]; exact Nat.mul_le_mul_right 1 h27) (j := j / 8) (by have hh := (pkA_len L j); omega) 0 (.int .u8 ((byteN (L.take j) (j / 8) + 2 ^ (7 - j % 8) : Nat) : Int)) (UInt8.ofNat (byteN (L.take j) (j / 8) + 2 ^ (7 - j % 8))) ((u8_set (pkA_lt t0)))
   refine s_store H38 1 (.int .u8 ((byteN (L.take j) (j / 8) + 2 ^ (7 - j % 8) : Nat) : Int)) rfl rfl rfl sz_5 rfl (by have hh := (pkA_len L j); have hk := (show (pkA L j).length * 1 ≤ cur25.size by rw [(pkA_len L j), h29]; exact Nat.mul_le_mul_right 1 h27); omega) rfl (cs' := (cur25.setIfInBounds (0 + (j / 8) * 1) (.int .u8 ((byteN (L.take j) (j / 8) + 2 ^ (7 - j % 8) : Nat) : Int)))) rfl ?_; intro w39 H40
   refine ⟨blk bk24 (.cells (cur25.setIfInBounds (0 + (j / 8) * 1) (.int .u8 ((byteN (L.take j) (j / 8) + 2 ^ (7 - j % 8) : Nat) : Int))) 5 (0, 0)) :: F, ?_, H40⟩
   change FReg _ _ _ _ _ #[true, true, true, true, true, true, true, true, true, true, true] _ _
   refine f_done t7 ?_
   intro w42 H43
   refine g_inBlock (g_region (Mv (.int .i64 (j : Int)) (rc (s_add ((j : Int) + 1) rfl rfl (wi64 t0) rfl (Ag (.int .i64 ((j : Int) + 1)) (r_nil ?_))))))
   have H44 := Row.shut2 (p := pq) (n := (L.length + 7) / 8) (c := cq) (size := 1) (xs := (pkA L (j + 1)).flatMap u8c) H43 (i := 1) rfl hp26 h27 h28 (show ((cur25.setIfInBounds (0 + (j / 8) * 1) (.int .u8 ((byteN (L.take j) (j / 8) + 2 ^ (7 - j % 8) : Nat) : Int)))).size = cq * 1 from by rw [Array.size_setIfInBounds]; exact h29) (by have hh : ((cur25.setIfInBounds (0 + (j / 8) * 1) (.int .u8 ((byteN (L.take j) (j / 8) + 2 ^ (7 - j % 8) : Nat) : Int))).toList.drop 0).take (((pkA L j).set (j / 8) (UInt8.ofNat (byteN (L.take j) (j / 8) + 2 ^ (7 - j % 8)))).length * 1) = ((pkA L j).set (j / 8) (UInt8.ofNat (byteN (L.take j) (j / 8) + 2 ^ (7 - j % 8)))).flatMap u8c := hx41; have hk : ((pkA L j).set (j / 8) (UInt8.ofNat (byteN (L.take j) (j / 8) + 2 ^ (7 - j % 8)))).length = (L.length + 7) / 8 := (show ((pkA L j).set (j / 8) (UInt8.ofNat (byteN (L.take j) (j / 8) + 2 ^ (7 - j % 8)))).length = (L.length + 7) / 8 from by first | (rw [List.length_set]; exact (pkA_len L j)) | rw [List.length_set]); rw [hk] at hh; rw [(pkA_true t0 hb33).symm] at hh; exact hh) (one_u8 _)
   have H45 : St W w42 (_ :: _ :: F) := (H44.move 1 rfl)
   exact nx22 (j + 1, pq, cq) _ _ ⟨t0, H45⟩ t9 t2
  have hb33 := eq_false_of_ne_true hb33
  refine g_false (congrArg Value.bool hb33) (g_skip (g_inBlock (g_region (Mv (.int .i64 (j : Int)) (rc (s_add ((j : Int) + 1) rfl rfl (wi64 t0) rfl (Ag (.int .i64 ((j : Int) + 1)) (r_nil ?_))))))))
  have H46 := Row.shut2 (p := pq) (n := (L.length + 7) / 8) (c := cq) (size := 1) (xs := (pkA L (j + 1)).flatMap u8c) H32 (i := 0) rfl hp26 h27 h28 h29 (by have hh : (cur25.toList.drop 0).take ((pkA L j).length * 1) = (pkA L j).flatMap u8c := (by rw [(pkA_len L j)]; exact h30); have hk : (pkA L j).length = (L.length + 7) / 8 := (pkA_len L j); rw [hk] at hh; rw [(pkA_false t0 hb33).symm] at hh; exact hh) (one_u8 _)
  have H47 : St W w20 (_ :: _ :: F) := ((H46.move 1 rfl).move 1 rfl)
  exact nx22 (j + 1, pq, cq) _ _ ⟨t0, H47⟩ t9 t2
 refine rc (s_lss false rfl rfl (dfalse hc23) rfl (r_nil (g_false rfl (g_exit t40 (g_seq (g_region (Mv (.slice pq ((L.length + 7) / 8) cq) (Ag (.slice pq ((L.length + 7) / 8) cq) (r_nil (Gr [.slice pq ((L.length + 7) / 8) cq] Tryz.func35 Tryz.results35 ?_))))))))))
 have H48 : St W w20 (_ :: F) := (H21.drop 1 rfl)
 obtain rfl : j = L.length := by omega
 exact ⟨_, _, rfl, by rw [← pkA_all]; exact H48⟩
set_option maxHeartbeats 4000000 in
set_option maxRecDepth 100000 in
theorem form_put {W w : World} {F : List Atom} (b : Nat) (e : Int) (he : e = 0) {i : Nat} (hi : F[i]? = some (blk b (.cells #[.bool true] 4 (0, 0)))) (H : St W w F) : Calls Tryz.prog 124 #[.int .i64 e, .pointer (some ⟨b, 0, none⟩)] w (Ret fun v w' => v = .tuple #[] ∧ St W w' F) := by
 have H0 := H.front hi
 refine calls_of_go (n := 8) Tryz.func124 rfl Tryz.ntmps124 rfl ?_
 refine g_region (Lo (.bool true) ag_4 H0 0 (Mv (.bool true) (Rt (Mw (.int .i64 e) (Rt (s_eql true rfl rfl (dtrue he) rfl (Pt (.bool true) (rc (s_store H0 0 (.bool true) rfl rfl rfl sz_4 rfl (nbl rfl) rfl (cs' := #[.bool true]) rfl (fun w1 H2 => r_nil ?_))))))))))
 refine g_end' [] Tryz.func124 Tryz.results124 trivial ?_
 have H3 : St W w1 (_ :: (F.set i emp)) := H2
 exact ⟨rfl, St.back_same hi H3⟩
set_option maxHeartbeats 4000000 in
set_option maxRecDepth 100000 in
theorem event_form {W w : World} {F : List Atom} (b : Nat) (L : List Bool) (e : EvM) (av : Value) (hev : evE e = 0) (hroom : L.length + (formB e).length ≤ 1048576) {j : Nat} (hj : F[j]? = some (Attrs av e.attrs)) {i : Nat} (hi : F[i]? = some (SinkA b L)) (H : St W w F) : Calls Tryz.prog 115 #[.pointer (some ⟨b, 0, none⟩), .agg #[.int .i64 e.src.v, .int .i64 e.seq.v, .int .i64 e.time.v, .string e.typ.v, av]] w (Ret fun v w' => v = .bool true ∧ St W w' (F.set i (SinkA b (L ++ formB e)))) := by
 obtain ⟨pA1, cA2, gA3, oA4, kA5, eA6, zA7, rfl, hn8, hp9, hx10, hs11, hml, H12⟩ := Im.open_ H hj
 have H13 := H12.dup (i := j + 1) (by exact hj) (Attrs_pers _ _)
 have H14 : St W w (SinkA b L :: Attrs (.slice pA1 e.attrs.length cA2) e.attrs :: imi (0 < e.attrs.length) gA3 (.cells kA5 eA6 zA7) :: F.set i emp) := H13.front (i := i + 2) t44
 obtain ⟨hr1, hr2, hr3, hr4, hr5, hr6⟩ := evE_range hev
 have ht1 := timeB_range hr3
 have ht2 := timeB_range hr4
 have ha8 := attrsE_len hr6
 have hn5 := nameB_len hr5
 have hF : (formB e).length = (headB e).length + (e.attrs.flatMap attrB).length := List.length_append
 have hH : (headB e).length = 4 + sizeU e.seq.v.toNat + sizeU e.time.v.toNat + (textB e.typ.v).length + 4 := by unfold headB; simp only [List.length_append, lowB_len, natB_len]
 have hz1 := sizeU_le (u := e.seq.v.toNat) t0
 have hz2 := sizeU_le (u := e.time.v.toNat) t0
 refine calls_of_go (n := 88) Tryz.func115 rfl Tryz.ntmps115 rfl ?_
 refine g_seq (g_region (Bx H14 119 #[.int .i64 e.src.v, .int .i64 e.seq.v, .int .i64 e.time.v, .string e.typ.v, .slice pA1 e.attrs.length cA2] (fun bk15 w16 H17 => Ag (.bool false) (r_nil (g_seq (g_region (rc (s_alloc H17 4 ze_4 rfl (fun bk18 w19 H20 => rc (s_store H20 0 (.bool true) rfl rfl rfl sz_4 rfl (nbl rfl) rfl (cs' := #[.bool true]) rfl (fun w21 H22 => r_nil (g_seq (g_region (rc (s_makeFunc (.func (.func 124) #[] #[.pointer (some ⟨bk18, 0, none⟩)]) rfl rfl (Ag (.func (.func 124) #[] #[.pointer (some ⟨bk18, 0, none⟩)]) (r_nil (g_seq (g_region (Mv (.func (.func 124) #[] #[.pointer (some ⟨bk18, 0, none⟩)]) (Mv (.pointer (some ⟨b, 0, none⟩)) (Fa 0 fi_119_0 rfl (Fa 0 fi_116_0 rfl (Lo (.int .i64 e.src.v) ag_3 H22 1 (rc (s_conv ((e.src.v.toNat : Nat) : Int) rfl us_3 ik_61 ((wu64 t0).trans t0) rfl (rc (s_call [.pointer (some ⟨b, 0, none⟩), .int .u64 ((e.src.v.toNat : Nat) : Int), .int .i64 4] pl_29 rfl rfl (Sink_Bits b L e.src.v.toNat 4 t0 t1 (i := 2) rfl H22) ?_))))))))))))))))))))))))))))
 rintro _ w23 ⟨rfl, H24⟩
 have hk25 : bitsE L e.src.v.toNat 4 = 0 ∧ bitsL L e.src.v.toNat 4 = L ++ lowB e.src.v.toNat 4 := (by have hh := bits_ok (L := L) (u := e.src.v.toNat) (n := 4) (fits_small (k := 4) rfl t10 t0) t28; exact hh)
 have H27 : St W w23 (blk bk18 (.cells #[.bool true] 4 (0, 0)) :: blk bk15 (.cells #[.int .i64 e.src.v, .int .i64 e.seq.v, .int .i64 e.time.v, .string e.typ.v, .slice pA1 e.attrs.length cA2] 119 (0, 0)) :: SinkA b (L ++ lowB e.src.v.toNat 4) :: Attrs (.slice pA1 e.attrs.length cA2) e.attrs :: imi (0 < e.attrs.length) gA3 (.cells kA5 eA6 zA7) :: (F.set i emp)) := by rw [← hk25.2]; exact H24
 refine rc (s_callv [.pointer (some ⟨bk18, 0, none⟩)] [.int .i64 (bitsE L e.src.v.toNat 4), .pointer (some ⟨bk18, 0, none⟩)] rfl pl_124 rfl rfl (form_put bk18 (bitsE L e.src.v.toNat 4) hk25.1 (i := 0) rfl H27) ?_)
 rintro _ w28 ⟨rfl, H29⟩
 refine r_nil (g_seq (g_region (Mv (.func (.func 124) #[] #[.pointer (some ⟨bk18, 0, none⟩)]) (Mv (.pointer (some ⟨b, 0, none⟩)) (Fa 0 fi_119_0 rfl (Fa 1 fi_116_1 rfl (Lo (.int .i64 e.seq.v) ag_2 H29 1 (rc (s_conv ((e.seq.v.toNat : Nat) : Int) rfl us_2 ik_61 ((wu64 t0).trans t0) rfl (rc (s_call [.pointer (some ⟨b, 0, none⟩), .int .u64 ((e.seq.v.toNat : Nat) : Int)] pl_28 rfl rfl (Sink_Nat b (L ++ lowB e.src.v.toNat 4) e.seq.v.toNat t0 t1 (i := 2) rfl H29) ?_)))))))))))
 rintro _ w30 ⟨rfl, H31⟩
 have hk32 : putE (L ++ lowB e.src.v.toNat 4) (sizeU e.seq.v.toNat : Int) = 0 ∧ putL (L ++ lowB e.src.v.toNat 4) (natB e.seq.v.toNat) = L ++ lowB e.src.v.toNat 4 ++ natB e.seq.v.toNat := put_ok (L := L ++ lowB e.src.v.toNat 4) (by rw [natB_len]) t28
 have H34 : St W w30 (blk bk18 (.cells #[.bool true] 4 (0, 0)) :: blk bk15 (.cells #[.int .i64 e.src.v, .int .i64 e.seq.v, .int .i64 e.time.v, .string e.typ.v, .slice pA1 e.attrs.length cA2] 119 (0, 0)) :: SinkA b (L ++ lowB e.src.v.toNat 4 ++ natB e.seq.v.toNat) :: Attrs (.slice pA1 e.attrs.length cA2) e.attrs :: imi (0 < e.attrs.length) gA3 (.cells kA5 eA6 zA7) :: (F.set i emp)) := by rw [← hk32.2]; exact H31
 refine rc (s_callv [.pointer (some ⟨bk18, 0, none⟩)] [.int .i64 (putE (L ++ lowB e.src.v.toNat 4) (sizeU e.seq.v.toNat : Int)), .pointer (some ⟨bk18, 0, none⟩)] rfl pl_124 rfl rfl (form_put bk18 (putE (L ++ lowB e.src.v.toNat 4) (sizeU e.seq.v.toNat : Int)) hk32.1 (i := 0) rfl H34) ?_)
 rintro _ w35 ⟨rfl, H36⟩
 refine r_nil (g_seq (g_region (Mv (.func (.func 124) #[] #[.pointer (some ⟨bk18, 0, none⟩)]) (Mv (.pointer (some ⟨b, 0, none⟩)) (Fa 2 fi_119_1 rfl (Lo (.int .i64 e.time.v) ag_2 H36 1 (rc (s_conv ((e.time.v.toNat : Nat) : Int) rfl us_2 ik_61 ((wu64 t0).trans t0) rfl (rc (s_call [.pointer (some ⟨b, 0, none⟩), .int .u64 ((e.time.v.toNat : Nat) : Int)] pl_28 rfl rfl (Sink_Nat b (L ++ lowB e.src.v.toNat 4 ++ natB e.seq.v.toNat) e.time.v.toNat t0 t1 (i := 2) rfl H36) ?_))))))))))
 rintro _ w37 ⟨rfl, H38⟩
 have hk39 : putE (L ++ lowB e.src.v.toNat 4 ++ natB e.seq.v.toNat) (sizeU e.time.v.toNat : Int) = 0 ∧ putL (L ++ lowB e.src.v.toNat 4 ++ natB e.seq.v.toNat) (natB e.time.v.toNat) = L ++ lowB e.src.v.toNat 4 ++ natB e.seq.v.toNat ++ natB e.time.v.toNat := put_ok (L := L ++ lowB e.src.v.toNat 4 ++ natB e.seq.v.toNat) (by rw [natB_len]) t28
 have H41 : St W w37 (blk bk18 (.cells #[.bool true] 4 (0, 0)) :: blk bk15 (.cells #[.int .i64 e.src.v, .int .i64 e.seq.v, .int .i64 e.time.v, .string e.typ.v, .slice pA1 e.attrs.length cA2] 119 (0, 0)) :: SinkA b (L ++ lowB e.src.v.toNat 4 ++ natB e.seq.v.toNat ++ natB e.time.v.toNat) :: Attrs (.slice pA1 e.attrs.length cA2) e.attrs :: imi (0 < e.attrs.length) gA3 (.cells kA5 eA6 zA7) :: (F.set i emp)) := by rw [← hk39.2]; exact H38
 refine rc (s_callv [.pointer (some ⟨bk18, 0, none⟩)] [.int .i64 (putE (L ++ lowB e.src.v.toNat 4 ++ natB e.seq.v.toNat) (sizeU e.time.v.toNat : Int)), .pointer (some ⟨bk18, 0, none⟩)] rfl pl_124 rfl rfl (form_put bk18 (putE (L ++ lowB e.src.v.toNat 4 ++ natB e.seq.v.toNat) (sizeU e.time.v.toNat : Int)) hk39.1 (i := 0) rfl H41) ?_)
 rintro _ w42 ⟨rfl, H43⟩
 refine r_nil (g_seq (g_region (Mv (.func (.func 124) #[] #[.pointer (some ⟨bk18, 0, none⟩)]) (Mv (.pointer (some ⟨b, 0, none⟩)) (Fa 3 fi_119_2 rfl (Lo (.string e.typ.v) ag_9 H43 1 (rc (s_call [.pointer (some ⟨b, 0, none⟩), .string e.typ.v] pl_96 rfl rfl (Sink_Text b (L ++ lowB e.src.v.toNat 4 ++ natB e.seq.v.toNat ++ natB e.time.v.toNat) e.typ.v e.typ.ok t1 (i := 2) rfl H43) ?_))))))))
 rintro _ w44 ⟨rfl, H45⟩
 have hk46 : putE (L ++ lowB e.src.v.toNat 4 ++ natB e.seq.v.toNat ++ natB e.time.v.toNat) ((textB e.typ.v).length : Int) = 0 ∧ putL (L ++ lowB e.src.v.toNat 4 ++ natB e.seq.v.toNat ++ natB e.time.v.toNat) (textB e.typ.v) = L ++ lowB e.src.v.toNat 4 ++ natB e.seq.v.toNat ++ natB e.time.v.toNat ++ textB e.typ.v := put_ok (L := L ++ lowB e.src.v.toNat 4 ++ natB e.seq.v.toNat ++ natB e.time.v.toNat) rfl t28
 have H48 : St W w44 (blk bk18 (.cells #[.bool true] 4 (0, 0)) :: blk bk15 (.cells #[.int .i64 e.src.v, .int .i64 e.seq.v, .int .i64 e.time.v, .string e.typ.v, .slice pA1 e.attrs.length cA2] 119 (0, 0)) :: SinkA b (L ++ lowB e.src.v.toNat 4 ++ natB e.seq.v.toNat ++ natB e.time.v.toNat ++ textB e.typ.v) :: Attrs (.slice pA1 e.attrs.length cA2) e.attrs :: imi (0 < e.attrs.length) gA3 (.cells kA5 eA6 zA7) :: (F.set i emp)) := by rw [← hk46.2]; exact H45
 refine rc (s_callv [.pointer (some ⟨bk18, 0, none⟩)] [.int .i64 (putE (L ++ lowB e.src.v.toNat 4 ++ natB e.seq.v.toNat ++ natB e.time.v.toNat) ((textB e.typ.v).length : Int)), .pointer (some ⟨bk18, 0, none⟩)] rfl pl_124 rfl rfl (form_put bk18 (putE (L ++ lowB e.src.v.toNat 4 ++ natB e.seq.v.toNat ++ natB e.time.v.toNat) ((textB e.typ.v).length : Int)) hk46.1 (i := 0) rfl H48) ?_)
 rintro _ w49 ⟨rfl, H50⟩
 refine r_nil (g_seq (g_region (Mv (.func (.func 124) #[] #[.pointer (some ⟨bk18, 0, none⟩)]) (Mv (.pointer (some ⟨b, 0, none⟩)) (Fa 4 fi_119_3 rfl (Lo (.slice pA1 e.attrs.length cA2) ag_117 H50 1 (rc (s_len e.attrs.length rfl ⟨_, un_117⟩ rfl (rc (s_conv ((e.attrs.length : Nat) : Int) rfl us_3 ik_61 (wu64 t0) rfl (rc (s_call [.pointer (some ⟨b, 0, none⟩), .int .u64 ((e.attrs.length : Nat) : Int), .int .i64 4] pl_29 rfl rfl (Sink_Bits b (L ++ lowB e.src.v.toNat 4 ++ natB e.seq.v.toNat ++ natB e.time.v.toNat ++ textB e.typ.v) e.attrs.length 4 t0 t1 (i := 2) rfl H50) ?_))))))))))))
 rintro _ w51 ⟨rfl, H52⟩
 have hk53 : bitsE (L ++ lowB e.src.v.toNat 4 ++ natB e.seq.v.toNat ++ natB e.time.v.toNat ++ textB e.typ.v) e.attrs.length 4 = 0 ∧ bitsL (L ++ lowB e.src.v.toNat 4 ++ natB e.seq.v.toNat ++ natB e.time.v.toNat ++ textB e.typ.v) e.attrs.length 4 = L ++ lowB e.src.v.toNat 4 ++ natB e.seq.v.toNat ++ natB e.time.v.toNat ++ textB e.typ.v ++ lowB e.attrs.length 4 := (by have hh := bits_ok (L := L ++ lowB e.src.v.toNat 4 ++ natB e.seq.v.toNat ++ natB e.time.v.toNat ++ textB e.typ.v) (u := e.attrs.length) (n := 4) (fits_small (k := 4) rfl t10 t0) t28; exact hh)
 have H55 : St W w51 (blk bk18 (.cells #[.bool true] 4 (0, 0)) :: blk bk15 (.cells #[.int .i64 e.src.v, .int .i64 e.seq.v, .int .i64 e.time.v, .string e.typ.v, .slice pA1 e.attrs.length cA2] 119 (0, 0)) :: SinkA b (L ++ lowB e.src.v.toNat 4 ++ natB e.seq.v.toNat ++ natB e.time.v.toNat ++ textB e.typ.v ++ lowB e.attrs.length 4) :: Attrs (.slice pA1 e.attrs.length cA2) e.attrs :: imi (0 < e.attrs.length) gA3 (.cells kA5 eA6 zA7) :: (F.set i emp)) := by rw [← hk53.2]; exact H52
 refine rc (s_callv [.pointer (some ⟨bk18, 0, none⟩)] [.int .i64 (bitsE (L ++ lowB e.src.v.toNat 4 ++ natB e.seq.v.toNat ++ natB e.time.v.toNat ++ textB e.typ.v) e.attrs.length 4), .pointer (some ⟨bk18, 0, none⟩)] rfl pl_124 rfl rfl (form_put bk18 (bitsE (L ++ lowB e.src.v.toNat 4 ++ natB e.seq.v.toNat ++ natB e.time.v.toNat ++ textB e.typ.v) e.attrs.length 4) hk53.1 (i := 0) rfl H55) ?_)
 rintro _ w56 ⟨rfl, H57⟩
 refine r_nil (g_seq (g_seq (g_region (Fa 4 fi_119_3 rfl (Lo (.slice pA1 e.attrs.length cA2) ag_117 H57 1 (rc (s_len e.attrs.length rfl ⟨_, un_117⟩ rfl (Mv (.int .i64 0) (r_nil (g_block ?_))))))))))
 have H58 : St W w56 (blk bk18 (.cells #[.bool true] 4 (0, 0)) :: blk bk15 (.cells #[.int .i64 e.src.v, .int .i64 e.seq.v, .int .i64 e.time.v, .string e.typ.v, .slice pA1 e.attrs.length cA2] 119 (0, 0)) :: SinkA b (L ++ headB e ++ (e.attrs.take 0).flatMap attrB) :: Attrs (.slice pA1 e.attrs.length cA2) e.attrs :: imi (0 < e.attrs.length) gA3 (.cells kA5 eA6 zA7) :: (F.set i emp)) := by rw [List.take_zero, List.flatMap_nil, List.append_nil]; unfold headB; simp only [List.append_assoc] at H57 ⊢; exact H57
 refine g_loop_inv (fun (x_ : Nat) => match x_ with | j2 => [(0, .pointer (some ⟨b, 0, none⟩)), (4, .bool false), (5, .pointer (some ⟨bk18, 0, none⟩)), (6, .func (.func 124) #[] #[.pointer (some ⟨bk18, 0, none⟩)]), (48, .slice pA1 e.attrs.length cA2), (49, .int .i64 (e.attrs.length : Int)), (50, .int .i64 (j2 : Int))]) (fun (x_ : Nat) w => match x_ with | j2 => (j2 ≤ e.attrs.length) ∧ St W w (blk bk18 (.cells #[.bool true] 4 (0, 0)) :: blk bk15 (.cells #[.int .i64 e.src.v, .int .i64 e.seq.v, .int .i64 e.time.v, .string e.typ.v, .slice pA1 e.attrs.length cA2] 119 (0, 0)) :: SinkA b (L ++ headB e ++ (e.attrs.take j2).flatMap attrB) :: Attrs (.slice pA1 e.attrs.length cA2) e.attrs :: imi (0 < e.attrs.length) gA3 (.cells kA5 eA6 zA7) :: (F.set i emp))) (fun (x_ : Nat) => match x_ with | j2 => e.attrs.length - j2) (0) ?_ ?_ ?_
 ·exact t2
 ·exact ⟨t0, H58⟩
 rintro j2 ρ59 w60 ⟨hj2, H61⟩ nx62
 change Ends _ _ (upds ρ59 [(0, .pointer (some ⟨b, 0, none⟩)), (4, .bool false), (5, .pointer (some ⟨bk18, 0, none⟩)), (6, .func (.func 124) #[] #[.pointer (some ⟨bk18, 0, none⟩)]), (48, .slice pA1 e.attrs.length cA2), (49, .int .i64 (e.attrs.length : Int)), (50, .int .i64 (j2 : Int))]) w60
 refine g_seq (g_region ?_)
 by_cases hc63 : (j2 : Int) < (e.attrs.length : Int)
 ·refine rc (s_lss true rfl rfl (dtrue hc63) rfl (r_nil (g_seq (g_true rfl (g_skip (g_seq (g_block (g_seq (g_region (rc (s_indexAddr gA3 (off := oA4) (j2 : Int) 4 (oA4 + j2 * 4) (by exact congrArg (fun z_ => Value.slice z_ e.attrs.length cA2) (hp9 t0)) rfl el_117 t0 rfl rfl (rc (s_loadAgg [.string ((e.attrs.getD j2 default).name.v), .int .i64 ((e.attrs.getD j2 default).kind.v), .int .i64 ((e.attrs.getD j2 default).n.v), .string ((e.attrs.getD j2 default).s.v)] 4 ag_147 rfl (H61.imi_at (i := 4) rfl t0) (by have := elem_size (i := j2) (s := 4) (hs11 t0) t0; omega) (elem_take attrCell_len (hx10 t0) t0 default) rfl (rc (s_alloc H61 147 ze_147 rfl (fun bk64 w65 H66 => Sa H66 0 rfl #[.string ((e.attrs.getD j2 default).name.v), .int .i64 ((e.attrs.getD j2 default).kind.v), .int .i64 ((e.attrs.getD j2 default).n.v), .string ((e.attrs.getD j2 default).s.v)] 4 sz_147 #[.string ((e.attrs.getD j2 default).name.v), .int .i64 ((e.attrs.getD j2 default).kind.v), .int .i64 ((e.attrs.getD j2 default).n.v), .string ((e.attrs.getD j2 default).s.v)] (fun w67 H68 => r_nil (g_seq (g_region ?_)))))))))))))))))))
  obtain ⟨ha1, ha2, ha3, ha4⟩ := attr_ok hr6 (j := j2) t0
  have hAr := attrs_room (al := e.attrs) (j := j2) t0
  have hnlo := (e.attrs.getD j2 default).n.lo
  have hnhi := (e.attrs.getD j2 default).n.hi
  have hAm : (textB (e.attrs.getD j2 default).name.v).length + 2 ≤ (attrB (e.attrs.getD j2 default)).length := by unfold attrB; simp only [List.length_append, lowB_len]; omega
  refine Mv (.func (.func 124) #[] #[.pointer (some ⟨bk18, 0, none⟩)]) (Mv (.pointer (some ⟨b, 0, none⟩)) (Fa 0 fi_147_0 rfl (Lo (.string ((e.attrs.getD j2 default).name.v)) ag_9 H68 0 (rc (s_call [.pointer (some ⟨b, 0, none⟩), .string ((e.attrs.getD j2 default).name.v)] pl_96 rfl rfl (Sink_Text b (L ++ headB e ++ (e.attrs.take j2).flatMap attrB) ((e.attrs.getD j2 default).name.v) (e.attrs.getD j2 default).name.ok t1 (i := 3) rfl H68) ?_)))))
  rintro _ w69 ⟨rfl, H70⟩
  have hk71 : putE (L ++ headB e ++ (e.attrs.take j2).flatMap attrB) ((textB ((e.attrs.getD j2 default).name.v)).length : Int) = 0 ∧ putL (L ++ headB e ++ (e.attrs.take j2).flatMap attrB) (textB ((e.attrs.getD j2 default).name.v)) = L ++ headB e ++ (e.attrs.take j2).flatMap attrB ++ textB (e.attrs.getD j2 default).name.v := put_ok (L := L ++ headB e ++ (e.attrs.take j2).flatMap attrB) rfl t28
  have H73 : St W w69 (blk bk64 (.cells #[.string ((e.attrs.getD j2 default).name.v), .int .i64 ((e.attrs.getD j2 default).kind.v), .int .i64 ((e.attrs.getD j2 default).n.v), .string ((e.attrs.getD j2 default).s.v)] 147 (0, 0)) :: blk bk18 (.cells #[.bool true] 4 (0, 0)) :: blk bk15 (.cells #[.int .i64 e.src.v, .int .i64 e.seq.v, .int .i64 e.time.v, .string e.typ.v, .slice pA1 e.attrs.length cA2] 119 (0, 0)) :: SinkA b (L ++ headB e ++ (e.attrs.take j2).flatMap attrB ++ textB (e.attrs.getD j2 default).name.v) :: Attrs (.slice pA1 e.attrs.length cA2) e.attrs :: imi (0 < e.attrs.length) gA3 (.cells kA5 eA6 zA7) :: (F.set i emp)) := by rw [← hk71.2]; exact H70
  refine rc (s_callv [.pointer (some ⟨bk18, 0, none⟩)] [.int .i64 (putE (L ++ headB e ++ (e.attrs.take j2).flatMap attrB) ((textB ((e.attrs.getD j2 default).name.v)).length : Int)), .pointer (some ⟨bk18, 0, none⟩)] rfl pl_124 rfl rfl (form_put bk18 (putE (L ++ headB e ++ (e.attrs.take j2).flatMap attrB) ((textB ((e.attrs.getD j2 default).name.v)).length : Int)) hk71.1 (i := 1) rfl H73) ?_)
  rintro _ w74 ⟨rfl, H75⟩
  refine r_nil (g_seq (g_region (Mv (.func (.func 124) #[] #[.pointer (some ⟨bk18, 0, none⟩)]) (Mv (.pointer (some ⟨b, 0, none⟩)) (Fa 1 fi_147_1 rfl (Fa 1 fi_145_0 rfl (Lo (.int .i64 ((e.attrs.getD j2 default).kind.v)) ag_3 H75 0 (rc (s_conv (((e.attrs.getD j2 default).kind.v.toNat : Nat) : Int) rfl us_3 ik_61 ((wu64 t0).trans t0) rfl (rc (s_call [.pointer (some ⟨b, 0, none⟩), .int .u64 (((e.attrs.getD j2 default).kind.v.toNat : Nat) : Int), .int .i64 2] pl_29 rfl rfl (Sink_Bits b (L ++ headB e ++ (e.attrs.take j2).flatMap attrB ++ textB (e.attrs.getD j2 default).name.v) ((e.attrs.getD j2 default).kind.v.toNat) 2 t0 t1 (i := 3) rfl H75) ?_)))))))))))
  rintro _ w76 ⟨rfl, H77⟩
  have hk78 : bitsE (L ++ headB e ++ (e.attrs.take j2).flatMap attrB ++ textB (e.attrs.getD j2 default).name.v) ((e.attrs.getD j2 default).kind.v.toNat) 2 = 0 ∧ bitsL (L ++ headB e ++ (e.attrs.take j2).flatMap attrB ++ textB (e.attrs.getD j2 default).name.v) ((e.attrs.getD j2 default).kind.v.toNat) 2 = L ++ headB e ++ (e.attrs.take j2).flatMap attrB ++ textB (e.attrs.getD j2 default).name.v ++ lowB (e.attrs.getD j2 default).kind.v.toNat 2 := (by have hh := bits_ok (L := L ++ headB e ++ (e.attrs.take j2).flatMap attrB ++ textB (e.attrs.getD j2 default).name.v) (u := (e.attrs.getD j2 default).kind.v.toNat) (n := 2) (fits_small (k := 2) rfl t10 t0) t28; exact hh)
  have H80 : St W w76 (blk bk64 (.cells #[.string ((e.attrs.getD j2 default).name.v), .int .i64 ((e.attrs.getD j2 default).kind.v), .int .i64 ((e.attrs.getD j2 default).n.v), .string ((e.attrs.getD j2 default).s.v)] 147 (0, 0)) :: blk bk18 (.cells #[.bool true] 4 (0, 0)) :: blk bk15 (.cells #[.int .i64 e.src.v, .int .i64 e.seq.v, .int .i64 e.time.v, .string e.typ.v, .slice pA1 e.attrs.length cA2] 119 (0, 0)) :: SinkA b (L ++ headB e ++ (e.attrs.take j2).flatMap attrB ++ textB (e.attrs.getD j2 default).name.v ++ lowB (e.attrs.getD j2 default).kind.v.toNat 2) :: Attrs (.slice pA1 e.attrs.length cA2) e.attrs :: imi (0 < e.attrs.length) gA3 (.cells kA5 eA6 zA7) :: (F.set i emp)) := by rw [← hk78.2]; exact H77
  refine rc (s_callv [.pointer (some ⟨bk18, 0, none⟩)] [.int .i64 (bitsE (L ++ headB e ++ (e.attrs.take j2).flatMap attrB ++ textB (e.attrs.getD j2 default).name.v) ((e.attrs.getD j2 default).kind.v.toNat) 2), .pointer (some ⟨bk18, 0, none⟩)] rfl pl_124 rfl rfl (form_put bk18 (bitsE (L ++ headB e ++ (e.attrs.take j2).flatMap attrB ++ textB (e.attrs.getD j2 default).name.v) ((e.attrs.getD j2 default).kind.v.toNat) 2) hk78.1 (i := 1) rfl H80) ?_)
  rintro _ w81 ⟨rfl, H82⟩
  refine r_nil (g_seq (g_region (Fa 1 fi_147_1 rfl (Fa 1 fi_145_0 rfl (Lo (.int .i64 ((e.attrs.getD j2 default).kind.v)) ag_3 H82 0 ?_)))))
  by_cases hc83 : (e.attrs.getD j2 default).kind.v = 1
  ·refine rc (s_eql true rfl rfl (dtrue hc83) rfl (r_nil (g_true rfl (g_region ?_))))
   have hAB : attrB (e.attrs.getD j2 default) = textB (e.attrs.getD j2 default).name.v ++ lowB (e.attrs.getD j2 default).kind.v.toNat 2 ++ natB (zigN (e.attrs.getD j2 default).n.v) := by unfold attrB; rw [if_pos t11]
   have hABl : (attrB (e.attrs.getD j2 default)).length = (textB (e.attrs.getD j2 default).name.v).length + 2 + sizeU (zigN (e.attrs.getD j2 default).n.v) := by rw [hAB]; simp only [List.length_append, lowB_len, natB_len]
   refine Mv (.func (.func 124) #[] #[.pointer (some ⟨bk18, 0, none⟩)]) (Mv (.pointer (some ⟨b, 0, none⟩)) (Fa 1 fi_147_1 rfl (Fa 2 fi_145_1 rfl (Lo (.int .i64 ((e.attrs.getD j2 default).n.v)) ag_2 H82 0 (rc (s_call [.pointer (some ⟨b, 0, none⟩), .int .i64 ((e.attrs.getD j2 default).n.v)] pl_125 rfl rfl (Sink_Num b (L ++ headB e ++ (e.attrs.take j2).flatMap attrB ++ textB (e.attrs.getD j2 default).name.v ++ lowB (e.attrs.getD j2 default).kind.v.toNat 2) ((e.attrs.getD j2 default).n.v) t0 t0 t1 (i := 3) rfl H82) ?_))))))
   rintro _ w84 ⟨rfl, H85⟩
   have hk86 : putE (L ++ headB e ++ (e.attrs.take j2).flatMap attrB ++ textB (e.attrs.getD j2 default).name.v ++ lowB (e.attrs.getD j2 default).kind.v.toNat 2) (sizeU (zigN ((e.attrs.getD j2 default).n.v)) : Int) = 0 ∧ putL (L ++ headB e ++ (e.attrs.take j2).flatMap attrB ++ textB (e.attrs.getD j2 default).name.v ++ lowB (e.attrs.getD j2 default).kind.v.toNat 2) (natB (zigN ((e.attrs.getD j2 default).n.v))) = L ++ headB e ++ (e.attrs.take j2).flatMap attrB ++ textB (e.attrs.getD j2 default).name.v ++ lowB (e.attrs.getD j2 default).kind.v.toNat 2 ++ natB (zigN (e.attrs.getD j2 default).n.v) := put_ok (L := L ++ headB e ++ (e.attrs.take j2).flatMap attrB ++ textB (e.attrs.getD j2 default).name.v ++ lowB (e.attrs.getD j2 default).kind.v.toNat 2) (by rw [natB_len]) t28
   have H88 : St W w84 (blk bk64 (.cells #[.string ((e.attrs.getD j2 default).name.v), .int .i64 ((e.attrs.getD j2 default).kind.v), .int .i64 ((e.attrs.getD j2 default).n.v), .string ((e.attrs.getD j2 default).s.v)] 147 (0, 0)) :: blk bk18 (.cells #[.bool true] 4 (0, 0)) :: blk bk15 (.cells #[.int .i64 e.src.v, .int .i64 e.seq.v, .int .i64 e.time.v, .string e.typ.v, .slice pA1 e.attrs.length cA2] 119 (0, 0)) :: SinkA b (L ++ headB e ++ (e.attrs.take j2).flatMap attrB ++ textB (e.attrs.getD j2 default).name.v ++ lowB (e.attrs.getD j2 default).kind.v.toNat 2 ++ natB (zigN (e.attrs.getD j2 default).n.v)) :: Attrs (.slice pA1 e.attrs.length cA2) e.attrs :: imi (0 < e.attrs.length) gA3 (.cells kA5 eA6 zA7) :: (F.set i emp)) := by rw [← hk86.2]; exact H85
   refine rc (s_callv [.pointer (some ⟨bk18, 0, none⟩)] [.int .i64 (putE (L ++ headB e ++ (e.attrs.take j2).flatMap attrB ++ textB (e.attrs.getD j2 default).name.v ++ lowB (e.attrs.getD j2 default).kind.v.toNat 2) (sizeU (zigN ((e.attrs.getD j2 default).n.v)) : Int)), .pointer (some ⟨bk18, 0, none⟩)] rfl pl_124 rfl rfl (form_put bk18 (putE (L ++ headB e ++ (e.attrs.take j2).flatMap attrB ++ textB (e.attrs.getD j2 default).name.v ++ lowB (e.attrs.getD j2 default).kind.v.toNat 2) (sizeU (zigN ((e.attrs.getD j2 default).n.v)) : Int)) hk86.1 (i := 1) rfl H88) ?_)
   rintro _ w89 ⟨rfl, H90⟩
   refine r_nil (g_inBlock (g_region (rc (s_add ((j2 : Int) + 1) rfl rfl (wi64 t0) rfl (Mv (.int .i64 ((j2 : Int) + 1)) (r_nil ?_))))))
   have H91 : St W w89 (_ :: _ :: _ :: _ :: _ :: (F.set i emp)) := ((((((H90.move 5 rfl).move 5 rfl).move 5 rfl).move 5 rfl).move 5 rfl).drop 5 rfl)
   have H92 : St W w89 (blk bk18 (.cells #[.bool true] 4 (0, 0)) :: blk bk15 (.cells #[.int .i64 e.src.v, .int .i64 e.seq.v, .int .i64 e.time.v, .string e.typ.v, .slice pA1 e.attrs.length cA2] 119 (0, 0)) :: SinkA b (L ++ headB e ++ (e.attrs.take (j2 + 1)).flatMap attrB) :: Attrs (.slice pA1 e.attrs.length cA2) e.attrs :: imi (0 < e.attrs.length) gA3 (.cells kA5 eA6 zA7) :: (F.set i emp)) := by rw [attrs_take t0, hAB]; simp only [List.append_assoc] at H91 ⊢; exact H91
   exact nx62 (j2 + 1) _ _ ⟨t0, H92⟩ t9 t2
  refine rc (s_eql false rfl rfl (dfalse hc83) rfl (r_nil (g_false rfl (g_region ?_))))
  have hAB : attrB (e.attrs.getD j2 default) = textB (e.attrs.getD j2 default).name.v ++ lowB (e.attrs.getD j2 default).kind.v.toNat 2 ++ textB (e.attrs.getD j2 default).s.v := by unfold attrB; rw [if_neg t11]
  have hABl : (attrB (e.attrs.getD j2 default)).length = (textB (e.attrs.getD j2 default).name.v).length + 2 + (textB (e.attrs.getD j2 default).s.v).length := by rw [hAB]; simp only [List.length_append, lowB_len, natB_len]
  refine Mv (.func (.func 124) #[] #[.pointer (some ⟨bk18, 0, none⟩)]) (Mv (.pointer (some ⟨b, 0, none⟩)) (Fa 1 fi_147_1 rfl (Fa 3 fi_145_2 rfl (Lo (.string ((e.attrs.getD j2 default).s.v)) ag_9 H82 0 (rc (s_call [.pointer (some ⟨b, 0, none⟩), .string ((e.attrs.getD j2 default).s.v)] pl_96 rfl rfl (Sink_Text b (L ++ headB e ++ (e.attrs.take j2).flatMap attrB ++ textB (e.attrs.getD j2 default).name.v ++ lowB (e.attrs.getD j2 default).kind.v.toNat 2) ((e.attrs.getD j2 default).s.v) (e.attrs.getD j2 default).s.ok t1 (i := 3) rfl H82) ?_))))))
  rintro _ w93 ⟨rfl, H94⟩
  have hk95 : putE (L ++ headB e ++ (e.attrs.take j2).flatMap attrB ++ textB (e.attrs.getD j2 default).name.v ++ lowB (e.attrs.getD j2 default).kind.v.toNat 2) ((textB ((e.attrs.getD j2 default).s.v)).length : Int) = 0 ∧ putL (L ++ headB e ++ (e.attrs.take j2).flatMap attrB ++ textB (e.attrs.getD j2 default).name.v ++ lowB (e.attrs.getD j2 default).kind.v.toNat 2) (textB ((e.attrs.getD j2 default).s.v)) = L ++ headB e ++ (e.attrs.take j2).flatMap attrB ++ textB (e.attrs.getD j2 default).name.v ++ lowB (e.attrs.getD j2 default).kind.v.toNat 2 ++ textB (e.attrs.getD j2 default).s.v := put_ok (L := L ++ headB e ++ (e.attrs.take j2).flatMap attrB ++ textB (e.attrs.getD j2 default).name.v ++ lowB (e.attrs.getD j2 default).kind.v.toNat 2) rfl t28
  have H97 : St W w93 (blk bk64 (.cells #[.string ((e.attrs.getD j2 default).name.v), .int .i64 ((e.attrs.getD j2 default).kind.v), .int .i64 ((e.attrs.getD j2 default).n.v), .string ((e.attrs.getD j2 default).s.v)] 147 (0, 0)) :: blk bk18 (.cells #[.bool true] 4 (0, 0)) :: blk bk15 (.cells #[.int .i64 e.src.v, .int .i64 e.seq.v, .int .i64 e.time.v, .string e.typ.v, .slice pA1 e.attrs.length cA2] 119 (0, 0)) :: SinkA b (L ++ headB e ++ (e.attrs.take j2).flatMap attrB ++ textB (e.attrs.getD j2 default).name.v ++ lowB (e.attrs.getD j2 default).kind.v.toNat 2 ++ textB (e.attrs.getD j2 default).s.v) :: Attrs (.slice pA1 e.attrs.length cA2) e.attrs :: imi (0 < e.attrs.length) gA3 (.cells kA5 eA6 zA7) :: (F.set i emp)) := by rw [← hk95.2]; exact H94
  refine rc (s_callv [.pointer (some ⟨bk18, 0, none⟩)] [.int .i64 (putE (L ++ headB e ++ (e.attrs.take j2).flatMap attrB ++ textB (e.attrs.getD j2 default).name.v ++ lowB (e.attrs.getD j2 default).kind.v.toNat 2) ((textB ((e.attrs.getD j2 default).s.v)).length : Int)), .pointer (some ⟨bk18, 0, none⟩)] rfl pl_124 rfl rfl (form_put bk18 (putE (L ++ headB e ++ (e.attrs.take j2).flatMap attrB ++ textB (e.attrs.getD j2 default).name.v ++ lowB (e.attrs.getD j2 default).kind.v.toNat 2) ((textB ((e.attrs.getD j2 default).s.v)).length : Int)) hk95.1 (i := 1) rfl H97) ?_)
  rintro _ w98 ⟨rfl, H99⟩
  refine r_nil (g_inBlock (g_region (rc (s_add ((j2 : Int) + 1) rfl rfl (wi64 t0) rfl (Mv (.int .i64 ((j2 : Int) + 1)) (r_nil ?_))))))
  have H100 : St W w98 (_ :: _ :: _ :: _ :: _ :: (F.set i emp)) := ((((((H99.move 5 rfl).move 5 rfl).move 5 rfl).move 5 rfl).move 5 rfl).drop 5 rfl)
  have H101 : St W w98 (blk bk18 (.cells #[.bool true] 4 (0, 0)) :: blk bk15 (.cells #[.int .i64 e.src.v, .int .i64 e.seq.v, .int .i64 e.time.v, .string e.typ.v, .slice pA1 e.attrs.length cA2] 119 (0, 0)) :: SinkA b (L ++ headB e ++ (e.attrs.take (j2 + 1)).flatMap attrB) :: Attrs (.slice pA1 e.attrs.length cA2) e.attrs :: imi (0 < e.attrs.length) gA3 (.cells kA5 eA6 zA7) :: (F.set i emp)) := by rw [attrs_take t0, hAB]; simp only [List.append_assoc] at H100 ⊢; exact H100
  exact nx62 (j2 + 1) _ _ ⟨t0, H101⟩ t9 t2
 refine rc (s_lss false rfl rfl (dfalse hc63) rfl (r_nil (g_seq (g_false rfl (g_exit t40 (g_seq (g_region (Lo (.bool true) ag_4 H61 0 (Ag (.bool true) (r_nil (Gr [.bool true] Tryz.func115 Tryz.results115 ?_)))))))))))
 have H102 : St W w60 (_ :: (F.set i emp)) := (((((H61.move 2 rfl).drop 1 rfl).drop 1 rfl).drop 1 rfl).drop 1 rfl)
 obtain rfl : j2 = e.attrs.length := by omega
 exact ⟨rfl, by rw [show L ++ formB e = L ++ headB e ++ (e.attrs.take e.attrs.length).flatMap attrB from by rw [List.take_length]; unfold formB; rw [List.append_assoc]]; exact St.back hi H102⟩
set_option maxHeartbeats 4000000 in
set_option maxRecDepth 100000 in
theorem event_Put {W w : World} {F : List Atom} (b : Nat) (L : List Bool) (e : EvM) (av : Value) (hb : L.length ≤ 1048576) {j : Nat} (hj : F[j]? = some (Attrs av e.attrs)) {i : Nat} (hi : F[i]? = some (SinkA b L)) (H : St W w F) : Calls Tryz.prog 97 #[.pointer (some ⟨b, 0, none⟩), .agg #[.int .i64 e.src.v, .int .i64 e.seq.v, .int .i64 e.time.v, .string e.typ.v, av]] w (Ret fun v w' => v = .int .i64 (evPutE L e) ∧ St W w' (F.set i (SinkA b (evPutL L e)))) := by
 obtain ⟨pA1, cA2, gA3, oA4, kA5, eA6, zA7, rfl, hn8, hp9, hx10, hs11, hml, H12⟩ := Im.open_ H hj
 have H13 := H12.dup (i := j + 1) (by exact hj) (Attrs_pers _ _)
 have H14 : St W w (SinkA b L :: Attrs (.slice pA1 e.attrs.length cA2) e.attrs :: imi (0 < e.attrs.length) gA3 (.cells kA5 eA6 zA7) :: F.set i emp) := H13.front (i := i + 2) t44
 refine calls_of_go (n := 28) Tryz.func97 rfl Tryz.ntmps97 rfl ?_
 refine g_seq (g_region (Bx H14 119 #[.int .i64 e.src.v, .int .i64 e.seq.v, .int .i64 e.time.v, .string e.typ.v, .slice pA1 e.attrs.length cA2] (fun bk15 w16 H17 => Ag (.int .i64 0) (r_nil (g_seq (g_seq (g_region (Mv (.pointer (some ⟨b, 0, none⟩)) ?_))))))))
 have H18 := Row.im (Row.nil_intro H17 4 1) (i := 0) rfl
 refine rc (s_call [.pointer (some ⟨b, 0, none⟩), .slice none 0 0] pl_68 rfl rfl (Sink_Flags b L [] (.slice none 0 0) t1 (j := 0) rfl (i := 2) rfl H18) ?_)
 rintro _ w19 ⟨rfl, H20⟩
 have hfl : putL L [] = L := (putL_0 rfl (putE_0 (by simp only [List.length_nil]; omega))).trans (List.append_nil L)
 have H21 : St W w19 (Im 1 (.slice none 0 0) 0 [] :: blk bk15 (.cells #[.int .i64 e.src.v, .int .i64 e.seq.v, .int .i64 e.time.v, .string e.typ.v, .slice pA1 e.attrs.length cA2] 119 (0, 0)) :: SinkA b L :: Attrs (.slice pA1 e.attrs.length cA2) e.attrs :: imi (0 < e.attrs.length) gA3 (.cells kA5 eA6 zA7) :: (F.set i emp)) := by have hx := H20; rw [hfl] at hx; exact hx
 refine rc (s_neq false rfl rfl (ntrue (putE_0 (by simp only [List.length_nil]; omega))) rfl (r_nil (g_false rfl (g_skip (g_seq (g_seq (g_region (La [.int .i64 e.src.v, .int .i64 e.seq.v, .int .i64 e.time.v, .string e.typ.v, .slice pA1 e.attrs.length cA2] 5 ag_119 H21 1 (rc (s_call [.agg #[.int .i64 e.src.v, .int .i64 e.seq.v, .int .i64 e.time.v, .string e.typ.v, .slice pA1 e.attrs.length cA2]] pl_84 rfl rfl (event_Check e (.slice pA1 e.attrs.length cA2) (j := 3) rfl H21) ?_))))))))))
 rintro _ w22 ⟨rfl, H23⟩
 refine Ag (.int .i64 (evE e)) (r_nil (g_seq (g_region (Mv (.int .i64 (evE e)) ?_))))
 by_cases hc24 : evE e = 0
 ·refine rc (s_neq false rfl rfl (ntrue hc24) rfl (r_nil (g_false rfl (g_skip (g_seq (g_region ?_))))))
  have hev : evE e = 0 := by assumption
  have hfle := formB_le hev
  refine rc (s_call [] pl_27 rfl rfl (NewSink H23) ?_)
  rintro _ w26 ⟨bk25, rfl, H27⟩
  refine Ag (.pointer (some ⟨bk25, 0, none⟩)) (r_nil (g_seq (g_region (Mv (.pointer (some ⟨bk25, 0, none⟩)) (La [.int .i64 e.src.v, .int .i64 e.seq.v, .int .i64 e.time.v, .string e.typ.v, .slice pA1 e.attrs.length cA2] 5 ag_119 H27 2 (rc (s_call [.pointer (some ⟨bk25, 0, none⟩), .agg #[.int .i64 e.src.v, .int .i64 e.seq.v, .int .i64 e.time.v, .string e.typ.v, .slice pA1 e.attrs.length cA2]] pl_115 rfl rfl (event_form bk25 [] e (.slice pA1 e.attrs.length cA2) hev (by first | omega | (simp only [List.length_nil]; omega)) (j := 4) rfl (i := 0) rfl H27) ?_)))))))
  rintro _ w28 ⟨rfl, H29⟩
  refine r_nil (g_seq (g_seq (g_region (Mv (.pointer (some ⟨bk25, 0, none⟩)) (rc (s_call [.pointer (some ⟨bk25, 0, none⟩)] pl_70 rfl rfl (Sink_Len bk25 ([] ++ formB e)   (i := 0) rfl H29) ?_))))))
  rintro _ w30 ⟨rfl, H31⟩
  refine Mv (.pointer (some ⟨b, 0, none⟩)) (rc (s_call [.pointer (some ⟨b, 0, none⟩)] pl_70 rfl rfl (Sink_Len b L   (i := 3) rfl H31) ?_))
  rintro _ w32 ⟨rfl, H33⟩
  have hol : (([] : List Bool) ++ formB e).length = (formB e).length := by rw [List.nil_append]
  refine rc (s_sub (1048576 - (L.length : Int)) rfl rfl (wi64 t0) rfl ?_)
  by_cases hc34 : 1048576 - (L.length : Int) < (([] ++ formB e).length : Int)
  ·refine rc (s_gtr true rfl rfl (dtrue hc34) rfl (r_nil (g_true rfl (g_seq (g_region (Ag (.int .i64 3) (r_nil (Gr [.int .i64 3] Tryz.func97 Tryz.results97 ?_))))))))
   have H35 : St W w32 (_ :: (F.set i emp)) := ((((((H33.move 3 rfl).drop 1 rfl).drop 1 rfl).drop 1 rfl).drop 1 rfl).drop 1 rfl)
   obtain ⟨q1, q2⟩ := evPut_yes (L := L) hev
   have q3 : putE L ((formB e).length : Int) = 3 := putE_3 t0
   exact ⟨vint (by rw [q1, q3]), by rw [q2, putL_no rfl (by rw [q3]; decide)]; exact St.back hi H35⟩
  refine rc (s_gtr false rfl rfl (dfalse hc34) rfl (r_nil (g_false rfl (g_skip (g_seq (g_region (Mv (.pointer (some ⟨b, 0, none⟩)) (La [.int .i64 e.src.v, .int .i64 e.seq.v, .int .i64 e.time.v, .string e.typ.v, .slice pA1 e.attrs.length cA2] 5 ag_119 H33 2 (rc (s_call [.pointer (some ⟨b, 0, none⟩), .agg #[.int .i64 e.src.v, .int .i64 e.seq.v, .int .i64 e.time.v, .string e.typ.v, .slice pA1 e.attrs.length cA2]] pl_115 rfl rfl (event_form b L e (.slice pA1 e.attrs.length cA2) hev (by first | omega | (simp only [List.length_nil]; omega)) (j := 4) rfl (i := 3) rfl H33) ?_))))))))))
  rintro _ w36 ⟨rfl, H37⟩
  refine r_nil (g_seq (g_region (Ag (.int .i64 0) (r_nil (Gr [.int .i64 0] Tryz.func97 Tryz.results97 ?_)))))
  have H38 : St W w36 (_ :: (F.set i emp)) := ((((((H37.move 3 rfl).drop 1 rfl).drop 1 rfl).drop 1 rfl).drop 1 rfl).drop 1 rfl)
  obtain ⟨q1, q2⟩ := evPut_yes (L := L) hev
  obtain ⟨q3, q4⟩ := put_ok (L := L) (M := formB e) rfl t0
  exact ⟨vint (by rw [q1, q3]), by rw [q2, q4]; exact St.back hi H38⟩
 refine rc (s_neq true rfl rfl (nfalse hc24) rfl (r_nil (g_true rfl (g_seq (g_region (Mv (.int .i64 (evE e)) (Ag (.int .i64 (evE e)) (r_nil (Gr [.int .i64 (evE e)] Tryz.func97 Tryz.results97 ?_)))))))))
 have H39 : St W w22 (_ :: (F.set i emp)) := (((((H23.move 2 rfl).drop 1 rfl).drop 1 rfl).drop 1 rfl).drop 1 rfl)
 obtain ⟨q1, q2⟩ := evPut_no (L := L) (e := e) t11
 exact ⟨vint (by rw [q1]), by rw [q2]; exact St.back hi H39⟩
set_option maxHeartbeats 4000000 in
set_option maxRecDepth 100000 in
theorem ref04_Form {W w : World} {F : List Atom} (e : EvM) (av : Value) (hev : evE e = 0) {j : Nat} (hj : F[j]? = some (Attrs av e.attrs)) (H : St W w F) : Calls Tryz.prog 74 #[.agg #[.int .i64 e.src.v, .int .i64 e.seq.v, .int .i64 e.time.v, .string e.typ.v, av]] w (Ret fun v w' => ∃ p n c, v = .slice p n c ∧ n = (formB e).length ∧ St W w' (Row 4 1 (.slice p n c) n ((formB e).flatMap blc) :: F)) := by
 obtain ⟨pA1, cA2, gA3, oA4, kA5, eA6, zA7, rfl, hn8, hp9, hx10, hs11, hml, H12⟩ := Im.open_ H hj
 have H13 := H12.dup (i := j + 1) (by exact hj) (Attrs_pers _ _)
 have H14 : St W w (_ :: _ :: F) := H13
 obtain ⟨hr1, hr2, hr3, hr4, hr5, hr6⟩ := evE_range hev
 have ht1 := timeB_range hr3
 have ht2 := timeB_range hr4
 have ha8 := attrsE_len hr6
 have hn5 := nameB_len hr5
 have hz1 := sizeU_le (u := e.seq.v.toNat) t0
 have hz2 := sizeU_le (u := e.time.v.toNat) t0
 have hz3 := sizeU_le (u := e.typ.v.size) t0
 refine calls_of_go (n := 74) Tryz.func74 rfl Tryz.ntmps74 rfl ?_
 refine g_seq (g_region (Bx H14 119 #[.int .i64 e.src.v, .int .i64 e.seq.v, .int .i64 e.time.v, .string e.typ.v, .slice pA1 e.attrs.length cA2] (fun bk15 w16 H17 => Ag (.slice none 0 0) (r_nil (g_seq ?_)))))
 refine g_mix (fun t_ w => St W w (blk bk15 (.cells #[.int .i64 e.src.v, .int .i64 e.seq.v, .int .i64 e.time.v, .string e.typ.v, .slice pA1 e.attrs.length cA2] 119 (0, 0)) :: Attrs (.slice pA1 e.attrs.length cA2) e.attrs :: imi (0 < e.attrs.length) gA3 (.cells kA5 eA6 zA7) :: t_)) F mixed 12 rfl H17.drew ?_
 refine Fv 0 rfl (fun t_ w hw => x_fieldAddr 119 0 0 0 116 rfl fi_119_0 rfl w) (Fv 1 rfl (fun t_ w hw => x_fieldAddr 116 0 0 0 3 rfl fi_116_0 rfl w) (Fv 2 rfl (fun t_ w hw => x_load (.int .i64 e.src.v) ag_3 rfl (hw.blk_at (i := 0) rfl) rfl) (Fv 3 rfl (fun t_ w hw => x_conv ((e.src.v.toNat : Nat) : Int) rfl us_3 ik_61 ((wu64 t0).trans t0) w) (Fv 5 rfl (fun t_ w hw => x_fieldAddr 119 0 0 0 116 rfl fi_119_0 rfl w) (Fv 6 rfl (fun t_ w hw => x_fieldAddr 116 1 1 1 2 rfl fi_116_1 rfl w) (Fv 7 rfl (fun t_ w hw => x_load (.int .i64 e.seq.v) ag_2 rfl (hw.blk_at (i := 0) rfl) rfl) (Fv 8 rfl (fun t_ w hw => x_conv ((e.seq.v.toNat : Nat) : Int) rfl us_2 ik_61 ((wu64 t0).trans t0) w) ?_)))))))
 refine f_all (rs := [4]) t7 t16 ?_
 refine a_cons ⟨_, rfl, ?_⟩ (fun x hx => absurd hx t16)
 intro w18 H19
 try dsimp only at H19
 refine s_call [.int .u64 ((e.src.v.toNat : Nat) : Int), .int .i64 4] pl_33 rfl rfl (ref01_Low e.src.v.toNat 4 t0 t0 H19) ?_
 rintro _ w22 ⟨pp20, cc21, rfl, H23⟩
 have H24 : St W w22 (_ :: _ :: _ :: _ :: F) := (((H23.move 3 rfl).move 3 rfl).move 3 rfl)
 refine ⟨Row 4 1 (.slice pp20 4 cc21) 4 ((lowB e.src.v.toNat 4).flatMap blc) :: F, ?_, H24⟩
 change FReg _ _ _ _ _ #[true, true, true, true, true, true, true, true, true, false, false, false] _ _
 refine f_all (rs := [9]) t7 t16 ?_
 refine a_cons ⟨_, rfl, ?_⟩ (fun x hx => absurd hx t16)
 intro w25 H26
 try dsimp only at H26
 refine s_call [.int .u64 ((e.seq.v.toNat : Nat) : Int)] pl_32 rfl rfl (ref01_Nat e.seq.v.toNat t0 H26) ?_
 rintro _ w29 ⟨pp27, cc28, rfl, H30⟩
 have H31 : St W w29 (_ :: _ :: _ :: _ :: _ :: F) := (((((H30.move 4 rfl).move 1 rfl).move 4 rfl).move 4 rfl).move 4 rfl)
 refine ⟨Row 4 1 (.slice pp27 (sizeU e.seq.v.toNat) cc28) (sizeU e.seq.v.toNat) ((natB e.seq.v.toNat).flatMap blc) :: Row 4 1 (.slice pp20 4 cc21) 4 ((lowB e.src.v.toNat 4).flatMap blc) :: F, ?_, H31⟩
 change FReg _ _ _ _ _ #[true, true, true, true, true, true, true, true, true, true, false, false] _ _
 refine f_all (rs := [10]) t7 t16 ?_
 refine a_cons ⟨_, rfl, ?_⟩ (fun x hx => absurd hx t16)
 intro w32 H33
 try dsimp only at H33
 refine s_append H33 4 rfl rfl rfl (Row.rd H33 (i := 3) rfl) ap_39 t10 t15 t0 (n' := 4 + sizeU e.seq.v.toNat) (xs' := (lowB e.src.v.toNat 4).flatMap blc ++ (natB e.seq.v.toNat).flatMap blc) t0 t31 rfl ?_; intro vv34 w35 H36 hn37
 obtain ⟨pp38, cc39, rfl⟩ := Row.slice H36 (i := 4) rfl
 refine ⟨Row 4 1 (.slice pp27 (sizeU e.seq.v.toNat) cc28) (sizeU e.seq.v.toNat) ((natB e.seq.v.toNat).flatMap blc) :: Row 4 1 (.slice pp38 (4 + sizeU e.seq.v.toNat) cc39) (4 + sizeU e.seq.v.toNat) ((lowB e.src.v.toNat 4).flatMap blc ++ (natB e.seq.v.toNat).flatMap blc) :: F, ?_, H36⟩
 change FReg _ _ _ _ _ #[true, true, true, true, true, true, true, true, true, true, true, false] _ _
 refine Fv 11 rfl (fun t_ w hw => x_assign (.slice pp38 (4 + sizeU e.seq.v.toNat) cc39) rfl w) ?_
 refine f_done t7 ?_
 intro w40 H41
 refine g_seq ?_
 refine g_mix (fun t_ w => St W w (blk bk15 (.cells #[.int .i64 e.src.v, .int .i64 e.seq.v, .int .i64 e.time.v, .string e.typ.v, .slice pA1 e.attrs.length cA2] 119 (0, 0)) :: Attrs (.slice pA1 e.attrs.length cA2) e.attrs :: imi (0 < e.attrs.length) gA3 (.cells kA5 eA6 zA7) :: Row 4 1 (.slice pp27 (sizeU e.seq.v.toNat) cc28) (sizeU e.seq.v.toNat) ((natB e.seq.v.toNat).flatMap blc) :: t_)) (Row 4 1 (.slice pp38 (4 + sizeU e.seq.v.toNat) cc39) (4 + sizeU e.seq.v.toNat) ((lowB e.src.v.toNat 4).flatMap blc ++ (natB e.seq.v.toNat).flatMap blc) :: F) mixed 11 rfl H41.drew ?_
 refine Fv 0 rfl (fun _ w _ => x_move (.slice pp38 (4 + sizeU e.seq.v.toNat) cc39) rfl w) (Fv 1 rfl (fun t_ w hw => x_fieldAddr 119 1 2 2 2 rfl fi_119_1 rfl w) (Fv 2 rfl (fun t_ w hw => x_load (.int .i64 e.time.v) ag_2 rfl (hw.blk_at (i := 0) rfl) rfl) (Fv 3 rfl (fun t_ w hw => x_conv ((e.time.v.toNat : Nat) : Int) rfl us_2 ik_61 ((wu64 t0).trans t0) w) (Fv 6 rfl (fun t_ w hw => x_fieldAddr 119 2 3 3 9 rfl fi_119_2 rfl w) (Fv 7 rfl (fun t_ w hw => x_load (.string e.typ.v) ag_9 rfl (hw.blk_at (i := 0) rfl) rfl) ?_)))))
 refine f_all (rs := [4]) t7 t16 ?_
 refine a_cons ⟨_, rfl, ?_⟩ (fun x hx => absurd hx t16)
 intro w42 H43
 try dsimp only at H43
 refine s_call [.int .u64 ((e.time.v.toNat : Nat) : Int)] pl_32 rfl rfl (ref01_Nat e.time.v.toNat t0 H43) ?_
 rintro _ w46 ⟨pp44, cc45, rfl, H47⟩
 have H48 : St W w46 (_ :: _ :: _ :: _ :: _ :: _ :: F) := ((((((H47.move 5 rfl).move 1 rfl).move 5 rfl).move 5 rfl).move 5 rfl).move 5 rfl)
 refine ⟨Row 4 1 (.slice pp44 (sizeU e.time.v.toNat) cc45) (sizeU e.time.v.toNat) ((natB e.time.v.toNat).flatMap blc) :: Row 4 1 (.slice pp38 (4 + sizeU e.seq.v.toNat) cc39) (4 + sizeU e.seq.v.toNat) ((lowB e.src.v.toNat 4).flatMap blc ++ (natB e.seq.v.toNat).flatMap blc) :: F, ?_, H48⟩
 change FReg _ _ _ _ _ #[true, true, true, true, true, false, true, true, false, false, false] _ _
 refine f_all (rs := [5]) t7 t16 ?_
 refine a_cons ⟨_, rfl, ?_⟩ (fun x hx => absurd hx t16)
 intro w49 H50
 try dsimp only at H50
 refine s_append H50 5 rfl rfl rfl (Row.rd H50 (i := 4) rfl) ap_39 t10 t15 t0 (n' := 4 + sizeU e.seq.v.toNat + sizeU e.time.v.toNat) (xs' := (lowB e.src.v.toNat 4).flatMap blc ++ (natB e.seq.v.toNat).flatMap blc ++ (natB e.time.v.toNat).flatMap blc) t0 t31 rfl ?_; intro vv51 w52 H53 hn54
 obtain ⟨pp55, cc56, rfl⟩ := Row.slice H53 (i := 5) rfl
 refine ⟨Row 4 1 (.slice pp44 (sizeU e.time.v.toNat) cc45) (sizeU e.time.v.toNat) ((natB e.time.v.toNat).flatMap blc) :: Row 4 1 (.slice pp55 (4 + sizeU e.seq.v.toNat + sizeU e.time.v.toNat) cc56) (4 + sizeU e.seq.v.toNat + sizeU e.time.v.toNat) ((lowB e.src.v.toNat 4).flatMap blc ++ (natB e.seq.v.toNat).flatMap blc ++ (natB e.time.v.toNat).flatMap blc) :: F, ?_, H53⟩
 change FReg _ _ _ _ _ #[true, true, true, true, true, true, true, true, false, false, false] _ _
 refine f_all (rs := [8]) t7 t16 ?_
 refine a_cons ⟨_, rfl, ?_⟩ (fun x hx => absurd hx t16)
 intro w57 H58
 try dsimp only at H58
 refine s_call [.string e.typ.v] pl_73 rfl rfl (ref01_Text e.typ.v t0 H58) ?_
 rintro _ w61 ⟨pp59, cc60, rfl, H62⟩
 have H63 : St W w61 (_ :: _ :: _ :: _ :: _ :: _ :: _ :: F) := (((((((H62.move 6 rfl).move 6 rfl).move 2 rfl).move 6 rfl).move 6 rfl).move 6 rfl).move 6 rfl)
 refine ⟨Row 4 1 (.slice pp59 (sizeU e.typ.v.size + 8 * e.typ.v.size) cc60) (sizeU e.typ.v.size + 8 * e.typ.v.size) ((textB e.typ.v).flatMap blc) :: Row 4 1 (.slice pp44 (sizeU e.time.v.toNat) cc45) (sizeU e.time.v.toNat) ((natB e.time.v.toNat).flatMap blc) :: Row 4 1 (.slice pp55 (4 + sizeU e.seq.v.toNat + sizeU e.time.v.toNat) cc56) (4 + sizeU e.seq.v.toNat + sizeU e.time.v.toNat) ((lowB e.src.v.toNat 4).flatMap blc ++ (natB e.seq.v.toNat).flatMap blc ++ (natB e.time.v.toNat).flatMap blc) :: F, ?_, H63⟩
 change FReg _ _ _ _ _ #[true, true, true, true, true, true, true, true, true, false, false] _ _
 refine f_all (rs := [9]) t7 t16 ?_
 refine a_cons ⟨_, rfl, ?_⟩ (fun x hx => absurd hx t16)
 intro w64 H65
 try dsimp only at H65
 refine s_append H65 6 rfl rfl rfl (Row.rd H65 (i := 4) rfl) ap_39 t10 t15 t0 (n' := 4 + sizeU e.seq.v.toNat + sizeU e.time.v.toNat + sizeU e.typ.v.size + 8 * e.typ.v.size) (xs' := (lowB e.src.v.toNat 4).flatMap blc ++ (natB e.seq.v.toNat).flatMap blc ++ (natB e.time.v.toNat).flatMap blc ++ (textB e.typ.v).flatMap blc) t0 t31 rfl ?_; intro vv66 w67 H68 hn69
 obtain ⟨pp70, cc71, rfl⟩ := Row.slice H68 (i := 6) rfl
 refine ⟨Row 4 1 (.slice pp59 (sizeU e.typ.v.size + 8 * e.typ.v.size) cc60) (sizeU e.typ.v.size + 8 * e.typ.v.size) ((textB e.typ.v).flatMap blc) :: Row 4 1 (.slice pp44 (sizeU e.time.v.toNat) cc45) (sizeU e.time.v.toNat) ((natB e.time.v.toNat).flatMap blc) :: Row 4 1 (.slice pp70 (4 + sizeU e.seq.v.toNat + sizeU e.time.v.toNat + sizeU e.typ.v.size + 8 * e.typ.v.size) cc71) (4 + sizeU e.seq.v.toNat + sizeU e.time.v.toNat + sizeU e.typ.v.size + 8 * e.typ.v.size) ((lowB e.src.v.toNat 4).flatMap blc ++ (natB e.seq.v.toNat).flatMap blc ++ (natB e.time.v.toNat).flatMap blc ++ (textB e.typ.v).flatMap blc) :: F, ?_, H68⟩
 change FReg _ _ _ _ _ #[true, true, true, true, true, true, true, true, true, true, false] _ _
 refine Fv 10 rfl (fun t_ w hw => x_assign (.slice pp70 (4 + sizeU e.seq.v.toNat + sizeU e.time.v.toNat + sizeU e.typ.v.size + 8 * e.typ.v.size) cc71) rfl w) ?_
 refine f_done t7 ?_
 intro w72 H73
 refine g_seq (g_region (Mv (.slice pp70 (4 + sizeU e.seq.v.toNat + sizeU e.time.v.toNat + sizeU e.typ.v.size + 8 * e.typ.v.size) cc71) (Fa 4 fi_119_3 rfl (Lo (.slice pA1 e.attrs.length cA2) ag_117 H73 0 (rc (s_len e.attrs.length rfl ⟨_, un_117⟩ rfl (rc (s_conv ((e.attrs.length : Nat) : Int) rfl us_3 ik_61 (wu64 t0) rfl (rc (s_call [.int .u64 ((e.attrs.length : Nat) : Int), .int .i64 4] pl_33 rfl rfl (ref01_Low e.attrs.length 4 t0 t0 H73) ?_))))))))))
 rintro _ w76 ⟨pp74, cc75, rfl, H77⟩
 refine rc (s_append H77 7 rfl rfl rfl (Row.rd H77 (i := 0) rfl) ap_39 t10 t15 t0 (n' := 4 + sizeU e.seq.v.toNat + sizeU e.time.v.toNat + sizeU e.typ.v.size + 8 * e.typ.v.size + 4) (xs' := (lowB e.src.v.toNat 4).flatMap blc ++ (natB e.seq.v.toNat).flatMap blc ++ (natB e.time.v.toNat).flatMap blc ++ (textB e.typ.v).flatMap blc ++ (lowB e.attrs.length 4).flatMap blc) t0 t31 rfl ?_); intro vv78 w79 H80 hn81
 obtain ⟨pp82, cc83, rfl⟩ := Row.slice H80 (i := 7) rfl
 refine Ag (.slice pp82 (4 + sizeU e.seq.v.toNat + sizeU e.time.v.toNat + sizeU e.typ.v.size + 8 * e.typ.v.size + 4) cc83) (r_nil (g_seq (g_seq (g_region (Ag (.int .i64 0) (r_nil (g_block ?_)))))))
 have hX0 : (headB e ++ (e.attrs.take 0).flatMap attrB) = headB e := by rw [List.take_zero, List.flatMap_nil, List.append_nil]
 have hnn : (headB e ++ (e.attrs.take 0).flatMap attrB).length = 4 + sizeU e.seq.v.toNat + sizeU e.time.v.toNat + sizeU e.typ.v.size + 8 * e.typ.v.size + 4 := by rw [hX0]; unfold headB; simp only [List.length_append, lowB_len, natB_len, textB_len]; omega
 have H84 : St W w79 (Row 4 1 (.slice pp74 4 cc75) 4 ((lowB e.attrs.length 4).flatMap blc) :: blk bk15 (.cells #[.int .i64 e.src.v, .int .i64 e.seq.v, .int .i64 e.time.v, .string e.typ.v, .slice pA1 e.attrs.length cA2] 119 (0, 0)) :: Attrs (.slice pA1 e.attrs.length cA2) e.attrs :: imi (0 < e.attrs.length) gA3 (.cells kA5 eA6 zA7) :: Row 4 1 (.slice pp27 (sizeU e.seq.v.toNat) cc28) (sizeU e.seq.v.toNat) ((natB e.seq.v.toNat).flatMap blc) :: Row 4 1 (.slice pp59 (sizeU e.typ.v.size + 8 * e.typ.v.size) cc60) (sizeU e.typ.v.size + 8 * e.typ.v.size) ((textB e.typ.v).flatMap blc) :: Row 4 1 (.slice pp44 (sizeU e.time.v.toNat) cc45) (sizeU e.time.v.toNat) ((natB e.time.v.toNat).flatMap blc) :: Row 4 1 (.slice pp82 ((headB e ++ (e.attrs.take 0).flatMap attrB).length) cc83) ((headB e ++ (e.attrs.take 0).flatMap attrB).length) ((headB e ++ (e.attrs.take 0).flatMap attrB).flatMap blc) :: F) := by rw [hnn, hX0]; unfold headB; simp only [List.flatMap_append, List.append_assoc] at H80 ⊢; exact H80
 have H85 : St W w79 (_ :: _ :: _ :: _ :: _ :: _ :: _ :: _ :: F) := ((((((((H84.move 6 rfl).move 6 rfl).move 6 rfl).move 6 rfl).move 6 rfl).move 6 rfl).move 6 rfl).move 7 rfl)
 refine g_loop_inv (fun (x_ : Nat × (Option Addr) × Nat) => match x_ with | (j2, pq, cq) => [(1, .pointer (some ⟨bk15, 0, none⟩)), (2, .slice none 0 0), (3, .slice pq ((headB e ++ (e.attrs.take j2).flatMap attrB).length) cq), (4, .int .i64 (j2 : Int))]) (fun (x_ : Nat × (Option Addr) × Nat) w => match x_ with | (j2, pq, cq) => (j2 ≤ e.attrs.length) ∧ St W w (Row 4 1 (.slice pq ((headB e ++ (e.attrs.take j2).flatMap attrB).length) cq) ((headB e ++ (e.attrs.take j2).flatMap attrB).length) ((headB e ++ (e.attrs.take j2).flatMap attrB).flatMap blc) :: Row 4 1 (.slice pp74 4 cc75) 4 ((lowB e.attrs.length 4).flatMap blc) :: blk bk15 (.cells #[.int .i64 e.src.v, .int .i64 e.seq.v, .int .i64 e.time.v, .string e.typ.v, .slice pA1 e.attrs.length cA2] 119 (0, 0)) :: Attrs (.slice pA1 e.attrs.length cA2) e.attrs :: imi (0 < e.attrs.length) gA3 (.cells kA5 eA6 zA7) :: Row 4 1 (.slice pp27 (sizeU e.seq.v.toNat) cc28) (sizeU e.seq.v.toNat) ((natB e.seq.v.toNat).flatMap blc) :: Row 4 1 (.slice pp59 (sizeU e.typ.v.size + 8 * e.typ.v.size) cc60) (sizeU e.typ.v.size + 8 * e.typ.v.size) ((textB e.typ.v).flatMap blc) :: Row 4 1 (.slice pp44 (sizeU e.time.v.toNat) cc45) (sizeU e.time.v.toNat) ((natB e.time.v.toNat).flatMap blc) :: F)) (fun (x_ : Nat × (Option Addr) × Nat) => match x_ with | (j2, pq, cq) => e.attrs.length - j2) (0, pp82, cc83) ?_ ?_ ?_
 ·exact ⟨by first | rfl | exact vint t0, by first | rfl | exact vint t0, congrArg (fun z_ => Value.slice pp82 z_ cc83) hnn.symm, by first | rfl | exact vint t0, trivial⟩
 ·exact ⟨t0, H85⟩
 rintro ⟨j2, pq, cq⟩ ρ86 w87 ⟨hj2, H88⟩ nx89
 change Ends _ _ (upds ρ86 [(1, .pointer (some ⟨bk15, 0, none⟩)), (2, .slice none 0 0), (3, .slice pq ((headB e ++ (e.attrs.take j2).flatMap attrB).length) cq), (4, .int .i64 (j2 : Int))]) w87
 refine g_seq (g_seq (g_region (Mv (.int .i64 (j2 : Int)) (Fa 4 fi_119_3 rfl (Lo (.slice pA1 e.attrs.length cA2) ag_117 H88 2 (rc (s_len e.attrs.length rfl ⟨_, un_117⟩ rfl ?_)))))))
 by_cases hc90 : (j2 : Int) < (e.attrs.length : Int)
 ·refine rc (s_lss true rfl rfl (dtrue hc90) rfl (r_nil (g_true rfl (g_skip (g_seq (g_block (g_seq (g_region (Fa 4 fi_119_3 rfl (Lo (.slice pA1 e.attrs.length cA2) ag_117 H88 2 (Mv (.int .i64 (j2 : Int)) (rc (s_indexAddr gA3 (off := oA4) (j2 : Int) 4 (oA4 + j2 * 4) (by exact congrArg (fun z_ => Value.slice z_ e.attrs.length cA2) (hp9 t0)) rfl el_117 t0 rfl rfl (rc (s_loadAgg [.string ((e.attrs.getD j2 default).name.v), .int .i64 ((e.attrs.getD j2 default).kind.v), .int .i64 ((e.attrs.getD j2 default).n.v), .string ((e.attrs.getD j2 default).s.v)] 4 ag_147 rfl (H88.imi_at (i := 4) rfl t0) (by have := elem_size (i := j2) (s := 4) (hs11 t0) t0; omega) (elem_take attrCell_len (hx10 t0) t0 default) rfl (rc (s_alloc H88 147 ze_147 rfl (fun bk91 w92 H93 => Sa H93 0 rfl #[.string ((e.attrs.getD j2 default).name.v), .int .i64 ((e.attrs.getD j2 default).kind.v), .int .i64 ((e.attrs.getD j2 default).n.v), .string ((e.attrs.getD j2 default).s.v)] 4 sz_147 #[.string ((e.attrs.getD j2 default).name.v), .int .i64 ((e.attrs.getD j2 default).kind.v), .int .i64 ((e.attrs.getD j2 default).n.v), .string ((e.attrs.getD j2 default).s.v)] (fun w94 H95 => r_nil (g_seq ?_))))))))))))))))))))
  have H96 : St W w94 (_ :: _ :: _ :: _ :: _ :: _ :: _ :: _ :: _ :: F) := (((((((((H95.move 1 rfl).move 8 rfl).move 8 rfl).move 8 rfl).move 8 rfl).move 8 rfl).move 8 rfl).move 8 rfl).move 8 rfl)
  refine g_mix (fun t_ w => St W w (blk bk91 (.cells #[.string ((e.attrs.getD j2 default).name.v), .int .i64 ((e.attrs.getD j2 default).kind.v), .int .i64 ((e.attrs.getD j2 default).n.v), .string ((e.attrs.getD j2 default).s.v)] 147 (0, 0)) :: Row 4 1 (.slice pp74 4 cc75) 4 ((lowB e.attrs.length 4).flatMap blc) :: blk bk15 (.cells #[.int .i64 e.src.v, .int .i64 e.seq.v, .int .i64 e.time.v, .string e.typ.v, .slice pA1 e.attrs.length cA2] 119 (0, 0)) :: Attrs (.slice pA1 e.attrs.length cA2) e.attrs :: imi (0 < e.attrs.length) gA3 (.cells kA5 eA6 zA7) :: Row 4 1 (.slice pp27 (sizeU e.seq.v.toNat) cc28) (sizeU e.seq.v.toNat) ((natB e.seq.v.toNat).flatMap blc) :: Row 4 1 (.slice pp59 (sizeU e.typ.v.size + 8 * e.typ.v.size) cc60) (sizeU e.typ.v.size + 8 * e.typ.v.size) ((textB e.typ.v).flatMap blc) :: Row 4 1 (.slice pp44 (sizeU e.time.v.toNat) cc45) (sizeU e.time.v.toNat) ((natB e.time.v.toNat).flatMap blc) :: t_)) (Row 4 1 (.slice pq ((headB e ++ (e.attrs.take j2).flatMap attrB).length) cq) ((headB e ++ (e.attrs.take j2).flatMap attrB).length) ((headB e ++ (e.attrs.take j2).flatMap attrB).flatMap blc) :: F) mixed 12 rfl H96.drew ?_
  refine Ff 0 rfl ?_
  obtain ⟨ha1, ha2, ha3, ha4⟩ := attr_ok hr6 (j := j2) t0
  have hnlo := (e.attrs.getD j2 default).n.lo
  have hnhi := (e.attrs.getD j2 default).n.hi
  have hz4 := sizeU_le (u := (e.attrs.getD j2 default).name.v.size) t0
  have hz5 := sizeU_le (u := (e.attrs.getD j2 default).s.v.size) t0
  have hz6 := sizeU_le (zigN_lt hnlo hnhi)
  have hfl2 : (headB e ++ (e.attrs.take j2).flatMap attrB).length ≤ 20000 := by have h1 := attrs_le hr6 j2 t0; have h2 := textB_le hn5 t0; unfold headB; simp only [List.length_append, lowB_len, natB_len]; omega
  refine f_val rfl rfl rfl (by intro _ w _; exact x_move (.slice pq ((headB e ++ (e.attrs.take j2).flatMap attrB).length) cq) rfl w) ?_
  refine Fv 1 rfl (fun t_ w hw => x_fieldAddr 147 0 0 0 9 rfl fi_147_0 rfl w) (Fv 2 rfl (fun t_ w hw => x_load (.string ((e.attrs.getD j2 default).name.v)) ag_9 rfl (hw.blk_at (i := 0) rfl) rfl) (Fv 5 rfl (fun t_ w hw => x_fieldAddr 147 1 1 1 145 rfl fi_147_1 rfl w) (Fv 6 rfl (fun t_ w hw => x_fieldAddr 145 0 0 1 3 rfl fi_145_0 rfl w) (Fv 7 rfl (fun t_ w hw => x_load (.int .i64 ((e.attrs.getD j2 default).kind.v)) ag_3 rfl (hw.blk_at (i := 0) rfl) rfl) (Fv 8 rfl (fun t_ w hw => x_conv (((e.attrs.getD j2 default).kind.v.toNat : Nat) : Int) rfl us_3 ik_61 ((wu64 t0).trans t0) w) ?_)))))
  refine f_all (rs := [3]) t7 t16 ?_
  refine a_cons ⟨_, rfl, ?_⟩ (fun x hx => absurd hx t16)
  intro w97 H98
  try dsimp only at H98
  refine s_call [.string ((e.attrs.getD j2 default).name.v)] pl_73 rfl rfl (ref01_Text ((e.attrs.getD j2 default).name.v) t0 H98) ?_
  rintro _ w101 ⟨pp99, cc100, rfl, H102⟩
  have H103 : St W w101 (_ :: _ :: _ :: _ :: _ :: _ :: _ :: _ :: _ :: _ :: F) := ((((((((((H102.move 9 rfl).move 1 rfl).move 9 rfl).move 9 rfl).move 9 rfl).move 9 rfl).move 9 rfl).move 9 rfl).move 9 rfl).move 9 rfl)
  refine ⟨Row 4 1 (.slice pp99 (sizeU ((e.attrs.getD j2 default).name.v).size + 8 * ((e.attrs.getD j2 default).name.v).size) cc100) (sizeU ((e.attrs.getD j2 default).name.v).size + 8 * ((e.attrs.getD j2 default).name.v).size) ((textB ((e.attrs.getD j2 default).name.v)).flatMap blc) :: Row 4 1 (.slice pq ((headB e ++ (e.attrs.take j2).flatMap attrB).length) cq) ((headB e ++ (e.attrs.take j2).flatMap attrB).length) ((headB e ++ (e.attrs.take j2).flatMap attrB).flatMap blc) :: F, ?_, H103⟩
  change FReg _ _ _ _ _ #[true, true, true, true, false, true, true, true, true, false, false, false] _ _
  refine f_all (rs := [4]) t7 t16 ?_
  refine a_cons ⟨_, rfl, ?_⟩ (fun x hx => absurd hx t16)
  intro w104 H105
  try dsimp only at H105
  refine s_append H105 9 rfl rfl rfl (Row.rd H105 (i := 8) rfl) ap_39 t10 t15 t0 (n' := (headB e ++ (e.attrs.take j2).flatMap attrB).length + sizeU ((e.attrs.getD j2 default).name.v).size + 8 * ((e.attrs.getD j2 default).name.v).size) (xs' := (headB e ++ (e.attrs.take j2).flatMap attrB).flatMap blc ++ (textB ((e.attrs.getD j2 default).name.v)).flatMap blc) t0 t31 rfl ?_; intro vv106 w107 H108 hn109
  obtain ⟨pp110, cc111, rfl⟩ := Row.slice H108 (i := 9) rfl
  refine ⟨Row 4 1 (.slice pp99 (sizeU ((e.attrs.getD j2 default).name.v).size + 8 * ((e.attrs.getD j2 default).name.v).size) cc100) (sizeU ((e.attrs.getD j2 default).name.v).size + 8 * ((e.attrs.getD j2 default).name.v).size) ((textB ((e.attrs.getD j2 default).name.v)).flatMap blc) :: Row 4 1 (.slice pp110 ((headB e ++ (e.attrs.take j2).flatMap attrB).length + sizeU ((e.attrs.getD j2 default).name.v).size + 8 * ((e.attrs.getD j2 default).name.v).size) cc111) ((headB e ++ (e.attrs.take j2).flatMap attrB).length + sizeU ((e.attrs.getD j2 default).name.v).size + 8 * ((e.attrs.getD j2 default).name.v).size) ((headB e ++ (e.attrs.take j2).flatMap attrB).flatMap blc ++ (textB ((e.attrs.getD j2 default).name.v)).flatMap blc) :: F, ?_, H108⟩
  change FReg _ _ _ _ _ #[true, true, true, true, true, true, true, true, true, false, false, false] _ _
  refine f_all (rs := [9]) t7 t16 ?_
  refine a_cons ⟨_, rfl, ?_⟩ (fun x hx => absurd hx t16)
  intro w112 H113
  try dsimp only at H113
  refine s_call [.int .u64 (((e.attrs.getD j2 default).kind.v.toNat : Nat) : Int), .int .i64 2] pl_33 rfl rfl (ref01_Low ((e.attrs.getD j2 default).kind.v.toNat) 2 t0 t0 H113) ?_
  rintro _ w116 ⟨pp114, cc115, rfl, H117⟩
  have H118 : St W w116 (_ :: _ :: _ :: _ :: _ :: _ :: _ :: _ :: _ :: _ :: _ :: F) := (((((H117.move 10 rfl).move 10 rfl).move 2 rfl).move 10 rfl).move 10 rfl)
  have H119 : St W w116 (_ :: _ :: _ :: _ :: _ :: _ :: _ :: _ :: _ :: _ :: _ :: F) := (((((H118.move 10 rfl).move 10 rfl).move 10 rfl).move 10 rfl).move 10 rfl)
  have H120 : St W w116 (_ :: _ :: _ :: _ :: _ :: _ :: _ :: _ :: _ :: _ :: _ :: F) := (H119.move 10 rfl)
  refine ⟨Row 4 1 (.slice pp114 2 cc115) 2 ((lowB ((e.attrs.getD j2 default).kind.v.toNat) 2).flatMap blc) :: Row 4 1 (.slice pp99 (sizeU ((e.attrs.getD j2 default).name.v).size + 8 * ((e.attrs.getD j2 default).name.v).size) cc100) (sizeU ((e.attrs.getD j2 default).name.v).size + 8 * ((e.attrs.getD j2 default).name.v).size) ((textB ((e.attrs.getD j2 default).name.v)).flatMap blc) :: Row 4 1 (.slice pp110 ((headB e ++ (e.attrs.take j2).flatMap attrB).length + sizeU ((e.attrs.getD j2 default).name.v).size + 8 * ((e.attrs.getD j2 default).name.v).size) cc111) ((headB e ++ (e.attrs.take j2).flatMap attrB).length + sizeU ((e.attrs.getD j2 default).name.v).size + 8 * ((e.attrs.getD j2 default).name.v).size) ((headB e ++ (e.attrs.take j2).flatMap attrB).flatMap blc ++ (textB ((e.attrs.getD j2 default).name.v)).flatMap blc) :: F, ?_, H120⟩
  change FReg _ _ _ _ _ #[true, true, true, true, true, true, true, true, true, true, false, false] _ _
  refine f_all (rs := [10]) t7 t16 ?_
  refine a_cons ⟨_, rfl, ?_⟩ (fun x hx => absurd hx t16)
  intro w121 H122
  try dsimp only at H122
  refine s_append H122 10 rfl rfl rfl (Row.rd H122 (i := 8) rfl) ap_39 t10 t15 t0 (n' := (headB e ++ (e.attrs.take j2).flatMap attrB).length + sizeU ((e.attrs.getD j2 default).name.v).size + 8 * ((e.attrs.getD j2 default).name.v).size + 2) (xs' := (headB e ++ (e.attrs.take j2).flatMap attrB).flatMap blc ++ (textB ((e.attrs.getD j2 default).name.v)).flatMap blc ++ (lowB ((e.attrs.getD j2 default).kind.v.toNat) 2).flatMap blc) t0 t31 rfl ?_; intro vv123 w124 H125 hn126
  obtain ⟨pp127, cc128, rfl⟩ := Row.slice H125 (i := 10) rfl
  refine ⟨Row 4 1 (.slice pp114 2 cc115) 2 ((lowB ((e.attrs.getD j2 default).kind.v.toNat) 2).flatMap blc) :: Row 4 1 (.slice pp99 (sizeU ((e.attrs.getD j2 default).name.v).size + 8 * ((e.attrs.getD j2 default).name.v).size) cc100) (sizeU ((e.attrs.getD j2 default).name.v).size + 8 * ((e.attrs.getD j2 default).name.v).size) ((textB ((e.attrs.getD j2 default).name.v)).flatMap blc) :: Row 4 1 (.slice pp127 ((headB e ++ (e.attrs.take j2).flatMap attrB).length + sizeU ((e.attrs.getD j2 default).name.v).size + 8 * ((e.attrs.getD j2 default).name.v).size + 2) cc128) ((headB e ++ (e.attrs.take j2).flatMap attrB).length + sizeU ((e.attrs.getD j2 default).name.v).size + 8 * ((e.attrs.getD j2 default).name.v).size + 2) ((headB e ++ (e.attrs.take j2).flatMap attrB).flatMap blc ++ (textB ((e.attrs.getD j2 default).name.v)).flatMap blc ++ (lowB ((e.attrs.getD j2 default).kind.v.toNat) 2).flatMap blc) :: F, ?_, H125⟩
  change FReg _ _ _ _ _ #[true, true, true, true, true, true, true, true, true, true, true, false] _ _
  refine Fv 11 rfl (fun t_ w hw => x_assign (.slice pp127 ((headB e ++ (e.attrs.take j2).flatMap attrB).length + sizeU ((e.attrs.getD j2 default).name.v).size + 8 * ((e.attrs.getD j2 default).name.v).size + 2) cc128) rfl w) ?_
  refine f_done t7 ?_
  intro w129 H130
  refine g_seq (g_region (Fa 1 fi_147_1 rfl (Fa 1 fi_145_0 rfl (Lo (.int .i64 ((e.attrs.getD j2 default).kind.v)) ag_3 H130 0 ?_))))
  by_cases hc131 : (e.attrs.getD j2 default).kind.v = 1
  ·refine rc (s_eql true rfl rfl (dtrue hc131) rfl (r_nil (g_true rfl (g_region ?_))))
   have hAB : attrB (e.attrs.getD j2 default) = textB (e.attrs.getD j2 default).name.v ++ lowB (e.attrs.getD j2 default).kind.v.toNat 2 ++ natB (zigN (e.attrs.getD j2 default).n.v) := by unfold attrB; rw [if_pos t11]
   refine Mv (.slice pp127 ((headB e ++ (e.attrs.take j2).flatMap attrB).length + sizeU ((e.attrs.getD j2 default).name.v).size + 8 * ((e.attrs.getD j2 default).name.v).size + 2) cc128) (Fa 1 fi_147_1 rfl (Fa 2 fi_145_1 rfl (Lo (.int .i64 ((e.attrs.getD j2 default).n.v)) ag_2 H130 0 (rc (s_call [.int .i64 ((e.attrs.getD j2 default).n.v)] pl_98 rfl rfl (ref01_Num ((e.attrs.getD j2 default).n.v) t0 t0 H130) ?_)))))
   rintro _ w134 ⟨pp132, cc133, rfl, H135⟩
   refine rc (s_append H135 11 rfl rfl rfl (Row.rd H135 (i := 0) rfl) ap_39 t10 t15 t0 (n' := (headB e ++ (e.attrs.take j2).flatMap attrB).length + sizeU ((e.attrs.getD j2 default).name.v).size + 8 * ((e.attrs.getD j2 default).name.v).size + 2 + sizeU (zigN ((e.attrs.getD j2 default).n.v))) (xs' := (headB e ++ (e.attrs.take j2).flatMap attrB).flatMap blc ++ (textB ((e.attrs.getD j2 default).name.v)).flatMap blc ++ (lowB ((e.attrs.getD j2 default).kind.v.toNat) 2).flatMap blc ++ (natB (zigN ((e.attrs.getD j2 default).n.v))).flatMap blc) t0 t31 rfl ?_); intro vv136 w137 H138 hn139
   obtain ⟨pp140, cc141, rfl⟩ := Row.slice H138 (i := 11) rfl
   refine Ag (.slice pp140 ((headB e ++ (e.attrs.take j2).flatMap attrB).length + sizeU ((e.attrs.getD j2 default).name.v).size + 8 * ((e.attrs.getD j2 default).name.v).size + 2 + sizeU (zigN ((e.attrs.getD j2 default).n.v))) cc141) (r_nil (g_inBlock (g_region (Mv (.int .i64 (j2 : Int)) (rc (s_add ((j2 : Int) + 1) rfl rfl (wi64 t0) rfl (Ag (.int .i64 ((j2 : Int) + 1)) (r_nil ?_))))))))
   have H142 : St W w137 (_ :: _ :: _ :: _ :: _ :: _ :: _ :: _ :: F) := ((((((((((((H138.move 8 rfl).move 8 rfl).move 8 rfl).move 8 rfl).move 8 rfl).move 8 rfl).move 8 rfl).move 11 rfl).drop 8 rfl).drop 8 rfl).drop 8 rfl).drop 8 rfl)
   have hnj : (headB e ++ (e.attrs.take (j2 + 1)).flatMap attrB).length = (headB e ++ (e.attrs.take j2).flatMap attrB).length + sizeU ((e.attrs.getD j2 default).name.v).size + 8 * ((e.attrs.getD j2 default).name.v).size + 2 + sizeU (zigN ((e.attrs.getD j2 default).n.v)) := by rw [attrs_take t0, hAB]; simp only [List.length_append, lowB_len, natB_len, textB_len]; omega
   have H143 : St W w137 (Row 4 1 (.slice pp140 ((headB e ++ (e.attrs.take (j2 + 1)).flatMap attrB).length) cc141) ((headB e ++ (e.attrs.take (j2 + 1)).flatMap attrB).length) ((headB e ++ (e.attrs.take (j2 + 1)).flatMap attrB).flatMap blc) :: Row 4 1 (.slice pp74 4 cc75) 4 ((lowB e.attrs.length 4).flatMap blc) :: blk bk15 (.cells #[.int .i64 e.src.v, .int .i64 e.seq.v, .int .i64 e.time.v, .string e.typ.v, .slice pA1 e.attrs.length cA2] 119 (0, 0)) :: Attrs (.slice pA1 e.attrs.length cA2) e.attrs :: imi (0 < e.attrs.length) gA3 (.cells kA5 eA6 zA7) :: Row 4 1 (.slice pp27 (sizeU e.seq.v.toNat) cc28) (sizeU e.seq.v.toNat) ((natB e.seq.v.toNat).flatMap blc) :: Row 4 1 (.slice pp59 (sizeU e.typ.v.size + 8 * e.typ.v.size) cc60) (sizeU e.typ.v.size + 8 * e.typ.v.size) ((textB e.typ.v).flatMap blc) :: Row 4 1 (.slice pp44 (sizeU e.time.v.toNat) cc45) (sizeU e.time.v.toNat) ((natB e.time.v.toNat).flatMap blc) :: F) := by rw [hnj, attrs_take t0, hAB]; simp only [List.flatMap_append, List.append_assoc] at H142 ⊢; exact H142
   exact nx89 (j2 + 1, pp140, cc141) _ _ ⟨t0, H143⟩ t9 ⟨by first | rfl | exact vint t0, by first | rfl | exact vint t0, congrArg (fun z_ => Value.slice pp140 z_ cc141) hnj.symm, by first | rfl | exact vint t0, trivial⟩
  refine rc (s_eql false rfl rfl (dfalse hc131) rfl (r_nil (g_false rfl (g_region ?_))))
  have hAB : attrB (e.attrs.getD j2 default) = textB (e.attrs.getD j2 default).name.v ++ lowB (e.attrs.getD j2 default).kind.v.toNat 2 ++ textB (e.attrs.getD j2 default).s.v := by unfold attrB; rw [if_neg t11]
  refine Mv (.slice pp127 ((headB e ++ (e.attrs.take j2).flatMap attrB).length + sizeU ((e.attrs.getD j2 default).name.v).size + 8 * ((e.attrs.getD j2 default).name.v).size + 2) cc128) (Fa 1 fi_147_1 rfl (Fa 3 fi_145_2 rfl (Lo (.string ((e.attrs.getD j2 default).s.v)) ag_9 H130 0 (rc (s_call [.string ((e.attrs.getD j2 default).s.v)] pl_73 rfl rfl (ref01_Text ((e.attrs.getD j2 default).s.v) t0 H130) ?_)))))
  rintro _ w146 ⟨pp144, cc145, rfl, H147⟩
  refine rc (s_append H147 11 rfl rfl rfl (Row.rd H147 (i := 0) rfl) ap_39 t10 t15 t0 (n' := (headB e ++ (e.attrs.take j2).flatMap attrB).length + sizeU ((e.attrs.getD j2 default).name.v).size + 8 * ((e.attrs.getD j2 default).name.v).size + 2 + sizeU ((e.attrs.getD j2 default).s.v).size + 8 * ((e.attrs.getD j2 default).s.v).size) (xs' := (headB e ++ (e.attrs.take j2).flatMap attrB).flatMap blc ++ (textB ((e.attrs.getD j2 default).name.v)).flatMap blc ++ (lowB ((e.attrs.getD j2 default).kind.v.toNat) 2).flatMap blc ++ (textB ((e.attrs.getD j2 default).s.v)).flatMap blc) t0 t31 rfl ?_); intro vv148 w149 H150 hn151
  obtain ⟨pp152, cc153, rfl⟩ := Row.slice H150 (i := 11) rfl
  refine Ag (.slice pp152 ((headB e ++ (e.attrs.take j2).flatMap attrB).length + sizeU ((e.attrs.getD j2 default).name.v).size + 8 * ((e.attrs.getD j2 default).name.v).size + 2 + sizeU ((e.attrs.getD j2 default).s.v).size + 8 * ((e.attrs.getD j2 default).s.v).size) cc153) (r_nil (g_inBlock (g_region (Mv (.int .i64 (j2 : Int)) (rc (s_add ((j2 : Int) + 1) rfl rfl (wi64 t0) rfl (Ag (.int .i64 ((j2 : Int) + 1)) (r_nil ?_))))))))
  have H154 : St W w149 (_ :: _ :: _ :: _ :: _ :: _ :: _ :: _ :: F) := ((((((((((((H150.move 8 rfl).move 8 rfl).move 8 rfl).move 8 rfl).move 8 rfl).move 8 rfl).move 8 rfl).move 11 rfl).drop 8 rfl).drop 8 rfl).drop 8 rfl).drop 8 rfl)
  have hnj : (headB e ++ (e.attrs.take (j2 + 1)).flatMap attrB).length = (headB e ++ (e.attrs.take j2).flatMap attrB).length + sizeU ((e.attrs.getD j2 default).name.v).size + 8 * ((e.attrs.getD j2 default).name.v).size + 2 + sizeU ((e.attrs.getD j2 default).s.v).size + 8 * ((e.attrs.getD j2 default).s.v).size := by rw [attrs_take t0, hAB]; simp only [List.length_append, lowB_len, natB_len, textB_len]; omega
  have H155 : St W w149 (Row 4 1 (.slice pp152 ((headB e ++ (e.attrs.take (j2 + 1)).flatMap attrB).length) cc153) ((headB e ++ (e.attrs.take (j2 + 1)).flatMap attrB).length) ((headB e ++ (e.attrs.take (j2 + 1)).flatMap attrB).flatMap blc) :: Row 4 1 (.slice pp74 4 cc75) 4 ((lowB e.attrs.length 4).flatMap blc) :: blk bk15 (.cells #[.int .i64 e.src.v, .int .i64 e.seq.v, .int .i64 e.time.v, .string e.typ.v, .slice pA1 e.attrs.length cA2] 119 (0, 0)) :: Attrs (.slice pA1 e.attrs.length cA2) e.attrs :: imi (0 < e.attrs.length) gA3 (.cells kA5 eA6 zA7) :: Row 4 1 (.slice pp27 (sizeU e.seq.v.toNat) cc28) (sizeU e.seq.v.toNat) ((natB e.seq.v.toNat).flatMap blc) :: Row 4 1 (.slice pp59 (sizeU e.typ.v.size + 8 * e.typ.v.size) cc60) (sizeU e.typ.v.size + 8 * e.typ.v.size) ((textB e.typ.v).flatMap blc) :: Row 4 1 (.slice pp44 (sizeU e.time.v.toNat) cc45) (sizeU e.time.v.toNat) ((natB e.time.v.toNat).flatMap blc) :: F) := by rw [hnj, attrs_take t0, hAB]; simp only [List.flatMap_append, List.append_assoc] at H154 ⊢; exact H154
  exact nx89 (j2 + 1, pp152, cc153) _ _ ⟨t0, H155⟩ t9 ⟨by first | rfl | exact vint t0, by first | rfl | exact vint t0, congrArg (fun z_ => Value.slice pp152 z_ cc153) hnj.symm, by first | rfl | exact vint t0, trivial⟩
 refine rc (s_lss false rfl rfl (dfalse hc90) rfl (r_nil (g_false rfl (g_exit t40 (g_seq (g_region (Mv (.slice pq ((headB e ++ (e.attrs.take j2).flatMap attrB).length) cq) (Ag (.slice pq ((headB e ++ (e.attrs.take j2).flatMap attrB).length) cq) (r_nil (Gr [.slice pq ((headB e ++ (e.attrs.take j2).flatMap attrB).length) cq] Tryz.func74 Tryz.results74 ?_))))))))))
 have H156 : St W w87 (_ :: F) := (((((((H88.drop 1 rfl).drop 1 rfl).drop 1 rfl).drop 1 rfl).drop 1 rfl).drop 1 rfl).drop 1 rfl)
 obtain rfl : j2 = e.attrs.length := by omega
 have hfm : headB e ++ (e.attrs.take e.attrs.length).flatMap attrB = formB e := by rw [List.take_length]; rfl
 exact ⟨_, _, _, rfl, by rw [hfm], by rw [← hfm]; exact H156⟩
set_option maxHeartbeats 4000000 in
set_option maxRecDepth 100000 in
theorem ev_keep {W w : World} {F : List Atom} (r b : Nat) (x y : Int) {i : Nat} (hi : F[i]? = some (blk r (.cells #[.pointer (some ⟨b, 0, none⟩), .int .i64 x] 164 (0, 0)))) (H : St W w F) : Calls Tryz.prog 129 #[.pointer (some ⟨r, 0, none⟩), .int .i64 y] w (Ret fun v w' => v = .tuple #[] ∧ St W w' (F.set i (blk r (.cells #[.pointer (some ⟨b, 0, none⟩), .int .i64 (if x = 0 then y else x)] 164 (0, 0))))) := by
 have H0 := H.front hi
 refine calls_of_go (n := 13) Tryz.func129 rfl Tryz.ntmps129 rfl ?_
 refine g_seq (g_region (Mv (.pointer (some ⟨r, 0, none⟩)) (Nc (.pointer (some ⟨r, 0, none⟩)) (Fa 1 fi_164_1 rfl (Lo (.int .i64 x) ag_28 H0 0 ?_)))))
 by_cases hc1 : x = 0
 ·refine rc (s_eql true rfl rfl (dtrue hc1) rfl (r_nil (g_true rfl (g_region (Mv (.pointer (some ⟨r, 0, none⟩)) (Mv (.int .i64 y) (Nc (.pointer (some ⟨r, 0, none⟩)) (Fa 1 fi_164_1 rfl (rc (s_store H0 0 (.int .i64 y) rfl rfl rfl sz_28 rfl (nbl rfl) rfl (cs' := #[.pointer (some ⟨b, 0, none⟩), .int .i64 y]) rfl (fun w2 H3 => r_nil ?_)))))))))))
  refine g_end' [] Tryz.func129 Tryz.results129 trivial ?_
  have H4 : St W w2 (_ :: (F.set i emp)) := H3
  exact ⟨rfl, by rw [if_pos hc1]; exact St.back hi H4⟩
 refine rc (s_eql false rfl rfl (dfalse hc1) rfl (r_nil (g_false rfl (g_skip ?_))))
 refine g_end' [] Tryz.func129 Tryz.results129 trivial ?_
 have H5 : St W w (_ :: (F.set i emp)) := H0
 exact ⟨rfl, by rw [if_neg hc1]; exact St.back hi H5⟩
set_option maxHeartbeats 4000000 in
set_option maxRecDepth 100000 in
theorem ev_bits {W w : World} {F : List Atom} (r b : Nat) (bs : List UInt8) (p : Nat) (X : RX) (hR : remB bs p = X.R) (hp : p ≤ 8 * bs.length) (hb : bs.length ≤ 140737488355328) (kk_ : Int) (hk : 0 ≤ kk_ ∧ kk_ ≤ 8) (H : St W w (blk r (.cells #[.pointer (some ⟨b, 0, none⟩), .int .i64 X.e] 164 (0, 0)) :: SrcA b bs p :: F)) : Calls Tryz.prog 126 #[.pointer (some ⟨r, 0, none⟩), .int .i64 kk_] w (Ret fun v w' => v = .int .i64 ((stB kk_ X).1 : Int) ∧ ∃ p', remB bs p' = ((stB kk_ X).2).R ∧ p' ≤ 8 * bs.length ∧ St W w' (blk r (.cells #[.pointer (some ⟨b, 0, none⟩), .int .i64 (((stB kk_ X).2).e)] 164 (0, 0)) :: SrcA b bs p' :: F)) := by
 have hxl : X.R.length ≤ 1125899906842624 := by rw [← hR, remB_len]; omega
 refine calls_of_go (n := 26) Tryz.func126 rfl Tryz.ntmps126 rfl ?_
 refine g_seq (g_region (Ag (.int .i64 0) (r_nil (g_seq (g_seq (g_region (Mv (.pointer (some ⟨r, 0, none⟩)) (Nc (.pointer (some ⟨r, 0, none⟩)) (Fa 1 fi_164_1 rfl (Lo (.int .i64 X.e) ag_28 H 0 ?_))))))))))
 by_cases hc1 : X.e = 0
 ·refine rc (s_neq false rfl rfl (ntrue hc1) rfl (r_nil (g_false rfl (g_skip (g_seq (g_region (Mv (.pointer (some ⟨r, 0, none⟩)) (Nc (.pointer (some ⟨r, 0, none⟩)) (Fa 0 fi_164_0 rfl (Lo (.pointer (some ⟨b, 0, none⟩)) ag_70 H 0 (Mv (.int .i64 kk_) (rc (s_call [.pointer (some ⟨b, 0, none⟩), .int .i64 kk_] pl_76 rfl rfl (Src_Bits b bs p t4 t18 kk_  (i := 1) rfl H) ?_)))))))))))))
  rintro _ w2 ⟨rfl, H3⟩
  refine Mv (.tuple #[.int .u64 (srcU (remB bs p) kk_ : Int), .int .i64 (srcE (remB bs p) kk_)]) (Ex (.int .u64 (srcU (remB bs p) kk_ : Int)) (Ex (.int .i64 (srcE (remB bs p) kk_)) (Ag (.int .u64 (srcU (remB bs p) kk_ : Int)) (Ag (.int .i64 (srcE (remB bs p) kk_)) (r_nil (g_seq (g_region (Mv (.pointer (some ⟨r, 0, none⟩)) (Mv (.int .i64 (srcE (remB bs p) kk_)) (rc (s_call [.pointer (some ⟨r, 0, none⟩), .int .i64 (srcE (remB bs p) kk_)] pl_129 rfl rfl (ev_keep r b X.e (srcE (remB bs p) kk_) (i := 0) rfl H3) ?_)))))))))))
  rintro _ w4 ⟨rfl, H5⟩
  refine r_nil (g_seq (g_region ?_))
  have hlt := srcU_lt8 (R := remB bs p) hk
  refine Mv (.int .u64 (srcU (remB bs p) kk_ : Int)) (rc (s_conv (srcU (remB bs p) kk_ : Int) rfl us_61 ik_3 (wi64 t0) rfl (Ag (.int .i64 (srcU (remB bs p) kk_ : Int)) (r_nil (Gr [.int .i64 (srcU (remB bs p) kk_ : Int)] Tryz.func126 Tryz.results126 ?_)))))
  have H6 : St W w4 (_ :: _ :: F) := ((H5.move 1 rfl).move 1 rfl)
  have hx := H6
  rw [if_pos hc1] at hx
  rw [stB_yes hc1, ← hR]
  exact ⟨rfl, p + srcN (remB bs p) kk_, (remB_drop bs p _).symm, srcN_pos hp, hx⟩
 refine rc (s_neq true rfl rfl (nfalse hc1) rfl (r_nil (g_true rfl (g_seq (g_region (Ag (.int .i64 0) (r_nil (Gr [.int .i64 0] Tryz.func126 Tryz.results126 ?_))))))))
 have H7 : St W w (_ :: _ :: F) := ((H.move 1 rfl).move 1 rfl)
 rw [stB_no hc1]
 exact ⟨rfl, p, hR, hp, H7⟩
set_option maxHeartbeats 4000000 in
set_option maxRecDepth 100000 in
theorem ev_nat {W w : World} {F : List Atom} (r b : Nat) (bs : List UInt8) (p : Nat) (X : RX) (hR : remB bs p = X.R) (hp : p ≤ 8 * bs.length) (hb : bs.length ≤ 140737488355328) (H : St W w (blk r (.cells #[.pointer (some ⟨b, 0, none⟩), .int .i64 X.e] 164 (0, 0)) :: SrcA b bs p :: F)) : Calls Tryz.prog 127 #[.pointer (some ⟨r, 0, none⟩)] w (Ret fun v w' => v = .int .i64 (tmN (stN X).1) ∧ ∃ p', remB bs p' = ((stN X).2).R ∧ p' ≤ 8 * bs.length ∧ St W w' (blk r (.cells #[.pointer (some ⟨b, 0, none⟩), .int .i64 (((stN X).2).e)] 164 (0, 0)) :: SrcA b bs p' :: F)) := by
 have hxl : X.R.length ≤ 1125899906842624 := by rw [← hR, remB_len]; omega
 refine calls_of_go (n := 25) Tryz.func127 rfl Tryz.ntmps127 rfl ?_
 refine g_seq (g_region (Ag (.int .i64 0) (r_nil (g_seq (g_seq (g_region (Mv (.pointer (some ⟨r, 0, none⟩)) (Nc (.pointer (some ⟨r, 0, none⟩)) (Fa 1 fi_164_1 rfl (Lo (.int .i64 X.e) ag_28 H 0 ?_))))))))))
 by_cases hc1 : X.e = 0
 ·refine rc (s_neq false rfl rfl (ntrue hc1) rfl (r_nil (g_false rfl (g_skip (g_seq (g_region (Mv (.pointer (some ⟨r, 0, none⟩)) (Nc (.pointer (some ⟨r, 0, none⟩)) (Fa 0 fi_164_0 rfl (Lo (.pointer (some ⟨b, 0, none⟩)) ag_70 H 0 (rc (s_call [.pointer (some ⟨b, 0, none⟩)] pl_75 rfl rfl (Src_Nat b bs p t4 t18   (i := 1) rfl H) ?_))))))))))))
  rintro _ w2 ⟨rfl, H3⟩
  refine Mv (.tuple #[.int .u64 (natU (remB bs p) : Int), .int .i64 (natE (remB bs p))]) (Ex (.int .u64 (natU (remB bs p) : Int)) (Ex (.int .i64 (natE (remB bs p))) (Ag (.int .u64 (natU (remB bs p) : Int)) (Ag (.int .i64 (natE (remB bs p))) (r_nil (g_seq (g_region (Mv (.pointer (some ⟨r, 0, none⟩)) (Mv (.int .i64 (natE (remB bs p))) (rc (s_call [.pointer (some ⟨r, 0, none⟩), .int .i64 (natE (remB bs p))] pl_129 rfl rfl (ev_keep r b X.e (natE (remB bs p)) (i := 0) rfl H3) ?_)))))))))))
  rintro _ w4 ⟨rfl, H5⟩
  refine r_nil (g_seq (g_seq (g_region (Mv (.int .u64 (natU (remB bs p) : Int)) ?_))))
  by_cases hc6 : (1099511627776 : Int) < (natU (remB bs p) : Int)
  ·refine rc (s_gtr true rfl rfl (dtrue hc6) rfl (r_nil (g_true rfl (g_seq (g_region (Ag (.int .i64 (-1)) (r_nil (Gr [.int .i64 (-1)] Tryz.func127 Tryz.results127 ?_))))))))
   have H7 : St W w4 (_ :: _ :: F) := ((H5.move 1 rfl).move 1 rfl)
   have hx := H7
   rw [if_pos hc1] at hx
   rw [stN_yes hc1, ← hR]
   exact ⟨vint (by unfold tmN; first | (rw [if_pos t0]; done) | (rw [if_neg t0]; done)), p + natN (remB bs p), (remB_drop bs p _).symm, natN_pos hp, hx⟩
  refine rc (s_gtr false rfl rfl (dfalse hc6) rfl (r_nil (g_false rfl (g_skip (g_seq (g_region (Mv (.int .u64 (natU (remB bs p) : Int)) (rc (s_conv (natU (remB bs p) : Int) rfl us_61 ik_2 (wi64 t0) rfl (Ag (.int .i64 (natU (remB bs p) : Int)) (r_nil (Gr [.int .i64 (natU (remB bs p) : Int)] Tryz.func127 Tryz.results127 ?_))))))))))))
  have H8 : St W w4 (_ :: _ :: F) := ((H5.move 1 rfl).move 1 rfl)
  have hx := H8
  rw [if_pos hc1] at hx
  rw [stN_yes hc1, ← hR]
  exact ⟨vint (by unfold tmN; first | (rw [if_pos t0]; done) | (rw [if_neg t0]; done)), p + natN (remB bs p), (remB_drop bs p _).symm, natN_pos hp, hx⟩
 refine rc (s_neq true rfl rfl (nfalse hc1) rfl (r_nil (g_true rfl (g_seq (g_region (Ag (.int .i64 0) (r_nil (Gr [.int .i64 0] Tryz.func127 Tryz.results127 ?_))))))))
 have H9 : St W w (_ :: _ :: F) := ((H.move 1 rfl).move 1 rfl)
 rw [stN_no hc1]
 exact ⟨vint (by exact (show tmN 0 = 0 from rfl).symm), p, hR, hp, H9⟩
set_option maxHeartbeats 4000000 in
set_option maxRecDepth 100000 in
theorem ev_text {W w : World} {F : List Atom} (r b : Nat) (bs : List UInt8) (p : Nat) (X : RX) (hR : remB bs p = X.R) (hp : p ≤ 8 * bs.length) (hb : bs.length ≤ 140737488355328) (H : St W w (blk r (.cells #[.pointer (some ⟨b, 0, none⟩), .int .i64 X.e] 164 (0, 0)) :: SrcA b bs p :: F)) : Calls Tryz.prog 128 #[.pointer (some ⟨r, 0, none⟩)] w (Ret fun v w' => v = .string ((stT X).1) ∧ ∃ p', remB bs p' = ((stT X).2).R ∧ p' ≤ 8 * bs.length ∧ St W w' (blk r (.cells #[.pointer (some ⟨b, 0, none⟩), .int .i64 (((stT X).2).e)] 164 (0, 0)) :: SrcA b bs p' :: F)) := by
 have hxl : X.R.length ≤ 1125899906842624 := by rw [← hR, remB_len]; omega
 refine calls_of_go (n := 22) Tryz.func128 rfl Tryz.ntmps128 rfl ?_
 refine g_seq (g_region (Ag (.string ByteArray.empty) (r_nil (g_seq (g_seq (g_region (Mv (.pointer (some ⟨r, 0, none⟩)) (Nc (.pointer (some ⟨r, 0, none⟩)) (Fa 1 fi_164_1 rfl (Lo (.int .i64 X.e) ag_28 H 0 ?_))))))))))
 by_cases hc1 : X.e = 0
 ·refine rc (s_neq false rfl rfl (ntrue hc1) rfl (r_nil (g_false rfl (g_skip (g_seq (g_region (Mv (.pointer (some ⟨r, 0, none⟩)) (Nc (.pointer (some ⟨r, 0, none⟩)) (Fa 0 fi_164_0 rfl (Lo (.pointer (some ⟨b, 0, none⟩)) ag_70 H 0 (rc (s_call [.pointer (some ⟨b, 0, none⟩)] pl_102 rfl rfl (Src_Text b bs p t4 t18 (i := 1) rfl H) ?_))))))))))))
  rintro _ w2 ⟨rfl, H3⟩
  refine Mv (.tuple #[.string (textS (remB bs p)), .int .i64 (textE (remB bs p))]) (Ex (.string (textS (remB bs p))) (Ex (.int .i64 (textE (remB bs p))) (Ag (.string (textS (remB bs p))) (Ag (.int .i64 (textE (remB bs p))) (r_nil (g_seq (g_region (Mv (.pointer (some ⟨r, 0, none⟩)) (Mv (.int .i64 (textE (remB bs p))) (rc (s_call [.pointer (some ⟨r, 0, none⟩), .int .i64 (textE (remB bs p))] pl_129 rfl rfl (ev_keep r b X.e (textE (remB bs p)) (i := 0) rfl H3) ?_)))))))))))
  rintro _ w4 ⟨rfl, H5⟩
  refine r_nil (g_seq (g_region (Mv (.string (textS (remB bs p))) (Ag (.string (textS (remB bs p))) (r_nil (Gr [.string (textS (remB bs p))] Tryz.func128 Tryz.results128 ?_))))))
  have H6 : St W w4 (_ :: _ :: F) := ((H5.move 1 rfl).move 1 rfl)
  have hx := H6
  rw [if_pos hc1] at hx
  rw [stT_yes hc1, ← hR]
  exact ⟨rfl, p + textN (remB bs p), (remB_drop bs p _).symm, textN_pos hp, hx⟩
 refine rc (s_neq true rfl rfl (nfalse hc1) rfl (r_nil (g_true rfl (g_seq (g_region (Ag (.string ByteArray.empty) (r_nil (Gr [.string ByteArray.empty] Tryz.func128 Tryz.results128 ?_))))))))
 have H7 : St W w (_ :: _ :: F) := ((H.move 1 rfl).move 1 rfl)
 rw [stT_no hc1]
 exact ⟨rfl, p, hR, hp, H7⟩
set_option maxHeartbeats 4000000 in
set_option maxRecDepth 100000 in
theorem ev_num {W w : World} {F : List Atom} (r b : Nat) (bs : List UInt8) (p : Nat) (X : RX) (hR : remB bs p = X.R) (hp : p ≤ 8 * bs.length) (hb : bs.length ≤ 140737488355328) (H : St W w (blk r (.cells #[.pointer (some ⟨b, 0, none⟩), .int .i64 X.e] 164 (0, 0)) :: SrcA b bs p :: F)) : Calls Tryz.prog 132 #[.pointer (some ⟨r, 0, none⟩)] w (Ret fun v w' => v = .int .i64 (zagN (stN X).1) ∧ ∃ p', remB bs p' = ((stN X).2).R ∧ p' ≤ 8 * bs.length ∧ St W w' (blk r (.cells #[.pointer (some ⟨b, 0, none⟩), .int .i64 (((stN X).2).e)] 164 (0, 0)) :: SrcA b bs p' :: F)) := by
 have hxl : X.R.length ≤ 1125899906842624 := by rw [← hR, remB_len]; omega
 refine calls_of_go (n := 22) Tryz.func132 rfl Tryz.ntmps132 rfl ?_
 refine g_seq (g_region (Ag (.int .i64 0) (r_nil (g_seq (g_seq (g_region (Mv (.pointer (some ⟨r, 0, none⟩)) (Nc (.pointer (some ⟨r, 0, none⟩)) (Fa 1 fi_164_1 rfl (Lo (.int .i64 X.e) ag_28 H 0 ?_))))))))))
 by_cases hc1 : X.e = 0
 ·refine rc (s_neq false rfl rfl (ntrue hc1) rfl (r_nil (g_false rfl (g_skip (g_seq (g_region (Mv (.pointer (some ⟨r, 0, none⟩)) (Nc (.pointer (some ⟨r, 0, none⟩)) (Fa 0 fi_164_0 rfl (Lo (.pointer (some ⟨b, 0, none⟩)) ag_70 H 0 (rc (s_call [.pointer (some ⟨b, 0, none⟩)] pl_134 rfl rfl (Src_Num b bs p t4 t18   (i := 1) rfl H) ?_))))))))))))
  rintro _ w2 ⟨rfl, H3⟩
  refine Mv (.tuple #[.int .i64 (zagN (natU (remB bs p))), .int .i64 (natE (remB bs p))]) (Ex (.int .i64 (zagN (natU (remB bs p)))) (Ex (.int .i64 (natE (remB bs p))) (Ag (.int .i64 (zagN (natU (remB bs p)))) (Ag (.int .i64 (natE (remB bs p))) (r_nil (g_seq (g_region (Mv (.pointer (some ⟨r, 0, none⟩)) (Mv (.int .i64 (natE (remB bs p))) (rc (s_call [.pointer (some ⟨r, 0, none⟩), .int .i64 (natE (remB bs p))] pl_129 rfl rfl (ev_keep r b X.e (natE (remB bs p)) (i := 0) rfl H3) ?_)))))))))))
  rintro _ w4 ⟨rfl, H5⟩
  refine r_nil (g_seq (g_region (Mv (.int .i64 (zagN (natU (remB bs p)))) (Ag (.int .i64 (zagN (natU (remB bs p)))) (r_nil (Gr [.int .i64 (zagN (natU (remB bs p)))] Tryz.func132 Tryz.results132 ?_))))))
  have H6 : St W w4 (_ :: _ :: F) := ((H5.move 1 rfl).move 1 rfl)
  have hx := H6
  rw [if_pos hc1] at hx
  rw [stN_yes hc1, ← hR]
  exact ⟨rfl, p + natN (remB bs p), (remB_drop bs p _).symm, natN_pos hp, hx⟩
 refine rc (s_neq true rfl rfl (nfalse hc1) rfl (r_nil (g_true rfl (g_seq (g_region (Ag (.int .i64 0) (r_nil (Gr [.int .i64 0] Tryz.func132 Tryz.results132 ?_))))))))
 have H7 : St W w (_ :: _ :: F) := ((H.move 1 rfl).move 1 rfl)
 rw [stN_no hc1]
 exact ⟨vint (by exact (show zagN 0 = 0 from rfl).symm), p, hR, hp, H7⟩
set_option maxHeartbeats 4000000 in
set_option maxRecDepth 100000 in
theorem ev_attr {W w : World} {F : List Atom} (r b : Nat) (bs : List UInt8) (p : Nat) (X : RX) (hR : remB bs p = X.R) (hp : p ≤ 8 * bs.length) (hb : bs.length ≤ 140737488355328) (H : St W w (blk r (.cells #[.pointer (some ⟨b, 0, none⟩), .int .i64 X.e] 164 (0, 0)) :: SrcA b bs p :: F)) : Calls Tryz.prog 130 #[.pointer (some ⟨r, 0, none⟩)] w (Ret fun v w' => v = .agg #[.string ((stA X).1.name.v), .int .i64 ((stA X).1.kind.v), .int .i64 ((stA X).1.n.v), .string ((stA X).1.s.v)] ∧ ∃ p', remB bs p' = ((stA X).2).R ∧ p' ≤ 8 * bs.length ∧ St W w' (blk r (.cells #[.pointer (some ⟨b, 0, none⟩), .int .i64 (((stA X).2).e)] 164 (0, 0)) :: SrcA b bs p' :: F)) := by
 have hxl : X.R.length ≤ 1125899906842624 := by rw [← hR, remB_len]; omega
 refine calls_of_go (n := 29) Tryz.func130 rfl Tryz.ntmps130 rfl ?_
 refine g_seq (g_region (rc (s_alloc H 147 ze_147 rfl (fun bk1 w2 H3 => r_nil (g_seq (g_region (Mv (.pointer (some ⟨r, 0, none⟩)) ?_)))))))
 have H4 : St W w2 (_ :: _ :: _ :: F) := ((H3.move 2 rfl).move 2 rfl)
 refine rc (s_call [.pointer (some ⟨r, 0, none⟩)] pl_128 rfl rfl (ev_text r b bs p X hR hp t0  H4) ?_)
 rintro _ w8 ⟨rfl, q5, hR6, hp7, H9⟩
 refine rc (s_build (cs := #[.string ((stT X).1), .int .i64 0, .int .i64 0, .string ByteArray.empty]) t7 rfl (rc (s_alloc H9 147 ze_147 rfl (fun bk10 w11 H12 => Sa H12 0 rfl #[.string ((stT X).1), .int .i64 0, .int .i64 0, .string ByteArray.empty] 4 sz_147 #[.string ((stT X).1), .int .i64 0, .int .i64 0, .string ByteArray.empty] (fun w13 H14 => r_nil (g_seq (g_seq (g_region (Mv (.pointer (some ⟨r, 0, none⟩)) ?_)))))))))
 have H15 : St W w13 (_ :: _ :: _ :: _ :: F) := ((((H14.move 3 rfl).move 1 rfl).move 3 rfl).move 3 rfl)
 refine rc (s_call [.pointer (some ⟨r, 0, none⟩), .int .i64 2] pl_126 rfl rfl (ev_bits r b bs q5 ((stT X).2) hR6 hp7 t0 2 t10 H15) ?_)
 rintro _ w19 ⟨rfl, q16, hR17, hp18, H20⟩
 refine Fa 1 fi_147_1 rfl (Fa 1 fi_145_0 rfl (rc (s_store H20 2 (.int .i64 ((stB 2 ((stT X).2)).1 : Int)) rfl rfl rfl sz_3 rfl (nbl rfl) rfl (cs' := #[.string ((stT X).1), .int .i64 ((stB 2 ((stT X).2)).1 : Int), .int .i64 0, .string ByteArray.empty]) rfl (fun w21 H22 => r_nil (g_seq (g_region (Fa 1 fi_147_1 rfl (Fa 1 fi_145_0 rfl (Lo (.int .i64 ((stB 2 ((stT X).2)).1 : Int)) ag_3 H22 2 (r_nil (g_block (g_seq (g_region ?_)))))))))))))
 by_cases hc23 : ((stB 2 ((stT X).2)).1 : Int) = 1
 ·refine rc (s_eql true rfl rfl (dtrue hc23) rfl (Ag (.bool true) (r_nil (g_true rfl (g_region (Mv (.pointer (some ⟨r, 0, none⟩)) ?_))))))
  have H24 : St W w21 (_ :: _ :: _ :: _ :: F) := ((((H22.move 3 rfl).move 3 rfl).move 3 rfl).move 3 rfl)
  refine rc (s_call [.pointer (some ⟨r, 0, none⟩)] pl_132 rfl rfl (ev_num r b bs q16 ((stB 2 ((stT X).2)).2) hR17 hp18 t0  H24) ?_)
  rintro _ w28 ⟨rfl, q25, hR26, hp27, H29⟩
  refine Fa 1 fi_147_1 rfl (Fa 2 fi_145_1 rfl (rc (s_store H29 2 (.int .i64 (zagN (stN ((stB 2 ((stT X).2)).2)).1)) rfl rfl rfl sz_2 rfl (nbl rfl) rfl (cs' := #[.string ((stT X).1), .int .i64 ((stB 2 ((stT X).2)).1 : Int), .int .i64 (zagN (stN ((stB 2 ((stT X).2)).2)).1), .string ByteArray.empty]) rfl (fun w30 H31 => r_nil (g_inBlock (g_seq (g_region (La [.string ((stT X).1), .int .i64 ((stB 2 ((stT X).2)).1 : Int), .int .i64 (zagN (stN ((stB 2 ((stT X).2)).2)).1), .string ByteArray.empty] 4 ag_147 H31 2 (Sa H31 3 rfl #[.string ((stT X).1), .int .i64 ((stB 2 ((stT X).2)).1 : Int), .int .i64 (zagN (stN ((stB 2 ((stT X).2)).2)).1), .string ByteArray.empty] 4 sz_147 #[.string ((stT X).1), .int .i64 ((stB 2 ((stT X).2)).1 : Int), .int .i64 (zagN (stN ((stB 2 ((stT X).2)).2)).1), .string ByteArray.empty] (fun w32 H33 => r_nil ?_))))))))))
  refine g_ret' [.agg #[.string ((stT X).1), .int .i64 ((stB 2 ((stT X).2)).1 : Int), .int .i64 (zagN (stN ((stB 2 ((stT X).2)).2)).1), .string ByteArray.empty]] Tryz.func130 Tryz.results130 ⟨(res_cellN rfl ag_147 (H33.blk_at (i := 3) rfl) (nbl rfl) rfl), trivial⟩ ?_
  have H34 : St W w32 (_ :: _ :: F) := ((((H33.move 1 rfl).move 1 rfl).drop 2 rfl).drop 2 rfl)
  have hk : (stB 2 (stT X).2).1 = 1 := by omega
  have hV := stV_1 (X := (stT X).2) hk
  obtain ⟨c1, c2, c3, c4⟩ := stA_cells (X := X) hxl
  have hA2 : (stA X).2 = (stN ((stB 2 ((stT X).2)).2)).2 := by show (stV (stT X).2).2 = _; rw [hV]
  exact ⟨by rw [c1, c2, c3, c4, hV, hk]; rfl, _, by rw [hA2]; exact hR26, hp27, by rw [hA2]; exact H34⟩
 refine rc (s_eql false rfl rfl (dfalse hc23) rfl (Ag (.bool false) (r_nil (g_false rfl (g_seq (g_region ?_))))))
 by_cases hc35 : ((stB 2 ((stT X).2)).1 : Int) = 2
 ·refine rc (s_eql true rfl rfl (dtrue hc35) rfl (Ag (.bool true) (r_nil (g_true rfl (g_region (Mv (.pointer (some ⟨r, 0, none⟩)) ?_))))))
  have H36 : St W w21 (_ :: _ :: _ :: _ :: F) := ((((H22.move 3 rfl).move 3 rfl).move 3 rfl).move 3 rfl)
  refine rc (s_call [.pointer (some ⟨r, 0, none⟩)] pl_128 rfl rfl (ev_text r b bs q16 ((stB 2 ((stT X).2)).2) hR17 hp18 t0  H36) ?_)
  rintro _ w40 ⟨rfl, q37, hR38, hp39, H41⟩
  refine Fa 1 fi_147_1 rfl (Fa 3 fi_145_2 rfl (rc (s_store H41 2 (.string ((stT ((stB 2 ((stT X).2)).2)).1)) rfl rfl rfl sz_9 rfl (nbl rfl) rfl (cs' := #[.string ((stT X).1), .int .i64 ((stB 2 ((stT X).2)).1 : Int), .int .i64 0, .string ((stT ((stB 2 ((stT X).2)).2)).1)]) rfl (fun w42 H43 => r_nil (g_inBlock (g_seq (g_region (La [.string ((stT X).1), .int .i64 ((stB 2 ((stT X).2)).1 : Int), .int .i64 0, .string ((stT ((stB 2 ((stT X).2)).2)).1)] 4 ag_147 H43 2 (Sa H43 3 rfl #[.string ((stT X).1), .int .i64 ((stB 2 ((stT X).2)).1 : Int), .int .i64 0, .string ((stT ((stB 2 ((stT X).2)).2)).1)] 4 sz_147 #[.string ((stT X).1), .int .i64 ((stB 2 ((stT X).2)).1 : Int), .int .i64 0, .string ((stT ((stB 2 ((stT X).2)).2)).1)] (fun w44 H45 => r_nil ?_))))))))))
  refine g_ret' [.agg #[.string ((stT X).1), .int .i64 ((stB 2 ((stT X).2)).1 : Int), .int .i64 0, .string ((stT ((stB 2 ((stT X).2)).2)).1)]] Tryz.func130 Tryz.results130 ⟨(res_cellN rfl ag_147 (H45.blk_at (i := 3) rfl) (nbl rfl) rfl), trivial⟩ ?_
  have H46 : St W w44 (_ :: _ :: F) := ((((H45.move 1 rfl).move 1 rfl).drop 2 rfl).drop 2 rfl)
  have hk : (stB 2 (stT X).2).1 = 2 := by omega
  have hV := stV_2 (X := (stT X).2) hk
  obtain ⟨c1, c2, c3, c4⟩ := stA_cells (X := X) hxl
  have hA2 : (stA X).2 = (stT ((stB 2 ((stT X).2)).2)).2 := by show (stV (stT X).2).2 = _; rw [hV]
  exact ⟨by rw [c1, c2, c3, c4, hV, hk]; rfl, _, by rw [hA2]; exact hR38, hp39, by rw [hA2]; exact H46⟩
 refine rc (s_eql false rfl rfl (dfalse hc35) rfl (Ag (.bool false) (r_nil (g_false rfl (g_region (Mv (.pointer (some ⟨r, 0, none⟩)) (rc (s_call [.pointer (some ⟨r, 0, none⟩), .int .i64 40] pl_129 rfl rfl (ev_keep r b ((stB 2 ((stT X).2)).2.e) 40 (i := 0) rfl H22) ?_))))))))
 rintro _ w47 ⟨rfl, H48⟩
 refine r_nil (g_inBlock (g_seq (g_region (La [.string ((stT X).1), .int .i64 ((stB 2 ((stT X).2)).1 : Int), .int .i64 0, .string ByteArray.empty] 4 ag_147 H48 2 (Sa H48 3 rfl #[.string ((stT X).1), .int .i64 ((stB 2 ((stT X).2)).1 : Int), .int .i64 0, .string ByteArray.empty] 4 sz_147 #[.string ((stT X).1), .int .i64 ((stB 2 ((stT X).2)).1 : Int), .int .i64 0, .string ByteArray.empty] (fun w49 H50 => r_nil ?_))))))
 refine g_ret' [.agg #[.string ((stT X).1), .int .i64 ((stB 2 ((stT X).2)).1 : Int), .int .i64 0, .string ByteArray.empty]] Tryz.func130 Tryz.results130 ⟨(res_cellN rfl ag_147 (H50.blk_at (i := 3) rfl) (nbl rfl) rfl), trivial⟩ ?_
 have H51 : St W w49 (_ :: _ :: F) := ((((H50.move 1 rfl).move 1 rfl).drop 2 rfl).drop 2 rfl)
 have H52 : St W w49 (_ :: _ :: F) := ((H51.move 1 rfl).move 1 rfl)
 have H53 : St W w49 (_ :: _ :: F) := H52
 have hV := stV_3 (X := (stT X).2) (show ¬ (stB 2 (stT X).2).1 = 1 by omega) (show ¬ (stB 2 (stT X).2).1 = 2 by omega)
 obtain ⟨c1, c2, c3, c4⟩ := stA_cells (X := X) hxl
 have hA2 : (stA X).2 = (stK 40 ((stB 2 ((stT X).2)).2)) := by show (stV (stT X).2).2 = _; rw [hV]
 exact ⟨by rw [c1, c2, c3, c4, hV]; rfl, _, by rw [hA2]; exact hR17, hp18, by rw [hA2]; exact H53⟩
end Sl
