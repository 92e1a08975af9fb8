/- Walks of the program's functions. Printed by a program of this claim's author. No condition. -/
import Derived.Test.YteogdknlofcpiaaGreatSlBA
import Derived.Test.YteogdknlofcpiaaGreatSlDB
import Derived.Test.YteogdknlofcpiaaGreatSlQ
import Derived.Test.YteogdknlofcpiaaGreatSlR
import Derived.Test.YteogdknlofcpiaaGreatSlP
import Derived.Test.YteogdknlofcpiaaGreatSlI
import Derived.Test.YteogdknlofcpiaaGreatSlAF
import Derived.Test.YteogdknlofcpiaaGreatSlDK
import Derived.Test.YteogdknlofcpiaaGreatSlDL
import Derived.Test.YteogdknlofcpiaaGreatSlDS
import Derived.Test.YteogdknlofcpiaaGreatSlDM
import Derived.Test.YteogdknlofcpiaaGreatSlDN
import Derived.Test.YteogdknlofcpiaaGreatSlDT
import Derived.Test.YteogdknlofcpiaaGreatSlZC
import Derived.Test.YteogdknlofcpiaaGreatProg
import Derived.Test.YteogdknlofcpiaaGreatWalkMigrateGates0
namespace Sl
open _root_.Go _root_.Go.RowKit _root_.Go.Proofs
set_option linter.all false
set_option maxHeartbeats 4000000
set_option maxRecDepth 100000
variable {W w : World} {F : List Atom}
theorem Src_Text (b : Nat) (bs : List UInt8) (p : Nat) (hp : p ≤ 8 * bs.length) (hb : bs.length ≤ 140737488355328) {i : Nat} (hi : F[i]? = some (SrcA b bs p)) (H : St W w F) : Calls Tryz.prog 102 #[.pointer (pa b)] w (Ret fun v w' => v = .tuple #[.string (textS (remB bs p)), .int .i64 (textE (remB bs p))] ∧ St W w' (F.set i (SrcA b bs (p + textN (remB bs p))))) := by
 have H0 := H.front hi
 refine calls_of_go (n := 61) Tryz.func102 rfl Tryz.ntmps102 rfl ?_
 refine g_seq (g_region (Ag (.string ByteArray.empty) (Ag (.int .i64 0) (r_nil (g_seq (g_seq (g_region (Mv (.pointer (pa b)) (rc (s_peql false un_70 rfl rfl rfl rfl (Mv (.bool false) (Rt (Mw (.pointer (pa b)) (Rt (s_nilCheck (.pointer (pa b)) rfl ⟨_, rfl⟩ rfl (Rt (s_fieldAddr 124 0 0 0 4 rfl fi_124_0 rfl rfl (Rt ?_))))))))))))))))))
 have H1 := H0.move 0 rfl
 obtain ⟨vv2, H3⟩ := St.open_ex H1
 have H4 := St.open_star H3
 obtain ⟨pp5, cc6, gA7, oA8, kA9, eA10, zA11, rfl, hn12, hp13, hx14, hs15, hml, H16⟩ := Im.open_ H4 (i := 1) rfl
 have H17 : St W w (_ :: _ :: _ :: (F.set i emp)) := H16
 refine s_load (.bool true) ag_4 rfl (H17.blk_at (i := 1) rfl) rfl rfl (Rt (s_not true rfl false rfl rfl (Pf (.bool false) (r_nil (g_false rfl (g_skip (g_seq (g_region (Mv (.pointer (pa b)) (Nc (.pointer (pa b)) (Fa 2 fi_124_2 rfl (Lo (.int .i64 ((p : Nat) : Int)) ag_3 H17 1 (Ag (.int .i64 ((p : Nat) : Int)) (r_nil (g_seq (g_region (Mv (.pointer (pa b)) ?_)))))))))))))))))
 have H18 : St W w (_ :: _ :: (F.set i emp)) := (H17.mv [2, 2, 102])
 have H19 : St W w (SrcA b bs p :: (F.set i emp)) := St.shut_ex (.slice pp5 bs.length cc6) (St.shut_star (ls := [_, _]) H18)
 refine rc (s_call [.pointer (pa b)] pl_75 rfl rfl (Src_Nat b bs p t4 t18   (i := 0) rfl H19) ?_)
 rintro _ w20 ⟨rfl, H21⟩
 refine Mv (.tuple #[.int .u64 (natU (remB bs p) : Int), .int .i64 (natE (remB bs p))]) (Ex (.int .u64 (natU (remB bs p) : Int)) (Ex (.int .i64 (natE (remB bs p))) (Ag (.int .u64 (natU (remB bs p) : Int)) (Ag (.int .i64 (natE (remB bs p))) (r_nil (g_seq (g_seq (g_region (Mv (.int .i64 (natE (remB bs p))) ?_)))))))))
 by_cases hc22 : natE (remB bs p) = 0
 ·refine rc (s_neq false rfl rfl (ntrue hc22) rfl (r_nil (g_false rfl (g_skip (g_seq (g_seq (g_region (Mv (.int .u64 (natU (remB bs p) : Int)) (Mv (.pointer (pa b)) ?_)))))))))
  have hL := remB_len bs p
  have hL2 := remB_len bs (p + natN (remB bs p))
  refine rc (s_call [.pointer (pa b)] pl_99 rfl rfl (Src_Left b bs (p + natN (remB bs p)) t4 t18   (i := 0) rfl H21) ?_)
  rintro _ w23 ⟨rfl, H24⟩
  refine rc (s_quo ((((remB bs (p + natN (remB bs p))).length) / 8 : Nat) : Int) rfl rfl t0 t58 rfl (rc (s_conv ((((remB bs (p + natN (remB bs p))).length) / 8 : Nat) : Int) rfl us_3 ik_61 (wu64 t0) rfl ?_)))
  by_cases hc25 : ((((remB bs (p + natN (remB bs p))).length) / 8 : Nat) : Int) < (natU (remB bs p) : Int)
  ·refine rc (s_gtr true rfl rfl (dtrue hc25) rfl (r_nil (g_true rfl (g_seq (g_region (Mv (.pointer (pa b)) (Mv (.int .i64 ((p : Nat) : Int)) (rc (s_call [.pointer (pa b), .int .i64 ((p : Nat) : Int), .int .i64 10] pl_101 rfl rfl (Src_back_no b bs (p + natN (remB bs p)) (p) 10 t9 (i := 0) rfl H24) ?_)))))))))
   rintro _ w26 ⟨rfl, H27⟩
   refine Ag (.string ByteArray.empty) (Ag (.int .i64 10) (r_nil (Gr [.string ByteArray.empty, .int .i64 10] Tryz.func102 Tryz.results102 ?_)))
   have H28 : St W w26 (_ :: (F.set i emp)) := H27
   have hT : textE (remB bs p) = 10 := textE_10 t11 t0
   have hT0 : ¬ textE (remB bs p) = 0 := by rw [hT]; first | assumption | decide
   exact ⟨by rw [textS_0 hT0, hT]; rfl, by rw [textN_no hT0]; exact St.back hi H28⟩
  refine rc (s_gtr false rfl rfl (dfalse hc25) rfl (r_nil (g_false rfl (g_skip (g_seq (g_region (Mv (.int .u64 (natU (remB bs p) : Int)) (rc (s_make H24 (natU (remB bs p) : Int) 1 1 rfl rfl un_27 in_5 t0 t0 t0 (by exact made_bytes (natU (remB bs p))) rfl ?_))))))))); intro bk29 w30 H31
  have H32 : St W w30 (Row 5 1 (.slice (pa bk29) (natU (remB bs p)) (natU (remB bs p))) (natU (remB bs p)) ((List.replicate (natU (remB bs p)) (0 : UInt8)).flatMap u8c) :: SrcA b bs (p + natN (remB bs p)) :: (F.set i emp)) := Row.of_list (xs := (List.replicate (natU (remB bs p)) (0 : UInt8)).flatMap u8c) (n := natU (remB bs p)) H31 (i := 0) rfl t12 (by simp [flat1, u8c_len, blc_len]) (by intro x hx; first | exact one_u8 _ x hx | exact one_bl _ x hx)
  have H33 : St W w30 (Row 5 1 (.slice (pa bk29) (natU (remB bs p)) (natU (remB bs p))) (natU (remB bs p)) ((textP (remB bs p) 0).flatMap u8c) :: SrcA b bs (p + natN (remB bs p)) :: (F.set i emp)) := by rw [textP_0]; exact H32
  refine Ag (.slice (pa bk29) (natU (remB bs p)) (natU (remB bs p))) (r_nil (g_seq (g_seq (g_region (Mv (.slice (pa bk29) (natU (remB bs p)) (natU (remB bs p))) (rc (s_len (natU (remB bs p)) rfl ⟨_, un_27⟩ rfl (Mv (.int .i64 0) (r_nil (g_block ?_))))))))))
  have H34 : St W w30 (_ :: _ :: (F.set i emp)) := H33
  have H35 : St W w30 (_ :: _ :: (F.set i emp)) := (H34.mv [1, 1])
  refine g_loop_inv (fun ((j, pq, cq) : Nat × (Option Addr) × Nat) => [(0, .pointer (pa b)), (2, .string ByteArray.empty), (3, .int .i64 0), (7, .slice pq (natU (remB bs p)) cq), (44, .int .i64 (natU (remB bs p) : Int)), (45, .int .i64 (j : Int))]) (fun (j, pq, cq) w => (j ≤ natU (remB bs p)) ∧ St W w (Row 5 1 (.slice pq (natU (remB bs p)) cq) (natU (remB bs p)) ((textP (remB bs p) j).flatMap u8c) :: SrcA b bs (p + natN (remB bs p) + 8 * j) :: (F.set i emp))) (fun (j, pq, cq) => natU (remB bs p) - j) (0, (pa bk29), natU (remB bs p)) ?_ ?_ ?_
  ·exact t1
  ·exact ⟨t0, H35⟩
  rintro ⟨j, pq, cq⟩ ρ36 w37 ⟨hj, H38⟩ nx39
  change Ends _ _ (upds ρ36 [(0, .pointer (pa b)), (2, .string ByteArray.empty), (3, .int .i64 0), (7, .slice pq (natU (remB bs p)) cq), (44, .int .i64 (natU (remB bs p) : Int)), (45, .int .i64 (j : Int))]) w37
  refine g_seq (g_region ?_)
  by_cases hc40 : (j : Int) < (natU (remB bs p) : Int)
  ·refine rc (s_lss true rfl rfl (dtrue hc40) rfl (r_nil (g_seq (g_true rfl (g_skip (g_seq (g_block (g_seq (g_region (Mv (.int .i64 (j : Int)) (Ag (.int .i64 (j : Int)) (r_nil (g_seq (g_region (Mv (.pointer (pa b)) ?_)))))))))))))))
   have hL3 := remB_len bs (p + natN (remB bs p) + 8 * j)
   have hE8 : srcE (remB bs (p + natN (remB bs p) + 8 * j)) 8 = 0 := srcE_0 t0 t0
   have hN8 : srcN (remB bs (p + natN (remB bs p) + 8 * j)) 8 = 8 := srcN_0 hE8
   have hU8 : srcU (remB bs (p + natN (remB bs p) + 8 * j)) 8 < 256 := srcU_lt_pow (k := 8)
   have hB8 : byteT (remB bs p) j = UInt8.ofNat (srcU (remB bs (p + natN (remB bs p) + 8 * j)) 8) := by unfold byteT; rw [srcU_0 hE8, remB_drop, ← Nat.add_assoc]; rfl
   refine rc (s_call [.pointer (pa b), .int .i64 8] pl_76 rfl rfl (Src_Bits b bs (p + natN (remB bs p) + 8 * j) t4 t18 8  (i := 1) rfl H38) ?_)
   rintro _ w41 ⟨rfl, H42⟩
   refine Mv (.tuple #[.int .u64 (srcU (remB bs (p + natN (remB bs p) + 8 * j)) 8 : Int), .int .i64 (srcE (remB bs (p + natN (remB bs p) + 8 * j)) 8)]) (Ex (.int .u64 (srcU (remB bs (p + natN (remB bs p) + 8 * j)) 8 : Int)) (Ex (.int .i64 (srcE (remB bs (p + natN (remB bs p) + 8 * j)) 8)) (Ag (.int .u64 (srcU (remB bs (p + natN (remB bs p) + 8 * j)) 8 : Int)) (Ag (.int .i64 (srcE (remB bs (p + natN (remB bs p) + 8 * j)) 8)) (r_nil (g_region (Mv (.slice pq (natU (remB bs p)) cq) (Mv (.int .i64 (j : Int)) (Mv (.int .u64 (srcU (remB bs (p + natN (remB bs p) + 8 * j)) 8 : Int)) (rc (s_conv (srcU (remB bs (p + natN (remB bs p) + 8 * j)) 8 : Int) rfl us_61 ik_5 (wu8 t0) rfl ?_)))))))))))
   obtain ⟨bk43, cur44, hp45, h46, h47, h48, h49, h50, H51⟩ := Row.open2 H42 (i := 0) rfl t0
   refine rc (s_indexAddr bk43 (off := 0) (j : Int) 1 (0 + j * 1) (by exact congrArg (fun z_ => Value.slice z_ (natU (remB bs p)) cq) ((fun (_ : 0 < 1) => hp45) t0)) rfl el_27 t0 rfl rfl ?_)
   have hx54 := row_set1 (f := u8c) (L := textP (remB bs p) j) (cur := cur44) u8c_len (by rw [(textP_len (remB bs p) j)]; exact h49) (show (textP (remB bs p) j).length * 1 ≤ cur44.size by rw [(textP_len (remB bs p) j), h48]; exact Nat.mul_le_mul_right 1 h46) (j := j) (by have hh := (textP_len (remB bs p) j); omega) 0 (.int .u8 (srcU (remB bs (p + natN (remB bs p) + 8 * j)) 8 : Int)) (byteT (remB bs p) j) ((by rw [hB8]; exact u8_set hU8))
   refine rc (s_store H51 0 (.int .u8 (srcU (remB bs (p + natN (remB bs p) + 8 * j)) 8 : Int)) rfl rfl rfl sz_5 rfl (by have hh := (textP_len (remB bs p) j); have hk := (show (textP (remB bs p) j).length * 1 ≤ cur44.size by rw [(textP_len (remB bs p) j), h48]; exact Nat.mul_le_mul_right 1 h46); omega) rfl (cs' := (cur44.setIfInBounds (0 + j * 1) (.int .u8 (srcU (remB bs (p + natN (remB bs p) + 8 * j)) 8 : Int)))) rfl (fun w52 H53 => r_nil (g_inBlock (g_region (rc (s_add ((j : Int) + 1) rfl rfl (wi64 t0) rfl (Mv (.int .i64 ((j : Int) + 1)) (r_nil ?_))))))))
   have H55 := Row.shut2 (p := pq) (n := natU (remB bs p)) (c := cq) (size := 1) (xs := (textP (remB bs p) (j + 1)).flatMap u8c) H53 (i := 0) rfl hp45 h46 h47 (show ((cur44.setIfInBounds (0 + j * 1) (.int .u8 (srcU (remB bs (p + natN (remB bs p) + 8 * j)) 8 : Int)))).size = cq * 1 from by rw [Array.size_setIfInBounds]; exact h48) (by have hh : ((cur44.setIfInBounds (0 + j * 1) (.int .u8 (srcU (remB bs (p + natN (remB bs p) + 8 * j)) 8 : Int))).toList.drop 0).take (((textP (remB bs p) j).set j (byteT (remB bs p) j)).length * 1) = ((textP (remB bs p) j).set j (byteT (remB bs p) j)).flatMap u8c := hx54; have hk : ((textP (remB bs p) j).set j (byteT (remB bs p) j)).length = natU (remB bs p) := (show ((textP (remB bs p) j).set j (byteT (remB bs p) j)).length = natU (remB bs p) from by first | (rw [List.length_set]; exact (textP_len (remB bs p) j)) | rw [List.length_set]); rw [hk] at hh; rw [(textP_succ t0).symm] at hh; exact hh) (one_u8 _)
   have H56 : St W w52 (Row 5 1 (.slice pq (natU (remB bs p)) cq) (natU (remB bs p)) ((textP (remB bs p) (j + 1)).flatMap u8c) :: SrcA b bs (p + natN (remB bs p) + 8 * (j + 1)) :: (F.set i emp)) := by rw [show p + natN (remB bs p) + 8 * (j + 1) = p + natN (remB bs p) + 8 * j + srcN (remB bs (p + natN (remB bs p) + 8 * j)) 8 from by rw [hN8]; omega]; exact H55
   have H57 : St W w52 (_ :: _ :: (F.set i emp)) := (H56.mv [1, 1])
   exact nx39 (j + 1, pq, cq) _ _ ⟨t0, H57⟩ t7 t1
  refine rc (s_lss false rfl rfl (dfalse hc40) rfl (r_nil (g_seq (g_false rfl (g_exit t39 (g_seq (g_region (Mv (.slice pq (natU (remB bs p)) cq) (rc (s_bytes_str (xs := (textP (remB bs p) j)) rfl (by rw [bytesV_flat]; exact (Row.rd H38 (i := 0) rfl)) un_27 un_5 un_9 rfl (Ag (.string (⟨((textP (remB bs p) j)).toArray⟩)) (Ag (.int .i64 0) (r_nil (Gr [.string (⟨((textP (remB bs p) j)).toArray⟩), .int .i64 0] Tryz.func102 Tryz.results102 ?_))))))))))))))
  have H58 : St W w37 (_ :: (F.set i emp)) := (H38.mv [1, 101])
  have hT : textE (remB bs p) = 0 := textE_0 t11 t0
  obtain rfl : j = natU (remB bs p) := by omega
  exact ⟨by rw [hT, textP_all hT]; rfl, by rw [textN_0 hT, ← Nat.add_assoc]; exact St.back hi H58⟩
 refine rc (s_neq true rfl rfl (nfalse hc22) rfl (r_nil (g_true rfl (g_seq (g_region (Mv (.int .i64 (natE (remB bs p))) (Ag (.string ByteArray.empty) (Ag (.int .i64 (natE (remB bs p))) (r_nil (Gr [.string ByteArray.empty, .int .i64 (natE (remB bs p))] Tryz.func102 Tryz.results102 ?_))))))))))
 have H59 : St W w20 (_ :: (F.set i emp)) := H21
 have hT : textE (remB bs p) = natE (remB bs p) := textE_nat t11
 have hT0 : ¬ textE (remB bs p) = 0 := by rw [hT]; first | assumption | decide
 exact ⟨by rw [textS_0 hT0, hT]; rfl, by rw [textN_no hT0]; have hx := H59; rw [natN_no t11] at hx; exact St.back hi hx⟩
theorem ref01_Pack (L : List Bool) (n : Nat) (lv : Value) (hn : L.length = n) (hL : n ≤ 1125899906842624) {j : Nat} (hj : F[j]? = some (Im 1 lv n (L.flatMap blc))) (H : St W w F) : Calls Tryz.prog 35 #[lv] w (Ret fun v w' => ∃ p c, v = .slice p ((L.length + 7) / 8) c ∧ St W w' (Row 5 1 (.slice p ((L.length + 7) / 8) c) ((L.length + 7) / 8) ((pk L).flatMap u8c) :: F)) := by
 subst hn
 obtain ⟨pA1, cA2, gA3, oA4, kA5, eA6, zA7, rfl, hn8, hp9, hx10, hs11, hml, H12⟩ := Im.open_ H hj
 refine calls_of_go (n := 31) Tryz.func35 rfl Tryz.ntmps35 rfl ?_
 refine g_seq (g_region (Ag (.slice none 0 0) (r_nil (g_seq (g_region (Mv (.slice pA1 L.length cA2) (rc (s_len L.length rfl ⟨_, un_39⟩ rfl (rc (s_add ((L.length : Int) + 7) rfl rfl (wi64 t0) rfl (rc (s_quo (((L.length + 7) / 8 : Nat) : Int) rfl rfl t0 (by rw [tdiv_pos t0]; exact (wi64 t0).trans t0) rfl (rc (s_make H12 (((L.length + 7) / 8 : Nat) : Int) 1 1 rfl rfl un_27 in_5 t0 t0 t0 (by exact made_bytes ((L.length + 7) / 8)) rfl ?_)))))))))))))); intro bk13 w14 H15
 have H16 : St W w14 (Row 5 1 (.slice (pa bk13) ((L.length + 7) / 8) ((L.length + 7) / 8)) ((L.length + 7) / 8) ((List.replicate ((L.length + 7) / 8) (0 : UInt8)).flatMap u8c) :: imi (0 < L.length) gA3 (.cells kA5 eA6 zA7) :: F) := Row.of_list (xs := (List.replicate ((L.length + 7) / 8) (0 : UInt8)).flatMap u8c) (n := (L.length + 7) / 8) H15 (i := 0) rfl t12 (by simp [flat1, u8c_len, blc_len]) (by intro x hx; first | exact one_u8 _ x hx | exact one_bl _ x hx)
 have H17 : St W w14 (Row 5 1 (.slice (pa bk13) ((L.length + 7) / 8) ((L.length + 7) / 8)) ((L.length + 7) / 8) ((pkA L 0).flatMap u8c) :: imi (0 < L.length) gA3 (.cells kA5 eA6 zA7) :: F) := by rw [pkA_zero]; exact H16
 refine Ag (.slice (pa bk13) ((L.length + 7) / 8) ((L.length + 7) / 8)) (r_nil (g_seq (g_seq (g_region (Ag (.int .i64 0) (r_nil (g_block ?_)))))))
 have H18 : St W w14 (_ :: _ :: F) := (H17.mv [1, 1])
 refine g_loop_inv (fun ((j, pq, cq) : Nat × (Option Addr) × Nat) => [(0, .slice pA1 L.length cA2), (2, .slice none 0 0), (3, .slice pq ((L.length + 7) / 8) cq), (4, .int .i64 (j : Int))]) (fun (j, pq, cq) w => (j ≤ L.length) ∧ St W w (Row 5 1 (.slice pq ((L.length + 7) / 8) cq) ((L.length + 7) / 8) ((pkA L j).flatMap u8c) :: imi (0 < L.length) gA3 (.cells kA5 eA6 zA7) :: F)) (fun (j, pq, cq) => L.length - j) (0, (pa bk13), (L.length + 7) / 8) ?_ ?_ ?_
 ·exact t1
 ·exact ⟨t0, H18⟩
 rintro ⟨j, pq, cq⟩ ρ19 w20 ⟨hj2, H21⟩ nx22
 change Ends _ _ (upds ρ19 [(0, .slice pA1 L.length cA2), (2, .slice none 0 0), (3, .slice pq ((L.length + 7) / 8) cq), (4, .int .i64 (j : Int))]) w20
 refine g_seq (g_seq (g_region (Mv (.int .i64 (j : Int)) (Mv (.slice pA1 L.length cA2) (rc (s_len L.length rfl ⟨_, un_39⟩ rfl ?_))))))
 by_cases hc23 : (j : Int) < (L.length : Int)
 ·refine rc (s_lss true rfl rfl (dtrue hc23) rfl (r_nil (g_true rfl (g_skip (g_seq (g_block (g_seq (g_region (Mv (.slice pA1 L.length cA2) ?_)))))))))
  obtain ⟨bk24, cur25, hp26, h27, h28, h29, h30, h31, H32⟩ := Row.open2 H21 (i := 0) rfl t0
  refine Mv (.int .i64 (j : Int)) (rc (s_indexAddr gA3 (off := oA4) (j : Int) 1 (oA4 + j * 1) (by exact congrArg (fun z_ => Value.slice z_ L.length cA2) (hp9 t0)) rfl el_39 t0 rfl rfl (rc (s_load (.bool (L.getD j false)) ag_4 rfl (H32.imi_at (i := 1) rfl t0) (elem_cell (L := L) (i := j) blc_len (hx10 t0) t0 false 0 t9 _ rfl) rfl (r_nil ?_)))))
  by_cases hb33 : (L.getD j false) = true
  ·refine g_true (congrArg Value.bool hb33) ?_
   have H34 : St W w20 (_ :: _ :: F) := (H32.move 1 rfl)
   refine g_mix (fun t_ w => St W w (imi (0 < L.length) gA3 (.cells kA5 eA6 zA7) :: t_)) (blk bk24 (.cells cur25 5 (0, 0)) :: F) mixed 11 rfl H34.drew ?_
   refine Fv 0 rfl (fun _ w _ => x_move (.slice pq ((L.length + 7) / 8) cq) rfl w) (Fv 1 rfl (fun _ w _ => x_move (.int .i64 (j : Int)) rfl w) (Fv 2 rfl (fun t_ w hw => x_quo ((j : Int) / 8) rfl rfl t0 t58 w) (Fv 3 rfl (fun t_ w hw => x_indexAddr bk24 (off := 0) ((j : Int) / 8) 1 (0 + (j / 8) * 1) (by exact congrArg (fun z_ => Value.slice z_ ((L.length + 7) / 8) cq) ((fun (_ : 0 < 1) => hp26) t0)) rfl el_27 t0 (by rw [show ((j : Int) / 8 : Int).toNat = j / 8 from by omega]) w) (Fv 5 rfl (fun _ w _ => x_move (.int .i64 (j : Int)) rfl w) (Fv 6 rfl (fun t_ w hw => x_rem ((j : Int) % 8) rfl rfl t0 (tmod_pos t0) w) (Fv 7 rfl (fun t_ w hw => x_shr ((2 ^ (7 - j % 8) : Nat) : Int) rfl rfl t0 (shr128 j rfl) w) ?_))))))
   refine f_all (rs := [4]) t5 t13 ?_
   refine a_cons ⟨_, rfl, ?_⟩ (fun x hx => absurd hx t13)
   intro w35 H36
   try dsimp only at H36
   refine s_load (.int .u8 (((pkA L j).getD (j / 8) 0).toNat : Int)) ag_5 rfl (H36.blk_at (i := 1) rfl) (elem_cell (L := pkA L j) (i := j / 8) u8c_len (by rw [(pkA_len L j)]; exact h30) (by have hh : (pkA L j).length = (L.length + 7) / 8 := (pkA_len L j); omega) 0 0 t9 _ rfl) rfl ?_
   refine ⟨blk bk24 (.cells cur25 5 (0, 0)) :: F, ?_, H36⟩
   change FReg _ _ _ _ _ #[true, true, true, true, true, true, true, true, false, false, false] _ _
   refine Fv 8 rfl (fun t_ w hw => x_add ((byteN (L.take j) (j / 8) + 2 ^ (7 - j % 8) : Nat) : Int) rfl rfl (by rw [pkA_getD t0, u8_nat (byteN_lt _ _)]; have hpl := pkA_lt (L := L) (j := j) t0; have hp2 : 0 < 2 ^ (7 - j % 8) := Nat.pow_pos t9; exact (wu8 t0).trans t0) w) (Fv 9 rfl (fun t_ w hw => x_indexAddr bk24 (off := 0) ((j : Int) / 8) 1 (0 + (j / 8) * 1) (by exact congrArg (fun z_ => Value.slice z_ ((L.length + 7) / 8) cq) ((fun (_ : 0 < 1) => hp26) t0)) rfl el_27 t0 (by rw [show ((j : Int) / 8 : Int).toNat = j / 8 from by omega]) w) ?_)
   refine f_all (rs := [10]) t5 t13 ?_
   refine a_cons ⟨_, rfl, ?_⟩ (fun x hx => absurd hx t13)
   intro w37 H38
   try dsimp only at H38
   have hx41 := row_set1 (f := u8c) (L := pkA L j) (cur := cur25) u8c_len (by rw [(pkA_len L j)]; exact h30) (show (pkA L j).length * 1 ≤ cur25.size by rw [(pkA_len L j), h29]; exact Nat.mul_le_mul_right 1 h27) (j := j / 8) (by have hh := (pkA_len L j); omega) 0 (.int .u8 ((byteN (L.take j) (j / 8) + 2 ^ (7 - j % 8) : Nat) : Int)) (UInt8.ofNat (byteN (L.take j) (j / 8) + 2 ^ (7 - j % 8))) ((u8_set (pkA_lt t0)))
   refine s_store H38 1 (.int .u8 ((byteN (L.take j) (j / 8) + 2 ^ (7 - j % 8) : Nat) : Int)) rfl rfl rfl sz_5 rfl (by have hh := (pkA_len L j); have hk := (show (pkA L j).length * 1 ≤ cur25.size by rw [(pkA_len L j), h29]; exact Nat.mul_le_mul_right 1 h27); omega) rfl (cs' := (cur25.setIfInBounds (0 + (j / 8) * 1) (.int .u8 ((byteN (L.take j) (j / 8) + 2 ^ (7 - j % 8) : Nat) : Int)))) rfl ?_; intro w39 H40
   refine ⟨blk bk24 (.cells (cur25.setIfInBounds (0 + (j / 8) * 1) (.int .u8 ((byteN (L.take j) (j / 8) + 2 ^ (7 - j % 8) : Nat) : Int))) 5 (0, 0)) :: F, ?_, H40⟩
   change FReg _ _ _ _ _ #[true, true, true, true, true, true, true, true, true, true, true] _ _
   refine f_done t5 ?_
   intro w42 H43
   refine g_inBlock (g_region (Mv (.int .i64 (j : Int)) (rc (s_add ((j : Int) + 1) rfl rfl (wi64 t0) rfl (Ag (.int .i64 ((j : Int) + 1)) (r_nil ?_))))))
   have H44 := Row.shut2 (p := pq) (n := (L.length + 7) / 8) (c := cq) (size := 1) (xs := (pkA L (j + 1)).flatMap u8c) H43 (i := 1) rfl hp26 h27 h28 (show ((cur25.setIfInBounds (0 + (j / 8) * 1) (.int .u8 ((byteN (L.take j) (j / 8) + 2 ^ (7 - j % 8) : Nat) : Int)))).size = cq * 1 from by rw [Array.size_setIfInBounds]; exact h29) (by have hh : ((cur25.setIfInBounds (0 + (j / 8) * 1) (.int .u8 ((byteN (L.take j) (j / 8) + 2 ^ (7 - j % 8) : Nat) : Int))).toList.drop 0).take (((pkA L j).set (j / 8) (UInt8.ofNat (byteN (L.take j) (j / 8) + 2 ^ (7 - j % 8)))).length * 1) = ((pkA L j).set (j / 8) (UInt8.ofNat (byteN (L.take j) (j / 8) + 2 ^ (7 - j % 8)))).flatMap u8c := hx41; have hk : ((pkA L j).set (j / 8) (UInt8.ofNat (byteN (L.take j) (j / 8) + 2 ^ (7 - j % 8)))).length = (L.length + 7) / 8 := (show ((pkA L j).set (j / 8) (UInt8.ofNat (byteN (L.take j) (j / 8) + 2 ^ (7 - j % 8)))).length = (L.length + 7) / 8 from by first | (rw [List.length_set]; exact (pkA_len L j)) | rw [List.length_set]); rw [hk] at hh; rw [(pkA_true t0 hb33).symm] at hh; exact hh) (one_u8 _)
   have H45 : St W w42 (_ :: _ :: F) := (H44.move 1 rfl)
   exact nx22 (j + 1, pq, cq) _ _ ⟨t0, H45⟩ t7 t1
  have hb33 := eq_false_of_ne_true hb33
  refine g_false (congrArg Value.bool hb33) (g_skip (g_inBlock (g_region (Mv (.int .i64 (j : Int)) (rc (s_add ((j : Int) + 1) rfl rfl (wi64 t0) rfl (Ag (.int .i64 ((j : Int) + 1)) (r_nil ?_))))))))
  have H46 := Row.shut2 (p := pq) (n := (L.length + 7) / 8) (c := cq) (size := 1) (xs := (pkA L (j + 1)).flatMap u8c) H32 (i := 0) rfl hp26 h27 h28 h29 (by have hh : (cur25.toList.drop 0).take ((pkA L j).length * 1) = (pkA L j).flatMap u8c := (by rw [(pkA_len L j)]; exact h30); have hk : (pkA L j).length = (L.length + 7) / 8 := (pkA_len L j); rw [hk] at hh; rw [(pkA_false t0 hb33).symm] at hh; exact hh) (one_u8 _)
  have H47 : St W w20 (_ :: _ :: F) := (H46.mv [1, 1])
  exact nx22 (j + 1, pq, cq) _ _ ⟨t0, H47⟩ t7 t1
 refine rc (s_lss false rfl rfl (dfalse hc23) rfl (r_nil (g_false rfl (g_exit t39 (g_seq (g_region (Mv (.slice pq ((L.length + 7) / 8) cq) (Ag (.slice pq ((L.length + 7) / 8) cq) (r_nil (Gr [.slice pq ((L.length + 7) / 8) cq] Tryz.func35 Tryz.results35 ?_))))))))))
 have H48 : St W w20 (_ :: F) := (H21.drop 1 rfl)
 obtain rfl : j = L.length := by omega
 exact ⟨_, _, rfl, by rw [← pkA_all]; exact H48⟩
theorem form_put (b : Nat) (e : Int) (he : e = 0) {i : Nat} (hi : F[i]? = some (blk b (.cells #[.bool true] 4 (0, 0)))) (H : St W w F) : Calls Tryz.prog 124 #[.int .i64 e, .pointer (pa b)] w (Ret fun v w' => v = .tuple #[] ∧ St W w' F) := by
 have H0 := H.front hi
 refine calls_of_go (n := 8) Tryz.func124 rfl Tryz.ntmps124 rfl ?_
 refine g_region (Lo (.bool true) ag_4 H0 0 (Mv (.bool true) (Rt (Mw (.int .i64 e) (Rt (s_eql true rfl rfl (dtrue he) rfl (Pt (.bool true) (rc (s_store H0 0 (.bool true) rfl rfl rfl sz_4 rfl (nbl rfl) rfl (cs' := #[.bool true]) rfl (fun w1 H2 => r_nil ?_))))))))))
 refine g_end' [] Tryz.func124 Tryz.results124 trivial ?_
 have H3 : St W w1 (_ :: (F.set i emp)) := H2
 exact ⟨rfl, St.back_same hi H3⟩
theorem event_form (b : Nat) (L : List Bool) (e : EvM) (av : Value) (hev : evE e = 0) (hroom : L.length + (formB e).length ≤ 1048576) {j : Nat} (hj : F[j]? = some (Attrs av e.attrs)) {i : Nat} (hi : F[i]? = some (SinkA b L)) (H : St W w F) : Calls Tryz.prog 115 #[.pointer (pa b), .agg #[.int .i64 e.src.v, .int .i64 e.seq.v, .int .i64 e.time.v, .string e.typ.v, av]] w (Ret fun v w' => v = .bool true ∧ St W w' (F.set i (SinkA b (L ++ formB e)))) := by
 obtain ⟨pA1, cA2, gA3, oA4, kA5, eA6, zA7, rfl, hn8, hp9, hx10, hs11, hml, H12⟩ := Im.open_ H hj
 have H13 := H12.dup (i := j + 1) (by exact hj) (Attrs_pers _ _)
 have H14 : St W w (SinkA b L :: Attrs (.slice pA1 e.attrs.length cA2) e.attrs :: imi (0 < e.attrs.length) gA3 (.cells kA5 eA6 zA7) :: F.set i emp) := H13.front (i := i + 2) t34
 obtain ⟨hr1, hr2, hr3, hr4, hr5, hr6⟩ := evE_range hev
 have ht1 := timeB_range hr3
 have ht2 := timeB_range hr4
 have ha8 := attrsE_len hr6
 have hn5 := nameB_len hr5
 have hF : (formB e).length = (headB e).length + (e.attrs.flatMap attrB).length := List.length_append
 have hH : (headB e).length = 4 + sizeU e.seq.v.toNat + sizeU e.time.v.toNat + (textB e.typ.v).length + 4 := by unfold headB; simp only [List.length_append, lowB_len, natB_len]
 have hz1 := sizeU_le (u := e.seq.v.toNat) t0
 have hz2 := sizeU_le (u := e.time.v.toNat) t0
 refine calls_of_go (n := 88) Tryz.func115 rfl Tryz.ntmps115 rfl ?_
 refine g_seq (g_region (Bx H14 119 (evc e pA1 cA2) (fun bk15 w16 H17 => Ag (.bool false) (r_nil (g_seq (g_region (rc (s_alloc H17 4 ze_4 rfl (fun bk18 w19 H20 => rc (s_store H20 0 (.bool true) rfl rfl rfl sz_4 rfl (nbl rfl) rfl (cs' := #[.bool true]) rfl (fun w21 H22 => r_nil (g_seq (g_region (rc (s_makeFunc (.func (.func 124) #[] #[.pointer (pa bk18)]) rfl rfl (Ag (.func (.func 124) #[] #[.pointer (pa bk18)]) (r_nil (g_seq (g_region (Mv (.func (.func 124) #[] #[.pointer (pa bk18)]) (Mv (.pointer (pa b)) (Fa 0 fi_119_0 rfl (Fa 0 fi_116_0 rfl (Lo (.int .i64 e.src.v) ag_3 H22 1 (rc (s_conv ((e.src.v.toNat : Nat) : Int) rfl us_3 ik_61 ((wu64 t0).trans t0) rfl (rc (s_call [.pointer (pa b), .int .u64 ((e.src.v.toNat : Nat) : Int), .int .i64 4] pl_29 rfl rfl (Sink_Bits b L e.src.v.toNat 4 t0 t2 (i := 2) rfl H22) ?_))))))))))))))))))))))))))))
 rintro _ w23 ⟨rfl, H24⟩
 have hk25 : bitsE L e.src.v.toNat 4 = 0 ∧ bitsL L e.src.v.toNat 4 = L ++ lowB e.src.v.toNat 4 := (by have hh := bits_ok (L := L) (u := e.src.v.toNat) (n := 4) (fits_small (k := 4) rfl t9 t0) t28; exact hh)
 have H27 : St W w23 (blk bk18 (.cells #[.bool true] 4 (0, 0)) :: blk bk15 (.cells #[.int .i64 e.src.v, .int .i64 e.seq.v, .int .i64 e.time.v, .string e.typ.v, .slice pA1 e.attrs.length cA2] 119 (0, 0)) :: SinkA b (L ++ lowB e.src.v.toNat 4) :: Attrs (.slice pA1 e.attrs.length cA2) e.attrs :: imi (0 < e.attrs.length) gA3 (.cells kA5 eA6 zA7) :: (F.set i emp)) := by rw [← hk25.2]; exact H24
 refine rc (s_callv [.pointer (pa bk18)] [.int .i64 (bitsE L e.src.v.toNat 4), .pointer (pa bk18)] rfl pl_124 rfl rfl (form_put bk18 (bitsE L e.src.v.toNat 4) hk25.1 (i := 0) rfl H27) ?_)
 rintro _ w28 ⟨rfl, H29⟩
 refine r_nil (g_seq (g_region (Mv (.func (.func 124) #[] #[.pointer (pa bk18)]) (Mv (.pointer (pa b)) (Fa 0 fi_119_0 rfl (Fa 1 fi_116_1 rfl (Lo (.int .i64 e.seq.v) ag_2 H29 1 (rc (s_conv ((e.seq.v.toNat : Nat) : Int) rfl us_2 ik_61 ((wu64 t0).trans t0) rfl (rc (s_call [.pointer (pa b), .int .u64 ((e.seq.v.toNat : Nat) : Int)] pl_28 rfl rfl (Sink_Nat b (L ++ lowB e.src.v.toNat 4) e.seq.v.toNat t0 t2 (i := 2) rfl H29) ?_)))))))))))
 rintro _ w30 ⟨rfl, H31⟩
 have hk32 : putE (L ++ lowB e.src.v.toNat 4) (sizeU e.seq.v.toNat : Int) = 0 ∧ putL (L ++ lowB e.src.v.toNat 4) (natB e.seq.v.toNat) = L ++ lowB e.src.v.toNat 4 ++ natB e.seq.v.toNat := put_ok (L := L ++ lowB e.src.v.toNat 4) (by rw [natB_len]) t28
 have H34 : St W w30 (blk bk18 (.cells #[.bool true] 4 (0, 0)) :: blk bk15 (.cells #[.int .i64 e.src.v, .int .i64 e.seq.v, .int .i64 e.time.v, .string e.typ.v, .slice pA1 e.attrs.length cA2] 119 (0, 0)) :: SinkA b (L ++ lowB e.src.v.toNat 4 ++ natB e.seq.v.toNat) :: Attrs (.slice pA1 e.attrs.length cA2) e.attrs :: imi (0 < e.attrs.length) gA3 (.cells kA5 eA6 zA7) :: (F.set i emp)) := by rw [← hk32.2]; exact H31
 refine rc (s_callv [.pointer (pa bk18)] [.int .i64 (putE (L ++ lowB e.src.v.toNat 4) (sizeU e.seq.v.toNat : Int)), .pointer (pa bk18)] rfl pl_124 rfl rfl (form_put bk18 (putE (L ++ lowB e.src.v.toNat 4) (sizeU e.seq.v.toNat : Int)) hk32.1 (i := 0) rfl H34) ?_)
 rintro _ w35 ⟨rfl, H36⟩
 refine r_nil (g_seq (g_region (Mv (.func (.func 124) #[] #[.pointer (pa bk18)]) (Mv (.pointer (pa b)) (Fa 2 fi_119_1 rfl (Lo (.int .i64 e.time.v) ag_2 H36 1 (rc (s_conv ((e.time.v.toNat : Nat) : Int) rfl us_2 ik_61 ((wu64 t0).trans t0) rfl (rc (s_call [.pointer (pa b), .int .u64 ((e.time.v.toNat : Nat) : Int)] pl_28 rfl rfl (Sink_Nat b (L ++ lowB e.src.v.toNat 4 ++ natB e.seq.v.toNat) e.time.v.toNat t0 t2 (i := 2) rfl H36) ?_))))))))))
 rintro _ w37 ⟨rfl, H38⟩
 have hk39 : putE (L ++ lowB e.src.v.toNat 4 ++ natB e.seq.v.toNat) (sizeU e.time.v.toNat : Int) = 0 ∧ putL (L ++ lowB e.src.v.toNat 4 ++ natB e.seq.v.toNat) (natB e.time.v.toNat) = L ++ lowB e.src.v.toNat 4 ++ natB e.seq.v.toNat ++ natB e.time.v.toNat := put_ok (L := L ++ lowB e.src.v.toNat 4 ++ natB e.seq.v.toNat) (by rw [natB_len]) t28
 have H41 : St W w37 (blk bk18 (.cells #[.bool true] 4 (0, 0)) :: blk bk15 (.cells #[.int .i64 e.src.v, .int .i64 e.seq.v, .int .i64 e.time.v, .string e.typ.v, .slice pA1 e.attrs.length cA2] 119 (0, 0)) :: SinkA b (L ++ lowB e.src.v.toNat 4 ++ natB e.seq.v.toNat ++ natB e.time.v.toNat) :: Attrs (.slice pA1 e.attrs.length cA2) e.attrs :: imi (0 < e.attrs.length) gA3 (.cells kA5 eA6 zA7) :: (F.set i emp)) := by rw [← hk39.2]; exact H38
 refine rc (s_callv [.pointer (pa bk18)] [.int .i64 (putE (L ++ lowB e.src.v.toNat 4 ++ natB e.seq.v.toNat) (sizeU e.time.v.toNat : Int)), .pointer (pa bk18)] rfl pl_124 rfl rfl (form_put bk18 (putE (L ++ lowB e.src.v.toNat 4 ++ natB e.seq.v.toNat) (sizeU e.time.v.toNat : Int)) hk39.1 (i := 0) rfl H41) ?_)
 rintro _ w42 ⟨rfl, H43⟩
 refine r_nil (g_seq (g_region (Mv (.func (.func 124) #[] #[.pointer (pa bk18)]) (Mv (.pointer (pa b)) (Fa 3 fi_119_2 rfl (Lo (.string e.typ.v) ag_9 H43 1 (rc (s_call [.pointer (pa b), .string e.typ.v] pl_96 rfl rfl (Sink_Text b (L ++ lowB e.src.v.toNat 4 ++ natB e.seq.v.toNat ++ natB e.time.v.toNat) e.typ.v e.typ.ok t2 (i := 2) rfl H43) ?_))))))))
 rintro _ w44 ⟨rfl, H45⟩
 have hk46 : putE (L ++ lowB e.src.v.toNat 4 ++ natB e.seq.v.toNat ++ natB e.time.v.toNat) ((textB e.typ.v).length : Int) = 0 ∧ putL (L ++ lowB e.src.v.toNat 4 ++ natB e.seq.v.toNat ++ natB e.time.v.toNat) (textB e.typ.v) = L ++ lowB e.src.v.toNat 4 ++ natB e.seq.v.toNat ++ natB e.time.v.toNat ++ textB e.typ.v := put_ok (L := L ++ lowB e.src.v.toNat 4 ++ natB e.seq.v.toNat ++ natB e.time.v.toNat) rfl t28
 have H48 : St W w44 (blk bk18 (.cells #[.bool true] 4 (0, 0)) :: blk bk15 (.cells #[.int .i64 e.src.v, .int .i64 e.seq.v, .int .i64 e.time.v, .string e.typ.v, .slice pA1 e.attrs.length cA2] 119 (0, 0)) :: SinkA b (L ++ lowB e.src.v.toNat 4 ++ natB e.seq.v.toNat ++ natB e.time.v.toNat ++ textB e.typ.v) :: Attrs (.slice pA1 e.attrs.length cA2) e.attrs :: imi (0 < e.attrs.length) gA3 (.cells kA5 eA6 zA7) :: (F.set i emp)) := by rw [← hk46.2]; exact H45
 refine rc (s_callv [.pointer (pa bk18)] [.int .i64 (putE (L ++ lowB e.src.v.toNat 4 ++ natB e.seq.v.toNat ++ natB e.time.v.toNat) ((textB e.typ.v).length : Int)), .pointer (pa bk18)] rfl pl_124 rfl rfl (form_put bk18 (putE (L ++ lowB e.src.v.toNat 4 ++ natB e.seq.v.toNat ++ natB e.time.v.toNat) ((textB e.typ.v).length : Int)) hk46.1 (i := 0) rfl H48) ?_)
 rintro _ w49 ⟨rfl, H50⟩
 refine r_nil (g_seq (g_region (Mv (.func (.func 124) #[] #[.pointer (pa bk18)]) (Mv (.pointer (pa b)) (Fa 4 fi_119_3 rfl (Lo (.slice pA1 e.attrs.length cA2) ag_117 H50 1 (rc (s_len e.attrs.length rfl ⟨_, un_117⟩ rfl (rc (s_conv ((e.attrs.length : Nat) : Int) rfl us_3 ik_61 (wu64 t0) rfl (rc (s_call [.pointer (pa b), .int .u64 ((e.attrs.length : Nat) : Int), .int .i64 4] pl_29 rfl rfl (Sink_Bits b (L ++ lowB e.src.v.toNat 4 ++ natB e.seq.v.toNat ++ natB e.time.v.toNat ++ textB e.typ.v) e.attrs.length 4 t0 t2 (i := 2) rfl H50) ?_))))))))))))
 rintro _ w51 ⟨rfl, H52⟩
 have hk53 : bitsE (L ++ lowB e.src.v.toNat 4 ++ natB e.seq.v.toNat ++ natB e.time.v.toNat ++ textB e.typ.v) e.attrs.length 4 = 0 ∧ bitsL (L ++ lowB e.src.v.toNat 4 ++ natB e.seq.v.toNat ++ natB e.time.v.toNat ++ textB e.typ.v) e.attrs.length 4 = L ++ lowB e.src.v.toNat 4 ++ natB e.seq.v.toNat ++ natB e.time.v.toNat ++ textB e.typ.v ++ lowB e.attrs.length 4 := (by have hh := bits_ok (L := L ++ lowB e.src.v.toNat 4 ++ natB e.seq.v.toNat ++ natB e.time.v.toNat ++ textB e.typ.v) (u := e.attrs.length) (n := 4) (fits_small (k := 4) rfl t9 t0) t28; exact hh)
 have H55 : St W w51 (blk bk18 (.cells #[.bool true] 4 (0, 0)) :: blk bk15 (.cells #[.int .i64 e.src.v, .int .i64 e.seq.v, .int .i64 e.time.v, .string e.typ.v, .slice pA1 e.attrs.length cA2] 119 (0, 0)) :: SinkA b (L ++ lowB e.src.v.toNat 4 ++ natB e.seq.v.toNat ++ natB e.time.v.toNat ++ textB e.typ.v ++ lowB e.attrs.length 4) :: Attrs (.slice pA1 e.attrs.length cA2) e.attrs :: imi (0 < e.attrs.length) gA3 (.cells kA5 eA6 zA7) :: (F.set i emp)) := by rw [← hk53.2]; exact H52
 refine rc (s_callv [.pointer (pa bk18)] [.int .i64 (bitsE (L ++ lowB e.src.v.toNat 4 ++ natB e.seq.v.toNat ++ natB e.time.v.toNat ++ textB e.typ.v) e.attrs.length 4), .pointer (pa bk18)] rfl pl_124 rfl rfl (form_put bk18 (bitsE (L ++ lowB e.src.v.toNat 4 ++ natB e.seq.v.toNat ++ natB e.time.v.toNat ++ textB e.typ.v) e.attrs.length 4) hk53.1 (i := 0) rfl H55) ?_)
 rintro _ w56 ⟨rfl, H57⟩
 refine r_nil (g_seq (g_seq (g_region (Fa 4 fi_119_3 rfl (Lo (.slice pA1 e.attrs.length cA2) ag_117 H57 1 (rc (s_len e.attrs.length rfl ⟨_, un_117⟩ rfl (Mv (.int .i64 0) (r_nil (g_block ?_))))))))))
 have H58 : St W w56 (blk bk18 (.cells #[.bool true] 4 (0, 0)) :: blk bk15 (.cells #[.int .i64 e.src.v, .int .i64 e.seq.v, .int .i64 e.time.v, .string e.typ.v, .slice pA1 e.attrs.length cA2] 119 (0, 0)) :: SinkA b (L ++ headB e ++ (e.attrs.take 0).flatMap attrB) :: Attrs (.slice pA1 e.attrs.length cA2) e.attrs :: imi (0 < e.attrs.length) gA3 (.cells kA5 eA6 zA7) :: (F.set i emp)) := by rw [List.take_zero, List.flatMap_nil, List.append_nil]; unfold headB; simp only [List.append_assoc] at H57 ⊢; exact H57
 refine g_loop_inv (fun (j2 : Nat) => [(0, .pointer (pa b)), (4, .bool false), (5, .pointer (pa bk18)), (6, .func (.func 124) #[] #[.pointer (pa bk18)]), (48, .slice pA1 e.attrs.length cA2), (49, .int .i64 (e.attrs.length : Int)), (50, .int .i64 (j2 : Int))]) (fun j2 w => (j2 ≤ e.attrs.length) ∧ St W w (blk bk18 (.cells #[.bool true] 4 (0, 0)) :: blk bk15 (.cells (evc e pA1 cA2) 119 (0, 0)) :: SinkA b (L ++ headB e ++ (e.attrs.take j2).flatMap attrB) :: Attrs (.slice pA1 e.attrs.length cA2) e.attrs :: imi (0 < e.attrs.length) gA3 (.cells kA5 eA6 zA7) :: (F.set i emp))) (fun j2 => e.attrs.length - j2) (0) ?_ ?_ ?_
 ·exact t1
 ·exact ⟨t0, H58⟩
 rintro j2 ρ59 w60 ⟨hj2, H61⟩ nx62
 change Ends _ _ (upds ρ59 [(0, .pointer (pa b)), (4, .bool false), (5, .pointer (pa bk18)), (6, .func (.func 124) #[] #[.pointer (pa bk18)]), (48, .slice pA1 e.attrs.length cA2), (49, .int .i64 (e.attrs.length : Int)), (50, .int .i64 (j2 : Int))]) w60
 refine g_seq (g_region ?_)
 by_cases hc63 : (j2 : Int) < (e.attrs.length : Int)
 ·refine rc (s_lss true rfl rfl (dtrue hc63) rfl (r_nil (g_seq (g_true rfl (g_skip (g_seq (g_block (g_seq (g_region (rc (s_indexAddr gA3 (off := oA4) (j2 : Int) 4 (oA4 + j2 * 4) (by exact congrArg (fun z_ => Value.slice z_ e.attrs.length cA2) (hp9 t0)) rfl el_117 t0 rfl rfl (rc (s_loadAgg [.string ((e.attrs.getD j2 default).name.v), .int .i64 ((e.attrs.getD j2 default).kind.v), .int .i64 ((e.attrs.getD j2 default).n.v), .string ((e.attrs.getD j2 default).s.v)] 4 ag_147 rfl (H61.imi_at (i := 4) rfl t0) (by have := elem_size (i := j2) (s := 4) (hs11 t0) t0; omega) (elem_take attrCell_len (hx10 t0) t0 default) rfl (rc (s_alloc H61 147 ze_147 rfl (fun bk64 w65 H66 => Sa H66 0 rfl #[.string ((e.attrs.getD j2 default).name.v), .int .i64 ((e.attrs.getD j2 default).kind.v), .int .i64 ((e.attrs.getD j2 default).n.v), .string ((e.attrs.getD j2 default).s.v)] 4 sz_147 #[.string ((e.attrs.getD j2 default).name.v), .int .i64 ((e.attrs.getD j2 default).kind.v), .int .i64 ((e.attrs.getD j2 default).n.v), .string ((e.attrs.getD j2 default).s.v)] (fun w67 H68 => r_nil (g_seq (g_region ?_)))))))))))))))))))
  obtain ⟨ha1, ha2, ha3, ha4⟩ := attr_ok hr6 (j := j2) t0
  have hAr := attrs_room (al := e.attrs) (j := j2) t0
  have hnlo := (e.attrs.getD j2 default).n.lo
  have hnhi := (e.attrs.getD j2 default).n.hi
  have hAm : (textB (e.attrs.getD j2 default).name.v).length + 2 ≤ (attrB (e.attrs.getD j2 default)).length := by unfold attrB; simp only [List.length_append, lowB_len]; omega
  refine Mv (.func (.func 124) #[] #[.pointer (pa bk18)]) (Mv (.pointer (pa b)) (Fa 0 fi_147_0 rfl (Lo (.string ((e.attrs.getD j2 default).name.v)) ag_9 H68 0 (rc (s_call [.pointer (pa b), .string ((e.attrs.getD j2 default).name.v)] pl_96 rfl rfl (Sink_Text b (L ++ headB e ++ (e.attrs.take j2).flatMap attrB) ((e.attrs.getD j2 default).name.v) (e.attrs.getD j2 default).name.ok t2 (i := 3) rfl H68) ?_)))))
  rintro _ w69 ⟨rfl, H70⟩
  have hk71 : putE (L ++ headB e ++ (e.attrs.take j2).flatMap attrB) ((textB ((e.attrs.getD j2 default).name.v)).length : Int) = 0 ∧ putL (L ++ headB e ++ (e.attrs.take j2).flatMap attrB) (textB ((e.attrs.getD j2 default).name.v)) = L ++ headB e ++ (e.attrs.take j2).flatMap attrB ++ textB (e.attrs.getD j2 default).name.v := put_ok (L := L ++ headB e ++ (e.attrs.take j2).flatMap attrB) rfl t28
  have H73 : St W w69 (blk bk64 (.cells #[.string ((e.attrs.getD j2 default).name.v), .int .i64 ((e.attrs.getD j2 default).kind.v), .int .i64 ((e.attrs.getD j2 default).n.v), .string ((e.attrs.getD j2 default).s.v)] 147 (0, 0)) :: blk bk18 (.cells #[.bool true] 4 (0, 0)) :: blk bk15 (.cells #[.int .i64 e.src.v, .int .i64 e.seq.v, .int .i64 e.time.v, .string e.typ.v, .slice pA1 e.attrs.length cA2] 119 (0, 0)) :: SinkA b (L ++ headB e ++ (e.attrs.take j2).flatMap attrB ++ textB (e.attrs.getD j2 default).name.v) :: Attrs (.slice pA1 e.attrs.length cA2) e.attrs :: imi (0 < e.attrs.length) gA3 (.cells kA5 eA6 zA7) :: (F.set i emp)) := by rw [← hk71.2]; exact H70
  refine rc (s_callv [.pointer (pa bk18)] [.int .i64 (putE (L ++ headB e ++ (e.attrs.take j2).flatMap attrB) ((textB ((e.attrs.getD j2 default).name.v)).length : Int)), .pointer (pa bk18)] rfl pl_124 rfl rfl (form_put bk18 (putE (L ++ headB e ++ (e.attrs.take j2).flatMap attrB) ((textB ((e.attrs.getD j2 default).name.v)).length : Int)) hk71.1 (i := 1) rfl H73) ?_)
  rintro _ w74 ⟨rfl, H75⟩
  refine r_nil (g_seq (g_region (Mv (.func (.func 124) #[] #[.pointer (pa bk18)]) (Mv (.pointer (pa b)) (Fa 1 fi_147_1 rfl (Fa 1 fi_145_0 rfl (Lo (.int .i64 ((e.attrs.getD j2 default).kind.v)) ag_3 H75 0 (rc (s_conv (((e.attrs.getD j2 default).kind.v.toNat : Nat) : Int) rfl us_3 ik_61 ((wu64 t0).trans t0) rfl (rc (s_call [.pointer (pa b), .int .u64 (((e.attrs.getD j2 default).kind.v.toNat : Nat) : Int), .int .i64 2] pl_29 rfl rfl (Sink_Bits b (L ++ headB e ++ (e.attrs.take j2).flatMap attrB ++ textB (e.attrs.getD j2 default).name.v) ((e.attrs.getD j2 default).kind.v.toNat) 2 t0 t2 (i := 3) rfl H75) ?_)))))))))))
  rintro _ w76 ⟨rfl, H77⟩
  have hk78 : bitsE (L ++ headB e ++ (e.attrs.take j2).flatMap attrB ++ textB (e.attrs.getD j2 default).name.v) ((e.attrs.getD j2 default).kind.v.toNat) 2 = 0 ∧ bitsL (L ++ headB e ++ (e.attrs.take j2).flatMap attrB ++ textB (e.attrs.getD j2 default).name.v) ((e.attrs.getD j2 default).kind.v.toNat) 2 = L ++ headB e ++ (e.attrs.take j2).flatMap attrB ++ textB (e.attrs.getD j2 default).name.v ++ lowB (e.attrs.getD j2 default).kind.v.toNat 2 := (by have hh := bits_ok (L := L ++ headB e ++ (e.attrs.take j2).flatMap attrB ++ textB (e.attrs.getD j2 default).name.v) (u := (e.attrs.getD j2 default).kind.v.toNat) (n := 2) (fits_small (k := 2) rfl t9 t0) t28; exact hh)
  have H80 : St W w76 (blk bk64 (.cells #[.string ((e.attrs.getD j2 default).name.v), .int .i64 ((e.attrs.getD j2 default).kind.v), .int .i64 ((e.attrs.getD j2 default).n.v), .string ((e.attrs.getD j2 default).s.v)] 147 (0, 0)) :: blk bk18 (.cells #[.bool true] 4 (0, 0)) :: blk bk15 (.cells #[.int .i64 e.src.v, .int .i64 e.seq.v, .int .i64 e.time.v, .string e.typ.v, .slice pA1 e.attrs.length cA2] 119 (0, 0)) :: SinkA b (L ++ headB e ++ (e.attrs.take j2).flatMap attrB ++ textB (e.attrs.getD j2 default).name.v ++ lowB (e.attrs.getD j2 default).kind.v.toNat 2) :: Attrs (.slice pA1 e.attrs.length cA2) e.attrs :: imi (0 < e.attrs.length) gA3 (.cells kA5 eA6 zA7) :: (F.set i emp)) := by rw [← hk78.2]; exact H77
  refine rc (s_callv [.pointer (pa bk18)] [.int .i64 (bitsE (L ++ headB e ++ (e.attrs.take j2).flatMap attrB ++ textB (e.attrs.getD j2 default).name.v) ((e.attrs.getD j2 default).kind.v.toNat) 2), .pointer (pa bk18)] rfl pl_124 rfl rfl (form_put bk18 (bitsE (L ++ headB e ++ (e.attrs.take j2).flatMap attrB ++ textB (e.attrs.getD j2 default).name.v) ((e.attrs.getD j2 default).kind.v.toNat) 2) hk78.1 (i := 1) rfl H80) ?_)
  rintro _ w81 ⟨rfl, H82⟩
  refine r_nil (g_seq (g_region (Fa 1 fi_147_1 rfl (Fa 1 fi_145_0 rfl (Lo (.int .i64 ((e.attrs.getD j2 default).kind.v)) ag_3 H82 0 ?_)))))
  by_cases hc83 : (e.attrs.getD j2 default).kind.v = 1
  ·refine rc (s_eql true rfl rfl (dtrue hc83) rfl (r_nil (g_true rfl (g_region ?_))))
   have hAB : attrB (e.attrs.getD j2 default) = textB (e.attrs.getD j2 default).name.v ++ lowB (e.attrs.getD j2 default).kind.v.toNat 2 ++ natB (zigN (e.attrs.getD j2 default).n.v) := by unfold attrB; rw [if_pos t11]
   have hABl : (attrB (e.attrs.getD j2 default)).length = (textB (e.attrs.getD j2 default).name.v).length + 2 + sizeU (zigN (e.attrs.getD j2 default).n.v) := by rw [hAB]; simp only [List.length_append, lowB_len, natB_len]
   refine Mv (.func (.func 124) #[] #[.pointer (pa bk18)]) (Mv (.pointer (pa b)) (Fa 1 fi_147_1 rfl (Fa 2 fi_145_1 rfl (Lo (.int .i64 ((e.attrs.getD j2 default).n.v)) ag_2 H82 0 (rc (s_call [.pointer (pa b), .int .i64 ((e.attrs.getD j2 default).n.v)] pl_125 rfl rfl (Sink_Num b (L ++ headB e ++ (e.attrs.take j2).flatMap attrB ++ textB (e.attrs.getD j2 default).name.v ++ lowB (e.attrs.getD j2 default).kind.v.toNat 2) ((e.attrs.getD j2 default).n.v) t0 t0 t2 (i := 3) rfl H82) ?_))))))
   rintro _ w84 ⟨rfl, H85⟩
   have hk86 : putE (L ++ headB e ++ (e.attrs.take j2).flatMap attrB ++ textB (e.attrs.getD j2 default).name.v ++ lowB (e.attrs.getD j2 default).kind.v.toNat 2) (sizeU (zigN ((e.attrs.getD j2 default).n.v)) : Int) = 0 ∧ putL (L ++ headB e ++ (e.attrs.take j2).flatMap attrB ++ textB (e.attrs.getD j2 default).name.v ++ lowB (e.attrs.getD j2 default).kind.v.toNat 2) (natB (zigN ((e.attrs.getD j2 default).n.v))) = L ++ headB e ++ (e.attrs.take j2).flatMap attrB ++ textB (e.attrs.getD j2 default).name.v ++ lowB (e.attrs.getD j2 default).kind.v.toNat 2 ++ natB (zigN (e.attrs.getD j2 default).n.v) := put_ok (L := L ++ headB e ++ (e.attrs.take j2).flatMap attrB ++ textB (e.attrs.getD j2 default).name.v ++ lowB (e.attrs.getD j2 default).kind.v.toNat 2) (by rw [natB_len]) t28
   have H88 : St W w84 (blk bk64 (.cells #[.string ((e.attrs.getD j2 default).name.v), .int .i64 ((e.attrs.getD j2 default).kind.v), .int .i64 ((e.attrs.getD j2 default).n.v), .string ((e.attrs.getD j2 default).s.v)] 147 (0, 0)) :: blk bk18 (.cells #[.bool true] 4 (0, 0)) :: blk bk15 (.cells #[.int .i64 e.src.v, .int .i64 e.seq.v, .int .i64 e.time.v, .string e.typ.v, .slice pA1 e.attrs.length cA2] 119 (0, 0)) :: SinkA b (L ++ headB e ++ (e.attrs.take j2).flatMap attrB ++ textB (e.attrs.getD j2 default).name.v ++ lowB (e.attrs.getD j2 default).kind.v.toNat 2 ++ natB (zigN (e.attrs.getD j2 default).n.v)) :: Attrs (.slice pA1 e.attrs.length cA2) e.attrs :: imi (0 < e.attrs.length) gA3 (.cells kA5 eA6 zA7) :: (F.set i emp)) := by rw [← hk86.2]; exact H85
   refine rc (s_callv [.pointer (pa bk18)] [.int .i64 (putE (L ++ headB e ++ (e.attrs.take j2).flatMap attrB ++ textB (e.attrs.getD j2 default).name.v ++ lowB (e.attrs.getD j2 default).kind.v.toNat 2) (sizeU (zigN ((e.attrs.getD j2 default).n.v)) : Int)), .pointer (pa bk18)] rfl pl_124 rfl rfl (form_put bk18 (putE (L ++ headB e ++ (e.attrs.take j2).flatMap attrB ++ textB (e.attrs.getD j2 default).name.v ++ lowB (e.attrs.getD j2 default).kind.v.toNat 2) (sizeU (zigN ((e.attrs.getD j2 default).n.v)) : Int)) hk86.1 (i := 1) rfl H88) ?_)
   rintro _ w89 ⟨rfl, H90⟩
   refine r_nil (g_inBlock (g_region (rc (s_add ((j2 : Int) + 1) rfl rfl (wi64 t0) rfl (Mv (.int .i64 ((j2 : Int) + 1)) (r_nil ?_))))))
   have H91 : St W w89 (_ :: _ :: _ :: _ :: _ :: (F.set i emp)) := (H90.mv [5, 5, 5, 5, 5, 105])
   have H92 : St W w89 (blk bk18 (.cells #[.bool true] 4 (0, 0)) :: blk bk15 (.cells #[.int .i64 e.src.v, .int .i64 e.seq.v, .int .i64 e.time.v, .string e.typ.v, .slice pA1 e.attrs.length cA2] 119 (0, 0)) :: SinkA b (L ++ headB e ++ (e.attrs.take (j2 + 1)).flatMap attrB) :: Attrs (.slice pA1 e.attrs.length cA2) e.attrs :: imi (0 < e.attrs.length) gA3 (.cells kA5 eA6 zA7) :: (F.set i emp)) := by rw [attrs_take t0, hAB]; simp only [List.append_assoc] at H91 ⊢; exact H91
   exact nx62 (j2 + 1) _ _ ⟨t0, H92⟩ t7 t1
  refine rc (s_eql false rfl rfl (dfalse hc83) rfl (r_nil (g_false rfl (g_region ?_))))
  have hAB : attrB (e.attrs.getD j2 default) = textB (e.attrs.getD j2 default).name.v ++ lowB (e.attrs.getD j2 default).kind.v.toNat 2 ++ textB (e.attrs.getD j2 default).s.v := by unfold attrB; rw [if_neg t11]
  have hABl : (attrB (e.attrs.getD j2 default)).length = (textB (e.attrs.getD j2 default).name.v).length + 2 + (textB (e.attrs.getD j2 default).s.v).length := by rw [hAB]; simp only [List.length_append, lowB_len, natB_len]
  refine Mv (.func (.func 124) #[] #[.pointer (pa bk18)]) (Mv (.pointer (pa b)) (Fa 1 fi_147_1 rfl (Fa 3 fi_145_2 rfl (Lo (.string ((e.attrs.getD j2 default).s.v)) ag_9 H82 0 (rc (s_call [.pointer (pa b), .string ((e.attrs.getD j2 default).s.v)] pl_96 rfl rfl (Sink_Text b (L ++ headB e ++ (e.attrs.take j2).flatMap attrB ++ textB (e.attrs.getD j2 default).name.v ++ lowB (e.attrs.getD j2 default).kind.v.toNat 2) ((e.attrs.getD j2 default).s.v) (e.attrs.getD j2 default).s.ok t2 (i := 3) rfl H82) ?_))))))
  rintro _ w93 ⟨rfl, H94⟩
  have hk95 : putE (L ++ headB e ++ (e.attrs.take j2).flatMap attrB ++ textB (e.attrs.getD j2 default).name.v ++ lowB (e.attrs.getD j2 default).kind.v.toNat 2) ((textB ((e.attrs.getD j2 default).s.v)).length : Int) = 0 ∧ putL (L ++ headB e ++ (e.attrs.take j2).flatMap attrB ++ textB (e.attrs.getD j2 default).name.v ++ lowB (e.attrs.getD j2 default).kind.v.toNat 2) (textB ((e.attrs.getD j2 default).s.v)) = L ++ headB e ++ (e.attrs.take j2).flatMap attrB ++ textB (e.attrs.getD j2 default).name.v ++ lowB (e.attrs.getD j2 default).kind.v.toNat 2 ++ textB (e.attrs.getD j2 default).s.v := put_ok (L := L ++ headB e ++ (e.attrs.take j2).flatMap attrB ++ textB (e.attrs.getD j2 default).name.v ++ lowB (e.attrs.getD j2 default).kind.v.toNat 2) rfl t28
  have H97 : St W w93 (blk bk64 (.cells #[.string ((e.attrs.getD j2 default).name.v), .int .i64 ((e.attrs.getD j2 default).kind.v), .int .i64 ((e.attrs.getD j2 default).n.v), .string ((e.attrs.getD j2 default).s.v)] 147 (0, 0)) :: blk bk18 (.cells #[.bool true] 4 (0, 0)) :: blk bk15 (.cells #[.int .i64 e.src.v, .int .i64 e.seq.v, .int .i64 e.time.v, .string e.typ.v, .slice pA1 e.attrs.length cA2] 119 (0, 0)) :: SinkA b (L ++ headB e ++ (e.attrs.take j2).flatMap attrB ++ textB (e.attrs.getD j2 default).name.v ++ lowB (e.attrs.getD j2 default).kind.v.toNat 2 ++ textB (e.attrs.getD j2 default).s.v) :: Attrs (.slice pA1 e.attrs.length cA2) e.attrs :: imi (0 < e.attrs.length) gA3 (.cells kA5 eA6 zA7) :: (F.set i emp)) := by rw [← hk95.2]; exact H94
  refine rc (s_callv [.pointer (pa bk18)] [.int .i64 (putE (L ++ headB e ++ (e.attrs.take j2).flatMap attrB ++ textB (e.attrs.getD j2 default).name.v ++ lowB (e.attrs.getD j2 default).kind.v.toNat 2) ((textB ((e.attrs.getD j2 default).s.v)).length : Int)), .pointer (pa bk18)] rfl pl_124 rfl rfl (form_put bk18 (putE (L ++ headB e ++ (e.attrs.take j2).flatMap attrB ++ textB (e.attrs.getD j2 default).name.v ++ lowB (e.attrs.getD j2 default).kind.v.toNat 2) ((textB ((e.attrs.getD j2 default).s.v)).length : Int)) hk95.1 (i := 1) rfl H97) ?_)
  rintro _ w98 ⟨rfl, H99⟩
  refine r_nil (g_inBlock (g_region (rc (s_add ((j2 : Int) + 1) rfl rfl (wi64 t0) rfl (Mv (.int .i64 ((j2 : Int) + 1)) (r_nil ?_))))))
  have H100 : St W w98 (_ :: _ :: _ :: _ :: _ :: (F.set i emp)) := (H99.mv [5, 5, 5, 5, 5, 105])
  have H101 : St W w98 (blk bk18 (.cells #[.bool true] 4 (0, 0)) :: blk bk15 (.cells #[.int .i64 e.src.v, .int .i64 e.seq.v, .int .i64 e.time.v, .string e.typ.v, .slice pA1 e.attrs.length cA2] 119 (0, 0)) :: SinkA b (L ++ headB e ++ (e.attrs.take (j2 + 1)).flatMap attrB) :: Attrs (.slice pA1 e.attrs.length cA2) e.attrs :: imi (0 < e.attrs.length) gA3 (.cells kA5 eA6 zA7) :: (F.set i emp)) := by rw [attrs_take t0, hAB]; simp only [List.append_assoc] at H100 ⊢; exact H100
  exact nx62 (j2 + 1) _ _ ⟨t0, H101⟩ t7 t1
 refine rc (s_lss false rfl rfl (dfalse hc63) rfl (r_nil (g_seq (g_false rfl (g_exit t39 (g_seq (g_region (Lo (.bool true) ag_4 H61 0 (Ag (.bool true) (r_nil (Gr [.bool true] Tryz.func115 Tryz.results115 ?_)))))))))))
 have H102 : St W w60 (_ :: (F.set i emp)) := (H61.mv [2, 101, 101, 101, 101])
 obtain rfl : j2 = e.attrs.length := by omega
 exact ⟨rfl, by rw [show L ++ formB e = L ++ headB e ++ (e.attrs.take e.attrs.length).flatMap attrB from by rw [List.take_length]; unfold formB; rw [List.append_assoc]]; exact St.back hi H102⟩
theorem event_Put (b : Nat) (L : List Bool) (e : EvM) (av : Value) (hb : L.length ≤ 1048576) {j : Nat} (hj : F[j]? = some (Attrs av e.attrs)) {i : Nat} (hi : F[i]? = some (SinkA b L)) (H : St W w F) : Calls Tryz.prog 97 #[.pointer (pa b), .agg #[.int .i64 e.src.v, .int .i64 e.seq.v, .int .i64 e.time.v, .string e.typ.v, av]] w (Ret fun v w' => v = .int .i64 (evPutE L e) ∧ St W w' (F.set i (SinkA b (evPutL L e)))) := by
 obtain ⟨pA1, cA2, gA3, oA4, kA5, eA6, zA7, rfl, hn8, hp9, hx10, hs11, hml, H12⟩ := Im.open_ H hj
 have H13 := H12.dup (i := j + 1) (by exact hj) (Attrs_pers _ _)
 have H14 : St W w (SinkA b L :: Attrs (.slice pA1 e.attrs.length cA2) e.attrs :: imi (0 < e.attrs.length) gA3 (.cells kA5 eA6 zA7) :: F.set i emp) := H13.front (i := i + 2) t34
 refine calls_of_go (n := 28) Tryz.func97 rfl Tryz.ntmps97 rfl ?_
 refine g_seq (g_region (Bx H14 119 (evc e pA1 cA2) (fun bk15 w16 H17 => Ag (.int .i64 0) (r_nil (g_seq (g_seq (g_region (Mv (.pointer (pa b)) ?_))))))))
 have H18 := Row.im (Row.nil_intro H17 4 1) (i := 0) rfl
 refine rc (s_call [.pointer (pa b), .slice none 0 0] pl_68 rfl rfl (Sink_Flags b L [] (.slice none 0 0) t2 (j := 0) rfl (i := 2) rfl H18) ?_)
 rintro _ w19 ⟨rfl, H20⟩
 have hfl : putL L [] = L := (putL_0 rfl (putE_0 (by simp only [List.length_nil]; omega))).trans (List.append_nil L)
 have H21 : St W w19 (Im 1 (.slice none 0 0) 0 [] :: blk bk15 (.cells #[.int .i64 e.src.v, .int .i64 e.seq.v, .int .i64 e.time.v, .string e.typ.v, .slice pA1 e.attrs.length cA2] 119 (0, 0)) :: SinkA b L :: Attrs (.slice pA1 e.attrs.length cA2) e.attrs :: imi (0 < e.attrs.length) gA3 (.cells kA5 eA6 zA7) :: (F.set i emp)) := by have hx := H20; rw [hfl] at hx; exact hx
 refine rc (s_neq false rfl rfl (ntrue (putE_0 (by simp only [List.length_nil]; omega))) rfl (r_nil (g_false rfl (g_skip (g_seq (g_seq (g_region (La (evl e pA1 cA2) 5 ag_119 H21 1 (rc (s_call [.agg (evc e pA1 cA2)] pl_84 rfl rfl (event_Check e (.slice pA1 e.attrs.length cA2) (j := 3) rfl H21) ?_))))))))))
 rintro _ w22 ⟨rfl, H23⟩
 refine Ag (.int .i64 (evE e)) (r_nil (g_seq (g_region (Mv (.int .i64 (evE e)) ?_))))
 by_cases hc24 : evE e = 0
 ·refine rc (s_neq false rfl rfl (ntrue hc24) rfl (r_nil (g_false rfl (g_skip (g_seq (g_region ?_))))))
  have hev : evE e = 0 := by assumption
  have hfle := formB_le hev
  refine rc (s_call [] pl_27 rfl rfl (NewSink H23) ?_)
  rintro _ w26 ⟨bk25, rfl, H27⟩
  refine Ag (.pointer (pa bk25)) (r_nil (g_seq (g_region (Mv (.pointer (pa bk25)) (La (evl e pA1 cA2) 5 ag_119 H27 2 (rc (s_call [.pointer (pa bk25), .agg (evc e pA1 cA2)] pl_115 rfl rfl (event_form bk25 [] e (.slice pA1 e.attrs.length cA2) hev (by first | omega | (simp only [List.length_nil]; omega)) (j := 4) rfl (i := 0) rfl H27) ?_)))))))
  rintro _ w28 ⟨rfl, H29⟩
  refine r_nil (g_seq (g_seq (g_region (Mv (.pointer (pa bk25)) (rc (s_call [.pointer (pa bk25)] pl_70 rfl rfl (Sink_Len bk25 ([] ++ formB e)   (i := 0) rfl H29) ?_))))))
  rintro _ w30 ⟨rfl, H31⟩
  refine Mv (.pointer (pa b)) (rc (s_call [.pointer (pa b)] pl_70 rfl rfl (Sink_Len b L   (i := 3) rfl H31) ?_))
  rintro _ w32 ⟨rfl, H33⟩
  have hol : (([] : List Bool) ++ formB e).length = (formB e).length := by rw [List.nil_append]
  refine rc (s_sub (1048576 - (L.length : Int)) rfl rfl (wi64 t0) rfl ?_)
  by_cases hc34 : 1048576 - (L.length : Int) < (([] ++ formB e).length : Int)
  ·refine rc (s_gtr true rfl rfl (dtrue hc34) rfl (r_nil (g_true rfl (g_seq (g_region (Ag (.int .i64 3) (r_nil (Gr [.int .i64 3] Tryz.func97 Tryz.results97 ?_))))))))
   have H35 : St W w32 (_ :: (F.set i emp)) := (H33.mv [3, 101, 101, 101, 101, 101])
   obtain ⟨q1, q2⟩ := evPut_yes (L := L) hev
   have q3 : putE L ((formB e).length : Int) = 3 := putE_3 t0
   exact ⟨vint (by rw [q1, q3]), by rw [q2, putL_no rfl (by rw [q3]; decide)]; exact St.back hi H35⟩
  refine rc (s_gtr false rfl rfl (dfalse hc34) rfl (r_nil (g_false rfl (g_skip (g_seq (g_region (Mv (.pointer (pa b)) (La (evl e pA1 cA2) 5 ag_119 H33 2 (rc (s_call [.pointer (pa b), .agg (evc e pA1 cA2)] pl_115 rfl rfl (event_form b L e (.slice pA1 e.attrs.length cA2) hev (by first | omega | (simp only [List.length_nil]; omega)) (j := 4) rfl (i := 3) rfl H33) ?_))))))))))
  rintro _ w36 ⟨rfl, H37⟩
  refine r_nil (g_seq (g_region (Ag (.int .i64 0) (r_nil (Gr [.int .i64 0] Tryz.func97 Tryz.results97 ?_)))))
  have H38 : St W w36 (_ :: (F.set i emp)) := (H37.mv [3, 101, 101, 101, 101, 101])
  obtain ⟨q1, q2⟩ := evPut_yes (L := L) hev
  obtain ⟨q3, q4⟩ := put_ok (L := L) (M := formB e) rfl t0
  exact ⟨vint (by rw [q1, q3]), by rw [q2, q4]; exact St.back hi H38⟩
 refine rc (s_neq true rfl rfl (nfalse hc24) rfl (r_nil (g_true rfl (g_seq (g_region (Mv (.int .i64 (evE e)) (Ag (.int .i64 (evE e)) (r_nil (Gr [.int .i64 (evE e)] Tryz.func97 Tryz.results97 ?_)))))))))
 have H39 : St W w22 (_ :: (F.set i emp)) := (H23.mv [2, 101, 101, 101, 101])
 obtain ⟨q1, q2⟩ := evPut_no (L := L) (e := e) t11
 exact ⟨vint (by rw [q1]), by rw [q2]; exact St.back hi H39⟩
theorem ref04_Form (e : EvM) (av : Value) (hev : evE e = 0) {j : Nat} (hj : F[j]? = some (Attrs av e.attrs)) (H : St W w F) : Calls Tryz.prog 74 #[.agg #[.int .i64 e.src.v, .int .i64 e.seq.v, .int .i64 e.time.v, .string e.typ.v, av]] w (Ret fun v w' => ∃ p n c, v = .slice p n c ∧ n = (formB e).length ∧ St W w' (Row 4 1 (.slice p n c) n ((formB e).flatMap blc) :: F)) := by
 obtain ⟨pA1, cA2, gA3, oA4, kA5, eA6, zA7, rfl, hn8, hp9, hx10, hs11, hml, H12⟩ := Im.open_ H hj
 have H13 := H12.dup (i := j + 1) (by exact hj) (Attrs_pers _ _)
 have H14 : St W w (_ :: _ :: F) := H13
 obtain ⟨hr1, hr2, hr3, hr4, hr5, hr6⟩ := evE_range hev
 have ht1 := timeB_range hr3
 have ht2 := timeB_range hr4
 have ha8 := attrsE_len hr6
 have hn5 := nameB_len hr5
 have hz1 := sizeU_le (u := e.seq.v.toNat) t0
 have hz2 := sizeU_le (u := e.time.v.toNat) t0
 have hz3 := sizeU_le (u := e.typ.v.size) t0
 refine calls_of_go (n := 74) Tryz.func74 rfl Tryz.ntmps74 rfl ?_
 refine g_seq (g_region (Bx H14 119 (evc e pA1 cA2) (fun bk15 w16 H17 => Ag (.slice none 0 0) (r_nil (g_seq ?_)))))
 refine g_mix (fun t_ w => St W w (blk bk15 (.cells (evc e pA1 cA2) 119 (0, 0)) :: Attrs (.slice pA1 e.attrs.length cA2) e.attrs :: imi (0 < e.attrs.length) gA3 (.cells kA5 eA6 zA7) :: t_)) F mixed 12 rfl H17.drew ?_
 refine Fv 0 rfl (fun t_ w hw => x_fieldAddr 119 0 0 0 116 rfl fi_119_0 rfl w) (Fv 1 rfl (fun t_ w hw => x_fieldAddr 116 0 0 0 3 rfl fi_116_0 rfl w) (Fv 2 rfl (fun t_ w hw => x_load (.int .i64 e.src.v) ag_3 rfl (hw.blk_at (i := 0) rfl) rfl) (Fv 3 rfl (fun t_ w hw => x_conv ((e.src.v.toNat : Nat) : Int) rfl us_3 ik_61 ((wu64 t0).trans t0) w) (Fv 5 rfl (fun t_ w hw => x_fieldAddr 119 0 0 0 116 rfl fi_119_0 rfl w) (Fv 6 rfl (fun t_ w hw => x_fieldAddr 116 1 1 1 2 rfl fi_116_1 rfl w) (Fv 7 rfl (fun t_ w hw => x_load (.int .i64 e.seq.v) ag_2 rfl (hw.blk_at (i := 0) rfl) rfl) (Fv 8 rfl (fun t_ w hw => x_conv ((e.seq.v.toNat : Nat) : Int) rfl us_2 ik_61 ((wu64 t0).trans t0) w) ?_)))))))
 refine f_all (rs := [4]) t5 t13 ?_
 refine a_cons ⟨_, rfl, ?_⟩ (fun x hx => absurd hx t13)
 intro w18 H19
 try dsimp only at H19
 refine s_call [.int .u64 ((e.src.v.toNat : Nat) : Int), .int .i64 4] pl_33 rfl rfl (ref01_Low e.src.v.toNat 4 t0 t0 H19) ?_
 rintro _ w22 ⟨pp20, cc21, rfl, H23⟩
 have H24 : St W w22 (_ :: _ :: _ :: _ :: F) := (H23.mv [3, 3, 3])
 refine ⟨Row 4 1 (.slice pp20 4 cc21) 4 ((lowB e.src.v.toNat 4).flatMap blc) :: F, ?_, H24⟩
 change FReg _ _ _ _ _ #[true, true, true, true, true, true, true, true, true, false, false, false] _ _
 refine f_all (rs := [9]) t5 t13 ?_
 refine a_cons ⟨_, rfl, ?_⟩ (fun x hx => absurd hx t13)
 intro w25 H26
 try dsimp only at H26
 refine s_call [.int .u64 ((e.seq.v.toNat : Nat) : Int)] pl_32 rfl rfl (ref01_Nat e.seq.v.toNat t0 H26) ?_
 rintro _ w29 ⟨pp27, cc28, rfl, H30⟩
 have H31 : St W w29 (_ :: _ :: _ :: _ :: _ :: F) := (H30.mv [4, 1, 4, 4, 4])
 refine ⟨Row 4 1 (.slice pp27 (sizeU e.seq.v.toNat) cc28) (sizeU e.seq.v.toNat) ((natB e.seq.v.toNat).flatMap blc) :: Row 4 1 (.slice pp20 4 cc21) 4 ((lowB e.src.v.toNat 4).flatMap blc) :: F, ?_, H31⟩
 change FReg _ _ _ _ _ #[true, true, true, true, true, true, true, true, true, true, false, false] _ _
 refine f_all (rs := [10]) t5 t13 ?_
 refine a_cons ⟨_, rfl, ?_⟩ (fun x hx => absurd hx t13)
 intro w32 H33
 try dsimp only at H33
 refine s_append H33 4 rfl rfl rfl (Row.rd H33 (i := 3) rfl) ap_39 t9 t12 t0 (n' := 4 + sizeU e.seq.v.toNat) (xs' := (lowB e.src.v.toNat 4).flatMap blc ++ (natB e.seq.v.toNat).flatMap blc) t0 t16 rfl ?_; intro vv34 w35 H36 hn37
 obtain ⟨pp38, cc39, rfl⟩ := Row.slice H36 (i := 4) rfl
 refine ⟨Row 4 1 (.slice pp27 (sizeU e.seq.v.toNat) cc28) (sizeU e.seq.v.toNat) ((natB e.seq.v.toNat).flatMap blc) :: Row 4 1 (.slice pp38 (4 + sizeU e.seq.v.toNat) cc39) (4 + sizeU e.seq.v.toNat) ((lowB e.src.v.toNat 4).flatMap blc ++ (natB e.seq.v.toNat).flatMap blc) :: F, ?_, H36⟩
 change FReg _ _ _ _ _ #[true, true, true, true, true, true, true, true, true, true, true, false] _ _
 refine Fv 11 rfl (fun t_ w hw => x_assign (.slice pp38 (4 + sizeU e.seq.v.toNat) cc39) rfl w) ?_
 refine f_done t5 ?_
 intro w40 H41
 refine g_seq ?_
 refine g_mix (fun t_ w => St W w (blk bk15 (.cells (evc e pA1 cA2) 119 (0, 0)) :: Attrs (.slice pA1 e.attrs.length cA2) e.attrs :: imi (0 < e.attrs.length) gA3 (.cells kA5 eA6 zA7) :: Row 4 1 (.slice pp27 (sizeU e.seq.v.toNat) cc28) (sizeU e.seq.v.toNat) ((natB e.seq.v.toNat).flatMap blc) :: t_)) (Row 4 1 (.slice pp38 (4 + sizeU e.seq.v.toNat) cc39) (4 + sizeU e.seq.v.toNat) ((lowB e.src.v.toNat 4).flatMap blc ++ (natB e.seq.v.toNat).flatMap blc) :: F) mixed 11 rfl H41.drew ?_
 refine Fv 0 rfl (fun _ w _ => x_move (.slice pp38 (4 + sizeU e.seq.v.toNat) cc39) rfl w) (Fv 1 rfl (fun t_ w hw => x_fieldAddr 119 1 2 2 2 rfl fi_119_1 rfl w) (Fv 2 rfl (fun t_ w hw => x_load (.int .i64 e.time.v) ag_2 rfl (hw.blk_at (i := 0) rfl) rfl) (Fv 3 rfl (fun t_ w hw => x_conv ((e.time.v.toNat : Nat) : Int) rfl us_2 ik_61 ((wu64 t0).trans t0) w) (Fv 6 rfl (fun t_ w hw => x_fieldAddr 119 2 3 3 9 rfl fi_119_2 rfl w) (Fv 7 rfl (fun t_ w hw => x_load (.string e.typ.v) ag_9 rfl (hw.blk_at (i := 0) rfl) rfl) ?_)))))
 refine f_all (rs := [4]) t5 t13 ?_
 refine a_cons ⟨_, rfl, ?_⟩ (fun x hx => absurd hx t13)
 intro w42 H43
 try dsimp only at H43
 refine s_call [.int .u64 ((e.time.v.toNat : Nat) : Int)] pl_32 rfl rfl (ref01_Nat e.time.v.toNat t0 H43) ?_
 rintro _ w46 ⟨pp44, cc45, rfl, H47⟩
 have H48 : St W w46 (_ :: _ :: _ :: _ :: _ :: _ :: F) := (H47.mv [5, 1, 5, 5, 5, 5])
 refine ⟨Row 4 1 (.slice pp44 (sizeU e.time.v.toNat) cc45) (sizeU e.time.v.toNat) ((natB e.time.v.toNat).flatMap blc) :: Row 4 1 (.slice pp38 (4 + sizeU e.seq.v.toNat) cc39) (4 + sizeU e.seq.v.toNat) ((lowB e.src.v.toNat 4).flatMap blc ++ (natB e.seq.v.toNat).flatMap blc) :: F, ?_, H48⟩
 change FReg _ _ _ _ _ #[true, true, true, true, true, false, true, true, false, false, false] _ _
 refine f_all (rs := [5]) t5 t13 ?_
 refine a_cons ⟨_, rfl, ?_⟩ (fun x hx => absurd hx t13)
 intro w49 H50
 try dsimp only at H50
 refine s_append H50 5 rfl rfl rfl (Row.rd H50 (i := 4) rfl) ap_39 t9 t12 t0 (n' := 4 + sizeU e.seq.v.toNat + sizeU e.time.v.toNat) (xs' := (lowB e.src.v.toNat 4).flatMap blc ++ (natB e.seq.v.toNat).flatMap blc ++ (natB e.time.v.toNat).flatMap blc) t0 t16 rfl ?_; intro vv51 w52 H53 hn54
 obtain ⟨pp55, cc56, rfl⟩ := Row.slice H53 (i := 5) rfl
 refine ⟨Row 4 1 (.slice pp44 (sizeU e.time.v.toNat) cc45) (sizeU e.time.v.toNat) ((natB e.time.v.toNat).flatMap blc) :: Row 4 1 (.slice pp55 (4 + sizeU e.seq.v.toNat + sizeU e.time.v.toNat) cc56) (4 + sizeU e.seq.v.toNat + sizeU e.time.v.toNat) ((lowB e.src.v.toNat 4).flatMap blc ++ (natB e.seq.v.toNat).flatMap blc ++ (natB e.time.v.toNat).flatMap blc) :: F, ?_, H53⟩
 change FReg _ _ _ _ _ #[true, true, true, true, true, true, true, true, false, false, false] _ _
 refine f_all (rs := [8]) t5 t13 ?_
 refine a_cons ⟨_, rfl, ?_⟩ (fun x hx => absurd hx t13)
 intro w57 H58
 try dsimp only at H58
 refine s_call [.string e.typ.v] pl_73 rfl rfl (ref01_Text e.typ.v t0 H58) ?_
 rintro _ w61 ⟨pp59, cc60, rfl, H62⟩
 have H63 : St W w61 (_ :: _ :: _ :: _ :: _ :: _ :: _ :: F) := (H62.mv [6, 6, 2, 6, 6, 6, 6])
 refine ⟨Row 4 1 (.slice pp59 (sizeU e.typ.v.size + 8 * e.typ.v.size) cc60) (sizeU e.typ.v.size + 8 * e.typ.v.size) ((textB e.typ.v).flatMap blc) :: Row 4 1 (.slice pp44 (sizeU e.time.v.toNat) cc45) (sizeU e.time.v.toNat) ((natB e.time.v.toNat).flatMap blc) :: Row 4 1 (.slice pp55 (4 + sizeU e.seq.v.toNat + sizeU e.time.v.toNat) cc56) (4 + sizeU e.seq.v.toNat + sizeU e.time.v.toNat) ((lowB e.src.v.toNat 4).flatMap blc ++ (natB e.seq.v.toNat).flatMap blc ++ (natB e.time.v.toNat).flatMap blc) :: F, ?_, H63⟩
 change FReg _ _ _ _ _ #[true, true, true, true, true, true, true, true, true, false, false] _ _
 refine f_all (rs := [9]) t5 t13 ?_
 refine a_cons ⟨_, rfl, ?_⟩ (fun x hx => absurd hx t13)
 intro w64 H65
 try dsimp only at H65
 refine s_append H65 6 rfl rfl rfl (Row.rd H65 (i := 4) rfl) ap_39 t9 t12 t0 (n' := 4 + sizeU e.seq.v.toNat + sizeU e.time.v.toNat + sizeU e.typ.v.size + 8 * e.typ.v.size) (xs' := (lowB e.src.v.toNat 4).flatMap blc ++ (natB e.seq.v.toNat).flatMap blc ++ (natB e.time.v.toNat).flatMap blc ++ (textB e.typ.v).flatMap blc) t0 t16 rfl ?_; intro vv66 w67 H68 hn69
 obtain ⟨pp70, cc71, rfl⟩ := Row.slice H68 (i := 6) rfl
 refine ⟨Row 4 1 (.slice pp59 (sizeU e.typ.v.size + 8 * e.typ.v.size) cc60) (sizeU e.typ.v.size + 8 * e.typ.v.size) ((textB e.typ.v).flatMap blc) :: Row 4 1 (.slice pp44 (sizeU e.time.v.toNat) cc45) (sizeU e.time.v.toNat) ((natB e.time.v.toNat).flatMap blc) :: Row 4 1 (.slice pp70 (4 + sizeU e.seq.v.toNat + sizeU e.time.v.toNat + sizeU e.typ.v.size + 8 * e.typ.v.size) cc71) (4 + sizeU e.seq.v.toNat + sizeU e.time.v.toNat + sizeU e.typ.v.size + 8 * e.typ.v.size) ((lowB e.src.v.toNat 4).flatMap blc ++ (natB e.seq.v.toNat).flatMap blc ++ (natB e.time.v.toNat).flatMap blc ++ (textB e.typ.v).flatMap blc) :: F, ?_, H68⟩
 change FReg _ _ _ _ _ #[true, true, true, true, true, true, true, true, true, true, false] _ _
 refine Fv 10 rfl (fun t_ w hw => x_assign (.slice pp70 (4 + sizeU e.seq.v.toNat + sizeU e.time.v.toNat + sizeU e.typ.v.size + 8 * e.typ.v.size) cc71) rfl w) ?_
 refine f_done t5 ?_
 intro w72 H73
 refine g_seq (g_region (Mv (.slice pp70 (4 + sizeU e.seq.v.toNat + sizeU e.time.v.toNat + sizeU e.typ.v.size + 8 * e.typ.v.size) cc71) (Fa 4 fi_119_3 rfl (Lo (.slice pA1 e.attrs.length cA2) ag_117 H73 0 (rc (s_len e.attrs.length rfl ⟨_, un_117⟩ rfl (rc (s_conv ((e.attrs.length : Nat) : Int) rfl us_3 ik_61 (wu64 t0) rfl (rc (s_call [.int .u64 ((e.attrs.length : Nat) : Int), .int .i64 4] pl_33 rfl rfl (ref01_Low e.attrs.length 4 t0 t0 H73) ?_))))))))))
 rintro _ w76 ⟨pp74, cc75, rfl, H77⟩
 refine rc (s_append H77 7 rfl rfl rfl (Row.rd H77 (i := 0) rfl) ap_39 t9 t12 t0 (n' := 4 + sizeU e.seq.v.toNat + sizeU e.time.v.toNat + sizeU e.typ.v.size + 8 * e.typ.v.size + 4) (xs' := (lowB e.src.v.toNat 4).flatMap blc ++ (natB e.seq.v.toNat).flatMap blc ++ (natB e.time.v.toNat).flatMap blc ++ (textB e.typ.v).flatMap blc ++ (lowB e.attrs.length 4).flatMap blc) t0 t16 rfl ?_); intro vv78 w79 H80 hn81
 obtain ⟨pp82, cc83, rfl⟩ := Row.slice H80 (i := 7) rfl
 refine Ag (.slice pp82 (4 + sizeU e.seq.v.toNat + sizeU e.time.v.toNat + sizeU e.typ.v.size + 8 * e.typ.v.size + 4) cc83) (r_nil (g_seq (g_seq (g_region (Ag (.int .i64 0) (r_nil (g_block ?_)))))))
 have hX0 : (headB e ++ (e.attrs.take 0).flatMap attrB) = headB e := by rw [List.take_zero, List.flatMap_nil, List.append_nil]
 have hnn : (headB e ++ (e.attrs.take 0).flatMap attrB).length = 4 + sizeU e.seq.v.toNat + sizeU e.time.v.toNat + sizeU e.typ.v.size + 8 * e.typ.v.size + 4 := by rw [hX0]; unfold headB; simp only [List.length_append, lowB_len, natB_len, textB_len]; omega
 have H84 : St W w79 (Row 4 1 (.slice pp74 4 cc75) 4 ((lowB e.attrs.length 4).flatMap blc) :: blk bk15 (.cells #[.int .i64 e.src.v, .int .i64 e.seq.v, .int .i64 e.time.v, .string e.typ.v, .slice pA1 e.attrs.length cA2] 119 (0, 0)) :: Attrs (.slice pA1 e.attrs.length cA2) e.attrs :: imi (0 < e.attrs.length) gA3 (.cells kA5 eA6 zA7) :: Row 4 1 (.slice pp27 (sizeU e.seq.v.toNat) cc28) (sizeU e.seq.v.toNat) ((natB e.seq.v.toNat).flatMap blc) :: Row 4 1 (.slice pp59 (sizeU e.typ.v.size + 8 * e.typ.v.size) cc60) (sizeU e.typ.v.size + 8 * e.typ.v.size) ((textB e.typ.v).flatMap blc) :: Row 4 1 (.slice pp44 (sizeU e.time.v.toNat) cc45) (sizeU e.time.v.toNat) ((natB e.time.v.toNat).flatMap blc) :: Row 4 1 (.slice pp82 ((headB e ++ (e.attrs.take 0).flatMap attrB).length) cc83) ((headB e ++ (e.attrs.take 0).flatMap attrB).length) ((headB e ++ (e.attrs.take 0).flatMap attrB).flatMap blc) :: F) := by rw [hnn, hX0]; unfold headB; simp only [List.flatMap_append, List.append_assoc] at H80 ⊢; exact H80
 have H85 : St W w79 (_ :: _ :: _ :: _ :: _ :: _ :: _ :: _ :: F) := (H84.mv [6, 6, 6, 6, 6, 6, 6, 7])
 refine g_loop_inv (fun ((j2, pq, cq) : Nat × (Option Addr) × Nat) => [(1, .pointer (pa bk15)), (2, .slice none 0 0), (3, .slice pq ((headB e ++ (e.attrs.take j2).flatMap attrB).length) cq), (4, .int .i64 (j2 : Int))]) (fun (j2, pq, cq) w => (j2 ≤ e.attrs.length) ∧ St W w (Row 4 1 (.slice pq ((headB e ++ (e.attrs.take j2).flatMap attrB).length) cq) ((headB e ++ (e.attrs.take j2).flatMap attrB).length) ((headB e ++ (e.attrs.take j2).flatMap attrB).flatMap blc) :: Row 4 1 (.slice pp74 4 cc75) 4 ((lowB e.attrs.length 4).flatMap blc) :: blk bk15 (.cells (evc e pA1 cA2) 119 (0, 0)) :: Attrs (.slice pA1 e.attrs.length cA2) e.attrs :: imi (0 < e.attrs.length) gA3 (.cells kA5 eA6 zA7) :: Row 4 1 (.slice pp27 (sizeU e.seq.v.toNat) cc28) (sizeU e.seq.v.toNat) ((natB e.seq.v.toNat).flatMap blc) :: Row 4 1 (.slice pp59 (sizeU e.typ.v.size + 8 * e.typ.v.size) cc60) (sizeU e.typ.v.size + 8 * e.typ.v.size) ((textB e.typ.v).flatMap blc) :: Row 4 1 (.slice pp44 (sizeU e.time.v.toNat) cc45) (sizeU e.time.v.toNat) ((natB e.time.v.toNat).flatMap blc) :: F)) (fun (j2, pq, cq) => e.attrs.length - j2) (0, pp82, cc83) ?_ ?_ ?_
 ·exact ⟨by first | rfl | exact vint t0, by first | rfl | exact vint t0, congrArg (fun z_ => Value.slice pp82 z_ cc83) hnn.symm, by first | rfl | exact vint t0, trivial⟩
 ·exact ⟨t0, H85⟩
 rintro ⟨j2, pq, cq⟩ ρ86 w87 ⟨hj2, H88⟩ nx89
 change Ends _ _ (upds ρ86 [(1, .pointer (pa bk15)), (2, .slice none 0 0), (3, .slice pq ((headB e ++ (e.attrs.take j2).flatMap attrB).length) cq), (4, .int .i64 (j2 : Int))]) w87
 refine g_seq (g_seq (g_region (Mv (.int .i64 (j2 : Int)) (Fa 4 fi_119_3 rfl (Lo (.slice pA1 e.attrs.length cA2) ag_117 H88 2 (rc (s_len e.attrs.length rfl ⟨_, un_117⟩ rfl ?_)))))))
 by_cases hc90 : (j2 : Int) < (e.attrs.length : Int)
 ·refine rc (s_lss true rfl rfl (dtrue hc90) rfl (r_nil (g_true rfl (g_skip (g_seq (g_block (g_seq (g_region (Fa 4 fi_119_3 rfl (Lo (.slice pA1 e.attrs.length cA2) ag_117 H88 2 (Mv (.int .i64 (j2 : Int)) (rc (s_indexAddr gA3 (off := oA4) (j2 : Int) 4 (oA4 + j2 * 4) (by exact congrArg (fun z_ => Value.slice z_ e.attrs.length cA2) (hp9 t0)) rfl el_117 t0 rfl rfl (rc (s_loadAgg [.string ((e.attrs.getD j2 default).name.v), .int .i64 ((e.attrs.getD j2 default).kind.v), .int .i64 ((e.attrs.getD j2 default).n.v), .string ((e.attrs.getD j2 default).s.v)] 4 ag_147 rfl (H88.imi_at (i := 4) rfl t0) (by have := elem_size (i := j2) (s := 4) (hs11 t0) t0; omega) (elem_take attrCell_len (hx10 t0) t0 default) rfl (rc (s_alloc H88 147 ze_147 rfl (fun bk91 w92 H93 => Sa H93 0 rfl #[.string ((e.attrs.getD j2 default).name.v), .int .i64 ((e.attrs.getD j2 default).kind.v), .int .i64 ((e.attrs.getD j2 default).n.v), .string ((e.attrs.getD j2 default).s.v)] 4 sz_147 #[.string ((e.attrs.getD j2 default).name.v), .int .i64 ((e.attrs.getD j2 default).kind.v), .int .i64 ((e.attrs.getD j2 default).n.v), .string ((e.attrs.getD j2 default).s.v)] (fun w94 H95 => r_nil (g_seq ?_))))))))))))))))))))
  have H96 : St W w94 (_ :: _ :: _ :: _ :: _ :: _ :: _ :: _ :: _ :: F) := (H95.mv [1, 8, 8, 8, 8, 8, 8, 8, 8])
  refine g_mix (fun t_ w => St W w (blk bk91 (.cells #[.string ((e.attrs.getD j2 default).name.v), .int .i64 ((e.attrs.getD j2 default).kind.v), .int .i64 ((e.attrs.getD j2 default).n.v), .string ((e.attrs.getD j2 default).s.v)] 147 (0, 0)) :: Row 4 1 (.slice pp74 4 cc75) 4 ((lowB e.attrs.length 4).flatMap blc) :: blk bk15 (.cells (evc e pA1 cA2) 119 (0, 0)) :: Attrs (.slice pA1 e.attrs.length cA2) e.attrs :: imi (0 < e.attrs.length) gA3 (.cells kA5 eA6 zA7) :: Row 4 1 (.slice pp27 (sizeU e.seq.v.toNat) cc28) (sizeU e.seq.v.toNat) ((natB e.seq.v.toNat).flatMap blc) :: Row 4 1 (.slice pp59 (sizeU e.typ.v.size + 8 * e.typ.v.size) cc60) (sizeU e.typ.v.size + 8 * e.typ.v.size) ((textB e.typ.v).flatMap blc) :: Row 4 1 (.slice pp44 (sizeU e.time.v.toNat) cc45) (sizeU e.time.v.toNat) ((natB e.time.v.toNat).flatMap blc) :: t_)) (Row 4 1 (.slice pq ((headB e ++ (e.attrs.take j2).flatMap attrB).length) cq) ((headB e ++ (e.attrs.take j2).flatMap attrB).length) ((headB e ++ (e.attrs.take j2).flatMap attrB).flatMap blc) :: F) mixed 12 rfl H96.drew ?_
  refine Ff 0 rfl ?_
  obtain ⟨ha1, ha2, ha3, ha4⟩ := attr_ok hr6 (j := j2) t0
  have hnlo := (e.attrs.getD j2 default).n.lo
  have hnhi := (e.attrs.getD j2 default).n.hi
  have hz4 := sizeU_le (u := (e.attrs.getD j2 default).name.v.size) t0
  have hz5 := sizeU_le (u := (e.attrs.getD j2 default).s.v.size) t0
  have hz6 := sizeU_le (zigN_lt hnlo hnhi)
  have hfl2 : (headB e ++ (e.attrs.take j2).flatMap attrB).length ≤ 20000 := by have h1 := attrs_le hr6 j2 t0; have h2 := textB_le hn5 t0; unfold headB; simp only [List.length_append, lowB_len, natB_len]; omega
  refine f_val rfl rfl rfl (by intro _ w _; exact x_move (.slice pq ((headB e ++ (e.attrs.take j2).flatMap attrB).length) cq) rfl w) ?_
  refine Fv 1 rfl (fun t_ w hw => x_fieldAddr 147 0 0 0 9 rfl fi_147_0 rfl w) (Fv 2 rfl (fun t_ w hw => x_load (.string ((e.attrs.getD j2 default).name.v)) ag_9 rfl (hw.blk_at (i := 0) rfl) rfl) (Fv 5 rfl (fun t_ w hw => x_fieldAddr 147 1 1 1 145 rfl fi_147_1 rfl w) (Fv 6 rfl (fun t_ w hw => x_fieldAddr 145 0 0 1 3 rfl fi_145_0 rfl w) (Fv 7 rfl (fun t_ w hw => x_load (.int .i64 ((e.attrs.getD j2 default).kind.v)) ag_3 rfl (hw.blk_at (i := 0) rfl) rfl) (Fv 8 rfl (fun t_ w hw => x_conv (((e.attrs.getD j2 default).kind.v.toNat : Nat) : Int) rfl us_3 ik_61 ((wu64 t0).trans t0) w) ?_)))))
  refine f_all (rs := [3]) t5 t13 ?_
  refine a_cons ⟨_, rfl, ?_⟩ (fun x hx => absurd hx t13)
  intro w97 H98
  try dsimp only at H98
  refine s_call [.string ((e.attrs.getD j2 default).name.v)] pl_73 rfl rfl (ref01_Text ((e.attrs.getD j2 default).name.v) t0 H98) ?_
  rintro _ w101 ⟨pp99, cc100, rfl, H102⟩
  have H103 : St W w101 (_ :: _ :: _ :: _ :: _ :: _ :: _ :: _ :: _ :: _ :: F) := (H102.mv [9, 1, 9, 9, 9, 9, 9, 9, 9, 9])
  refine ⟨Row 4 1 (.slice pp99 (sizeU ((e.attrs.getD j2 default).name.v).size + 8 * ((e.attrs.getD j2 default).name.v).size) cc100) (sizeU ((e.attrs.getD j2 default).name.v).size + 8 * ((e.attrs.getD j2 default).name.v).size) ((textB ((e.attrs.getD j2 default).name.v)).flatMap blc) :: Row 4 1 (.slice pq ((headB e ++ (e.attrs.take j2).flatMap attrB).length) cq) ((headB e ++ (e.attrs.take j2).flatMap attrB).length) ((headB e ++ (e.attrs.take j2).flatMap attrB).flatMap blc) :: F, ?_, H103⟩
  change FReg _ _ _ _ _ #[true, true, true, true, false, true, true, true, true, false, false, false] _ _
  refine f_all (rs := [4]) t5 t13 ?_
  refine a_cons ⟨_, rfl, ?_⟩ (fun x hx => absurd hx t13)
  intro w104 H105
  try dsimp only at H105
  refine s_append H105 9 rfl rfl rfl (Row.rd H105 (i := 8) rfl) ap_39 t9 t12 t0 (n' := (headB e ++ (e.attrs.take j2).flatMap attrB).length + sizeU ((e.attrs.getD j2 default).name.v).size + 8 * ((e.attrs.getD j2 default).name.v).size) (xs' := (headB e ++ (e.attrs.take j2).flatMap attrB).flatMap blc ++ (textB ((e.attrs.getD j2 default).name.v)).flatMap blc) t0 t16 rfl ?_; intro vv106 w107 H108 hn109
  obtain ⟨pp110, cc111, rfl⟩ := Row.slice H108 (i := 9) rfl
  refine ⟨Row 4 1 (.slice pp99 (sizeU ((e.attrs.getD j2 default).name.v).size + 8 * ((e.attrs.getD j2 default).name.v).size) cc100) (sizeU ((e.attrs.getD j2 default).name.v).size + 8 * ((e.attrs.getD j2 default).name.v).size) ((textB ((e.attrs.getD j2 default).name.v)).flatMap blc) :: Row 4 1 (.slice pp110 ((headB e ++ (e.attrs.take j2).flatMap attrB).length + sizeU ((e.attrs.getD j2 default).name.v).size + 8 * ((e.attrs.getD j2 default).name.v).size) cc111) ((headB e ++ (e.attrs.take j2).flatMap attrB).length + sizeU ((e.attrs.getD j2 default).name.v).size + 8 * ((e.attrs.getD j2 default).name.v).size) ((headB e ++ (e.attrs.take j2).flatMap attrB).flatMap blc ++ (textB ((e.attrs.getD j2 default).name.v)).flatMap blc) :: F, ?_, H108⟩
  change FReg _ _ _ _ _ #[true, true, true, true, true, true, true, true, true, false, false, false] _ _
  refine f_all (rs := [9]) t5 t13 ?_
  refine a_cons ⟨_, rfl, ?_⟩ (fun x hx => absurd hx t13)
  intro w112 H113
  try dsimp only at H113
  refine s_call [.int .u64 (((e.attrs.getD j2 default).kind.v.toNat : Nat) : Int), .int .i64 2] pl_33 rfl rfl (ref01_Low ((e.attrs.getD j2 default).kind.v.toNat) 2 t0 t0 H113) ?_
  rintro _ w116 ⟨pp114, cc115, rfl, H117⟩
  have H118 : St W w116 (_ :: _ :: _ :: _ :: _ :: _ :: _ :: _ :: _ :: _ :: _ :: F) := (H117.mv [10, 10, 2, 10, 10])
  have H119 : St W w116 (_ :: _ :: _ :: _ :: _ :: _ :: _ :: _ :: _ :: _ :: _ :: F) := (H118.mv [10, 10, 10, 10, 10])
  have H120 : St W w116 (_ :: _ :: _ :: _ :: _ :: _ :: _ :: _ :: _ :: _ :: _ :: F) := (H119.move 10 rfl)
  refine ⟨Row 4 1 (.slice pp114 2 cc115) 2 ((lowB ((e.attrs.getD j2 default).kind.v.toNat) 2).flatMap blc) :: Row 4 1 (.slice pp99 (sizeU ((e.attrs.getD j2 default).name.v).size + 8 * ((e.attrs.getD j2 default).name.v).size) cc100) (sizeU ((e.attrs.getD j2 default).name.v).size + 8 * ((e.attrs.getD j2 default).name.v).size) ((textB ((e.attrs.getD j2 default).name.v)).flatMap blc) :: Row 4 1 (.slice pp110 ((headB e ++ (e.attrs.take j2).flatMap attrB).length + sizeU ((e.attrs.getD j2 default).name.v).size + 8 * ((e.attrs.getD j2 default).name.v).size) cc111) ((headB e ++ (e.attrs.take j2).flatMap attrB).length + sizeU ((e.attrs.getD j2 default).name.v).size + 8 * ((e.attrs.getD j2 default).name.v).size) ((headB e ++ (e.attrs.take j2).flatMap attrB).flatMap blc ++ (textB ((e.attrs.getD j2 default).name.v)).flatMap blc) :: F, ?_, H120⟩
  change FReg _ _ _ _ _ #[true, true, true, true, true, true, true, true, true, true, false, false] _ _
  refine f_all (rs := [10]) t5 t13 ?_
  refine a_cons ⟨_, rfl, ?_⟩ (fun x hx => absurd hx t13)
  intro w121 H122
  try dsimp only at H122
  refine s_append H122 10 rfl rfl rfl (Row.rd H122 (i := 8) rfl) ap_39 t9 t12 t0 (n' := (headB e ++ (e.attrs.take j2).flatMap attrB).length + sizeU ((e.attrs.getD j2 default).name.v).size + 8 * ((e.attrs.getD j2 default).name.v).size + 2) (xs' := (headB e ++ (e.attrs.take j2).flatMap attrB).flatMap blc ++ (textB ((e.attrs.getD j2 default).name.v)).flatMap blc ++ (lowB ((e.attrs.getD j2 default).kind.v.toNat) 2).flatMap blc) t0 t16 rfl ?_; intro vv123 w124 H125 hn126
  obtain ⟨pp127, cc128, rfl⟩ := Row.slice H125 (i := 10) rfl
  refine ⟨Row 4 1 (.slice pp114 2 cc115) 2 ((lowB ((e.attrs.getD j2 default).kind.v.toNat) 2).flatMap blc) :: Row 4 1 (.slice pp99 (sizeU ((e.attrs.getD j2 default).name.v).size + 8 * ((e.attrs.getD j2 default).name.v).size) cc100) (sizeU ((e.attrs.getD j2 default).name.v).size + 8 * ((e.attrs.getD j2 default).name.v).size) ((textB ((e.attrs.getD j2 default).name.v)).flatMap blc) :: Row 4 1 (.slice pp127 ((headB e ++ (e.attrs.take j2).flatMap attrB).length + sizeU ((e.attrs.getD j2 default).name.v).size + 8 * ((e.attrs.getD j2 default).name.v).size + 2) cc128) ((headB e ++ (e.attrs.take j2).flatMap attrB).length + sizeU ((e.attrs.getD j2 default).name.v).size + 8 * ((e.attrs.getD j2 default).name.v).size + 2) ((headB e ++ (e.attrs.take j2).flatMap attrB).flatMap blc ++ (textB ((e.attrs.getD j2 default).name.v)).flatMap blc ++ (lowB ((e.attrs.getD j2 default).kind.v.toNat) 2).flatMap blc) :: F, ?_, H125⟩
  change FReg _ _ _ _ _ #[true, true, true, true, true, true, true, true, true, true, true, false] _ _
  refine Fv 11 rfl (fun t_ w hw => x_assign (.slice pp127 ((headB e ++ (e.attrs.take j2).flatMap attrB).length + sizeU ((e.attrs.getD j2 default).name.v).size + 8 * ((e.attrs.getD j2 default).name.v).size + 2) cc128) rfl w) ?_
  refine f_done t5 ?_
  intro w129 H130
  refine g_seq (g_region (Fa 1 fi_147_1 rfl (Fa 1 fi_145_0 rfl (Lo (.int .i64 ((e.attrs.getD j2 default).kind.v)) ag_3 H130 0 ?_))))
  by_cases hc131 : (e.attrs.getD j2 default).kind.v = 1
  ·refine rc (s_eql true rfl rfl (dtrue hc131) rfl (r_nil (g_true rfl (g_region ?_))))
   have hAB : attrB (e.attrs.getD j2 default) = textB (e.attrs.getD j2 default).name.v ++ lowB (e.attrs.getD j2 default).kind.v.toNat 2 ++ natB (zigN (e.attrs.getD j2 default).n.v) := by unfold attrB; rw [if_pos t11]
   refine Mv (.slice pp127 ((headB e ++ (e.attrs.take j2).flatMap attrB).length + sizeU ((e.attrs.getD j2 default).name.v).size + 8 * ((e.attrs.getD j2 default).name.v).size + 2) cc128) (Fa 1 fi_147_1 rfl (Fa 2 fi_145_1 rfl (Lo (.int .i64 ((e.attrs.getD j2 default).n.v)) ag_2 H130 0 (rc (s_call [.int .i64 ((e.attrs.getD j2 default).n.v)] pl_98 rfl rfl (ref01_Num ((e.attrs.getD j2 default).n.v) t0 t0 H130) ?_)))))
   rintro _ w134 ⟨pp132, cc133, rfl, H135⟩
   refine rc (s_append H135 11 rfl rfl rfl (Row.rd H135 (i := 0) rfl) ap_39 t9 t12 t0 (n' := (headB e ++ (e.attrs.take j2).flatMap attrB).length + sizeU ((e.attrs.getD j2 default).name.v).size + 8 * ((e.attrs.getD j2 default).name.v).size + 2 + sizeU (zigN ((e.attrs.getD j2 default).n.v))) (xs' := (headB e ++ (e.attrs.take j2).flatMap attrB).flatMap blc ++ (textB ((e.attrs.getD j2 default).name.v)).flatMap blc ++ (lowB ((e.attrs.getD j2 default).kind.v.toNat) 2).flatMap blc ++ (natB (zigN ((e.attrs.getD j2 default).n.v))).flatMap blc) t0 t16 rfl ?_); intro vv136 w137 H138 hn139
   obtain ⟨pp140, cc141, rfl⟩ := Row.slice H138 (i := 11) rfl
   refine Ag (.slice pp140 ((headB e ++ (e.attrs.take j2).flatMap attrB).length + sizeU ((e.attrs.getD j2 default).name.v).size + 8 * ((e.attrs.getD j2 default).name.v).size + 2 + sizeU (zigN ((e.attrs.getD j2 default).n.v))) cc141) (r_nil (g_inBlock (g_region (Mv (.int .i64 (j2 : Int)) (rc (s_add ((j2 : Int) + 1) rfl rfl (wi64 t0) rfl (Ag (.int .i64 ((j2 : Int) + 1)) (r_nil ?_))))))))
   have H142 : St W w137 (_ :: _ :: _ :: _ :: _ :: _ :: _ :: _ :: F) := (H138.mv [8, 8, 8, 8, 8, 8, 8, 11, 108, 108, 108, 108])
   have hnj : (headB e ++ (e.attrs.take (j2 + 1)).flatMap attrB).length = (headB e ++ (e.attrs.take j2).flatMap attrB).length + sizeU ((e.attrs.getD j2 default).name.v).size + 8 * ((e.attrs.getD j2 default).name.v).size + 2 + sizeU (zigN ((e.attrs.getD j2 default).n.v)) := by rw [attrs_take t0, hAB]; simp only [List.length_append, lowB_len, natB_len, textB_len]; omega
   have H143 : St W w137 (Row 4 1 (.slice pp140 ((headB e ++ (e.attrs.take (j2 + 1)).flatMap attrB).length) cc141) ((headB e ++ (e.attrs.take (j2 + 1)).flatMap attrB).length) ((headB e ++ (e.attrs.take (j2 + 1)).flatMap attrB).flatMap blc) :: Row 4 1 (.slice pp74 4 cc75) 4 ((lowB e.attrs.length 4).flatMap blc) :: blk bk15 (.cells #[.int .i64 e.src.v, .int .i64 e.seq.v, .int .i64 e.time.v, .string e.typ.v, .slice pA1 e.attrs.length cA2] 119 (0, 0)) :: Attrs (.slice pA1 e.attrs.length cA2) e.attrs :: imi (0 < e.attrs.length) gA3 (.cells kA5 eA6 zA7) :: Row 4 1 (.slice pp27 (sizeU e.seq.v.toNat) cc28) (sizeU e.seq.v.toNat) ((natB e.seq.v.toNat).flatMap blc) :: Row 4 1 (.slice pp59 (sizeU e.typ.v.size + 8 * e.typ.v.size) cc60) (sizeU e.typ.v.size + 8 * e.typ.v.size) ((textB e.typ.v).flatMap blc) :: Row 4 1 (.slice pp44 (sizeU e.time.v.toNat) cc45) (sizeU e.time.v.toNat) ((natB e.time.v.toNat).flatMap blc) :: F) := by rw [hnj, attrs_take t0, hAB]; simp only [List.flatMap_append, List.append_assoc] at H142 ⊢; exact H142
   exact nx89 (j2 + 1, pp140, cc141) _ _ ⟨t0, H143⟩ t7 ⟨by first | rfl | exact vint t0, by first | rfl | exact vint t0, congrArg (fun z_ => Value.slice pp140 z_ cc141) hnj.symm, by first | rfl | exact vint t0, trivial⟩
  refine rc (s_eql false rfl rfl (dfalse hc131) rfl (r_nil (g_false rfl (g_region ?_))))
  have hAB : attrB (e.attrs.getD j2 default) = textB (e.attrs.getD j2 default).name.v ++ lowB (e.attrs.getD j2 default).kind.v.toNat 2 ++ textB (e.attrs.getD j2 default).s.v := by unfold attrB; rw [if_neg t11]
  refine Mv (.slice pp127 ((headB e ++ (e.attrs.take j2).flatMap attrB).length + sizeU ((e.attrs.getD j2 default).name.v).size + 8 * ((e.attrs.getD j2 default).name.v).size + 2) cc128) (Fa 1 fi_147_1 rfl (Fa 3 fi_145_2 rfl (Lo (.string ((e.attrs.getD j2 default).s.v)) ag_9 H130 0 (rc (s_call [.string ((e.attrs.getD j2 default).s.v)] pl_73 rfl rfl (ref01_Text ((e.attrs.getD j2 default).s.v) t0 H130) ?_)))))
  rintro _ w146 ⟨pp144, cc145, rfl, H147⟩
  refine rc (s_append H147 11 rfl rfl rfl (Row.rd H147 (i := 0) rfl) ap_39 t9 t12 t0 (n' := (headB e ++ (e.attrs.take j2).flatMap attrB).length + sizeU ((e.attrs.getD j2 default).name.v).size + 8 * ((e.attrs.getD j2 default).name.v).size + 2 + sizeU ((e.attrs.getD j2 default).s.v).size + 8 * ((e.attrs.getD j2 default).s.v).size) (xs' := (headB e ++ (e.attrs.take j2).flatMap attrB).flatMap blc ++ (textB ((e.attrs.getD j2 default).name.v)).flatMap blc ++ (lowB ((e.attrs.getD j2 default).kind.v.toNat) 2).flatMap blc ++ (textB ((e.attrs.getD j2 default).s.v)).flatMap blc) t0 t16 rfl ?_); intro vv148 w149 H150 hn151
  obtain ⟨pp152, cc153, rfl⟩ := Row.slice H150 (i := 11) rfl
  refine Ag (.slice pp152 ((headB e ++ (e.attrs.take j2).flatMap attrB).length + sizeU ((e.attrs.getD j2 default).name.v).size + 8 * ((e.attrs.getD j2 default).name.v).size + 2 + sizeU ((e.attrs.getD j2 default).s.v).size + 8 * ((e.attrs.getD j2 default).s.v).size) cc153) (r_nil (g_inBlock (g_region (Mv (.int .i64 (j2 : Int)) (rc (s_add ((j2 : Int) + 1) rfl rfl (wi64 t0) rfl (Ag (.int .i64 ((j2 : Int) + 1)) (r_nil ?_))))))))
  have H154 : St W w149 (_ :: _ :: _ :: _ :: _ :: _ :: _ :: _ :: F) := (H150.mv [8, 8, 8, 8, 8, 8, 8, 11, 108, 108, 108, 108])
  have hnj : (headB e ++ (e.attrs.take (j2 + 1)).flatMap attrB).length = (headB e ++ (e.attrs.take j2).flatMap attrB).length + sizeU ((e.attrs.getD j2 default).name.v).size + 8 * ((e.attrs.getD j2 default).name.v).size + 2 + sizeU ((e.attrs.getD j2 default).s.v).size + 8 * ((e.attrs.getD j2 default).s.v).size := by rw [attrs_take t0, hAB]; simp only [List.length_append, lowB_len, natB_len, textB_len]; omega
  have H155 : St W w149 (Row 4 1 (.slice pp152 ((headB e ++ (e.attrs.take (j2 + 1)).flatMap attrB).length) cc153) ((headB e ++ (e.attrs.take (j2 + 1)).flatMap attrB).length) ((headB e ++ (e.attrs.take (j2 + 1)).flatMap attrB).flatMap blc) :: Row 4 1 (.slice pp74 4 cc75) 4 ((lowB e.attrs.length 4).flatMap blc) :: blk bk15 (.cells #[.int .i64 e.src.v, .int .i64 e.seq.v, .int .i64 e.time.v, .string e.typ.v, .slice pA1 e.attrs.length cA2] 119 (0, 0)) :: Attrs (.slice pA1 e.attrs.length cA2) e.attrs :: imi (0 < e.attrs.length) gA3 (.cells kA5 eA6 zA7) :: Row 4 1 (.slice pp27 (sizeU e.seq.v.toNat) cc28) (sizeU e.seq.v.toNat) ((natB e.seq.v.toNat).flatMap blc) :: Row 4 1 (.slice pp59 (sizeU e.typ.v.size + 8 * e.typ.v.size) cc60) (sizeU e.typ.v.size + 8 * e.typ.v.size) ((textB e.typ.v).flatMap blc) :: Row 4 1 (.slice pp44 (sizeU e.time.v.toNat) cc45) (sizeU e.time.v.toNat) ((natB e.time.v.toNat).flatMap blc) :: F) := by rw [hnj, attrs_take t0, hAB]; simp only [List.flatMap_append, List.append_assoc] at H154 ⊢; exact H154
  exact nx89 (j2 + 1, pp152, cc153) _ _ ⟨t0, H155⟩ t7 ⟨by first | rfl | exact vint t0, by first | rfl | exact vint t0, congrArg (fun z_ => Value.slice pp152 z_ cc153) hnj.symm, by first | rfl | exact vint t0, trivial⟩
 refine rc (s_lss false rfl rfl (dfalse hc90) rfl (r_nil (g_false rfl (g_exit t39 (g_seq (g_region (Mv (.slice pq ((headB e ++ (e.attrs.take j2).flatMap attrB).length) cq) (Ag (.slice pq ((headB e ++ (e.attrs.take j2).flatMap attrB).length) cq) (r_nil (Gr [.slice pq ((headB e ++ (e.attrs.take j2).flatMap attrB).length) cq] Tryz.func74 Tryz.results74 ?_))))))))))
 have H156 : St W w87 (_ :: F) := (H88.mv [101, 101, 101, 101, 101, 101, 101])
 obtain rfl : j2 = e.attrs.length := by omega
 have hfm : headB e ++ (e.attrs.take e.attrs.length).flatMap attrB = formB e := by rw [List.take_length]; rfl
 exact ⟨_, _, _, rfl, by rw [hfm], by rw [← hfm]; exact H156⟩
theorem ev_keep (r b : Nat) (x y : Int) {i : Nat} (hi : F[i]? = some (blk r (.cells #[.pointer (pa b), .int .i64 x] 164 (0, 0)))) (H : St W w F) : Calls Tryz.prog 129 #[.pointer (pa r), .int .i64 y] w (Ret fun v w' => v = .tuple #[] ∧ St W w' (F.set i (blk r (.cells #[.pointer (pa b), .int .i64 (if x = 0 then y else x)] 164 (0, 0))))) := by
 have H0 := H.front hi
 refine calls_of_go (n := 13) Tryz.func129 rfl Tryz.ntmps129 rfl ?_
 refine g_seq (g_region (Mv (.pointer (pa r)) (Nc (.pointer (pa r)) (Fa 1 fi_164_1 rfl (Lo (.int .i64 x) ag_28 H0 0 ?_)))))
 by_cases hc1 : x = 0
 ·refine rc (s_eql true rfl rfl (dtrue hc1) rfl (r_nil (g_true rfl (g_region (Mv (.pointer (pa r)) (Mv (.int .i64 y) (Nc (.pointer (pa r)) (Fa 1 fi_164_1 rfl (rc (s_store H0 0 (.int .i64 y) rfl rfl rfl sz_28 rfl (nbl rfl) rfl (cs' := #[.pointer (pa b), .int .i64 y]) rfl (fun w2 H3 => r_nil ?_)))))))))))
  refine g_end' [] Tryz.func129 Tryz.results129 trivial ?_
  have H4 : St W w2 (_ :: (F.set i emp)) := H3
  exact ⟨rfl, by rw [if_pos hc1]; exact St.back hi H4⟩
 refine rc (s_eql false rfl rfl (dfalse hc1) rfl (r_nil (g_false rfl (g_skip ?_))))
 refine g_end' [] Tryz.func129 Tryz.results129 trivial ?_
 have H5 : St W w (_ :: (F.set i emp)) := H0
 exact ⟨rfl, by rw [if_neg hc1]; exact St.back hi H5⟩
theorem ev_bits (r b : Nat) (bs : List UInt8) (p : Nat) (X : RX) (hR : remB bs p = X.R) (hp : p ≤ 8 * bs.length) (hb : bs.length ≤ 140737488355328) (kk_ : Int) (hk : 0 ≤ kk_ ∧ kk_ ≤ 8) (H : St W w (blk r (.cells #[.pointer (pa b), .int .i64 X.e] 164 (0, 0)) :: SrcA b bs p :: F)) : Calls Tryz.prog 126 #[.pointer (pa r), .int .i64 kk_] w (Ret fun v w' => v = .int .i64 ((stB kk_ X).1 : Int) ∧ ∃ p', remB bs p' = ((stB kk_ X).2).R ∧ p' ≤ 8 * bs.length ∧ St W w' (blk r (.cells #[.pointer (pa b), .int .i64 (((stB kk_ X).2).e)] 164 (0, 0)) :: SrcA b bs p' :: F)) := by
 have hxl : X.R.length ≤ 1125899906842624 := by rw [← hR, remB_len]; omega
 refine calls_of_go (n := 26) Tryz.func126 rfl Tryz.ntmps126 rfl ?_
 refine g_seq (g_region (Ag (.int .i64 0) (r_nil (g_seq (g_seq (g_region (Mv (.pointer (pa r)) (Nc (.pointer (pa r)) (Fa 1 fi_164_1 rfl (Lo (.int .i64 X.e) ag_28 H 0 ?_))))))))))
 by_cases hc1 : X.e = 0
 ·refine rc (s_neq false rfl rfl (ntrue hc1) rfl (r_nil (g_false rfl (g_skip (g_seq (g_region (Mv (.pointer (pa r)) (Nc (.pointer (pa r)) (Fa 0 fi_164_0 rfl (Lo (.pointer (pa b)) ag_70 H 0 (Mv (.int .i64 kk_) (rc (s_call [.pointer (pa b), .int .i64 kk_] pl_76 rfl rfl (Src_Bits b bs p t4 t18 kk_  (i := 1) rfl H) ?_)))))))))))))
  rintro _ w2 ⟨rfl, H3⟩
  refine Mv (.tuple #[.int .u64 (srcU (remB bs p) kk_ : Int), .int .i64 (srcE (remB bs p) kk_)]) (Ex (.int .u64 (srcU (remB bs p) kk_ : Int)) (Ex (.int .i64 (srcE (remB bs p) kk_)) (Ag (.int .u64 (srcU (remB bs p) kk_ : Int)) (Ag (.int .i64 (srcE (remB bs p) kk_)) (r_nil (g_seq (g_region (Mv (.pointer (pa r)) (Mv (.int .i64 (srcE (remB bs p) kk_)) (rc (s_call [.pointer (pa r), .int .i64 (srcE (remB bs p) kk_)] pl_129 rfl rfl (ev_keep r b X.e (srcE (remB bs p) kk_) (i := 0) rfl H3) ?_)))))))))))
  rintro _ w4 ⟨rfl, H5⟩
  refine r_nil (g_seq (g_region ?_))
  have hlt := srcU_lt8 (R := remB bs p) hk
  refine Mv (.int .u64 (srcU (remB bs p) kk_ : Int)) (rc (s_conv (srcU (remB bs p) kk_ : Int) rfl us_61 ik_3 (wi64 t0) rfl (Ag (.int .i64 (srcU (remB bs p) kk_ : Int)) (r_nil (Gr [.int .i64 (srcU (remB bs p) kk_ : Int)] Tryz.func126 Tryz.results126 ?_)))))
  have H6 : St W w4 (_ :: _ :: F) := (H5.mv [1, 1])
  have hx := H6
  rw [if_pos hc1] at hx
  rw [stB_yes hc1, ← hR]
  exact ⟨rfl, p + srcN (remB bs p) kk_, (remB_drop bs p _).symm, srcN_pos hp, hx⟩
 refine rc (s_neq true rfl rfl (nfalse hc1) rfl (r_nil (g_true rfl (g_seq (g_region (Ag (.int .i64 0) (r_nil (Gr [.int .i64 0] Tryz.func126 Tryz.results126 ?_))))))))
 have H7 : St W w (_ :: _ :: F) := (H.mv [1, 1])
 rw [stB_no hc1]
 exact ⟨rfl, p, hR, hp, H7⟩
theorem ev_nat (r b : Nat) (bs : List UInt8) (p : Nat) (X : RX) (hR : remB bs p = X.R) (hp : p ≤ 8 * bs.length) (hb : bs.length ≤ 140737488355328) (H : St W w (blk r (.cells #[.pointer (pa b), .int .i64 X.e] 164 (0, 0)) :: SrcA b bs p :: F)) : Calls Tryz.prog 127 #[.pointer (pa r)] w (Ret fun v w' => v = .int .i64 (tmN (stN X).1) ∧ ∃ p', remB bs p' = ((stN X).2).R ∧ p' ≤ 8 * bs.length ∧ St W w' (blk r (.cells #[.pointer (pa b), .int .i64 (((stN X).2).e)] 164 (0, 0)) :: SrcA b bs p' :: F)) := by
 have hxl : X.R.length ≤ 1125899906842624 := by rw [← hR, remB_len]; omega
 refine calls_of_go (n := 25) Tryz.func127 rfl Tryz.ntmps127 rfl ?_
 refine g_seq (g_region (Ag (.int .i64 0) (r_nil (g_seq (g_seq (g_region (Mv (.pointer (pa r)) (Nc (.pointer (pa r)) (Fa 1 fi_164_1 rfl (Lo (.int .i64 X.e) ag_28 H 0 ?_))))))))))
 by_cases hc1 : X.e = 0
 ·refine rc (s_neq false rfl rfl (ntrue hc1) rfl (r_nil (g_false rfl (g_skip (g_seq (g_region (Mv (.pointer (pa r)) (Nc (.pointer (pa r)) (Fa 0 fi_164_0 rfl (Lo (.pointer (pa b)) ag_70 H 0 (rc (s_call [.pointer (pa b)] pl_75 rfl rfl (Src_Nat b bs p t4 t18   (i := 1) rfl H) ?_))))))))))))
  rintro _ w2 ⟨rfl, H3⟩
  refine Mv (.tuple #[.int .u64 (natU (remB bs p) : Int), .int .i64 (natE (remB bs p))]) (Ex (.int .u64 (natU (remB bs p) : Int)) (Ex (.int .i64 (natE (remB bs p))) (Ag (.int .u64 (natU (remB bs p) : Int)) (Ag (.int .i64 (natE (remB bs p))) (r_nil (g_seq (g_region (Mv (.pointer (pa r)) (Mv (.int .i64 (natE (remB bs p))) (rc (s_call [.pointer (pa r), .int .i64 (natE (remB bs p))] pl_129 rfl rfl (ev_keep r b X.e (natE (remB bs p)) (i := 0) rfl H3) ?_)))))))))))
  rintro _ w4 ⟨rfl, H5⟩
  refine r_nil (g_seq (g_seq (g_region (Mv (.int .u64 (natU (remB bs p) : Int)) ?_))))
  by_cases hc6 : (1099511627776 : Int) < (natU (remB bs p) : Int)
  ·refine rc (s_gtr true rfl rfl (dtrue hc6) rfl (r_nil (g_true rfl (g_seq (g_region (Ag (.int .i64 (-1)) (r_nil (Gr [.int .i64 (-1)] Tryz.func127 Tryz.results127 ?_))))))))
   have H7 : St W w4 (_ :: _ :: F) := (H5.mv [1, 1])
   have hx := H7
   rw [if_pos hc1] at hx
   rw [stN_yes hc1, ← hR]
   exact ⟨vint (by unfold tmN; first | (rw [if_pos t0]; done) | (rw [if_neg t0]; done)), p + natN (remB bs p), (remB_drop bs p _).symm, natN_pos hp, hx⟩
  refine rc (s_gtr false rfl rfl (dfalse hc6) rfl (r_nil (g_false rfl (g_skip (g_seq (g_region (Mv (.int .u64 (natU (remB bs p) : Int)) (rc (s_conv (natU (remB bs p) : Int) rfl us_61 ik_2 (wi64 t0) rfl (Ag (.int .i64 (natU (remB bs p) : Int)) (r_nil (Gr [.int .i64 (natU (remB bs p) : Int)] Tryz.func127 Tryz.results127 ?_))))))))))))
  have H8 : St W w4 (_ :: _ :: F) := (H5.mv [1, 1])
  have hx := H8
  rw [if_pos hc1] at hx
  rw [stN_yes hc1, ← hR]
  exact ⟨vint (by unfold tmN; first | (rw [if_pos t0]; done) | (rw [if_neg t0]; done)), p + natN (remB bs p), (remB_drop bs p _).symm, natN_pos hp, hx⟩
 refine rc (s_neq true rfl rfl (nfalse hc1) rfl (r_nil (g_true rfl (g_seq (g_region (Ag (.int .i64 0) (r_nil (Gr [.int .i64 0] Tryz.func127 Tryz.results127 ?_))))))))
 have H9 : St W w (_ :: _ :: F) := (H.mv [1, 1])
 rw [stN_no hc1]
 exact ⟨vint (by exact (show tmN 0 = 0 from rfl).symm), p, hR, hp, H9⟩
theorem ev_text (r b : Nat) (bs : List UInt8) (p : Nat) (X : RX) (hR : remB bs p = X.R) (hp : p ≤ 8 * bs.length) (hb : bs.length ≤ 140737488355328) (H : St W w (blk r (.cells #[.pointer (pa b), .int .i64 X.e] 164 (0, 0)) :: SrcA b bs p :: F)) : Calls Tryz.prog 128 #[.pointer (pa r)] w (Ret fun v w' => v = .string ((stT X).1) ∧ ∃ p', remB bs p' = ((stT X).2).R ∧ p' ≤ 8 * bs.length ∧ St W w' (blk r (.cells #[.pointer (pa b), .int .i64 (((stT X).2).e)] 164 (0, 0)) :: SrcA b bs p' :: F)) := by
 have hxl : X.R.length ≤ 1125899906842624 := by rw [← hR, remB_len]; omega
 refine calls_of_go (n := 22) Tryz.func128 rfl Tryz.ntmps128 rfl ?_
 refine g_seq (g_region (Ag (.string ByteArray.empty) (r_nil (g_seq (g_seq (g_region (Mv (.pointer (pa r)) (Nc (.pointer (pa r)) (Fa 1 fi_164_1 rfl (Lo (.int .i64 X.e) ag_28 H 0 ?_))))))))))
 by_cases hc1 : X.e = 0
 ·refine rc (s_neq false rfl rfl (ntrue hc1) rfl (r_nil (g_false rfl (g_skip (g_seq (g_region (Mv (.pointer (pa r)) (Nc (.pointer (pa r)) (Fa 0 fi_164_0 rfl (Lo (.pointer (pa b)) ag_70 H 0 (rc (s_call [.pointer (pa b)] pl_102 rfl rfl (Src_Text b bs p t4 t18 (i := 1) rfl H) ?_))))))))))))
  rintro _ w2 ⟨rfl, H3⟩
  refine Mv (.tuple #[.string (textS (remB bs p)), .int .i64 (textE (remB bs p))]) (Ex (.string (textS (remB bs p))) (Ex (.int .i64 (textE (remB bs p))) (Ag (.string (textS (remB bs p))) (Ag (.int .i64 (textE (remB bs p))) (r_nil (g_seq (g_region (Mv (.pointer (pa r)) (Mv (.int .i64 (textE (remB bs p))) (rc (s_call [.pointer (pa r), .int .i64 (textE (remB bs p))] pl_129 rfl rfl (ev_keep r b X.e (textE (remB bs p)) (i := 0) rfl H3) ?_)))))))))))
  rintro _ w4 ⟨rfl, H5⟩
  refine r_nil (g_seq (g_region (Mv (.string (textS (remB bs p))) (Ag (.string (textS (remB bs p))) (r_nil (Gr [.string (textS (remB bs p))] Tryz.func128 Tryz.results128 ?_))))))
  have H6 : St W w4 (_ :: _ :: F) := (H5.mv [1, 1])
  have hx := H6
  rw [if_pos hc1] at hx
  rw [stT_yes hc1, ← hR]
  exact ⟨rfl, p + textN (remB bs p), (remB_drop bs p _).symm, textN_pos hp, hx⟩
 refine rc (s_neq true rfl rfl (nfalse hc1) rfl (r_nil (g_true rfl (g_seq (g_region (Ag (.string ByteArray.empty) (r_nil (Gr [.string ByteArray.empty] Tryz.func128 Tryz.results128 ?_))))))))
 have H7 : St W w (_ :: _ :: F) := (H.mv [1, 1])
 rw [stT_no hc1]
 exact ⟨rfl, p, hR, hp, H7⟩
theorem ev_num (r b : Nat) (bs : List UInt8) (p : Nat) (X : RX) (hR : remB bs p = X.R) (hp : p ≤ 8 * bs.length) (hb : bs.length ≤ 140737488355328) (H : St W w (blk r (.cells #[.pointer (pa b), .int .i64 X.e] 164 (0, 0)) :: SrcA b bs p :: F)) : Calls Tryz.prog 132 #[.pointer (pa r)] w (Ret fun v w' => v = .int .i64 (zagN (stN X).1) ∧ ∃ p', remB bs p' = ((stN X).2).R ∧ p' ≤ 8 * bs.length ∧ St W w' (blk r (.cells #[.pointer (pa b), .int .i64 (((stN X).2).e)] 164 (0, 0)) :: SrcA b bs p' :: F)) := by
 have hxl : X.R.length ≤ 1125899906842624 := by rw [← hR, remB_len]; omega
 refine calls_of_go (n := 22) Tryz.func132 rfl Tryz.ntmps132 rfl ?_
 refine g_seq (g_region (Ag (.int .i64 0) (r_nil (g_seq (g_seq (g_region (Mv (.pointer (pa r)) (Nc (.pointer (pa r)) (Fa 1 fi_164_1 rfl (Lo (.int .i64 X.e) ag_28 H 0 ?_))))))))))
 by_cases hc1 : X.e = 0
 ·refine rc (s_neq false rfl rfl (ntrue hc1) rfl (r_nil (g_false rfl (g_skip (g_seq (g_region (Mv (.pointer (pa r)) (Nc (.pointer (pa r)) (Fa 0 fi_164_0 rfl (Lo (.pointer (pa b)) ag_70 H 0 (rc (s_call [.pointer (pa b)] pl_134 rfl rfl (Src_Num b bs p t4 t18   (i := 1) rfl H) ?_))))))))))))
  rintro _ w2 ⟨rfl, H3⟩
  refine Mv (.tuple #[.int .i64 (zagN (natU (remB bs p))), .int .i64 (natE (remB bs p))]) (Ex (.int .i64 (zagN (natU (remB bs p)))) (Ex (.int .i64 (natE (remB bs p))) (Ag (.int .i64 (zagN (natU (remB bs p)))) (Ag (.int .i64 (natE (remB bs p))) (r_nil (g_seq (g_region (Mv (.pointer (pa r)) (Mv (.int .i64 (natE (remB bs p))) (rc (s_call [.pointer (pa r), .int .i64 (natE (remB bs p))] pl_129 rfl rfl (ev_keep r b X.e (natE (remB bs p)) (i := 0) rfl H3) ?_)))))))))))
  rintro _ w4 ⟨rfl, H5⟩
  refine r_nil (g_seq (g_region (Mv (.int .i64 (zagN (natU (remB bs p)))) (Ag (.int .i64 (zagN (natU (remB bs p)))) (r_nil (Gr [.int .i64 (zagN (natU (remB bs p)))] Tryz.func132 Tryz.results132 ?_))))))
  have H6 : St W w4 (_ :: _ :: F) := (H5.mv [1, 1])
  have hx := H6
  rw [if_pos hc1] at hx
  rw [stN_yes hc1, ← hR]
  exact ⟨rfl, p + natN (remB bs p), (remB_drop bs p _).symm, natN_pos hp, hx⟩
 refine rc (s_neq true rfl rfl (nfalse hc1) rfl (r_nil (g_true rfl (g_seq (g_region (Ag (.int .i64 0) (r_nil (Gr [.int .i64 0] Tryz.func132 Tryz.results132 ?_))))))))
 have H7 : St W w (_ :: _ :: F) := (H.mv [1, 1])
 rw [stN_no hc1]
 exact ⟨vint (by exact (show zagN 0 = 0 from rfl).symm), p, hR, hp, H7⟩
theorem ev_attr (r b : Nat) (bs : List UInt8) (p : Nat) (X : RX) (hR : remB bs p = X.R) (hp : p ≤ 8 * bs.length) (hb : bs.length ≤ 140737488355328) (H : St W w (blk r (.cells #[.pointer (pa b), .int .i64 X.e] 164 (0, 0)) :: SrcA b bs p :: F)) : Calls Tryz.prog 130 #[.pointer (pa r)] w (Ret fun v w' => v = .agg #[.string ((stA X).1.name.v), .int .i64 ((stA X).1.kind.v), .int .i64 ((stA X).1.n.v), .string ((stA X).1.s.v)] ∧ ∃ p', remB bs p' = ((stA X).2).R ∧ p' ≤ 8 * bs.length ∧ St W w' (blk r (.cells #[.pointer (pa b), .int .i64 (((stA X).2).e)] 164 (0, 0)) :: SrcA b bs p' :: F)) := by
 have hxl : X.R.length ≤ 1125899906842624 := by rw [← hR, remB_len]; omega
 refine calls_of_go (n := 29) Tryz.func130 rfl Tryz.ntmps130 rfl ?_
 refine g_seq (g_region (rc (s_alloc H 147 ze_147 rfl (fun bk1 w2 H3 => r_nil (g_seq (g_region (Mv (.pointer (pa r)) ?_)))))))
 have H4 : St W w2 (_ :: _ :: _ :: F) := (H3.mv [2, 2])
 refine rc (s_call [.pointer (pa r)] pl_128 rfl rfl (ev_text r b bs p X hR hp t0  H4) ?_)
 rintro _ w8 ⟨rfl, q5, hR6, hp7, H9⟩
 refine rc (s_build (cs := #[.string ((stT X).1), .int .i64 0, .int .i64 0, .string ByteArray.empty]) t5 rfl (rc (s_alloc H9 147 ze_147 rfl (fun bk10 w11 H12 => Sa H12 0 rfl #[.string ((stT X).1), .int .i64 0, .int .i64 0, .string ByteArray.empty] 4 sz_147 #[.string ((stT X).1), .int .i64 0, .int .i64 0, .string ByteArray.empty] (fun w13 H14 => r_nil (g_seq (g_seq (g_region (Mv (.pointer (pa r)) ?_)))))))))
 have H15 : St W w13 (_ :: _ :: _ :: _ :: F) := (H14.mv [3, 1, 3, 3])
 refine rc (s_call [.pointer (pa r), .int .i64 2] pl_126 rfl rfl (ev_bits r b bs q5 ((stT X).2) hR6 hp7 t0 2 t9 H15) ?_)
 rintro _ w19 ⟨rfl, q16, hR17, hp18, H20⟩
 refine Fa 1 fi_147_1 rfl (Fa 1 fi_145_0 rfl (rc (s_store H20 2 (.int .i64 ((stB 2 ((stT X).2)).1 : Int)) rfl rfl rfl sz_3 rfl (nbl rfl) rfl (cs' := #[.string ((stT X).1), .int .i64 ((stB 2 ((stT X).2)).1 : Int), .int .i64 0, .string ByteArray.empty]) rfl (fun w21 H22 => r_nil (g_seq (g_region (Fa 1 fi_147_1 rfl (Fa 1 fi_145_0 rfl (Lo (.int .i64 ((stB 2 ((stT X).2)).1 : Int)) ag_3 H22 2 (r_nil (g_block (g_seq (g_region ?_)))))))))))))
 by_cases hc23 : ((stB 2 ((stT X).2)).1 : Int) = 1
 ·refine rc (s_eql true rfl rfl (dtrue hc23) rfl (Ag (.bool true) (r_nil (g_true rfl (g_region (Mv (.pointer (pa r)) ?_))))))
  have H24 : St W w21 (_ :: _ :: _ :: _ :: F) := (H22.mv [3, 3, 3, 3])
  refine rc (s_call [.pointer (pa r)] pl_132 rfl rfl (ev_num r b bs q16 ((stB 2 ((stT X).2)).2) hR17 hp18 t0  H24) ?_)
  rintro _ w28 ⟨rfl, q25, hR26, hp27, H29⟩
  refine Fa 1 fi_147_1 rfl (Fa 2 fi_145_1 rfl (rc (s_store H29 2 (.int .i64 (zagN (stN ((stB 2 ((stT X).2)).2)).1)) rfl rfl rfl sz_2 rfl (nbl rfl) rfl (cs' := #[.string ((stT X).1), .int .i64 ((stB 2 ((stT X).2)).1 : Int), .int .i64 (zagN (stN ((stB 2 ((stT X).2)).2)).1), .string ByteArray.empty]) rfl (fun w30 H31 => r_nil (g_inBlock (g_seq (g_region (La [.string ((stT X).1), .int .i64 ((stB 2 ((stT X).2)).1 : Int), .int .i64 (zagN (stN ((stB 2 ((stT X).2)).2)).1), .string ByteArray.empty] 4 ag_147 H31 2 (Sa H31 3 rfl #[.string ((stT X).1), .int .i64 ((stB 2 ((stT X).2)).1 : Int), .int .i64 (zagN (stN ((stB 2 ((stT X).2)).2)).1), .string ByteArray.empty] 4 sz_147 #[.string ((stT X).1), .int .i64 ((stB 2 ((stT X).2)).1 : Int), .int .i64 (zagN (stN ((stB 2 ((stT X).2)).2)).1), .string ByteArray.empty] (fun w32 H33 => r_nil ?_))))))))))
  refine g_ret' [.agg #[.string ((stT X).1), .int .i64 ((stB 2 ((stT X).2)).1 : Int), .int .i64 (zagN (stN ((stB 2 ((stT X).2)).2)).1), .string ByteArray.empty]] Tryz.func130 Tryz.results130 ⟨(res_cellN rfl ag_147 (H33.blk_at (i := 3) rfl) (nbl rfl) rfl), trivial⟩ ?_
  have H34 : St W w32 (_ :: _ :: F) := (H33.mv [1, 1, 102, 102])
  have hk : (stB 2 (stT X).2).1 = 1 := by omega
  have hV := stV_1 (X := (stT X).2) hk
  obtain ⟨c1, c2, c3, c4⟩ := stA_cells (X := X) hxl
  have hA2 : (stA X).2 = (stN ((stB 2 ((stT X).2)).2)).2 := by show (stV (stT X).2).2 = _; rw [hV]
  exact ⟨by rw [c1, c2, c3, c4, hV, hk]; rfl, _, by rw [hA2]; exact hR26, hp27, by rw [hA2]; exact H34⟩
 refine rc (s_eql false rfl rfl (dfalse hc23) rfl (Ag (.bool false) (r_nil (g_false rfl (g_seq (g_region ?_))))))
 by_cases hc35 : ((stB 2 ((stT X).2)).1 : Int) = 2
 ·refine rc (s_eql true rfl rfl (dtrue hc35) rfl (Ag (.bool true) (r_nil (g_true rfl (g_region (Mv (.pointer (pa r)) ?_))))))
  have H36 : St W w21 (_ :: _ :: _ :: _ :: F) := (H22.mv [3, 3, 3, 3])
  refine rc (s_call [.pointer (pa r)] pl_128 rfl rfl (ev_text r b bs q16 ((stB 2 ((stT X).2)).2) hR17 hp18 t0  H36) ?_)
  rintro _ w40 ⟨rfl, q37, hR38, hp39, H41⟩
  refine Fa 1 fi_147_1 rfl (Fa 3 fi_145_2 rfl (rc (s_store H41 2 (.string ((stT ((stB 2 ((stT X).2)).2)).1)) rfl rfl rfl sz_9 rfl (nbl rfl) rfl (cs' := #[.string ((stT X).1), .int .i64 ((stB 2 ((stT X).2)).1 : Int), .int .i64 0, .string ((stT ((stB 2 ((stT X).2)).2)).1)]) rfl (fun w42 H43 => r_nil (g_inBlock (g_seq (g_region (La [.string ((stT X).1), .int .i64 ((stB 2 ((stT X).2)).1 : Int), .int .i64 0, .string ((stT ((stB 2 ((stT X).2)).2)).1)] 4 ag_147 H43 2 (Sa H43 3 rfl #[.string ((stT X).1), .int .i64 ((stB 2 ((stT X).2)).1 : Int), .int .i64 0, .string ((stT ((stB 2 ((stT X).2)).2)).1)] 4 sz_147 #[.string ((stT X).1), .int .i64 ((stB 2 ((stT X).2)).1 : Int), .int .i64 0, .string ((stT ((stB 2 ((stT X).2)).2)).1)] (fun w44 H45 => r_nil ?_))))))))))
  refine g_ret' [.agg #[.string ((stT X).1), .int .i64 ((stB 2 ((stT X).2)).1 : Int), .int .i64 0, .string ((stT ((stB 2 ((stT X).2)).2)).1)]] Tryz.func130 Tryz.results130 ⟨(res_cellN rfl ag_147 (H45.blk_at (i := 3) rfl) (nbl rfl) rfl), trivial⟩ ?_
  have H46 : St W w44 (_ :: _ :: F) := (H45.mv [1, 1, 102, 102])
  have hk : (stB 2 (stT X).2).1 = 2 := by omega
  have hV := stV_2 (X := (stT X).2) hk
  obtain ⟨c1, c2, c3, c4⟩ := stA_cells (X := X) hxl
  have hA2 : (stA X).2 = (stT ((stB 2 ((stT X).2)).2)).2 := by show (stV (stT X).2).2 = _; rw [hV]
  exact ⟨by rw [c1, c2, c3, c4, hV, hk]; rfl, _, by rw [hA2]; exact hR38, hp39, by rw [hA2]; exact H46⟩
 refine rc (s_eql false rfl rfl (dfalse hc35) rfl (Ag (.bool false) (r_nil (g_false rfl (g_region (Mv (.pointer (pa r)) (rc (s_call [.pointer (pa r), .int .i64 40] pl_129 rfl rfl (ev_keep r b ((stB 2 ((stT X).2)).2.e) 40 (i := 0) rfl H22) ?_))))))))
 rintro _ w47 ⟨rfl, H48⟩
 refine r_nil (g_inBlock (g_seq (g_region (La [.string ((stT X).1), .int .i64 ((stB 2 ((stT X).2)).1 : Int), .int .i64 0, .string ByteArray.empty] 4 ag_147 H48 2 (Sa H48 3 rfl #[.string ((stT X).1), .int .i64 ((stB 2 ((stT X).2)).1 : Int), .int .i64 0, .string ByteArray.empty] 4 sz_147 #[.string ((stT X).1), .int .i64 ((stB 2 ((stT X).2)).1 : Int), .int .i64 0, .string ByteArray.empty] (fun w49 H50 => r_nil ?_))))))
 refine g_ret' [.agg #[.string ((stT X).1), .int .i64 ((stB 2 ((stT X).2)).1 : Int), .int .i64 0, .string ByteArray.empty]] Tryz.func130 Tryz.results130 ⟨(res_cellN rfl ag_147 (H50.blk_at (i := 3) rfl) (nbl rfl) rfl), trivial⟩ ?_
 have H51 : St W w49 (_ :: _ :: F) := (H50.mv [1, 1, 102, 102])
 have H52 : St W w49 (_ :: _ :: F) := (H51.mv [1, 1])
 have H53 : St W w49 (_ :: _ :: F) := H52
 have hV := stV_3 (X := (stT X).2) (show ¬ (stB 2 (stT X).2).1 = 1 by omega) (show ¬ (stB 2 (stT X).2).1 = 2 by omega)
 obtain ⟨c1, c2, c3, c4⟩ := stA_cells (X := X) hxl
 have hA2 : (stA X).2 = (stK 40 ((stB 2 ((stT X).2)).2)) := by show (stV (stT X).2).2 = _; rw [hV]
 exact ⟨by rw [c1, c2, c3, c4, hV]; rfl, _, by rw [hA2]; exact hR17, hp18, by rw [hA2]; exact H53⟩
theorem ev_event (r b : Nat) (bs : List UInt8) (p : Nat) (X : RX) (hR : remB bs p = X.R) (hp : p ≤ 8 * bs.length) (hb : bs.length ≤ 140737488355328) (H : St W w (blk r (.cells #[.pointer (pa b), .int .i64 X.e] 164 (0, 0)) :: SrcA b bs p :: F)) : Calls Tryz.prog 117 #[.pointer (pa r)] w (Ret fun v w' => (evC tmN X = 0 ∧ ∃ q c p', v = .agg (evc (evS tmN X) q c) ∧ remB bs p' = (v7 X).R ∧ p' ≤ 8 * bs.length ∧ St W w' (Attrs (.slice q ((evS tmN X).attrs.length) c) (evS tmN X).attrs :: blk r (.cells #[.pointer (pa b), .int .i64 0] 164 (0, 0)) :: SrcA b bs p' :: F)) ∨ (¬ evC tmN X = 0 ∧ ∃ s1 s2 s3 s4 q n c p', v = .agg #[.int .i64 s1, .int .i64 s2, .int .i64 s3, .string s4, .slice q n c] ∧ St W w' (blk r (.cells #[.pointer (pa b), .int .i64 (evC tmN X)] 164 (0, 0)) :: SrcA b bs p' :: F))) := by
 have hxl : X.R.length ≤ 1125899906842624 := by rw [← hR, remB_len]; omega
 refine calls_of_go (n := 50) Tryz.func117 rfl Tryz.ntmps117 rfl ?_
 refine g_seq (g_region (rc (s_alloc H 119 ze_119 rfl (fun bk1 w2 H3 => r_nil (g_seq (g_region (Mv (.pointer (pa r)) ?_)))))))
 have H4 : St W w2 (_ :: _ :: _ :: F) := (H3.mv [2, 2])
 refine rc (s_call [.pointer (pa r), .int .i64 4] pl_126 rfl rfl (ev_bits r b bs p X hR hp t0 4 t9 H4) ?_)
 rintro _ w8 ⟨rfl, q5, hR6, hp7, H9⟩
 refine Mv (.pointer (pa r)) ?_
 have H10 : St W w8 (_ :: _ :: _ :: F) := (H9.mv [2, 2, 2])
 refine rc (s_call [.pointer (pa r)] pl_127 rfl rfl (ev_nat r b bs q5 (v1 X) hR6 hp7 t0  H10) ?_)
 rintro _ w14 ⟨rfl, q11, hR12, hp13, H15⟩
 refine rc (s_build (cs := #[.int .i64 ((stB 4 X).1 : Int), .int .i64 (tmN (stN (v1 X)).1)]) t5 rfl (rc (s_build (cs := #[.int .i64 ((stB 4 X).1 : Int), .int .i64 (tmN (stN (v1 X)).1), .int .i64 0, .string ByteArray.empty, .slice none 0 0]) t5 rfl (rc (s_alloc H15 119 ze_119 rfl (fun bk16 w17 H18 => Sa H18 0 rfl #[.int .i64 ((stB 4 X).1 : Int), .int .i64 (tmN (stN (v1 X)).1), .int .i64 0, .string ByteArray.empty, .slice none 0 0] 5 sz_119 #[.int .i64 ((stB 4 X).1 : Int), .int .i64 (tmN (stN (v1 X)).1), .int .i64 0, .string ByteArray.empty, .slice none 0 0] (fun w19 H20 => r_nil (g_seq (g_region (Mv (.pointer (pa r)) ?_))))))))))
 have H21 : St W w19 (_ :: _ :: _ :: _ :: F) := (H20.mv [3, 1, 3, 3])
 refine rc (s_call [.pointer (pa r)] pl_127 rfl rfl (ev_nat r b bs q11 (v2 X) hR12 hp13 t0  H21) ?_)
 rintro _ w25 ⟨rfl, q22, hR23, hp24, H26⟩
 refine Fa 2 fi_119_1 rfl (rc (s_store H26 2 (.int .i64 (tmN (stN (v2 X)).1)) rfl rfl rfl sz_2 rfl (nbl rfl) rfl (cs' := #[.int .i64 ((stB 4 X).1 : Int), .int .i64 (tmN (stN (v1 X)).1), .int .i64 (tmN (stN (v2 X)).1), .string ByteArray.empty, .slice none 0 0]) rfl (fun w27 H28 => r_nil (g_seq (g_region (Mv (.pointer (pa r)) ?_))))))
 have H29 : St W w27 (_ :: _ :: _ :: _ :: F) := (H28.mv [3, 3, 3, 3])
 refine rc (s_call [.pointer (pa r)] pl_128 rfl rfl (ev_text r b bs q22 (v3 X) hR23 hp24 t0  H29) ?_)
 rintro _ w33 ⟨rfl, q30, hR31, hp32, H34⟩
 refine Fa 3 fi_119_2 rfl (rc (s_store H34 2 (.string ((stT (v3 X)).1)) rfl rfl rfl sz_9 rfl (nbl rfl) rfl (cs' := #[.int .i64 ((stB 4 X).1 : Int), .int .i64 (tmN (stN (v1 X)).1), .int .i64 (tmN (stN (v2 X)).1), .string ((stT (v3 X)).1), .slice none 0 0]) rfl (fun w35 H36 => r_nil (g_seq (g_region (Mv (.pointer (pa r)) ?_))))))
 have H37 : St W w35 (_ :: _ :: _ :: _ :: F) := (H36.mv [3, 3, 3, 3])
 refine rc (s_call [.pointer (pa r), .int .i64 4] pl_126 rfl rfl (ev_bits r b bs q30 (v4 X) hR31 hp32 t0 4 t9 H37) ?_)
 rintro _ w41 ⟨rfl, q38, hR39, hp40, H42⟩
 refine Ag (.int .i64 ((stB 4 (v4 X)).1 : Int)) (r_nil (g_seq (g_seq (g_region (Mv (.int .i64 ((stB 4 (v4 X)).1 : Int)) ?_)))))
 by_cases hc43 : (8 : Int) < ((stB 4 (v4 X)).1 : Int)
 ·refine rc (s_gtr true rfl rfl (dtrue hc43) rfl (r_nil (g_true rfl (g_region (Mv (.pointer (pa r)) (rc (s_call [.pointer (pa r), .int .i64 40] pl_129 rfl rfl (ev_keep r b ((v5 X).e) 40 (i := 0) rfl H42) ?_)))))))
  rintro _ w44 ⟨rfl, H45⟩
  refine r_nil (g_seq (g_seq (g_region (Mv (.int .i64 ((stB 4 (v4 X)).1 : Int)) (Mv (.int .i64 0) (r_nil (g_block ?_)))))))
  have H46 : St W w44 (_ :: _ :: _ :: _ :: F) := (H45.mv [3, 3, 3, 3])
  have H47 : St W w44 (_ :: _ :: _ :: _ :: F) := H46
  have h6 : v6 X = (stK 40 (v5 X)) := by
   have hh : 8 < (stB 4 (v4 X)).1 := by omega
   show (if 8 < vn X then stK 40 (v5 X) else v5 X) = _
   exact if_pos hh
  have H48 := Row.nil_intro H47 147 4
  have H49 : St W w44 (_ :: _ :: _ :: _ :: _ :: F) := (H48.mv [4, 4, 4, 4, 4])
  refine g_loop_inv (fun ((j, pj, qa, ca) : Nat × Nat × (Option Addr) × Nat) => [(0, .pointer (pa r)), (2, .pointer (pa bk1)), (3, .pointer (pa bk16)), (23, .int .i64 ((stB 4 (v4 X)).1 : Int)), (24, .int .i64 (j : Int))]) (fun (j, pj, qa, ca) w => (j ≤ (stB 4 (v4 X)).1) ∧ (remB bs pj = (ats j (stK 40 (v5 X))).2.R) ∧ (pj ≤ 8 * bs.length) ∧ St W w (Row 147 4 (.slice qa ((ats j (stK 40 (v5 X))).1.length) ca) ((ats j (stK 40 (v5 X))).1.length) (((ats j (stK 40 (v5 X))).1).flatMap attrCell) :: blk r (.cells #[.pointer (pa b), .int .i64 ((ats j (stK 40 (v5 X))).2.e)] 164 (0, 0)) :: SrcA b bs pj :: blk bk16 (.cells #[.int .i64 ((stB 4 X).1 : Int), .int .i64 (tmN (stN (v1 X)).1), .int .i64 (tmN (stN (v2 X)).1), .string ((stT (v3 X)).1), .slice qa ((ats j (stK 40 (v5 X))).1.length) ca] 119 (0, 0)) :: blk bk1 (.cells #[.int .i64 0, .int .i64 0, .int .i64 0, .string ByteArray.empty, .slice none 0 0] 119 (0, 0)) :: F)) (fun (j, pj, qa, ca) => (stB 4 (v4 X)).1 - j) (0, q38, none, 0) ?_ ?_ ?_
  ·exact t1
  ·exact ⟨t0, hR39, hp40, H49⟩
  rintro ⟨j, pj, qa, ca⟩ ρ50 w51 ⟨hjn, hRj, hpj, H52⟩ nx53
  change Ends _ _ (upds ρ50 [(0, .pointer (pa r)), (2, .pointer (pa bk1)), (3, .pointer (pa bk16)), (23, .int .i64 ((stB 4 (v4 X)).1 : Int)), (24, .int .i64 (j : Int))]) w51
  have hln := ats_le (X := (stK 40 (v5 X))) j
  have hvn : (stB 4 (v4 X)).1 < 16 := stB_lt (k := 4)
  refine g_seq (g_region ?_)
  by_cases hc54 : (j : Int) < ((stB 4 (v4 X)).1 : Int)
  ·refine rc (s_lss true rfl rfl (dtrue hc54) rfl (r_nil (g_seq (g_true rfl (g_skip (g_seq (g_block (g_seq (g_seq (g_region (Mv (.pointer (pa r)) (Nc (.pointer (pa r)) (Fa 1 fi_164_1 rfl (Lo (.int .i64 ((ats j (stK 40 (v5 X))).2.e)) ag_28 H52 1 ?_))))))))))))))
   by_cases hc55 : (ats j (stK 40 (v5 X))).2.e = 0
   ·refine rc (s_neq false rfl rfl (ntrue hc55) rfl (r_nil (g_false rfl (g_skip ?_))))
    have H56 : St W w51 (_ :: _ :: _ :: _ :: _ :: F) := (H52.mv [3, 3, 3, 3, 4])
    refine g_mix (fun t_ w => St W w (blk bk1 (.cells #[.int .i64 0, .int .i64 0, .int .i64 0, .string ByteArray.empty, .slice none 0 0] 119 (0, 0)) :: t_)) (Row 147 4 (.slice qa ((ats j (stK 40 (v5 X))).1.length) ca) ((ats j (stK 40 (v5 X))).1.length) (((ats j (stK 40 (v5 X))).1).flatMap attrCell) :: blk r (.cells #[.pointer (pa b), .int .i64 ((ats j (stK 40 (v5 X))).2.e)] 164 (0, 0)) :: SrcA b bs pj :: blk bk16 (.cells #[.int .i64 ((stB 4 X).1 : Int), .int .i64 (tmN (stN (v1 X)).1), .int .i64 (tmN (stN (v2 X)).1), .string ((stT (v3 X)).1), .slice qa ((ats j (stK 40 (v5 X))).1.length) ca] 119 (0, 0)) :: F) mixed 8 rfl H56.drew ?_
    refine Fv 0 rfl (fun t_ w hw => x_fieldAddr 119 3 4 4 117 rfl fi_119_3 rfl w) (Fv 2 rfl (fun _ w _ => x_move (.pointer (pa r)) rfl w) ?_)
    refine f_all (rs := [1, 3]) t5 t13 ?_
    refine a_cons ⟨_, rfl, ?_⟩ (a_cons ⟨_, rfl, ?_⟩ (fun x hx => absurd hx t13))
    ·intro w57 H58
     try dsimp only at H58
     refine s_load (.slice qa ((ats j (stK 40 (v5 X))).1.length) ca) ag_117 rfl (H58.blk_at (i := 4) rfl) rfl rfl ?_
     refine ⟨Row 147 4 (.slice qa ((ats j (stK 40 (v5 X))).1.length) ca) ((ats j (stK 40 (v5 X))).1.length) (((ats j (stK 40 (v5 X))).1).flatMap attrCell) :: blk r (.cells #[.pointer (pa b), .int .i64 ((ats j (stK 40 (v5 X))).2.e)] 164 (0, 0)) :: SrcA b bs pj :: blk bk16 (.cells #[.int .i64 ((stB 4 X).1 : Int), .int .i64 (tmN (stN (v1 X)).1), .int .i64 (tmN (stN (v2 X)).1), .string ((stT (v3 X)).1), .slice qa ((ats j (stK 40 (v5 X))).1.length) ca] 119 (0, 0)) :: F, ?_, H58⟩
     change FReg _ _ _ _ _ #[true, true, true, false, false, false, false, false] _ _
     refine f_all (rs := [3]) t5 t13 ?_
     refine a_cons ⟨_, rfl, ?_⟩ (fun x hx => absurd hx t13)
     intro w59 H60
     try dsimp only at H60
     have H61 : St W w59 (_ :: _ :: _ :: _ :: _ :: F) := (H60.mv [4, 2, 2, 4, 4])
     refine s_call [.pointer (pa r)] pl_130 rfl rfl (ev_attr r b bs pj ((ats j (stK 40 (v5 X))).2) hRj hpj t0  H61) ?_
     rintro _ w65 ⟨rfl, q62, hR63, hp64, H66⟩
     have H67 : St W w65 (_ :: _ :: _ :: _ :: _ :: F) := (H66.mv [4, 4, 3, 3, 4])
     refine ⟨blk r (.cells #[.pointer (pa b), .int .i64 ((stA ((ats j (stK 40 (v5 X))).2)).2.e)] 164 (0, 0)) :: SrcA b bs q62 :: Row 147 4 (.slice qa ((ats j (stK 40 (v5 X))).1.length) ca) ((ats j (stK 40 (v5 X))).1.length) (((ats j (stK 40 (v5 X))).1).flatMap attrCell) :: blk bk16 (.cells #[.int .i64 ((stB 4 X).1 : Int), .int .i64 (tmN (stN (v1 X)).1), .int .i64 (tmN (stN (v2 X)).1), .string ((stT (v3 X)).1), .slice qa ((ats j (stK 40 (v5 X))).1.length) ca] 119 (0, 0)) :: F, ?_, H67⟩
     change FReg _ _ _ _ _ #[true, true, true, true, false, false, false, false] _ _
     refine f_all (rs := [4]) t5 t13 ?_
     refine a_cons ⟨_, rfl, ?_⟩ (fun x hx => absurd hx t13)
     intro w68 H69
     try dsimp only at H69
     refine s_buildSlice H69 4 1 (cs := #[.string ((stA ((ats j (stK 40 (v5 X))).2)).1.name.v), .int .i64 ((stA ((ats j (stK 40 (v5 X))).2)).1.kind.v), .int .i64 ((stA ((ats j (stK 40 (v5 X))).2)).1.n.v), .string ((stA ((ats j (stK 40 (v5 X))).2)).1.s.v)]) #[.string ByteArray.empty, .int .i64 0, .int .i64 0, .string ByteArray.empty] el_117 ze_147 t9 t9 t5 rfl ?_; intro bk70 w71 H72
     have H73 : St W w71 (_ :: _ :: _ :: _ :: _ :: _ :: F) := (H72.mv [5, 5, 5, 5, 4, 5])
     refine ⟨blk bk70 (.cells #[.string ((stA ((ats j (stK 40 (v5 X))).2)).1.name.v), .int .i64 ((stA ((ats j (stK 40 (v5 X))).2)).1.kind.v), .int .i64 ((stA ((ats j (stK 40 (v5 X))).2)).1.n.v), .string ((stA ((ats j (stK 40 (v5 X))).2)).1.s.v)] 147 (0, 0)) :: blk r (.cells #[.pointer (pa b), .int .i64 ((stA ((ats j (stK 40 (v5 X))).2)).2.e)] 164 (0, 0)) :: SrcA b bs q62 :: Row 147 4 (.slice qa ((ats j (stK 40 (v5 X))).1.length) ca) ((ats j (stK 40 (v5 X))).1.length) (((ats j (stK 40 (v5 X))).1).flatMap attrCell) :: blk bk16 (.cells #[.int .i64 ((stB 4 X).1 : Int), .int .i64 (tmN (stN (v1 X)).1), .int .i64 (tmN (stN (v2 X)).1), .string ((stT (v3 X)).1), .slice qa ((ats j (stK 40 (v5 X))).1.length) ca] 119 (0, 0)) :: F, ?_, H73⟩
     change FReg _ _ _ _ _ #[true, true, true, true, true, false, false, false] _ _
     refine f_all (rs := [5]) t5 t13 ?_
     refine a_cons ⟨_, rfl, ?_⟩ (fun x hx => absurd hx t13)
     intro w74 H75
     try dsimp only at H75
     refine s_append H75 4 rfl rfl rfl (rd_blk (H75.blk_at (i := 1) rfl) rfl (nbl rfl) t15) ap_117 t9 t12 t0 (n' := (ats j (stK 40 (v5 X))).1.length + 1) (xs' := ((ats j (stK 40 (v5 X))).1 ++ [(stA (ats j (stK 40 (v5 X))).2).1]).flatMap attrCell) t0 t52 rfl ?_; intro vv76 w77 H78 hn79
     obtain ⟨pp80, cc81, rfl⟩ := Row.slice H78 (i := 4) rfl
     refine ⟨blk bk70 (.cells #[.string ((stA ((ats j (stK 40 (v5 X))).2)).1.name.v), .int .i64 ((stA ((ats j (stK 40 (v5 X))).2)).1.kind.v), .int .i64 ((stA ((ats j (stK 40 (v5 X))).2)).1.n.v), .string ((stA ((ats j (stK 40 (v5 X))).2)).1.s.v)] 147 (0, 0)) :: blk r (.cells #[.pointer (pa b), .int .i64 ((stA ((ats j (stK 40 (v5 X))).2)).2.e)] 164 (0, 0)) :: SrcA b bs q62 :: Row 147 4 (.slice pp80 ((ats j (stK 40 (v5 X))).1.length + 1) cc81) ((ats j (stK 40 (v5 X))).1.length + 1) (((ats j (stK 40 (v5 X))).1 ++ [(stA (ats j (stK 40 (v5 X))).2).1]).flatMap attrCell) :: blk bk16 (.cells #[.int .i64 ((stB 4 X).1 : Int), .int .i64 (tmN (stN (v1 X)).1), .int .i64 (tmN (stN (v2 X)).1), .string ((stT (v3 X)).1), .slice qa ((ats j (stK 40 (v5 X))).1.length) ca] 119 (0, 0)) :: F, ?_, H78⟩
     change FReg _ _ _ _ _ #[true, true, true, true, true, true, false, false] _ _
     refine Fv 6 rfl (fun t_ w hw => x_fieldAddr 119 3 4 4 117 rfl fi_119_3 rfl w) ?_
     refine f_all (rs := [7]) t5 t13 ?_
     refine a_cons ⟨_, rfl, ?_⟩ (fun x hx => absurd hx t13)
     intro w82 H83
     try dsimp only at H83
     refine s_store H83 5 (.slice pp80 ((ats j (stK 40 (v5 X))).1.length + 1) cc81) rfl rfl rfl sz_117 rfl (nbl rfl) rfl (cs' := #[.int .i64 ((stB 4 X).1 : Int), .int .i64 (tmN (stN (v1 X)).1), .int .i64 (tmN (stN (v2 X)).1), .string ((stT (v3 X)).1), .slice pp80 ((ats j (stK 40 (v5 X))).1.length + 1) cc81]) rfl ?_; intro w84 H85
     refine ⟨blk bk70 (.cells #[.string ((stA ((ats j (stK 40 (v5 X))).2)).1.name.v), .int .i64 ((stA ((ats j (stK 40 (v5 X))).2)).1.kind.v), .int .i64 ((stA ((ats j (stK 40 (v5 X))).2)).1.n.v), .string ((stA ((ats j (stK 40 (v5 X))).2)).1.s.v)] 147 (0, 0)) :: blk r (.cells #[.pointer (pa b), .int .i64 ((stA ((ats j (stK 40 (v5 X))).2)).2.e)] 164 (0, 0)) :: SrcA b bs q62 :: Row 147 4 (.slice pp80 ((ats j (stK 40 (v5 X))).1.length + 1) cc81) ((ats j (stK 40 (v5 X))).1.length + 1) (((ats j (stK 40 (v5 X))).1 ++ [(stA (ats j (stK 40 (v5 X))).2).1]).flatMap attrCell) :: blk bk16 (.cells #[.int .i64 ((stB 4 X).1 : Int), .int .i64 (tmN (stN (v1 X)).1), .int .i64 (tmN (stN (v2 X)).1), .string ((stT (v3 X)).1), .slice pp80 ((ats j (stK 40 (v5 X))).1.length + 1) cc81] 119 (0, 0)) :: F, ?_, H85⟩
     change FReg _ _ _ _ _ #[true, true, true, true, true, true, true, true] _ _
     refine f_done t5 ?_
     intro w86 H87
     refine g_inBlock (g_region (rc (s_add ((j : Int) + 1) rfl rfl (wi64 t0) rfl (Mv (.int .i64 ((j : Int) + 1)) (r_nil ?_)))))
     have H88 : St W w86 (_ :: _ :: _ :: _ :: _ :: F) := (H87.mv [5, 4, 4, 5, 105])
     have H89 : St W w86 (Row 147 4 (.slice pp80 ((ats (j + 1) (stK 40 (v5 X))).1.length) cc81) ((ats (j + 1) (stK 40 (v5 X))).1.length) (((ats (j + 1) (stK 40 (v5 X))).1).flatMap attrCell) :: blk r (.cells #[.pointer (pa b), .int .i64 ((ats (j + 1) (stK 40 (v5 X))).2.e)] 164 (0, 0)) :: SrcA b bs q62 :: blk bk16 (.cells #[.int .i64 ((stB 4 X).1 : Int), .int .i64 (tmN (stN (v1 X)).1), .int .i64 (tmN (stN (v2 X)).1), .string ((stT (v3 X)).1), .slice pp80 ((ats (j + 1) (stK 40 (v5 X))).1.length) cc81] 119 (0, 0)) :: blk bk1 (.cells #[.int .i64 0, .int .i64 0, .int .i64 0, .string ByteArray.empty, .slice none 0 0] 119 (0, 0)) :: F) := by rw [ats_yes hc55, List.length_append]; exact H88
     exact nx53 (j + 1, q62, pp80, cc81) _ _ ⟨t0, (by rw [ats_yes hc55]; exact hR63), hp64, H89⟩ t7 t1
    intro w90 H91
    try dsimp only at H91
    have H92 : St W w90 (_ :: _ :: _ :: _ :: _ :: F) := (H91.mv [4, 2, 2, 4, 4])
    refine s_call [.pointer (pa r)] pl_130 rfl rfl (ev_attr r b bs pj ((ats j (stK 40 (v5 X))).2) hRj hpj t0  H92) ?_
    rintro _ w96 ⟨rfl, q93, hR94, hp95, H97⟩
    have H98 : St W w96 (_ :: _ :: _ :: _ :: _ :: F) := (H97.mv [4, 4, 3, 3, 4])
    refine ⟨blk r (.cells #[.pointer (pa b), .int .i64 ((stA ((ats j (stK 40 (v5 X))).2)).2.e)] 164 (0, 0)) :: SrcA b bs q93 :: Row 147 4 (.slice qa ((ats j (stK 40 (v5 X))).1.length) ca) ((ats j (stK 40 (v5 X))).1.length) (((ats j (stK 40 (v5 X))).1).flatMap attrCell) :: blk bk16 (.cells #[.int .i64 ((stB 4 X).1 : Int), .int .i64 (tmN (stN (v1 X)).1), .int .i64 (tmN (stN (v2 X)).1), .string ((stT (v3 X)).1), .slice qa ((ats j (stK 40 (v5 X))).1.length) ca] 119 (0, 0)) :: F, ?_, H98⟩
    change FReg _ _ _ _ _ #[true, false, true, true, false, false, false, false] _ _
    refine f_all (rs := [1, 4]) t5 t13 ?_
    refine a_cons ⟨_, rfl, ?_⟩ (a_cons ⟨_, rfl, ?_⟩ (fun x hx => absurd hx t13))
    ·intro w99 H100
     try dsimp only at H100
     refine s_load (.slice qa ((ats j (stK 40 (v5 X))).1.length) ca) ag_117 rfl (H100.blk_at (i := 4) rfl) rfl rfl ?_
     refine ⟨blk r (.cells #[.pointer (pa b), .int .i64 ((stA ((ats j (stK 40 (v5 X))).2)).2.e)] 164 (0, 0)) :: SrcA b bs q93 :: Row 147 4 (.slice qa ((ats j (stK 40 (v5 X))).1.length) ca) ((ats j (stK 40 (v5 X))).1.length) (((ats j (stK 40 (v5 X))).1).flatMap attrCell) :: blk bk16 (.cells #[.int .i64 ((stB 4 X).1 : Int), .int .i64 (tmN (stN (v1 X)).1), .int .i64 (tmN (stN (v2 X)).1), .string ((stT (v3 X)).1), .slice qa ((ats j (stK 40 (v5 X))).1.length) ca] 119 (0, 0)) :: F, ?_, H100⟩
     change FReg _ _ _ _ _ #[true, true, true, true, false, false, false, false] _ _
     refine f_all (rs := [4]) t5 t13 ?_
     refine a_cons ⟨_, rfl, ?_⟩ (fun x hx => absurd hx t13)
     intro w101 H102
     try dsimp only at H102
     refine s_buildSlice H102 4 1 (cs := #[.string ((stA ((ats j (stK 40 (v5 X))).2)).1.name.v), .int .i64 ((stA ((ats j (stK 40 (v5 X))).2)).1.kind.v), .int .i64 ((stA ((ats j (stK 40 (v5 X))).2)).1.n.v), .string ((stA ((ats j (stK 40 (v5 X))).2)).1.s.v)]) #[.string ByteArray.empty, .int .i64 0, .int .i64 0, .string ByteArray.empty] el_117 ze_147 t9 t9 t5 rfl ?_; intro bk103 w104 H105
     have H106 : St W w104 (_ :: _ :: _ :: _ :: _ :: _ :: F) := (H105.mv [5, 5, 5, 5, 4, 5])
     refine ⟨blk bk103 (.cells #[.string ((stA ((ats j (stK 40 (v5 X))).2)).1.name.v), .int .i64 ((stA ((ats j (stK 40 (v5 X))).2)).1.kind.v), .int .i64 ((stA ((ats j (stK 40 (v5 X))).2)).1.n.v), .string ((stA ((ats j (stK 40 (v5 X))).2)).1.s.v)] 147 (0, 0)) :: blk r (.cells #[.pointer (pa b), .int .i64 ((stA ((ats j (stK 40 (v5 X))).2)).2.e)] 164 (0, 0)) :: SrcA b bs q93 :: Row 147 4 (.slice qa ((ats j (stK 40 (v5 X))).1.length) ca) ((ats j (stK 40 (v5 X))).1.length) (((ats j (stK 40 (v5 X))).1).flatMap attrCell) :: blk bk16 (.cells #[.int .i64 ((stB 4 X).1 : Int), .int .i64 (tmN (stN (v1 X)).1), .int .i64 (tmN (stN (v2 X)).1), .string ((stT (v3 X)).1), .slice qa ((ats j (stK 40 (v5 X))).1.length) ca] 119 (0, 0)) :: F, ?_, H106⟩
     change FReg _ _ _ _ _ #[true, true, true, true, true, false, false, false] _ _
     refine f_all (rs := [5]) t5 t13 ?_
     refine a_cons ⟨_, rfl, ?_⟩ (fun x hx => absurd hx t13)
     intro w107 H108
     try dsimp only at H108
     refine s_append H108 4 rfl rfl rfl (rd_blk (H108.blk_at (i := 1) rfl) rfl (nbl rfl) t15) ap_117 t9 t12 t0 (n' := (ats j (stK 40 (v5 X))).1.length + 1) (xs' := ((ats j (stK 40 (v5 X))).1 ++ [(stA (ats j (stK 40 (v5 X))).2).1]).flatMap attrCell) t0 t52 rfl ?_; intro vv109 w110 H111 hn112
     obtain ⟨pp113, cc114, rfl⟩ := Row.slice H111 (i := 4) rfl
     refine ⟨blk bk103 (.cells #[.string ((stA ((ats j (stK 40 (v5 X))).2)).1.name.v), .int .i64 ((stA ((ats j (stK 40 (v5 X))).2)).1.kind.v), .int .i64 ((stA ((ats j (stK 40 (v5 X))).2)).1.n.v), .string ((stA ((ats j (stK 40 (v5 X))).2)).1.s.v)] 147 (0, 0)) :: blk r (.cells #[.pointer (pa b), .int .i64 ((stA ((ats j (stK 40 (v5 X))).2)).2.e)] 164 (0, 0)) :: SrcA b bs q93 :: Row 147 4 (.slice pp113 ((ats j (stK 40 (v5 X))).1.length + 1) cc114) ((ats j (stK 40 (v5 X))).1.length + 1) (((ats j (stK 40 (v5 X))).1 ++ [(stA (ats j (stK 40 (v5 X))).2).1]).flatMap attrCell) :: blk bk16 (.cells #[.int .i64 ((stB 4 X).1 : Int), .int .i64 (tmN (stN (v1 X)).1), .int .i64 (tmN (stN (v2 X)).1), .string ((stT (v3 X)).1), .slice qa ((ats j (stK 40 (v5 X))).1.length) ca] 119 (0, 0)) :: F, ?_, H111⟩
     change FReg _ _ _ _ _ #[true, true, true, true, true, true, false, false] _ _
     refine Fv 6 rfl (fun t_ w hw => x_fieldAddr 119 3 4 4 117 rfl fi_119_3 rfl w) ?_
     refine f_all (rs := [7]) t5 t13 ?_
     refine a_cons ⟨_, rfl, ?_⟩ (fun x hx => absurd hx t13)
     intro w115 H116
     try dsimp only at H116
     refine s_store H116 5 (.slice pp113 ((ats j (stK 40 (v5 X))).1.length + 1) cc114) rfl rfl rfl sz_117 rfl (nbl rfl) rfl (cs' := #[.int .i64 ((stB 4 X).1 : Int), .int .i64 (tmN (stN (v1 X)).1), .int .i64 (tmN (stN (v2 X)).1), .string ((stT (v3 X)).1), .slice pp113 ((ats j (stK 40 (v5 X))).1.length + 1) cc114]) rfl ?_; intro w117 H118
     refine ⟨blk bk103 (.cells #[.string ((stA ((ats j (stK 40 (v5 X))).2)).1.name.v), .int .i64 ((stA ((ats j (stK 40 (v5 X))).2)).1.kind.v), .int .i64 ((stA ((ats j (stK 40 (v5 X))).2)).1.n.v), .string ((stA ((ats j (stK 40 (v5 X))).2)).1.s.v)] 147 (0, 0)) :: blk r (.cells #[.pointer (pa b), .int .i64 ((stA ((ats j (stK 40 (v5 X))).2)).2.e)] 164 (0, 0)) :: SrcA b bs q93 :: Row 147 4 (.slice pp113 ((ats j (stK 40 (v5 X))).1.length + 1) cc114) ((ats j (stK 40 (v5 X))).1.length + 1) (((ats j (stK 40 (v5 X))).1 ++ [(stA (ats j (stK 40 (v5 X))).2).1]).flatMap attrCell) :: blk bk16 (.cells #[.int .i64 ((stB 4 X).1 : Int), .int .i64 (tmN (stN (v1 X)).1), .int .i64 (tmN (stN (v2 X)).1), .string ((stT (v3 X)).1), .slice pp113 ((ats j (stK 40 (v5 X))).1.length + 1) cc114] 119 (0, 0)) :: F, ?_, H118⟩
     change FReg _ _ _ _ _ #[true, true, true, true, true, true, true, true] _ _
     refine f_done t5 ?_
     intro w119 H120
     refine g_inBlock (g_region (rc (s_add ((j : Int) + 1) rfl rfl (wi64 t0) rfl (Mv (.int .i64 ((j : Int) + 1)) (r_nil ?_)))))
     have H121 : St W w119 (_ :: _ :: _ :: _ :: _ :: F) := (H120.mv [5, 4, 4, 5, 105])
     have H122 : St W w119 (Row 147 4 (.slice pp113 ((ats (j + 1) (stK 40 (v5 X))).1.length) cc114) ((ats (j + 1) (stK 40 (v5 X))).1.length) (((ats (j + 1) (stK 40 (v5 X))).1).flatMap attrCell) :: blk r (.cells #[.pointer (pa b), .int .i64 ((ats (j + 1) (stK 40 (v5 X))).2.e)] 164 (0, 0)) :: SrcA b bs q93 :: blk bk16 (.cells #[.int .i64 ((stB 4 X).1 : Int), .int .i64 (tmN (stN (v1 X)).1), .int .i64 (tmN (stN (v2 X)).1), .string ((stT (v3 X)).1), .slice pp113 ((ats (j + 1) (stK 40 (v5 X))).1.length) cc114] 119 (0, 0)) :: blk bk1 (.cells #[.int .i64 0, .int .i64 0, .int .i64 0, .string ByteArray.empty, .slice none 0 0] 119 (0, 0)) :: F) := by rw [ats_yes hc55, List.length_append]; exact H121
     exact nx53 (j + 1, q93, pp113, cc114) _ _ ⟨t0, (by rw [ats_yes hc55]; exact hR94), hp95, H122⟩ t7 t1
    intro w123 H124
    try dsimp only at H124
    refine s_buildSlice H124 4 1 (cs := #[.string ((stA ((ats j (stK 40 (v5 X))).2)).1.name.v), .int .i64 ((stA ((ats j (stK 40 (v5 X))).2)).1.kind.v), .int .i64 ((stA ((ats j (stK 40 (v5 X))).2)).1.n.v), .string ((stA ((ats j (stK 40 (v5 X))).2)).1.s.v)]) #[.string ByteArray.empty, .int .i64 0, .int .i64 0, .string ByteArray.empty] el_117 ze_147 t9 t9 t5 rfl ?_; intro bk125 w126 H127
    have H128 : St W w126 (_ :: _ :: _ :: _ :: _ :: _ :: F) := (H127.mv [5, 5, 5, 5, 4, 5])
    refine ⟨blk bk125 (.cells #[.string ((stA ((ats j (stK 40 (v5 X))).2)).1.name.v), .int .i64 ((stA ((ats j (stK 40 (v5 X))).2)).1.kind.v), .int .i64 ((stA ((ats j (stK 40 (v5 X))).2)).1.n.v), .string ((stA ((ats j (stK 40 (v5 X))).2)).1.s.v)] 147 (0, 0)) :: blk r (.cells #[.pointer (pa b), .int .i64 ((stA ((ats j (stK 40 (v5 X))).2)).2.e)] 164 (0, 0)) :: SrcA b bs q93 :: Row 147 4 (.slice qa ((ats j (stK 40 (v5 X))).1.length) ca) ((ats j (stK 40 (v5 X))).1.length) (((ats j (stK 40 (v5 X))).1).flatMap attrCell) :: blk bk16 (.cells #[.int .i64 ((stB 4 X).1 : Int), .int .i64 (tmN (stN (v1 X)).1), .int .i64 (tmN (stN (v2 X)).1), .string ((stT (v3 X)).1), .slice qa ((ats j (stK 40 (v5 X))).1.length) ca] 119 (0, 0)) :: F, ?_, H128⟩
    change FReg _ _ _ _ _ #[true, false, true, true, true, false, false, false] _ _
    refine f_all (rs := [1]) t5 t13 ?_
    refine a_cons ⟨_, rfl, ?_⟩ (fun x hx => absurd hx t13)
    intro w129 H130
    try dsimp only at H130
    refine s_load (.slice qa ((ats j (stK 40 (v5 X))).1.length) ca) ag_117 rfl (H130.blk_at (i := 5) rfl) rfl rfl ?_
    refine ⟨blk bk125 (.cells #[.string ((stA ((ats j (stK 40 (v5 X))).2)).1.name.v), .int .i64 ((stA ((ats j (stK 40 (v5 X))).2)).1.kind.v), .int .i64 ((stA ((ats j (stK 40 (v5 X))).2)).1.n.v), .string ((stA ((ats j (stK 40 (v5 X))).2)).1.s.v)] 147 (0, 0)) :: blk r (.cells #[.pointer (pa b), .int .i64 ((stA ((ats j (stK 40 (v5 X))).2)).2.e)] 164 (0, 0)) :: SrcA b bs q93 :: Row 147 4 (.slice qa ((ats j (stK 40 (v5 X))).1.length) ca) ((ats j (stK 40 (v5 X))).1.length) (((ats j (stK 40 (v5 X))).1).flatMap attrCell) :: blk bk16 (.cells #[.int .i64 ((stB 4 X).1 : Int), .int .i64 (tmN (stN (v1 X)).1), .int .i64 (tmN (stN (v2 X)).1), .string ((stT (v3 X)).1), .slice qa ((ats j (stK 40 (v5 X))).1.length) ca] 119 (0, 0)) :: F, ?_, H130⟩
    change FReg _ _ _ _ _ #[true, true, true, true, true, false, false, false] _ _
    refine f_all (rs := [5]) t5 t13 ?_
    refine a_cons ⟨_, rfl, ?_⟩ (fun x hx => absurd hx t13)
    intro w131 H132
    try dsimp only at H132
    refine s_append H132 4 rfl rfl rfl (rd_blk (H132.blk_at (i := 1) rfl) rfl (nbl rfl) t15) ap_117 t9 t12 t0 (n' := (ats j (stK 40 (v5 X))).1.length + 1) (xs' := ((ats j (stK 40 (v5 X))).1 ++ [(stA (ats j (stK 40 (v5 X))).2).1]).flatMap attrCell) t0 t52 rfl ?_; intro vv133 w134 H135 hn136
    obtain ⟨pp137, cc138, rfl⟩ := Row.slice H135 (i := 4) rfl
    refine ⟨blk bk125 (.cells #[.string ((stA ((ats j (stK 40 (v5 X))).2)).1.name.v), .int .i64 ((stA ((ats j (stK 40 (v5 X))).2)).1.kind.v), .int .i64 ((stA ((ats j (stK 40 (v5 X))).2)).1.n.v), .string ((stA ((ats j (stK 40 (v5 X))).2)).1.s.v)] 147 (0, 0)) :: blk r (.cells #[.pointer (pa b), .int .i64 ((stA ((ats j (stK 40 (v5 X))).2)).2.e)] 164 (0, 0)) :: SrcA b bs q93 :: Row 147 4 (.slice pp137 ((ats j (stK 40 (v5 X))).1.length + 1) cc138) ((ats j (stK 40 (v5 X))).1.length + 1) (((ats j (stK 40 (v5 X))).1 ++ [(stA (ats j (stK 40 (v5 X))).2).1]).flatMap attrCell) :: blk bk16 (.cells #[.int .i64 ((stB 4 X).1 : Int), .int .i64 (tmN (stN (v1 X)).1), .int .i64 (tmN (stN (v2 X)).1), .string ((stT (v3 X)).1), .slice qa ((ats j (stK 40 (v5 X))).1.length) ca] 119 (0, 0)) :: F, ?_, H135⟩
    change FReg _ _ _ _ _ #[true, true, true, true, true, true, false, false] _ _
    refine Fv 6 rfl (fun t_ w hw => x_fieldAddr 119 3 4 4 117 rfl fi_119_3 rfl w) ?_
    refine f_all (rs := [7]) t5 t13 ?_
    refine a_cons ⟨_, rfl, ?_⟩ (fun x hx => absurd hx t13)
    intro w139 H140
    try dsimp only at H140
    refine s_store H140 5 (.slice pp137 ((ats j (stK 40 (v5 X))).1.length + 1) cc138) rfl rfl rfl sz_117 rfl (nbl rfl) rfl (cs' := #[.int .i64 ((stB 4 X).1 : Int), .int .i64 (tmN (stN (v1 X)).1), .int .i64 (tmN (stN (v2 X)).1), .string ((stT (v3 X)).1), .slice pp137 ((ats j (stK 40 (v5 X))).1.length + 1) cc138]) rfl ?_; intro w141 H142
    refine ⟨blk bk125 (.cells #[.string ((stA ((ats j (stK 40 (v5 X))).2)).1.name.v), .int .i64 ((stA ((ats j (stK 40 (v5 X))).2)).1.kind.v), .int .i64 ((stA ((ats j (stK 40 (v5 X))).2)).1.n.v), .string ((stA ((ats j (stK 40 (v5 X))).2)).1.s.v)] 147 (0, 0)) :: blk r (.cells #[.pointer (pa b), .int .i64 ((stA ((ats j (stK 40 (v5 X))).2)).2.e)] 164 (0, 0)) :: SrcA b bs q93 :: Row 147 4 (.slice pp137 ((ats j (stK 40 (v5 X))).1.length + 1) cc138) ((ats j (stK 40 (v5 X))).1.length + 1) (((ats j (stK 40 (v5 X))).1 ++ [(stA (ats j (stK 40 (v5 X))).2).1]).flatMap attrCell) :: blk bk16 (.cells #[.int .i64 ((stB 4 X).1 : Int), .int .i64 (tmN (stN (v1 X)).1), .int .i64 (tmN (stN (v2 X)).1), .string ((stT (v3 X)).1), .slice pp137 ((ats j (stK 40 (v5 X))).1.length + 1) cc138] 119 (0, 0)) :: F, ?_, H142⟩
    change FReg _ _ _ _ _ #[true, true, true, true, true, true, true, true] _ _
    refine f_done t5 ?_
    intro w143 H144
    refine g_inBlock (g_region (rc (s_add ((j : Int) + 1) rfl rfl (wi64 t0) rfl (Mv (.int .i64 ((j : Int) + 1)) (r_nil ?_)))))
    have H145 : St W w143 (_ :: _ :: _ :: _ :: _ :: F) := (H144.mv [5, 4, 4, 5, 105])
    have H146 : St W w143 (Row 147 4 (.slice pp137 ((ats (j + 1) (stK 40 (v5 X))).1.length) cc138) ((ats (j + 1) (stK 40 (v5 X))).1.length) (((ats (j + 1) (stK 40 (v5 X))).1).flatMap attrCell) :: blk r (.cells #[.pointer (pa b), .int .i64 ((ats (j + 1) (stK 40 (v5 X))).2.e)] 164 (0, 0)) :: SrcA b bs q93 :: blk bk16 (.cells #[.int .i64 ((stB 4 X).1 : Int), .int .i64 (tmN (stN (v1 X)).1), .int .i64 (tmN (stN (v2 X)).1), .string ((stT (v3 X)).1), .slice pp137 ((ats (j + 1) (stK 40 (v5 X))).1.length) cc138] 119 (0, 0)) :: blk bk1 (.cells #[.int .i64 0, .int .i64 0, .int .i64 0, .string ByteArray.empty, .slice none 0 0] 119 (0, 0)) :: F) := by rw [ats_yes hc55, List.length_append]; exact H145
    exact nx53 (j + 1, q93, pp137, cc138) _ _ ⟨t0, (by rw [ats_yes hc55]; exact hR94), hp95, H146⟩ t7 t1
   refine rc (s_neq true rfl rfl (nfalse hc55) rfl (r_nil (g_true rfl (g_exit t39 (g_seq (g_seq (g_region (Mv (.pointer (pa r)) (Nc (.pointer (pa r)) (Fa 1 fi_164_1 rfl (Lo (.int .i64 ((ats j (stK 40 (v5 X))).2.e)) ag_28 H52 1 (rc (s_eql false rfl rfl (dfalse t0) rfl (r_nil (g_false rfl (g_skip (g_seq (g_region (La [.int .i64 ((stB 4 X).1 : Int), .int .i64 (tmN (stN (v1 X)).1), .int .i64 (tmN (stN (v2 X)).1), .string ((stT (v3 X)).1), .slice qa ((ats j (stK 40 (v5 X))).1.length) ca] 5 ag_119 H52 3 (Sa H52 4 rfl #[.int .i64 ((stB 4 X).1 : Int), .int .i64 (tmN (stN (v1 X)).1), .int .i64 (tmN (stN (v2 X)).1), .string ((stT (v3 X)).1), .slice qa ((ats j (stK 40 (v5 X))).1.length) ca] 5 sz_119 #[.int .i64 ((stB 4 X).1 : Int), .int .i64 (tmN (stN (v1 X)).1), .int .i64 (tmN (stN (v2 X)).1), .string ((stT (v3 X)).1), .slice qa ((ats j (stK 40 (v5 X))).1.length) ca] (fun w147 H148 => r_nil ?_)))))))))))))))))))))
   refine g_ret' [.agg #[.int .i64 ((stB 4 X).1 : Int), .int .i64 (tmN (stN (v1 X)).1), .int .i64 (tmN (stN (v2 X)).1), .string ((stT (v3 X)).1), .slice qa ((ats j (stK 40 (v5 X))).1.length) ca]] Tryz.func117 Tryz.results117 ⟨(res_cellN rfl ag_119 (H148.blk_at (i := 4) rfl) (nbl rfl) rfl), trivial⟩ ?_
   have H149 : St W w147 (_ :: _ :: F) := (H148.mv [2, 2, 102, 102, 102])
   have hv7 : (v7 X).e = (ats j (stK 40 (v5 X))).2.e := by have hh := v7_at (X := X) (j := j) hjn (by rw [h6]; exact hc55); rw [h6] at hh; exact hh
   have hC : evC tmN X = (ats j (stK 40 (v5 X))).2.e := by rw [evC_no (by rw [hv7]; exact hc55), hv7]
   exact .inr ⟨by rw [hC]; exact hc55, _, _, _, _, _, _, _, pj, rfl, by rw [hC]; exact H149⟩
  refine rc (s_lss false rfl rfl (dfalse hc54) rfl (r_nil (g_seq (g_false rfl (g_exit t39 (g_seq (g_seq (g_region (Mv (.pointer (pa r)) (Nc (.pointer (pa r)) (Fa 1 fi_164_1 rfl (Lo (.int .i64 ((ats j (stK 40 (v5 X))).2.e)) ag_28 H52 1 ?_))))))))))))
  by_cases hc150 : (ats j (stK 40 (v5 X))).2.e = 0
  ·refine rc (s_eql true rfl rfl (dtrue hc150) rfl (r_nil (g_true rfl (g_region (Mv (.pointer (pa r)) ?_)))))
   have hL : (ats j (stK 40 (v5 X))) = ats (vn X) (v6 X) := by rw [h6, show j = vn X from (by omega : j = (stB 4 (v4 X)).1)]
   have hat : (evS tmN X).attrs = (ats j (stK 40 (v5 X))).1 := by rw [hL]; rfl
   have H151 : St W w51 (Row 147 4 (.slice qa ((evS tmN X).attrs.length) ca) ((evS tmN X).attrs.length) (((evS tmN X).attrs).flatMap attrCell) :: blk r (.cells #[.pointer (pa b), .int .i64 ((ats j (stK 40 (v5 X))).2.e)] 164 (0, 0)) :: SrcA b bs pj :: blk bk16 (.cells #[.int .i64 ((evS tmN X).src.v), .int .i64 ((evS tmN X).seq.v), .int .i64 ((evS tmN X).time.v), .string ((evS tmN X).typ.v), .slice qa ((evS tmN X).attrs.length) ca] 119 (0, 0)) :: blk bk1 (.cells #[.int .i64 0, .int .i64 0, .int .i64 0, .string ByteArray.empty, .slice none 0 0] 119 (0, 0)) :: F) := by rw [evS_src, evS_seq tm_ok, evS_time tm_ok, evS_typ hxl, hat]; exact H52
   have H152 : St W w51 (_ :: _ :: _ :: _ :: _ :: F) := Row.im H151 (i := 0) rfl
   refine La (evl (evS tmN X) qa ca) 5 ag_119 H152 3 (rc (s_call [.agg (evc (evS tmN X) qa ca)] pl_84 rfl rfl (event_Check (evS tmN X) (.slice qa ((evS tmN X).attrs.length) ca) (j := 0) rfl H152) ?_))
   rintro _ w153 ⟨rfl, H154⟩
   refine Nc (.pointer (pa r)) (Fa 1 fi_164_1 rfl (rc (s_store H154 1 (.int .i64 (evE (evS tmN X))) rfl rfl rfl sz_28 rfl (nbl rfl) rfl (cs' := #[.pointer (pa b), .int .i64 (evE (evS tmN X))]) rfl (fun w155 H156 => r_nil (g_seq (g_region (La (evl (evS tmN X) qa ca) 5 ag_119 H156 3 (Sa H156 4 rfl (evc (evS tmN X) qa ca) 5 sz_119 (evc (evS tmN X) qa ca) (fun w157 H158 => r_nil ?_)))))))))
   refine g_ret' [.agg (evc (evS tmN X) qa ca)] Tryz.func117 Tryz.results117 ⟨(res_cellN rfl ag_119 (H158.blk_at (i := 4) rfl) (nbl rfl) rfl), trivial⟩ ?_
   have H159 : St W w157 (_ :: _ :: _ :: F) := (H158.mv [2, 2, 2, 103, 103])
   have h70 : (v7 X).e = 0 := by show (ats (vn X) (v6 X)).2.e = 0; rw [← hL]; exact hc150
   have hC : evC tmN X = evE (evS tmN X) := evC_yes h70
   rcases Decidable.em (evC tmN X = 0) with h0 | h0
   ·exact .inl ⟨h0, _, _, pj, rfl, by show _ = (ats (vn X) (v6 X)).2.R; rw [← hL]; exact hRj, hpj, by have hx := H159; rw [← hC, h0] at hx; exact hx⟩
   exact .inr ⟨h0, _, _, _, _, _, _, _, pj, rfl, by rw [hC]; exact H159.drop 0 rfl⟩
  refine rc (s_eql false rfl rfl (dfalse hc150) rfl (r_nil (g_false rfl (g_skip (g_seq (g_region (La [.int .i64 ((stB 4 X).1 : Int), .int .i64 (tmN (stN (v1 X)).1), .int .i64 (tmN (stN (v2 X)).1), .string ((stT (v3 X)).1), .slice qa ((ats j (stK 40 (v5 X))).1.length) ca] 5 ag_119 H52 3 (Sa H52 4 rfl #[.int .i64 ((stB 4 X).1 : Int), .int .i64 (tmN (stN (v1 X)).1), .int .i64 (tmN (stN (v2 X)).1), .string ((stT (v3 X)).1), .slice qa ((ats j (stK 40 (v5 X))).1.length) ca] 5 sz_119 #[.int .i64 ((stB 4 X).1 : Int), .int .i64 (tmN (stN (v1 X)).1), .int .i64 (tmN (stN (v2 X)).1), .string ((stT (v3 X)).1), .slice qa ((ats j (stK 40 (v5 X))).1.length) ca] (fun w160 H161 => r_nil ?_)))))))))
  refine g_ret' [.agg #[.int .i64 ((stB 4 X).1 : Int), .int .i64 (tmN (stN (v1 X)).1), .int .i64 (tmN (stN (v2 X)).1), .string ((stT (v3 X)).1), .slice qa ((ats j (stK 40 (v5 X))).1.length) ca]] Tryz.func117 Tryz.results117 ⟨(res_cellN rfl ag_119 (H161.blk_at (i := 4) rfl) (nbl rfl) rfl), trivial⟩ ?_
  have H162 : St W w160 (_ :: _ :: F) := (H161.mv [2, 2, 102, 102, 102])
  have hv7 : (v7 X).e = (ats j (stK 40 (v5 X))).2.e := by have hh := v7_at (X := X) (j := j) hjn (by rw [h6]; exact hc150); rw [h6] at hh; exact hh
  have hC : evC tmN X = (ats j (stK 40 (v5 X))).2.e := by rw [evC_no (by rw [hv7]; exact hc150), hv7]
  exact .inr ⟨by rw [hC]; exact hc150, _, _, _, _, _, _, _, pj, rfl, by rw [hC]; exact H162⟩
 refine rc (s_gtr false rfl rfl (dfalse hc43) rfl (r_nil (g_false rfl (g_skip (g_seq (g_seq (g_region (Mv (.int .i64 ((stB 4 (v4 X)).1 : Int)) (Mv (.int .i64 0) (r_nil (g_block ?_)))))))))))
 have H163 : St W w41 (_ :: _ :: _ :: _ :: F) := (H42.mv [3, 3, 3, 3])
 have h6 : v6 X = (v5 X) := by
  have hh : ¬ 8 < (stB 4 (v4 X)).1 := by omega
  show (if 8 < vn X then stK 40 (v5 X) else v5 X) = _
  exact if_neg hh
 have H164 := Row.nil_intro H163 147 4
 have H165 : St W w41 (_ :: _ :: _ :: _ :: _ :: F) := (H164.mv [4, 4, 4, 4, 4])
 refine g_loop_inv (fun ((j, pj, qa, ca) : Nat × Nat × (Option Addr) × Nat) => [(0, .pointer (pa r)), (2, .pointer (pa bk1)), (3, .pointer (pa bk16)), (23, .int .i64 ((stB 4 (v4 X)).1 : Int)), (24, .int .i64 (j : Int))]) (fun (j, pj, qa, ca) w => (j ≤ (stB 4 (v4 X)).1) ∧ (remB bs pj = (ats j (v5 X)).2.R) ∧ (pj ≤ 8 * bs.length) ∧ St W w (Row 147 4 (.slice qa ((ats j (v5 X)).1.length) ca) ((ats j (v5 X)).1.length) (((ats j (v5 X)).1).flatMap attrCell) :: blk r (.cells #[.pointer (pa b), .int .i64 ((ats j (v5 X)).2.e)] 164 (0, 0)) :: SrcA b bs pj :: blk bk16 (.cells #[.int .i64 ((stB 4 X).1 : Int), .int .i64 (tmN (stN (v1 X)).1), .int .i64 (tmN (stN (v2 X)).1), .string ((stT (v3 X)).1), .slice qa ((ats j (v5 X)).1.length) ca] 119 (0, 0)) :: blk bk1 (.cells #[.int .i64 0, .int .i64 0, .int .i64 0, .string ByteArray.empty, .slice none 0 0] 119 (0, 0)) :: F)) (fun (j, pj, qa, ca) => (stB 4 (v4 X)).1 - j) (0, q38, none, 0) ?_ ?_ ?_
 ·exact t1
 ·exact ⟨t0, hR39, hp40, H165⟩
 rintro ⟨j, pj, qa, ca⟩ ρ166 w167 ⟨hjn, hRj, hpj, H168⟩ nx169
 change Ends _ _ (upds ρ166 [(0, .pointer (pa r)), (2, .pointer (pa bk1)), (3, .pointer (pa bk16)), (23, .int .i64 ((stB 4 (v4 X)).1 : Int)), (24, .int .i64 (j : Int))]) w167
 have hln := ats_le (X := (v5 X)) j
 have hvn : (stB 4 (v4 X)).1 < 16 := stB_lt (k := 4)
 refine g_seq (g_region ?_)
 by_cases hc170 : (j : Int) < ((stB 4 (v4 X)).1 : Int)
 ·refine rc (s_lss true rfl rfl (dtrue hc170) rfl (r_nil (g_seq (g_true rfl (g_skip (g_seq (g_block (g_seq (g_seq (g_region (Mv (.pointer (pa r)) (Nc (.pointer (pa r)) (Fa 1 fi_164_1 rfl (Lo (.int .i64 ((ats j (v5 X)).2.e)) ag_28 H168 1 ?_))))))))))))))
  by_cases hc171 : (ats j (v5 X)).2.e = 0
  ·refine rc (s_neq false rfl rfl (ntrue hc171) rfl (r_nil (g_false rfl (g_skip ?_))))
   have H172 : St W w167 (_ :: _ :: _ :: _ :: _ :: F) := (H168.mv [3, 3, 3, 3, 4])
   refine g_mix (fun t_ w => St W w (blk bk1 (.cells #[.int .i64 0, .int .i64 0, .int .i64 0, .string ByteArray.empty, .slice none 0 0] 119 (0, 0)) :: t_)) (Row 147 4 (.slice qa ((ats j (v5 X)).1.length) ca) ((ats j (v5 X)).1.length) (((ats j (v5 X)).1).flatMap attrCell) :: blk r (.cells #[.pointer (pa b), .int .i64 ((ats j (v5 X)).2.e)] 164 (0, 0)) :: SrcA b bs pj :: blk bk16 (.cells #[.int .i64 ((stB 4 X).1 : Int), .int .i64 (tmN (stN (v1 X)).1), .int .i64 (tmN (stN (v2 X)).1), .string ((stT (v3 X)).1), .slice qa ((ats j (v5 X)).1.length) ca] 119 (0, 0)) :: F) mixed 8 rfl H172.drew ?_
   refine Fv 0 rfl (fun t_ w hw => x_fieldAddr 119 3 4 4 117 rfl fi_119_3 rfl w) (Fv 2 rfl (fun _ w _ => x_move (.pointer (pa r)) rfl w) ?_)
   refine f_all (rs := [1, 3]) t5 t13 ?_
   refine a_cons ⟨_, rfl, ?_⟩ (a_cons ⟨_, rfl, ?_⟩ (fun x hx => absurd hx t13))
   ·intro w173 H174
    try dsimp only at H174
    refine s_load (.slice qa ((ats j (v5 X)).1.length) ca) ag_117 rfl (H174.blk_at (i := 4) rfl) rfl rfl ?_
    refine ⟨Row 147 4 (.slice qa ((ats j (v5 X)).1.length) ca) ((ats j (v5 X)).1.length) (((ats j (v5 X)).1).flatMap attrCell) :: blk r (.cells #[.pointer (pa b), .int .i64 ((ats j (v5 X)).2.e)] 164 (0, 0)) :: SrcA b bs pj :: blk bk16 (.cells #[.int .i64 ((stB 4 X).1 : Int), .int .i64 (tmN (stN (v1 X)).1), .int .i64 (tmN (stN (v2 X)).1), .string ((stT (v3 X)).1), .slice qa ((ats j (v5 X)).1.length) ca] 119 (0, 0)) :: F, ?_, H174⟩
    change FReg _ _ _ _ _ #[true, true, true, false, false, false, false, false] _ _
    refine f_all (rs := [3]) t5 t13 ?_
    refine a_cons ⟨_, rfl, ?_⟩ (fun x hx => absurd hx t13)
    intro w175 H176
    try dsimp only at H176
    have H177 : St W w175 (_ :: _ :: _ :: _ :: _ :: F) := (H176.mv [4, 2, 2, 4, 4])
    refine s_call [.pointer (pa r)] pl_130 rfl rfl (ev_attr r b bs pj ((ats j (v5 X)).2) hRj hpj t0  H177) ?_
    rintro _ w181 ⟨rfl, q178, hR179, hp180, H182⟩
    have H183 : St W w181 (_ :: _ :: _ :: _ :: _ :: F) := (H182.mv [4, 4, 3, 3, 4])
    refine ⟨blk r (.cells #[.pointer (pa b), .int .i64 ((stA ((ats j (v5 X)).2)).2.e)] 164 (0, 0)) :: SrcA b bs q178 :: Row 147 4 (.slice qa ((ats j (v5 X)).1.length) ca) ((ats j (v5 X)).1.length) (((ats j (v5 X)).1).flatMap attrCell) :: blk bk16 (.cells #[.int .i64 ((stB 4 X).1 : Int), .int .i64 (tmN (stN (v1 X)).1), .int .i64 (tmN (stN (v2 X)).1), .string ((stT (v3 X)).1), .slice qa ((ats j (v5 X)).1.length) ca] 119 (0, 0)) :: F, ?_, H183⟩
    change FReg _ _ _ _ _ #[true, true, true, true, false, false, false, false] _ _
    refine f_all (rs := [4]) t5 t13 ?_
    refine a_cons ⟨_, rfl, ?_⟩ (fun x hx => absurd hx t13)
    intro w184 H185
    try dsimp only at H185
    refine s_buildSlice H185 4 1 (cs := #[.string ((stA ((ats j (v5 X)).2)).1.name.v), .int .i64 ((stA ((ats j (v5 X)).2)).1.kind.v), .int .i64 ((stA ((ats j (v5 X)).2)).1.n.v), .string ((stA ((ats j (v5 X)).2)).1.s.v)]) #[.string ByteArray.empty, .int .i64 0, .int .i64 0, .string ByteArray.empty] el_117 ze_147 t9 t9 t5 rfl ?_; intro bk186 w187 H188
    have H189 : St W w187 (_ :: _ :: _ :: _ :: _ :: _ :: F) := (H188.mv [5, 5, 5, 5, 4, 5])
    refine ⟨blk bk186 (.cells #[.string ((stA ((ats j (v5 X)).2)).1.name.v), .int .i64 ((stA ((ats j (v5 X)).2)).1.kind.v), .int .i64 ((stA ((ats j (v5 X)).2)).1.n.v), .string ((stA ((ats j (v5 X)).2)).1.s.v)] 147 (0, 0)) :: blk r (.cells #[.pointer (pa b), .int .i64 ((stA ((ats j (v5 X)).2)).2.e)] 164 (0, 0)) :: SrcA b bs q178 :: Row 147 4 (.slice qa ((ats j (v5 X)).1.length) ca) ((ats j (v5 X)).1.length) (((ats j (v5 X)).1).flatMap attrCell) :: blk bk16 (.cells #[.int .i64 ((stB 4 X).1 : Int), .int .i64 (tmN (stN (v1 X)).1), .int .i64 (tmN (stN (v2 X)).1), .string ((stT (v3 X)).1), .slice qa ((ats j (v5 X)).1.length) ca] 119 (0, 0)) :: F, ?_, H189⟩
    change FReg _ _ _ _ _ #[true, true, true, true, true, false, false, false] _ _
    refine f_all (rs := [5]) t5 t13 ?_
    refine a_cons ⟨_, rfl, ?_⟩ (fun x hx => absurd hx t13)
    intro w190 H191
    try dsimp only at H191
    refine s_append H191 4 rfl rfl rfl (rd_blk (H191.blk_at (i := 1) rfl) rfl (nbl rfl) t15) ap_117 t9 t12 t0 (n' := (ats j (v5 X)).1.length + 1) (xs' := ((ats j (v5 X)).1 ++ [(stA (ats j (v5 X)).2).1]).flatMap attrCell) t0 t52 rfl ?_; intro vv192 w193 H194 hn195
    obtain ⟨pp196, cc197, rfl⟩ := Row.slice H194 (i := 4) rfl
    refine ⟨blk bk186 (.cells #[.string ((stA ((ats j (v5 X)).2)).1.name.v), .int .i64 ((stA ((ats j (v5 X)).2)).1.kind.v), .int .i64 ((stA ((ats j (v5 X)).2)).1.n.v), .string ((stA ((ats j (v5 X)).2)).1.s.v)] 147 (0, 0)) :: blk r (.cells #[.pointer (pa b), .int .i64 ((stA ((ats j (v5 X)).2)).2.e)] 164 (0, 0)) :: SrcA b bs q178 :: Row 147 4 (.slice pp196 ((ats j (v5 X)).1.length + 1) cc197) ((ats j (v5 X)).1.length + 1) (((ats j (v5 X)).1 ++ [(stA (ats j (v5 X)).2).1]).flatMap attrCell) :: blk bk16 (.cells #[.int .i64 ((stB 4 X).1 : Int), .int .i64 (tmN (stN (v1 X)).1), .int .i64 (tmN (stN (v2 X)).1), .string ((stT (v3 X)).1), .slice qa ((ats j (v5 X)).1.length) ca] 119 (0, 0)) :: F, ?_, H194⟩
    change FReg _ _ _ _ _ #[true, true, true, true, true, true, false, false] _ _
    refine Fv 6 rfl (fun t_ w hw => x_fieldAddr 119 3 4 4 117 rfl fi_119_3 rfl w) ?_
    refine f_all (rs := [7]) t5 t13 ?_
    refine a_cons ⟨_, rfl, ?_⟩ (fun x hx => absurd hx t13)
    intro w198 H199
    try dsimp only at H199
    refine s_store H199 5 (.slice pp196 ((ats j (v5 X)).1.length + 1) cc197) rfl rfl rfl sz_117 rfl (nbl rfl) rfl (cs' := #[.int .i64 ((stB 4 X).1 : Int), .int .i64 (tmN (stN (v1 X)).1), .int .i64 (tmN (stN (v2 X)).1), .string ((stT (v3 X)).1), .slice pp196 ((ats j (v5 X)).1.length + 1) cc197]) rfl ?_; intro w200 H201
    refine ⟨blk bk186 (.cells #[.string ((stA ((ats j (v5 X)).2)).1.name.v), .int .i64 ((stA ((ats j (v5 X)).2)).1.kind.v), .int .i64 ((stA ((ats j (v5 X)).2)).1.n.v), .string ((stA ((ats j (v5 X)).2)).1.s.v)] 147 (0, 0)) :: blk r (.cells #[.pointer (pa b), .int .i64 ((stA ((ats j (v5 X)).2)).2.e)] 164 (0, 0)) :: SrcA b bs q178 :: Row 147 4 (.slice pp196 ((ats j (v5 X)).1.length + 1) cc197) ((ats j (v5 X)).1.length + 1) (((ats j (v5 X)).1 ++ [(stA (ats j (v5 X)).2).1]).flatMap attrCell) :: blk bk16 (.cells #[.int .i64 ((stB 4 X).1 : Int), .int .i64 (tmN (stN (v1 X)).1), .int .i64 (tmN (stN (v2 X)).1), .string ((stT (v3 X)).1), .slice pp196 ((ats j (v5 X)).1.length + 1) cc197] 119 (0, 0)) :: F, ?_, H201⟩
    change FReg _ _ _ _ _ #[true, true, true, true, true, true, true, true] _ _
    refine f_done t5 ?_
    intro w202 H203
    refine g_inBlock (g_region (rc (s_add ((j : Int) + 1) rfl rfl (wi64 t0) rfl (Mv (.int .i64 ((j : Int) + 1)) (r_nil ?_)))))
    have H204 : St W w202 (_ :: _ :: _ :: _ :: _ :: F) := (H203.mv [5, 4, 4, 5, 105])
    have H205 : St W w202 (Row 147 4 (.slice pp196 ((ats (j + 1) (v5 X)).1.length) cc197) ((ats (j + 1) (v5 X)).1.length) (((ats (j + 1) (v5 X)).1).flatMap attrCell) :: blk r (.cells #[.pointer (pa b), .int .i64 ((ats (j + 1) (v5 X)).2.e)] 164 (0, 0)) :: SrcA b bs q178 :: blk bk16 (.cells #[.int .i64 ((stB 4 X).1 : Int), .int .i64 (tmN (stN (v1 X)).1), .int .i64 (tmN (stN (v2 X)).1), .string ((stT (v3 X)).1), .slice pp196 ((ats (j + 1) (v5 X)).1.length) cc197] 119 (0, 0)) :: blk bk1 (.cells #[.int .i64 0, .int .i64 0, .int .i64 0, .string ByteArray.empty, .slice none 0 0] 119 (0, 0)) :: F) := by rw [ats_yes hc171, List.length_append]; exact H204
    exact nx169 (j + 1, q178, pp196, cc197) _ _ ⟨t0, (by rw [ats_yes hc171]; exact hR179), hp180, H205⟩ t7 t1
   intro w206 H207
   try dsimp only at H207
   have H208 : St W w206 (_ :: _ :: _ :: _ :: _ :: F) := (H207.mv [4, 2, 2, 4, 4])
   refine s_call [.pointer (pa r)] pl_130 rfl rfl (ev_attr r b bs pj ((ats j (v5 X)).2) hRj hpj t0  H208) ?_
   rintro _ w212 ⟨rfl, q209, hR210, hp211, H213⟩
   have H214 : St W w212 (_ :: _ :: _ :: _ :: _ :: F) := (H213.mv [4, 4, 3, 3, 4])
   refine ⟨blk r (.cells #[.pointer (pa b), .int .i64 ((stA ((ats j (v5 X)).2)).2.e)] 164 (0, 0)) :: SrcA b bs q209 :: Row 147 4 (.slice qa ((ats j (v5 X)).1.length) ca) ((ats j (v5 X)).1.length) (((ats j (v5 X)).1).flatMap attrCell) :: blk bk16 (.cells #[.int .i64 ((stB 4 X).1 : Int), .int .i64 (tmN (stN (v1 X)).1), .int .i64 (tmN (stN (v2 X)).1), .string ((stT (v3 X)).1), .slice qa ((ats j (v5 X)).1.length) ca] 119 (0, 0)) :: F, ?_, H214⟩
   change FReg _ _ _ _ _ #[true, false, true, true, false, false, false, false] _ _
   refine f_all (rs := [1, 4]) t5 t13 ?_
   refine a_cons ⟨_, rfl, ?_⟩ (a_cons ⟨_, rfl, ?_⟩ (fun x hx => absurd hx t13))
   ·intro w215 H216
    try dsimp only at H216
    refine s_load (.slice qa ((ats j (v5 X)).1.length) ca) ag_117 rfl (H216.blk_at (i := 4) rfl) rfl rfl ?_
    refine ⟨blk r (.cells #[.pointer (pa b), .int .i64 ((stA ((ats j (v5 X)).2)).2.e)] 164 (0, 0)) :: SrcA b bs q209 :: Row 147 4 (.slice qa ((ats j (v5 X)).1.length) ca) ((ats j (v5 X)).1.length) (((ats j (v5 X)).1).flatMap attrCell) :: blk bk16 (.cells #[.int .i64 ((stB 4 X).1 : Int), .int .i64 (tmN (stN (v1 X)).1), .int .i64 (tmN (stN (v2 X)).1), .string ((stT (v3 X)).1), .slice qa ((ats j (v5 X)).1.length) ca] 119 (0, 0)) :: F, ?_, H216⟩
    change FReg _ _ _ _ _ #[true, true, true, true, false, false, false, false] _ _
    refine f_all (rs := [4]) t5 t13 ?_
    refine a_cons ⟨_, rfl, ?_⟩ (fun x hx => absurd hx t13)
    intro w217 H218
    try dsimp only at H218
    refine s_buildSlice H218 4 1 (cs := #[.string ((stA ((ats j (v5 X)).2)).1.name.v), .int .i64 ((stA ((ats j (v5 X)).2)).1.kind.v), .int .i64 ((stA ((ats j (v5 X)).2)).1.n.v), .string ((stA ((ats j (v5 X)).2)).1.s.v)]) #[.string ByteArray.empty, .int .i64 0, .int .i64 0, .string ByteArray.empty] el_117 ze_147 t9 t9 t5 rfl ?_; intro bk219 w220 H221
    have H222 : St W w220 (_ :: _ :: _ :: _ :: _ :: _ :: F) := (H221.mv [5, 5, 5, 5, 4, 5])
    refine ⟨blk bk219 (.cells #[.string ((stA ((ats j (v5 X)).2)).1.name.v), .int .i64 ((stA ((ats j (v5 X)).2)).1.kind.v), .int .i64 ((stA ((ats j (v5 X)).2)).1.n.v), .string ((stA ((ats j (v5 X)).2)).1.s.v)] 147 (0, 0)) :: blk r (.cells #[.pointer (pa b), .int .i64 ((stA ((ats j (v5 X)).2)).2.e)] 164 (0, 0)) :: SrcA b bs q209 :: Row 147 4 (.slice qa ((ats j (v5 X)).1.length) ca) ((ats j (v5 X)).1.length) (((ats j (v5 X)).1).flatMap attrCell) :: blk bk16 (.cells #[.int .i64 ((stB 4 X).1 : Int), .int .i64 (tmN (stN (v1 X)).1), .int .i64 (tmN (stN (v2 X)).1), .string ((stT (v3 X)).1), .slice qa ((ats j (v5 X)).1.length) ca] 119 (0, 0)) :: F, ?_, H222⟩
    change FReg _ _ _ _ _ #[true, true, true, true, true, false, false, false] _ _
    refine f_all (rs := [5]) t5 t13 ?_
    refine a_cons ⟨_, rfl, ?_⟩ (fun x hx => absurd hx t13)
    intro w223 H224
    try dsimp only at H224
    refine s_append H224 4 rfl rfl rfl (rd_blk (H224.blk_at (i := 1) rfl) rfl (nbl rfl) t15) ap_117 t9 t12 t0 (n' := (ats j (v5 X)).1.length + 1) (xs' := ((ats j (v5 X)).1 ++ [(stA (ats j (v5 X)).2).1]).flatMap attrCell) t0 t52 rfl ?_; intro vv225 w226 H227 hn228
    obtain ⟨pp229, cc230, rfl⟩ := Row.slice H227 (i := 4) rfl
    refine ⟨blk bk219 (.cells #[.string ((stA ((ats j (v5 X)).2)).1.name.v), .int .i64 ((stA ((ats j (v5 X)).2)).1.kind.v), .int .i64 ((stA ((ats j (v5 X)).2)).1.n.v), .string ((stA ((ats j (v5 X)).2)).1.s.v)] 147 (0, 0)) :: blk r (.cells #[.pointer (pa b), .int .i64 ((stA ((ats j (v5 X)).2)).2.e)] 164 (0, 0)) :: SrcA b bs q209 :: Row 147 4 (.slice pp229 ((ats j (v5 X)).1.length + 1) cc230) ((ats j (v5 X)).1.length + 1) (((ats j (v5 X)).1 ++ [(stA (ats j (v5 X)).2).1]).flatMap attrCell) :: blk bk16 (.cells #[.int .i64 ((stB 4 X).1 : Int), .int .i64 (tmN (stN (v1 X)).1), .int .i64 (tmN (stN (v2 X)).1), .string ((stT (v3 X)).1), .slice qa ((ats j (v5 X)).1.length) ca] 119 (0, 0)) :: F, ?_, H227⟩
    change FReg _ _ _ _ _ #[true, true, true, true, true, true, false, false] _ _
    refine Fv 6 rfl (fun t_ w hw => x_fieldAddr 119 3 4 4 117 rfl fi_119_3 rfl w) ?_
    refine f_all (rs := [7]) t5 t13 ?_
    refine a_cons ⟨_, rfl, ?_⟩ (fun x hx => absurd hx t13)
    intro w231 H232
    try dsimp only at H232
    refine s_store H232 5 (.slice pp229 ((ats j (v5 X)).1.length + 1) cc230) rfl rfl rfl sz_117 rfl (nbl rfl) rfl (cs' := #[.int .i64 ((stB 4 X).1 : Int), .int .i64 (tmN (stN (v1 X)).1), .int .i64 (tmN (stN (v2 X)).1), .string ((stT (v3 X)).1), .slice pp229 ((ats j (v5 X)).1.length + 1) cc230]) rfl ?_; intro w233 H234
    refine ⟨blk bk219 (.cells #[.string ((stA ((ats j (v5 X)).2)).1.name.v), .int .i64 ((stA ((ats j (v5 X)).2)).1.kind.v), .int .i64 ((stA ((ats j (v5 X)).2)).1.n.v), .string ((stA ((ats j (v5 X)).2)).1.s.v)] 147 (0, 0)) :: blk r (.cells #[.pointer (pa b), .int .i64 ((stA ((ats j (v5 X)).2)).2.e)] 164 (0, 0)) :: SrcA b bs q209 :: Row 147 4 (.slice pp229 ((ats j (v5 X)).1.length + 1) cc230) ((ats j (v5 X)).1.length + 1) (((ats j (v5 X)).1 ++ [(stA (ats j (v5 X)).2).1]).flatMap attrCell) :: blk bk16 (.cells #[.int .i64 ((stB 4 X).1 : Int), .int .i64 (tmN (stN (v1 X)).1), .int .i64 (tmN (stN (v2 X)).1), .string ((stT (v3 X)).1), .slice pp229 ((ats j (v5 X)).1.length + 1) cc230] 119 (0, 0)) :: F, ?_, H234⟩
    change FReg _ _ _ _ _ #[true, true, true, true, true, true, true, true] _ _
    refine f_done t5 ?_
    intro w235 H236
    refine g_inBlock (g_region (rc (s_add ((j : Int) + 1) rfl rfl (wi64 t0) rfl (Mv (.int .i64 ((j : Int) + 1)) (r_nil ?_)))))
    have H237 : St W w235 (_ :: _ :: _ :: _ :: _ :: F) := (H236.mv [5, 4, 4, 5, 105])
    have H238 : St W w235 (Row 147 4 (.slice pp229 ((ats (j + 1) (v5 X)).1.length) cc230) ((ats (j + 1) (v5 X)).1.length) (((ats (j + 1) (v5 X)).1).flatMap attrCell) :: blk r (.cells #[.pointer (pa b), .int .i64 ((ats (j + 1) (v5 X)).2.e)] 164 (0, 0)) :: SrcA b bs q209 :: blk bk16 (.cells #[.int .i64 ((stB 4 X).1 : Int), .int .i64 (tmN (stN (v1 X)).1), .int .i64 (tmN (stN (v2 X)).1), .string ((stT (v3 X)).1), .slice pp229 ((ats (j + 1) (v5 X)).1.length) cc230] 119 (0, 0)) :: blk bk1 (.cells #[.int .i64 0, .int .i64 0, .int .i64 0, .string ByteArray.empty, .slice none 0 0] 119 (0, 0)) :: F) := by rw [ats_yes hc171, List.length_append]; exact H237
    exact nx169 (j + 1, q209, pp229, cc230) _ _ ⟨t0, (by rw [ats_yes hc171]; exact hR210), hp211, H238⟩ t7 t1
   intro w239 H240
   try dsimp only at H240
   refine s_buildSlice H240 4 1 (cs := #[.string ((stA ((ats j (v5 X)).2)).1.name.v), .int .i64 ((stA ((ats j (v5 X)).2)).1.kind.v), .int .i64 ((stA ((ats j (v5 X)).2)).1.n.v), .string ((stA ((ats j (v5 X)).2)).1.s.v)]) #[.string ByteArray.empty, .int .i64 0, .int .i64 0, .string ByteArray.empty] el_117 ze_147 t9 t9 t5 rfl ?_; intro bk241 w242 H243
   have H244 : St W w242 (_ :: _ :: _ :: _ :: _ :: _ :: F) := (H243.mv [5, 5, 5, 5, 4, 5])
   refine ⟨blk bk241 (.cells #[.string ((stA ((ats j (v5 X)).2)).1.name.v), .int .i64 ((stA ((ats j (v5 X)).2)).1.kind.v), .int .i64 ((stA ((ats j (v5 X)).2)).1.n.v), .string ((stA ((ats j (v5 X)).2)).1.s.v)] 147 (0, 0)) :: blk r (.cells #[.pointer (pa b), .int .i64 ((stA ((ats j (v5 X)).2)).2.e)] 164 (0, 0)) :: SrcA b bs q209 :: Row 147 4 (.slice qa ((ats j (v5 X)).1.length) ca) ((ats j (v5 X)).1.length) (((ats j (v5 X)).1).flatMap attrCell) :: blk bk16 (.cells #[.int .i64 ((stB 4 X).1 : Int), .int .i64 (tmN (stN (v1 X)).1), .int .i64 (tmN (stN (v2 X)).1), .string ((stT (v3 X)).1), .slice qa ((ats j (v5 X)).1.length) ca] 119 (0, 0)) :: F, ?_, H244⟩
   change FReg _ _ _ _ _ #[true, false, true, true, true, false, false, false] _ _
   refine f_all (rs := [1]) t5 t13 ?_
   refine a_cons ⟨_, rfl, ?_⟩ (fun x hx => absurd hx t13)
   intro w245 H246
   try dsimp only at H246
   refine s_load (.slice qa ((ats j (v5 X)).1.length) ca) ag_117 rfl (H246.blk_at (i := 5) rfl) rfl rfl ?_
   refine ⟨blk bk241 (.cells #[.string ((stA ((ats j (v5 X)).2)).1.name.v), .int .i64 ((stA ((ats j (v5 X)).2)).1.kind.v), .int .i64 ((stA ((ats j (v5 X)).2)).1.n.v), .string ((stA ((ats j (v5 X)).2)).1.s.v)] 147 (0, 0)) :: blk r (.cells #[.pointer (pa b), .int .i64 ((stA ((ats j (v5 X)).2)).2.e)] 164 (0, 0)) :: SrcA b bs q209 :: Row 147 4 (.slice qa ((ats j (v5 X)).1.length) ca) ((ats j (v5 X)).1.length) (((ats j (v5 X)).1).flatMap attrCell) :: blk bk16 (.cells #[.int .i64 ((stB 4 X).1 : Int), .int .i64 (tmN (stN (v1 X)).1), .int .i64 (tmN (stN (v2 X)).1), .string ((stT (v3 X)).1), .slice qa ((ats j (v5 X)).1.length) ca] 119 (0, 0)) :: F, ?_, H246⟩
   change FReg _ _ _ _ _ #[true, true, true, true, true, false, false, false] _ _
   refine f_all (rs := [5]) t5 t13 ?_
   refine a_cons ⟨_, rfl, ?_⟩ (fun x hx => absurd hx t13)
   intro w247 H248
   try dsimp only at H248
   refine s_append H248 4 rfl rfl rfl (rd_blk (H248.blk_at (i := 1) rfl) rfl (nbl rfl) t15) ap_117 t9 t12 t0 (n' := (ats j (v5 X)).1.length + 1) (xs' := ((ats j (v5 X)).1 ++ [(stA (ats j (v5 X)).2).1]).flatMap attrCell) t0 t52 rfl ?_; intro vv249 w250 H251 hn252
   obtain ⟨pp253, cc254, rfl⟩ := Row.slice H251 (i := 4) rfl
   refine ⟨blk bk241 (.cells #[.string ((stA ((ats j (v5 X)).2)).1.name.v), .int .i64 ((stA ((ats j (v5 X)).2)).1.kind.v), .int .i64 ((stA ((ats j (v5 X)).2)).1.n.v), .string ((stA ((ats j (v5 X)).2)).1.s.v)] 147 (0, 0)) :: blk r (.cells #[.pointer (pa b), .int .i64 ((stA ((ats j (v5 X)).2)).2.e)] 164 (0, 0)) :: SrcA b bs q209 :: Row 147 4 (.slice pp253 ((ats j (v5 X)).1.length + 1) cc254) ((ats j (v5 X)).1.length + 1) (((ats j (v5 X)).1 ++ [(stA (ats j (v5 X)).2).1]).flatMap attrCell) :: blk bk16 (.cells #[.int .i64 ((stB 4 X).1 : Int), .int .i64 (tmN (stN (v1 X)).1), .int .i64 (tmN (stN (v2 X)).1), .string ((stT (v3 X)).1), .slice qa ((ats j (v5 X)).1.length) ca] 119 (0, 0)) :: F, ?_, H251⟩
   change FReg _ _ _ _ _ #[true, true, true, true, true, true, false, false] _ _
   refine Fv 6 rfl (fun t_ w hw => x_fieldAddr 119 3 4 4 117 rfl fi_119_3 rfl w) ?_
   refine f_all (rs := [7]) t5 t13 ?_
   refine a_cons ⟨_, rfl, ?_⟩ (fun x hx => absurd hx t13)
   intro w255 H256
   try dsimp only at H256
   refine s_store H256 5 (.slice pp253 ((ats j (v5 X)).1.length + 1) cc254) rfl rfl rfl sz_117 rfl (nbl rfl) rfl (cs' := #[.int .i64 ((stB 4 X).1 : Int), .int .i64 (tmN (stN (v1 X)).1), .int .i64 (tmN (stN (v2 X)).1), .string ((stT (v3 X)).1), .slice pp253 ((ats j (v5 X)).1.length + 1) cc254]) rfl ?_; intro w257 H258
   refine ⟨blk bk241 (.cells #[.string ((stA ((ats j (v5 X)).2)).1.name.v), .int .i64 ((stA ((ats j (v5 X)).2)).1.kind.v), .int .i64 ((stA ((ats j (v5 X)).2)).1.n.v), .string ((stA ((ats j (v5 X)).2)).1.s.v)] 147 (0, 0)) :: blk r (.cells #[.pointer (pa b), .int .i64 ((stA ((ats j (v5 X)).2)).2.e)] 164 (0, 0)) :: SrcA b bs q209 :: Row 147 4 (.slice pp253 ((ats j (v5 X)).1.length + 1) cc254) ((ats j (v5 X)).1.length + 1) (((ats j (v5 X)).1 ++ [(stA (ats j (v5 X)).2).1]).flatMap attrCell) :: blk bk16 (.cells #[.int .i64 ((stB 4 X).1 : Int), .int .i64 (tmN (stN (v1 X)).1), .int .i64 (tmN (stN (v2 X)).1), .string ((stT (v3 X)).1), .slice pp253 ((ats j (v5 X)).1.length + 1) cc254] 119 (0, 0)) :: F, ?_, H258⟩
   change FReg _ _ _ _ _ #[true, true, true, true, true, true, true, true] _ _
   refine f_done t5 ?_
   intro w259 H260
   refine g_inBlock (g_region (rc (s_add ((j : Int) + 1) rfl rfl (wi64 t0) rfl (Mv (.int .i64 ((j : Int) + 1)) (r_nil ?_)))))
   have H261 : St W w259 (_ :: _ :: _ :: _ :: _ :: F) := (H260.mv [5, 4, 4, 5, 105])
   have H262 : St W w259 (Row 147 4 (.slice pp253 ((ats (j + 1) (v5 X)).1.length) cc254) ((ats (j + 1) (v5 X)).1.length) (((ats (j + 1) (v5 X)).1).flatMap attrCell) :: blk r (.cells #[.pointer (pa b), .int .i64 ((ats (j + 1) (v5 X)).2.e)] 164 (0, 0)) :: SrcA b bs q209 :: blk bk16 (.cells #[.int .i64 ((stB 4 X).1 : Int), .int .i64 (tmN (stN (v1 X)).1), .int .i64 (tmN (stN (v2 X)).1), .string ((stT (v3 X)).1), .slice pp253 ((ats (j + 1) (v5 X)).1.length) cc254] 119 (0, 0)) :: blk bk1 (.cells #[.int .i64 0, .int .i64 0, .int .i64 0, .string ByteArray.empty, .slice none 0 0] 119 (0, 0)) :: F) := by rw [ats_yes hc171, List.length_append]; exact H261
   exact nx169 (j + 1, q209, pp253, cc254) _ _ ⟨t0, (by rw [ats_yes hc171]; exact hR210), hp211, H262⟩ t7 t1
  refine rc (s_neq true rfl rfl (nfalse hc171) rfl (r_nil (g_true rfl (g_exit t39 (g_seq (g_seq (g_region (Mv (.pointer (pa r)) (Nc (.pointer (pa r)) (Fa 1 fi_164_1 rfl (Lo (.int .i64 ((ats j (v5 X)).2.e)) ag_28 H168 1 (rc (s_eql false rfl rfl (dfalse t0) rfl (r_nil (g_false rfl (g_skip (g_seq (g_region (La [.int .i64 ((stB 4 X).1 : Int), .int .i64 (tmN (stN (v1 X)).1), .int .i64 (tmN (stN (v2 X)).1), .string ((stT (v3 X)).1), .slice qa ((ats j (v5 X)).1.length) ca] 5 ag_119 H168 3 (Sa H168 4 rfl #[.int .i64 ((stB 4 X).1 : Int), .int .i64 (tmN (stN (v1 X)).1), .int .i64 (tmN (stN (v2 X)).1), .string ((stT (v3 X)).1), .slice qa ((ats j (v5 X)).1.length) ca] 5 sz_119 #[.int .i64 ((stB 4 X).1 : Int), .int .i64 (tmN (stN (v1 X)).1), .int .i64 (tmN (stN (v2 X)).1), .string ((stT (v3 X)).1), .slice qa ((ats j (v5 X)).1.length) ca] (fun w263 H264 => r_nil ?_)))))))))))))))))))))
  refine g_ret' [.agg #[.int .i64 ((stB 4 X).1 : Int), .int .i64 (tmN (stN (v1 X)).1), .int .i64 (tmN (stN (v2 X)).1), .string ((stT (v3 X)).1), .slice qa ((ats j (v5 X)).1.length) ca]] Tryz.func117 Tryz.results117 ⟨(res_cellN rfl ag_119 (H264.blk_at (i := 4) rfl) (nbl rfl) rfl), trivial⟩ ?_
  have H265 : St W w263 (_ :: _ :: F) := (H264.mv [2, 2, 102, 102, 102])
  have hv7 : (v7 X).e = (ats j (v5 X)).2.e := by have hh := v7_at (X := X) (j := j) hjn (by rw [h6]; exact hc171); rw [h6] at hh; exact hh
  have hC : evC tmN X = (ats j (v5 X)).2.e := by rw [evC_no (by rw [hv7]; exact hc171), hv7]
  exact .inr ⟨by rw [hC]; exact hc171, _, _, _, _, _, _, _, pj, rfl, by rw [hC]; exact H265⟩
 refine rc (s_lss false rfl rfl (dfalse hc170) rfl (r_nil (g_seq (g_false rfl (g_exit t39 (g_seq (g_seq (g_region (Mv (.pointer (pa r)) (Nc (.pointer (pa r)) (Fa 1 fi_164_1 rfl (Lo (.int .i64 ((ats j (v5 X)).2.e)) ag_28 H168 1 ?_))))))))))))
 by_cases hc266 : (ats j (v5 X)).2.e = 0
 ·refine rc (s_eql true rfl rfl (dtrue hc266) rfl (r_nil (g_true rfl (g_region (Mv (.pointer (pa r)) ?_)))))
  have hL : (ats j (v5 X)) = ats (vn X) (v6 X) := by rw [h6, show j = vn X from (by omega : j = (stB 4 (v4 X)).1)]
  have hat : (evS tmN X).attrs = (ats j (v5 X)).1 := by rw [hL]; rfl
  have H267 : St W w167 (Row 147 4 (.slice qa ((evS tmN X).attrs.length) ca) ((evS tmN X).attrs.length) (((evS tmN X).attrs).flatMap attrCell) :: blk r (.cells #[.pointer (pa b), .int .i64 ((ats j (v5 X)).2.e)] 164 (0, 0)) :: SrcA b bs pj :: blk bk16 (.cells #[.int .i64 ((evS tmN X).src.v), .int .i64 ((evS tmN X).seq.v), .int .i64 ((evS tmN X).time.v), .string ((evS tmN X).typ.v), .slice qa ((evS tmN X).attrs.length) ca] 119 (0, 0)) :: blk bk1 (.cells #[.int .i64 0, .int .i64 0, .int .i64 0, .string ByteArray.empty, .slice none 0 0] 119 (0, 0)) :: F) := by rw [evS_src, evS_seq tm_ok, evS_time tm_ok, evS_typ hxl, hat]; exact H168
  have H268 : St W w167 (_ :: _ :: _ :: _ :: _ :: F) := Row.im H267 (i := 0) rfl
  refine La (evl (evS tmN X) qa ca) 5 ag_119 H268 3 (rc (s_call [.agg (evc (evS tmN X) qa ca)] pl_84 rfl rfl (event_Check (evS tmN X) (.slice qa ((evS tmN X).attrs.length) ca) (j := 0) rfl H268) ?_))
  rintro _ w269 ⟨rfl, H270⟩
  refine Nc (.pointer (pa r)) (Fa 1 fi_164_1 rfl (rc (s_store H270 1 (.int .i64 (evE (evS tmN X))) rfl rfl rfl sz_28 rfl (nbl rfl) rfl (cs' := #[.pointer (pa b), .int .i64 (evE (evS tmN X))]) rfl (fun w271 H272 => r_nil (g_seq (g_region (La (evl (evS tmN X) qa ca) 5 ag_119 H272 3 (Sa H272 4 rfl (evc (evS tmN X) qa ca) 5 sz_119 (evc (evS tmN X) qa ca) (fun w273 H274 => r_nil ?_)))))))))
  refine g_ret' [.agg (evc (evS tmN X) qa ca)] Tryz.func117 Tryz.results117 ⟨(res_cellN rfl ag_119 (H274.blk_at (i := 4) rfl) (nbl rfl) rfl), trivial⟩ ?_
  have H275 : St W w273 (_ :: _ :: _ :: F) := (H274.mv [2, 2, 2, 103, 103])
  have h70 : (v7 X).e = 0 := by show (ats (vn X) (v6 X)).2.e = 0; rw [← hL]; exact hc266
  have hC : evC tmN X = evE (evS tmN X) := evC_yes h70
  rcases Decidable.em (evC tmN X = 0) with h0 | h0
  ·exact .inl ⟨h0, _, _, pj, rfl, by show _ = (ats (vn X) (v6 X)).2.R; rw [← hL]; exact hRj, hpj, by have hx := H275; rw [← hC, h0] at hx; exact hx⟩
  exact .inr ⟨h0, _, _, _, _, _, _, _, pj, rfl, by rw [hC]; exact H275.drop 0 rfl⟩
 refine rc (s_eql false rfl rfl (dfalse hc266) rfl (r_nil (g_false rfl (g_skip (g_seq (g_region (La [.int .i64 ((stB 4 X).1 : Int), .int .i64 (tmN (stN (v1 X)).1), .int .i64 (tmN (stN (v2 X)).1), .string ((stT (v3 X)).1), .slice qa ((ats j (v5 X)).1.length) ca] 5 ag_119 H168 3 (Sa H168 4 rfl #[.int .i64 ((stB 4 X).1 : Int), .int .i64 (tmN (stN (v1 X)).1), .int .i64 (tmN (stN (v2 X)).1), .string ((stT (v3 X)).1), .slice qa ((ats j (v5 X)).1.length) ca] 5 sz_119 #[.int .i64 ((stB 4 X).1 : Int), .int .i64 (tmN (stN (v1 X)).1), .int .i64 (tmN (stN (v2 X)).1), .string ((stT (v3 X)).1), .slice qa ((ats j (v5 X)).1.length) ca] (fun w276 H277 => r_nil ?_)))))))))
 refine g_ret' [.agg #[.int .i64 ((stB 4 X).1 : Int), .int .i64 (tmN (stN (v1 X)).1), .int .i64 (tmN (stN (v2 X)).1), .string ((stT (v3 X)).1), .slice qa ((ats j (v5 X)).1.length) ca]] Tryz.func117 Tryz.results117 ⟨(res_cellN rfl ag_119 (H277.blk_at (i := 4) rfl) (nbl rfl) rfl), trivial⟩ ?_
 have H278 : St W w276 (_ :: _ :: F) := (H277.mv [2, 2, 102, 102, 102])
 have hv7 : (v7 X).e = (ats j (v5 X)).2.e := by have hh := v7_at (X := X) (j := j) hjn (by rw [h6]; exact hc266); rw [h6] at hh; exact hh
 have hC : evC tmN X = (ats j (v5 X)).2.e := by rw [evC_no (by rw [hv7]; exact hc266), hv7]
 exact .inr ⟨by rw [hC]; exact hc266, _, _, _, _, _, _, _, pj, rfl, by rw [hC]; exact H278⟩
theorem event_Take (b : Nat) (bs : List UInt8) (p : Nat) (hp : p ≤ 8 * bs.length) (hb : bs.length ≤ 140737488355328) {i : Nat} (hi : F[i]? = some (SrcA b bs p)) (H : St W w F) : Calls Tryz.prog 103 #[.pointer (pa b)] w (Ret fun v w' => ∃ q n c p', v = .tuple #[.agg #[.int .i64 ((tkV (remB bs p)).src.v), .int .i64 ((tkV (remB bs p)).seq.v), .int .i64 ((tkV (remB bs p)).time.v), .string ((tkV (remB bs p)).typ.v), .slice q n c], .int .i64 (tkE (remB bs p))] ∧ n = (tkV (remB bs p)).attrs.length ∧ remB bs p' = tkR (remB bs p) ∧ p' ≤ 8 * bs.length ∧ St W w' (Attrs (.slice q n c) (tkV (remB bs p)).attrs :: F.set i (SrcA b bs p'))) := by
 have H0 := H.front hi
 refine calls_of_go (n := 39) Tryz.func103 rfl Tryz.ntmps103 rfl ?_
 refine g_seq (g_region (rc (s_alloc H0 119 ze_119 rfl (fun bk1 w2 H3 => Ag (.int .i64 0) (r_nil (g_seq (g_seq (g_region (Mv (.pointer (pa b)) (rc (s_call [.pointer (pa b), .int .i64 0] pl_76 rfl rfl (Src_Bits b bs p t4 t18 0  (i := 1) rfl H3) ?_)))))))))))
 rintro _ w4 ⟨rfl, H5⟩
 refine Mv (.tuple #[.int .u64 (srcU (remB bs p) 0 : Int), .int .i64 (srcE (remB bs p) 0)]) (Ex (.int .u64 (srcU (remB bs p) 0 : Int)) (Ex (.int .i64 (srcE (remB bs p) 0)) (Ag (.int .u64 (srcU (remB bs p) 0 : Int)) (Ag (.int .i64 (srcE (remB bs p) 0)) (r_nil (g_seq (g_region (Mv (.int .i64 (srcE (remB bs p) 0)) (rc (s_eql false rfl rfl (dfalse (by rw [srcE_0 t0 t0]; decide)) rfl (r_nil (g_false rfl (g_skip (g_seq (g_region ?_)))))))))))))))
 have hz : p + srcN (remB bs p) 0 = p := by rw [srcN_0 (srcE_0 t0 t0)]; rfl
 have H6 : St W w4 (blk bk1 (.cells #[.int .i64 0, .int .i64 0, .int .i64 0, .string ByteArray.empty, .slice none 0 0] 119 (0, 0)) :: SrcA b bs p :: (F.set i emp)) := by have hx := H5; rw [hz] at hx; exact hx
 refine Mv (.pointer (pa b)) (Nc (.pointer (pa b)) ?_)
 have H7 := H6.move 1 rfl
 obtain ⟨vv8, H9⟩ := St.open_ex H7
 have H10 := St.open_star H9
 obtain ⟨pp11, cc12, gA13, oA14, kA15, eA16, zA17, rfl, hn18, hp19, hx20, hs21, hml, H22⟩ := Im.open_ H10 (i := 1) rfl
 have H23 : St W w4 (_ :: _ :: _ :: _ :: (F.set i emp)) := H22
 refine La [.bool true, .slice pp11 bs.length cc12, .int .i64 ((p : Nat) : Int)] 3 ag_124 H23 1 (rc (s_alloc H23 124 ze_124 rfl (fun bk24 w25 H26 => Sa H26 0 rfl #[.bool true, .slice pp11 bs.length cc12, .int .i64 ((p : Nat) : Int)] 3 sz_124 #[.bool true, .slice pp11 bs.length cc12, .int .i64 ((p : Nat) : Int)] (fun w27 H28 => r_nil (g_seq (g_region ?_))))))
 have H29 := H28.dup (i := 3) rfl (Im_pers _ _ _ _)
 refine Mv (.pointer (pa b)) (rc (s_build (cs := #[.pointer (pa b), .int .i64 0]) t5 rfl (Bx H29 164 #[.pointer (pa b), .int .i64 0] (fun bk30 w31 H32 => Ag (.pointer (pa bk30)) (r_nil (g_seq (g_region (Mv (.pointer (pa bk30)) ?_))))))))
 have H33 : St W w31 (_ :: _ :: _ :: _ :: _ :: _ :: (F.set i emp)) := (H32.mv [6, 6, 4, 3, 4, 6, 106])
 have H34 : St W w31 (SrcA b bs p :: _ :: _ :: _ :: _ :: (F.set i emp)) := St.shut_ex (.slice pp11 bs.length cc12) (St.shut_star (ls := [_, _]) H33)
 have H35 : St W w31 (_ :: _ :: _ :: _ :: _ :: (F.set i emp)) := (H34.mv [4, 4, 4, 3, 4])
 have H36 : St W w31 (_ :: _ :: _ :: _ :: _ :: (F.set i emp)) := H35
 refine rc (s_call [.pointer (pa bk30)] pl_117 rfl rfl (ev_event bk30 b bs p (⟨0, remB bs p⟩ : RX) rfl t4 t0 H36) ?_)
 rintro _ w49 (⟨he40, pp42, cc43, q37, rfl, hR38, hp39, H41⟩ | ⟨he40, sx45, sx46, sx47, sx48, pp42, NN44, cc43, q37, rfl, H41⟩)
 ·refine rc (s_alloc H41 119 ze_119 rfl (fun bk50 w51 H52 => Sa H52 0 rfl (evc (evS tmN (⟨0, remB bs p⟩ : RX)) pp42 cc43) 5 sz_119 (evc (evS tmN (⟨0, remB bs p⟩ : RX)) pp42 cc43) (fun w53 H54 => r_nil (g_seq (g_seq (g_region (Mv (.pointer (pa bk30)) (Nc (.pointer (pa bk30)) (Fa 1 fi_164_1 rfl (Lo (.int .i64 0) ag_28 H54 2 (rc (s_neq false rfl rfl (ntrue t9) rfl (r_nil (g_false rfl (g_skip (g_seq (g_region (La (evl (evS tmN (⟨0, remB bs p⟩ : RX)) pp42 cc43) 5 ag_119 H54 0 (Sa H54 6 rfl (evc (evS tmN (⟨0, remB bs p⟩ : RX)) pp42 cc43) 5 sz_119 (evc (evS tmN (⟨0, remB bs p⟩ : RX)) pp42 cc43) (fun w55 H56 => Ag (.int .i64 0) (r_nil ?_)))))))))))))))))))))
  refine g_ret' [.agg (evc (evS tmN (⟨0, remB bs p⟩ : RX)) pp42 cc43), .int .i64 0] Tryz.func103 Tryz.results103 ⟨(res_cellN rfl ag_119 (H56.blk_at (i := 6) rfl) (nbl rfl) rfl), rfl, trivial⟩ ?_
  have hE : tkE (remB bs p) = 0 := he40
  have H57 : St W w55 (_ :: _ :: (F.set i emp)) := (H56.mv [1, 3, 102, 102, 102, 102, 102])
  have H58 : St W w55 (_ :: (Attrs (.slice pp42 ((evS tmN (⟨0, remB bs p⟩ : RX)).attrs.length) cc43) ((evS tmN (⟨0, remB bs p⟩ : RX)).attrs) :: F).set (i + 1) emp) := H57
  exact ⟨_, _, _, _, by rw [tkV_yes hE, hE]; rfl, by rw [tkV_yes hE], by rw [tkR_yes hE]; exact hR38, hp39, by rw [tkV_yes hE]; exact St.back (i := i + 1) t34 H58⟩
 refine rc (s_alloc H41 119 ze_119 rfl (fun bk59 w60 H61 => Sa H61 0 rfl #[.int .i64 sx45, .int .i64 sx46, .int .i64 sx47, .string sx48, .slice pp42 NN44 cc43] 5 sz_119 #[.int .i64 sx45, .int .i64 sx46, .int .i64 sx47, .string sx48, .slice pp42 NN44 cc43] (fun w62 H63 => r_nil (g_seq (g_seq (g_region (Mv (.pointer (pa bk30)) (Nc (.pointer (pa bk30)) (Fa 1 fi_164_1 rfl (Lo (.int .i64 (evC tmN (⟨0, remB bs p⟩ : RX))) ag_28 H63 1 (rc (s_neq true rfl rfl (nfalse t0) rfl (r_nil (g_true rfl (g_seq (g_region (Mv (.pointer (pa b)) (La [.bool true, .slice pp11 bs.length cc12, .int .i64 ((p : Nat) : Int)] 3 ag_124 H63 3 (Nc (.pointer (pa b)) ?_)))))))))))))))))))
 have H64 := H63.move 2 rfl
 obtain ⟨vv65, H66⟩ := St.open_ex H64
 have H67 := St.open_star H66
 obtain ⟨pp68, cc69, gA70, oA71, kA72, eA73, zA74, rfl, hn75, hp76, hx77, hs78, hml, H79⟩ := Im.open_ H67 (i := 1) rfl
 have H80 : St W w62 (_ :: _ :: _ :: _ :: _ :: _ :: _ :: _ :: (F.set i emp)) := H79
 refine Sa H80 1 rfl #[.bool true, .slice pp11 bs.length cc12, .int .i64 ((p : Nat) : Int)] 3 sz_124 #[.bool true, .slice pp11 bs.length cc12, .int .i64 ((p : Nat) : Int)] (fun w81 H82 => r_nil (g_seq ?_))
 refine g_mix (fun t_ w => St W w (imi (0 < bs.length) gA70 (.cells kA72 eA73 zA74) :: blk b (.cells #[.bool true, .slice pp11 bs.length cc12, .int .i64 ((p : Nat) : Int)] 124 (0, 0)) :: Im 1 (.slice pp68 bs.length cc69) bs.length (bs.flatMap u8c) :: blk bk59 (.cells #[.int .i64 sx45, .int .i64 sx46, .int .i64 sx47, .string sx48, .slice pp42 NN44 cc43] 119 (0, 0)) :: blk bk30 (.cells #[.pointer (pa b), .int .i64 (evC tmN (⟨0, remB bs p⟩ : RX))] 164 (0, 0)) :: blk bk24 (.cells #[.bool true, .slice pp11 bs.length cc12, .int .i64 ((p : Nat) : Int)] 124 (0, 0)) :: Im 1 (.slice pp11 bs.length cc12) bs.length (bs.flatMap u8c) :: t_)) (blk bk1 (.cells #[.int .i64 0, .int .i64 0, .int .i64 0, .string ByteArray.empty, .slice none 0 0] 119 (0, 0)) :: (F.set i emp)) mixed 7 rfl H82.drew ?_
 refine Fv 0 rfl (fun t_ w hw => x_build (cs := #[.int .i64 0, .int .i64 0, .int .i64 0, .string ByteArray.empty, .slice none 0 0]) t5 w) (Fv 1 rfl (fun _ w _ => x_move (.pointer (pa bk30)) rfl w) (Fv 2 rfl (fun t_ w hw => x_nilCheck (.pointer (pa bk30)) rfl ⟨_, rfl⟩ w) (Fv 3 rfl (fun t_ w hw => x_fieldAddr 164 1 1 1 28 rfl fi_164_1 rfl w) (Fv 4 rfl (fun t_ w hw => x_load (.int .i64 (evC tmN (⟨0, remB bs p⟩ : RX))) ag_28 rfl (hw.blk_at (i := 4) rfl) rfl) ?_))))
 refine f_all (rs := [5]) t5 t13 ?_
 refine a_cons ⟨_, rfl, ?_⟩ (fun x hx => absurd hx t13)
 intro w83 H84
 try dsimp only at H84
 refine s_storeAgg H84 7 #[.int .i64 0, .int .i64 0, .int .i64 0, .string ByteArray.empty, .slice none 0 0] 5 rfl rfl rfl sz_119 rfl t15 (nbl rfl) (fun o h1 h2 => by first | (simp; done) | (simp; omega)) (cs' := #[.int .i64 0, .int .i64 0, .int .i64 0, .string ByteArray.empty, .slice none 0 0]) rfl ?_; intro w85 H86
 refine ⟨blk bk1 (.cells #[.int .i64 0, .int .i64 0, .int .i64 0, .string ByteArray.empty, .slice none 0 0] 119 (0, 0)) :: (F.set i emp), ?_, H86⟩
 change FReg _ _ _ _ _ #[true, true, true, true, true, true, false] _ _
 refine Fv 6 rfl (fun t_ w hw => x_assign (.int .i64 (evC tmN (⟨0, remB bs p⟩ : RX))) rfl w) ?_
 refine f_done t5 ?_
 intro w87 H88
 refine g_ret' [.agg #[.int .i64 0, .int .i64 0, .int .i64 0, .string ByteArray.empty, .slice none 0 0], .int .i64 (evC tmN (⟨0, remB bs p⟩ : RX))] Tryz.func103 Tryz.results103 ⟨(res_cellN rfl ag_119 (H88.blk_at (i := 7) rfl) (nbl rfl) rfl), rfl, trivial⟩ ?_
 have H89 : St W w87 (_ :: _ :: _ :: _ :: _ :: _ :: _ :: (F.set i emp)) := (H88.mv [7, 6, 6, 6, 6, 7, 7, 107])
 have H90 : St W w87 (SrcA b bs p :: _ :: _ :: _ :: _ :: _ :: (F.set i emp)) := St.shut_ex (.slice pp11 bs.length cc12) (St.shut_star (ls := [_, _]) H89)
 have hE : ¬ tkE (remB bs p) = 0 := he40
 have H91 : St W w87 (Attrs (.slice none 0 0) [] :: SrcA b bs p :: Im 1 (.slice pp68 bs.length cc69) bs.length (bs.flatMap u8c) :: blk bk59 (.cells #[.int .i64 sx45, .int .i64 sx46, .int .i64 sx47, .string sx48, .slice pp42 NN44 cc43] 119 (0, 0)) :: blk bk30 (.cells #[.pointer (pa b), .int .i64 (evC tmN (⟨0, remB bs p⟩ : RX))] 164 (0, 0)) :: blk bk24 (.cells #[.bool true, .slice pp11 bs.length cc12, .int .i64 ((p : Nat) : Int)] 124 (0, 0)) :: blk bk1 (.cells #[.int .i64 0, .int .i64 0, .int .i64 0, .string ByteArray.empty, .slice none 0 0] 119 (0, 0)) :: (F.set i emp)) := Row.im (Row.nil_intro H90 147 4) (i := 0) rfl
 have H92 : St W w87 (_ :: _ :: (F.set i emp)) := (H91.mv [1, 102, 102, 102, 102, 102])
 have H93 : St W w87 (_ :: (Attrs (.slice none 0 0) [] :: F).set (i + 1) emp) := H92
 exact ⟨none, 0, 0, p, by rw [tkV_no hE]; rfl, by rw [tkV_no hE]; rfl, by rw [tkR_no hE], hp, by rw [tkV_no hE]; exact St.back (i := i + 1) t34 H93⟩
theorem match_Check (bs : List BoundD) (bv : Value) {ip : Nat} (hp : F[ip]? = some (Im 6 bv bs.length (bs.flatMap bndCell))) {iq : Nat} (hq : F[iq]? = some (bndsA bs)) (H : St W w F) : Calls Tryz.prog 48 #[.agg #[bv]] w (Ret fun v w' => v = .int .i64 (ptE bs) ∧ St W w' F) := by
 obtain ⟨pp1, cc2, rfl, hn3⟩ := Rd.shape (Im.rd H (i := ip) hp)
 have H4 := H.dup (i := ip + 0) t55 (Im_pers _ _ _ _)
 have H5 : St W w (_ :: F) := H4
 have H6 := H5.dup (i := iq + 1) t51 (bndsA_pers _)
 have H7 : St W w (_ :: _ :: F) := H6
 have hmlb := Im.len H7 (i := 1) rfl
 refine calls_of_go (n := 71) Tryz.func48 rfl Tryz.ntmps48 rfl ?_
 refine g_seq (g_region (Bx H7 24 #[.slice pp1 bs.length cc2] (fun bk8 w9 H10 => Ag (.int .i64 0) (r_nil (g_seq (g_region (Fa 0 fi_24_0 rfl (Lo (.slice pp1 bs.length cc2) ag_22 H10 0 (rc (s_len bs.length rfl ⟨_, un_22⟩ rfl (Ag (.int .i64 (bs.length : Int)) (r_nil (g_seq (g_seq (g_region (Mv (.int .i64 (bs.length : Int)) ?_))))))))))))))))
 by_cases hc11 : (12 : Int) < (bs.length : Int)
 ·refine rc (s_gtr true rfl rfl (dtrue hc11) rfl (r_nil (g_true rfl (g_seq (g_region (Ag (.int .i64 100) (r_nil (Gr [.int .i64 100] Tryz.func48 Tryz.results48 ?_))))))))
  have H12 : St W w9 F := (H10.mv [100, 100, 100])
  exact ⟨vint (ptE_long t0).symm, H12⟩
 refine rc (s_gtr false rfl rfl (dfalse hc11) rfl (r_nil (g_false rfl (g_skip (g_seq (g_region (rc (s_makeMap H10 rfl ?_)))))))); intro mp13 w14 H15
 have H16 : St W w14 (_ :: _ :: _ :: _ :: F) := H15
 refine Ag (.map (some mp13)) (r_nil (g_seq (g_seq (g_region (Fa 0 fi_24_0 rfl (Lo (.slice pp1 bs.length cc2) ag_22 H16 1 (rc (s_len bs.length rfl ⟨_, un_22⟩ rfl (Mv (.int .i64 0) (r_nil (g_block ?_)))))))))))
 obtain ⟨pA17, cA18, gA19, oA20, kA21, eA22, zA23, he29, hn24, hp25, hx26, hs27, hml, H28⟩ := Im.open_ H16 (i := 3) rfl
 obtain ⟨rfl, rfl⟩ : pp1 = pA17 ∧ cc2 = cA18 := by injection he29 with a_ b_ c_; exact ⟨a_, c_⟩
 have H30 : St W w14 (_ :: _ :: _ :: _ :: _ :: F) := H28
 refine g_loop_inv (fun (j : Nat) => [(1, .pointer (pa bk8)), (2, .int .i64 0), (3, .int .i64 (bs.length : Int)), (4, .map (some mp13)), (16, .slice pp1 bs.length cc2), (17, .int .i64 (bs.length : Int)), (18, .int .i64 (j : Int))]) (fun j w => (j ≤ bs.length) ∧ (∀ q, q < j → ptAt bs q = 0) ∧ St W w (imi (0 < bs.length) gA19 (.cells kA21 eA22 zA23) :: MapA mp13 (ents kID vB (setOf ((bs.take j).map idOf))) :: blk bk8 (.cells #[.slice pp1 bs.length cc2] 24 (0, 0)) :: bndsA bs :: Im 6 (.slice pp1 bs.length cc2) bs.length (bs.flatMap bndCell) :: F)) (fun j => bs.length - j) (0) ?_ ?_ ?_
 ·exact t1
 ·exact ⟨t0, (fun q hq => by omega), H30⟩
 rintro j ρ31 w32 ⟨hjn, hz, H33⟩ nx34
 change Ends _ _ (upds ρ31 [(1, .pointer (pa bk8)), (2, .int .i64 0), (3, .int .i64 (bs.length : Int)), (4, .map (some mp13)), (16, .slice pp1 bs.length cc2), (17, .int .i64 (bs.length : Int)), (18, .int .i64 (j : Int))]) w32
 refine g_seq (g_region ?_)
 by_cases hc35 : (j : Int) < (bs.length : Int)
 ·refine rc (s_lss true rfl rfl (dtrue hc35) rfl (r_nil (g_seq (g_true rfl (g_skip (g_seq (g_block (g_seq (g_region (Mv (.int .i64 (j : Int)) (rc (s_indexAddr gA19 (off := oA20) (j : Int) 6 (oA20 + j * 6) t56 rfl el_22 t0 rfl rfl (rc (s_loadAgg (bnl (bs.getD j default)) 6 ag_121 rfl (H33.imi_at (i := 0) rfl t0) (by have := elem_size (i := j) (s := 6) (hs27 t0) t0; omega) (elem_take bndCell_len (hx26 t0) t0 default) rfl (rc (s_alloc H33 121 ze_121 rfl (fun bk36 w37 H38 => Ag (.int .i64 (j : Int)) (Sa H38 0 rfl (bnc (bs.getD j default)) 6 sz_121 (bnc (bs.getD j default)) (fun w39 H40 => r_nil (g_seq (g_region (Fa 0 fi_121_0 rfl (Lo (.string ((bs.getD j default).var.v)) ag_9 H40 0 (rc (s_call [.string ((bs.getD j default).var.v)] pl_83 rfl rfl (value_Name ((bs.getD j default).var.v) (bs.getD j default).var.ok H40) ?_)))))))))))))))))))))))))
  rintro _ w41 ⟨rfl, H42⟩
  refine Mv (.bool (nameB ((bs.getD j default).var.v))) ?_
  by_cases hb43 : (nameB ((bs.getD j default).var.v)) = true
  ·refine Rq hb43 (Rq hb43 (Rq hb43 (Rq hb43 (Rn (Rn (Rq hb43 (rc (s_pick_t (.bool true) (by exact congrArg Value.bool hb43) rfl rfl (Ag (.bool true) (r_nil (g_seq (g_seq ?_))))))))))))
   refine g_quiet (fun w' => St W w' (blk bk36 (.cells (bnc (bs.getD j default)) 121 (0, 0)) :: imi (0 < bs.length) gA19 (.cells kA21 eA22 zA23) :: MapA mp13 (ents kID vB (setOf ((bs.take j).map idOf))) :: blk bk8 (.cells #[.slice pp1 bs.length cc2] 24 (0, 0)) :: bndsA bs :: Im 6 (.slice pp1 bs.length cc2) bs.length (bs.flatMap bndCell) :: F)) mixed t5 H42.drew ?_
   refine Qm (.bool true) (Qv (fun w hw => x_not true rfl false rfl w) (Qm (.bool false) (Qt (Qn (.int .i64 (j : Int)) (Qt ?_)))))
   by_cases hc44 : (0 : Int) < (j : Int)
   ·refine Qu (fun w hw => x_gtr true rfl rfl (dtrue hc44) w) (Qt (Qn (.bool true) (Qt (Qu (fun w hw => x_fieldAddr 121 0 0 0 9 rfl fi_121_0 rfl w) (Qt (Qu (fun w hw => x_load (.string ((bs.getD j default).var.v)) ag_9 rfl (hw.blk_at (i := 0) rfl) rfl) (Qt (Qu (fun w hw => x_fieldAddr 24 0 0 0 22 rfl fi_24_0 rfl w) (Qt (Qu (fun w hw => x_load (.slice pp1 bs.length cc2) ag_22 rfl (hw.blk_at (i := 3) rfl) rfl) (Qt (Qn (.int .i64 (j : Int)) (Qt (Qu (fun w hw => x_sub ((j : Int) - 1) rfl rfl (wi64 t0) w) (Qt (Qu (fun w hw => x_indexAddr gA19 (off := oA20) ((j : Int) - 1) 6 (oA20 + (j - 1) * 6) t56 rfl el_22 t0 t49 w) (Qt (Qu (fun w hw => x_fieldAddr 121 0 0 (oA20 + (j - 1) * 6) 9 rfl fi_121_0 rfl w) (Qt (Qu (fun w hw => x_load (.string ((bs.getD (j - 1) default).var.v)) ag_9 rfl (hw.imi_at (i := 1) rfl t0) (elem_cell (L := bs) (i := j - 1) bndCell_len (hx26 t0) t0 default 0 t9 _ rfl)) (Qt (Qu (fun w hw => x_sleq ((sLt ((bs.getD j default).var.v) ((bs.getD (j - 1) default).var.v) || decide (((bs.getD j default).var.v) = ((bs.getD (j - 1) default).var.v)))) rfl rfl rfl w) (Qt (Qu (fun w hw => x_pick_t (.bool (sLt ((bs.getD j default).var.v) ((bs.getD (j - 1) default).var.v) || decide (((bs.getD j default).var.v) = ((bs.getD (j - 1) default).var.v)))) rfl rfl w) (Qv (fun w hw => x_pick_f (.bool (sLt ((bs.getD j default).var.v) ((bs.getD (j - 1) default).var.v) || decide (((bs.getD j default).var.v) = ((bs.getD (j - 1) default).var.v)))) rfl rfl w) (Qm (.bool (sLt ((bs.getD j default).var.v) ((bs.getD (j - 1) default).var.v) || decide (((bs.getD j default).var.v) = ((bs.getD (j - 1) default).var.v)))) ?_))))))))))))))))))))))))))
    by_cases hb45 : ((sLt ((bs.getD j default).var.v) ((bs.getD (j - 1) default).var.v) || decide (((bs.getD j default).var.v) = ((bs.getD (j - 1) default).var.v)))) = true
    ·refine Qh hb45 (Qh hb45 (Qh hb45 (Qh hb45 (Qh hb45 (Qv (fun w hw => x_pick_t (.bool true) (by exact congrArg Value.bool hb45) rfl w) (q_nil ?_))))))
     intro w46 H47
     refine g_true rfl (g_seq (g_region (Ag (.int .i64 100) (r_nil (Gr [.int .i64 100] Tryz.func48 Tryz.results48 ?_)))))
     have H48 : St W w46 F := (H47.mv [100, 100, 100, 100, 100, 100])
     have hA : ptAt bs j = 100 := by first | exact ptAt_2 t0 t11 | exact ptAt_3 (of_decide_eq_true t11) | (exact ptAt_3 (of_decide_eq_true t11)) | (refine ptAt_1 ?_; rintro (h | ⟨h, h2⟩) <;> simp_all)
     exact ⟨vint (ptE_at t0 hz t0 hA t9).symm, H48⟩
    have hb45 := eq_false_of_ne_true hb45
    refine q_cons (q_take rfl (congrArg some hb45) (Qn (.map (some mp13)) (q_cons (q_take rfl (congrArg some hb45) (Qu (fun w hw => x_fieldAddr 121 1 1 1 119 rfl fi_121_1 rfl w) (q_cons (q_take rfl (congrArg some hb45) (Qu (fun w hw => x_fieldAddr 119 0 0 1 116 rfl fi_119_0 rfl w) (q_cons (q_take rfl (congrArg some hb45) (Qu (fun w hw => x_loadAgg [.int .i64 ((bs.getD j default).ev.ev.src.v), .int .i64 ((bs.getD j default).ev.ev.seq.v)] 2 ag_116 rfl (hw.blk_at (i := 0) rfl) (nbl rfl) rfl) (q_cons (q_take rfl (congrArg some hb45) (Qu (fun w hw => x_lookup (ek := kID) (ev := vB) (L := setOf ((bs.take j).map idOf)) (idOf (bs.getD j default)) (.bool (decide ((idOf (bs.getD j default)) ∈ ((bs.take j).map idOf)))) (MapA.at hw (i := 2) rfl) kl_116 un_134 zv_4 rfl rfl (setOf_look _ _)) (Qv (fun w hw => x_pick_f (.bool (decide ((idOf (bs.getD j default)) ∈ ((bs.take j).map idOf)))) (by exact congrArg Value.bool hb45) rfl w) (q_nil ?_))))))))))))))))
    intro w49 H50
    by_cases hb51 : (decide ((idOf (bs.getD j default)) ∈ ((bs.take j).map idOf))) = true
    ·refine g_true (congrArg Value.bool hb51) (g_seq (g_region (Ag (.int .i64 100) (r_nil (Gr [.int .i64 100] Tryz.func48 Tryz.results48 ?_)))))
     have H52 : St W w49 F := (H50.mv [100, 100, 100, 100, 100, 100])
     have hA : ptAt bs j = 100 := by first | exact ptAt_2 t0 t11 | exact ptAt_3 (of_decide_eq_true t11) | (exact ptAt_3 (of_decide_eq_true t11)) | (refine ptAt_1 ?_; rintro (h | ⟨h, h2⟩) <;> simp_all)
     exact ⟨vint (ptE_at t0 hz t0 hA t9).symm, H52⟩
    have hb51 := eq_false_of_ne_true hb51
    refine g_false (congrArg Value.bool hb51) (g_skip (g_seq (g_region (Mv (.map (some mp13)) (Fa 1 fi_121_1 rfl (Fa 1 fi_119_0 rfl (La [.int .i64 ((bs.getD j default).ev.ev.src.v), .int .i64 ((bs.getD j default).ev.ev.seq.v)] 2 ag_116 H50 0 (rc (s_mapUpdate (ek := kID) (ev := vB) (L := setOf ((bs.take j).map idOf)) (idOf (bs.getD j default)) true H50 (i := 2) rfl kl_116 un_134 rfl rfl rfl ?_))))))))); intro w53 H54
    have H55 : St W w53 (blk bk36 (.cells #[.string ((bs.getD j default).var.v), .int .i64 ((bs.getD j default).ev.ev.src.v), .int .i64 ((bs.getD j default).ev.ev.seq.v), .int .i64 ((bs.getD j default).ev.ev.time.v), .string ((bs.getD j default).ev.ev.typ.v), .slice ((bs.getD j default).ev.p) ((bs.getD j default).ev.ev.attrs.length) ((bs.getD j default).ev.c)] 121 (0, 0)) :: imi (0 < bs.length) gA19 (.cells kA21 eA22 zA23) :: MapA mp13 (ents kID vB (setOf (addS ((bs.take j).map idOf) (idOf (bs.getD j default))))) :: blk bk8 (.cells #[.slice pp1 bs.length cc2] 24 (0, 0)) :: bndsA bs :: Im 6 (.slice pp1 bs.length cc2) bs.length (bs.flatMap bndCell) :: F) := by have h9 := H54; rw [setOf_set] at h9; exact h9
    refine r_nil (g_seq (g_region ?_))
    have hns : ¬ idOf (bs.getD j default) ∈ (bs.take j).map idOf := of_decide_eq_false hb51
    have H56 : St W w53 (blk bk36 (.cells #[.string ((bs.getD j default).var.v), .int .i64 ((bs.getD j default).ev.ev.src.v), .int .i64 ((bs.getD j default).ev.ev.seq.v), .int .i64 ((bs.getD j default).ev.ev.time.v), .string ((bs.getD j default).ev.ev.typ.v), .slice ((bs.getD j default).ev.p) ((bs.getD j default).ev.ev.attrs.length) ((bs.getD j default).ev.c)] 121 (0, 0)) :: imi (0 < bs.length) gA19 (.cells kA21 eA22 zA23) :: MapA mp13 (ents kID vB (setOf ((bs.take (j + 1)).map idOf))) :: blk bk8 (.cells #[.slice pp1 bs.length cc2] 24 (0, 0)) :: bndsA bs :: Im 6 (.slice pp1 bs.length cc2) bs.length (bs.flatMap bndCell) :: F) := by have hx := H55; rw [ids_step t0 hns] at hx; exact hx
    have H57 := bndsA_at j H56 (i := 4) rfl
    have hat4 := ptAt_4 (L := bs) (i := j) t20 t24 hns
    refine Fa 1 fi_121_1 rfl (La (evl ((bs.getD j default).ev.ev) ((bs.getD j default).ev.p) ((bs.getD j default).ev.c)) 5 ag_119 H57 1 (rc (s_call [.agg (evc ((bs.getD j default).ev.ev) ((bs.getD j default).ev.p) ((bs.getD j default).ev.c))] pl_84 rfl rfl (event_Check ((bs.getD j default).ev.ev) (.slice ((bs.getD j default).ev.p) ((bs.getD j default).ev.ev.attrs.length) ((bs.getD j default).ev.c)) (j := 0) rfl H57) ?_)))
    rintro _ w58 ⟨rfl, H59⟩
    refine Ag (.int .i64 (evE ((bs.getD j default).ev.ev))) (r_nil (g_seq (g_region (Mv (.int .i64 (evE ((bs.getD j default).ev.ev))) ?_))))
    by_cases hc60 : evE ((bs.getD j default).ev.ev) = 0
    ·refine rc (s_neq false rfl rfl (ntrue hc60) rfl (r_nil (g_false rfl (g_skip (g_inBlock (g_region (rc (s_add ((j : Int) + 1) rfl rfl (wi64 t0) rfl (Mv (.int .i64 ((j : Int) + 1)) (r_nil ?_))))))))))
     have H61 : St W w58 (_ :: _ :: _ :: _ :: _ :: F) := (H59.mv [6, 6, 6, 6, 6, 105, 105])
     exact nx34 (j + 1) _ _ ⟨t0, (fun q hq => (Nat.lt_or_ge q j).elim (hz q) (fun h => by rw [show q = j from by omega, hat4]; assumption)), H61⟩ t7 t1
    refine rc (s_neq true rfl rfl (nfalse hc60) rfl (r_nil (g_true rfl (g_seq (g_region (Mv (.int .i64 (evE ((bs.getD j default).ev.ev))) (Ag (.int .i64 (evE ((bs.getD j default).ev.ev))) (r_nil (Gr [.int .i64 (evE ((bs.getD j default).ev.ev))] Tryz.func48 Tryz.results48 ?_)))))))))
    have H62 : St W w58 F := (H59.mv [100, 100, 100, 100, 100, 100, 100])
    exact ⟨vint (ptE_at t0 hz t0 (hat4) t11).symm, H62⟩
   refine Qu (fun w hw => x_gtr false rfl rfl (dfalse hc44) w) (Qt (Qn (.bool false) (Qp (Qp (Qp (Qp (Qp (Qp (Qp (Qp (Qp (Qp (Qt (Qu (fun w hw => x_pick_f (.bool false) rfl rfl w) (Qv (fun w hw => x_pick_f (.bool false) rfl rfl w) (Qm (.bool false) (Qt (Qn (.map (some mp13)) (Qt (Qu (fun w hw => x_fieldAddr 121 1 1 1 119 rfl fi_121_1 rfl w) (Qt (Qu (fun w hw => x_fieldAddr 119 0 0 1 116 rfl fi_119_0 rfl w) (Qt (Qu (fun w hw => x_loadAgg [.int .i64 ((bs.getD j default).ev.ev.src.v), .int .i64 ((bs.getD j default).ev.ev.seq.v)] 2 ag_116 rfl (hw.blk_at (i := 0) rfl) (nbl rfl) rfl) (Qt (Qu (fun w hw => x_lookup (ek := kID) (ev := vB) (L := setOf ((bs.take j).map idOf)) (idOf (bs.getD j default)) (.bool (decide ((idOf (bs.getD j default)) ∈ ((bs.take j).map idOf)))) (MapA.at hw (i := 2) rfl) kl_116 un_134 zv_4 rfl rfl (setOf_look _ _)) (Qv (fun w hw => x_pick_f (.bool (decide ((idOf (bs.getD j default)) ∈ ((bs.take j).map idOf)))) rfl rfl w) (q_nil ?_))))))))))))))))))))))))))))
   intro w63 H64
   by_cases hb65 : (decide ((idOf (bs.getD j default)) ∈ ((bs.take j).map idOf))) = true
   ·refine g_true (congrArg Value.bool hb65) (g_seq (g_region (Ag (.int .i64 100) (r_nil (Gr [.int .i64 100] Tryz.func48 Tryz.results48 ?_)))))
    have H66 : St W w63 F := (H64.mv [100, 100, 100, 100, 100, 100])
    have hA : ptAt bs j = 100 := by first | exact ptAt_2 t0 t11 | exact ptAt_3 (of_decide_eq_true t11) | (exact ptAt_3 (of_decide_eq_true t11)) | (refine ptAt_1 ?_; rintro (h | ⟨h, h2⟩) <;> simp_all)
    exact ⟨vint (ptE_at t0 hz t0 hA t9).symm, H66⟩
   have hb65 := eq_false_of_ne_true hb65
   refine g_false (congrArg Value.bool hb65) (g_skip (g_seq (g_region (Mv (.map (some mp13)) (Fa 1 fi_121_1 rfl (Fa 1 fi_119_0 rfl (La [.int .i64 ((bs.getD j default).ev.ev.src.v), .int .i64 ((bs.getD j default).ev.ev.seq.v)] 2 ag_116 H64 0 (rc (s_mapUpdate (ek := kID) (ev := vB) (L := setOf ((bs.take j).map idOf)) (idOf (bs.getD j default)) true H64 (i := 2) rfl kl_116 un_134 rfl rfl rfl ?_))))))))); intro w67 H68
   have H69 : St W w67 (blk bk36 (.cells #[.string ((bs.getD j default).var.v), .int .i64 ((bs.getD j default).ev.ev.src.v), .int .i64 ((bs.getD j default).ev.ev.seq.v), .int .i64 ((bs.getD j default).ev.ev.time.v), .string ((bs.getD j default).ev.ev.typ.v), .slice ((bs.getD j default).ev.p) ((bs.getD j default).ev.ev.attrs.length) ((bs.getD j default).ev.c)] 121 (0, 0)) :: imi (0 < bs.length) gA19 (.cells kA21 eA22 zA23) :: MapA mp13 (ents kID vB (setOf (addS ((bs.take j).map idOf) (idOf (bs.getD j default))))) :: blk bk8 (.cells #[.slice pp1 bs.length cc2] 24 (0, 0)) :: bndsA bs :: Im 6 (.slice pp1 bs.length cc2) bs.length (bs.flatMap bndCell) :: F) := by have h9 := H68; rw [setOf_set] at h9; exact h9
   refine r_nil (g_seq (g_region ?_))
   have hns : ¬ idOf (bs.getD j default) ∈ (bs.take j).map idOf := of_decide_eq_false hb65
   have H70 : St W w67 (blk bk36 (.cells #[.string ((bs.getD j default).var.v), .int .i64 ((bs.getD j default).ev.ev.src.v), .int .i64 ((bs.getD j default).ev.ev.seq.v), .int .i64 ((bs.getD j default).ev.ev.time.v), .string ((bs.getD j default).ev.ev.typ.v), .slice ((bs.getD j default).ev.p) ((bs.getD j default).ev.ev.attrs.length) ((bs.getD j default).ev.c)] 121 (0, 0)) :: imi (0 < bs.length) gA19 (.cells kA21 eA22 zA23) :: MapA mp13 (ents kID vB (setOf ((bs.take (j + 1)).map idOf))) :: blk bk8 (.cells #[.slice pp1 bs.length cc2] 24 (0, 0)) :: bndsA bs :: Im 6 (.slice pp1 bs.length cc2) bs.length (bs.flatMap bndCell) :: F) := by have hx := H69; rw [ids_step t0 hns] at hx; exact hx
   have H71 := bndsA_at j H70 (i := 4) rfl
   have hat4 := ptAt_4 (L := bs) (i := j) t20 t24 hns
   refine Fa 1 fi_121_1 rfl (La (evl ((bs.getD j default).ev.ev) ((bs.getD j default).ev.p) ((bs.getD j default).ev.c)) 5 ag_119 H71 1 (rc (s_call [.agg (evc ((bs.getD j default).ev.ev) ((bs.getD j default).ev.p) ((bs.getD j default).ev.c))] pl_84 rfl rfl (event_Check ((bs.getD j default).ev.ev) (.slice ((bs.getD j default).ev.p) ((bs.getD j default).ev.ev.attrs.length) ((bs.getD j default).ev.c)) (j := 0) rfl H71) ?_)))
   rintro _ w72 ⟨rfl, H73⟩
   refine Ag (.int .i64 (evE ((bs.getD j default).ev.ev))) (r_nil (g_seq (g_region (Mv (.int .i64 (evE ((bs.getD j default).ev.ev))) ?_))))
   by_cases hc74 : evE ((bs.getD j default).ev.ev) = 0
   ·refine rc (s_neq false rfl rfl (ntrue hc74) rfl (r_nil (g_false rfl (g_skip (g_inBlock (g_region (rc (s_add ((j : Int) + 1) rfl rfl (wi64 t0) rfl (Mv (.int .i64 ((j : Int) + 1)) (r_nil ?_))))))))))
    have H75 : St W w72 (_ :: _ :: _ :: _ :: _ :: F) := (H73.mv [6, 6, 6, 6, 6, 105, 105])
    exact nx34 (j + 1) _ _ ⟨t0, (fun q hq => (Nat.lt_or_ge q j).elim (hz q) (fun h => by rw [show q = j from by omega, hat4]; assumption)), H75⟩ t7 t1
   refine rc (s_neq true rfl rfl (nfalse hc74) rfl (r_nil (g_true rfl (g_seq (g_region (Mv (.int .i64 (evE ((bs.getD j default).ev.ev))) (Ag (.int .i64 (evE ((bs.getD j default).ev.ev))) (r_nil (Gr [.int .i64 (evE ((bs.getD j default).ev.ev))] Tryz.func48 Tryz.results48 ?_)))))))))
   have H76 : St W w72 F := (H73.mv [100, 100, 100, 100, 100, 100, 100])
   exact ⟨vint (ptE_at t0 hz t0 (hat4) t11).symm, H76⟩
  have hb43 := eq_false_of_ne_true hb43
  refine Rh hb43 (s_fieldAddr 121 0 0 0 9 rfl fi_121_0 rfl rfl (Rh hb43 (s_load (.string ((bs.getD j default).var.v)) ag_9 rfl (H42.blk_at (i := 0) rfl) rfl rfl (Rh hb43 ?_))))
  by_cases hc77 : (bs.getD j default).var.v = ByteArray.empty
  ·refine s_seql true rfl rfl (dtrue hc77) rfl (Rh hb43 (Mw (.bool true) (Rt (Mw (.int .i64 (bs.length : Int)) (Rt ?_)))))
   by_cases hc78 : (bs.length : Int) = 1
   ·refine s_eql true rfl rfl (dtrue hc78) rfl (Rh hb43 (s_pick_t (.bool true) rfl rfl rfl (rc (s_pick_f (.bool true) (by exact congrArg Value.bool hb43) rfl rfl (Ag (.bool true) (r_nil (g_seq (g_seq ?_))))))))
    refine g_quiet (fun w' => St W w' (blk bk36 (.cells (bnc (bs.getD j default)) 121 (0, 0)) :: imi (0 < bs.length) gA19 (.cells kA21 eA22 zA23) :: MapA mp13 (ents kID vB (setOf ((bs.take j).map idOf))) :: blk bk8 (.cells #[.slice pp1 bs.length cc2] 24 (0, 0)) :: bndsA bs :: Im 6 (.slice pp1 bs.length cc2) bs.length (bs.flatMap bndCell) :: F)) mixed t5 H42.drew ?_
    refine Qm (.bool true) (Qv (fun w hw => x_not true rfl false rfl w) (Qm (.bool false) (Qt (Qn (.int .i64 (j : Int)) (Qt ?_)))))
    by_cases hc79 : (0 : Int) < (j : Int)
    ·refine Qu (fun w hw => x_gtr true rfl rfl (dtrue hc79) w) (Qt (Qn (.bool true) (Qt (Qu (fun w hw => x_fieldAddr 121 0 0 0 9 rfl fi_121_0 rfl w) (Qt (Qu (fun w hw => x_load (.string ((bs.getD j default).var.v)) ag_9 rfl (hw.blk_at (i := 0) rfl) rfl) (Qt (Qu (fun w hw => x_fieldAddr 24 0 0 0 22 rfl fi_24_0 rfl w) (Qt (Qu (fun w hw => x_load (.slice pp1 bs.length cc2) ag_22 rfl (hw.blk_at (i := 3) rfl) rfl) (Qt (Qn (.int .i64 (j : Int)) (Qt (Qu (fun w hw => x_sub ((j : Int) - 1) rfl rfl (wi64 t0) w) (Qt (Qu (fun w hw => x_indexAddr gA19 (off := oA20) ((j : Int) - 1) 6 (oA20 + (j - 1) * 6) t56 rfl el_22 t0 t49 w) (Qt (Qu (fun w hw => x_fieldAddr 121 0 0 (oA20 + (j - 1) * 6) 9 rfl fi_121_0 rfl w) (Qt (Qu (fun w hw => x_load (.string ((bs.getD (j - 1) default).var.v)) ag_9 rfl (hw.imi_at (i := 1) rfl t0) (elem_cell (L := bs) (i := j - 1) bndCell_len (hx26 t0) t0 default 0 t9 _ rfl)) (Qt (Qu (fun w hw => x_sleq ((sLt ((bs.getD j default).var.v) ((bs.getD (j - 1) default).var.v) || decide (((bs.getD j default).var.v) = ((bs.getD (j - 1) default).var.v)))) rfl rfl rfl w) (Qt (Qu (fun w hw => x_pick_t (.bool (sLt ((bs.getD j default).var.v) ((bs.getD (j - 1) default).var.v) || decide (((bs.getD j default).var.v) = ((bs.getD (j - 1) default).var.v)))) rfl rfl w) (Qv (fun w hw => x_pick_f (.bool (sLt ((bs.getD j default).var.v) ((bs.getD (j - 1) default).var.v) || decide (((bs.getD j default).var.v) = ((bs.getD (j - 1) default).var.v)))) rfl rfl w) (Qm (.bool (sLt ((bs.getD j default).var.v) ((bs.getD (j - 1) default).var.v) || decide (((bs.getD j default).var.v) = ((bs.getD (j - 1) default).var.v)))) ?_))))))))))))))))))))))))))
     by_cases hb80 : ((sLt ((bs.getD j default).var.v) ((bs.getD (j - 1) default).var.v) || decide (((bs.getD j default).var.v) = ((bs.getD (j - 1) default).var.v)))) = true
     ·refine Qh hb80 (Qh hb80 (Qh hb80 (Qh hb80 (Qh hb80 (Qv (fun w hw => x_pick_t (.bool true) (by exact congrArg Value.bool hb80) rfl w) (q_nil ?_))))))
      intro w81 H82
      refine g_true rfl (g_seq (g_region (Ag (.int .i64 100) (r_nil (Gr [.int .i64 100] Tryz.func48 Tryz.results48 ?_)))))
      have H83 : St W w81 F := (H82.mv [100, 100, 100, 100, 100, 100])
      have hA : ptAt bs j = 100 := by first | exact ptAt_2 t0 t11 | exact ptAt_3 (of_decide_eq_true t11) | (exact ptAt_3 (of_decide_eq_true t11)) | (refine ptAt_1 ?_; rintro (h | ⟨h, h2⟩) <;> simp_all)
      exact ⟨vint (ptE_at t0 hz t0 hA t9).symm, H83⟩
     have hb80 := eq_false_of_ne_true hb80
     refine q_cons (q_take rfl (congrArg some hb80) (Qn (.map (some mp13)) (q_cons (q_take rfl (congrArg some hb80) (Qu (fun w hw => x_fieldAddr 121 1 1 1 119 rfl fi_121_1 rfl w) (q_cons (q_take rfl (congrArg some hb80) (Qu (fun w hw => x_fieldAddr 119 0 0 1 116 rfl fi_119_0 rfl w) (q_cons (q_take rfl (congrArg some hb80) (Qu (fun w hw => x_loadAgg [.int .i64 ((bs.getD j default).ev.ev.src.v), .int .i64 ((bs.getD j default).ev.ev.seq.v)] 2 ag_116 rfl (hw.blk_at (i := 0) rfl) (nbl rfl) rfl) (q_cons (q_take rfl (congrArg some hb80) (Qu (fun w hw => x_lookup (ek := kID) (ev := vB) (L := setOf ((bs.take j).map idOf)) (idOf (bs.getD j default)) (.bool (decide ((idOf (bs.getD j default)) ∈ ((bs.take j).map idOf)))) (MapA.at hw (i := 2) rfl) kl_116 un_134 zv_4 rfl rfl (setOf_look _ _)) (Qv (fun w hw => x_pick_f (.bool (decide ((idOf (bs.getD j default)) ∈ ((bs.take j).map idOf)))) (by exact congrArg Value.bool hb80) rfl w) (q_nil ?_))))))))))))))))
     intro w84 H85
     by_cases hb86 : (decide ((idOf (bs.getD j default)) ∈ ((bs.take j).map idOf))) = true
     ·refine g_true (congrArg Value.bool hb86) (g_seq (g_region (Ag (.int .i64 100) (r_nil (Gr [.int .i64 100] Tryz.func48 Tryz.results48 ?_)))))
      have H87 : St W w84 F := (H85.mv [100, 100, 100, 100, 100, 100])
      have hA : ptAt bs j = 100 := by first | exact ptAt_2 t0 t11 | exact ptAt_3 (of_decide_eq_true t11) | (exact ptAt_3 (of_decide_eq_true t11)) | (refine ptAt_1 ?_; rintro (h | ⟨h, h2⟩) <;> simp_all)
      exact ⟨vint (ptE_at t0 hz t0 hA t9).symm, H87⟩
     have hb86 := eq_false_of_ne_true hb86
     refine g_false (congrArg Value.bool hb86) (g_skip (g_seq (g_region (Mv (.map (some mp13)) (Fa 1 fi_121_1 rfl (Fa 1 fi_119_0 rfl (La [.int .i64 ((bs.getD j default).ev.ev.src.v), .int .i64 ((bs.getD j default).ev.ev.seq.v)] 2 ag_116 H85 0 (rc (s_mapUpdate (ek := kID) (ev := vB) (L := setOf ((bs.take j).map idOf)) (idOf (bs.getD j default)) true H85 (i := 2) rfl kl_116 un_134 rfl rfl rfl ?_))))))))); intro w88 H89
     have H90 : St W w88 (blk bk36 (.cells #[.string ((bs.getD j default).var.v), .int .i64 ((bs.getD j default).ev.ev.src.v), .int .i64 ((bs.getD j default).ev.ev.seq.v), .int .i64 ((bs.getD j default).ev.ev.time.v), .string ((bs.getD j default).ev.ev.typ.v), .slice ((bs.getD j default).ev.p) ((bs.getD j default).ev.ev.attrs.length) ((bs.getD j default).ev.c)] 121 (0, 0)) :: imi (0 < bs.length) gA19 (.cells kA21 eA22 zA23) :: MapA mp13 (ents kID vB (setOf (addS ((bs.take j).map idOf) (idOf (bs.getD j default))))) :: blk bk8 (.cells #[.slice pp1 bs.length cc2] 24 (0, 0)) :: bndsA bs :: Im 6 (.slice pp1 bs.length cc2) bs.length (bs.flatMap bndCell) :: F) := by have h9 := H89; rw [setOf_set] at h9; exact h9
     refine r_nil (g_seq (g_region ?_))
     have hns : ¬ idOf (bs.getD j default) ∈ (bs.take j).map idOf := of_decide_eq_false hb86
     have H91 : St W w88 (blk bk36 (.cells #[.string ((bs.getD j default).var.v), .int .i64 ((bs.getD j default).ev.ev.src.v), .int .i64 ((bs.getD j default).ev.ev.seq.v), .int .i64 ((bs.getD j default).ev.ev.time.v), .string ((bs.getD j default).ev.ev.typ.v), .slice ((bs.getD j default).ev.p) ((bs.getD j default).ev.ev.attrs.length) ((bs.getD j default).ev.c)] 121 (0, 0)) :: imi (0 < bs.length) gA19 (.cells kA21 eA22 zA23) :: MapA mp13 (ents kID vB (setOf ((bs.take (j + 1)).map idOf))) :: blk bk8 (.cells #[.slice pp1 bs.length cc2] 24 (0, 0)) :: bndsA bs :: Im 6 (.slice pp1 bs.length cc2) bs.length (bs.flatMap bndCell) :: F) := by have hx := H90; rw [ids_step t0 hns] at hx; exact hx
     have H92 := bndsA_at j H91 (i := 4) rfl
     have hat4 := ptAt_4 (L := bs) (i := j) t20 t24 hns
     refine Fa 1 fi_121_1 rfl (La (evl ((bs.getD j default).ev.ev) ((bs.getD j default).ev.p) ((bs.getD j default).ev.c)) 5 ag_119 H92 1 (rc (s_call [.agg (evc ((bs.getD j default).ev.ev) ((bs.getD j default).ev.p) ((bs.getD j default).ev.c))] pl_84 rfl rfl (event_Check ((bs.getD j default).ev.ev) (.slice ((bs.getD j default).ev.p) ((bs.getD j default).ev.ev.attrs.length) ((bs.getD j default).ev.c)) (j := 0) rfl H92) ?_)))
     rintro _ w93 ⟨rfl, H94⟩
     refine Ag (.int .i64 (evE ((bs.getD j default).ev.ev))) (r_nil (g_seq (g_region (Mv (.int .i64 (evE ((bs.getD j default).ev.ev))) ?_))))
     by_cases hc95 : evE ((bs.getD j default).ev.ev) = 0
     ·refine rc (s_neq false rfl rfl (ntrue hc95) rfl (r_nil (g_false rfl (g_skip (g_inBlock (g_region (rc (s_add ((j : Int) + 1) rfl rfl (wi64 t0) rfl (Mv (.int .i64 ((j : Int) + 1)) (r_nil ?_))))))))))
      have H96 : St W w93 (_ :: _ :: _ :: _ :: _ :: F) := (H94.mv [6, 6, 6, 6, 6, 105, 105])
      exact nx34 (j + 1) _ _ ⟨t0, (fun q hq => (Nat.lt_or_ge q j).elim (hz q) (fun h => by rw [show q = j from by omega, hat4]; assumption)), H96⟩ t7 t1
     refine rc (s_neq true rfl rfl (nfalse hc95) rfl (r_nil (g_true rfl (g_seq (g_region (Mv (.int .i64 (evE ((bs.getD j default).ev.ev))) (Ag (.int .i64 (evE ((bs.getD j default).ev.ev))) (r_nil (Gr [.int .i64 (evE ((bs.getD j default).ev.ev))] Tryz.func48 Tryz.results48 ?_)))))))))
     have H97 : St W w93 F := (H94.mv [100, 100, 100, 100, 100, 100, 100])
     exact ⟨vint (ptE_at t0 hz t0 (hat4) t11).symm, H97⟩
    refine Qu (fun w hw => x_gtr false rfl rfl (dfalse hc79) w) (Qt (Qn (.bool false) (Qp (Qp (Qp (Qp (Qp (Qp (Qp (Qp (Qp (Qp (Qt (Qu (fun w hw => x_pick_f (.bool false) rfl rfl w) (Qv (fun w hw => x_pick_f (.bool false) rfl rfl w) (Qm (.bool false) (Qt (Qn (.map (some mp13)) (Qt (Qu (fun w hw => x_fieldAddr 121 1 1 1 119 rfl fi_121_1 rfl w) (Qt (Qu (fun w hw => x_fieldAddr 119 0 0 1 116 rfl fi_119_0 rfl w) (Qt (Qu (fun w hw => x_loadAgg [.int .i64 ((bs.getD j default).ev.ev.src.v), .int .i64 ((bs.getD j default).ev.ev.seq.v)] 2 ag_116 rfl (hw.blk_at (i := 0) rfl) (nbl rfl) rfl) (Qt (Qu (fun w hw => x_lookup (ek := kID) (ev := vB) (L := setOf ((bs.take j).map idOf)) (idOf (bs.getD j default)) (.bool (decide ((idOf (bs.getD j default)) ∈ ((bs.take j).map idOf)))) (MapA.at hw (i := 2) rfl) kl_116 un_134 zv_4 rfl rfl (setOf_look _ _)) (Qv (fun w hw => x_pick_f (.bool (decide ((idOf (bs.getD j default)) ∈ ((bs.take j).map idOf)))) rfl rfl w) (q_nil ?_))))))))))))))))))))))))))))
    intro w98 H99
    by_cases hb100 : (decide ((idOf (bs.getD j default)) ∈ ((bs.take j).map idOf))) = true
    ·refine g_true (congrArg Value.bool hb100) (g_seq (g_region (Ag (.int .i64 100) (r_nil (Gr [.int .i64 100] Tryz.func48 Tryz.results48 ?_)))))
     have H101 : St W w98 F := (H99.mv [100, 100, 100, 100, 100, 100])
     have hA : ptAt bs j = 100 := by first | exact ptAt_2 t0 t11 | exact ptAt_3 (of_decide_eq_true t11) | (exact ptAt_3 (of_decide_eq_true t11)) | (refine ptAt_1 ?_; rintro (h | ⟨h, h2⟩) <;> simp_all)
     exact ⟨vint (ptE_at t0 hz t0 hA t9).symm, H101⟩
    have hb100 := eq_false_of_ne_true hb100
    refine g_false (congrArg Value.bool hb100) (g_skip (g_seq (g_region (Mv (.map (some mp13)) (Fa 1 fi_121_1 rfl (Fa 1 fi_119_0 rfl (La [.int .i64 ((bs.getD j default).ev.ev.src.v), .int .i64 ((bs.getD j default).ev.ev.seq.v)] 2 ag_116 H99 0 (rc (s_mapUpdate (ek := kID) (ev := vB) (L := setOf ((bs.take j).map idOf)) (idOf (bs.getD j default)) true H99 (i := 2) rfl kl_116 un_134 rfl rfl rfl ?_))))))))); intro w102 H103
    have H104 : St W w102 (blk bk36 (.cells #[.string ((bs.getD j default).var.v), .int .i64 ((bs.getD j default).ev.ev.src.v), .int .i64 ((bs.getD j default).ev.ev.seq.v), .int .i64 ((bs.getD j default).ev.ev.time.v), .string ((bs.getD j default).ev.ev.typ.v), .slice ((bs.getD j default).ev.p) ((bs.getD j default).ev.ev.attrs.length) ((bs.getD j default).ev.c)] 121 (0, 0)) :: imi (0 < bs.length) gA19 (.cells kA21 eA22 zA23) :: MapA mp13 (ents kID vB (setOf (addS ((bs.take j).map idOf) (idOf (bs.getD j default))))) :: blk bk8 (.cells #[.slice pp1 bs.length cc2] 24 (0, 0)) :: bndsA bs :: Im 6 (.slice pp1 bs.length cc2) bs.length (bs.flatMap bndCell) :: F) := by have h9 := H103; rw [setOf_set] at h9; exact h9
    refine r_nil (g_seq (g_region ?_))
    have hns : ¬ idOf (bs.getD j default) ∈ (bs.take j).map idOf := of_decide_eq_false hb100
    have H105 : St W w102 (blk bk36 (.cells #[.string ((bs.getD j default).var.v), .int .i64 ((bs.getD j default).ev.ev.src.v), .int .i64 ((bs.getD j default).ev.ev.seq.v), .int .i64 ((bs.getD j default).ev.ev.time.v), .string ((bs.getD j default).ev.ev.typ.v), .slice ((bs.getD j default).ev.p) ((bs.getD j default).ev.ev.attrs.length) ((bs.getD j default).ev.c)] 121 (0, 0)) :: imi (0 < bs.length) gA19 (.cells kA21 eA22 zA23) :: MapA mp13 (ents kID vB (setOf ((bs.take (j + 1)).map idOf))) :: blk bk8 (.cells #[.slice pp1 bs.length cc2] 24 (0, 0)) :: bndsA bs :: Im 6 (.slice pp1 bs.length cc2) bs.length (bs.flatMap bndCell) :: F) := by have hx := H104; rw [ids_step t0 hns] at hx; exact hx
    have H106 := bndsA_at j H105 (i := 4) rfl
    have hat4 := ptAt_4 (L := bs) (i := j) t20 t24 hns
    refine Fa 1 fi_121_1 rfl (La (evl ((bs.getD j default).ev.ev) ((bs.getD j default).ev.p) ((bs.getD j default).ev.c)) 5 ag_119 H106 1 (rc (s_call [.agg (evc ((bs.getD j default).ev.ev) ((bs.getD j default).ev.p) ((bs.getD j default).ev.c))] pl_84 rfl rfl (event_Check ((bs.getD j default).ev.ev) (.slice ((bs.getD j default).ev.p) ((bs.getD j default).ev.ev.attrs.length) ((bs.getD j default).ev.c)) (j := 0) rfl H106) ?_)))
    rintro _ w107 ⟨rfl, H108⟩
    refine Ag (.int .i64 (evE ((bs.getD j default).ev.ev))) (r_nil (g_seq (g_region (Mv (.int .i64 (evE ((bs.getD j default).ev.ev))) ?_))))
    by_cases hc109 : evE ((bs.getD j default).ev.ev) = 0
    ·refine rc (s_neq false rfl rfl (ntrue hc109) rfl (r_nil (g_false rfl (g_skip (g_inBlock (g_region (rc (s_add ((j : Int) + 1) rfl rfl (wi64 t0) rfl (Mv (.int .i64 ((j : Int) + 1)) (r_nil ?_))))))))))
     have H110 : St W w107 (_ :: _ :: _ :: _ :: _ :: F) := (H108.mv [6, 6, 6, 6, 6, 105, 105])
     exact nx34 (j + 1) _ _ ⟨t0, (fun q hq => (Nat.lt_or_ge q j).elim (hz q) (fun h => by rw [show q = j from by omega, hat4]; assumption)), H110⟩ t7 t1
    refine rc (s_neq true rfl rfl (nfalse hc109) rfl (r_nil (g_true rfl (g_seq (g_region (Mv (.int .i64 (evE ((bs.getD j default).ev.ev))) (Ag (.int .i64 (evE ((bs.getD j default).ev.ev))) (r_nil (Gr [.int .i64 (evE ((bs.getD j default).ev.ev))] Tryz.func48 Tryz.results48 ?_)))))))))
    have H111 : St W w107 F := (H108.mv [100, 100, 100, 100, 100, 100, 100])
    exact ⟨vint (ptE_at t0 hz t0 (hat4) t11).symm, H111⟩
   refine s_eql false rfl rfl (dfalse hc78) rfl (Rh hb43 (s_pick_t (.bool false) rfl rfl rfl (rc (s_pick_f (.bool false) (by exact congrArg Value.bool hb43) rfl rfl (Ag (.bool false) (r_nil (g_seq (g_seq ?_))))))))
   refine g_quiet (fun w' => St W w' (blk bk36 (.cells (bnc (bs.getD j default)) 121 (0, 0)) :: imi (0 < bs.length) gA19 (.cells kA21 eA22 zA23) :: MapA mp13 (ents kID vB (setOf ((bs.take j).map idOf))) :: blk bk8 (.cells #[.slice pp1 bs.length cc2] 24 (0, 0)) :: bndsA bs :: Im 6 (.slice pp1 bs.length cc2) bs.length (bs.flatMap bndCell) :: F)) mixed t5 H42.drew ?_
   refine Qm (.bool false) (Qv (fun w hw => x_not false rfl true rfl w) (Qm (.bool true) (Qp (Qp (Qp (q_cons (q_passN rfl rfl rfl rfl (q_cons (q_passN rfl rfl rfl rfl (q_cons (q_passN rfl rfl rfl rfl (q_cons (q_passN rfl rfl rfl rfl (q_cons (q_passN rfl rfl rfl rfl (q_cons (q_passN rfl rfl rfl rfl (q_cons (q_passN rfl rfl rfl rfl (q_cons (q_passN rfl rfl rfl rfl (q_cons (q_passN rfl rfl rfl rfl (q_cons (q_passN rfl rfl rfl rfl (Qp (Qv (fun w hw => x_pick_t (.bool true) rfl rfl w) (Qm (.bool true) (Qp (Qp (Qp (Qp (Qp (Qv (fun w hw => x_pick_t (.bool true) rfl rfl w) (q_nil ?_)))))))))))))))))))))))))))))))))))
   intro w112 H113
   refine g_true rfl (g_seq (g_region (Ag (.int .i64 100) (r_nil (Gr [.int .i64 100] Tryz.func48 Tryz.results48 ?_)))))
   have H114 : St W w112 F := (H113.mv [100, 100, 100, 100, 100, 100])
   have hA : ptAt bs j = 100 := by first | exact ptAt_2 t0 t11 | exact ptAt_3 (of_decide_eq_true t11) | (exact ptAt_3 (of_decide_eq_true t11)) | (refine ptAt_1 ?_; rintro (h | ⟨h, h2⟩) <;> simp_all)
   exact ⟨vint (ptE_at t0 hz t0 hA t9).symm, H114⟩
  refine s_seql false rfl rfl (dfalse hc77) rfl (Rh hb43 (Mw (.bool false) (Rp (Rp (Rh hb43 (s_pick_f (.bool false) rfl rfl rfl (rc (s_pick_f (.bool false) (by exact congrArg Value.bool hb43) rfl rfl (Ag (.bool false) (r_nil (g_seq (g_seq ?_))))))))))))
  refine g_quiet (fun w' => St W w' (blk bk36 (.cells (bnc (bs.getD j default)) 121 (0, 0)) :: imi (0 < bs.length) gA19 (.cells kA21 eA22 zA23) :: MapA mp13 (ents kID vB (setOf ((bs.take j).map idOf))) :: blk bk8 (.cells #[.slice pp1 bs.length cc2] 24 (0, 0)) :: bndsA bs :: Im 6 (.slice pp1 bs.length cc2) bs.length (bs.flatMap bndCell) :: F)) mixed t5 H42.drew ?_
  refine Qm (.bool false) (Qv (fun w hw => x_not false rfl true rfl w) (Qm (.bool true) (Qp (Qp (Qp (q_cons (q_passN rfl rfl rfl rfl (q_cons (q_passN rfl rfl rfl rfl (q_cons (q_passN rfl rfl rfl rfl (q_cons (q_passN rfl rfl rfl rfl (q_cons (q_passN rfl rfl rfl rfl (q_cons (q_passN rfl rfl rfl rfl (q_cons (q_passN rfl rfl rfl rfl (q_cons (q_passN rfl rfl rfl rfl (q_cons (q_passN rfl rfl rfl rfl (q_cons (q_passN rfl rfl rfl rfl (Qp (Qv (fun w hw => x_pick_t (.bool true) rfl rfl w) (Qm (.bool true) (Qp (Qp (Qp (Qp (Qp (Qv (fun w hw => x_pick_t (.bool true) rfl rfl w) (q_nil ?_)))))))))))))))))))))))))))))))))))
  intro w115 H116
  refine g_true rfl (g_seq (g_region (Ag (.int .i64 100) (r_nil (Gr [.int .i64 100] Tryz.func48 Tryz.results48 ?_)))))
  have H117 : St W w115 F := (H116.mv [100, 100, 100, 100, 100, 100])
  have hA : ptAt bs j = 100 := by first | exact ptAt_2 t0 t11 | exact ptAt_3 (of_decide_eq_true t11) | (exact ptAt_3 (of_decide_eq_true t11)) | (refine ptAt_1 ?_; rintro (h | ⟨h, h2⟩) <;> simp_all)
  exact ⟨vint (ptE_at t0 hz t0 hA t9).symm, H117⟩
 refine rc (s_lss false rfl rfl (dfalse hc35) rfl (r_nil (g_seq (g_false rfl (g_exit t39 (g_seq (g_region (Ag (.int .i64 0) (r_nil (Gr [.int .i64 0] Tryz.func48 Tryz.results48 ?_))))))))))
 have H118 : St W w32 F := (H33.mv [100, 100, 100, 100, 100])
 exact ⟨vint (ptE_all t0 (fun q hq => hz q t0)).symm, H118⟩
theorem ref10_Check (bs : List BoundD) (bv : Value) {ip : Nat} (hp : F[ip]? = some (Im 6 bv bs.length (bs.flatMap bndCell))) {iq : Nat} (hq : F[iq]? = some (bndsA bs)) (H : St W w F) : Calls Tryz.prog 50 #[.agg #[bv]] w (Ret fun v w' => v = .int .i64 (ptE bs) ∧ St W w' F) := by
 obtain ⟨pp1, cc2, rfl, hn3⟩ := Rd.shape (Im.rd H (i := ip) hp)
 have H4 := H.dup (i := ip + 0) t55 (Im_pers _ _ _ _)
 have H5 : St W w (_ :: F) := H4
 have H6 := H5.dup (i := iq + 1) t51 (bndsA_pers _)
 have H7 : St W w (_ :: _ :: F) := H6
 have hmlb := Im.len H7 (i := 1) rfl
 refine calls_of_go (n := 83) Tryz.func50 rfl Tryz.ntmps50 rfl ?_
 refine g_seq (g_region (Bx H7 24 #[.slice pp1 bs.length cc2] (fun bk8 w9 H10 => Ag (.int .i64 0) (r_nil (g_seq (g_region (Fa 0 fi_24_0 rfl (Lo (.slice pp1 bs.length cc2) ag_22 H10 0 (Ag (.slice pp1 bs.length cc2) (r_nil (g_seq (g_seq (g_region (Mv (.slice pp1 bs.length cc2) (rc (s_len bs.length rfl ⟨_, un_22⟩ rfl ?_))))))))))))))))
 by_cases hc11 : (12 : Int) < (bs.length : Int)
 ·refine rc (s_gtr true rfl rfl (dtrue hc11) rfl (r_nil (g_true rfl (g_seq (g_region (Ag (.int .i64 100) (r_nil (Gr [.int .i64 100] Tryz.func50 Tryz.results50 ?_))))))))
  have H12 : St W w9 F := (H10.mv [100, 100, 100])
  exact ⟨vint (ptE_long t0).symm, H12⟩
 refine rc (s_gtr false rfl rfl (dfalse hc11) rfl (r_nil (g_false rfl (g_skip (g_seq (g_seq (g_region (Ag (.int .i64 0) (r_nil (g_block ?_))))))))))
 obtain ⟨pA13, cA14, gA15, oA16, kA17, eA18, zA19, he25, hn20, hp21, hx22, hs23, hml, H24⟩ := Im.open_ H10 (i := 2) rfl
 obtain ⟨rfl, rfl⟩ : pp1 = pA13 ∧ cc2 = cA14 := by injection he25 with a_ b_ c_; exact ⟨a_, c_⟩
 refine g_loop_inv (fun (j : Nat) => [(2, .int .i64 0), (3, .slice pp1 bs.length cc2), (4, .int .i64 (j : Int))]) (fun j w => (j ≤ bs.length) ∧ (∀ q, q < j → ptAt bs q = 0) ∧ St W w (imi (0 < bs.length) gA15 (.cells kA17 eA18 zA19) :: blk bk8 (.cells #[.slice pp1 bs.length cc2] 24 (0, 0)) :: bndsA bs :: Im 6 (.slice pp1 bs.length cc2) bs.length (bs.flatMap bndCell) :: F)) (fun j => bs.length - j) (0) ?_ ?_ ?_
 ·exact t1
 ·exact ⟨t0, (fun q hq => by omega), H24⟩
 rintro j ρ26 w27 ⟨hjn, hz, H28⟩ nx29
 change Ends _ _ (upds ρ26 [(2, .int .i64 0), (3, .slice pp1 bs.length cc2), (4, .int .i64 (j : Int))]) w27
 refine g_seq (g_seq (g_region (Mv (.int .i64 (j : Int)) (Mv (.slice pp1 bs.length cc2) (rc (s_len bs.length rfl ⟨_, un_22⟩ rfl ?_))))))
 by_cases hc30 : (j : Int) < (bs.length : Int)
 ·refine rc (s_lss true rfl rfl (dtrue hc30) rfl (r_nil (g_true rfl (g_skip (g_seq (g_block (g_seq (g_seq ?_))))))))
  refine g_quiet (fun w' => St W w' (imi (0 < bs.length) gA15 (.cells kA17 eA18 zA19) :: blk bk8 (.cells #[.slice pp1 bs.length cc2] 24 (0, 0)) :: bndsA bs :: Im 6 (.slice pp1 bs.length cc2) bs.length (bs.flatMap bndCell) :: F)) mixed t5 H28.drew ?_
  refine Qm (.slice pp1 bs.length cc2) (Qm (.int .i64 (j : Int)) (Qv (fun w hw => x_indexAddr gA15 (off := oA16) (j : Int) 6 (oA16 + j * 6) t14 rfl el_22 t0 rfl w) (Qf (oA16 + j * 6) fi_121_0 rfl (Qv (fun w hw => x_load (.string ((bs.getD j default).var.v)) ag_9 rfl (hw.imi_at (i := 0) rfl t0) (elem_cell (L := bs) (i := j) bndCell_len (hx22 t0) t0 default 0 t9 _ rfl)) (q_cons (q_enter (args := #[.string ((bs.getD j default).var.v)]) (v := .bool (nameB ((bs.getD j default).var.v))) rfl rfl rfl (x_call pl_85 [.string ((bs.getD j default).var.v)] rfl) (fun w hw => ref03_Name ((bs.getD j default).var.v) (bs.getD j default).var.ok hw) (Qv (fun w hw => x_not (nameB ((bs.getD j default).var.v)) rfl (!(nameB ((bs.getD j default).var.v))) rfl w) (Qm (.bool (!(nameB ((bs.getD j default).var.v)))) ?_))))))))
  by_cases hb31 : (!(nameB ((bs.getD j default).var.v))) = true
  ·refine q_cons (q_take rfl (congrArg some hb31) (Qn (.slice pp1 bs.length cc2) (q_cons (q_take rfl (congrArg some hb31) (Qn (.int .i64 (j : Int)) (q_cons (q_take rfl (congrArg some hb31) (Qu (fun w hw => x_indexAddr gA15 (off := oA16) (j : Int) 6 (oA16 + j * 6) t14 rfl el_22 t0 rfl w) (q_cons (q_take rfl (congrArg some hb31) (Qu (fun w hw => x_fieldAddr 121 0 0 (oA16 + j * 6) 9 rfl fi_121_0 rfl w) (q_cons (q_take rfl (congrArg some hb31) (Qu (fun w hw => x_load (.string ((bs.getD j default).var.v)) ag_9 rfl (hw.imi_at (i := 0) rfl t0) (elem_cell (L := bs) (i := j) bndCell_len (hx22 t0) t0 default 0 t9 _ rfl)) (q_cons (q_take rfl (congrArg some hb31) ?_))))))))))))))))
   by_cases hc32 : (bs.getD j default).var.v = ByteArray.empty
   ·refine Qu (fun w hw => x_sneq false rfl rfl (ntrue hc32) w) (q_cons (q_take rfl (congrArg some hb31) (Qn (.bool false) (Qt (Qn (.slice pp1 bs.length cc2) (Qt (Qu (fun w hw => x_len bs.length rfl ⟨_, un_22⟩ w) (Qt ?_))))))))
    by_cases hc33 : (bs.length : Int) = 1
    ·refine Qu (fun w hw => x_neq false rfl rfl (ntrue hc33) w) (q_cons (q_take rfl (congrArg some hb31) (Qu (fun w hw => x_pick_f (.bool false) rfl rfl w) (Qv (fun w hw => x_pick_t (.bool false) (by exact congrArg Value.bool hb31) rfl w) (Qm (.bool false) (Qt (Qn (.int .i64 (j : Int)) (Qt ?_))))))))
     by_cases hc34 : (0 : Int) < (j : Int)
     ·refine Qu (fun w hw => x_gtr true rfl rfl (dtrue hc34) w) (Qt (Qn (.bool true) (Qt (Qn (.slice pp1 bs.length cc2) (Qt (Qn (.int .i64 (j : Int)) (Qt (Qu (fun w hw => x_indexAddr gA15 (off := oA16) (j : Int) 6 (oA16 + j * 6) t14 rfl el_22 t0 rfl w) (Qt (Qu (fun w hw => x_fieldAddr 121 0 0 (oA16 + j * 6) 9 rfl fi_121_0 rfl w) (Qt (Qu (fun w hw => x_load (.string ((bs.getD j default).var.v)) ag_9 rfl (hw.imi_at (i := 0) rfl t0) (elem_cell (L := bs) (i := j) bndCell_len (hx22 t0) t0 default 0 t9 _ rfl)) (Qt (Qn (.slice pp1 bs.length cc2) (Qt (Qn (.int .i64 (j : Int)) (Qt (Qu (fun w hw => x_sub ((j : Int) - 1) rfl rfl (wi64 t0) w) (Qt (Qu (fun w hw => x_indexAddr gA15 (off := oA16) ((j : Int) - 1) 6 (oA16 + (j - 1) * 6) t14 rfl el_22 t0 t49 w) (Qt (Qu (fun w hw => x_fieldAddr 121 0 0 (oA16 + (j - 1) * 6) 9 rfl fi_121_0 rfl w) (Qt (Qu (fun w hw => x_load (.string ((bs.getD (j - 1) default).var.v)) ag_9 rfl (hw.imi_at (i := 0) rfl t0) (elem_cell (L := bs) (i := j - 1) bndCell_len (hx22 t0) t0 default 0 t9 _ rfl)) (Qt (Qu (fun w hw => x_sleq ((sLt ((bs.getD j default).var.v) ((bs.getD (j - 1) default).var.v) || decide (((bs.getD j default).var.v) = ((bs.getD (j - 1) default).var.v)))) rfl rfl rfl w) (Qt (Qu (fun w hw => x_pick_t (.bool (sLt ((bs.getD j default).var.v) ((bs.getD (j - 1) default).var.v) || decide (((bs.getD j default).var.v) = ((bs.getD (j - 1) default).var.v)))) rfl rfl w) (Qv (fun w hw => x_pick_f (.bool (sLt ((bs.getD j default).var.v) ((bs.getD (j - 1) default).var.v) || decide (((bs.getD j default).var.v) = ((bs.getD (j - 1) default).var.v)))) rfl rfl w) (q_nil ?_))))))))))))))))))))))))))))))
      intro w35 H36
      by_cases hb37 : ((sLt ((bs.getD j default).var.v) ((bs.getD (j - 1) default).var.v) || decide (((bs.getD j default).var.v) = ((bs.getD (j - 1) default).var.v)))) = true
      ·refine g_true (congrArg Value.bool hb37) (g_seq (g_region (Ag (.int .i64 100) (r_nil (Gr [.int .i64 100] Tryz.func50 Tryz.results50 ?_)))))
       have H38 : St W w35 F := (H36.mv [100, 100, 100, 100])
       have hA : ptAt bs j = 100 := by first | exact ptAt_2 t0 t11 | exact ptAt_3 (of_decide_eq_true t11) | (exact ptAt_3 (ids_yes (q := k) t0 t0 (idOf_eq.2 (by simpa using hz)))) | (refine ptAt_1 ?_; rintro (h | ⟨h, h2⟩) <;> simp_all)
       exact ⟨vint (ptE_at t0 hz t0 hA t9).symm, H38⟩
      have hb37 := eq_false_of_ne_true hb37
      refine g_false (congrArg Value.bool hb37) (g_skip (g_seq (g_seq (g_region (Ag (.int .i64 0) (r_nil (g_block ?_)))))))
      refine g_loop_inv (fun (k : Nat) => [(2, .int .i64 0), (3, .slice pp1 bs.length cc2), (4, .int .i64 (j : Int)), (5, .int .i64 (k : Int))]) (fun k w => (k ≤ j) ∧ (∀ q, q < k → ¬ idOf (bs.getD q default) = idOf (bs.getD j default)) ∧ St W w (imi (0 < bs.length) gA15 (.cells kA17 eA18 zA19) :: blk bk8 (.cells #[.slice pp1 bs.length cc2] 24 (0, 0)) :: bndsA bs :: Im 6 (.slice pp1 bs.length cc2) bs.length (bs.flatMap bndCell) :: F)) (fun k => j - k) (0) ?_ ?_ ?_
      ·exact t1
      ·exact ⟨t0, (fun q hq => by omega), H36⟩
      rintro k ρ39 w40 ⟨hkj, hd, H41⟩ nx42
      change Ends _ _ (upds ρ39 [(2, .int .i64 0), (3, .slice pp1 bs.length cc2), (4, .int .i64 (j : Int)), (5, .int .i64 (k : Int))]) w40
      refine g_seq (g_seq (g_region (Mv (.int .i64 (k : Int)) (Mv (.int .i64 (j : Int)) ?_))))
      by_cases hc43 : (k : Int) < (j : Int)
      ·refine rc (s_lss true rfl rfl (dtrue hc43) rfl (r_nil (g_true rfl (g_skip (g_seq (g_block (g_seq ?_)))))))
       refine g_quiet (fun w' => St W w' (imi (0 < bs.length) gA15 (.cells kA17 eA18 zA19) :: blk bk8 (.cells #[.slice pp1 bs.length cc2] 24 (0, 0)) :: bndsA bs :: Im 6 (.slice pp1 bs.length cc2) bs.length (bs.flatMap bndCell) :: F)) mixed t5 H41.drew ?_
       refine Qm (.slice pp1 bs.length cc2) (Qm (.int .i64 (k : Int)) (Qv (fun w hw => x_indexAddr gA15 (off := oA16) (k : Int) 6 (oA16 + k * 6) t14 rfl el_22 t0 rfl w) (Qf (oA16 + k * 6 + 1) fi_121_1 rfl (Qf (oA16 + k * 6 + 1) fi_119_0 rfl (Qv (fun w hw => x_loadAgg [.int .i64 ((bs.getD k default).ev.ev.src.v), .int .i64 ((bs.getD k default).ev.ev.seq.v)] 2 ag_116 rfl (hw.imi_at (i := 0) rfl t0) t50 (elem_sub bndCell_len (hx22 t0) t0 default 1 2 t9)) (Qm (.slice pp1 bs.length cc2) (Qm (.int .i64 (j : Int)) (Qv (fun w hw => x_indexAddr gA15 (off := oA16) (j : Int) 6 (oA16 + j * 6) t14 rfl el_22 t0 rfl w) (Qf (oA16 + j * 6 + 1) fi_121_1 rfl (Qf (oA16 + j * 6 + 1) fi_119_0 rfl (Qv (fun w hw => x_loadAgg [.int .i64 ((bs.getD j default).ev.ev.src.v), .int .i64 ((bs.getD j default).ev.ev.seq.v)] 2 ag_116 rfl (hw.imi_at (i := 0) rfl t0) t32 (elem_sub bndCell_len (hx22 t0) t0 default 1 2 t9)) (Qv (fun w hw => x_aeql ((decide ((bs.getD k default).ev.ev.src.v = (bs.getD j default).ev.ev.src.v) && (decide ((bs.getD k default).ev.ev.seq.v = (bs.getD j default).ev.ev.seq.v) && true))) gd_116 ev_116 rfl rfl rfl w) (q_nil ?_)))))))))))))
       intro w44 H45
       by_cases hb46 : ((decide ((bs.getD k default).ev.ev.src.v = (bs.getD j default).ev.ev.src.v) && (decide ((bs.getD k default).ev.ev.seq.v = (bs.getD j default).ev.ev.seq.v) && true))) = true
       ·refine g_true (congrArg Value.bool hb46) (g_seq (g_region (Ag (.int .i64 100) (r_nil (Gr [.int .i64 100] Tryz.func50 Tryz.results50 ?_)))))
        have H47 : St W w44 F := (H45.mv [100, 100, 100, 100])
        have hA : ptAt bs j = 100 := by first | exact ptAt_2 t0 t11 | exact ptAt_3 (of_decide_eq_true t11) | (exact ptAt_3 (ids_yes (q := k) t0 t0 (idOf_eq.2 (by simpa using hb46)))) | (refine ptAt_1 ?_; rintro (h | ⟨h, h2⟩) <;> simp_all)
        exact ⟨vint (ptE_at t0 hz t0 hA t9).symm, H47⟩
       have hb46 := eq_false_of_ne_true hb46
       refine g_false (congrArg Value.bool hb46) (g_skip (g_inBlock (g_region (Mv (.int .i64 (k : Int)) (rc (s_add ((k : Int) + 1) rfl rfl (wi64 t0) rfl (Ag (.int .i64 ((k : Int) + 1)) (r_nil ?_))))))))
       have H48 : St W w44 (_ :: _ :: _ :: _ :: F) := (H45.mv [3, 3, 3, 3])
       exact nx42 (k + 1) _ _ ⟨t0, (fun q hq => (Nat.lt_or_ge q k).elim (hd q) (fun h => by rw [show q = k from by omega, idOf_eq]; simpa using hb46)), H48⟩ t7 t1
      refine rc (s_lss false rfl rfl (dfalse hc43) rfl (r_nil (g_false rfl (g_exit t39 (g_seq (g_region ?_))))))
      have hns : ¬ idOf (bs.getD j default) ∈ (bs.take j).map idOf := ids_no (k := k) t0 t0 hd
      have H49 := bndsA_at j H41 (i := 2) rfl
      have hat4 := ptAt_4 (L := bs) (i := j) t20 t24 hns
      refine Mv (.slice pp1 bs.length cc2) (Mv (.int .i64 (j : Int)) (rc (s_indexAddr gA15 (off := oA16) (j : Int) 6 (oA16 + j * 6) t14 rfl el_22 t0 rfl rfl (Fa (oA16 + j * 6 + 1) fi_121_1 rfl (rc (s_loadAgg (evl ((bs.getD j default).ev.ev) ((bs.getD j default).ev.p) ((bs.getD j default).ev.c)) 5 ag_119 rfl (H49.imi_at (i := 1) rfl t0) t32 (elem_sub bndCell_len (hx22 t0) t0 default 1 5 t9) rfl (rc (s_call [.agg (evc ((bs.getD j default).ev.ev) ((bs.getD j default).ev.p) ((bs.getD j default).ev.c))] pl_86 rfl rfl (ref04_Check ((bs.getD j default).ev.ev) (.slice ((bs.getD j default).ev.p) ((bs.getD j default).ev.ev.attrs.length) ((bs.getD j default).ev.c)) (j := 0) rfl H49) ?_))))))))
      rintro _ w50 ⟨rfl, H51⟩
      refine Ag (.int .i64 (evE ((bs.getD j default).ev.ev))) (r_nil (g_seq (g_region (Mv (.int .i64 (evE ((bs.getD j default).ev.ev))) ?_))))
      by_cases hc52 : evE ((bs.getD j default).ev.ev) = 0
      ·refine rc (s_neq false rfl rfl (ntrue hc52) rfl (r_nil (g_false rfl (g_skip (g_inBlock (g_region (Mv (.int .i64 (j : Int)) (rc (s_add ((j : Int) + 1) rfl rfl (wi64 t0) rfl (Ag (.int .i64 ((j : Int) + 1)) (r_nil ?_)))))))))))
       have H53 : St W w50 (_ :: _ :: _ :: _ :: F) := (H51.mv [4, 4, 4, 4, 104])
       exact nx29 (j + 1) _ _ ⟨t0, (fun q hq => (Nat.lt_or_ge q j).elim (hz q) (fun h => by rw [show q = j from by omega, hat4]; assumption)), H53⟩ t7 t1
      refine rc (s_neq true rfl rfl (nfalse hc52) rfl (r_nil (g_true rfl (g_seq (g_region (Mv (.int .i64 (evE ((bs.getD j default).ev.ev))) (Ag (.int .i64 (evE ((bs.getD j default).ev.ev))) (r_nil (Gr [.int .i64 (evE ((bs.getD j default).ev.ev))] Tryz.func50 Tryz.results50 ?_)))))))))
      have H54 : St W w50 F := (H51.mv [100, 100, 100, 100, 100])
      exact ⟨vint (ptE_at t0 hz t0 (hat4) t11).symm, H54⟩
     refine Qu (fun w hw => x_gtr false rfl rfl (dfalse hc34) w) (Qt (Qn (.bool false) (Qp (Qp (Qp (Qp (Qp (Qp (Qp (Qp (Qp (Qp (Qp (Qp (Qt (Qu (fun w hw => x_pick_f (.bool false) rfl rfl w) (Qv (fun w hw => x_pick_f (.bool false) rfl rfl w) (q_nil ?_))))))))))))))))))
     intro w55 H56
     refine g_false rfl (g_skip (g_seq (g_seq (g_region (Ag (.int .i64 0) (r_nil (g_block ?_)))))))
     refine g_loop_inv (fun (k : Nat) => [(2, .int .i64 0), (3, .slice pp1 bs.length cc2), (4, .int .i64 (j : Int)), (5, .int .i64 (k : Int))]) (fun k w => (k ≤ j) ∧ (∀ q, q < k → ¬ idOf (bs.getD q default) = idOf (bs.getD j default)) ∧ St W w (imi (0 < bs.length) gA15 (.cells kA17 eA18 zA19) :: blk bk8 (.cells #[.slice pp1 bs.length cc2] 24 (0, 0)) :: bndsA bs :: Im 6 (.slice pp1 bs.length cc2) bs.length (bs.flatMap bndCell) :: F)) (fun k => j - k) (0) ?_ ?_ ?_
     ·exact t1
     ·exact ⟨t0, (fun q hq => by omega), H56⟩
     rintro k ρ57 w58 ⟨hkj, hd, H59⟩ nx60
     change Ends _ _ (upds ρ57 [(2, .int .i64 0), (3, .slice pp1 bs.length cc2), (4, .int .i64 (j : Int)), (5, .int .i64 (k : Int))]) w58
     refine g_seq (g_seq (g_region (Mv (.int .i64 (k : Int)) (Mv (.int .i64 (j : Int)) ?_))))
     by_cases hc61 : (k : Int) < (j : Int)
     ·refine rc (s_lss true rfl rfl (dtrue hc61) rfl (r_nil (g_true rfl (g_skip (g_seq (g_block (g_seq ?_)))))))
      refine g_quiet (fun w' => St W w' (imi (0 < bs.length) gA15 (.cells kA17 eA18 zA19) :: blk bk8 (.cells #[.slice pp1 bs.length cc2] 24 (0, 0)) :: bndsA bs :: Im 6 (.slice pp1 bs.length cc2) bs.length (bs.flatMap bndCell) :: F)) mixed t5 H59.drew ?_
      refine Qm (.slice pp1 bs.length cc2) (Qm (.int .i64 (k : Int)) (Qv (fun w hw => x_indexAddr gA15 (off := oA16) (k : Int) 6 (oA16 + k * 6) t14 rfl el_22 t0 rfl w) (Qf (oA16 + k * 6 + 1) fi_121_1 rfl (Qf (oA16 + k * 6 + 1) fi_119_0 rfl (Qv (fun w hw => x_loadAgg [.int .i64 ((bs.getD k default).ev.ev.src.v), .int .i64 ((bs.getD k default).ev.ev.seq.v)] 2 ag_116 rfl (hw.imi_at (i := 0) rfl t0) t50 (elem_sub bndCell_len (hx22 t0) t0 default 1 2 t9)) (Qm (.slice pp1 bs.length cc2) (Qm (.int .i64 (j : Int)) (Qv (fun w hw => x_indexAddr gA15 (off := oA16) (j : Int) 6 (oA16 + j * 6) t14 rfl el_22 t0 rfl w) (Qf (oA16 + j * 6 + 1) fi_121_1 rfl (Qf (oA16 + j * 6 + 1) fi_119_0 rfl (Qv (fun w hw => x_loadAgg [.int .i64 ((bs.getD j default).ev.ev.src.v), .int .i64 ((bs.getD j default).ev.ev.seq.v)] 2 ag_116 rfl (hw.imi_at (i := 0) rfl t0) t32 (elem_sub bndCell_len (hx22 t0) t0 default 1 2 t9)) (Qv (fun w hw => x_aeql ((decide ((bs.getD k default).ev.ev.src.v = (bs.getD j default).ev.ev.src.v) && (decide ((bs.getD k default).ev.ev.seq.v = (bs.getD j default).ev.ev.seq.v) && true))) gd_116 ev_116 rfl rfl rfl w) (q_nil ?_)))))))))))))
      intro w62 H63
      by_cases hb64 : ((decide ((bs.getD k default).ev.ev.src.v = (bs.getD j default).ev.ev.src.v) && (decide ((bs.getD k default).ev.ev.seq.v = (bs.getD j default).ev.ev.seq.v) && true))) = true
      ·refine g_true (congrArg Value.bool hb64) (g_seq (g_region (Ag (.int .i64 100) (r_nil (Gr [.int .i64 100] Tryz.func50 Tryz.results50 ?_)))))
       have H65 : St W w62 F := (H63.mv [100, 100, 100, 100])
       have hA : ptAt bs j = 100 := by first | exact ptAt_2 t0 t11 | exact ptAt_3 (of_decide_eq_true t11) | (exact ptAt_3 (ids_yes (q := k) t0 t0 (idOf_eq.2 (by simpa using hb64)))) | (refine ptAt_1 ?_; rintro (h | ⟨h, h2⟩) <;> simp_all)
       exact ⟨vint (ptE_at t0 hz t0 hA t9).symm, H65⟩
      have hb64 := eq_false_of_ne_true hb64
      refine g_false (congrArg Value.bool hb64) (g_skip (g_inBlock (g_region (Mv (.int .i64 (k : Int)) (rc (s_add ((k : Int) + 1) rfl rfl (wi64 t0) rfl (Ag (.int .i64 ((k : Int) + 1)) (r_nil ?_))))))))
      have H66 : St W w62 (_ :: _ :: _ :: _ :: F) := (H63.mv [3, 3, 3, 3])
      exact nx60 (k + 1) _ _ ⟨t0, (fun q hq => (Nat.lt_or_ge q k).elim (hd q) (fun h => by rw [show q = k from by omega, idOf_eq]; simpa using hb64)), H66⟩ t7 t1
     refine rc (s_lss false rfl rfl (dfalse hc61) rfl (r_nil (g_false rfl (g_exit t39 (g_seq (g_region ?_))))))
     have hns : ¬ idOf (bs.getD j default) ∈ (bs.take j).map idOf := ids_no (k := k) t0 t0 hd
     have H67 := bndsA_at j H59 (i := 2) rfl
     have hat4 := ptAt_4 (L := bs) (i := j) t20 t24 hns
     refine Mv (.slice pp1 bs.length cc2) (Mv (.int .i64 (j : Int)) (rc (s_indexAddr gA15 (off := oA16) (j : Int) 6 (oA16 + j * 6) t14 rfl el_22 t0 rfl rfl (Fa (oA16 + j * 6 + 1) fi_121_1 rfl (rc (s_loadAgg (evl ((bs.getD j default).ev.ev) ((bs.getD j default).ev.p) ((bs.getD j default).ev.c)) 5 ag_119 rfl (H67.imi_at (i := 1) rfl t0) t32 (elem_sub bndCell_len (hx22 t0) t0 default 1 5 t9) rfl (rc (s_call [.agg (evc ((bs.getD j default).ev.ev) ((bs.getD j default).ev.p) ((bs.getD j default).ev.c))] pl_86 rfl rfl (ref04_Check ((bs.getD j default).ev.ev) (.slice ((bs.getD j default).ev.p) ((bs.getD j default).ev.ev.attrs.length) ((bs.getD j default).ev.c)) (j := 0) rfl H67) ?_))))))))
     rintro _ w68 ⟨rfl, H69⟩
     refine Ag (.int .i64 (evE ((bs.getD j default).ev.ev))) (r_nil (g_seq (g_region (Mv (.int .i64 (evE ((bs.getD j default).ev.ev))) ?_))))
     by_cases hc70 : evE ((bs.getD j default).ev.ev) = 0
     ·refine rc (s_neq false rfl rfl (ntrue hc70) rfl (r_nil (g_false rfl (g_skip (g_inBlock (g_region (Mv (.int .i64 (j : Int)) (rc (s_add ((j : Int) + 1) rfl rfl (wi64 t0) rfl (Ag (.int .i64 ((j : Int) + 1)) (r_nil ?_)))))))))))
      have H71 : St W w68 (_ :: _ :: _ :: _ :: F) := (H69.mv [4, 4, 4, 4, 104])
      exact nx29 (j + 1) _ _ ⟨t0, (fun q hq => (Nat.lt_or_ge q j).elim (hz q) (fun h => by rw [show q = j from by omega, hat4]; assumption)), H71⟩ t7 t1
     refine rc (s_neq true rfl rfl (nfalse hc70) rfl (r_nil (g_true rfl (g_seq (g_region (Mv (.int .i64 (evE ((bs.getD j default).ev.ev))) (Ag (.int .i64 (evE ((bs.getD j default).ev.ev))) (r_nil (Gr [.int .i64 (evE ((bs.getD j default).ev.ev))] Tryz.func50 Tryz.results50 ?_)))))))))
     have H72 : St W w68 F := (H69.mv [100, 100, 100, 100, 100])
     exact ⟨vint (ptE_at t0 hz t0 (hat4) t11).symm, H72⟩
    refine Qu (fun w hw => x_neq true rfl rfl (nfalse hc33) w) (q_cons (q_take rfl (congrArg some hb31) (Qu (fun w hw => x_pick_f (.bool true) rfl rfl w) (Qv (fun w hw => x_pick_t (.bool true) (by exact congrArg Value.bool hb31) rfl w) (Qm (.bool true) (Qp (Qp (Qp (q_cons (q_passN rfl rfl rfl rfl (q_cons (q_passN rfl rfl rfl rfl (q_cons (q_passN rfl rfl rfl rfl (q_cons (q_passN rfl rfl rfl rfl (q_cons (q_passN rfl rfl rfl rfl (q_cons (q_passN rfl rfl rfl rfl (q_cons (q_passN rfl rfl rfl rfl (q_cons (q_passN rfl rfl rfl rfl (q_cons (q_passN rfl rfl rfl rfl (q_cons (q_passN rfl rfl rfl rfl (q_cons (q_passN rfl rfl rfl rfl (q_cons (q_passN rfl rfl rfl rfl (Qp (Qv (fun w hw => x_pick_t (.bool true) rfl rfl w) (q_nil ?_)))))))))))))))))))))))))))))))))))
    intro w73 H74
    refine g_true rfl (g_seq (g_region (Ag (.int .i64 100) (r_nil (Gr [.int .i64 100] Tryz.func50 Tryz.results50 ?_)))))
    have H75 : St W w73 F := (H74.mv [100, 100, 100, 100])
    have hA : ptAt bs j = 100 := by first | exact ptAt_2 t0 t11 | exact ptAt_3 (of_decide_eq_true t11) | (exact ptAt_3 (ids_yes (q := k) t0 t0 (idOf_eq.2 (by simpa using hz)))) | (refine ptAt_1 ?_; rintro (h | ⟨h, h2⟩) <;> simp_all)
    exact ⟨vint (ptE_at t0 hz t0 hA t9).symm, H75⟩
   refine Qu (fun w hw => x_sneq true rfl rfl (nfalse hc32) w) (q_cons (q_take rfl (congrArg some hb31) (Qn (.bool true) (Qp (Qp (Qp (q_cons (q_take rfl (congrArg some hb31) (Qu (fun w hw => x_pick_t (.bool true) rfl rfl w) (Qv (fun w hw => x_pick_t (.bool true) (by exact congrArg Value.bool hb31) rfl w) (Qm (.bool true) (Qp (Qp (Qp (q_cons (q_passN rfl rfl rfl rfl (q_cons (q_passN rfl rfl rfl rfl (q_cons (q_passN rfl rfl rfl rfl (q_cons (q_passN rfl rfl rfl rfl (q_cons (q_passN rfl rfl rfl rfl (q_cons (q_passN rfl rfl rfl rfl (q_cons (q_passN rfl rfl rfl rfl (q_cons (q_passN rfl rfl rfl rfl (q_cons (q_passN rfl rfl rfl rfl (q_cons (q_passN rfl rfl rfl rfl (q_cons (q_passN rfl rfl rfl rfl (q_cons (q_passN rfl rfl rfl rfl (Qp (Qv (fun w hw => x_pick_t (.bool true) rfl rfl w) (q_nil ?_)))))))))))))))))))))))))))))))))))))))))
   intro w76 H77
   refine g_true rfl (g_seq (g_region (Ag (.int .i64 100) (r_nil (Gr [.int .i64 100] Tryz.func50 Tryz.results50 ?_)))))
   have H78 : St W w76 F := (H77.mv [100, 100, 100, 100])
   have hA : ptAt bs j = 100 := by first | exact ptAt_2 t0 t11 | exact ptAt_3 (of_decide_eq_true t11) | (exact ptAt_3 (ids_yes (q := k) t0 t0 (idOf_eq.2 (by simpa using hz)))) | (refine ptAt_1 ?_; rintro (h | ⟨h, h2⟩) <;> simp_all)
   exact ⟨vint (ptE_at t0 hz t0 hA t9).symm, H78⟩
  have hb31 := eq_false_of_ne_true hb31
  refine Qh hb31 (Qh hb31 (Qh hb31 (Qh hb31 (Qh hb31 (Qh hb31 (Qh hb31 (q_cons (q_passN rfl rfl rfl rfl (q_cons (q_passN rfl rfl rfl rfl (q_cons (q_passN rfl rfl rfl rfl (Qh hb31 (Qv (fun w hw => x_pick_f (.bool false) (by exact congrArg Value.bool hb31) rfl w) (Qm (.bool false) (Qt (Qn (.int .i64 (j : Int)) (Qt ?_))))))))))))))))))
  by_cases hc79 : (0 : Int) < (j : Int)
  ·refine Qu (fun w hw => x_gtr true rfl rfl (dtrue hc79) w) (Qt (Qn (.bool true) (Qt (Qn (.slice pp1 bs.length cc2) (Qt (Qn (.int .i64 (j : Int)) (Qt (Qu (fun w hw => x_indexAddr gA15 (off := oA16) (j : Int) 6 (oA16 + j * 6) t14 rfl el_22 t0 rfl w) (Qt (Qu (fun w hw => x_fieldAddr 121 0 0 (oA16 + j * 6) 9 rfl fi_121_0 rfl w) (Qt (Qu (fun w hw => x_load (.string ((bs.getD j default).var.v)) ag_9 rfl (hw.imi_at (i := 0) rfl t0) (elem_cell (L := bs) (i := j) bndCell_len (hx22 t0) t0 default 0 t9 _ rfl)) (Qt (Qn (.slice pp1 bs.length cc2) (Qt (Qn (.int .i64 (j : Int)) (Qt (Qu (fun w hw => x_sub ((j : Int) - 1) rfl rfl (wi64 t0) w) (Qt (Qu (fun w hw => x_indexAddr gA15 (off := oA16) ((j : Int) - 1) 6 (oA16 + (j - 1) * 6) t14 rfl el_22 t0 t49 w) (Qt (Qu (fun w hw => x_fieldAddr 121 0 0 (oA16 + (j - 1) * 6) 9 rfl fi_121_0 rfl w) (Qt (Qu (fun w hw => x_load (.string ((bs.getD (j - 1) default).var.v)) ag_9 rfl (hw.imi_at (i := 0) rfl t0) (elem_cell (L := bs) (i := j - 1) bndCell_len (hx22 t0) t0 default 0 t9 _ rfl)) (Qt (Qu (fun w hw => x_sleq ((sLt ((bs.getD j default).var.v) ((bs.getD (j - 1) default).var.v) || decide (((bs.getD j default).var.v) = ((bs.getD (j - 1) default).var.v)))) rfl rfl rfl w) (Qt (Qu (fun w hw => x_pick_t (.bool (sLt ((bs.getD j default).var.v) ((bs.getD (j - 1) default).var.v) || decide (((bs.getD j default).var.v) = ((bs.getD (j - 1) default).var.v)))) rfl rfl w) (Qv (fun w hw => x_pick_f (.bool (sLt ((bs.getD j default).var.v) ((bs.getD (j - 1) default).var.v) || decide (((bs.getD j default).var.v) = ((bs.getD (j - 1) default).var.v)))) rfl rfl w) (q_nil ?_))))))))))))))))))))))))))))))
   intro w80 H81
   by_cases hb82 : ((sLt ((bs.getD j default).var.v) ((bs.getD (j - 1) default).var.v) || decide (((bs.getD j default).var.v) = ((bs.getD (j - 1) default).var.v)))) = true
   ·refine g_true (congrArg Value.bool hb82) (g_seq (g_region (Ag (.int .i64 100) (r_nil (Gr [.int .i64 100] Tryz.func50 Tryz.results50 ?_)))))
    have H83 : St W w80 F := (H81.mv [100, 100, 100, 100])
    have hA : ptAt bs j = 100 := by first | exact ptAt_2 t0 t11 | exact ptAt_3 (of_decide_eq_true t11) | (exact ptAt_3 (ids_yes (q := k) t0 t0 (idOf_eq.2 (by simpa using hz)))) | (refine ptAt_1 ?_; rintro (h | ⟨h, h2⟩) <;> simp_all)
    exact ⟨vint (ptE_at t0 hz t0 hA t9).symm, H83⟩
   have hb82 := eq_false_of_ne_true hb82
   refine g_false (congrArg Value.bool hb82) (g_skip (g_seq (g_seq (g_region (Ag (.int .i64 0) (r_nil (g_block ?_)))))))
   refine g_loop_inv (fun (k : Nat) => [(2, .int .i64 0), (3, .slice pp1 bs.length cc2), (4, .int .i64 (j : Int)), (5, .int .i64 (k : Int))]) (fun k w => (k ≤ j) ∧ (∀ q, q < k → ¬ idOf (bs.getD q default) = idOf (bs.getD j default)) ∧ St W w (imi (0 < bs.length) gA15 (.cells kA17 eA18 zA19) :: blk bk8 (.cells #[.slice pp1 bs.length cc2] 24 (0, 0)) :: bndsA bs :: Im 6 (.slice pp1 bs.length cc2) bs.length (bs.flatMap bndCell) :: F)) (fun k => j - k) (0) ?_ ?_ ?_
   ·exact t1
   ·exact ⟨t0, (fun q hq => by omega), H81⟩
   rintro k ρ84 w85 ⟨hkj, hd, H86⟩ nx87
   change Ends _ _ (upds ρ84 [(2, .int .i64 0), (3, .slice pp1 bs.length cc2), (4, .int .i64 (j : Int)), (5, .int .i64 (k : Int))]) w85
   refine g_seq (g_seq (g_region (Mv (.int .i64 (k : Int)) (Mv (.int .i64 (j : Int)) ?_))))
   by_cases hc88 : (k : Int) < (j : Int)
   ·refine rc (s_lss true rfl rfl (dtrue hc88) rfl (r_nil (g_true rfl (g_skip (g_seq (g_block (g_seq ?_)))))))
    refine g_quiet (fun w' => St W w' (imi (0 < bs.length) gA15 (.cells kA17 eA18 zA19) :: blk bk8 (.cells #[.slice pp1 bs.length cc2] 24 (0, 0)) :: bndsA bs :: Im 6 (.slice pp1 bs.length cc2) bs.length (bs.flatMap bndCell) :: F)) mixed t5 H86.drew ?_
    refine Qm (.slice pp1 bs.length cc2) (Qm (.int .i64 (k : Int)) (Qv (fun w hw => x_indexAddr gA15 (off := oA16) (k : Int) 6 (oA16 + k * 6) t14 rfl el_22 t0 rfl w) (Qf (oA16 + k * 6 + 1) fi_121_1 rfl (Qf (oA16 + k * 6 + 1) fi_119_0 rfl (Qv (fun w hw => x_loadAgg [.int .i64 ((bs.getD k default).ev.ev.src.v), .int .i64 ((bs.getD k default).ev.ev.seq.v)] 2 ag_116 rfl (hw.imi_at (i := 0) rfl t0) t50 (elem_sub bndCell_len (hx22 t0) t0 default 1 2 t9)) (Qm (.slice pp1 bs.length cc2) (Qm (.int .i64 (j : Int)) (Qv (fun w hw => x_indexAddr gA15 (off := oA16) (j : Int) 6 (oA16 + j * 6) t14 rfl el_22 t0 rfl w) (Qf (oA16 + j * 6 + 1) fi_121_1 rfl (Qf (oA16 + j * 6 + 1) fi_119_0 rfl (Qv (fun w hw => x_loadAgg [.int .i64 ((bs.getD j default).ev.ev.src.v), .int .i64 ((bs.getD j default).ev.ev.seq.v)] 2 ag_116 rfl (hw.imi_at (i := 0) rfl t0) t32 (elem_sub bndCell_len (hx22 t0) t0 default 1 2 t9)) (Qv (fun w hw => x_aeql ((decide ((bs.getD k default).ev.ev.src.v = (bs.getD j default).ev.ev.src.v) && (decide ((bs.getD k default).ev.ev.seq.v = (bs.getD j default).ev.ev.seq.v) && true))) gd_116 ev_116 rfl rfl rfl w) (q_nil ?_)))))))))))))
    intro w89 H90
    by_cases hb91 : ((decide ((bs.getD k default).ev.ev.src.v = (bs.getD j default).ev.ev.src.v) && (decide ((bs.getD k default).ev.ev.seq.v = (bs.getD j default).ev.ev.seq.v) && true))) = true
    ·refine g_true (congrArg Value.bool hb91) (g_seq (g_region (Ag (.int .i64 100) (r_nil (Gr [.int .i64 100] Tryz.func50 Tryz.results50 ?_)))))
     have H92 : St W w89 F := (H90.mv [100, 100, 100, 100])
     have hA : ptAt bs j = 100 := by first | exact ptAt_2 t0 t11 | exact ptAt_3 (of_decide_eq_true t11) | (exact ptAt_3 (ids_yes (q := k) t0 t0 (idOf_eq.2 (by simpa using hb91)))) | (refine ptAt_1 ?_; rintro (h | ⟨h, h2⟩) <;> simp_all)
     exact ⟨vint (ptE_at t0 hz t0 hA t9).symm, H92⟩
    have hb91 := eq_false_of_ne_true hb91
    refine g_false (congrArg Value.bool hb91) (g_skip (g_inBlock (g_region (Mv (.int .i64 (k : Int)) (rc (s_add ((k : Int) + 1) rfl rfl (wi64 t0) rfl (Ag (.int .i64 ((k : Int) + 1)) (r_nil ?_))))))))
    have H93 : St W w89 (_ :: _ :: _ :: _ :: F) := (H90.mv [3, 3, 3, 3])
    exact nx87 (k + 1) _ _ ⟨t0, (fun q hq => (Nat.lt_or_ge q k).elim (hd q) (fun h => by rw [show q = k from by omega, idOf_eq]; simpa using hb91)), H93⟩ t7 t1
   refine rc (s_lss false rfl rfl (dfalse hc88) rfl (r_nil (g_false rfl (g_exit t39 (g_seq (g_region ?_))))))
   have hns : ¬ idOf (bs.getD j default) ∈ (bs.take j).map idOf := ids_no (k := k) t0 t0 hd
   have H94 := bndsA_at j H86 (i := 2) rfl
   have hat4 := ptAt_4 (L := bs) (i := j) t20 t24 hns
   refine Mv (.slice pp1 bs.length cc2) (Mv (.int .i64 (j : Int)) (rc (s_indexAddr gA15 (off := oA16) (j : Int) 6 (oA16 + j * 6) t14 rfl el_22 t0 rfl rfl (Fa (oA16 + j * 6 + 1) fi_121_1 rfl (rc (s_loadAgg (evl ((bs.getD j default).ev.ev) ((bs.getD j default).ev.p) ((bs.getD j default).ev.c)) 5 ag_119 rfl (H94.imi_at (i := 1) rfl t0) t32 (elem_sub bndCell_len (hx22 t0) t0 default 1 5 t9) rfl (rc (s_call [.agg (evc ((bs.getD j default).ev.ev) ((bs.getD j default).ev.p) ((bs.getD j default).ev.c))] pl_86 rfl rfl (ref04_Check ((bs.getD j default).ev.ev) (.slice ((bs.getD j default).ev.p) ((bs.getD j default).ev.ev.attrs.length) ((bs.getD j default).ev.c)) (j := 0) rfl H94) ?_))))))))
   rintro _ w95 ⟨rfl, H96⟩
   refine Ag (.int .i64 (evE ((bs.getD j default).ev.ev))) (r_nil (g_seq (g_region (Mv (.int .i64 (evE ((bs.getD j default).ev.ev))) ?_))))
   by_cases hc97 : evE ((bs.getD j default).ev.ev) = 0
   ·refine rc (s_neq false rfl rfl (ntrue hc97) rfl (r_nil (g_false rfl (g_skip (g_inBlock (g_region (Mv (.int .i64 (j : Int)) (rc (s_add ((j : Int) + 1) rfl rfl (wi64 t0) rfl (Ag (.int .i64 ((j : Int) + 1)) (r_nil ?_)))))))))))
    have H98 : St W w95 (_ :: _ :: _ :: _ :: F) := (H96.mv [4, 4, 4, 4, 104])
    exact nx29 (j + 1) _ _ ⟨t0, (fun q hq => (Nat.lt_or_ge q j).elim (hz q) (fun h => by rw [show q = j from by omega, hat4]; assumption)), H98⟩ t7 t1
   refine rc (s_neq true rfl rfl (nfalse hc97) rfl (r_nil (g_true rfl (g_seq (g_region (Mv (.int .i64 (evE ((bs.getD j default).ev.ev))) (Ag (.int .i64 (evE ((bs.getD j default).ev.ev))) (r_nil (Gr [.int .i64 (evE ((bs.getD j default).ev.ev))] Tryz.func50 Tryz.results50 ?_)))))))))
   have H99 : St W w95 F := (H96.mv [100, 100, 100, 100, 100])
   exact ⟨vint (ptE_at t0 hz t0 (hat4) t11).symm, H99⟩
  refine Qu (fun w hw => x_gtr false rfl rfl (dfalse hc79) w) (Qt (Qn (.bool false) (Qp (Qp (Qp (Qp (Qp (Qp (Qp (Qp (Qp (Qp (Qp (Qp (Qt (Qu (fun w hw => x_pick_f (.bool false) rfl rfl w) (Qv (fun w hw => x_pick_f (.bool false) rfl rfl w) (q_nil ?_))))))))))))))))))
  intro w100 H101
  refine g_false rfl (g_skip (g_seq (g_seq (g_region (Ag (.int .i64 0) (r_nil (g_block ?_)))))))
  refine g_loop_inv (fun (k : Nat) => [(2, .int .i64 0), (3, .slice pp1 bs.length cc2), (4, .int .i64 (j : Int)), (5, .int .i64 (k : Int))]) (fun k w => (k ≤ j) ∧ (∀ q, q < k → ¬ idOf (bs.getD q default) = idOf (bs.getD j default)) ∧ St W w (imi (0 < bs.length) gA15 (.cells kA17 eA18 zA19) :: blk bk8 (.cells #[.slice pp1 bs.length cc2] 24 (0, 0)) :: bndsA bs :: Im 6 (.slice pp1 bs.length cc2) bs.length (bs.flatMap bndCell) :: F)) (fun k => j - k) (0) ?_ ?_ ?_
  ·exact t1
  ·exact ⟨t0, (fun q hq => by omega), H101⟩
  rintro k ρ102 w103 ⟨hkj, hd, H104⟩ nx105
  change Ends _ _ (upds ρ102 [(2, .int .i64 0), (3, .slice pp1 bs.length cc2), (4, .int .i64 (j : Int)), (5, .int .i64 (k : Int))]) w103
  refine g_seq (g_seq (g_region (Mv (.int .i64 (k : Int)) (Mv (.int .i64 (j : Int)) ?_))))
  by_cases hc106 : (k : Int) < (j : Int)
  ·refine rc (s_lss true rfl rfl (dtrue hc106) rfl (r_nil (g_true rfl (g_skip (g_seq (g_block (g_seq ?_)))))))
   refine g_quiet (fun w' => St W w' (imi (0 < bs.length) gA15 (.cells kA17 eA18 zA19) :: blk bk8 (.cells #[.slice pp1 bs.length cc2] 24 (0, 0)) :: bndsA bs :: Im 6 (.slice pp1 bs.length cc2) bs.length (bs.flatMap bndCell) :: F)) mixed t5 H104.drew ?_
   refine Qm (.slice pp1 bs.length cc2) (Qm (.int .i64 (k : Int)) (Qv (fun w hw => x_indexAddr gA15 (off := oA16) (k : Int) 6 (oA16 + k * 6) t14 rfl el_22 t0 rfl w) (Qf (oA16 + k * 6 + 1) fi_121_1 rfl (Qf (oA16 + k * 6 + 1) fi_119_0 rfl (Qv (fun w hw => x_loadAgg [.int .i64 ((bs.getD k default).ev.ev.src.v), .int .i64 ((bs.getD k default).ev.ev.seq.v)] 2 ag_116 rfl (hw.imi_at (i := 0) rfl t0) t50 (elem_sub bndCell_len (hx22 t0) t0 default 1 2 t9)) (Qm (.slice pp1 bs.length cc2) (Qm (.int .i64 (j : Int)) (Qv (fun w hw => x_indexAddr gA15 (off := oA16) (j : Int) 6 (oA16 + j * 6) t14 rfl el_22 t0 rfl w) (Qf (oA16 + j * 6 + 1) fi_121_1 rfl (Qf (oA16 + j * 6 + 1) fi_119_0 rfl (Qv (fun w hw => x_loadAgg [.int .i64 ((bs.getD j default).ev.ev.src.v), .int .i64 ((bs.getD j default).ev.ev.seq.v)] 2 ag_116 rfl (hw.imi_at (i := 0) rfl t0) t32 (elem_sub bndCell_len (hx22 t0) t0 default 1 2 t9)) (Qv (fun w hw => x_aeql ((decide ((bs.getD k default).ev.ev.src.v = (bs.getD j default).ev.ev.src.v) && (decide ((bs.getD k default).ev.ev.seq.v = (bs.getD j default).ev.ev.seq.v) && true))) gd_116 ev_116 rfl rfl rfl w) (q_nil ?_)))))))))))))
   intro w107 H108
   by_cases hb109 : ((decide ((bs.getD k default).ev.ev.src.v = (bs.getD j default).ev.ev.src.v) && (decide ((bs.getD k default).ev.ev.seq.v = (bs.getD j default).ev.ev.seq.v) && true))) = true
   ·refine g_true (congrArg Value.bool hb109) (g_seq (g_region (Ag (.int .i64 100) (r_nil (Gr [.int .i64 100] Tryz.func50 Tryz.results50 ?_)))))
    have H110 : St W w107 F := (H108.mv [100, 100, 100, 100])
    have hA : ptAt bs j = 100 := by first | exact ptAt_2 t0 t11 | exact ptAt_3 (of_decide_eq_true t11) | (exact ptAt_3 (ids_yes (q := k) t0 t0 (idOf_eq.2 (by simpa using hb109)))) | (refine ptAt_1 ?_; rintro (h | ⟨h, h2⟩) <;> simp_all)
    exact ⟨vint (ptE_at t0 hz t0 hA t9).symm, H110⟩
   have hb109 := eq_false_of_ne_true hb109
   refine g_false (congrArg Value.bool hb109) (g_skip (g_inBlock (g_region (Mv (.int .i64 (k : Int)) (rc (s_add ((k : Int) + 1) rfl rfl (wi64 t0) rfl (Ag (.int .i64 ((k : Int) + 1)) (r_nil ?_))))))))
   have H111 : St W w107 (_ :: _ :: _ :: _ :: F) := (H108.mv [3, 3, 3, 3])
   exact nx105 (k + 1) _ _ ⟨t0, (fun q hq => (Nat.lt_or_ge q k).elim (hd q) (fun h => by rw [show q = k from by omega, idOf_eq]; simpa using hb109)), H111⟩ t7 t1
  refine rc (s_lss false rfl rfl (dfalse hc106) rfl (r_nil (g_false rfl (g_exit t39 (g_seq (g_region ?_))))))
  have hns : ¬ idOf (bs.getD j default) ∈ (bs.take j).map idOf := ids_no (k := k) t0 t0 hd
  have H112 := bndsA_at j H104 (i := 2) rfl
  have hat4 := ptAt_4 (L := bs) (i := j) t20 t24 hns
  refine Mv (.slice pp1 bs.length cc2) (Mv (.int .i64 (j : Int)) (rc (s_indexAddr gA15 (off := oA16) (j : Int) 6 (oA16 + j * 6) t14 rfl el_22 t0 rfl rfl (Fa (oA16 + j * 6 + 1) fi_121_1 rfl (rc (s_loadAgg (evl ((bs.getD j default).ev.ev) ((bs.getD j default).ev.p) ((bs.getD j default).ev.c)) 5 ag_119 rfl (H112.imi_at (i := 1) rfl t0) t32 (elem_sub bndCell_len (hx22 t0) t0 default 1 5 t9) rfl (rc (s_call [.agg (evc ((bs.getD j default).ev.ev) ((bs.getD j default).ev.p) ((bs.getD j default).ev.c))] pl_86 rfl rfl (ref04_Check ((bs.getD j default).ev.ev) (.slice ((bs.getD j default).ev.p) ((bs.getD j default).ev.ev.attrs.length) ((bs.getD j default).ev.c)) (j := 0) rfl H112) ?_))))))))
  rintro _ w113 ⟨rfl, H114⟩
  refine Ag (.int .i64 (evE ((bs.getD j default).ev.ev))) (r_nil (g_seq (g_region (Mv (.int .i64 (evE ((bs.getD j default).ev.ev))) ?_))))
  by_cases hc115 : evE ((bs.getD j default).ev.ev) = 0
  ·refine rc (s_neq false rfl rfl (ntrue hc115) rfl (r_nil (g_false rfl (g_skip (g_inBlock (g_region (Mv (.int .i64 (j : Int)) (rc (s_add ((j : Int) + 1) rfl rfl (wi64 t0) rfl (Ag (.int .i64 ((j : Int) + 1)) (r_nil ?_)))))))))))
   have H116 : St W w113 (_ :: _ :: _ :: _ :: F) := (H114.mv [4, 4, 4, 4, 104])
   exact nx29 (j + 1) _ _ ⟨t0, (fun q hq => (Nat.lt_or_ge q j).elim (hz q) (fun h => by rw [show q = j from by omega, hat4]; assumption)), H116⟩ t7 t1
  refine rc (s_neq true rfl rfl (nfalse hc115) rfl (r_nil (g_true rfl (g_seq (g_region (Mv (.int .i64 (evE ((bs.getD j default).ev.ev))) (Ag (.int .i64 (evE ((bs.getD j default).ev.ev))) (r_nil (Gr [.int .i64 (evE ((bs.getD j default).ev.ev))] Tryz.func50 Tryz.results50 ?_)))))))))
  have H117 : St W w113 F := (H114.mv [100, 100, 100, 100, 100])
  exact ⟨vint (ptE_at t0 hz t0 (hat4) t11).symm, H117⟩
 refine rc (s_lss false rfl rfl (dfalse hc30) rfl (r_nil (g_false rfl (g_exit t39 (g_seq (g_region (Ag (.int .i64 0) (r_nil (Gr [.int .i64 0] Tryz.func50 Tryz.results50 ?_)))))))))
 have H118 : St W w27 F := (H28.mv [100, 100, 100, 100])
 exact ⟨vint (ptE_all t0 (fun q hq => hz q t0)).symm, H118⟩
theorem match_Clone (bs : List BoundD) (bv : Value) (hbl : bs.length * 80 ≤ 140737488355328) (hb9 : ∀ i, i < bs.length → (bs.getD i default).ev.ev.attrs.length * 48 ≤ 140737488355328) {ip : Nat} (hp : F[ip]? = some (Im 6 bv bs.length (bs.flatMap bndCell))) {iq : Nat} (hq : F[iq]? = some (bndsA bs)) (H : St W w F) : Calls Tryz.prog 91 #[.agg #[bv]] w (Ret fun v w' => ∃ (L : List BoundD) (q : Option Addr) (d : Nat), v = .agg #[.slice q L.length d] ∧ L.map BoundD.v = bs.map BoundD.v ∧ St W w' (Im 6 (.slice q L.length d) L.length (L.flatMap bndCell) :: bndsA L :: F)) := by
 obtain ⟨pp1, cc2, rfl, hn3⟩ := Rd.shape (Im.rd H (i := ip) hp)
 have H4 := H.dup (i := ip + 0) t55 (Im_pers _ _ _ _)
 have H5 : St W w (_ :: F) := H4
 have H6 := H5.dup (i := iq + 1) t51 (bndsA_pers _)
 have H7 : St W w (_ :: _ :: F) := H6
 have hmlb := Im.len H7 (i := 1) rfl
 refine calls_of_go (n := 25) Tryz.func91 rfl Tryz.ntmps91 rfl ?_
 refine g_seq (g_region (Bx H7 24 #[.slice pp1 bs.length cc2] (fun bk8 w9 H10 => rc (s_alloc H10 24 ze_24 rfl (fun bk11 w12 H13 => r_nil (g_seq (g_region (Ag (.slice none 0 0) (r_nil (g_seq (g_seq (g_region (Fa 0 fi_24_0 rfl (Lo (.slice pp1 bs.length cc2) ag_22 H13 1 (rc (s_len bs.length rfl ⟨_, un_22⟩ rfl (Mv (.int .i64 0) (r_nil (g_block ?_)))))))))))))))))))
 obtain ⟨pA14, cA15, gA16, oA17, kA18, eA19, zA20, he26, hn21, hp22, hx23, hs24, hml, H25⟩ := Im.open_ H13 (i := 3) rfl
 obtain ⟨rfl, rfl⟩ : pp1 = pA14 ∧ cc2 = cA15 := by injection he26 with a_ b_ c_; exact ⟨a_, c_⟩
 have H27 := Row.nil_intro H25 121 6
 have H28 := bndsA_nil H27
 have H29 : St W w12 (_ :: _ :: _ :: _ :: _ :: _ :: _ :: F) := (H28.mv [6, 6, 6, 6, 6, 5, 6])
 refine g_loop_inv (fun ((j, pre, q, d) : Nat × (List BoundD) × (Option Addr) × Nat) => [(2, .pointer (pa bk11)), (3, .slice q pre.length d), (7, .slice pp1 bs.length cc2), (8, .int .i64 (bs.length : Int)), (9, .int .i64 (j : Int))]) (fun (j, pre, q, d) w => (j ≤ bs.length) ∧ (pre.map BoundD.v = (bs.take j).map BoundD.v) ∧ St W w (Row 121 6 (.slice q pre.length d) pre.length (pre.flatMap bndCell) :: bndsA pre :: imi (0 < bs.length) gA16 (.cells kA18 eA19 zA20) :: blk bk11 (.cells #[.slice none 0 0] 24 (0, 0)) :: blk bk8 (.cells #[.slice pp1 bs.length cc2] 24 (0, 0)) :: bndsA bs :: Im 6 (.slice pp1 bs.length cc2) bs.length (bs.flatMap bndCell) :: F)) (fun (j, pre, q, d) => bs.length - j) (0, [], none, 0) ?_ ?_ ?_
 ·exact t1
 ·exact ⟨t0, rfl, H29⟩
 rintro ⟨j, pre, q, d⟩ ρ30 w31 ⟨hjn, hp9, H32⟩ nx33
 change Ends _ _ (upds ρ30 [(2, .pointer (pa bk11)), (3, .slice q pre.length d), (7, .slice pp1 bs.length cc2), (8, .int .i64 (bs.length : Int)), (9, .int .i64 (j : Int))]) w31
 have hpl := bv_len hp9
 rw [List.length_take] at hpl
 refine g_seq (g_region ?_)
 by_cases hc34 : (j : Int) < (bs.length : Int)
 ·refine rc (s_lss true rfl rfl (dtrue hc34) rfl (r_nil (g_seq (g_true rfl (g_skip (g_seq (g_block (g_seq (g_region (rc (s_indexAddr gA16 (off := oA17) (j : Int) 6 (oA17 + j * 6) t57 rfl el_22 t0 rfl rfl (rc (s_loadAgg (bnl (bs.getD j default)) 6 ag_121 rfl (H32.imi_at (i := 2) rfl t0) (by have := elem_size (i := j) (s := 6) (hs24 t0) t0; omega) (elem_take bndCell_len (hx23 t0) t0 default) rfl (rc (s_alloc H32 121 ze_121 rfl (fun bk35 w36 H37 => Sa H37 0 rfl (bnc (bs.getD j default)) 6 sz_121 (bnc (bs.getD j default)) (fun w38 H39 => r_nil ?_)))))))))))))))))
  have H40 : St W w38 (_ :: _ :: _ :: _ :: _ :: _ :: _ :: _ :: F) := (H39.mv [1, 7, 7, 7, 7, 7, 7, 7])
  refine g_mix (fun t_ w => St W w (blk bk35 (.cells (bnc (bs.getD j default)) 121 (0, 0)) :: bndsA pre :: imi (0 < bs.length) gA16 (.cells kA18 eA19 zA20) :: blk bk11 (.cells #[.slice none 0 0] 24 (0, 0)) :: blk bk8 (.cells #[.slice pp1 bs.length cc2] 24 (0, 0)) :: bndsA bs :: Im 6 (.slice pp1 bs.length cc2) bs.length (bs.flatMap bndCell) :: t_)) (Row 121 6 (.slice q pre.length d) pre.length (pre.flatMap bndCell) :: F) mixed 10 rfl H40.drew ?_
  refine Fv 0 rfl (fun _ w _ => x_move (.slice q pre.length d) rfl w) (Fv 1 rfl (fun t_ w hw => x_fieldAddr 121 0 0 0 9 rfl fi_121_0 rfl w) (Fv 2 rfl (fun t_ w hw => x_load (.string ((bs.getD j default).var.v)) ag_9 rfl (hw.blk_at (i := 0) rfl) rfl) (Fv 3 rfl (fun t_ w hw => x_fieldAddr 121 1 1 1 119 rfl fi_121_1 rfl w) (Fv 4 rfl (fun t_ w hw => x_loadAgg (evl ((bs.getD j default).ev.ev) ((bs.getD j default).ev.p) ((bs.getD j default).ev.c)) 5 ag_119 rfl (hw.blk_at (i := 0) rfl) (nbl rfl) rfl) ?_))))
  refine f_all (rs := [5]) t5 t13 ?_
  refine a_cons ⟨_, rfl, ?_⟩ (fun x hx => absurd hx t13)
  intro w41 H42
  try dsimp only at H42
  have H43 := bndsA_at j H42 (i := 5) rfl
  have hab := hb9 j t0
  refine s_call [.agg (evc ((bs.getD j default).ev.ev) ((bs.getD j default).ev.p) ((bs.getD j default).ev.c))] pl_113 rfl rfl (event_Clone ((bs.getD j default).ev.ev) (.slice ((bs.getD j default).ev.p) ((bs.getD j default).ev.ev.attrs.length) ((bs.getD j default).ev.c)) t0 (j := 0) rfl H43) ?_
  rintro _ w46 ⟨pp44, cc45, rfl, H47⟩
  have H48 : St W w46 (_ :: _ :: _ :: _ :: _ :: _ :: _ :: _ :: _ :: _ :: F) := (H47.mv [9, 2, 2, 9, 9, 9, 9, 9, 9, 9])
  refine ⟨Attrs (.slice pp44 ((bs.getD j default).ev.ev.attrs.length) cc45) ((bs.getD j default).ev.ev.attrs) :: Attrs (.slice ((bs.getD j default).ev.p) ((bs.getD j default).ev.ev.attrs.length) ((bs.getD j default).ev.c)) ((bs.getD j default).ev.ev.attrs) :: Row 121 6 (.slice q pre.length d) pre.length (pre.flatMap bndCell) :: F, ?_, H48⟩
  change FReg _ _ _ _ _ #[true, true, true, true, true, true, false, false, false, false] _ _
  refine Fv 6 rfl (fun t_ w hw => x_build (cs := #[.string ((bs.getD j default).var.v), .int .i64 ((bs.getD j default).ev.ev.src.v), .int .i64 ((bs.getD j default).ev.ev.seq.v), .int .i64 ((bs.getD j default).ev.ev.time.v), .string ((bs.getD j default).ev.ev.typ.v), .slice pp44 ((bs.getD j default).ev.ev.attrs.length) cc45]) t5 w) ?_
  refine f_all (rs := [7]) t5 t13 ?_
  refine a_cons ⟨_, rfl, ?_⟩ (fun x hx => absurd hx t13)
  intro w49 H50
  try dsimp only at H50
  refine s_buildSlice H50 6 1 (cs := #[.string ((bs.getD j default).var.v), .int .i64 ((bs.getD j default).ev.ev.src.v), .int .i64 ((bs.getD j default).ev.ev.seq.v), .int .i64 ((bs.getD j default).ev.ev.time.v), .string ((bs.getD j default).ev.ev.typ.v), .slice pp44 ((bs.getD j default).ev.ev.attrs.length) cc45]) #[.string ByteArray.empty, .int .i64 0, .int .i64 0, .int .i64 0, .string ByteArray.empty, .slice none 0 0] el_22 ze_121 t9 t9 t5 rfl ?_; intro bk51 w52 H53
  have H54 : St W w52 (_ :: _ :: _ :: _ :: _ :: _ :: _ :: _ :: _ :: _ :: _ :: F) := (H53.mv [10, 10, 10, 3, 10])
  have H55 : St W w52 (_ :: _ :: _ :: _ :: _ :: _ :: _ :: _ :: _ :: _ :: _ :: F) := (H54.mv [10, 10, 10, 10, 10])
  have H56 : St W w52 (_ :: _ :: _ :: _ :: _ :: _ :: _ :: _ :: _ :: _ :: _ :: F) := (H55.move 10 rfl)
  refine ⟨blk bk51 (.cells #[.string ((bs.getD j default).var.v), .int .i64 ((bs.getD j default).ev.ev.src.v), .int .i64 ((bs.getD j default).ev.ev.seq.v), .int .i64 ((bs.getD j default).ev.ev.time.v), .string ((bs.getD j default).ev.ev.typ.v), .slice pp44 ((bs.getD j default).ev.ev.attrs.length) cc45] 121 (0, 0)) :: Attrs (.slice pp44 ((bs.getD j default).ev.ev.attrs.length) cc45) ((bs.getD j default).ev.ev.attrs) :: Attrs (.slice ((bs.getD j default).ev.p) ((bs.getD j default).ev.ev.attrs.length) ((bs.getD j default).ev.c)) ((bs.getD j default).ev.ev.attrs) :: Row 121 6 (.slice q pre.length d) pre.length (pre.flatMap bndCell) :: F, ?_, H56⟩
  change FReg _ _ _ _ _ #[true, true, true, true, true, true, true, true, false, false] _ _
  refine f_all (rs := [8]) t5 t13 ?_
  refine a_cons ⟨_, rfl, ?_⟩ (fun x hx => absurd hx t13)
  intro w57 H58
  try dsimp only at H58
  refine s_append H58 10 rfl rfl rfl (rd_blk (H58.blk_at (i := 7) rfl) rfl (nbl rfl) t15) ap_22 t9 t12 t0 (n' := pre.length + 1) (xs' := pre.flatMap bndCell ++ ([.string ((bs.getD j default).var.v), .int .i64 ((bs.getD j default).ev.ev.src.v), .int .i64 ((bs.getD j default).ev.ev.seq.v), .int .i64 ((bs.getD j default).ev.ev.time.v), .string ((bs.getD j default).ev.ev.typ.v), .slice pp44 ((bs.getD j default).ev.ev.attrs.length) cc45] : List Value)) t0 t16 rfl ?_; intro vv59 w60 H61 hn62
  obtain ⟨pp63, cc64, rfl⟩ := Row.slice H61 (i := 10) rfl
  refine ⟨blk bk51 (.cells #[.string ((bs.getD j default).var.v), .int .i64 ((bs.getD j default).ev.ev.src.v), .int .i64 ((bs.getD j default).ev.ev.seq.v), .int .i64 ((bs.getD j default).ev.ev.time.v), .string ((bs.getD j default).ev.ev.typ.v), .slice pp44 ((bs.getD j default).ev.ev.attrs.length) cc45] 121 (0, 0)) :: Attrs (.slice pp44 ((bs.getD j default).ev.ev.attrs.length) cc45) ((bs.getD j default).ev.ev.attrs) :: Attrs (.slice ((bs.getD j default).ev.p) ((bs.getD j default).ev.ev.attrs.length) ((bs.getD j default).ev.c)) ((bs.getD j default).ev.ev.attrs) :: Row 121 6 (.slice pp63 (pre.length + 1) cc64) (pre.length + 1) (pre.flatMap bndCell ++ ([.string ((bs.getD j default).var.v), .int .i64 ((bs.getD j default).ev.ev.src.v), .int .i64 ((bs.getD j default).ev.ev.seq.v), .int .i64 ((bs.getD j default).ev.ev.time.v), .string ((bs.getD j default).ev.ev.typ.v), .slice pp44 ((bs.getD j default).ev.ev.attrs.length) cc45] : List Value)) :: F, ?_, H61⟩
  change FReg _ _ _ _ _ #[true, true, true, true, true, true, true, true, true, false] _ _
  refine Fv 9 rfl (fun t_ w hw => x_assign (.slice pp63 (pre.length + 1) cc64) rfl w) ?_
  refine f_done t5 ?_
  intro w65 H66
  refine g_inBlock (g_region (rc (s_add ((j : Int) + 1) rfl rfl (wi64 t0) rfl (Mv (.int .i64 ((j : Int) + 1)) (r_nil ?_)))))
  have H67 : St W w65 (_ :: _ :: _ :: _ :: _ :: _ :: _ :: _ :: _ :: _ :: _ :: F) := (H66.mv [1, 8])
  have H68 : St W w65 (bndsA (pre ++ [(⟨(bs.getD j default).var, ⟨(bs.getD j default).ev.ev, pp44, cc45⟩⟩ : BoundD)]) :: _ :: _ :: _ :: _ :: _ :: _ :: _ :: _ :: _ :: F) := bndsA_snoc (x := (⟨(bs.getD j default).var, ⟨(bs.getD j default).ev.ev, pp44, cc45⟩⟩ : BoundD)) H67
  have H69 : St W w65 (bndsA (pre ++ [(⟨(bs.getD j default).var, ⟨(bs.getD j default).ev.ev, pp44, cc45⟩⟩ : BoundD)]) :: blk bk35 (.cells #[.string ((bs.getD j default).var.v), .int .i64 ((bs.getD j default).ev.ev.src.v), .int .i64 ((bs.getD j default).ev.ev.seq.v), .int .i64 ((bs.getD j default).ev.ev.time.v), .string ((bs.getD j default).ev.ev.typ.v), .slice ((bs.getD j default).ev.p) ((bs.getD j default).ev.ev.attrs.length) ((bs.getD j default).ev.c)] 121 (0, 0)) :: imi (0 < bs.length) gA16 (.cells kA18 eA19 zA20) :: blk bk11 (.cells #[.slice none 0 0] 24 (0, 0)) :: blk bk8 (.cells #[.slice pp1 bs.length cc2] 24 (0, 0)) :: bndsA bs :: Im 6 (.slice pp1 bs.length cc2) bs.length (bs.flatMap bndCell) :: blk bk51 (.cells #[.string ((bs.getD j default).var.v), .int .i64 ((bs.getD j default).ev.ev.src.v), .int .i64 ((bs.getD j default).ev.ev.seq.v), .int .i64 ((bs.getD j default).ev.ev.time.v), .string ((bs.getD j default).ev.ev.typ.v), .slice pp44 ((bs.getD j default).ev.ev.attrs.length) cc45] 121 (0, 0)) :: Attrs (.slice ((bs.getD j default).ev.p) ((bs.getD j default).ev.ev.attrs.length) ((bs.getD j default).ev.c)) ((bs.getD j default).ev.ev.attrs) :: Row 121 6 (.slice pp63 ((pre ++ [(⟨(bs.getD j default).var, ⟨(bs.getD j default).ev.ev, pp44, cc45⟩⟩ : BoundD)]).length) cc64) ((pre ++ [(⟨(bs.getD j default).var, ⟨(bs.getD j default).ev.ev, pp44, cc45⟩⟩ : BoundD)]).length) ((pre ++ [(⟨(bs.getD j default).var, ⟨(bs.getD j default).ev.ev, pp44, cc45⟩⟩ : BoundD)]).flatMap bndCell) :: F) := by rw [List.flatMap_append, List.length_append]; exact H68
  have H70 : St W w65 (_ :: _ :: _ :: _ :: _ :: _ :: _ :: F) := (H69.mv [6, 6, 6, 6, 6, 5, 9, 107, 107, 107])
  exact nx33 (j + 1, (pre ++ [(⟨(bs.getD j default).var, ⟨(bs.getD j default).ev.ev, pp44, cc45⟩⟩ : BoundD)]), pp63, cc64) _ _ ⟨t0, (by rw [take_getD t0, List.map_append, List.map_append, hp9]; rfl), H70⟩ t7 ⟨by first | rfl | exact vint t0, by first | rfl | (show Value.slice _ _ _ = _; rw [List.length_append]; rfl), by first | rfl | exact vint t0, by first | rfl | exact vint t0, by first | rfl | exact vint t0, trivial⟩
 refine rc (s_lss false rfl rfl (dfalse hc34) rfl (r_nil (g_seq (g_false rfl (g_exit t39 (g_seq (g_region (Mv (.slice q pre.length d) (rc (s_build (cs := #[.slice q pre.length d]) t5 rfl (Sa H32 3 rfl #[.slice q pre.length d] 1 sz_24 #[.slice q pre.length d] (fun w71 H72 => r_nil ?_))))))))))))
 refine g_ret' [.agg #[.slice q pre.length d]] Tryz.func91 Tryz.results91 ⟨(res_cellN rfl ag_24 (H72.blk_at (i := 3) rfl) (nbl rfl) rfl), trivial⟩ ?_
 have H73 : St W w71 (_ :: _ :: _ :: _ :: _ :: _ :: _ :: F) := Row.im H72 (i := 0) rfl
 have H74 : St W w71 (_ :: _ :: F) := (H73.mv [1, 1, 102, 102, 102, 102, 102])
 obtain rfl : j = bs.length := by omega
 exact ⟨pre, _, _, rfl, by rw [hp9, List.take_length], H74⟩
theorem ref10_Clone (bs : List BoundD) (bv : Value) (hbl : bs.length * 80 ≤ 140737488355328) (hb9 : ∀ i, i < bs.length → (bs.getD i default).ev.ev.attrs.length * 48 ≤ 140737488355328) {ip : Nat} (hp : F[ip]? = some (Im 6 bv bs.length (bs.flatMap bndCell))) {iq : Nat} (hq : F[iq]? = some (bndsA bs)) (H : St W w F) : Calls Tryz.prog 92 #[.agg #[bv]] w (Ret fun v w' => ∃ (L : List BoundD) (q : Option Addr) (d : Nat), v = .agg #[.slice q L.length d] ∧ L.map BoundD.v = bs.map BoundD.v ∧ St W w' (Im 6 (.slice q L.length d) L.length (L.flatMap bndCell) :: bndsA L :: F)) := by
 obtain ⟨pp1, cc2, rfl, hn3⟩ := Rd.shape (Im.rd H (i := ip) hp)
 have H4 := H.dup (i := ip + 0) t55 (Im_pers _ _ _ _)
 have H5 : St W w (_ :: F) := H4
 have H6 := H5.dup (i := iq + 1) t51 (bndsA_pers _)
 have H7 : St W w (_ :: _ :: F) := H6
 have hmlb := Im.len H7 (i := 1) rfl
 refine calls_of_go (n := 31) Tryz.func92 rfl Tryz.ntmps92 rfl ?_
 refine g_seq (g_region (Bx H7 24 #[.slice pp1 bs.length cc2] (fun bk8 w9 H10 => rc (s_alloc H10 24 ze_24 rfl (fun bk11 w12 H13 => r_nil (g_seq (g_region (Ag (.slice none 0 0) (r_nil (g_seq (g_seq (g_region (Ag (.int .i64 0) (r_nil (g_block ?_)))))))))))))))
 obtain ⟨pA14, cA15, gA16, oA17, kA18, eA19, zA20, he26, hn21, hp22, hx23, hs24, hml, H25⟩ := Im.open_ H13 (i := 3) rfl
 obtain ⟨rfl, rfl⟩ : pp1 = pA14 ∧ cc2 = cA15 := by injection he26 with a_ b_ c_; exact ⟨a_, c_⟩
 have H27 := Row.nil_intro H25 121 6
 have H28 := bndsA_nil H27
 have H29 : St W w12 (_ :: _ :: _ :: _ :: _ :: _ :: _ :: F) := (H28.mv [6, 6, 6, 6, 6, 5, 6])
 refine g_loop_inv (fun ((j, pre, q, d) : Nat × (List BoundD) × (Option Addr) × Nat) => [(1, .pointer (pa bk8)), (2, .pointer (pa bk11)), (3, .slice q pre.length d), (4, .int .i64 (j : Int))]) (fun (j, pre, q, d) w => (j ≤ bs.length) ∧ (pre.map BoundD.v = (bs.take j).map BoundD.v) ∧ St W w (Row 121 6 (.slice q pre.length d) pre.length (pre.flatMap bndCell) :: bndsA pre :: imi (0 < bs.length) gA16 (.cells kA18 eA19 zA20) :: blk bk11 (.cells #[.slice none 0 0] 24 (0, 0)) :: blk bk8 (.cells #[.slice pp1 bs.length cc2] 24 (0, 0)) :: bndsA bs :: Im 6 (.slice pp1 bs.length cc2) bs.length (bs.flatMap bndCell) :: F)) (fun (j, pre, q, d) => bs.length - j) (0, [], none, 0) ?_ ?_ ?_
 ·exact t1
 ·exact ⟨t0, rfl, H29⟩
 rintro ⟨j, pre, q, d⟩ ρ30 w31 ⟨hjn, hp9, H32⟩ nx33
 change Ends _ _ (upds ρ30 [(1, .pointer (pa bk8)), (2, .pointer (pa bk11)), (3, .slice q pre.length d), (4, .int .i64 (j : Int))]) w31
 have hpl := bv_len hp9
 rw [List.length_take] at hpl
 refine g_seq (g_seq (g_region (Mv (.int .i64 (j : Int)) (Fa 0 fi_24_0 rfl (Lo (.slice pp1 bs.length cc2) ag_22 H32 4 (rc (s_len bs.length rfl ⟨_, un_22⟩ rfl ?_)))))))
 by_cases hc34 : (j : Int) < (bs.length : Int)
 ·refine rc (s_lss true rfl rfl (dtrue hc34) rfl (r_nil (g_true rfl (g_skip (g_seq (g_block ?_))))))
  have H35 : St W w31 (_ :: _ :: _ :: _ :: _ :: _ :: _ :: F) := (H32.mv [6, 6, 6, 6, 6, 6])
  refine g_mix (fun t_ w => St W w (bndsA pre :: imi (0 < bs.length) gA16 (.cells kA18 eA19 zA20) :: blk bk11 (.cells #[.slice none 0 0] 24 (0, 0)) :: blk bk8 (.cells #[.slice pp1 bs.length cc2] 24 (0, 0)) :: bndsA bs :: Im 6 (.slice pp1 bs.length cc2) bs.length (bs.flatMap bndCell) :: t_)) (Row 121 6 (.slice q pre.length d) pre.length (pre.flatMap bndCell) :: F) mixed 18 rfl H35.drew ?_
  refine Fv 0 rfl (fun _ w _ => x_move (.slice q pre.length d) rfl w) (Fv 1 rfl (fun t_ w hw => x_fieldAddr 24 0 0 0 22 rfl fi_24_0 rfl w) (Fv 2 rfl (fun t_ w hw => x_load (.slice pp1 bs.length cc2) ag_22 rfl (hw.blk_at (i := 3) rfl) rfl) (Fv 3 rfl (fun _ w _ => x_move (.int .i64 (j : Int)) rfl w) (Fv 4 rfl (fun t_ w hw => x_indexAddr gA16 (off := oA17) (j : Int) 6 (oA17 + j * 6) t57 rfl el_22 t0 rfl w) (Fv 5 rfl (fun t_ w hw => x_fieldAddr 121 0 0 (oA17 + j * 6) 9 rfl fi_121_0 rfl w) (Fv 6 rfl (fun t_ w hw => x_load (.string ((bs.getD j default).var.v)) ag_9 rfl (hw.imi_at (i := 1) rfl t0) (elem_cell (L := bs) (i := j) bndCell_len (hx23 t0) t0 default 0 t9 _ rfl)) (Fv 7 rfl (fun t_ w hw => x_fieldAddr 24 0 0 0 22 rfl fi_24_0 rfl w) (Fv 8 rfl (fun t_ w hw => x_load (.slice pp1 bs.length cc2) ag_22 rfl (hw.blk_at (i := 3) rfl) rfl) (Fv 9 rfl (fun _ w _ => x_move (.int .i64 (j : Int)) rfl w) (Fv 10 rfl (fun t_ w hw => x_indexAddr gA16 (off := oA17) (j : Int) 6 (oA17 + j * 6) t57 rfl el_22 t0 rfl w) (Fv 11 rfl (fun t_ w hw => x_fieldAddr 121 1 1 (oA17 + j * 6 + 1) 119 rfl fi_121_1 rfl w) (Fv 12 rfl (fun t_ w hw => x_loadAgg (evl ((bs.getD j default).ev.ev) ((bs.getD j default).ev.p) ((bs.getD j default).ev.c)) 5 ag_119 rfl (hw.imi_at (i := 1) rfl t0) (by have := elem_size (i := j) (s := 6) (hs24 t0) t0; omega) (elem_sub bndCell_len (hx23 t0) t0 default 1 5 t9)) ?_))))))))))))
  refine f_all (rs := [13]) t5 t13 ?_
  refine a_cons ⟨_, rfl, ?_⟩ (fun x hx => absurd hx t13)
  intro w36 H37
  try dsimp only at H37
  have H38 := bndsA_at j H37 (i := 4) rfl
  have hab := hb9 j t0
  refine s_call [.agg (evc ((bs.getD j default).ev.ev) ((bs.getD j default).ev.p) ((bs.getD j default).ev.c))] pl_114 rfl rfl (ref04_Clone ((bs.getD j default).ev.ev) (.slice ((bs.getD j default).ev.p) ((bs.getD j default).ev.ev.attrs.length) ((bs.getD j default).ev.c)) t0 (j := 0) rfl H38) ?_
  rintro _ w41 ⟨pp39, cc40, rfl, H42⟩
  have H43 : St W w41 (_ :: _ :: _ :: _ :: _ :: _ :: _ :: _ :: _ :: F) := (H42.mv [8, 2, 2, 8, 8, 8, 8, 8, 8])
  refine ⟨Attrs (.slice pp39 ((bs.getD j default).ev.ev.attrs.length) cc40) ((bs.getD j default).ev.ev.attrs) :: Attrs (.slice ((bs.getD j default).ev.p) ((bs.getD j default).ev.ev.attrs.length) ((bs.getD j default).ev.c)) ((bs.getD j default).ev.ev.attrs) :: Row 121 6 (.slice q pre.length d) pre.length (pre.flatMap bndCell) :: F, ?_, H43⟩
  change FReg _ _ _ _ _ #[true, true, true, true, true, true, true, true, true, true, true, true, true, true, false, false, false, false] _ _
  refine Fv 14 rfl (fun t_ w hw => x_build (cs := #[.string ((bs.getD j default).var.v), .int .i64 ((bs.getD j default).ev.ev.src.v), .int .i64 ((bs.getD j default).ev.ev.seq.v), .int .i64 ((bs.getD j default).ev.ev.time.v), .string ((bs.getD j default).ev.ev.typ.v), .slice pp39 ((bs.getD j default).ev.ev.attrs.length) cc40]) t5 w) ?_
  refine f_all (rs := [15]) t5 t13 ?_
  refine a_cons ⟨_, rfl, ?_⟩ (fun x hx => absurd hx t13)
  intro w44 H45
  try dsimp only at H45
  refine s_buildSlice H45 6 1 (cs := #[.string ((bs.getD j default).var.v), .int .i64 ((bs.getD j default).ev.ev.src.v), .int .i64 ((bs.getD j default).ev.ev.seq.v), .int .i64 ((bs.getD j default).ev.ev.time.v), .string ((bs.getD j default).ev.ev.typ.v), .slice pp39 ((bs.getD j default).ev.ev.attrs.length) cc40]) #[.string ByteArray.empty, .int .i64 0, .int .i64 0, .int .i64 0, .string ByteArray.empty, .slice none 0 0] el_22 ze_121 t9 t9 t5 rfl ?_; intro bk46 w47 H48
  have H49 : St W w47 (_ :: _ :: _ :: _ :: _ :: _ :: _ :: _ :: _ :: _ :: F) := (H48.mv [9, 9, 9, 3, 9, 9, 9, 9, 9, 9])
  refine ⟨blk bk46 (.cells #[.string ((bs.getD j default).var.v), .int .i64 ((bs.getD j default).ev.ev.src.v), .int .i64 ((bs.getD j default).ev.ev.seq.v), .int .i64 ((bs.getD j default).ev.ev.time.v), .string ((bs.getD j default).ev.ev.typ.v), .slice pp39 ((bs.getD j default).ev.ev.attrs.length) cc40] 121 (0, 0)) :: Attrs (.slice pp39 ((bs.getD j default).ev.ev.attrs.length) cc40) ((bs.getD j default).ev.ev.attrs) :: Attrs (.slice ((bs.getD j default).ev.p) ((bs.getD j default).ev.ev.attrs.length) ((bs.getD j default).ev.c)) ((bs.getD j default).ev.ev.attrs) :: Row 121 6 (.slice q pre.length d) pre.length (pre.flatMap bndCell) :: F, ?_, H49⟩
  change FReg _ _ _ _ _ #[true, true, true, true, true, true, true, true, true, true, true, true, true, true, true, true, false, false] _ _
  refine f_all (rs := [16]) t5 t13 ?_
  refine a_cons ⟨_, rfl, ?_⟩ (fun x hx => absurd hx t13)
  intro w50 H51
  try dsimp only at H51
  refine s_append H51 9 rfl rfl rfl (rd_blk (H51.blk_at (i := 6) rfl) rfl (nbl rfl) t15) ap_22 t9 t12 t0 (n' := pre.length + 1) (xs' := pre.flatMap bndCell ++ ([.string ((bs.getD j default).var.v), .int .i64 ((bs.getD j default).ev.ev.src.v), .int .i64 ((bs.getD j default).ev.ev.seq.v), .int .i64 ((bs.getD j default).ev.ev.time.v), .string ((bs.getD j default).ev.ev.typ.v), .slice pp39 ((bs.getD j default).ev.ev.attrs.length) cc40] : List Value)) t0 t16 rfl ?_; intro vv52 w53 H54 hn55
  obtain ⟨pp56, cc57, rfl⟩ := Row.slice H54 (i := 9) rfl
  refine ⟨blk bk46 (.cells #[.string ((bs.getD j default).var.v), .int .i64 ((bs.getD j default).ev.ev.src.v), .int .i64 ((bs.getD j default).ev.ev.seq.v), .int .i64 ((bs.getD j default).ev.ev.time.v), .string ((bs.getD j default).ev.ev.typ.v), .slice pp39 ((bs.getD j default).ev.ev.attrs.length) cc40] 121 (0, 0)) :: Attrs (.slice pp39 ((bs.getD j default).ev.ev.attrs.length) cc40) ((bs.getD j default).ev.ev.attrs) :: Attrs (.slice ((bs.getD j default).ev.p) ((bs.getD j default).ev.ev.attrs.length) ((bs.getD j default).ev.c)) ((bs.getD j default).ev.ev.attrs) :: Row 121 6 (.slice pp56 (pre.length + 1) cc57) (pre.length + 1) (pre.flatMap bndCell ++ ([.string ((bs.getD j default).var.v), .int .i64 ((bs.getD j default).ev.ev.src.v), .int .i64 ((bs.getD j default).ev.ev.seq.v), .int .i64 ((bs.getD j default).ev.ev.time.v), .string ((bs.getD j default).ev.ev.typ.v), .slice pp39 ((bs.getD j default).ev.ev.attrs.length) cc40] : List Value)) :: F, ?_, H54⟩
  change FReg _ _ _ _ _ #[true, true, true, true, true, true, true, true, true, true, true, true, true, true, true, true, true, false] _ _
  refine Fv 17 rfl (fun t_ w hw => x_assign (.slice pp56 (pre.length + 1) cc57) rfl w) ?_
  refine f_done t5 ?_
  intro w58 H59
  refine g_inBlock (g_region (Mv (.int .i64 (j : Int)) (rc (s_add ((j : Int) + 1) rfl rfl (wi64 t0) rfl (Ag (.int .i64 ((j : Int) + 1)) (r_nil ?_))))))
  have H60 : St W w58 (_ :: _ :: _ :: _ :: _ :: _ :: _ :: _ :: _ :: _ :: F) := (H59.move 7 rfl)
  have H61 : St W w58 (bndsA (pre ++ [(⟨(bs.getD j default).var, ⟨(bs.getD j default).ev.ev, pp39, cc40⟩⟩ : BoundD)]) :: _ :: _ :: _ :: _ :: _ :: _ :: _ :: _ :: F) := bndsA_snoc (x := (⟨(bs.getD j default).var, ⟨(bs.getD j default).ev.ev, pp39, cc40⟩⟩ : BoundD)) H60
  have H62 : St W w58 (bndsA (pre ++ [(⟨(bs.getD j default).var, ⟨(bs.getD j default).ev.ev, pp39, cc40⟩⟩ : BoundD)]) :: imi (0 < bs.length) gA16 (.cells kA18 eA19 zA20) :: blk bk11 (.cells #[.slice none 0 0] 24 (0, 0)) :: blk bk8 (.cells #[.slice pp1 bs.length cc2] 24 (0, 0)) :: bndsA bs :: Im 6 (.slice pp1 bs.length cc2) bs.length (bs.flatMap bndCell) :: blk bk46 (.cells #[.string ((bs.getD j default).var.v), .int .i64 ((bs.getD j default).ev.ev.src.v), .int .i64 ((bs.getD j default).ev.ev.seq.v), .int .i64 ((bs.getD j default).ev.ev.time.v), .string ((bs.getD j default).ev.ev.typ.v), .slice pp39 ((bs.getD j default).ev.ev.attrs.length) cc40] 121 (0, 0)) :: Attrs (.slice ((bs.getD j default).ev.p) ((bs.getD j default).ev.ev.attrs.length) ((bs.getD j default).ev.c)) ((bs.getD j default).ev.ev.attrs) :: Row 121 6 (.slice pp56 ((pre ++ [(⟨(bs.getD j default).var, ⟨(bs.getD j default).ev.ev, pp39, cc40⟩⟩ : BoundD)]).length) cc57) ((pre ++ [(⟨(bs.getD j default).var, ⟨(bs.getD j default).ev.ev, pp39, cc40⟩⟩ : BoundD)]).length) ((pre ++ [(⟨(bs.getD j default).var, ⟨(bs.getD j default).ev.ev, pp39, cc40⟩⟩ : BoundD)]).flatMap bndCell) :: F) := by rw [List.flatMap_append, List.length_append]; exact H61
  have H63 : St W w58 (_ :: _ :: _ :: _ :: _ :: _ :: _ :: F) := (H62.mv [5, 5, 5, 5, 5, 5, 8, 107, 107])
  exact nx33 (j + 1, (pre ++ [(⟨(bs.getD j default).var, ⟨(bs.getD j default).ev.ev, pp39, cc40⟩⟩ : BoundD)]), pp56, cc57) _ _ ⟨t0, (by rw [take_getD t0, List.map_append, List.map_append, hp9]; rfl), H63⟩ t7 ⟨by first | rfl | exact vint t0, by first | rfl | exact vint t0, by first | rfl | (show Value.slice _ _ _ = _; rw [List.length_append]; rfl), by first | rfl | exact vint t0, trivial⟩
 refine rc (s_lss false rfl rfl (dfalse hc34) rfl (r_nil (g_false rfl (g_exit t39 (g_seq (g_region (Mv (.slice q pre.length d) (rc (s_build (cs := #[.slice q pre.length d]) t5 rfl (Sa H32 3 rfl #[.slice q pre.length d] 1 sz_24 #[.slice q pre.length d] (fun w64 H65 => r_nil ?_)))))))))))
 refine g_ret' [.agg #[.slice q pre.length d]] Tryz.func92 Tryz.results92 ⟨(res_cellN rfl ag_24 (H65.blk_at (i := 3) rfl) (nbl rfl) rfl), trivial⟩ ?_
 have H66 : St W w64 (_ :: _ :: _ :: _ :: _ :: _ :: _ :: F) := Row.im H65 (i := 0) rfl
 have H67 : St W w64 (_ :: _ :: F) := (H66.mv [1, 1, 102, 102, 102, 102, 102])
 obtain rfl : j = bs.length := by omega
 exact ⟨pre, _, _, rfl, by rw [hp9, List.take_length], H67⟩
theorem ref10_Same (bs ms : List BoundD) (bv cv : Value) {ip : Nat} (hp : F[ip]? = some (Im 6 bv bs.length (bs.flatMap bndCell))) {iq : Nat} (hq : F[iq]? = some (bndsA bs)) {ip2 : Nat} (hp2 : F[ip2]? = some (Im 6 cv ms.length (ms.flatMap bndCell))) {iq2 : Nat} (hq2 : F[iq2]? = some (bndsA ms)) (H : St W w F) : Calls Tryz.prog 51 #[.agg #[bv], .agg #[cv]] w (Ret fun v w' => v = .bool (sameBs bs ms) ∧ St W w' F) := by
 obtain ⟨pp1, cc2, rfl, hn3⟩ := Rd.shape (Im.rd H (i := ip) hp)
 have H4 := H.dup (i := ip + 0) t55 (Im_pers _ _ _ _)
 have H5 : St W w (_ :: F) := H4
 have H6 := H5.dup (i := iq + 1) t51 (bndsA_pers _)
 have H7 : St W w (_ :: _ :: F) := H6
 obtain ⟨pp8, cc9, rfl, hn10⟩ := Rd.shape (Im.rd H (i := ip2) hp2)
 have H11 := H7.dup (i := ip2 + 2) (by exact hp2) (Im_pers _ _ _ _)
 have H12 : St W w (_ :: _ :: _ :: F) := H11
 have H13 := H12.dup (i := iq2 + 3) (by exact hq2) (bndsA_pers _)
 have H14 : St W w (_ :: _ :: _ :: _ :: F) := H13
 have hmlb := Im.len H14 (i := 3) rfl
 have hmlm := Im.len H14 (i := 1) rfl
 refine calls_of_go (n := 49) Tryz.func51 rfl Tryz.ntmps51 rfl ?_
 refine g_seq (g_region (Bx H14 24 #[.slice pp1 bs.length cc2] (fun bk15 w16 H17 => Bx H17 24 #[.slice pp8 ms.length cc9] (fun bk18 w19 H20 => Ag (.bool false) (r_nil (g_seq (g_seq (g_region (Fa 0 fi_24_0 rfl (Lo (.slice pp1 bs.length cc2) ag_22 H20 1 (rc (s_len bs.length rfl ⟨_, un_22⟩ rfl (Fa 0 fi_24_0 rfl (Lo (.slice pp8 ms.length cc9) ag_22 H20 0 (rc (s_len ms.length rfl ⟨_, un_22⟩ rfl ?_))))))))))))))))
 by_cases hc21 : (bs.length : Int) = (ms.length : Int)
 ·refine rc (s_neq false rfl rfl (ntrue hc21) rfl (r_nil (g_false rfl (g_skip (g_seq (g_seq (g_region (Ag (.int .i64 0) (r_nil (g_block ?_))))))))))
  obtain ⟨pA22, cA23, gA24, oA25, kA26, eA27, zA28, he34, hn29, hp30, hx31, hs32, hml, H33⟩ := Im.open_ H20 (i := 5) rfl
  obtain ⟨rfl, rfl⟩ : pp1 = pA22 ∧ cc2 = cA23 := by injection he34 with a_ b_ c_; exact ⟨a_, c_⟩
  obtain ⟨pA35, cA36, gA37, oA38, kA39, eA40, zA41, he47, hn42, hp43, hx44, hs45, hml, H46⟩ := Im.open_ H33 (i := 4) rfl
  obtain ⟨rfl, rfl⟩ : pp8 = pA35 ∧ cc9 = cA36 := by injection he47 with a_ b_ c_; exact ⟨a_, c_⟩
  have hll : bs.length = ms.length := by omega
  refine g_loop_inv (fun (j : Nat) => [(2, .pointer (pa bk15)), (3, .pointer (pa bk18)), (4, .bool false), (5, .int .i64 (j : Int))]) (fun j w => (j ≤ bs.length) ∧ (∀ q, q < j → (bs.getD q default).v = (ms.getD q default).v) ∧ St W w (imi (0 < ms.length) gA37 (.cells kA39 eA40 zA41) :: imi (0 < bs.length) gA24 (.cells kA26 eA27 zA28) :: blk bk18 (.cells #[.slice pp8 ms.length cc9] 24 (0, 0)) :: blk bk15 (.cells #[.slice pp1 bs.length cc2] 24 (0, 0)) :: bndsA ms :: Im 6 (.slice pp8 ms.length cc9) ms.length (ms.flatMap bndCell) :: bndsA bs :: Im 6 (.slice pp1 bs.length cc2) bs.length (bs.flatMap bndCell) :: F)) (fun j => bs.length - j) (0) ?_ ?_ ?_
  ·exact t1
  ·exact ⟨t0, (fun q hq => by omega), H46⟩
  rintro j ρ48 w49 ⟨hjn, hz, H50⟩ nx51
  change Ends _ _ (upds ρ48 [(2, .pointer (pa bk15)), (3, .pointer (pa bk18)), (4, .bool false), (5, .int .i64 (j : Int))]) w49
  refine g_seq (g_seq (g_region (Mv (.int .i64 (j : Int)) (Fa 0 fi_24_0 rfl (Lo (.slice pp1 bs.length cc2) ag_22 H50 3 (rc (s_len bs.length rfl ⟨_, un_22⟩ rfl ?_)))))))
  by_cases hc52 : (j : Int) < (bs.length : Int)
  ·refine rc (s_lss true rfl rfl (dtrue hc52) rfl (r_nil (g_true rfl (g_skip (g_seq (g_block (g_seq ?_)))))))
   have H53 := bndsA_at j H50 (i := 6) rfl
   have H54 := bndsA_at j H53 (i := 5) rfl
   refine g_quiet (fun w' => St W w' (Attrs (.slice ((ms.getD j default).ev.p) ((ms.getD j default).ev.ev.attrs.length) ((ms.getD j default).ev.c)) ((ms.getD j default).ev.ev.attrs) :: Attrs (.slice ((bs.getD j default).ev.p) ((bs.getD j default).ev.ev.attrs.length) ((bs.getD j default).ev.c)) ((bs.getD j default).ev.ev.attrs) :: imi (0 < ms.length) gA37 (.cells kA39 eA40 zA41) :: imi (0 < bs.length) gA24 (.cells kA26 eA27 zA28) :: blk bk18 (.cells #[.slice pp8 ms.length cc9] 24 (0, 0)) :: blk bk15 (.cells #[.slice pp1 bs.length cc2] 24 (0, 0)) :: bndsA ms :: Im 6 (.slice pp8 ms.length cc9) ms.length (ms.flatMap bndCell) :: bndsA bs :: Im 6 (.slice pp1 bs.length cc2) bs.length (bs.flatMap bndCell) :: F)) mixed t5 H54.drew ?_
   refine Qf 0 fi_24_0 rfl (Qv (fun w hw => x_load (.slice pp1 bs.length cc2) ag_22 rfl (hw.blk_at (i := 5) rfl) rfl) (Qm (.int .i64 (j : Int)) (Qv (fun w hw => x_indexAddr gA24 (off := oA25) (j : Int) 6 (oA25 + j * 6) (by exact congrArg (fun z_ => Value.slice z_ bs.length cc2) (hp30 t0)) rfl el_22 t0 rfl w) (Qf (oA25 + j * 6) fi_121_0 rfl (Qv (fun w hw => x_load (.string ((bs.getD j default).var.v)) ag_9 rfl (hw.imi_at (i := 3) rfl t0) (elem_cell (L := bs) (i := j) bndCell_len (hx31 t0) t0 default 0 t9 _ rfl)) (Qf 0 fi_24_0 rfl (Qv (fun w hw => x_load (.slice pp8 ms.length cc9) ag_22 rfl (hw.blk_at (i := 4) rfl) rfl) (Qm (.int .i64 (j : Int)) (Qv (fun w hw => x_indexAddr gA37 (off := oA38) (j : Int) 6 (oA38 + j * 6) (by exact congrArg (fun z_ => Value.slice z_ ms.length cc9) (hp43 t0)) rfl el_22 t0 rfl w) (Qf (oA38 + j * 6) fi_121_0 rfl (Qv (fun w hw => x_load (.string ((ms.getD j default).var.v)) ag_9 rfl (hw.imi_at (i := 2) rfl t0) (elem_cell (L := ms) (i := j) bndCell_len (hx44 t0) t0 default 0 t9 _ rfl)) ?_)))))))))))
   by_cases hc55 : (bs.getD j default).var.v = (ms.getD j default).var.v
   ·refine Qv (fun w hw => x_sneq false rfl rfl (ntrue hc55) w) (Qm (.bool false) (Qt (Qu (fun w hw => x_fieldAddr 24 0 0 0 22 rfl fi_24_0 rfl w) (Qt (Qu (fun w hw => x_load (.slice pp1 bs.length cc2) ag_22 rfl (hw.blk_at (i := 5) rfl) rfl) (Qt (Qn (.int .i64 (j : Int)) (Qt (Qu (fun w hw => x_indexAddr gA24 (off := oA25) (j : Int) 6 (oA25 + j * 6) (by exact congrArg (fun z_ => Value.slice z_ bs.length cc2) (hp30 t0)) rfl el_22 t0 rfl w) (Qt (Qu (fun w hw => x_fieldAddr 121 1 1 (oA25 + j * 6 + 1) 119 rfl fi_121_1 rfl w) (Qt (Qu (fun w hw => x_loadAgg (evl ((bs.getD j default).ev.ev) ((bs.getD j default).ev.p) ((bs.getD j default).ev.c)) 5 ag_119 rfl (hw.imi_at (i := 3) rfl t0) (by have := elem_size (i := j) (s := 6) (hs32 t0) t0; omega) (elem_sub bndCell_len (hx31 t0) t0 default 1 5 t9)) (Qt (Qu (fun w hw => x_fieldAddr 24 0 0 0 22 rfl fi_24_0 rfl w) (Qt (Qu (fun w hw => x_load (.slice pp8 ms.length cc9) ag_22 rfl (hw.blk_at (i := 4) rfl) rfl) (Qt (Qn (.int .i64 (j : Int)) (Qt (Qu (fun w hw => x_indexAddr gA37 (off := oA38) (j : Int) 6 (oA38 + j * 6) (by exact congrArg (fun z_ => Value.slice z_ ms.length cc9) (hp43 t0)) rfl el_22 t0 rfl w) (Qt (Qu (fun w hw => x_fieldAddr 121 1 1 (oA38 + j * 6 + 1) 119 rfl fi_121_1 rfl w) (Qt (Qu (fun w hw => x_loadAgg (evl ((ms.getD j default).ev.ev) ((ms.getD j default).ev.p) ((ms.getD j default).ev.c)) 5 ag_119 rfl (hw.imi_at (i := 2) rfl t0) (by have := elem_size (i := j) (s := 6) (hs45 t0) t0; omega) (elem_sub bndCell_len (hx44 t0) t0 default 1 5 t9)) (Qt ?_))))))))))))))))))))))))))
    refine q_enter (args := #[.agg (evc ((bs.getD j default).ev.ev) ((bs.getD j default).ev.p) ((bs.getD j default).ev.c)), .agg (evc ((ms.getD j default).ev.ev) ((ms.getD j default).ev.p) ((ms.getD j default).ev.c))]) (v := .bool (sameEv ((bs.getD j default).ev.ev) ((ms.getD j default).ev.ev))) rfl rfl rfl (x_call pl_87 [.agg (evc ((bs.getD j default).ev.ev) ((bs.getD j default).ev.p) ((bs.getD j default).ev.c)), .agg (evc ((ms.getD j default).ev.ev) ((ms.getD j default).ev.p) ((ms.getD j default).ev.c))] rfl) (fun w hw => ref04_Same ((bs.getD j default).ev.ev) ((ms.getD j default).ev.ev) (.slice ((bs.getD j default).ev.p) ((bs.getD j default).ev.ev.attrs.length) ((bs.getD j default).ev.c)) (.slice ((ms.getD j default).ev.p) ((ms.getD j default).ev.ev.attrs.length) ((ms.getD j default).ev.c)) (j := 1) (k := 0) rfl rfl hw) ?_
    refine Qt (Qu (fun w hw => x_not (sameEv ((bs.getD j default).ev.ev) ((ms.getD j default).ev.ev)) rfl (!(sameEv ((bs.getD j default).ev.ev) ((ms.getD j default).ev.ev))) rfl w) (Qv (fun w hw => x_pick_f (.bool (!(sameEv ((bs.getD j default).ev.ev) ((ms.getD j default).ev.ev)))) rfl rfl w) (q_nil ?_)))
    intro w56 H57
    by_cases hb58 : (!(sameEv ((bs.getD j default).ev.ev) ((ms.getD j default).ev.ev))) = true
    ·refine g_true (congrArg Value.bool hb58) (g_seq (g_region (Ag (.bool false) (r_nil (Gr [.bool false] Tryz.func51 Tryz.results51 ?_)))))
     have H59 : St W w56 (_ :: _ :: _ :: _ :: _ :: _ :: F) := (H57.mv [100, 100, 100, 100])
     have H60 : St W w56 (_ :: _ :: F) := (H59.mv [100, 100, 100, 100])
     have H61 : St W w56 F := (H60.mv [100, 100])
     exact ⟨congrArg Value.bool (show sameBs bs ms = false from by first | exact sameBs_len t0 | exact sameBs_var (j := j) t11 | exact sameBs_ev (j := j) (by first | assumption | exact nottrue t11 | simpa using ‹_›)).symm, H61⟩
    have hb58 := eq_false_of_ne_true hb58
    refine g_false (congrArg Value.bool hb58) (g_skip (g_inBlock (g_region (Mv (.int .i64 (j : Int)) (rc (s_add ((j : Int) + 1) rfl rfl (wi64 t0) rfl (Ag (.int .i64 ((j : Int) + 1)) (r_nil ?_))))))))
    have H62 : St W w56 (_ :: _ :: _ :: _ :: _ :: _ :: _ :: _ :: F) := (H57.mv [9, 9, 9, 9, 9, 9, 9, 9, 108, 108])
    exact nx51 (j + 1) _ _ ⟨t0, (fun q hq => (Nat.lt_or_ge q j).elim (hz q) (fun h => by rw [show q = j from by omega]; exact bv_mk hc55 (by first | exact hb58 | exact notfalse hb58))), H62⟩ t7 t1
   refine Qv (fun w hw => x_sneq true rfl rfl (nfalse hc55) w) (Qm (.bool true) (Qp (Qp (Qp (Qp (Qp (Qp (Qp (Qp (Qp (Qp (Qp (Qp (Qp (Qp (Qv (fun w hw => x_pick_t (.bool true) rfl rfl w) (q_nil ?_)))))))))))))))))
   intro w63 H64
   refine g_true rfl (g_seq (g_region (Ag (.bool false) (r_nil (Gr [.bool false] Tryz.func51 Tryz.results51 ?_)))))
   have H65 : St W w63 (_ :: _ :: _ :: _ :: _ :: _ :: F) := (H64.mv [100, 100, 100, 100])
   have H66 : St W w63 (_ :: _ :: F) := (H65.mv [100, 100, 100, 100])
   have H67 : St W w63 F := (H66.mv [100, 100])
   exact ⟨congrArg Value.bool (show sameBs bs ms = false from by first | exact sameBs_len t0 | exact sameBs_var (j := j) t11 | exact sameBs_ev (j := j) (by first | assumption | exact nottrue t11 | simpa using ‹_›)).symm, H67⟩
  refine rc (s_lss false rfl rfl (dfalse hc52) rfl (r_nil (g_false rfl (g_exit t39 (g_seq (g_region (Ag (.bool true) (r_nil (Gr [.bool true] Tryz.func51 Tryz.results51 ?_)))))))))
  have H68 : St W w49 F := (H50.mv [100, 100, 100, 100, 100, 100, 100, 100])
  exact ⟨congrArg Value.bool (sameBs_yes t0 (fun q hq => hz q t0)).symm, H68⟩
 refine rc (s_neq true rfl rfl (nfalse hc21) rfl (r_nil (g_true rfl (g_seq (g_region (Ag (.bool false) (r_nil (Gr [.bool false] Tryz.func51 Tryz.results51 ?_))))))))
 have H69 : St W w19 F := (H20.mv [100, 100, 100, 100, 100, 100])
 exact ⟨congrArg Value.bool (show sameBs bs ms = false from by first | exact sameBs_len t0 | exact sameBs_var (j := j) t11 | exact sameBs_ev (j := j) (by first | assumption | exact nottrue t11 | simpa using ‹_›)).symm, H69⟩
end Sl
