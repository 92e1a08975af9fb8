/- Walks of the program's functions. Printed by a program of this claim's author. No condition. -/
import Derived.Test.YteogdknlofcpiaaGreatSlBA
import Derived.Test.YteogdknlofcpiaaGreatSlDB
import Derived.Test.YteogdknlofcpiaaGreatSlQ
import Derived.Test.YteogdknlofcpiaaGreatSlR
import Derived.Test.YteogdknlofcpiaaGreatSlP
import Derived.Test.YteogdknlofcpiaaGreatSlI
import Derived.Test.YteogdknlofcpiaaGreatSlAF
import Derived.Test.YteogdknlofcpiaaGreatSlDK
import Derived.Test.YteogdknlofcpiaaGreatSlDL
import Derived.Test.YteogdknlofcpiaaGreatSlDS
import Derived.Test.YteogdknlofcpiaaGreatSlDM
import Derived.Test.YteogdknlofcpiaaGreatSlDN
import Derived.Test.YteogdknlofcpiaaGreatSlDT
import Derived.Test.YteogdknlofcpiaaGreatSlZC
import Derived.Test.YteogdknlofcpiaaGreatProg
import Derived.Test.YteogdknlofcpiaaGreatWalkMigrateGates2
namespace Sl
open _root_.Go _root_.Go.RowKit _root_.Go.Proofs
set_option linter.all false
set_option maxHeartbeats 4000000
set_option maxRecDepth 100000
variable {W w : World} {F : List Atom}
theorem GtA_All (g : Nat) (e : Int) (L : List ItemD) (hL : L.length ≤ 1099511627776) (hok : ∀ x ∈ L, itE x = 0) {i : Nat} (hi : F[i]? = some (GtA g e L)) (H : St W w F) : Calls Tryz.prog 22 #[.pointer (pa g)] w (Ret fun v w' => ∃ (bx : Nat) (M : List ItemD) (q : Option Addr) (d : Nat), v = .func (.func 59) #[] #[.pointer (pa bx)] ∧ M.map ItemD.v = L.map ItemD.v ∧ St W w' (imm bx (.cells #[.slice q M.length d] 38 (0, 0)) :: Im 6 (.slice q M.length d) M.length (M.flatMap itCell) :: itsA M :: F)) := by
 have H0 := H.front hi
 have H1 := H0.move 0 rfl
 obtain ⟨⟨pp2, cc3⟩, H4⟩ := St.open_ex H1
 have H5 := St.open_star H4
 have H6 : St W w (_ :: _ :: _ :: (F.set i emp)) := H5
 refine calls_of_go (n := 25) Tryz.func22 rfl Tryz.ntmps22 rfl ?_
 refine g_seq (g_region (Ag (.nilFunc) (r_nil (g_seq (g_region (rc (s_alloc H6 38 ze_38 rfl (fun bk7 w8 H9 => r_nil (g_seq (g_seq (g_region (Mv (.pointer (pa g)) (rc (s_call [.pointer (pa g)] pl_53 rfl rfl (Gate_none g (e : Int) (.slice pp2 L.length cc3) (i := 1) rfl H9) ?_))))))))))))))
 rintro _ w10 ⟨rfl, H11⟩
 refine rc (s_not false rfl true rfl rfl (r_nil (g_true rfl (g_seq (g_region (Mv (.pointer (pa g)) (Nc (.pointer (pa g)) (Fa 2 fi_90_2 rfl (Lo (.slice pp2 L.length cc3) ag_38 H11 1 (rc (s_len L.length rfl ⟨_, un_38⟩ rfl (Mv (.int .i64 0) (r_nil (g_block ?_))))))))))))))
 have H12 := Row.nil_intro H11 26 6
 have H13 := itsA_nil H12
 have H14 : St W w10 (_ :: _ :: _ :: _ :: _ :: _ :: (F.set i emp)) := (H13.mv [1, 2])
 refine g_loop_inv (fun ((j, M, q, d) : Nat × (List ItemD) × (Option Addr) × Nat) => [(2, .nilFunc), (3, .pointer (pa bk7)), (12, .slice pp2 L.length cc3), (13, .int .i64 (L.length : Int)), (14, .int .i64 (j : Int))]) (fun (j, M, q, d) w => (j ≤ L.length) ∧ (M.map ItemD.v = (L.map ItemD.v).take j) ∧ St W w (blk bk7 (.cells #[.slice q M.length d] 38 (0, 0)) :: Row 26 6 (.slice q M.length d) M.length (M.flatMap itCell) :: itsA M :: blk g (.cells #[.bool true, .int .i64 e, .slice pp2 L.length cc3] 90 (0, 0)) :: Row 26 6 (.slice pp2 L.length cc3) L.length (L.flatMap itCell) :: itsA L :: (F.set i emp))) (fun (j, M, q, d) => L.length - j) (0, [], none, 0) ?_ ?_ ?_
 ·exact t1
 ·exact ⟨t0, rfl, H14⟩
 rintro ⟨j, M, q, d⟩ ρ15 w16 ⟨hjn, hM, H17⟩ nx18
 change Ends _ _ (upds ρ15 [(2, .nilFunc), (3, .pointer (pa bk7)), (12, .slice pp2 L.length cc3), (13, .int .i64 (L.length : Int)), (14, .int .i64 (j : Int))]) w16
 have hMl : M.length = j := by have h9 := congrArg List.length hM; simp only [List.length_map, List.length_take] at h9; omega
 refine g_seq (g_region ?_)
 by_cases hc19 : (j : Int) < (L.length : Int)
 ·refine rc (s_lss true rfl rfl (dtrue hc19) rfl (r_nil (g_seq (g_true rfl (g_skip (g_seq (g_block (g_seq (g_region ?_)))))))))
  obtain ⟨bk20, cur21, hp22, h23, h24, h25, h26, h27, H28⟩ := Row.open2 H17 (i := 4) rfl t0
  refine rc (s_indexAddr bk20 (off := 0) (j : Int) 6 (0 + j * 6) (by exact congrArg (fun z_ => Value.slice z_ L.length cc3) ((fun (_ : 0 < 1) => hp22) t0)) rfl el_38 t0 rfl rfl ?_)
  have H29 : St W w16 (bndsA ((L.getD j default).bs) :: _ :: _ :: _ :: _ :: _ :: _ :: (F.set i emp)) := itsA_at H28 (i := 5) rfl (j := j) t0
  have H30 : St W w16 (Im 6 (.slice ((L.getD j default).p) ((L.getD j default).bs.length) ((L.getD j default).c)) ((L.getD j default).bs.length) ((L.getD j default).bs.flatMap bndCell) :: _ :: _ :: _ :: _ :: _ :: _ :: _ :: (F.set i emp)) := itsA_bs H29 (i := 6) rfl (j := j) t0
  refine rc (s_loadAgg (itl (L.getD j default)) 6 ag_26 rfl (H30.blk_at (i := 6) rfl) (by have := elem_size (i := j) (s := 6) (show 0 + L.length * 6 ≤ cur21.size by have := (show L.length * 6 ≤ cur21.size by rw [(rfl : L.length = L.length), h25]; exact Nat.mul_le_mul_right 6 h23); omega) (by have hh : L.length = L.length := (rfl : L.length = L.length); omega); omega) (elem_take itCell_len (by rw [(rfl : L.length = L.length)]; exact h26) (by have hh : L.length = L.length := (rfl : L.length = L.length); omega) default) rfl (rc (s_alloc H30 26 ze_26 rfl (fun bk31 w32 H33 => Sa H33 0 rfl (itc (L.getD j default)) 6 sz_26 (itc (L.getD j default)) (fun w34 H35 => r_nil ?_)))))
  have H36 : St W w34 (_ :: _ :: _ :: _ :: _ :: _ :: _ :: _ :: _ :: (F.set i emp)) := (H35.mv [4, 4, 8, 8, 8, 8, 8, 8, 8])
  refine g_mix (fun t_ w => St W w (blk bk31 (.cells (itc (L.getD j default)) 26 (0, 0)) :: Im 6 (.slice ((L.getD j default).p) ((L.getD j default).bs.length) ((L.getD j default).c)) ((L.getD j default).bs.length) ((L.getD j default).bs.flatMap bndCell) :: bndsA ((L.getD j default).bs) :: itsA M :: blk g (.cells #[.bool true, .int .i64 e, .slice pp2 L.length cc3] 90 (0, 0)) :: blk bk20 (.cells cur21 26 (0, 0)) :: itsA L :: t_)) (blk bk7 (.cells #[.slice q M.length d] 38 (0, 0)) :: Row 26 6 (.slice q M.length d) M.length (M.flatMap itCell) :: (F.set i emp)) mixed 6 rfl H36.drew ?_
  refine Fv 1 rfl (fun t_ w hw => x_loadAgg (itl (L.getD j default)) 6 ag_26 rfl (hw.blk_at (i := 0) rfl) (nbl rfl) rfl) ?_
  refine f_all (rs := [0, 2]) t5 t13 ?_
  refine a_cons ⟨_, rfl, ?_⟩ (a_cons ⟨_, rfl, ?_⟩ (fun x hx => absurd hx t13))
  ·intro w37 H38
   try dsimp only at H38
   refine s_load (.slice q M.length d) ag_38 rfl (H38.blk_at (i := 7) rfl) rfl rfl ?_
   refine ⟨blk bk7 (.cells #[.slice q M.length d] 38 (0, 0)) :: Row 26 6 (.slice q M.length d) M.length (M.flatMap itCell) :: (F.set i emp), ?_, H38⟩
   change FReg _ _ _ _ _ #[true, true, false, false, false, false] _ _
   refine f_all (rs := [2]) t5 t13 ?_
   refine a_cons ⟨_, rfl, ?_⟩ (fun x hx => absurd hx t13)
   intro w39 H40
   try dsimp only at H40
   refine s_call [.agg (itc (L.getD j default))] pl_54 rfl rfl (migrate_own (L.getD j default) (bsOk_it (hok _ (getD_memI t0))) (ip := 1) rfl (iq := 2) rfl H40) ?_
   rintro _ w43 ⟨it41, rfl, hy42, H44⟩
   have H45 : St W w43 (_ :: _ :: _ :: _ :: _ :: _ :: _ :: _ :: _ :: _ :: _ :: (F.set i emp)) := (H44.mv [10, 10, 3, 3, 10])
   have H46 : St W w43 (_ :: _ :: _ :: _ :: _ :: _ :: _ :: _ :: _ :: _ :: _ :: (F.set i emp)) := (H45.mv [10, 10, 10, 10, 10])
   have H47 : St W w43 (_ :: _ :: _ :: _ :: _ :: _ :: _ :: _ :: _ :: _ :: _ :: (F.set i emp)) := (H46.move 10 rfl)
   refine ⟨Im 6 (.slice it41.p it41.bs.length it41.c) it41.bs.length (it41.bs.flatMap bndCell) :: bndsA it41.bs :: blk bk7 (.cells #[.slice q M.length d] 38 (0, 0)) :: Row 26 6 (.slice q M.length d) M.length (M.flatMap itCell) :: (F.set i emp), ?_, H47⟩
   change FReg _ _ _ _ _ #[true, true, true, false, false, false] _ _
   refine f_all (rs := [3]) t5 t13 ?_
   refine a_cons ⟨_, rfl, ?_⟩ (fun x hx => absurd hx t13)
   intro w48 H49
   try dsimp only at H49
   refine s_buildSlice H49 6 1 (cs := (itc it41)) #[.int .i64 0, .int .i64 0, .int .i64 0, .int .i64 0, .slice none 0 0, .int .i64 0] el_38 ze_26 t9 t9 t5 rfl ?_; intro bk50 w51 H52
   have H53 : St W w51 (_ :: _ :: _ :: _ :: _ :: _ :: _ :: _ :: _ :: _ :: _ :: _ :: (F.set i emp)) := (H52.mv [11, 11, 11, 11, 4])
   have H54 : St W w51 (_ :: _ :: _ :: _ :: _ :: _ :: _ :: _ :: _ :: _ :: _ :: _ :: (F.set i emp)) := (H53.mv [11, 11, 11, 11, 11])
   have H55 : St W w51 (_ :: _ :: _ :: _ :: _ :: _ :: _ :: _ :: _ :: _ :: _ :: _ :: (F.set i emp)) := (H54.mv [11, 11])
   refine ⟨blk bk50 (.cells (itc it41) 26 (0, 0)) :: Im 6 (.slice it41.p it41.bs.length it41.c) it41.bs.length (it41.bs.flatMap bndCell) :: bndsA it41.bs :: blk bk7 (.cells #[.slice q M.length d] 38 (0, 0)) :: Row 26 6 (.slice q M.length d) M.length (M.flatMap itCell) :: (F.set i emp), ?_, H55⟩
   change FReg _ _ _ _ _ #[true, true, true, true, false, false] _ _
   refine f_all (rs := [4]) t5 t13 ?_
   refine a_cons ⟨_, rfl, ?_⟩ (fun x hx => absurd hx t13)
   intro w56 H57
   try dsimp only at H57
   refine s_append H57 11 rfl rfl rfl (rd_blk (H57.blk_at (i := 7) rfl) rfl (nbl rfl) t15) ap_38 t9 t12 t0 (n' := M.length + 1) (xs' := M.flatMap itCell ++ ((itl it41) : List Value)) t0 t16 rfl ?_; intro vv58 w59 H60 hn61
   obtain ⟨pp62, cc63, rfl⟩ := Row.slice H60 (i := 11) rfl
   refine ⟨blk bk50 (.cells (itc it41) 26 (0, 0)) :: Im 6 (.slice it41.p it41.bs.length it41.c) it41.bs.length (it41.bs.flatMap bndCell) :: bndsA it41.bs :: blk bk7 (.cells #[.slice q M.length d] 38 (0, 0)) :: Row 26 6 (.slice pp62 (M.length + 1) cc63) (M.length + 1) (M.flatMap itCell ++ ((itl it41) : List Value)) :: (F.set i emp), ?_, H60⟩
   change FReg _ _ _ _ _ #[true, true, true, true, true, false] _ _
   refine f_all (rs := [5]) t5 t13 ?_
   refine a_cons ⟨_, rfl, ?_⟩ (fun x hx => absurd hx t13)
   intro w64 H65
   try dsimp only at H65
   refine s_store H65 10 (.slice pp62 (M.length + 1) cc63) rfl rfl rfl sz_38 rfl (nbl rfl) rfl (cs' := #[.slice pp62 (M.length + 1) cc63]) rfl ?_; intro w66 H67
   refine ⟨blk bk50 (.cells (itc it41) 26 (0, 0)) :: Im 6 (.slice it41.p it41.bs.length it41.c) it41.bs.length (it41.bs.flatMap bndCell) :: bndsA it41.bs :: blk bk7 (.cells #[.slice pp62 (M.length + 1) cc63] 38 (0, 0)) :: Row 26 6 (.slice pp62 (M.length + 1) cc63) (M.length + 1) (M.flatMap itCell ++ ((itl it41) : List Value)) :: (F.set i emp), ?_, H67⟩
   change FReg _ _ _ _ _ #[true, true, true, true, true, true] _ _
   refine f_done t5 ?_
   intro w68 H69
   refine g_inBlock (g_region (rc (s_add ((j : Int) + 1) rfl rfl (wi64 t0) rfl (Mv (.int .i64 ((j : Int) + 1)) (r_nil ?_)))))
   have H70 := Row.shut2 (p := pp2) (n := L.length) (c := cc3) (size := 6) (xs := L.flatMap itCell) H69 (i := 5) rfl hp22 h23 h24 h25 t30 (fun x_ hx_ => by obtain ⟨a_, _, ha_⟩ := List.mem_flatMap.1 hx_; exact one_it a_ x_ ha_)
   have H71 : St W w68 (blk bk31 (.cells #[.int .i64 ((L.getD j default).op.v), .int .i64 ((L.getD j default).inp.v), .int .i64 ((L.getD j default).ep.v), .int .i64 ((L.getD j default).kind.v), .slice ((L.getD j default).p) ((L.getD j default).bs.length) ((L.getD j default).c), .int .i64 ((L.getD j default).t.v)] 26 (0, 0)) :: Im 6 (.slice ((L.getD j default).p) ((L.getD j default).bs.length) ((L.getD j default).c)) ((L.getD j default).bs.length) ((L.getD j default).bs.flatMap bndCell) :: bndsA ((L.getD j default).bs) :: itsA M :: blk g (.cells #[.bool true, .int .i64 e, .slice pp2 L.length cc3] 90 (0, 0)) :: Row 26 6 (.slice pp2 L.length cc3) L.length (L.flatMap itCell) :: itsA L :: blk bk50 (.cells #[.int .i64 it41.op.v, .int .i64 it41.inp.v, .int .i64 it41.ep.v, .int .i64 it41.kind.v, .slice it41.p it41.bs.length it41.c, .int .i64 it41.t.v] 26 (0, 0)) :: Im 6 (.slice it41.p it41.bs.length it41.c) it41.bs.length (it41.bs.flatMap bndCell) :: bndsA it41.bs :: blk bk7 (.cells #[.slice pp62 ((M ++ [it41]).length) cc63] 38 (0, 0)) :: Row 26 6 (.slice pp62 ((M ++ [it41]).length) cc63) ((M ++ [it41]).length) ((M ++ [it41]).flatMap itCell) :: (F.set i emp)) := by rw [List.flatMap_append, List.length_append]; exact H70
   have H72 : St W w68 (_ :: _ :: _ :: _ :: _ :: _ :: _ :: _ :: _ :: _ :: _ :: _ :: (F.set i emp)) := (H71.mv [3, 9, 9])
   have H73 : St W w68 (itsA (M ++ [it41]) :: _ :: _ :: _ :: _ :: _ :: _ :: _ :: _ :: _ :: (F.set i emp)) := itsA_snoc (x := it41) H72
   have H74 : St W w68 (_ :: _ :: _ :: _ :: _ :: _ :: (F.set i emp)) := (H73.mv [6, 6, 6, 3, 9, 9, 106, 106, 106, 106])
   exact nx18 (j + 1, (M ++ [it41]), pp62, cc63) _ _ ⟨t0, (ok_stepI hM t0 hy42).1, H74⟩ t7 t1
  intro w75 H76
  try dsimp only at H76
  refine s_call [.agg (itc (L.getD j default))] pl_54 rfl rfl (migrate_own (L.getD j default) (bsOk_it (hok _ (getD_memI t0))) (ip := 1) rfl (iq := 2) rfl H76) ?_
  rintro _ w79 ⟨it77, rfl, hy78, H80⟩
  have H81 : St W w79 (_ :: _ :: _ :: _ :: _ :: _ :: _ :: _ :: _ :: _ :: _ :: (F.set i emp)) := (H80.mv [10, 10, 3, 3, 10])
  have H82 : St W w79 (_ :: _ :: _ :: _ :: _ :: _ :: _ :: _ :: _ :: _ :: _ :: (F.set i emp)) := (H81.mv [10, 10, 10, 10, 10])
  have H83 : St W w79 (_ :: _ :: _ :: _ :: _ :: _ :: _ :: _ :: _ :: _ :: _ :: (F.set i emp)) := (H82.move 10 rfl)
  refine ⟨Im 6 (.slice it77.p it77.bs.length it77.c) it77.bs.length (it77.bs.flatMap bndCell) :: bndsA it77.bs :: blk bk7 (.cells #[.slice q M.length d] 38 (0, 0)) :: Row 26 6 (.slice q M.length d) M.length (M.flatMap itCell) :: (F.set i emp), ?_, H83⟩
  change FReg _ _ _ _ _ #[false, true, true, false, false, false] _ _
  refine f_all (rs := [0, 3]) t5 t13 ?_
  refine a_cons ⟨_, rfl, ?_⟩ (a_cons ⟨_, rfl, ?_⟩ (fun x hx => absurd hx t13))
  ·intro w84 H85
   try dsimp only at H85
   refine s_load (.slice q M.length d) ag_38 rfl (H85.blk_at (i := 9) rfl) rfl rfl ?_
   refine ⟨Im 6 (.slice it77.p it77.bs.length it77.c) it77.bs.length (it77.bs.flatMap bndCell) :: bndsA it77.bs :: blk bk7 (.cells #[.slice q M.length d] 38 (0, 0)) :: Row 26 6 (.slice q M.length d) M.length (M.flatMap itCell) :: (F.set i emp), ?_, H85⟩
   change FReg _ _ _ _ _ #[true, true, true, false, false, false] _ _
   refine f_all (rs := [3]) t5 t13 ?_
   refine a_cons ⟨_, rfl, ?_⟩ (fun x hx => absurd hx t13)
   intro w86 H87
   try dsimp only at H87
   refine s_buildSlice H87 6 1 (cs := (itc it77)) #[.int .i64 0, .int .i64 0, .int .i64 0, .int .i64 0, .slice none 0 0, .int .i64 0] el_38 ze_26 t9 t9 t5 rfl ?_; intro bk88 w89 H90
   have H91 : St W w89 (_ :: _ :: _ :: _ :: _ :: _ :: _ :: _ :: _ :: _ :: _ :: _ :: (F.set i emp)) := (H90.mv [11, 11, 11, 11, 4])
   have H92 : St W w89 (_ :: _ :: _ :: _ :: _ :: _ :: _ :: _ :: _ :: _ :: _ :: _ :: (F.set i emp)) := (H91.mv [11, 11, 11, 11, 11])
   have H93 : St W w89 (_ :: _ :: _ :: _ :: _ :: _ :: _ :: _ :: _ :: _ :: _ :: _ :: (F.set i emp)) := (H92.mv [11, 11])
   refine ⟨blk bk88 (.cells (itc it77) 26 (0, 0)) :: Im 6 (.slice it77.p it77.bs.length it77.c) it77.bs.length (it77.bs.flatMap bndCell) :: bndsA it77.bs :: blk bk7 (.cells #[.slice q M.length d] 38 (0, 0)) :: Row 26 6 (.slice q M.length d) M.length (M.flatMap itCell) :: (F.set i emp), ?_, H93⟩
   change FReg _ _ _ _ _ #[true, true, true, true, false, false] _ _
   refine f_all (rs := [4]) t5 t13 ?_
   refine a_cons ⟨_, rfl, ?_⟩ (fun x hx => absurd hx t13)
   intro w94 H95
   try dsimp only at H95
   refine s_append H95 11 rfl rfl rfl (rd_blk (H95.blk_at (i := 7) rfl) rfl (nbl rfl) t15) ap_38 t9 t12 t0 (n' := M.length + 1) (xs' := M.flatMap itCell ++ ((itl it77) : List Value)) t0 t16 rfl ?_; intro vv96 w97 H98 hn99
   obtain ⟨pp100, cc101, rfl⟩ := Row.slice H98 (i := 11) rfl
   refine ⟨blk bk88 (.cells (itc it77) 26 (0, 0)) :: Im 6 (.slice it77.p it77.bs.length it77.c) it77.bs.length (it77.bs.flatMap bndCell) :: bndsA it77.bs :: blk bk7 (.cells #[.slice q M.length d] 38 (0, 0)) :: Row 26 6 (.slice pp100 (M.length + 1) cc101) (M.length + 1) (M.flatMap itCell ++ ((itl it77) : List Value)) :: (F.set i emp), ?_, H98⟩
   change FReg _ _ _ _ _ #[true, true, true, true, true, false] _ _
   refine f_all (rs := [5]) t5 t13 ?_
   refine a_cons ⟨_, rfl, ?_⟩ (fun x hx => absurd hx t13)
   intro w102 H103
   try dsimp only at H103
   refine s_store H103 10 (.slice pp100 (M.length + 1) cc101) rfl rfl rfl sz_38 rfl (nbl rfl) rfl (cs' := #[.slice pp100 (M.length + 1) cc101]) rfl ?_; intro w104 H105
   refine ⟨blk bk88 (.cells (itc it77) 26 (0, 0)) :: Im 6 (.slice it77.p it77.bs.length it77.c) it77.bs.length (it77.bs.flatMap bndCell) :: bndsA it77.bs :: blk bk7 (.cells #[.slice pp100 (M.length + 1) cc101] 38 (0, 0)) :: Row 26 6 (.slice pp100 (M.length + 1) cc101) (M.length + 1) (M.flatMap itCell ++ ((itl it77) : List Value)) :: (F.set i emp), ?_, H105⟩
   change FReg _ _ _ _ _ #[true, true, true, true, true, true] _ _
   refine f_done t5 ?_
   intro w106 H107
   refine g_inBlock (g_region (rc (s_add ((j : Int) + 1) rfl rfl (wi64 t0) rfl (Mv (.int .i64 ((j : Int) + 1)) (r_nil ?_)))))
   have H108 := Row.shut2 (p := pp2) (n := L.length) (c := cc3) (size := 6) (xs := L.flatMap itCell) H107 (i := 5) rfl hp22 h23 h24 h25 t30 (fun x_ hx_ => by obtain ⟨a_, _, ha_⟩ := List.mem_flatMap.1 hx_; exact one_it a_ x_ ha_)
   have H109 : St W w106 (blk bk31 (.cells #[.int .i64 ((L.getD j default).op.v), .int .i64 ((L.getD j default).inp.v), .int .i64 ((L.getD j default).ep.v), .int .i64 ((L.getD j default).kind.v), .slice ((L.getD j default).p) ((L.getD j default).bs.length) ((L.getD j default).c), .int .i64 ((L.getD j default).t.v)] 26 (0, 0)) :: Im 6 (.slice ((L.getD j default).p) ((L.getD j default).bs.length) ((L.getD j default).c)) ((L.getD j default).bs.length) ((L.getD j default).bs.flatMap bndCell) :: bndsA ((L.getD j default).bs) :: itsA M :: blk g (.cells #[.bool true, .int .i64 e, .slice pp2 L.length cc3] 90 (0, 0)) :: Row 26 6 (.slice pp2 L.length cc3) L.length (L.flatMap itCell) :: itsA L :: blk bk88 (.cells #[.int .i64 it77.op.v, .int .i64 it77.inp.v, .int .i64 it77.ep.v, .int .i64 it77.kind.v, .slice it77.p it77.bs.length it77.c, .int .i64 it77.t.v] 26 (0, 0)) :: Im 6 (.slice it77.p it77.bs.length it77.c) it77.bs.length (it77.bs.flatMap bndCell) :: bndsA it77.bs :: blk bk7 (.cells #[.slice pp100 ((M ++ [it77]).length) cc101] 38 (0, 0)) :: Row 26 6 (.slice pp100 ((M ++ [it77]).length) cc101) ((M ++ [it77]).length) ((M ++ [it77]).flatMap itCell) :: (F.set i emp)) := by rw [List.flatMap_append, List.length_append]; exact H108
   have H110 : St W w106 (_ :: _ :: _ :: _ :: _ :: _ :: _ :: _ :: _ :: _ :: _ :: _ :: (F.set i emp)) := (H109.mv [3, 9, 9])
   have H111 : St W w106 (itsA (M ++ [it77]) :: _ :: _ :: _ :: _ :: _ :: _ :: _ :: _ :: _ :: (F.set i emp)) := itsA_snoc (x := it77) H110
   have H112 : St W w106 (_ :: _ :: _ :: _ :: _ :: _ :: (F.set i emp)) := (H111.mv [6, 6, 6, 3, 9, 9, 106, 106, 106, 106])
   exact nx18 (j + 1, (M ++ [it77]), pp100, cc101) _ _ ⟨t0, (ok_stepI hM t0 hy78).1, H112⟩ t7 t1
  intro w113 H114
  try dsimp only at H114
  refine s_buildSlice H114 6 1 (cs := (itc it77)) #[.int .i64 0, .int .i64 0, .int .i64 0, .int .i64 0, .slice none 0 0, .int .i64 0] el_38 ze_26 t9 t9 t5 rfl ?_; intro bk115 w116 H117
  have H118 : St W w116 (_ :: _ :: _ :: _ :: _ :: _ :: _ :: _ :: _ :: _ :: _ :: _ :: (F.set i emp)) := (H117.mv [11, 11, 11, 11, 4])
  have H119 : St W w116 (_ :: _ :: _ :: _ :: _ :: _ :: _ :: _ :: _ :: _ :: _ :: _ :: (F.set i emp)) := (H118.mv [11, 11, 11, 11, 11])
  have H120 : St W w116 (_ :: _ :: _ :: _ :: _ :: _ :: _ :: _ :: _ :: _ :: _ :: _ :: (F.set i emp)) := (H119.mv [11, 11])
  refine ⟨blk bk115 (.cells (itc it77) 26 (0, 0)) :: Im 6 (.slice it77.p it77.bs.length it77.c) it77.bs.length (it77.bs.flatMap bndCell) :: bndsA it77.bs :: blk bk7 (.cells #[.slice q M.length d] 38 (0, 0)) :: Row 26 6 (.slice q M.length d) M.length (M.flatMap itCell) :: (F.set i emp), ?_, H120⟩
  change FReg _ _ _ _ _ #[false, true, true, true, false, false] _ _
  refine f_all (rs := [0]) t5 t13 ?_
  refine a_cons ⟨_, rfl, ?_⟩ (fun x hx => absurd hx t13)
  intro w121 H122
  try dsimp only at H122
  refine s_load (.slice q M.length d) ag_38 rfl (H122.blk_at (i := 10) rfl) rfl rfl ?_
  refine ⟨blk bk115 (.cells (itc it77) 26 (0, 0)) :: Im 6 (.slice it77.p it77.bs.length it77.c) it77.bs.length (it77.bs.flatMap bndCell) :: bndsA it77.bs :: blk bk7 (.cells #[.slice q M.length d] 38 (0, 0)) :: Row 26 6 (.slice q M.length d) M.length (M.flatMap itCell) :: (F.set i emp), ?_, H122⟩
  change FReg _ _ _ _ _ #[true, true, true, true, false, false] _ _
  refine f_all (rs := [4]) t5 t13 ?_
  refine a_cons ⟨_, rfl, ?_⟩ (fun x hx => absurd hx t13)
  intro w123 H124
  try dsimp only at H124
  refine s_append H124 11 rfl rfl rfl (rd_blk (H124.blk_at (i := 7) rfl) rfl (nbl rfl) t15) ap_38 t9 t12 t0 (n' := M.length + 1) (xs' := M.flatMap itCell ++ ((itl it77) : List Value)) t0 t16 rfl ?_; intro vv125 w126 H127 hn128
  obtain ⟨pp129, cc130, rfl⟩ := Row.slice H127 (i := 11) rfl
  refine ⟨blk bk115 (.cells (itc it77) 26 (0, 0)) :: Im 6 (.slice it77.p it77.bs.length it77.c) it77.bs.length (it77.bs.flatMap bndCell) :: bndsA it77.bs :: blk bk7 (.cells #[.slice q M.length d] 38 (0, 0)) :: Row 26 6 (.slice pp129 (M.length + 1) cc130) (M.length + 1) (M.flatMap itCell ++ ((itl it77) : List Value)) :: (F.set i emp), ?_, H127⟩
  change FReg _ _ _ _ _ #[true, true, true, true, true, false] _ _
  refine f_all (rs := [5]) t5 t13 ?_
  refine a_cons ⟨_, rfl, ?_⟩ (fun x hx => absurd hx t13)
  intro w131 H132
  try dsimp only at H132
  refine s_store H132 10 (.slice pp129 (M.length + 1) cc130) rfl rfl rfl sz_38 rfl (nbl rfl) rfl (cs' := #[.slice pp129 (M.length + 1) cc130]) rfl ?_; intro w133 H134
  refine ⟨blk bk115 (.cells (itc it77) 26 (0, 0)) :: Im 6 (.slice it77.p it77.bs.length it77.c) it77.bs.length (it77.bs.flatMap bndCell) :: bndsA it77.bs :: blk bk7 (.cells #[.slice pp129 (M.length + 1) cc130] 38 (0, 0)) :: Row 26 6 (.slice pp129 (M.length + 1) cc130) (M.length + 1) (M.flatMap itCell ++ ((itl it77) : List Value)) :: (F.set i emp), ?_, H134⟩
  change FReg _ _ _ _ _ #[true, true, true, true, true, true] _ _
  refine f_done t5 ?_
  intro w135 H136
  refine g_inBlock (g_region (rc (s_add ((j : Int) + 1) rfl rfl (wi64 t0) rfl (Mv (.int .i64 ((j : Int) + 1)) (r_nil ?_)))))
  have H137 := Row.shut2 (p := pp2) (n := L.length) (c := cc3) (size := 6) (xs := L.flatMap itCell) H136 (i := 5) rfl hp22 h23 h24 h25 t30 (fun x_ hx_ => by obtain ⟨a_, _, ha_⟩ := List.mem_flatMap.1 hx_; exact one_it a_ x_ ha_)
  have H138 : St W w135 (blk bk31 (.cells #[.int .i64 ((L.getD j default).op.v), .int .i64 ((L.getD j default).inp.v), .int .i64 ((L.getD j default).ep.v), .int .i64 ((L.getD j default).kind.v), .slice ((L.getD j default).p) ((L.getD j default).bs.length) ((L.getD j default).c), .int .i64 ((L.getD j default).t.v)] 26 (0, 0)) :: Im 6 (.slice ((L.getD j default).p) ((L.getD j default).bs.length) ((L.getD j default).c)) ((L.getD j default).bs.length) ((L.getD j default).bs.flatMap bndCell) :: bndsA ((L.getD j default).bs) :: itsA M :: blk g (.cells #[.bool true, .int .i64 e, .slice pp2 L.length cc3] 90 (0, 0)) :: Row 26 6 (.slice pp2 L.length cc3) L.length (L.flatMap itCell) :: itsA L :: blk bk115 (.cells #[.int .i64 it77.op.v, .int .i64 it77.inp.v, .int .i64 it77.ep.v, .int .i64 it77.kind.v, .slice it77.p it77.bs.length it77.c, .int .i64 it77.t.v] 26 (0, 0)) :: Im 6 (.slice it77.p it77.bs.length it77.c) it77.bs.length (it77.bs.flatMap bndCell) :: bndsA it77.bs :: blk bk7 (.cells #[.slice pp129 ((M ++ [it77]).length) cc130] 38 (0, 0)) :: Row 26 6 (.slice pp129 ((M ++ [it77]).length) cc130) ((M ++ [it77]).length) ((M ++ [it77]).flatMap itCell) :: (F.set i emp)) := by rw [List.flatMap_append, List.length_append]; exact H137
  have H139 : St W w135 (_ :: _ :: _ :: _ :: _ :: _ :: _ :: _ :: _ :: _ :: _ :: _ :: (F.set i emp)) := (H138.mv [3, 9, 9])
  have H140 : St W w135 (itsA (M ++ [it77]) :: _ :: _ :: _ :: _ :: _ :: _ :: _ :: _ :: _ :: (F.set i emp)) := itsA_snoc (x := it77) H139
  have H141 : St W w135 (_ :: _ :: _ :: _ :: _ :: _ :: (F.set i emp)) := (H140.mv [6, 6, 6, 3, 9, 9, 106, 106, 106, 106])
  exact nx18 (j + 1, (M ++ [it77]), pp129, cc130) _ _ ⟨t0, (ok_stepI hM t0 hy78).1, H141⟩ t7 t1
 refine rc (s_lss false rfl rfl (dfalse hc19) rfl (r_nil (g_seq (g_false rfl (g_exit t39 (g_seq (g_region (rc (s_makeFunc (.func (.func 59) #[] #[.pointer (pa bk7)]) rfl rfl (Ag (.func (.func 59) #[] #[.pointer (pa bk7)]) (r_nil (Gr [.func (.func 59) #[] #[.pointer (pa bk7)]] Tryz.func22 Tryz.results22 ?_))))))))))))
 have hMv : M.map ItemD.v = L.map ItemD.v := by rw [hM, List.take_of_length_le t43]
 have H142 : St W w16 (imm bk7 (.cells #[.slice q M.length d] 38 (0, 0)) :: Row 26 6 (.slice q M.length d) M.length (M.flatMap itCell) :: itsA M :: blk g (.cells #[.bool true, .int .i64 e, .slice pp2 L.length cc3] 90 (0, 0)) :: Row 26 6 (.slice pp2 L.length cc3) L.length (L.flatMap itCell) :: itsA L :: (F.set i emp)) := blk_imm H17 (i := 0) rfl
 have H143 : St W w16 (_ :: _ :: _ :: _ :: _ :: _ :: (F.set i emp)) := Row.im H142 (i := 1) rfl
 have H144 : St W w16 (_ :: _ :: _ :: _ :: _ :: _ :: (F.set i emp)) := (H143.mv [5, 5, 5])
 have H145 : St W w16 (GtA g e L :: _ :: _ :: _ :: (F.set i emp)) := St.shut_ex (pp2, cc3) (St.shut_star (ls := [_, _, _]) H144)
 have H146 : St W w16 (_ :: _ :: _ :: _ :: (F.set i emp)) := (H145.mv [3, 3, 3])
 have H147 : St W w16 (_ :: (imm bk7 (.cells #[.slice q M.length d] 38 (0, 0)) :: Im 6 (.slice q M.length d) M.length (M.flatMap itCell) :: itsA M :: F).set (i + 3) emp) := (H146.move 3 rfl)
 exact ⟨bk7, M, _, _, rfl, hMv, St.back_same (i := i + 3) t34 H147⟩
theorem Gate_All1 (bx l : Nat) (L : List ItemD) (q : Option Addr) (d : Nat) (hok : ∀ x ∈ L, itE x = 0) (J Jx : List ItemD → Atom) {i1 i2 i3 : Nat} (h1 : F[i1]? = some (imm bx (.cells #[.slice q L.length d] 38 (0, 0)))) (h2 : F[i2]? = some (Im 6 (.slice q L.length d) L.length (L.flatMap itCell))) (h3 : F[i3]? = some (itsA L)) (hY : ∀ w G pre (x : ItemD), (pre ++ [x]).map ItemD.v <+: L.map ItemD.v → St W w (J pre :: itsA [x] :: G) → YieldAt Tryz.prog l [.agg (itc x)] w (fun v w' => (v = .bool true ∧ St W w' (J (pre ++ [x]) :: G)) ∨ (v = .bool false ∧ St W w' (Jx (pre ++ [x]) :: G)))) (H : St W w (J [] :: F)) : Calls Tryz.prog 59 #[.func (.yield l) #[] #[], .pointer (pa bx)] w (Ret fun v w' => ∃ L2 : List ItemD, (L2.map ItemD.v = L.map ItemD.v ∧ St W w' (J L2 :: F)) ∨ (L2.map ItemD.v <+: L.map ItemD.v ∧ St W w' (Jx L2 :: F))) := by
 have H0 := ((H.dup (i := i1 + 1) (by exact h1) (imm_pers _ _)).dup (i := i2 + 2) (by exact h2) (Im_pers _ _ _ _)).dup (i := i3 + 3) (by exact h3) (itsA_pers _)
 have H1 : St W w (_ :: _ :: _ :: _ :: F) := H0
 refine calls_of_go (n := 17) Tryz.func59 rfl Tryz.ntmps59 rfl ?_
 refine g_seq (g_region (rc (s_load (.slice q L.length d) ag_38 rfl (H1.imm_at (i := 2) rfl) rfl rfl (rc (s_len L.length rfl ⟨_, un_38⟩ rfl (Mv (.int .i64 0) (r_nil (g_block ?_))))))))
 obtain ⟨pA2, cA3, gA4, oA5, kA6, eA7, zA8, he14, hn9, hp10, hx11, hs12, hml, H13⟩ := Im.open_ H1 (i := 1) rfl
 obtain ⟨rfl, rfl⟩ : q = pA2 ∧ d = cA3 := by injection he14 with a_ b_ c_; exact ⟨a_, c_⟩
 have H15 : St W w (_ :: _ :: _ :: _ :: _ :: F) := (H13.move 4 rfl)
 refine g_loop_inv (fun ((j, pre) : Nat × (List ItemD)) => [(0, .func (.yield l) #[] #[]), (5, .slice q L.length d), (6, .int .i64 (L.length : Int)), (7, .int .i64 (j : Int))]) (fun (j, pre) w => (j ≤ L.length) ∧ (pre.map ItemD.v = (L.map ItemD.v).take j) ∧ St W w (J pre :: imi (0 < L.length) gA4 (.cells kA6 eA7 zA8) :: itsA L :: Im 6 (.slice q L.length d) L.length (L.flatMap itCell) :: imm bx (.cells #[.slice q L.length d] 38 (0, 0)) :: F)) (fun (j, pre) => L.length - j) (0, []) ?_ ?_ ?_
 ·exact t1
 ·exact ⟨t0, rfl, H15⟩
 rintro ⟨j, pre⟩ ρ16 w17 ⟨hjn, hpj, H18⟩ nx19
 change Ends _ _ (upds ρ16 [(0, .func (.yield l) #[] #[]), (5, .slice q L.length d), (6, .int .i64 (L.length : Int)), (7, .int .i64 (j : Int))]) w17
 refine g_seq (g_region ?_)
 by_cases hc20 : (j : Int) < (L.length : Int)
 ·refine rc (s_lss true rfl rfl (dtrue hc20) rfl (r_nil (g_seq (g_true rfl (g_skip (g_seq (g_block (g_seq (g_region (rc (s_indexAddr gA4 (off := oA5) (j : Int) 6 (oA5 + j * 6) (by exact congrArg (fun z_ => Value.slice z_ L.length d) (hp10 t0)) rfl el_38 t0 rfl rfl (rc (s_loadAgg (itl (L.getD j default)) 6 ag_26 rfl (H18.imi_at (i := 1) rfl t0) (by have := elem_size (i := j) (s := 6) (hs12 t0) t0; omega) (elem_take itCell_len (hx11 t0) t0 default) rfl (rc (s_alloc H18 26 ze_26 rfl (fun bk21 w22 H23 => Sa H23 0 rfl (itc (L.getD j default)) 6 sz_26 (itc (L.getD j default)) (fun w24 H25 => r_nil (g_seq (g_region (Mv (.func (.yield l) #[] #[]) (La (itl (L.getD j default)) 6 ag_26 H25 0 ?_)))))))))))))))))))))
  have H26 : St W w24 (bndsA ((L.getD j default).bs) :: _ :: _ :: _ :: _ :: _ :: _ :: F) := itsA_at H25 (i := 3) rfl (j := j) t0
  have H27 : St W w24 (Im 6 (.slice ((L.getD j default).p) ((L.getD j default).bs.length) ((L.getD j default).c)) ((L.getD j default).bs.length) ((L.getD j default).bs.flatMap bndCell) :: _ :: _ :: _ :: _ :: _ :: _ :: _ :: F) := itsA_bs H26 (i := 4) rfl (j := j) t0
  refine rc (s_call [.agg (itc (L.getD j default))] pl_54 rfl rfl (migrate_own (L.getD j default) (bsOk_it (hok _ (getD_memI t0))) (ip := 0) rfl (iq := 1) rfl H27) ?_)
  rintro _ w30 ⟨it28, rfl, hy29, H31⟩
  have H32 := itsA_nil H31
  have H33 : St W w30 (_ :: _ :: _ :: _ :: _ :: _ :: _ :: _ :: _ :: _ :: _ :: F) := (H32.mv [2, 2])
  have H34 : St W w30 (itsA [it28] :: _ :: _ :: _ :: _ :: _ :: _ :: _ :: _ :: F) := itsA_snoc (L := []) (x := it28) H33
  have H35 : St W w30 (_ :: _ :: _ :: _ :: _ :: _ :: _ :: _ :: _ :: F) := (H34.move 4 rfl)
  refine rc (s_yield l [.agg (itc it28)] rfl rfl rfl (hY _ _ pre it28 (ok_stepI (y := it28) hpj t0 hy29).2 H35) ?_)
  rintro _ w36 (⟨rfl, H37⟩ | ⟨rfl, H37⟩)
  ·have H38 : St W w36 (_ :: _ :: _ :: _ :: _ :: _ :: _ :: _ :: F) := H37
   refine rc (s_not true rfl false rfl rfl (r_nil (g_false rfl (g_skip (g_inBlock (g_region (rc (s_add ((j : Int) + 1) rfl rfl (wi64 t0) rfl (Mv (.int .i64 ((j : Int) + 1)) (r_nil ?_))))))))))
   have H39 : St W w36 (_ :: _ :: _ :: _ :: _ :: F) := (H38.mv [7, 7, 7, 7, 4, 105, 105, 105])
   exact nx19 (j + 1, (pre ++ [it28])) _ _ ⟨t0, (ok_stepI (y := it28) hpj t0 hy29).1, H39⟩ t7 t1
  have H40 : St W w36 (_ :: _ :: _ :: _ :: _ :: _ :: _ :: _ :: F) := H37
  refine rc (s_not false rfl true rfl rfl (r_nil (g_true rfl ?_)))
  refine g_ret' [] Tryz.func59 Tryz.results59 trivial ?_
  have H41 : St W w36 (_ :: F) := (H40.mv [101, 101, 101, 101, 101, 101, 101])
  exact ⟨_, .inr ⟨(ok_stepI (y := it28) hpj t0 hy29).2, H41⟩⟩
 refine rc (s_lss false rfl rfl (dfalse hc20) rfl (r_nil (g_seq (g_false rfl (g_exit t39 ?_)))))
 refine g_end' [] Tryz.func59 Tryz.results59 trivial ?_
 have H42 : St W w17 (_ :: F) := (H18.mv [101, 101, 101, 101])
 exact ⟨_, .inl ⟨by rw [hpj, List.take_of_length_le t43], H42⟩⟩
theorem told_ (bx : Nat) (L Lw : List ItemD) (q : Option Addr) (d : Nat) (wv : Value) (heq : L.map ItemD.v = Lw.map ItemD.v) (hok : ∀ x ∈ L, itE x = 0) {i1 i2 i3 j k : Nat} (h1 : F[i1]? = some (imm bx (.cells #[.slice q L.length d] 38 (0, 0)))) (h2 : F[i2]? = some (Im 6 (.slice q L.length d) L.length (L.flatMap itCell))) (h3 : F[i3]? = some (itsA L)) (hj : F[j]? = some (Im 6 wv Lw.length (Lw.flatMap itCell))) (hk : F[k]? = some (itsA Lw)) (H : St W w F) : Calls Tryz.prog 21 #[.func (.func 59) #[] #[.pointer (pa bx)], wv] w (Ret fun v w' => v = .bool true ∧ St W w' F) := by
 obtain ⟨pp1, cc2, rfl, hn3⟩ := Rd.shape (Im.rd H (i := j) hj)
 have H4 := ((((H.dup (i := k) hk (itsA_pers _)).dup (i := j + 1) (by exact hj) (Im_pers _ _ _ _)).dup (i := i3 + 2) (by exact h3) (itsA_pers _)).dup (i := i2 + 3) (by exact h2) (Im_pers _ _ _ _)).dup (i := i1 + 4) (by exact h1) (imm_pers _ _)
 have H5 : St W w (_ :: _ :: _ :: _ :: _ :: F) := H4
 have hml := Im.len H5 (i := 3) rfl
 refine calls_of_go (n := 28) Tryz.func21 rfl Tryz.ntmps21 rfl ?_
 refine g_seq (g_region (rc (s_box H5 38 (.slice pp1 Lw.length cc2) rfl (cs := #[.slice pp1 Lw.length cc2]) rfl rfl (fun bk6 w7 H8 => rc (s_alloc H8 4 ze_4 rfl (fun bk9 w10 H11 => r_nil (g_seq (g_region (rc (s_alloc H11 3 ze_3 rfl (fun bk12 w13 H14 => rc (s_store H14 0 (.int .i64 0) rfl rfl rfl sz_3 rfl (nbl rfl) rfl (cs' := #[.int .i64 0]) rfl (fun w15 H16 => r_nil (g_seq (g_seq (g_region (Mv (.func (.func 59) #[] #[.pointer (pa bx)]) (r_nil (g_block ?_)))))))))))))))))))
 have H17 : St W w15 (_ :: _ :: _ :: _ :: _ :: _ :: _ :: _ :: F) := (H16.mv [7, 7, 4, 4, 4])
 have H18 : St W w15 (star [blk bk12 (.cells #[.int .i64 (([] : List ItemD).length : Int)] 3 (0, 0)), blk bk9 (.cells #[.bool false] 4 (0, 0)), blk bk6 (.cells #[.slice pp1 Lw.length cc2] 38 (0, 0)), Im 6 (.slice pp1 Lw.length cc2) Lw.length (Lw.flatMap itCell), itsA Lw] :: _ :: _ :: _ :: F) := St.shut_star (ls := [_, _, _, _, _]) H17
 refine g_range1 (W := W) (F := imm bx (.cells #[.slice q L.length d] 38 (0, 0)) :: Im 6 (.slice q L.length d) L.length (L.flatMap itCell) :: itsA L :: F) 59 [.pointer (pa bx)] rfl rfl pl_59 (fun x_ : ItemD => .agg (itc x_)) rfl (fun x_ : ItemD => itsA [x_]) (fun pre_ => star [blk bk12 (.cells #[.int .i64 (pre_.length : Int)] 3 (0, 0)), blk bk9 (.cells #[.bool false] 4 (0, 0)), blk bk6 (.cells #[.slice pp1 Lw.length cc2] 38 (0, 0)), Im 6 (.slice pp1 Lw.length cc2) Lw.length (Lw.flatMap itCell), itsA Lw]) (fun c_ pre_ => star [pure' False]) (fun pre_ x_ => (pre_ ++ [x_]).map ItemD.v <+: L.map ItemD.v) (fun L_ => L_.map ItemD.v = L.map ItemD.v) (fun L_ => L_.map ItemD.v <+: L.map ItemD.v) H18 ?_ ?_ ?_ ?_
 ·intro l19 r20 w21 G22 pre23 x24 hr25 hr26 hok27 H28
  try dsimp only at hok27 H28
  have H29 : St W w21 (_ :: _ :: _ :: G22) := H28
  have H30 := H29.move 1 rfl
  have H31 := St.open_star H30
  obtain ⟨n32, hn33⟩ : ∃ n : Nat, n = pre23.length := ⟨_, rfl⟩
  have H34 : St W w21 (blk bk12 (.cells #[.int .i64 (n32 : Int)] 3 (0, 0)) :: blk bk9 (.cells #[.bool false] 4 (0, 0)) :: blk bk6 (.cells #[.slice pp1 Lw.length cc2] 38 (0, 0)) :: Im 6 (.slice pp1 Lw.length cc2) Lw.length (Lw.flatMap itCell) :: itsA Lw :: blk l19 (.loop r20) :: itsA [x24] :: G22) := by rw [hn33]; exact H31
  obtain ⟨hx1, hx2⟩ := told_at hok27 heq hn33
  obtain ⟨pA35, cA36, gA37, oA38, kA39, eA40, zA41, he47, hn42, hp43, hx44, hs45, hml, H46⟩ := Im.open_ H34 (i := 3) rfl
  obtain ⟨rfl, rfl⟩ : pp1 = pA35 ∧ cc2 = cA36 := by injection he47 with a_ b_ c_; exact ⟨a_, c_⟩
  have H48 : St W w21 (bndsA ((Lw.getD n32 default).bs) :: _ :: _ :: _ :: _ :: _ :: _ :: _ :: _ :: G22) := itsA_at H46 (i := 5) rfl (j := n32) t0
  have H49 : St W w21 (Im 6 (.slice ((Lw.getD n32 default).p) ((Lw.getD n32 default).bs.length) ((Lw.getD n32 default).c)) ((Lw.getD n32 default).bs.length) ((Lw.getD n32 default).bs.flatMap bndCell) :: _ :: _ :: _ :: _ :: _ :: _ :: _ :: _ :: _ :: G22) := itsA_bs H48 (i := 6) rfl (j := n32) t0
  have H50 : St W w21 (bndsA x24.bs :: _ :: _ :: _ :: _ :: _ :: _ :: _ :: _ :: _ :: _ :: G22) := itsA_at H49 (i := 9) rfl (j := 0) t13
  have H51 : St W w21 (Im 6 (.slice x24.p x24.bs.length x24.c) x24.bs.length (x24.bs.flatMap bndCell) :: _ :: _ :: _ :: _ :: _ :: _ :: _ :: _ :: _ :: _ :: _ :: G22) := itsA_bs H50 (i := 10) rfl (j := 0) t13
  have hsm : sameIt x24 (Lw.getD n32 default) = true := sameIt_is.2 hx2
  refine g_region (rc (s_alloc H51 26 ze_26 rfl (fun bk52 w53 H54 => Sa H54 0 rfl (itc x24) 6 sz_26 (itc x24) (fun w55 H56 => r_nil ?_))))
  refine g_beginRound H56 (i := 11) rfl hr25 ?_; intro w57 H58
  have H59 : St W w57 (_ :: _ :: _ :: _ :: _ :: _ :: _ :: _ :: _ :: _ :: _ :: _ :: _ :: G22) := H58
  refine g_block (g_seq (g_seq ?_))
  refine g_quiet (fun w' => St W w' (blk bk52 (.cells (itc x24) 26 (0, 0)) :: Im 6 (.slice x24.p x24.bs.length x24.c) x24.bs.length (x24.bs.flatMap bndCell) :: bndsA x24.bs :: Im 6 (.slice ((Lw.getD n32 default).p) ((Lw.getD n32 default).bs.length) ((Lw.getD n32 default).c)) ((Lw.getD n32 default).bs.length) ((Lw.getD n32 default).bs.flatMap bndCell) :: bndsA ((Lw.getD n32 default).bs) :: imi (0 < Lw.length) gA37 (.cells kA39 eA40 zA41) :: blk bk12 (.cells #[.int .i64 (n32 : Int)] 3 (0, 0)) :: blk bk9 (.cells #[.bool false] 4 (0, 0)) :: blk bk6 (.cells #[.slice pp1 Lw.length cc2] 38 (0, 0)) :: Im 6 (.slice pp1 Lw.length cc2) Lw.length (Lw.flatMap itCell) :: itsA Lw :: blk l19 (.loop { r20 with state := .busy }) :: itsA [x24] :: G22)) mixed t5 H59.drew ?_
  refine Qv (fun w hw => x_load (.int .i64 (n32 : Int)) ag_3 rfl (hw.blk_at (i := 6) rfl) rfl) (Qv (fun w hw => x_load (.slice pp1 Lw.length cc2) ag_38 rfl (hw.blk_at (i := 8) rfl) rfl) (Qv (fun w hw => x_len Lw.length rfl ⟨_, un_38⟩ w) (Qv (fun w hw => x_geq false rfl rfl (dfalse t0) w) (Qm (.bool false) (Qt (Qu (fun w hw => x_loadAgg (itl x24) 6 ag_26 rfl (hw.blk_at (i := 0) rfl) (nbl rfl) rfl) (Qt (Qu (fun w hw => x_load (.slice pp1 Lw.length cc2) ag_38 rfl (hw.blk_at (i := 8) rfl) rfl) (Qt (Qu (fun w hw => x_load (.int .i64 (n32 : Int)) ag_3 rfl (hw.blk_at (i := 6) rfl) rfl) (Qt (Qu (fun w hw => x_indexAddr gA37 (off := oA38) (n32 : Int) 6 (oA38 + n32 * 6) (by exact congrArg (fun z_ => Value.slice z_ Lw.length cc2) (hp43 t0)) rfl el_38 t0 rfl w) (Qt (Qu (fun w hw => x_loadAgg (itl (Lw.getD n32 default)) 6 ag_26 rfl (hw.imi_at (i := 5) rfl t0) (by have := elem_size (i := n32) (s := 6) (hs45 t0) t0; omega) (elem_take itCell_len (hx44 t0) t0 default)) (Qt ?_)))))))))))))))
  refine q_enter (args := #[.agg (itc x24), .agg (itc (Lw.getD n32 default))]) (v := .bool (sameIt x24 (Lw.getD n32 default))) rfl rfl rfl (x_call pl_13 [.agg (itc x24), .agg (itc (Lw.getD n32 default))] rfl) (fun w hw => ref24_SameItem x24 (Lw.getD n32 default) (ip := 1) rfl (iq := 2) rfl (ip2 := 3) rfl (iq2 := 4) rfl hw) ?_
  refine Qt (Qu (fun w hw => x_not (sameIt x24 (Lw.getD n32 default)) rfl false (by rw [hsm]; rfl) w) (Qv (fun w hw => x_pick_f (.bool false) rfl rfl w) (q_nil ?_)))
  intro w60 H61
  refine g_false rfl (g_skip (g_region (Lo (.int .i64 (n32 : Int)) ag_3 H61 6 (rc (s_add ((n32 + 1 : Nat) : Int) rfl rfl ((wi64 t0).trans t0) rfl (rc (s_store H61 6 (.int .i64 ((n32 + 1 : Nat) : Int)) rfl rfl rfl sz_3 rfl (nbl rfl) rfl (cs' := #[.int .i64 ((n32 + 1 : Nat) : Int)]) rfl (fun w62 H63 => r_nil (g_inBlock ?_)))))))))
  have H64 : St W w62 (_ :: _ :: _ :: _ :: _ :: _ :: _ :: _ :: _ :: _ :: _ :: _ :: _ :: G22) := (H63.mv [10, 10, 10, 10, 10])
  have H65 : St W w62 (blk bk12 (.cells #[.int .i64 ((pre23 ++ [x24]).length : Int)] 3 (0, 0)) :: blk bk9 (.cells #[.bool false] 4 (0, 0)) :: blk bk6 (.cells #[.slice pp1 Lw.length cc2] 38 (0, 0)) :: Im 6 (.slice pp1 Lw.length cc2) Lw.length (Lw.flatMap itCell) :: itsA Lw :: blk bk52 (.cells #[.int .i64 x24.op.v, .int .i64 x24.inp.v, .int .i64 x24.ep.v, .int .i64 x24.kind.v, .slice x24.p x24.bs.length x24.c, .int .i64 x24.t.v] 26 (0, 0)) :: Im 6 (.slice x24.p x24.bs.length x24.c) x24.bs.length (x24.bs.flatMap bndCell) :: bndsA x24.bs :: Im 6 (.slice ((Lw.getD n32 default).p) ((Lw.getD n32 default).bs.length) ((Lw.getD n32 default).c)) ((Lw.getD n32 default).bs.length) ((Lw.getD n32 default).bs.flatMap bndCell) :: bndsA ((Lw.getD n32 default).bs) :: imi (0 < Lw.length) gA37 (.cells kA39 eA40 zA41) :: blk l19 (.loop { r20 with state := .busy }) :: itsA [x24] :: G22) := by rw [show (pre23 ++ [x24]).length = n32 + 1 from by rw [hn33]; simp]; exact H64
  have H66 : St W w62 (star [blk bk12 (.cells #[.int .i64 ((pre23 ++ [x24]).length : Int)] 3 (0, 0)), blk bk9 (.cells #[.bool false] 4 (0, 0)), blk bk6 (.cells #[.slice pp1 Lw.length cc2] 38 (0, 0)), Im 6 (.slice pp1 Lw.length cc2) Lw.length (Lw.flatMap itCell), itsA Lw] :: _ :: _ :: _ :: _ :: _ :: _ :: _ :: _ :: G22) := St.shut_star (ls := [_, _, _, _, _]) H65
  have H67 : St W w62 (_ :: _ :: G22) := (H66.mv [7, 102, 102, 102, 102, 102, 102, 102])
  refine g_round_end hr25 hr26 H67 (i := 0) rfl ?_; intro w68 H69
  exact .inl ⟨rfl, H69⟩
 ·intro l J Jx B w H hY; exact Gate_All1 bx l L q d hok J Jx (i1 := 1) rfl (i2 := 2) rfl (i3 := 3) rfl hY H
 ·intro D70 L71 w72 hS73 H74
  have H76 : St W w72 (_ :: _ :: _ :: _ :: _ :: F) := H74
  have H77 := St.open_star H76
  obtain ⟨n78, hn79⟩ : ∃ n : Nat, n = L71.length := ⟨_, rfl⟩
  have H80 : St W w72 (blk bk12 (.cells #[.int .i64 (n78 : Int)] 3 (0, 0)) :: blk bk9 (.cells #[.bool false] 4 (0, 0)) :: blk bk6 (.cells #[.slice pp1 Lw.length cc2] 38 (0, 0)) :: Im 6 (.slice pp1 Lw.length cc2) Lw.length (Lw.flatMap itCell) :: itsA Lw :: blk D70 (.deferred (some [])) :: imm bx (.cells #[.slice q L.length d] 38 (0, 0)) :: Im 6 (.slice q L.length d) L.length (L.flatMap itCell) :: itsA L :: F) := by rw [hn79]; exact H77
  have hend : n78 = Lw.length := by have h8 := congrArg List.length (hS73.trans heq); simpa [hn79] using h8
  refine g_inBlock (g_seq (g_region (Lo (.int .i64 (n78 : Int)) ag_3 H80 0 (Lo (.slice pp1 Lw.length cc2) ag_38 H80 2 (rc (s_len Lw.length rfl ⟨_, un_38⟩ rfl (rc (s_eql true rfl rfl (dtrue t0) rfl (rc (s_store H80 1 (.bool true) rfl rfl rfl sz_4 rfl (nbl rfl) rfl (cs' := #[.bool true]) rfl (fun w81 H82 => r_nil ?_)))))))))))
  obtain ⟨hd83, H84⟩ := H82.collect (i := 5) rfl
  refine g_retD _ [.bool true] Tryz.func21 Tryz.results21 rfl ⟨hd83, trivial⟩ ⟨(res_cell1 rfl ag_4 (H84.blk_at (i := 1) rfl) rfl), trivial⟩ ?_
  have H85 : St W (w81.putObj D70 (.deferred none)) F := (H84.mv [100, 100, 100, 100, 100, 100, 100, 100])
  exact ⟨rfl, H85⟩
 intro D86 c91 L87 w88 hS89 H90
 have H92 : St W w88 (_ :: _ :: _ :: _ :: _ :: F) := H90
 obtain ⟨hc93, H94⟩ := St.open_pure (St.open_star H92)
 exact hc93.elim
theorem migrate_Pack (B : List ByD) (lv : Value) (hs : ∀ x ∈ B, x.data.length ≤ 130000) (hn : B.length ≤ 4097) {m k : Nat} (hm : F[m]? = some (Im 1 lv B.length (B.flatMap byCell))) (hk : F[k]? = some (bysA B)) (H : St W w F) : Calls Tryz.prog 60 #[lv] w (Ret fun v w' => ∃ p n c, v = .tuple #[.slice p n c, .int .i64 (pkE (B.map ByD.data))] ∧ n = (pkB (B.map ByD.data)).length ∧ St W w' (Row 5 1 (.slice p n c) n ((pkB (B.map ByD.data)).flatMap u8c) :: F)) := by
 obtain ⟨pp1, cc2, rfl, hsh3⟩ := Rd.shape (Im.rd H (i := m) hm)
 have H4 := H.dup (i := m) hm (Im_pers _ _ _ _)
 have hmlH4 := Im.len H4 (i := 0) rfl
 have H5 := H4.dup (i := k + 1) (by exact hk) (bysA_pers _)
 have H6 : St W w (_ :: _ :: F) := H5
 have hsb := sum_bound hs
 obtain ⟨pA7, cA8, gA9, oA10, kA11, eA12, zA13, he19, hn14, hp15, hx16, hs17, hml, H18⟩ := Im.open_ H6 (i := 1) rfl
 obtain ⟨rfl, rfl⟩ : pp1 = pA7 ∧ cc2 = cA8 := by injection he19 with a_ b_ c_; exact ⟨a_, c_⟩
 refine calls_of_go (n := 56) Tryz.func60 rfl Tryz.ntmps60 rfl ?_
 refine g_seq (g_region (Ag (.slice none 0 0) (Ag (.int .i64 0) (r_nil (g_seq (g_region (Ag (.int .i64 0) (r_nil (g_seq (g_seq (g_region (Mv (.slice pp1 B.length cc2) (rc (s_len B.length rfl ⟨_, un_98⟩ rfl (Mv (.int .i64 0) (r_nil (g_block ?_)))))))))))))))))
 refine g_loop_inv (fun (j : Nat) => [(0, .slice pp1 B.length cc2), (2, .slice none 0 0), (3, .int .i64 0), (4, .int .i64 ((sumL ((B.take j).map ByD.data) : Nat) : Int)), (11, .slice pp1 B.length cc2), (12, .int .i64 (B.length : Int)), (13, .int .i64 (j : Int))]) (fun j w => (j ≤ B.length) ∧ St W w (imi (0 < B.length) gA9 (.cells kA11 eA12 zA13) :: bysA B :: Im 1 (.slice pp1 B.length cc2) B.length (B.flatMap byCell) :: F)) (fun j => B.length - j) (0) ?_ ?_ ?_
 ·exact t1
 ·exact ⟨t0, H18⟩
 rintro j ρ20 w21 ⟨hjn, H22⟩ nx23
 change Ends _ _ (upds ρ20 [(0, .slice pp1 B.length cc2), (2, .slice none 0 0), (3, .int .i64 0), (4, .int .i64 ((sumL ((B.take j).map ByD.data) : Nat) : Int)), (11, .slice pp1 B.length cc2), (12, .int .i64 (B.length : Int)), (13, .int .i64 (j : Int))]) w21
 have hsp := sum_part (B := B) j
 refine g_seq (g_region ?_)
 by_cases hc24 : (j : Int) < (B.length : Int)
 ·refine rc (s_lss true rfl rfl (dtrue hc24) rfl (r_nil (g_seq (g_true rfl (g_skip (g_seq (g_block (g_seq (g_region (rc (s_indexAddr gA9 (off := oA10) (j : Int) 1 (oA10 + j * 1) t41 rfl el_98 t0 rfl rfl (rc (s_load (.slice ((B.getD j default).p) ((B.getD j default).data.length) ((B.getD j default).c)) ag_27 rfl (H22.imi_at (i := 0) rfl t0) (elem_cell (L := B) (i := j) byCell_len (hx16 t0) t0 default 0 t9 _ rfl) rfl (Ag (.slice ((B.getD j default).p) ((B.getD j default).data.length) ((B.getD j default).c)) (r_nil (g_region (Mv (.int .i64 ((sumL ((B.take j).map ByD.data) : Nat) : Int)) (Mv (.slice ((B.getD j default).p) ((B.getD j default).data.length) ((B.getD j default).c)) ?_))))))))))))))))))
  have hx9 := hs _ (getD_memB (B := B) (j := j) t0)
  refine rc (s_len ((B.getD j default).data.length) rfl ⟨_, un_27⟩ rfl (rc (s_add ((sumL ((B.take (j + 1)).map ByD.data) : Nat) : Int) rfl rfl ((wi64 t0).trans (by rw [sum_step t0]; omega)) rfl (Ag (.int .i64 ((sumL ((B.take (j + 1)).map ByD.data) : Nat) : Int)) (r_nil (g_inBlock (g_region (rc (s_add ((j : Int) + 1) rfl rfl (wi64 t0) rfl (Mv (.int .i64 ((j : Int) + 1)) (r_nil ?_)))))))))))
  have H25 : St W w21 (_ :: _ :: _ :: F) := (H22.mv [2, 2, 2])
  exact nx23 (j + 1) _ _ ⟨t0, H25⟩ t7 t1
 refine rc (s_lss false rfl rfl (dfalse hc24) rfl (r_nil (g_seq (g_false rfl (g_exit t39 (g_seq (g_seq (g_region (Mv (.slice pp1 B.length cc2) (rc (s_len B.length rfl ⟨_, un_98⟩ rfl ?_)))))))))))
 by_cases hc26 : (1024 : Int) < (B.length : Int)
 ·refine rc (s_gtr true rfl rfl (dtrue hc26) rfl (Mv (.bool true) (Rp (Rp (Pt (.bool true) (r_nil (g_true rfl (g_seq (g_region (Ag (.slice none 0 0) (Ag (.int .i64 3) (r_nil (Gr [.slice none 0 0, .int .i64 3] Tryz.func60 Tryz.results60 ?_)))))))))))))
  have hjB : B.take j = B := List.take_of_length_le t0
  have hsj : sumL ((B.take j).map ByD.data) = sumL (B.map ByD.data) := by rw [hjB]
  have hE : pkE (B.map ByD.data) = 3 := pkE_no t43
  have H27 := Row.nil_intro H22 5 1
  have H28 : St W w21 (_ :: F) := (H27.mv [101, 101, 101])
  exact ⟨none, 0, 0, by rw [hE]; rfl, by rw [pkB_no (by rw [hE]; decide)]; rfl, by rw [pkB_no (by rw [hE]; decide)]; exact H28⟩
 refine rc (s_gtr false rfl rfl (dfalse hc26) rfl (Mv (.bool false) (Rt (Mw (.int .i64 ((sumL ((B.take j).map ByD.data) : Nat) : Int)) (Rt ?_)))))
 by_cases hc29 : (4194304 : Int) < ((sumL ((B.take j).map ByD.data) : Nat) : Int)
 ·refine s_gtr true rfl rfl (dtrue hc29) rfl (Pf (.bool true) (r_nil (g_true rfl (g_seq (g_region (Ag (.slice none 0 0) (Ag (.int .i64 3) (r_nil (Gr [.slice none 0 0, .int .i64 3] Tryz.func60 Tryz.results60 ?_)))))))))
  have hjB : B.take j = B := List.take_of_length_le t0
  have hsj : sumL ((B.take j).map ByD.data) = sumL (B.map ByD.data) := by rw [hjB]
  have hE : pkE (B.map ByD.data) = 3 := pkE_no t43
  have H30 := Row.nil_intro H22 5 1
  have H31 : St W w21 (_ :: F) := (H30.mv [101, 101, 101])
  exact ⟨none, 0, 0, by rw [hE]; rfl, by rw [pkB_no (by rw [hE]; decide)]; rfl, by rw [pkB_no (by rw [hE]; decide)]; exact H31⟩
 refine s_gtr false rfl rfl (dfalse hc29) rfl (Pf (.bool false) (r_nil (g_false rfl (g_skip (g_seq (g_region (Ag (.slice none 0 0) (r_nil (g_seq (g_seq (g_region (Mv (.slice pp1 B.length cc2) (rc (s_len B.length rfl ⟨_, un_98⟩ rfl (Mv (.int .i64 0) (r_nil (g_block ?_)))))))))))))))))
 have hjB : B.take j = B := List.take_of_length_le t0
 have H32 := Row.nil_intro H22 5 1
 refine g_loop_inv (fun ((j2, q, d) : Nat × (Option Addr) × Nat) => [(2, .slice none 0 0), (3, .int .i64 0), (7, .slice q ((pkL ((B.take j2).map ByD.data)).length) d), (29, .slice pp1 B.length cc2), (30, .int .i64 (B.length : Int)), (31, .int .i64 (j2 : Int))]) (fun (j2, q, d) w => (j2 ≤ B.length) ∧ St W w (Row 5 1 (.slice q ((pkL ((B.take j2).map ByD.data)).length) d) ((pkL ((B.take j2).map ByD.data)).length) ((pkL ((B.take j2).map ByD.data)).flatMap u8c) :: imi (0 < B.length) gA9 (.cells kA11 eA12 zA13) :: bysA B :: Im 1 (.slice pp1 B.length cc2) B.length (B.flatMap byCell) :: F)) (fun (j2, q, d) => B.length - j2) (0, none, 0) ?_ ?_ ?_
 ·exact t1
 ·exact ⟨t0, H32⟩
 rintro ⟨j2, q, d⟩ ρ33 w34 ⟨hjn2, H35⟩ nx36
 change Ends _ _ (upds ρ33 [(2, .slice none 0 0), (3, .int .i64 0), (7, .slice q ((pkL ((B.take j2).map ByD.data)).length) d), (29, .slice pp1 B.length cc2), (30, .int .i64 (B.length : Int)), (31, .int .i64 (j2 : Int))]) w34
 have hsp2 := pk_len_part (B := B) j2
 refine g_seq (g_region ?_)
 by_cases hc37 : (j2 : Int) < (B.length : Int)
 ·refine rc (s_lss true rfl rfl (dtrue hc37) rfl (r_nil (g_seq (g_true rfl (g_skip (g_seq (g_block (g_seq (g_region (rc (s_indexAddr gA9 (off := oA10) (j2 : Int) 1 (oA10 + j2 * 1) t41 rfl el_98 t0 rfl rfl ?_)))))))))))
  have hx9 := hs _ (getD_memB (B := B) (j := j2) t0)
  have H38 : St W w34 (Im 1 (.slice ((B.getD j2 default).p) ((B.getD j2 default).data.length) ((B.getD j2 default).c)) (((B.getD j2 default).data).length) (((B.getD j2 default).data).flatMap u8c) :: _ :: _ :: _ :: _ :: F) := bysA_at H35 (i := 2) rfl (j := j2) t0
  refine rc (s_load (.slice ((B.getD j2 default).p) ((B.getD j2 default).data.length) ((B.getD j2 default).c)) ag_27 rfl (H38.imi_at (i := 2) rfl t0) (elem_cell (L := B) (i := j2) byCell_len (hx16 t0) t0 default 0 t9 _ rfl) rfl (Ag (.slice ((B.getD j2 default).p) ((B.getD j2 default).data.length) ((B.getD j2 default).c)) (r_nil (g_seq (g_region (Mv (.slice ((B.getD j2 default).p) ((B.getD j2 default).data.length) ((B.getD j2 default).c)) (rc (s_len ((B.getD j2 default).data.length) rfl ⟨_, un_27⟩ rfl (Ag (.int .i64 ((B.getD j2 default).data.length : Int)) (r_nil (g_seq (g_region (Mv (.slice q ((pkL ((B.take j2).map ByD.data)).length) d) (Mv (.int .i64 ((B.getD j2 default).data.length : Int)) (rc (s_shr ((((B.getD j2 default).data.length) / 16777216 : Nat) : Int) rfl rfl t0 (shr24 _) rfl (rc (s_conv (((((B.getD j2 default).data.length) / 16777216) % 256 : Nat) : Int) rfl us_3 ik_5 (u8_wrap _) rfl (Mv (.int .i64 ((B.getD j2 default).data.length : Int)) (rc (s_shr ((((B.getD j2 default).data.length) / 65536 : Nat) : Int) rfl rfl t0 (shr16 _) rfl (rc (s_conv (((((B.getD j2 default).data.length) / 65536) % 256 : Nat) : Int) rfl us_3 ik_5 (u8_wrap _) rfl (Mv (.int .i64 ((B.getD j2 default).data.length : Int)) (rc (s_shr ((((B.getD j2 default).data.length) / 256 : Nat) : Int) rfl rfl t0 (shr8 _) rfl (rc (s_conv (((((B.getD j2 default).data.length) / 256) % 256 : Nat) : Int) rfl us_3 ik_5 (u8_wrap _) rfl (Mv (.int .i64 ((B.getD j2 default).data.length : Int)) (rc (s_conv ((((B.getD j2 default).data.length) % 256 : Nat) : Int) rfl us_3 ik_5 (u8_wrap _) rfl (rc (s_buildSlice H38 1 4 (cs := #[.int .u8 (((((B.getD j2 default).data.length) / 16777216) % 256 : Nat) : Int), .int .u8 (((((B.getD j2 default).data.length) / 65536) % 256 : Nat) : Int), .int .u8 (((((B.getD j2 default).data.length) / 256) % 256 : Nat) : Int), .int .u8 ((((B.getD j2 default).data.length) % 256 : Nat) : Int)]) #[.int .u8 0] el_27 ze_5 t9 t9 t5 rfl (fun bk39 w40 H41 => rc (s_append H41 2 rfl rfl rfl (rd_blk (H41.blk_at (i := 0) rfl) rfl (nbl rfl) t15) ap_27 t9 t12 t0 (n' := (pkL ((B.take j2).map ByD.data)).length + 4) (xs' := (pkL ((B.take j2).map ByD.data)).flatMap u8c ++ ([.int .u8 (((((B.getD j2 default).data.length) / 16777216) % 256 : Nat) : Int), .int .u8 (((((B.getD j2 default).data.length) / 65536) % 256 : Nat) : Int), .int .u8 (((((B.getD j2 default).data.length) / 256) % 256 : Nat) : Int), .int .u8 ((((B.getD j2 default).data.length) % 256 : Nat) : Int)] : List Value)) t0 t16 rfl ?_))))))))))))))))))))))))))))))))))); intro vv42 w43 H44 hn45
  obtain ⟨pp46, cc47, rfl⟩ := Row.slice H44 (i := 2) rfl
  refine Ag (.slice pp46 ((pkL ((B.take j2).map ByD.data)).length + 4) cc47) (r_nil (g_region (Mv (.slice pp46 ((pkL ((B.take j2).map ByD.data)).length + 4) cc47) (Mv (.slice ((B.getD j2 default).p) ((B.getD j2 default).data.length) ((B.getD j2 default).c)) (rc (s_append H44 2 rfl rfl rfl (Im.rd H44 (i := 1) rfl) ap_27 t9 t12 t0 (n' := (pkL ((B.take j2).map ByD.data)).length + 4 + ((B.getD j2 default).data).length) (xs' := (pkL ((B.take j2).map ByD.data)).flatMap u8c ++ ([.int .u8 (((((B.getD j2 default).data.length) / 16777216) % 256 : Nat) : Int), .int .u8 (((((B.getD j2 default).data.length) / 65536) % 256 : Nat) : Int), .int .u8 (((((B.getD j2 default).data.length) / 256) % 256 : Nat) : Int), .int .u8 ((((B.getD j2 default).data.length) % 256 : Nat) : Int)] : List Value) ++ ((B.getD j2 default).data).flatMap u8c) t0 t16 rfl ?_)))))); intro vv48 w49 H50 hn51
  obtain ⟨pp52, cc53, rfl⟩ := Row.slice H50 (i := 2) rfl
  refine Ag (.slice pp52 ((pkL ((B.take j2).map ByD.data)).length + 4 + ((B.getD j2 default).data).length) cc53) (r_nil (g_inBlock (g_region (rc (s_add ((j2 : Int) + 1) rfl rfl (wi64 t0) rfl (Mv (.int .i64 ((j2 : Int) + 1)) (r_nil ?_)))))))
  have H54 : St W w49 (blk bk39 (.cells #[.int .u8 (((((B.getD j2 default).data.length) / 16777216) % 256 : Nat) : Int), .int .u8 (((((B.getD j2 default).data.length) / 65536) % 256 : Nat) : Int), .int .u8 (((((B.getD j2 default).data.length) / 256) % 256 : Nat) : Int), .int .u8 ((((B.getD j2 default).data.length) % 256 : Nat) : Int)] 5 (0, 0)) :: Im 1 (.slice ((B.getD j2 default).p) ((B.getD j2 default).data.length) ((B.getD j2 default).c)) (((B.getD j2 default).data).length) (((B.getD j2 default).data).flatMap u8c) :: Row 5 1 (.slice pp52 ((pkL ((B.take (j2 + 1)).map ByD.data)).length) cc53) ((pkL ((B.take (j2 + 1)).map ByD.data)).length) ((pkL ((B.take (j2 + 1)).map ByD.data)).flatMap u8c) :: imi (0 < B.length) gA9 (.cells kA11 eA12 zA13) :: bysA B :: Im 1 (.slice pp1 B.length cc2) B.length (B.flatMap byCell) :: F) := by rw [pk_step t0, List.flatMap_append, List.flatMap_append, be4_cells, List.length_append, List.length_append, be4_len]; exact H50
  have H55 : St W w49 (_ :: _ :: _ :: _ :: F) := (H54.mv [5, 5, 5, 5, 104, 104])
  exact nx36 (j2 + 1, pp52, cc53) _ _ ⟨t0, H55⟩ t7 ⟨by first | rfl | exact vint t0, by first | rfl | exact vint t0, by rw [pk_step t0, List.length_append, List.length_append, be4_len]; rfl, by first | rfl | exact vint t0, by first | rfl | exact vint t0, by first | rfl | exact vint t0, trivial⟩
 refine rc (s_lss false rfl rfl (dfalse hc37) rfl (r_nil (g_seq (g_false rfl (g_exit t39 (g_seq (g_region (Mv (.slice q ((pkL ((B.take j2).map ByD.data)).length) d) (Ag (.slice q ((pkL ((B.take j2).map ByD.data)).length) d) (Ag (.int .i64 0) (r_nil (Gr [.slice q ((pkL ((B.take j2).map ByD.data)).length) d, .int .i64 0] Tryz.func60 Tryz.results60 ?_))))))))))))
 have hjB : B.take j = B := List.take_of_length_le t0
 have hsj : sumL ((B.take j).map ByD.data) = sumL (B.map ByD.data) := by rw [hjB]
 have hE : pkE (B.map ByD.data) = 0 := pkE_yes t43 t0
 have hj2 : B.take j2 = B := List.take_of_length_le t0
 have H56 : St W w34 (_ :: F) := (H35.mv [101, 101, 101])
 exact ⟨_, _, _, by rw [hE]; rfl, by rw [pkB_yes hE, hj2], by rw [pkB_yes hE]; have h9 := H56; rw [hj2] at h9; rw [hj2]; exact h9⟩
theorem ref24_Pack (B : List ByD) (lv : Value) (hs : ∀ x ∈ B, x.data.length ≤ 130000) (hn : B.length ≤ 4097) {m k : Nat} (hm : F[m]? = some (Im 1 lv B.length (B.flatMap byCell))) (hk : F[k]? = some (bysA B)) (H : St W w F) : Calls Tryz.prog 61 #[lv] w (Ret fun v w' => ∃ p n c, v = .tuple #[.slice p n c, .int .i64 (pkE (B.map ByD.data))] ∧ n = (pkB (B.map ByD.data)).length ∧ St W w' (Row 5 1 (.slice p n c) n ((pkB (B.map ByD.data)).flatMap u8c) :: F)) := by
 obtain ⟨pp1, cc2, rfl, hsh3⟩ := Rd.shape (Im.rd H (i := m) hm)
 have H4 := H.dup (i := m) hm (Im_pers _ _ _ _)
 have hmlH4 := Im.len H4 (i := 0) rfl
 have H5 := H4.dup (i := k + 1) (by exact hk) (bysA_pers _)
 have H6 : St W w (_ :: _ :: F) := H5
 have hsb := sum_bound hs
 obtain ⟨pA7, cA8, gA9, oA10, kA11, eA12, zA13, he19, hn14, hp15, hx16, hs17, hml, H18⟩ := Im.open_ H6 (i := 1) rfl
 obtain ⟨rfl, rfl⟩ : pp1 = pA7 ∧ cc2 = cA8 := by injection he19 with a_ b_ c_; exact ⟨a_, c_⟩
 refine calls_of_go (n := 61) Tryz.func61 rfl Tryz.ntmps61 rfl ?_
 refine g_seq (g_region (Ag (.slice none 0 0) (Ag (.int .i64 0) (r_nil (g_seq (g_region (Ag (.int .i64 0) (r_nil (g_seq (g_seq (g_region (Ag (.int .i64 0) (r_nil (g_block ?_))))))))))))))
 refine g_loop_inv (fun (j : Nat) => [(0, .slice pp1 B.length cc2), (2, .slice none 0 0), (3, .int .i64 0), (4, .int .i64 ((sumL ((B.take j).map ByD.data) : Nat) : Int)), (5, .int .i64 (j : Int))]) (fun j w => (j ≤ B.length) ∧ St W w (imi (0 < B.length) gA9 (.cells kA11 eA12 zA13) :: bysA B :: Im 1 (.slice pp1 B.length cc2) B.length (B.flatMap byCell) :: F)) (fun j => B.length - j) (0) ?_ ?_ ?_
 ·exact t1
 ·exact ⟨t0, H18⟩
 rintro j ρ20 w21 ⟨hjn, H22⟩ nx23
 change Ends _ _ (upds ρ20 [(0, .slice pp1 B.length cc2), (2, .slice none 0 0), (3, .int .i64 0), (4, .int .i64 ((sumL ((B.take j).map ByD.data) : Nat) : Int)), (5, .int .i64 (j : Int))]) w21
 have hsp := sum_part (B := B) j
 refine g_seq (g_seq (g_region (Mv (.int .i64 (j : Int)) (Mv (.slice pp1 B.length cc2) (rc (s_len B.length rfl ⟨_, un_98⟩ rfl ?_))))))
 by_cases hc24 : (j : Int) < (B.length : Int)
 ·refine rc (s_lss true rfl rfl (dtrue hc24) rfl (r_nil (g_true rfl (g_skip (g_seq (g_block (g_region (Mv (.int .i64 ((sumL ((B.take j).map ByD.data) : Nat) : Int)) (Mv (.slice pp1 B.length cc2) (Mv (.int .i64 (j : Int)) (rc (s_indexAddr gA9 (off := oA10) (j : Int) 1 (oA10 + j * 1) t41 rfl el_98 t0 rfl rfl (rc (s_load (.slice ((B.getD j default).p) ((B.getD j default).data.length) ((B.getD j default).c)) ag_27 rfl (H22.imi_at (i := 0) rfl t0) (elem_cell (L := B) (i := j) byCell_len (hx16 t0) t0 default 0 t9 _ rfl) rfl ?_))))))))))))))
  have hx9 := hs _ (getD_memB (B := B) (j := j) t0)
  refine rc (s_len ((B.getD j default).data.length) rfl ⟨_, un_27⟩ rfl (rc (s_add ((sumL ((B.take (j + 1)).map ByD.data) : Nat) : Int) rfl rfl ((wi64 t0).trans (by rw [sum_step t0]; omega)) rfl (Ag (.int .i64 ((sumL ((B.take (j + 1)).map ByD.data) : Nat) : Int)) (r_nil (g_inBlock (g_region (Mv (.int .i64 (j : Int)) (rc (s_add ((j : Int) + 1) rfl rfl (wi64 t0) rfl (Ag (.int .i64 ((j : Int) + 1)) (r_nil ?_))))))))))))
  have H25 : St W w21 (_ :: _ :: _ :: F) := (H22.mv [2, 2, 2])
  exact nx23 (j + 1) _ _ ⟨t0, H25⟩ t7 t1
 refine rc (s_lss false rfl rfl (dfalse hc24) rfl (r_nil (g_false rfl (g_exit t39 (g_seq (g_seq (g_region (Mv (.slice pp1 B.length cc2) (rc (s_len B.length rfl ⟨_, un_98⟩ rfl ?_))))))))))
 by_cases hc26 : (1024 : Int) < (B.length : Int)
 ·refine rc (s_gtr true rfl rfl (dtrue hc26) rfl (Mv (.bool true) (Rp (Rp (Pt (.bool true) (r_nil (g_true rfl (g_seq (g_region (Ag (.slice none 0 0) (Ag (.int .i64 3) (r_nil (Gr [.slice none 0 0, .int .i64 3] Tryz.func61 Tryz.results61 ?_)))))))))))))
  have hjB : B.take j = B := List.take_of_length_le t0
  have hsj : sumL ((B.take j).map ByD.data) = sumL (B.map ByD.data) := by rw [hjB]
  have hE : pkE (B.map ByD.data) = 3 := pkE_no t43
  have H27 := Row.nil_intro H22 5 1
  have H28 : St W w21 (_ :: F) := (H27.mv [101, 101, 101])
  exact ⟨none, 0, 0, by rw [hE]; rfl, by rw [pkB_no (by rw [hE]; decide)]; rfl, by rw [pkB_no (by rw [hE]; decide)]; exact H28⟩
 refine rc (s_gtr false rfl rfl (dfalse hc26) rfl (Mv (.bool false) (Rt (Mw (.int .i64 ((sumL ((B.take j).map ByD.data) : Nat) : Int)) (Rt ?_)))))
 by_cases hc29 : (4194304 : Int) < ((sumL ((B.take j).map ByD.data) : Nat) : Int)
 ·refine s_gtr true rfl rfl (dtrue hc29) rfl (Pf (.bool true) (r_nil (g_true rfl (g_seq (g_region (Ag (.slice none 0 0) (Ag (.int .i64 3) (r_nil (Gr [.slice none 0 0, .int .i64 3] Tryz.func61 Tryz.results61 ?_)))))))))
  have hjB : B.take j = B := List.take_of_length_le t0
  have hsj : sumL ((B.take j).map ByD.data) = sumL (B.map ByD.data) := by rw [hjB]
  have hE : pkE (B.map ByD.data) = 3 := pkE_no t43
  have H30 := Row.nil_intro H22 5 1
  have H31 : St W w21 (_ :: F) := (H30.mv [101, 101, 101])
  exact ⟨none, 0, 0, by rw [hE]; rfl, by rw [pkB_no (by rw [hE]; decide)]; rfl, by rw [pkB_no (by rw [hE]; decide)]; exact H31⟩
 refine s_gtr false rfl rfl (dfalse hc29) rfl (Pf (.bool false) (r_nil (g_false rfl (g_skip (g_seq (g_region (Ag (.slice none 0 0) (r_nil (g_seq (g_seq (g_region (Ag (.int .i64 0) (r_nil (g_block ?_))))))))))))))
 have hjB : B.take j = B := List.take_of_length_le t0
 have H32 := Row.nil_intro H22 5 1
 refine g_loop_inv (fun ((j2, q, d) : Nat × (Option Addr) × Nat) => [(0, .slice pp1 B.length cc2), (2, .slice none 0 0), (3, .int .i64 0), (6, .slice q ((pkL ((B.take j2).map ByD.data)).length) d), (7, .int .i64 (j2 : Int))]) (fun (j2, q, d) w => (j2 ≤ B.length) ∧ St W w (Row 5 1 (.slice q ((pkL ((B.take j2).map ByD.data)).length) d) ((pkL ((B.take j2).map ByD.data)).length) ((pkL ((B.take j2).map ByD.data)).flatMap u8c) :: imi (0 < B.length) gA9 (.cells kA11 eA12 zA13) :: bysA B :: Im 1 (.slice pp1 B.length cc2) B.length (B.flatMap byCell) :: F)) (fun (j2, q, d) => B.length - j2) (0, none, 0) ?_ ?_ ?_
 ·exact t1
 ·exact ⟨t0, H32⟩
 rintro ⟨j2, q, d⟩ ρ33 w34 ⟨hjn2, H35⟩ nx36
 change Ends _ _ (upds ρ33 [(0, .slice pp1 B.length cc2), (2, .slice none 0 0), (3, .int .i64 0), (6, .slice q ((pkL ((B.take j2).map ByD.data)).length) d), (7, .int .i64 (j2 : Int))]) w34
 have hsp2 := pk_len_part (B := B) j2
 refine g_seq (g_seq (g_region (Mv (.int .i64 (j2 : Int)) (Mv (.slice pp1 B.length cc2) (rc (s_len B.length rfl ⟨_, un_98⟩ rfl ?_))))))
 by_cases hc37 : (j2 : Int) < (B.length : Int)
 ·refine rc (s_lss true rfl rfl (dtrue hc37) rfl (r_nil (g_true rfl (g_skip (g_seq (g_block (g_seq (g_region (Mv (.slice pp1 B.length cc2) (Mv (.int .i64 (j2 : Int)) (rc (s_indexAddr gA9 (off := oA10) (j2 : Int) 1 (oA10 + j2 * 1) t41 rfl el_98 t0 rfl rfl ?_))))))))))))
  have hx9 := hs _ (getD_memB (B := B) (j := j2) t0)
  have H38 : St W w34 (Im 1 (.slice ((B.getD j2 default).p) ((B.getD j2 default).data.length) ((B.getD j2 default).c)) (((B.getD j2 default).data).length) (((B.getD j2 default).data).flatMap u8c) :: _ :: _ :: _ :: _ :: F) := bysA_at H35 (i := 2) rfl (j := j2) t0
  refine rc (s_load (.slice ((B.getD j2 default).p) ((B.getD j2 default).data.length) ((B.getD j2 default).c)) ag_27 rfl (H38.imi_at (i := 2) rfl t0) (elem_cell (L := B) (i := j2) byCell_len (hx16 t0) t0 default 0 t9 _ rfl) rfl (rc (s_len ((B.getD j2 default).data.length) rfl ⟨_, un_27⟩ rfl (Ag (.int .i64 ((B.getD j2 default).data.length : Int)) (r_nil (g_seq (g_region (Mv (.slice q ((pkL ((B.take j2).map ByD.data)).length) d) (Mv (.int .i64 ((B.getD j2 default).data.length : Int)) (rc (s_shr ((((B.getD j2 default).data.length) / 16777216 : Nat) : Int) rfl rfl t0 (shr24 _) rfl (rc (s_conv (((((B.getD j2 default).data.length) / 16777216) % 256 : Nat) : Int) rfl us_3 ik_5 (u8_wrap _) rfl (Mv (.int .i64 ((B.getD j2 default).data.length : Int)) (rc (s_shr ((((B.getD j2 default).data.length) / 65536 : Nat) : Int) rfl rfl t0 (shr16 _) rfl (rc (s_conv (((((B.getD j2 default).data.length) / 65536) % 256 : Nat) : Int) rfl us_3 ik_5 (u8_wrap _) rfl (Mv (.int .i64 ((B.getD j2 default).data.length : Int)) (rc (s_shr ((((B.getD j2 default).data.length) / 256 : Nat) : Int) rfl rfl t0 (shr8 _) rfl (rc (s_conv (((((B.getD j2 default).data.length) / 256) % 256 : Nat) : Int) rfl us_3 ik_5 (u8_wrap _) rfl (Mv (.int .i64 ((B.getD j2 default).data.length : Int)) (rc (s_conv ((((B.getD j2 default).data.length) % 256 : Nat) : Int) rfl us_3 ik_5 (u8_wrap _) rfl (rc (s_buildSlice H38 1 4 (cs := #[.int .u8 (((((B.getD j2 default).data.length) / 16777216) % 256 : Nat) : Int), .int .u8 (((((B.getD j2 default).data.length) / 65536) % 256 : Nat) : Int), .int .u8 (((((B.getD j2 default).data.length) / 256) % 256 : Nat) : Int), .int .u8 ((((B.getD j2 default).data.length) % 256 : Nat) : Int)]) #[.int .u8 0] el_27 ze_5 t9 t9 t5 rfl (fun bk39 w40 H41 => rc (s_append H41 2 rfl rfl rfl (rd_blk (H41.blk_at (i := 0) rfl) rfl (nbl rfl) t15) ap_27 t9 t12 t0 (n' := (pkL ((B.take j2).map ByD.data)).length + 4) (xs' := (pkL ((B.take j2).map ByD.data)).flatMap u8c ++ ([.int .u8 (((((B.getD j2 default).data.length) / 16777216) % 256 : Nat) : Int), .int .u8 (((((B.getD j2 default).data.length) / 65536) % 256 : Nat) : Int), .int .u8 (((((B.getD j2 default).data.length) / 256) % 256 : Nat) : Int), .int .u8 ((((B.getD j2 default).data.length) % 256 : Nat) : Int)] : List Value)) t0 t16 rfl ?_)))))))))))))))))))))))))))))); intro vv42 w43 H44 hn45
  obtain ⟨pp46, cc47, rfl⟩ := Row.slice H44 (i := 2) rfl
  refine Ag (.slice pp46 ((pkL ((B.take j2).map ByD.data)).length + 4) cc47) (r_nil (g_region (Mv (.slice pp46 ((pkL ((B.take j2).map ByD.data)).length + 4) cc47) (Mv (.slice pp1 B.length cc2) (Mv (.int .i64 (j2 : Int)) (rc (s_indexAddr gA9 (off := oA10) (j2 : Int) 1 (oA10 + j2 * 1) t41 rfl el_98 t0 rfl rfl (rc (s_load (.slice ((B.getD j2 default).p) ((B.getD j2 default).data.length) ((B.getD j2 default).c)) ag_27 rfl (H44.imi_at (i := 3) rfl t0) (elem_cell (L := B) (i := j2) byCell_len (hx16 t0) t0 default 0 t9 _ rfl) rfl (rc (s_append H44 2 rfl rfl rfl (Im.rd H44 (i := 1) rfl) ap_27 t9 t12 t0 (n' := (pkL ((B.take j2).map ByD.data)).length + 4 + ((B.getD j2 default).data).length) (xs' := (pkL ((B.take j2).map ByD.data)).flatMap u8c ++ ([.int .u8 (((((B.getD j2 default).data.length) / 16777216) % 256 : Nat) : Int), .int .u8 (((((B.getD j2 default).data.length) / 65536) % 256 : Nat) : Int), .int .u8 (((((B.getD j2 default).data.length) / 256) % 256 : Nat) : Int), .int .u8 ((((B.getD j2 default).data.length) % 256 : Nat) : Int)] : List Value) ++ ((B.getD j2 default).data).flatMap u8c) t0 t16 rfl ?_))))))))))); intro vv48 w49 H50 hn51
  obtain ⟨pp52, cc53, rfl⟩ := Row.slice H50 (i := 2) rfl
  refine Ag (.slice pp52 ((pkL ((B.take j2).map ByD.data)).length + 4 + ((B.getD j2 default).data).length) cc53) (r_nil (g_inBlock (g_region (Mv (.int .i64 (j2 : Int)) (rc (s_add ((j2 : Int) + 1) rfl rfl (wi64 t0) rfl (Ag (.int .i64 ((j2 : Int) + 1)) (r_nil ?_))))))))
  have H54 : St W w49 (blk bk39 (.cells #[.int .u8 (((((B.getD j2 default).data.length) / 16777216) % 256 : Nat) : Int), .int .u8 (((((B.getD j2 default).data.length) / 65536) % 256 : Nat) : Int), .int .u8 (((((B.getD j2 default).data.length) / 256) % 256 : Nat) : Int), .int .u8 ((((B.getD j2 default).data.length) % 256 : Nat) : Int)] 5 (0, 0)) :: Im 1 (.slice ((B.getD j2 default).p) ((B.getD j2 default).data.length) ((B.getD j2 default).c)) (((B.getD j2 default).data).length) (((B.getD j2 default).data).flatMap u8c) :: Row 5 1 (.slice pp52 ((pkL ((B.take (j2 + 1)).map ByD.data)).length) cc53) ((pkL ((B.take (j2 + 1)).map ByD.data)).length) ((pkL ((B.take (j2 + 1)).map ByD.data)).flatMap u8c) :: imi (0 < B.length) gA9 (.cells kA11 eA12 zA13) :: bysA B :: Im 1 (.slice pp1 B.length cc2) B.length (B.flatMap byCell) :: F) := by rw [pk_step t0, List.flatMap_append, List.flatMap_append, be4_cells, List.length_append, List.length_append, be4_len]; exact H50
  have H55 : St W w49 (_ :: _ :: _ :: _ :: F) := (H54.mv [5, 5, 5, 5, 104, 104])
  exact nx36 (j2 + 1, pp52, cc53) _ _ ⟨t0, H55⟩ t7 ⟨by first | rfl | exact vint t0, by first | rfl | exact vint t0, by first | rfl | exact vint t0, by rw [pk_step t0, List.length_append, List.length_append, be4_len]; rfl, by first | rfl | exact vint t0, trivial⟩
 refine rc (s_lss false rfl rfl (dfalse hc37) rfl (r_nil (g_false rfl (g_exit t39 (g_seq (g_region (Mv (.slice q ((pkL ((B.take j2).map ByD.data)).length) d) (Ag (.slice q ((pkL ((B.take j2).map ByD.data)).length) d) (Ag (.int .i64 0) (r_nil (Gr [.slice q ((pkL ((B.take j2).map ByD.data)).length) d, .int .i64 0] Tryz.func61 Tryz.results61 ?_)))))))))))
 have hjB : B.take j = B := List.take_of_length_le t0
 have hsj : sumL ((B.take j).map ByD.data) = sumL (B.map ByD.data) := by rw [hjB]
 have hE : pkE (B.map ByD.data) = 0 := pkE_yes t43 t0
 have hj2 : B.take j2 = B := List.take_of_length_le t0
 have H56 : St W w34 (_ :: F) := (H35.mv [101, 101, 101])
 exact ⟨_, _, _, by rw [hE]; rfl, by rw [pkB_yes hE, hj2], by rw [pkB_yes hE]; have h9 := H56; rw [hj2] at h9; rw [hj2]; exact h9⟩
theorem migrate_Unpack (L : List (List UInt8)) (lv : Value) (hE : pkE L = 0) {m : Nat} (hm : F[m]? = some (Im 1 lv (pkL L).length ((pkL L).flatMap u8c))) (H : St W w F) : Calls Tryz.prog 62 #[lv] w (Ret fun v w' => ∃ (B : List ByD) (p : Option Addr) (c : Nat), v = .tuple #[.slice p B.length c, .int .i64 0] ∧ B.map ByD.data = L ∧ St W w' (Row 27 1 (.slice p B.length c) B.length (B.flatMap byCell) :: bysA B :: F)) := by
 obtain ⟨pp1, cc2, rfl, hsh3⟩ := Rd.shape (Im.rd H (i := m) hm)
 have H4 := H.dup (i := m) hm (Im_pers _ _ _ _)
 have hmlH4 := Im.len H4 (i := 0) rfl
 obtain ⟨hE1, hE2⟩ := pkE_is hE
 refine calls_of_go (n := 55) Tryz.func62 rfl Tryz.ntmps62 rfl ?_
 refine g_seq (g_region (Ag (.slice none 0 0) (Ag (.int .i64 0) (r_nil (g_seq (g_region (Ag (.slice none 0 0) (r_nil (g_seq (g_block ?_))))))))))
 have H5 := Row.nil_intro H4 27 1
 have H6 := bysA_nil H5
 have H7 : St W w (_ :: _ :: _ :: F) := (H6.mv [1, 2])
 refine g_loop_inv (fun ((k, B, bp, bc, q, d) : Nat × (List ByD) × (Option Addr) × Nat × (Option Addr) × Nat) => [(0, .slice bp ((pkL (L.drop k)).length) bc), (2, .slice none 0 0), (3, .int .i64 0), (4, .slice q B.length d)]) (fun (k, B, bp, bc, q, d) w => (k ≤ L.length) ∧ (B.map ByD.data = L.take k) ∧ St W w (Im 1 (.slice bp ((pkL (L.drop k)).length) bc) ((pkL (L.drop k)).length) ((pkL (L.drop k)).flatMap u8c) :: Row 27 1 (.slice q B.length d) B.length (B.flatMap byCell) :: bysA B :: F)) (fun (k, B, bp, bc, q, d) => L.length - k) (0, [], pp1, cc2, none, 0) ?_ ?_ ?_
 ·exact t1
 ·exact ⟨t0, rfl, H7⟩
 rintro ⟨k, B, bp, bc, q, d⟩ ρ8 w9 ⟨hkn, hB, H10⟩ nx11
 change Ends _ _ (upds ρ8 [(0, .slice bp ((pkL (L.drop k)).length) bc), (2, .slice none 0 0), (3, .int .i64 0), (4, .slice q B.length d)]) w9
 have hBl : B.length = k := by have h9 := congrArg List.length hB; rw [List.length_map, List.length_take] at h9; omega
 refine g_seq (g_seq (g_region (Mv (.slice bp ((pkL (L.drop k)).length) bc) (rc (s_len ((pkL (L.drop k)).length) rfl ⟨_, un_27⟩ rfl ?_)))))
 by_cases hc12 : (0 : Int) < ((pkL (L.drop k)).length : Int)
 ·refine rc (s_gtr true rfl rfl (dtrue hc12) rfl (r_nil (g_true rfl (g_skip (g_block (g_seq (g_seq (g_region ?_))))))))
  have hkl : k < L.length := pk_pos t0
  have hl9 := pk_drop_len hkl
  have hp9 := len_part hkl
  obtain ⟨hb0, hb1, hb2, hb3⟩ := be4_at hkl
  obtain ⟨ho1, ho2, ho3⟩ := or4 (n := (L.getD k default).length) t0
  obtain ⟨pA13, cA14, gA15, oA16, kA17, eA18, zA19, he25, hn20, hp21, hx22, hs23, hml, H24⟩ := Im.open_ H10 (i := 0) rfl
  obtain ⟨rfl, rfl⟩ : bp = pA13 ∧ bc = cA14 := by injection he25 with a_ b_ c_; exact ⟨a_, c_⟩
  refine Mv (.slice bp ((pkL (L.drop k)).length) bc) (rc (s_len ((pkL (L.drop k)).length) rfl ⟨_, un_27⟩ rfl (rc (s_lss false rfl rfl (dfalse t0) rfl (r_nil (g_false rfl (g_skip (g_seq ?_))))))))
  refine g_quiet (fun w' => St W w' (imi (0 < (pkL (L.drop k)).length) gA15 (.cells kA17 eA18 zA19) :: Im 1 (.slice bp ((pkL (L.drop k)).length) bc) ((pkL (L.drop k)).length) ((pkL (L.drop k)).flatMap u8c) :: Row 27 1 (.slice q B.length d) B.length (B.flatMap byCell) :: bysA B :: F)) mixed t5 H24.drew ?_
  refine Qm (.slice bp ((pkL (L.drop k)).length) bc) (Qv (fun w hw => x_indexAddr gA15 (off := oA16) 0 1 (oA16 + 0 * 1) t42 rfl el_27 t0 rfl w) (Qv (fun w hw => x_load (.int .u8 ((((pkL (L.drop k)).getD 0 0).toNat : Nat) : Int)) ag_5 rfl (hw.imi_at (i := 0) rfl t0) (elem_cell (L := (pkL (L.drop k))) (i := 0) u8c_len (hx22 t0) t0 0 0 t9 _ rfl)) (Qv (fun w hw => x_conv (((L.getD k default).length / 16777216 % 256 : Nat) : Int) rfl us_5 ik_3 (((wi64 t0).trans t0)) w) (Qv (fun w hw => x_shl (((L.getD k default).length / 16777216 % 256 * 16777216 : Nat) : Int) rfl rfl t0 (shl24 t0) w) (Qm (.slice bp ((pkL (L.drop k)).length) bc) (Qv (fun w hw => x_indexAddr gA15 (off := oA16) 1 1 (oA16 + 1 * 1) t42 rfl el_27 t0 rfl w) (Qv (fun w hw => x_load (.int .u8 ((((pkL (L.drop k)).getD 1 0).toNat : Nat) : Int)) ag_5 rfl (hw.imi_at (i := 0) rfl t0) (elem_cell (L := (pkL (L.drop k))) (i := 1) u8c_len (hx22 t0) t0 0 0 t9 _ rfl)) (Qv (fun w hw => x_conv (((L.getD k default).length / 65536 % 256 : Nat) : Int) rfl us_5 ik_3 (((wi64 t0).trans t0)) w) (Qv (fun w hw => x_shl (((L.getD k default).length / 65536 % 256 * 65536 : Nat) : Int) rfl rfl t0 (shl16 t0) w) (Qv (fun w hw => x_or (((L.getD k default).length / 65536 * 65536 : Nat) : Int) rfl rfl (or24 ho1 t0 t0 t0) w) (Qm (.slice bp ((pkL (L.drop k)).length) bc) (Qv (fun w hw => x_indexAddr gA15 (off := oA16) 2 1 (oA16 + 2 * 1) t42 rfl el_27 t0 rfl w) (Qv (fun w hw => x_load (.int .u8 ((((pkL (L.drop k)).getD 2 0).toNat : Nat) : Int)) ag_5 rfl (hw.imi_at (i := 0) rfl t0) (elem_cell (L := (pkL (L.drop k))) (i := 2) u8c_len (hx22 t0) t0 0 0 t9 _ rfl)) (Qv (fun w hw => x_conv (((L.getD k default).length / 256 % 256 : Nat) : Int) rfl us_5 ik_3 (((wi64 t0).trans t0)) w) (Qv (fun w hw => x_shl (((L.getD k default).length / 256 % 256 * 256 : Nat) : Int) rfl rfl t0 (shl8 t0) w) (Qv (fun w hw => x_or (((L.getD k default).length / 256 * 256 : Nat) : Int) rfl rfl (or24 ho2 t0 t0 t0) w) (Qm (.slice bp ((pkL (L.drop k)).length) bc) (Qv (fun w hw => x_indexAddr gA15 (off := oA16) 3 1 (oA16 + 3 * 1) t42 rfl el_27 t0 rfl w) (Qv (fun w hw => x_load (.int .u8 ((((pkL (L.drop k)).getD 3 0).toNat : Nat) : Int)) ag_5 rfl (hw.imi_at (i := 0) rfl t0) (elem_cell (L := (pkL (L.drop k))) (i := 3) u8c_len (hx22 t0) t0 0 0 t9 _ rfl)) (Qv (fun w hw => x_conv (((L.getD k default).length % 256 : Nat) : Int) rfl us_5 ik_3 (((wi64 t0).trans t0)) w) (Qv (fun w hw => x_or (((L.getD k default).length : Nat) : Int) rfl rfl (or24 ho3 t0 t0 t0) w) (Qv (fun w hw => x_assign (.int .i64 (((L.getD k default).length : Nat) : Int)) rfl w) (q_nil ?_)))))))))))))))))))))))
  intro w26 H27
  refine g_seq (g_seq (g_region (Mv (.int .i64 (((L.getD k default).length : Nat) : Int)) (Mv (.slice bp ((pkL (L.drop k)).length) bc) (rc (s_len ((pkL (L.drop k)).length) rfl ⟨_, un_27⟩ rfl (rc (s_sub (((pkL (L.drop k)).length : Int) - 4) rfl rfl (wi64 t0) rfl (rc (s_gtr false rfl rfl (dfalse t0) rfl (r_nil (g_false rfl (g_skip (g_seq (g_seq (g_region (Mv (.slice q B.length d) (rc (s_len B.length rfl ⟨_, un_98⟩ rfl (rc (s_eql false rfl rfl (dfalse t0) rfl (r_nil (g_false rfl (g_skip (g_seq (g_region (Mv (.slice q B.length d) (Mv (.slice bp ((pkL (L.drop k)).length) bc) (Mv (.int .i64 (((L.getD k default).length : Nat) : Int)) (rc (s_add ((4 + (L.getD k default).length : Nat) : Int) rfl rfl ((wi64 t0).trans t0) rfl ?_)))))))))))))))))))))))))))))))
  have hc28 := Im.cap H27 (i := 1) rfl
  refine rc (s_slice bp 4 ((4 + (L.getD k default).length : Nat) : Int) 1 (.slice (cutAt bp 4 bc 1) ((4 + (L.getD k default).length) - 4) (bc - 4)) rfl rfl rfl el_27 t0 (by first | rfl | (congr 1; omega)) rfl ?_)
  have H29 : St W w26 (Im 1 (.slice (cutAt bp 4 bc 1) ((4 + (L.getD k default).length) - 4) (bc - 4)) ((4 + (L.getD k default).length) - 4) ((((pkL (L.drop k)).drop 4).take ((4 + (L.getD k default).length) - 4)).flatMap u8c) :: _ :: _ :: _ :: _ :: F) := Im.cut u8c_len 4 (4 + (L.getD k default).length) H27 (i := 1) rfl t0 t0
  refine rc (s_call [.slice (cutAt bp 4 bc 1) ((4 + (L.getD k default).length) - 4) (bc - 4)] pl_93 rfl rfl (bytes_Clone _ _ ((4 + (L.getD k default).length) - 4) ((((pkL (L.drop k)).drop 4).take ((4 + (L.getD k default).length) - 4)).flatMap u8c) RdA.im (by first | omega | (have hlp := Nat.le_refl 0; omega)) (j := 0) rfl H29) ?_)
  rintro _ w32 ⟨pp30, cc31, rfl, H33⟩
  refine rc (s_buildSlice H33 1 1 (cs := #[.slice pp30 ((4 + (L.getD k default).length) - 4) cc31]) #[.slice none 0 0] el_98 ze_27 t9 t9 t5 rfl (fun bk34 w35 H36 => rc (s_append H36 5 rfl rfl rfl (rd_blk (H36.blk_at (i := 0) rfl) rfl (nbl rfl) t15) ap_98 t9 t12 t0 (n' := B.length + 1) (xs' := B.flatMap byCell ++ ([.slice pp30 ((4 + (L.getD k default).length) - 4) cc31] : List Value)) t0 t16 rfl ?_))); intro vv37 w38 H39 hn40
  obtain ⟨pp41, cc42, rfl⟩ := Row.slice H39 (i := 5) rfl
  refine Ag (.slice pp41 (B.length + 1) cc42) (r_nil (g_region (Mv (.slice bp ((pkL (L.drop k)).length) bc) (Mv (.int .i64 (((L.getD k default).length : Nat) : Int)) (rc (s_add ((4 + (L.getD k default).length : Nat) : Int) rfl rfl ((wi64 t0).trans t0) rfl ?_))))))
  have hc43 := Im.cap H39 (i := 4) rfl
  refine rc (s_slice_l bp ((4 + (L.getD k default).length : Nat) : Int) 1 (.slice (cutAt bp (4 + (L.getD k default).length) bc 1) (((pkL (L.drop k)).length) - (4 + (L.getD k default).length)) (bc - (4 + (L.getD k default).length))) rfl rfl el_27 t0 (by first | rfl | (congr 1; omega)) rfl ?_)
  have H44 : St W w38 (Im 1 (.slice (cutAt bp (4 + (L.getD k default).length) bc 1) (((pkL (L.drop k)).length) - (4 + (L.getD k default).length)) (bc - (4 + (L.getD k default).length))) (((pkL (L.drop k)).length) - (4 + (L.getD k default).length)) (((pkL (L.drop k)).drop (4 + (L.getD k default).length)).flatMap u8c) :: _ :: _ :: _ :: _ :: _ :: _ :: _ :: F) := Im.cut_l u8c_len (4 + (L.getD k default).length) H39 (i := 4) rfl t0
  refine Ag (.slice (cutAt bp (4 + (L.getD k default).length) bc 1) (((pkL (L.drop k)).length) - (4 + (L.getD k default).length)) (bc - (4 + (L.getD k default).length))) (r_nil (g_inBlock ?_))
  have hx1 : 4 + (L.getD k default).length - 4 = (L.getD k default).length := by omega
  have hx2 : (pkL (L.drop k)).length - (4 + (L.getD k default).length) = (pkL (L.drop (k + 1))).length := by omega
  have hx3 := pk_drop_mid hkl
  have hx4 := pk_drop_end hkl
  have H45 : St W w38 (Im 1 (.slice (cutAt bp (4 + (L.getD k default).length) bc 1) ((pkL (L.drop (k + 1))).length) (bc - (4 + (L.getD k default).length))) ((pkL (L.drop (k + 1))).length) ((pkL (L.drop (k + 1))).flatMap u8c) :: blk bk34 (.cells #[.slice pp30 ((4 + (L.getD k default).length) - 4) cc31] 27 (0, 0)) :: Row 5 1 (.slice pp30 ((L.getD k default).length) cc31) ((L.getD k default).length) ((L.getD k default).flatMap u8c) :: Im 1 (.slice (cutAt bp 4 bc 1) ((4 + (L.getD k default).length) - 4) (bc - 4)) ((4 + (L.getD k default).length) - 4) ((((pkL (L.drop k)).drop 4).take ((4 + (L.getD k default).length) - 4)).flatMap u8c) :: imi (0 < (pkL (L.drop k)).length) gA15 (.cells kA17 eA18 zA19) :: Im 1 (.slice bp ((pkL (L.drop k)).length) bc) ((pkL (L.drop k)).length) ((pkL (L.drop k)).flatMap u8c) :: Row 27 1 (.slice pp41 ((B ++ [(⟨(L.getD k default), pp30, cc31⟩ : ByD)]).length) cc42) ((B ++ [(⟨(L.getD k default), pp30, cc31⟩ : ByD)]).length) ((B ++ [(⟨(L.getD k default), pp30, cc31⟩ : ByD)]).flatMap byCell) :: bysA B :: F) := by have h9 := H44; simp only [hx1, hx2, hx3, hx4, List.flatMap_append, List.length_append] at h9 ⊢; exact h9
  have H46 : St W w38 (_ :: _ :: _ :: _ :: _ :: _ :: _ :: _ :: F) := Row.im H45 (i := 2) rfl
  have H47 : St W w38 (_ :: _ :: _ :: _ :: _ :: _ :: _ :: _ :: F) := (H46.mv [7, 3])
  have H48 : St W w38 (bysA (B ++ [(⟨(L.getD k default), pp30, cc31⟩ : ByD)]) :: _ :: _ :: _ :: _ :: _ :: _ :: F) := bysA_snoc (x := (⟨(L.getD k default), pp30, cc31⟩ : ByD)) H47
  have H49 : St W w38 (_ :: _ :: _ :: F) := (H48.mv [6, 2, 103, 103, 103, 103])
  exact nx11 (k + 1, (B ++ [(⟨(L.getD k default), pp30, cc31⟩ : ByD)]), cutAt bp (4 + (L.getD k default).length) bc 1, bc - (4 + (L.getD k default).length), pp41, cc42) _ _ ⟨t0, (by rw [take_snocG hkl, List.map_append, hB]; rfl), H49⟩ t7 ⟨by rw [hx2]; rfl, by first | rfl | exact vint t0, by first | rfl | exact vint t0, by rw [List.length_append]; rfl, trivial⟩
 refine rc (s_gtr false rfl rfl (dfalse hc12) rfl (r_nil (g_false rfl (g_exit t39 (g_seq (g_region (Mv (.slice q B.length d) (Ag (.slice q B.length d) (Ag (.int .i64 0) (r_nil (Gr [.slice q B.length d, .int .i64 0] Tryz.func62 Tryz.results62 ?_)))))))))))
 have hke : k = L.length := by rcases Nat.lt_or_ge k L.length with hc | hc <;> first | omega | (have h9 := pk_drop_len hc; omega)
 have H50 : St W w9 (_ :: _ :: F) := (H10.mv [2, 2, 102])
 exact ⟨B, _, _, rfl, by rw [hB, hke, List.take_length], H50⟩
theorem Ref_Bytes (g : Nat) (e : Int) (E : Nat) (hE : e = (E : Int)) (hE2 : E ≤ 9223372036854775807) (L : List ItemD) (hok : ∀ x ∈ L, itE x = 0) (hL : L.length ≤ 4096) {i : Nat} (hi : F[i]? = some (GrA g e L)) (H : St W w F) : Calls Tryz.prog 24 #[.pointer (pa g)] w (Ret fun v w' => ∃ p n c, v = .tuple #[.slice p n c, .int .i64 (pkE (gbL E (L.map ItemD.v)))] ∧ n = (pkB (gbL E (L.map ItemD.v))).length ∧ St W w' (Row 5 1 (.slice p n c) n ((pkB (gbL E (L.map ItemD.v))).flatMap u8c) :: F)) := by
 have H0 := H.front hi
 have H1 := H0.move 0 rfl
 obtain ⟨⟨pp2, cc3⟩, H4⟩ := St.open_ex H1
 have H5 := St.open_star H4
 have H6 : St W w (_ :: _ :: _ :: (F.set i emp)) := H5
 refine calls_of_go (n := 59) Tryz.func24 rfl Tryz.ntmps24 rfl ?_
 refine g_seq (g_region (Ag (.slice none 0 0) (Ag (.int .i64 0) (r_nil (g_seq (g_region (Ag (.slice none 0 0) (r_nil (g_seq (g_seq (g_region (Ag (.int .i64 0) (r_nil (g_block ?_))))))))))))))
 have H7 := Row.nil_intro H6 5 1
 refine g_loop_inv (fun ((j, q, d) : Nat × (Option Addr) × Nat) => [(0, .pointer (pa g)), (2, .slice none 0 0), (3, .int .i64 0), (4, .slice q j d), (5, .int .i64 (j : Int))]) (fun (j, q, d) w => (j ≤ 8) ∧ St W w (Row 5 1 (.slice q j d) j (((be8 E).take j).flatMap u8c) :: blk g (.cells #[.int .i64 e, .slice pp2 L.length cc3] 44 (0, 0)) :: Im 6 (.slice pp2 L.length cc3) L.length (L.flatMap itCell) :: itsA L :: (F.set i emp))) (fun (j, q, d) => 8 - j) (0, none, 0) ?_ ?_ ?_
 ·exact t1
 ·exact ⟨t0, H7⟩
 rintro ⟨j, q, d⟩ ρ8 w9 ⟨hj8, H10⟩ nx11
 change Ends _ _ (upds ρ8 [(0, .pointer (pa g)), (2, .slice none 0 0), (3, .int .i64 0), (4, .slice q j d), (5, .int .i64 (j : Int))]) w9
 refine g_seq (g_seq (g_region (Mv (.int .i64 (j : Int)) ?_)))
 by_cases hc12 : (j : Int) < 8
 ·refine rc (s_lss true rfl rfl (dtrue hc12) rfl (r_nil (g_true rfl (g_skip (g_seq (g_block (g_region (Mv (.slice q j d) (Mv (.pointer (pa g)) (Nc (.pointer (pa g)) (Fa 0 fi_44_0 rfl (Lo (.int .i64 e) ag_2 H10 1 (Mv (.int .i64 (j : Int)) (rc (s_mul (8 * (j : Int)) rfl rfl (wi64 t0) rfl (rc (s_sub (56 - (8 * (j : Int))) rfl rfl (wi64 t0) rfl (rc (s_shr ((E / 2 ^ (56 - 8 * j) : Nat) : Int) rfl rfl t0 (shr_e hE t0) rfl (rc (s_conv (((E / 2 ^ (56 - 8 * j)) % 256 : Nat) : Int) rfl us_2 ik_5 (u8_wrap _) rfl (rc (s_buildSlice H10 1 1 (cs := #[.int .u8 (((E / 2 ^ (56 - 8 * j)) % 256 : Nat) : Int)]) #[.int .u8 0] el_27 ze_5 t9 t9 t5 rfl (fun bk13 w14 H15 => rc (s_append H15 1 rfl rfl rfl (rd_blk (H15.blk_at (i := 0) rfl) rfl (nbl rfl) t15) ap_27 t9 t12 t0 (n' := j + 1) (xs' := ((be8 E).take j).flatMap u8c ++ ([.int .u8 (((E / 2 ^ (56 - 8 * j)) % 256 : Nat) : Int)] : List Value)) t0 t16 rfl ?_))))))))))))))))))))))))); intro vv16 w17 H18 hn19
  obtain ⟨pp20, cc21, rfl⟩ := Row.slice H18 (i := 1) rfl
  refine Ag (.slice pp20 (j + 1) cc21) (r_nil (g_inBlock (g_region (Mv (.int .i64 (j : Int)) (rc (s_add ((j : Int) + 1) rfl rfl (wi64 t0) rfl (Ag (.int .i64 ((j : Int) + 1)) (r_nil ?_))))))))
  have H22 : St W w17 (blk bk13 (.cells #[.int .u8 (((E / 2 ^ (56 - 8 * j)) % 256 : Nat) : Int)] 5 (0, 0)) :: Row 5 1 (.slice pp20 (j + 1) cc21) (j + 1) (((be8 E).take (j + 1)).flatMap u8c) :: blk g (.cells #[.int .i64 e, .slice pp2 L.length cc3] 44 (0, 0)) :: Im 6 (.slice pp2 L.length cc3) L.length (L.flatMap itCell) :: itsA L :: (F.set i emp)) := by rw [be8_step E t0, List.flatMap_append, u8_cell]; exact H18
  have H23 : St W w17 (_ :: _ :: _ :: _ :: (F.set i emp)) := (H22.mv [4, 4, 4, 4, 104])
  exact nx11 (j + 1, pp20, cc21) _ _ ⟨t0, H23⟩ t7 t1
 refine rc (s_lss false rfl rfl (dfalse hc12) rfl (r_nil (g_false rfl (g_exit t39 (g_seq (g_region (Mv (.slice q j d) (rc (s_buildSlice H10 1 1 (cs := #[.slice q j d]) #[.slice none 0 0] el_98 ze_27 t9 t9 t5 rfl (fun bk24 w25 H26 => Ag (.slice (pa bk24) 1 1) (r_nil (g_seq (g_seq (g_region (Ag (.int .i64 0) (r_nil (g_block ?_)))))))))))))))))
 have hj9 : j = 8 := by omega
 have H27 : St W w25 (blk bk24 (.cells #[.slice q ((be8 E).length) d] 27 (0, 0)) :: Row 5 1 (.slice q ((be8 E).length) d) ((be8 E).length) ((be8 E).flatMap u8c) :: blk g (.cells #[.int .i64 e, .slice pp2 L.length cc3] 44 (0, 0)) :: Im 6 (.slice pp2 L.length cc3) L.length (L.flatMap itCell) :: itsA L :: (F.set i emp)) := by have h9 := H26; rw [hj9, List.take_of_length_le (by rw [be8_len]; exact Nat.le_refl 8)] at h9; exact h9
 have H28 : St W w25 (_ :: _ :: _ :: _ :: _ :: (F.set i emp)) := Row.im H27 (i := 1) rfl
 have H29 : St W w25 (Row 27 1 (.slice (pa bk24) ([(⟨(be8 E), q, d⟩ : ByD)].length) 1) ([(⟨(be8 E), q, d⟩ : ByD)].length) ([(⟨(be8 E), q, d⟩ : ByD)].flatMap byCell) :: _ :: _ :: _ :: _ :: (F.set i emp)) := Row.of_blk (n := 1) (size := 1) H28 (i := 0) rfl t12 rfl t15
 have H30 := bysA_nil H29
 have H31 : St W w25 (_ :: _ :: _ :: _ :: _ :: _ :: (F.set i emp)) := (H30.move 2 rfl)
 have H32 : St W w25 (bysA [(⟨(be8 E), q, d⟩ : ByD)] :: _ :: _ :: _ :: _ :: (F.set i emp)) := bysA_snoc (B := []) (x := (⟨(be8 E), q, d⟩ : ByD)) H31
 obtain ⟨pA33, cA34, gA35, oA36, kA37, eA38, zA39, he45, hn40, hp41, hx42, hs43, hml, H44⟩ := Im.open_ H32 (i := 3) rfl
 obtain ⟨rfl, rfl⟩ : pp2 = pA33 ∧ cc3 = cA34 := by injection he45 with a_ b_ c_; exact ⟨a_, c_⟩
 have H46 : St W w25 (_ :: _ :: _ :: _ :: _ :: _ :: (F.set i emp)) := (H44.mv [1, 2])
 refine g_loop_inv (fun ((k, B, q2, d2) : Nat × (List ByD) × (Option Addr) × Nat) => [(0, .pointer (pa g)), (2, .slice none 0 0), (3, .int .i64 0), (6, .slice q2 B.length d2), (7, .int .i64 (k : Int))]) (fun (k, B, q2, d2) w => (k ≤ L.length) ∧ (B.map ByD.data = gbL E ((L.take k).map ItemD.v)) ∧ St W w (Row 27 1 (.slice q2 B.length d2) B.length (B.flatMap byCell) :: bysA B :: imi (0 < L.length) gA35 (.cells kA37 eA38 zA39) :: blk g (.cells #[.int .i64 e, .slice pp2 L.length cc3] 44 (0, 0)) :: Im 6 (.slice pp2 L.length cc3) L.length (L.flatMap itCell) :: itsA L :: (F.set i emp))) (fun (k, B, q2, d2) => L.length - k) (0, [(⟨(be8 E), q, d⟩ : ByD)], (pa bk24), 1) ?_ ?_ ?_
 ·exact t1
 ·exact ⟨t0, rfl, H46⟩
 rintro ⟨k, B, q2, d2⟩ ρ47 w48 ⟨hkn, hB, H49⟩ nx50
 change Ends _ _ (upds ρ47 [(0, .pointer (pa g)), (2, .slice none 0 0), (3, .int .i64 0), (6, .slice q2 B.length d2), (7, .int .i64 (k : Int))]) w48
 have hBl : B.length = k + 1 := by have h9 := gb_len hB; rw [List.length_map, List.length_take] at h9; omega
 refine g_seq (g_seq (g_region (Mv (.int .i64 (k : Int)) (Mv (.pointer (pa g)) (Nc (.pointer (pa g)) (Fa 1 fi_44_1 rfl (Lo (.slice pp2 L.length cc3) ag_38 H49 3 (rc (s_len L.length rfl ⟨_, un_38⟩ rfl ?_)))))))))
 by_cases hc51 : (k : Int) < (L.length : Int)
 ·refine rc (s_lss true rfl rfl (dtrue hc51) rfl (r_nil (g_true rfl (g_skip (g_seq (g_block (g_seq (g_region (Mv (.pointer (pa g)) (Nc (.pointer (pa g)) (Fa 1 fi_44_1 rfl (Lo (.slice pp2 L.length cc3) ag_38 H49 3 (Mv (.int .i64 (k : Int)) (rc (s_indexAddr gA35 (off := oA36) (k : Int) 6 (oA36 + k * 6) (by exact congrArg (fun z_ => Value.slice z_ L.length cc3) (hp41 t0)) rfl el_38 t0 rfl rfl ?_)))))))))))))))
  have H52 : St W w48 (bndsA ((L.getD k default).bs) :: _ :: _ :: _ :: _ :: _ :: _ :: (F.set i emp)) := itsA_at H49 (i := 5) rfl (j := k) t0
  have H53 : St W w48 (Im 6 (.slice ((L.getD k default).p) ((L.getD k default).bs.length) ((L.getD k default).c)) ((L.getD k default).bs.length) ((L.getD k default).bs.flatMap bndCell) :: _ :: _ :: _ :: _ :: _ :: _ :: _ :: (F.set i emp)) := itsA_bs H52 (i := 6) rfl (j := k) t0
  have hx0 : itE (L.getD k default) = 0 := hok _ (getD_memI t0)
  refine rc (s_loadAgg (itl (L.getD k default)) 6 ag_26 rfl (H53.imi_at (i := 4) rfl t0) (by have := elem_size (i := k) (s := 6) (hs43 t0) t0; omega) (elem_take itCell_len (hx42 t0) t0 default) rfl (rc (s_call [.agg (itc (L.getD k default))] pl_6 rfl rfl (ref24_ItemBytes (L.getD k default) (ip := 0) rfl (iq := 1) rfl H53) ?_)))
  rintro _ w56 ⟨pp54, _, cc55, rfl, rfl, H57⟩
  refine Mv (.tuple #[.slice pp54 ((itBytes (L.getD k default).v).length) cc55, .int .i64 (itE (L.getD k default))]) (Ex (.slice pp54 ((itBytes (L.getD k default).v).length) cc55) (Ex (.int .i64 (itE (L.getD k default))) (Ag (.slice pp54 ((itBytes (L.getD k default).v).length) cc55) (Ag (.int .i64 (itE (L.getD k default))) (r_nil (g_seq (g_seq (g_region (Mv (.int .i64 (itE (L.getD k default))) (rc (s_neq false rfl rfl (ntrue hx0) rfl (r_nil (g_false rfl (g_skip (g_region (Mv (.slice q2 B.length d2) (Mv (.slice pp54 ((itBytes (L.getD k default).v).length) cc55) (rc (s_buildSlice H57 1 1 (cs := #[.slice pp54 ((itBytes (L.getD k default).v).length) cc55]) #[.slice none 0 0] el_98 ze_27 t9 t9 t5 rfl (fun bk58 w59 H60 => rc (s_append H60 4 rfl rfl rfl (rd_blk (H60.blk_at (i := 0) rfl) rfl (nbl rfl) t15) ap_98 t9 t12 t0 (n' := B.length + 1) (xs' := B.flatMap byCell ++ ([.slice pp54 ((itBytes (L.getD k default).v).length) cc55] : List Value)) t0 t16 rfl ?_))))))))))))))))))))); intro vv61 w62 H63 hn64
  obtain ⟨pp65, cc66, rfl⟩ := Row.slice H63 (i := 4) rfl
  refine Ag (.slice pp65 (B.length + 1) cc66) (r_nil (g_inBlock (g_region (Mv (.int .i64 (k : Int)) (rc (s_add ((k : Int) + 1) rfl rfl (wi64 t0) rfl (Ag (.int .i64 ((k : Int) + 1)) (r_nil ?_))))))))
  have H67 : St W w62 (blk bk58 (.cells #[.slice pp54 ((itBytes (L.getD k default).v).length) cc55] 27 (0, 0)) :: Row 5 1 (.slice pp54 ((itBytes (L.getD k default).v).length) cc55) ((itBytes (L.getD k default).v).length) ((itBytes (L.getD k default).v).flatMap u8c) :: Im 6 (.slice ((L.getD k default).p) ((L.getD k default).bs.length) ((L.getD k default).c)) ((L.getD k default).bs.length) ((L.getD k default).bs.flatMap bndCell) :: bndsA ((L.getD k default).bs) :: Row 27 1 (.slice pp65 ((B ++ [(⟨itBytes (L.getD k default).v, pp54, cc55⟩ : ByD)]).length) cc66) ((B ++ [(⟨itBytes (L.getD k default).v, pp54, cc55⟩ : ByD)]).length) ((B ++ [(⟨itBytes (L.getD k default).v, pp54, cc55⟩ : ByD)]).flatMap byCell) :: bysA B :: imi (0 < L.length) gA35 (.cells kA37 eA38 zA39) :: blk g (.cells #[.int .i64 e, .slice pp2 L.length cc3] 44 (0, 0)) :: Im 6 (.slice pp2 L.length cc3) L.length (L.flatMap itCell) :: itsA L :: (F.set i emp)) := by rw [List.flatMap_append, List.length_append]; exact H63
  have H68 : St W w62 (_ :: _ :: _ :: _ :: _ :: _ :: _ :: _ :: _ :: _ :: (F.set i emp)) := Row.im H67 (i := 1) rfl
  have H69 : St W w62 (_ :: _ :: _ :: _ :: _ :: _ :: _ :: _ :: _ :: _ :: (F.set i emp)) := (H68.mv [5, 2])
  have H70 : St W w62 (bysA (B ++ [(⟨itBytes (L.getD k default).v, pp54, cc55⟩ : ByD)]) :: _ :: _ :: _ :: _ :: _ :: _ :: _ :: _ :: (F.set i emp)) := bysA_snoc (x := (⟨itBytes (L.getD k default).v, pp54, cc55⟩ : ByD)) H69
  have H71 : St W w62 (_ :: _ :: _ :: _ :: _ :: _ :: (F.set i emp)) := (H70.mv [8, 8, 8, 8, 4, 8, 106, 106, 106])
  exact nx50 (k + 1, (B ++ [(⟨itBytes (L.getD k default).v, pp54, cc55⟩ : ByD)]), pp65, cc66) _ _ ⟨t0, (by rw [take_snocG t0, v_snoc]; exact gb_snoc hB _ _ _), H71⟩ t7 ⟨by first | rfl | exact vint t0, by first | rfl | exact vint t0, by first | rfl | exact vint t0, by rw [List.length_append]; rfl, by first | rfl | exact vint t0, trivial⟩
 refine rc (s_lss false rfl rfl (dfalse hc51) rfl (r_nil (g_false rfl (g_exit t39 (g_seq (g_region ?_))))))
 have hB9 : B.map ByD.data = gbL E (L.map ItemD.v) := by rw [hB, List.take_of_length_le t0]
 refine Mv (.slice q2 B.length d2) ?_
 have H72 : St W w48 (_ :: _ :: _ :: _ :: _ :: _ :: (F.set i emp)) := Row.im H49 (i := 0) rfl
 refine rc (s_call [.slice q2 B.length d2] pl_61 rfl rfl (ref24_Pack B (.slice q2 B.length d2) (gb_small hB9) (by have h9 := gb_len hB9; rw [List.length_map] at h9; omega) (m := 0) rfl (k := 1) rfl H72) ?_)
 rintro _ w75 ⟨pp73, _, cc74, rfl, rfl, H76⟩
 refine Ex (.slice pp73 ((pkB (B.map ByD.data)).length) cc74) (Ex (.int .i64 (pkE (B.map ByD.data))) (Ag (.slice pp73 ((pkB (B.map ByD.data)).length) cc74) (Ag (.int .i64 (pkE (B.map ByD.data))) (r_nil (Gr [.slice pp73 ((pkB (B.map ByD.data)).length) cc74, .int .i64 (pkE (B.map ByD.data))] Tryz.func24 Tryz.results24 ?_)))))
 have H77 : St W w75 (_ :: _ :: _ :: _ :: _ :: _ :: _ :: (F.set i emp)) := (H76.mv [6, 6, 6])
 have H78 : St W w75 (GrA g e L :: _ :: _ :: _ :: _ :: (F.set i emp)) := St.shut_ex (pp2, cc3) (St.shut_star (ls := [_, _, _]) H77)
 have H79 : St W w75 (_ :: _ :: (F.set i emp)) := (H78.mv [1, 102, 102, 102])
 have H80 : St W w75 (_ :: (Row 5 1 (.slice pp73 ((pkB (B.map ByD.data)).length) cc74) ((pkB (B.map ByD.data)).length) ((pkB (B.map ByD.data)).flatMap u8c) :: F).set (i + 1) emp) := (H79.move 1 rfl)
 exact ⟨_, _, _, by rw [hB9]; rfl, by first | rfl | rw [hB9], by have h9 := St.back_same (i := i + 1) t34 H80; rw [hB9] at h9; first | exact h9 | (rw [hB9]; exact h9)⟩
theorem Gate_Bytes (g : Nat) (e : Int) (E : Nat) (hE : e = (E : Int)) (hE2 : E ≤ 9223372036854775807) (L : List ItemD) (hok : ∀ x ∈ L, itE x = 0) (hL : L.length ≤ 4096) {i : Nat} (hi : F[i]? = some (GtA g e L)) (H : St W w F) : Calls Tryz.prog 23 #[.pointer (pa g)] w (Ret fun v w' => ∃ p n c, v = .tuple #[.slice p n c, .int .i64 (pkE (gbL E (L.map ItemD.v)))] ∧ n = (pkB (gbL E (L.map ItemD.v))).length ∧ St W w' (Row 5 1 (.slice p n c) n ((pkB (gbL E (L.map ItemD.v))).flatMap u8c) :: F)) := by
 have H0 := H.front hi
 have H1 := H0.move 0 rfl
 obtain ⟨⟨pp2, cc3⟩, H4⟩ := St.open_ex H1
 have H5 := St.open_star H4
 have H6 : St W w (_ :: _ :: _ :: (F.set i emp)) := H5
 refine calls_of_go (n := 49) Tryz.func23 rfl Tryz.ntmps23 rfl ?_
 refine g_seq (g_region (Ag (.slice none 0 0) (Ag (.int .i64 0) (r_nil (g_seq (g_seq (g_region (Mv (.pointer (pa g)) (rc (s_call [.pointer (pa g)] pl_53 rfl rfl (Gate_none g (e : Int) (.slice pp2 L.length cc3) (i := 0) rfl H6) ?_))))))))))
 rintro _ w7 ⟨rfl, H8⟩
 refine r_nil (g_false rfl (g_skip (g_seq (g_region (rc (s_make H8 8 1 1 rfl rfl un_27 in_5 t0 t0 t0 (by exact made_bytes (8)) rfl ?_)))))); intro bk9 w10 H11
 have H12 : St W w10 (Row 5 1 (.slice (pa bk9) 8 8) 8 ((List.replicate (8) (0 : UInt8)).flatMap u8c) :: blk g (.cells #[.bool true, .int .i64 e, .slice pp2 L.length cc3] 90 (0, 0)) :: Row 26 6 (.slice pp2 L.length cc3) L.length (L.flatMap itCell) :: itsA L :: (F.set i emp)) := Row.of_list (xs := (List.replicate (8) (0 : UInt8)).flatMap u8c) (n := 8) H11 (i := 0) rfl t12 (by simp [flat1, u8c_len, blc_len]) (by intro x hx; first | exact one_u8 _ x hx | exact one_bl _ x hx)
 have H13 : St W w10 (_ :: _ :: _ :: _ :: (F.set i emp)) := H12
 refine Ag (.slice (pa bk9) 8 8) (r_nil (g_seq (g_seq (g_region (Mv (.slice (pa bk9) 8 8) (rc (s_len 8 rfl ⟨_, un_27⟩ rfl (Mv (.int .i64 0) (r_nil (g_block ?_))))))))))
 refine g_loop_inv (fun ((j, pq, cq) : Nat × (Option Addr) × Nat) => [(0, .pointer (pa g)), (2, .slice none 0 0), (3, .int .i64 0), (4, .slice pq 8 cq), (14, .int .i64 8), (15, .int .i64 (j : Int))]) (fun (j, pq, cq) w => (j ≤ 8) ∧ St W w (Row 5 1 (.slice pq 8 cq) 8 ((hdL E j).flatMap u8c) :: blk g (.cells #[.bool true, .int .i64 e, .slice pp2 L.length cc3] 90 (0, 0)) :: Row 26 6 (.slice pp2 L.length cc3) L.length (L.flatMap itCell) :: itsA L :: (F.set i emp))) (fun (j, pq, cq) => 8 - j) (0, (pa bk9), 8) ?_ ?_ ?_
 ·exact t1
 ·exact ⟨t0, H13⟩
 rintro ⟨j, pq, cq⟩ ρ14 w15 ⟨hj8, H16⟩ nx17
 change Ends _ _ (upds ρ14 [(0, .pointer (pa g)), (2, .slice none 0 0), (3, .int .i64 0), (4, .slice pq 8 cq), (14, .int .i64 8), (15, .int .i64 (j : Int))]) w15
 refine g_seq (g_region ?_)
 by_cases hc18 : (j : Int) < 8
 ·refine rc (s_lss true rfl rfl (dtrue hc18) rfl (r_nil (g_seq (g_true rfl (g_skip (g_seq (g_block (g_seq (g_region (Mv (.int .i64 (j : Int)) (Ag (.int .i64 (j : Int)) (r_nil (g_region (Mv (.slice pq 8 cq) (Mv (.int .i64 (j : Int)) (Mv (.pointer (pa g)) (Nc (.pointer (pa g)) (Fa 1 fi_90_1 rfl (Lo (.int .i64 e) ag_2 H16 1 (Mv (.int .i64 (j : Int)) (rc (s_mul (8 * (j : Int)) rfl rfl (wi64 t0) rfl (rc (s_sub (56 - (8 * (j : Int))) rfl rfl (wi64 t0) rfl (rc (s_shr ((E / 2 ^ (56 - 8 * j) : Nat) : Int) rfl rfl t0 (shr_e hE t0) rfl (rc (s_conv (((E / 2 ^ (56 - 8 * j)) % 256 : Nat) : Int) rfl us_2 ik_5 (u8_wrap _) rfl ?_))))))))))))))))))))))))))))
  obtain ⟨bk19, cur20, hp21, h22, h23, h24, h25, h26, H27⟩ := Row.open2 H16 (i := 0) rfl t0
  refine rc (s_indexAddr bk19 (off := 0) (j : Int) 1 (0 + j * 1) (by exact congrArg (fun z_ => Value.slice z_ 8 cq) ((fun (_ : 0 < 1) => hp21) t0)) rfl el_27 t0 rfl rfl ?_)
  have hx30 := row_set1 (f := u8c) (L := (hdL E j)) (cur := cur20) u8c_len (by rw [(hdL_len E (j := j) t0)]; exact h25) (show (hdL E j).length * 1 ≤ cur20.size by rw [(hdL_len E (j := j) t0), h24]; exact Nat.mul_le_mul_right 1 h22) (j := j) (by have hh := (hdL_len E (j := j) t0); omega) 0 (.int .u8 (((E / 2 ^ (56 - 8 * j)) % 256 : Nat) : Int)) (UInt8.ofNat (E / 2 ^ (56 - 8 * j))) ((u8_cell2 _))
  refine rc (s_store H27 0 (.int .u8 (((E / 2 ^ (56 - 8 * j)) % 256 : Nat) : Int)) rfl rfl rfl sz_5 rfl (by have hh := (hdL_len E (j := j) t0); have hk := (show (hdL E j).length * 1 ≤ cur20.size by rw [(hdL_len E (j := j) t0), h24]; exact Nat.mul_le_mul_right 1 h22); omega) rfl (cs' := (cur20.setIfInBounds (0 + j * 1) (.int .u8 (((E / 2 ^ (56 - 8 * j)) % 256 : Nat) : Int)))) rfl (fun w28 H29 => r_nil (g_inBlock (g_region (rc (s_add ((j : Int) + 1) rfl rfl (wi64 t0) rfl (Mv (.int .i64 ((j : Int) + 1)) (r_nil ?_))))))))
  have H31 := Row.shut2 (p := pq) (n := 8) (c := cq) (size := 1) (xs := (hdL E (j + 1)).flatMap u8c) H29 (i := 0) rfl hp21 h22 h23 (show ((cur20.setIfInBounds (0 + j * 1) (.int .u8 (((E / 2 ^ (56 - 8 * j)) % 256 : Nat) : Int)))).size = cq * 1 from by rw [Array.size_setIfInBounds]; exact h24) (by have hh : ((cur20.setIfInBounds (0 + j * 1) (.int .u8 (((E / 2 ^ (56 - 8 * j)) % 256 : Nat) : Int))).toList.drop 0).take (((hdL E j).set j (UInt8.ofNat (E / 2 ^ (56 - 8 * j)))).length * 1) = ((hdL E j).set j (UInt8.ofNat (E / 2 ^ (56 - 8 * j)))).flatMap u8c := hx30; have hk : ((hdL E j).set j (UInt8.ofNat (E / 2 ^ (56 - 8 * j)))).length = 8 := (show ((hdL E j).set j (UInt8.ofNat (E / 2 ^ (56 - 8 * j)))).length = 8 from by first | (rw [List.length_set]; exact (hdL_len E (j := j) t0)) | rw [List.length_set]); rw [hk] at hh; rw [(hdL_step E t0)] at hh; exact hh) (one_u8 _)
  have H32 : St W w28 (_ :: _ :: _ :: _ :: (F.set i emp)) := (H31.mv [3, 3, 3, 3])
  exact nx17 (j + 1, pq, cq) _ _ ⟨t0, H32⟩ t7 t1
 refine rc (s_lss false rfl rfl (dfalse hc18) rfl (r_nil (g_seq (g_false rfl (g_exit t39 (g_seq (g_region (Mv (.slice pq 8 cq) (rc (s_buildSlice H16 1 1 (cs := #[.slice pq 8 cq]) #[.slice none 0 0] el_98 ze_27 t9 t9 t5 rfl (fun bk33 w34 H35 => rc (s_alloc H35 98 ze_98 rfl (fun bk36 w37 H38 => rc (s_store H38 0 (.slice (pa bk33) 1 1) rfl rfl rfl sz_98 rfl (nbl rfl) rfl (cs' := #[.slice (pa bk33) 1 1]) rfl (fun w39 H40 => r_nil (g_seq (g_seq (g_region (Mv (.pointer (pa g)) ?_)))))))))))))))))))
 have H41 : St W w39 (_ :: _ :: _ :: _ :: _ :: _ :: (F.set i emp)) := (H40.mv [5, 5, 5])
 have H42 : St W w39 (GtA g e L :: _ :: _ :: _ :: (F.set i emp)) := St.shut_ex (pp2, cc3) (St.shut_star (ls := [_, _, _]) H41)
 refine rc (s_call [.pointer (pa g)] pl_22 rfl rfl (GtA_All g e L t0 hok (i := 0) rfl H42) ?_)
 rintro _ w48 ⟨bk43, M44, pp45, cc46, rfl, hM47, H49⟩
 refine r_nil (g_block ?_)
 have hj9 : j = 8 := by omega
 have hok9 := ok_of hM47 hok
 have H50 : St W w48 (imm bk43 (.cells #[.slice pp45 M44.length cc46] 38 (0, 0)) :: Im 6 (.slice pp45 M44.length cc46) M44.length (M44.flatMap itCell) :: itsA M44 :: GtA g e L :: blk bk36 (.cells #[.slice (pa bk33) 1 1] 98 (0, 0)) :: blk bk33 (.cells #[.slice pq ((be8 E).length) cq] 27 (0, 0)) :: Row 5 1 (.slice pq ((be8 E).length) cq) ((be8 E).length) ((be8 E).flatMap u8c) :: (F.set i emp)) := by have h9 := H49; rw [hj9, hdL_all] at h9; exact h9
 have H51 : St W w48 (_ :: _ :: _ :: _ :: _ :: _ :: _ :: (F.set i emp)) := Row.im H50 (i := 6) rfl
 have H52 : St W w48 (imm bk43 (.cells #[.slice pp45 M44.length cc46] 38 (0, 0)) :: _ :: _ :: _ :: _ :: _ :: _ :: (F.set i emp)) := Row.of_blk (n := 1) (size := 1) H51 (i := 5) rfl t12 rfl t15
 have H53 := bysA_nil H52
 have H54 : St W w48 (_ :: _ :: _ :: _ :: _ :: _ :: _ :: _ :: (F.set i emp)) := (H53.move 7 rfl)
 have H55 : St W w48 (bysA [(⟨(be8 E), pq, cq⟩ : ByD)] :: _ :: _ :: _ :: _ :: _ :: _ :: (F.set i emp)) := bysA_snoc (B := []) (x := (⟨(be8 E), pq, cq⟩ : ByD)) H54
 have H56 : St W w48 (_ :: _ :: _ :: _ :: _ :: _ :: _ :: (F.set i emp)) := H55
 have H57 : St W w48 (_ :: _ :: _ :: _ :: _ :: _ :: _ :: (F.set i emp)) := (H56.mv [6, 6])
 have H58 : St W w48 ((ex fun z_ : List ByD × Option Addr × Nat => star [pure' (z_.1.map ByD.data = gbL E (([] : List ItemD).map ItemD.v)), blk bk36 (.cells #[.slice z_.2.1 z_.1.length z_.2.2] 98 (0, 0)), Row 27 1 (.slice z_.2.1 z_.1.length z_.2.2) z_.1.length (z_.1.flatMap byCell), bysA z_.1]) :: _ :: _ :: _ :: _ :: (F.set i emp)) := St.shut_ex ([(⟨(be8 E), pq, cq⟩ : ByD)], (pa bk33), 1) (St.shut_star (ls := [pure' ([(⟨(be8 E), pq, cq⟩ : ByD)].map ByD.data = gbL E (([] : List ItemD).map ItemD.v)), _, _, _]) (St.shut_pure (gb_one E _ _) H57))
 refine g_range1 (W := W) (F := imm bk43 (.cells #[.slice pp45 M44.length cc46] 38 (0, 0)) :: Im 6 (.slice pp45 M44.length cc46) M44.length (M44.flatMap itCell) :: itsA M44 :: GtA g e L :: (F.set i emp)) 59 [.pointer (pa bk43)] rfl rfl pl_59 (fun x_ : ItemD => .agg (itc x_)) rfl (fun x_ : ItemD => itsA [x_]) (fun pre_ => (ex fun z_ : List ByD × Option Addr × Nat => star [pure' (z_.1.map ByD.data = gbL E (pre_.map ItemD.v)), blk bk36 (.cells #[.slice z_.2.1 z_.1.length z_.2.2] 98 (0, 0)), Row 27 1 (.slice z_.2.1 z_.1.length z_.2.2) z_.1.length (z_.1.flatMap byCell), bysA z_.1])) (fun c_ pre_ => star [pure' False]) (fun pre_ x_ => (pre_ ++ [x_]).map ItemD.v <+: M44.map ItemD.v) (fun L_ => L_.map ItemD.v = M44.map ItemD.v) (fun L_ => L_.map ItemD.v <+: M44.map ItemD.v) H58 ?_ ?_ ?_ ?_
 ·intro l59 r60 w61 G62 pre63 x64 hr65 hr66 hok67 H68
  try dsimp only at hok67 H68
  have H69 : St W w61 (_ :: _ :: _ :: G62) := H68
  have H70 := H69.move 1 rfl
  obtain ⟨⟨B71, pp72, cc73⟩, h74⟩ := St.open_ex H70
  obtain ⟨hB76, H75⟩ := St.open_pure (St.open_star h74)
  have hB76 : B71.map ByD.data = gbL E (pre63.map ItemD.v) := hB76
  have H77 : St W w61 (blk bk36 (.cells #[.slice pp72 B71.length cc73] 98 (0, 0)) :: Row 27 1 (.slice pp72 B71.length cc73) B71.length (B71.flatMap byCell) :: bysA B71 :: blk l59 (.loop r60) :: itsA [x64] :: G62) := H75
  have hpl := pre_len hok67 hB76
  have hml9 := congrArg List.length hM47; rw [List.length_map, List.length_map] at hml9
  have H78 : St W w61 (bndsA x64.bs :: _ :: _ :: _ :: _ :: _ :: G62) := itsA_at H77 (i := 4) rfl (j := 0) t13
  have H79 : St W w61 (Im 6 (.slice x64.p x64.bs.length x64.c) x64.bs.length (x64.bs.flatMap bndCell) :: _ :: _ :: _ :: _ :: _ :: _ :: G62) := itsA_bs H78 (i := 5) rfl (j := 0) t13
  refine g_region (rc (s_alloc H79 26 ze_26 rfl (fun bk80 w81 H82 => Sa H82 0 rfl (itc x64) 6 sz_26 (itc x64) (fun w83 H84 => r_nil ?_))))
  refine g_beginRound H84 (i := 6) rfl hr65 ?_; intro w85 H86
  have H87 : St W w85 (_ :: _ :: _ :: _ :: _ :: _ :: _ :: _ :: G62) := H86
  refine g_block (g_seq (g_region (La (itl x64) 6 ag_26 H87 0 (rc (s_call [.agg (itc x64)] pl_5 rfl rfl (migrate_ItemBytes x64 (ip := 1) rfl (iq := 2) rfl H87) ?_)))))
  rintro _ w90 ⟨pp88, _, cc89, rfl, rfl, H91⟩
  refine Mv (.tuple #[.slice pp88 ((itBytes x64.v).length) cc89, .int .i64 (itE x64)]) (Ex (.slice pp88 ((itBytes x64.v).length) cc89) (Ex (.int .i64 (itE x64)) (Ag (.slice pp88 ((itBytes x64.v).length) cc89) (Ag (.int .i64 (itE x64)) (r_nil (g_region (Lo (.slice pp72 B71.length cc73) ag_98 H91 4 (Mv (.slice pp88 ((itBytes x64.v).length) cc89) (rc (s_buildSlice H91 1 1 (cs := #[.slice pp88 ((itBytes x64.v).length) cc89]) #[.slice none 0 0] el_98 ze_27 t9 t9 t5 rfl (fun bk92 w93 H94 => rc (s_append H94 6 rfl rfl rfl (rd_blk (H94.blk_at (i := 0) rfl) rfl (nbl rfl) t15) ap_98 t9 t12 t0 (n' := B71.length + 1) (xs' := B71.flatMap byCell ++ ([.slice pp88 ((itBytes x64.v).length) cc89] : List Value)) t0 t16 rfl ?_)))))))))))); intro vv95 w96 H97 hn98
  obtain ⟨pp99, cc100, rfl⟩ := Row.slice H97 (i := 6) rfl
  refine rc (s_store H97 5 (.slice pp99 (B71.length + 1) cc100) rfl rfl rfl sz_98 rfl (nbl rfl) rfl (cs' := #[.slice pp99 (B71.length + 1) cc100]) rfl (fun w101 H102 => r_nil (g_inBlock ?_)))
  have H103 : St W w101 (blk bk92 (.cells #[.slice pp88 ((itBytes x64.v).length) cc89] 27 (0, 0)) :: Row 5 1 (.slice pp88 ((itBytes x64.v).length) cc89) ((itBytes x64.v).length) ((itBytes x64.v).flatMap u8c) :: blk bk80 (.cells #[.int .i64 x64.op.v, .int .i64 x64.inp.v, .int .i64 x64.ep.v, .int .i64 x64.kind.v, .slice x64.p x64.bs.length x64.c, .int .i64 x64.t.v] 26 (0, 0)) :: Im 6 (.slice x64.p x64.bs.length x64.c) x64.bs.length (x64.bs.flatMap bndCell) :: bndsA x64.bs :: blk bk36 (.cells #[.slice pp99 (B71.length + 1) cc100] 98 (0, 0)) :: Row 27 1 (.slice pp99 ((B71 ++ [(⟨itBytes x64.v, pp88, cc89⟩ : ByD)]).length) cc100) ((B71 ++ [(⟨itBytes x64.v, pp88, cc89⟩ : ByD)]).length) ((B71 ++ [(⟨itBytes x64.v, pp88, cc89⟩ : ByD)]).flatMap byCell) :: bysA B71 :: blk l59 (.loop { r60 with state := .busy }) :: itsA [x64] :: G62) := by rw [List.flatMap_append, List.length_append]; exact H102
  have H104 : St W w101 (_ :: _ :: _ :: _ :: _ :: _ :: _ :: _ :: _ :: _ :: G62) := Row.im H103 (i := 1) rfl
  have H105 : St W w101 (_ :: _ :: _ :: _ :: _ :: _ :: _ :: _ :: _ :: _ :: G62) := (H104.mv [7, 2])
  have H106 : St W w101 (bysA (B71 ++ [(⟨itBytes x64.v, pp88, cc89⟩ : ByD)]) :: _ :: _ :: _ :: _ :: _ :: _ :: _ :: _ :: G62) := bysA_snoc (x := (⟨itBytes x64.v, pp88, cc89⟩ : ByD)) H105
  have H107 : St W w101 (bysA (B71 ++ [(⟨itBytes x64.v, pp88, cc89⟩ : ByD)]) :: blk bk92 (.cells #[.slice pp88 ((itBytes x64.v).length) cc89] 27 (0, 0)) :: blk bk80 (.cells #[.int .i64 x64.op.v, .int .i64 x64.inp.v, .int .i64 x64.ep.v, .int .i64 x64.kind.v, .slice x64.p x64.bs.length x64.c, .int .i64 x64.t.v] 26 (0, 0)) :: Im 6 (.slice x64.p x64.bs.length x64.c) x64.bs.length (x64.bs.flatMap bndCell) :: bndsA x64.bs :: blk bk36 (.cells #[.slice pp99 ((B71 ++ [(⟨itBytes x64.v, pp88, cc89⟩ : ByD)]).length) cc100] 98 (0, 0)) :: Row 27 1 (.slice pp99 ((B71 ++ [(⟨itBytes x64.v, pp88, cc89⟩ : ByD)]).length) cc100) ((B71 ++ [(⟨itBytes x64.v, pp88, cc89⟩ : ByD)]).length) ((B71 ++ [(⟨itBytes x64.v, pp88, cc89⟩ : ByD)]).flatMap byCell) :: blk l59 (.loop { r60 with state := .busy }) :: itsA [x64] :: G62) := by have h9 := H106; simp only [List.length_append, List.length_cons, List.length_nil] at h9 ⊢; exact h9
  have H108 : St W w101 (_ :: _ :: _ :: _ :: _ :: _ :: _ :: _ :: _ :: G62) := (H107.mv [6, 6])
  have H109 : St W w101 ((ex fun z_ : List ByD × Option Addr × Nat => star [pure' (z_.1.map ByD.data = gbL E ((pre63 ++ [x64]).map ItemD.v)), blk bk36 (.cells #[.slice z_.2.1 z_.1.length z_.2.2] 98 (0, 0)), Row 27 1 (.slice z_.2.1 z_.1.length z_.2.2) z_.1.length (z_.1.flatMap byCell), bysA z_.1]) :: _ :: _ :: _ :: _ :: _ :: _ :: G62) := St.shut_ex ((B71 ++ [(⟨itBytes x64.v, pp88, cc89⟩ : ByD)]), pp99, cc100) (St.shut_star (ls := [pure' ((B71 ++ [(⟨itBytes x64.v, pp88, cc89⟩ : ByD)]).map ByD.data = gbL E ((pre63 ++ [x64]).map ItemD.v)), _, _, _]) (St.shut_pure (by rw [v_snoc]; exact gb_snoc hB76 _ _ _) H108))
  have H110 : St W w101 (_ :: _ :: G62) := (H109.mv [5, 102, 102, 102, 102, 102])
  refine g_round_end hr65 hr66 H110 (i := 0) rfl ?_; intro w111 H112
  exact .inl ⟨rfl, H112⟩
 ·intro l J Jx B w H hY; exact Gate_All1 bk43 l M44 pp45 cc46 hok9 J Jx (i1 := 1) rfl (i2 := 2) rfl (i3 := 3) rfl hY H
 ·intro D113 L114 w115 hS116 H117
  have H119 : St W w115 (_ :: _ :: _ :: _ :: _ :: _ :: (F.set i emp)) := H117
  obtain ⟨⟨B120, pp121, cc122⟩, h123⟩ := St.open_ex H119
  obtain ⟨hB125, H124⟩ := St.open_pure (St.open_star h123)
  have hB125 : B120.map ByD.data = gbL E (L114.map ItemD.v) := hB125
  have H126 : St W w115 (blk bk36 (.cells #[.slice pp121 B120.length cc122] 98 (0, 0)) :: Row 27 1 (.slice pp121 B120.length cc122) B120.length (B120.flatMap byCell) :: bysA B120 :: blk D113 (.deferred (some [])) :: imm bk43 (.cells #[.slice pp45 M44.length cc46] 38 (0, 0)) :: Im 6 (.slice pp45 M44.length cc46) M44.length (M44.flatMap itCell) :: itsA M44 :: GtA g e L :: (F.set i emp)) := H124
  have hB9 : B120.map ByD.data = gbL E (L.map ItemD.v) := by rw [hB125, gb_all hS116 hM47]
  refine g_inBlock (g_seq (g_region (Lo (.slice pp121 B120.length cc122) ag_98 H126 0 ?_)))
  have H127 : St W w115 (_ :: _ :: _ :: _ :: _ :: _ :: _ :: _ :: (F.set i emp)) := Row.im H126 (i := 1) rfl
  refine rc (s_call [.slice pp121 B120.length cc122] pl_60 rfl rfl (migrate_Pack B120 (.slice pp121 B120.length cc122) (gb_small hB9) (by have h9 := gb_len hB9; rw [List.length_map] at h9; omega) (m := 1) rfl (k := 2) rfl H127) ?_)
  rintro _ w130 ⟨pp128, _, cc129, rfl, rfl, H131⟩
  refine Ex (.slice pp128 ((pkB (B120.map ByD.data)).length) cc129) (Ex (.int .i64 (pkE (B120.map ByD.data))) (Ag (.slice pp128 ((pkB (B120.map ByD.data)).length) cc129) (Ag (.int .i64 (pkE (B120.map ByD.data))) (r_nil ?_))))
  obtain ⟨hd132, H133⟩ := H131.collect (i := 4) rfl
  refine g_retD _ [.slice pp128 ((pkB (B120.map ByD.data)).length) cc129, .int .i64 (pkE (B120.map ByD.data))] Tryz.func23 Tryz.results23 rfl ⟨hd132, trivial⟩ ⟨rfl, rfl, trivial⟩ ?_
  have H134 : St W (w130.putObj D113 (.deferred none)) (Row 5 1 (.slice pp128 ((pkB (B120.map ByD.data)).length) cc129) ((pkB (B120.map ByD.data)).length) ((pkB (B120.map ByD.data)).flatMap u8c) :: GtA g e L :: (F.set i emp)) := (H133.mv [7, 1, 102, 102, 102, 102, 102, 102])
  have H135 : St W (w130.putObj D113 (.deferred none)) (GtA g e L :: (Row 5 1 (.slice pp128 ((pkB (B120.map ByD.data)).length) cc129) ((pkB (B120.map ByD.data)).length) ((pkB (B120.map ByD.data)).flatMap u8c) :: F).set (i + 1) emp) := (H134.move 1 rfl)
  exact ⟨_, _, _, by rw [hB9]; rfl, by first | rfl | rw [hB9], by have h9 := St.back_same (i := i + 1) t34 H135; rw [hB9] at h9; first | exact h9 | (rw [hB9]; exact h9)⟩
 intro D136 c141 L137 w138 hS139 H140
 have H142 : St W w138 (_ :: _ :: _ :: _ :: _ :: _ :: (F.set i emp)) := H140
 obtain ⟨hc143, H144⟩ := St.open_pure (St.open_star H142)
 exact hc143.elim
theorem migrate_ParseGate (E : Nat) (V : List ItemV) (lv : Value) (hE : pkE (gbL E V) = 0) (hE2 : E ≤ 1099511627776) (hV : ∀ x ∈ V, itEV x = 0 ∧ (E : Int) < x.ep.v) (hl : V.length ≤ 4096) {m : Nat} (hm : F[m]? = some (Im 1 lv (pkL (gbL E V)).length ((pkL (gbL E V)).flatMap u8c))) (H : St W w F) : Calls Tryz.prog 25 #[lv] w (Ret fun v w' => ∃ (o : Nat) (L : List ItemD), v = .tuple #[.pointer (pa o), .int .i64 0] ∧ L.map ItemD.v = V ∧ St W w' (GtA o (E : Int) L :: F)) := by
 obtain ⟨pp1, cc2, rfl, hsh3⟩ := Rd.shape (Im.rd H (i := m) hm)
 have H4 := H.dup (i := m) hm (Im_pers _ _ _ _)
 have hmlH4 := Im.len H4 (i := 0) rfl
 refine calls_of_go (n := 92) Tryz.func25 rfl Tryz.ntmps25 rfl ?_
 refine g_seq (g_region (Ag (.pointer none) (Ag (.int .i64 0) (r_nil (g_seq (g_region (Mv (.slice pp1 ((pkL (gbL E V)).length) cc2) (rc (s_call [.slice pp1 ((pkL (gbL E V)).length) cc2] pl_62 rfl rfl (migrate_Unpack (gbL E V) (.slice pp1 ((pkL (gbL E V)).length) cc2) hE (m := 0) rfl H4) ?_)))))))))
 rintro _ w9 ⟨B5, pp6, cc7, rfl, hB8, H10⟩
 refine Mv (.tuple #[.slice pp6 B5.length cc7, .int .i64 0]) (Ex (.slice pp6 B5.length cc7) (Ex (.int .i64 0) (Ag (.slice pp6 B5.length cc7) (Ag (.int .i64 0) (r_nil (g_seq (g_seq (g_region (Mv (.int .i64 0) (rc (s_neq false rfl rfl (ntrue t9) rfl (r_nil (g_false rfl (g_skip (g_seq (g_seq (g_region ?_)))))))))))))))))
 have hBl := gb_len hB8
 have hd0 := gb_head hB8
 have h80 : (B5.getD 0 default).data.length = 8 := by rw [hd0]; rfl
 have H11 : St W w9 (_ :: _ :: _ :: F) := Row.im H10 (i := 0) rfl
 obtain ⟨pA12, cA13, gA14, oA15, kA16, eA17, zA18, he24, hn19, hp20, hx21, hs22, hml, H23⟩ := Im.open_ H11 (i := 0) rfl
 obtain ⟨rfl, rfl⟩ : pp6 = pA12 ∧ cc7 = cA13 := by injection he24 with a_ b_ c_; exact ⟨a_, c_⟩
 refine Mv (.slice pp6 B5.length cc7) (rc (s_len B5.length rfl ⟨_, un_98⟩ rfl (rc (s_eql false rfl rfl (dfalse t0) rfl (Mv (.bool false) (Rt (Mw (.slice pp6 B5.length cc7) (Rt (s_indexAddr gA14 (off := oA15) 0 1 (oA15 + 0 * 1) (by exact congrArg (fun z_ => Value.slice z_ B5.length cc7) (hp20 t0)) rfl el_98 t0 rfl rfl (Rt (s_load (.slice ((B5.getD 0 default).p) ((B5.getD 0 default).data.length) ((B5.getD 0 default).c)) ag_27 rfl (H23.imi_at (i := 0) rfl t0) (elem_cell (L := B5) (i := 0) byCell_len (hx21 t0) t0 default 0 t9 _ rfl) rfl (Rt (s_len ((B5.getD 0 default).data.length) rfl ⟨_, un_27⟩ rfl (Rt (s_neq false rfl rfl (ntrue t0) rfl (Pf (.bool false) (Mv (.bool false) (Rt (Mw (.slice pp6 B5.length cc7) (Rt (s_len B5.length rfl ⟨_, un_98⟩ rfl (Rt (s_sub ((B5.length : Int) - 1) rfl rfl (wi64 t0) rfl (Rt (s_gtr false rfl rfl (dfalse t0) rfl (Pf (.bool false) (r_nil (g_false rfl (g_skip (g_seq (g_region (Ag (.int .u64 0) (r_nil (g_seq (g_seq (g_region (Mv (.slice pp6 B5.length cc7) (rc (s_indexAddr gA14 (off := oA15) 0 1 (oA15 + 0 * 1) (by exact congrArg (fun z_ => Value.slice z_ B5.length cc7) (hp20 t0)) rfl el_98 t0 rfl rfl (rc (s_load (.slice ((B5.getD 0 default).p) ((B5.getD 0 default).data.length) ((B5.getD 0 default).c)) ag_27 rfl (H23.imi_at (i := 0) rfl t0) (elem_cell (L := B5) (i := 0) byCell_len (hx21 t0) t0 default 0 t9 _ rfl) rfl ?_)))))))))))))))))))))))))))))))))))))))))
 have H25 : St W w9 (Im 1 (.slice ((B5.getD 0 default).p) ((B5.getD 0 default).data.length) ((B5.getD 0 default).c)) (((B5.getD 0 default).data).length) (((B5.getD 0 default).data).flatMap u8c) :: _ :: _ :: _ :: _ :: F) := bysA_at H23 (i := 2) rfl (j := 0) t0
 obtain ⟨pA26, cA27, gA28, oA29, kA30, eA31, zA32, he38, hn33, hp34, hx35, hs36, hml, H37⟩ := Im.open_ H25 (i := 0) rfl
 obtain ⟨rfl, rfl⟩ : (B5.getD 0 default).p = pA26 ∧ (B5.getD 0 default).c = cA27 := by injection he38 with a_ b_ c_; exact ⟨a_, c_⟩
 refine rc (s_len ((B5.getD 0 default).data.length) rfl ⟨_, un_27⟩ rfl (Mv (.int .i64 0) (r_nil (g_block ?_))))
 refine g_loop_inv (fun ((i2, u) : Nat × Nat) => [(2, .pointer none), (3, .int .i64 0), (4, .slice pp6 B5.length cc7), (6, .int .u64 ((u : Nat) : Int)), (40, .slice ((B5.getD 0 default).p) ((B5.getD 0 default).data.length) ((B5.getD 0 default).c)), (41, .int .i64 ((B5.getD 0 default).data.length : Int)), (42, .int .i64 (i2 : Int))]) (fun (i2, u) w => (i2 ≤ 8) ∧ (u = E / 2 ^ (64 - 8 * i2)) ∧ St W w (imi (0 < ((B5.getD 0 default).data).length) gA28 (.cells kA30 eA31 zA32) :: Im 1 (.slice ((B5.getD 0 default).p) ((B5.getD 0 default).data.length) ((B5.getD 0 default).c)) (((B5.getD 0 default).data).length) (((B5.getD 0 default).data).flatMap u8c) :: imi (0 < B5.length) gA14 (.cells kA16 eA17 zA18) :: Im 1 (.slice pp6 B5.length cc7) B5.length (B5.flatMap byCell) :: bysA B5 :: Im 1 (.slice pp1 ((pkL (gbL E V)).length) cc2) ((pkL (gbL E V)).length) ((pkL (gbL E V)).flatMap u8c) :: F)) (fun (i2, u) => 8 - i2) (0, 0) ?_ ?_ ?_
 ·exact t1
 ·exact ⟨t0, (up_zero hE2), H37⟩
 rintro ⟨i2, u⟩ ρ39 w40 ⟨hi8, hu, H41⟩ nx42
 change Ends _ _ (upds ρ39 [(2, .pointer none), (3, .int .i64 0), (4, .slice pp6 B5.length cc7), (6, .int .u64 ((u : Nat) : Int)), (40, .slice ((B5.getD 0 default).p) ((B5.getD 0 default).data.length) ((B5.getD 0 default).c)), (41, .int .i64 ((B5.getD 0 default).data.length : Int)), (42, .int .i64 (i2 : Int))]) w40
 have huE : u ≤ E := hu ▸ Nat.div_le_self _ _
 refine g_seq (g_region ?_)
 by_cases hc43 : (i2 : Int) < ((B5.getD 0 default).data.length : Int)
 ·refine rc (s_lss true rfl rfl (dtrue hc43) rfl (r_nil (g_seq (g_true rfl (g_skip (g_seq (g_block (g_seq (g_region ?_)))))))))
  have hx9 : (B5.getD 0 default).data.getD i2 0 = (be8 E).getD i2 default := by rw [hd0]; rfl
  have hx8 : ((B5.getD 0 default).data.getD i2 0).toNat = E / 2 ^ (56 - 8 * i2) % 256 := by rw [hx9]; exact be8_nat E t0
  refine rc (s_indexAddr gA28 (off := oA29) (i2 : Int) 1 (oA29 + i2 * 1) (by exact congrArg (fun z_ => Value.slice z_ ((B5.getD 0 default).data.length) ((B5.getD 0 default).c)) (hp34 t0)) rfl el_27 t0 rfl rfl (rc (s_load (.int .u8 ((((B5.getD 0 default).data.getD i2 0).toNat : Nat) : Int)) ag_5 rfl (H41.imi_at (i := 0) rfl t0) (elem_cell (L := (B5.getD 0 default).data) (i := i2) u8c_len (hx35 t0) t0 0 0 t9 _ rfl) rfl (Ag (.int .u8 ((((B5.getD 0 default).data.getD i2 0).toNat : Nat) : Int)) (r_nil (g_region (Mv (.int .u64 ((u : Nat) : Int)) (rc (s_shl ((u * 256 : Nat) : Int) rfl rfl t0 (shl8u t0) rfl (Mv (.int .u8 ((((B5.getD 0 default).data.getD i2 0).toNat : Nat) : Int)) (rc (s_conv ((((B5.getD 0 default).data.getD i2 0).toNat : Nat) : Int) rfl us_5 ik_61 (wu64 t0) rfl (rc (s_or ((E / 2 ^ (64 - 8 * (i2 + 1)) : Nat) : Int) rfl rfl (up_or hu hx8 hE2 t0) rfl (Ag (.int .u64 ((E / 2 ^ (64 - 8 * (i2 + 1)) : Nat) : Int)) (r_nil (g_inBlock (g_region (rc (s_add ((i2 : Int) + 1) rfl rfl (wi64 t0) rfl (Mv (.int .i64 ((i2 : Int) + 1)) (r_nil ?_))))))))))))))))))))))
  have H44 : St W w40 (_ :: _ :: _ :: _ :: _ :: _ :: F) := (H41.mv [5, 5, 5, 5, 5, 5])
  exact nx42 (i2 + 1, E / 2 ^ (64 - 8 * (i2 + 1))) _ _ ⟨t0, rfl, H44⟩ t7 t1
 refine rc (s_lss false rfl rfl (dfalse hc43) rfl (r_nil (g_seq (g_false rfl (g_exit t39 (g_seq (g_seq (g_region ?_))))))))
 have huu := up_all hu t0
 refine Mv (.int .u64 ((u : Nat) : Int)) (rc (s_gtr false rfl rfl (dfalse t0) rfl (r_nil (g_false rfl (g_skip (g_seq (g_region (Mv (.int .u64 ((u : Nat) : Int)) (rc (s_conv (E : Int) rfl us_61 ik_2 (((wi64 t0).trans t0)) rfl (rc (s_build (cs := #[.bool true, .int .i64 (E : Int), .slice none 0 0]) t5 rfl (Bx H41 90 #[.bool true, .int .i64 (E : Int), .slice none 0 0] (fun bk45 w46 H47 => Ag (.pointer (pa bk45)) (r_nil (g_seq (g_seq (g_region ?_))))))))))))))))))
 have H48 : St W w46 (bysA (B5.drop 1) :: _ :: _ :: _ :: _ :: _ :: _ :: _ :: F) := bysA_sub (M := B5.drop 1) H47 (i := 5) rfl (fun x hx => List.mem_of_mem_drop hx)
 have hdl := gb_drop hB8
 refine Mv (.slice pp6 B5.length cc7) ?_
 have hc49 := Im.cap H48 (i := 5) rfl
 refine rc (s_slice_l pp6 1 1 (.slice (cutAt pp6 1 cc7 1) (B5.length - 1) (cc7 - 1)) rfl rfl el_98 t0 (by first | rfl | (congr 1; omega)) rfl ?_)
 have H50 : St W w46 (Im 1 (.slice (cutAt pp6 1 cc7 1) (B5.length - 1) (cc7 - 1)) (B5.length - 1) ((B5.drop 1).flatMap byCell) :: _ :: _ :: _ :: _ :: _ :: _ :: _ :: _ :: F) := Im.cut_l byCell_len 1 H48 (i := 5) rfl t0
 refine rc (s_len (B5.length - 1) rfl ⟨_, un_98⟩ rfl (Mv (.int .i64 0) (r_nil (g_block ?_))))
 have H51 : St W w46 (Im 1 (.slice (cutAt pp6 1 cc7 1) ((B5.drop 1).length) (cc7 - 1)) ((B5.drop 1).length) ((B5.drop 1).flatMap byCell) :: bysA (B5.drop 1) :: blk bk45 (.cells #[.bool true, .int .i64 (E : Int), .slice none 0 0] 90 (0, 0)) :: imi (0 < ((B5.getD 0 default).data).length) gA28 (.cells kA30 eA31 zA32) :: Im 1 (.slice ((B5.getD 0 default).p) ((B5.getD 0 default).data.length) ((B5.getD 0 default).c)) (((B5.getD 0 default).data).length) (((B5.getD 0 default).data).flatMap u8c) :: imi (0 < B5.length) gA14 (.cells kA16 eA17 zA18) :: Im 1 (.slice pp6 B5.length cc7) B5.length (B5.flatMap byCell) :: bysA B5 :: Im 1 (.slice pp1 ((pkL (gbL E V)).length) cc2) ((pkL (gbL E V)).length) ((pkL (gbL E V)).flatMap u8c) :: F) := by rw [List.length_drop]; exact H50
 obtain ⟨pA52, cA53, gA54, oA55, kA56, eA57, zA58, he64, hn59, hp60, hx61, hs62, hml, H63⟩ := Im.open_ H51 (i := 0) rfl
 obtain ⟨rfl, rfl⟩ : cutAt pp6 1 cc7 1 = pA52 ∧ cc7 - 1 = cA53 := by injection he64 with a_ b_ c_; exact ⟨a_, c_⟩
 have H65 := Row.nil_intro H63 26 6
 have H66 := itsA_nil H65
 have H67 : St W w46 (_ :: _ :: _ :: _ :: _ :: _ :: _ :: _ :: _ :: _ :: _ :: _ :: F) := (H66.mv [1, 5])
 refine g_loop_inv (fun ((k, L, q, d) : Nat × (List ItemD) × (Option Addr) × Nat) => [(2, .pointer none), (3, .int .i64 0), (9, .pointer (pa bk45)), (59, .slice (cutAt pp6 1 cc7 1) (B5.length - 1) (cc7 - 1)), (60, .int .i64 (B5.length - 1 : Int)), (61, .int .i64 (k : Int))]) (fun (k, L, q, d) w => (k ≤ V.length) ∧ (L.map ItemD.v = V.take k) ∧ St W w (blk bk45 (.cells #[.bool true, .int .i64 (E : Int), .slice q L.length d] 90 (0, 0)) :: Row 26 6 (.slice q L.length d) L.length (L.flatMap itCell) :: itsA L :: imi (0 < (B5.drop 1).length) gA54 (.cells kA56 eA57 zA58) :: Im 1 (.slice (cutAt pp6 1 cc7 1) ((B5.drop 1).length) (cc7 - 1)) ((B5.drop 1).length) ((B5.drop 1).flatMap byCell) :: bysA (B5.drop 1) :: imi (0 < ((B5.getD 0 default).data).length) gA28 (.cells kA30 eA31 zA32) :: Im 1 (.slice ((B5.getD 0 default).p) ((B5.getD 0 default).data.length) ((B5.getD 0 default).c)) (((B5.getD 0 default).data).length) (((B5.getD 0 default).data).flatMap u8c) :: imi (0 < B5.length) gA14 (.cells kA16 eA17 zA18) :: Im 1 (.slice pp6 B5.length cc7) B5.length (B5.flatMap byCell) :: bysA B5 :: Im 1 (.slice pp1 ((pkL (gbL E V)).length) cc2) ((pkL (gbL E V)).length) ((pkL (gbL E V)).flatMap u8c) :: F)) (fun (k, L, q, d) => V.length - k) (0, [], none, 0) ?_ ?_ ?_
 ·exact t1
 ·exact ⟨t0, rfl, H67⟩
 rintro ⟨k, L, q, d⟩ ρ68 w69 ⟨hkn, hLv, H70⟩ nx71
 change Ends _ _ (upds ρ68 [(2, .pointer none), (3, .int .i64 0), (9, .pointer (pa bk45)), (59, .slice (cutAt pp6 1 cc7 1) (B5.length - 1) (cc7 - 1)), (60, .int .i64 (B5.length - 1 : Int)), (61, .int .i64 (k : Int))]) w69
 have hLl : L.length = k := by have h9 := congrArg List.length hLv; rw [List.length_map, List.length_take] at h9; omega
 refine g_seq (g_region ?_)
 by_cases hc72 : (k : Int) < (B5.length - 1 : Int)
 ·refine rc (s_lss true rfl rfl (dtrue hc72) rfl (r_nil (g_seq (g_true rfl (g_skip (g_seq (g_block (g_seq (g_region (rc (s_indexAddr gA54 (off := oA55) (k : Int) 1 (oA55 + k * 1) (by exact congrArg (fun z_ => Value.slice z_ (B5.length - 1) (cc7 - 1)) (hp60 t0)) rfl el_98 t0 rfl rfl ?_)))))))))))
  have hxl := gb_dlen hB8 (k := k) t0
  have H73 : St W w69 (Im 1 (.slice (((B5.drop 1).getD k default).p) (((B5.drop 1).getD k default).data.length) (((B5.drop 1).getD k default).c)) ((((B5.drop 1).getD k default).data).length) ((((B5.drop 1).getD k default).data).flatMap u8c) :: _ :: _ :: _ :: _ :: _ :: _ :: _ :: _ :: _ :: _ :: _ :: _ :: F) := bysA_at H70 (i := 5) rfl (j := k) t0
  refine rc (s_load (.slice (((B5.drop 1).getD k default).p) (((B5.drop 1).getD k default).data.length) (((B5.drop 1).getD k default).c)) ag_27 rfl (H73.imi_at (i := 4) rfl t0) (elem_cell (L := (B5.drop 1)) (i := k) byCell_len (hx61 t0) t0 default 0 t9 _ rfl) rfl (Ag (.slice (((B5.drop 1).getD k default).p) (((B5.drop 1).getD k default).data.length) (((B5.drop 1).getD k default).c)) (r_nil (g_seq (g_region (Mv (.slice (((B5.drop 1).getD k default).p) (((B5.drop 1).getD k default).data.length) (((B5.drop 1).getD k default).c)) (rc (s_call [.slice (((B5.drop 1).getD k default).p) (((B5.drop 1).getD k default).data.length) (((B5.drop 1).getD k default).c)] pl_7 rfl rfl (migrate_ParseItem _ _ (((B5.drop 1).getD k default).data) RdA.im t0 (j := 0) rfl H73) ?_))))))))
  rintro _ w76 ⟨it74, rfl, hx75, H77⟩
  refine Mv (.tuple #[.agg (itc it74), .int .i64 (ipE (remB (((B5.drop 1).getD k default).data) 0))]) (Ex (.agg (itc it74)) (Ex (.int .i64 (ipE (remB (((B5.drop 1).getD k default).data) 0))) (rc (s_alloc H77 26 ze_26 rfl (fun bk78 w79 H80 => Sa H80 0 rfl (itc it74) 6 sz_26 (itc it74) (fun w81 H82 => Ag (.int .i64 (ipE (remB (((B5.drop 1).getD k default).data) 0))) (r_nil (g_seq (g_seq (g_region ?_))))))))))
  obtain ⟨hi1, hi2, hi3⟩ := gb_item hB8 t0 hV hx75
  refine Mv (.int .i64 (ipE (remB (((B5.drop 1).getD k default).data) 0))) (rc (s_neq false rfl rfl (ntrue hi1) rfl (r_nil (g_false rfl (g_skip (g_seq (g_seq ?_)))))))
  refine g_quiet (fun w' => St W w' (blk bk78 (.cells (itc it74) 26 (0, 0)) :: Im 6 (.slice it74.p it74.bs.length it74.c) it74.bs.length (it74.bs.flatMap bndCell) :: bndsA it74.bs :: Im 1 (.slice (((B5.drop 1).getD k default).p) (((B5.drop 1).getD k default).data.length) (((B5.drop 1).getD k default).c)) ((((B5.drop 1).getD k default).data).length) ((((B5.drop 1).getD k default).data).flatMap u8c) :: blk bk45 (.cells #[.bool true, .int .i64 (E : Int), .slice q L.length d] 90 (0, 0)) :: Row 26 6 (.slice q L.length d) L.length (L.flatMap itCell) :: itsA L :: imi (0 < (B5.drop 1).length) gA54 (.cells kA56 eA57 zA58) :: Im 1 (.slice (cutAt pp6 1 cc7 1) ((B5.drop 1).length) (cc7 - 1)) ((B5.drop 1).length) ((B5.drop 1).flatMap byCell) :: bysA (B5.drop 1) :: imi (0 < ((B5.getD 0 default).data).length) gA28 (.cells kA30 eA31 zA32) :: Im 1 (.slice ((B5.getD 0 default).p) ((B5.getD 0 default).data.length) ((B5.getD 0 default).c)) (((B5.getD 0 default).data).length) (((B5.getD 0 default).data).flatMap u8c) :: imi (0 < B5.length) gA14 (.cells kA16 eA17 zA18) :: Im 1 (.slice pp6 B5.length cc7) B5.length (B5.flatMap byCell) :: bysA B5 :: Im 1 (.slice pp1 ((pkL (gbL E V)).length) cc2) ((pkL (gbL E V)).length) ((pkL (gbL E V)).flatMap u8c) :: F)) mixed t5 H82.drew ?_
  refine Qf 2 fi_26_2 rfl (Qv (fun w hw => x_load (.int .i64 it74.ep.v) ag_2 rfl (hw.blk_at (i := 0) rfl) rfl) (Qm (.pointer (pa bk45)) (Qv (fun w hw => x_nilCheck (.pointer (pa bk45)) rfl ⟨_, rfl⟩ w) (Qf 1 fi_90_1 rfl (Qv (fun w hw => x_load (.int .i64 (E : Int)) ag_2 rfl (hw.blk_at (i := 4) rfl) rfl) (Qv (fun w hw => x_leq false rfl rfl (dfalse t0) w) (q_nil ?_)))))))
  intro w83 H84
  refine g_false rfl (g_skip ?_)
  have H85 : St W w83 (_ :: _ :: _ :: _ :: _ :: _ :: _ :: _ :: _ :: _ :: _ :: _ :: _ :: _ :: _ :: _ :: F) := (H84.mv [5, 5, 15, 15, 15])
  have H86 : St W w83 (_ :: _ :: _ :: _ :: _ :: _ :: _ :: _ :: _ :: _ :: _ :: _ :: _ :: _ :: _ :: _ :: F) := (H85.mv [15, 15, 15, 15, 15])
  have H87 : St W w83 (_ :: _ :: _ :: _ :: _ :: _ :: _ :: _ :: _ :: _ :: _ :: _ :: _ :: _ :: _ :: _ :: F) := (H86.mv [15, 15, 15, 15, 15])
  have H88 : St W w83 (_ :: _ :: _ :: _ :: _ :: _ :: _ :: _ :: _ :: _ :: _ :: _ :: _ :: _ :: _ :: _ :: F) := (H87.move 15 rfl)
  refine g_mix (fun t_ w => St W w (blk bk78 (.cells (itc it74) 26 (0, 0)) :: Im 6 (.slice it74.p it74.bs.length it74.c) it74.bs.length (it74.bs.flatMap bndCell) :: bndsA it74.bs :: Im 1 (.slice (((B5.drop 1).getD k default).p) (((B5.drop 1).getD k default).data.length) (((B5.drop 1).getD k default).c)) ((((B5.drop 1).getD k default).data).length) ((((B5.drop 1).getD k default).data).flatMap u8c) :: itsA L :: imi (0 < (B5.drop 1).length) gA54 (.cells kA56 eA57 zA58) :: Im 1 (.slice (cutAt pp6 1 cc7 1) ((B5.drop 1).length) (cc7 - 1)) ((B5.drop 1).length) ((B5.drop 1).flatMap byCell) :: bysA (B5.drop 1) :: imi (0 < ((B5.getD 0 default).data).length) gA28 (.cells kA30 eA31 zA32) :: Im 1 (.slice ((B5.getD 0 default).p) ((B5.getD 0 default).data.length) ((B5.getD 0 default).c)) (((B5.getD 0 default).data).length) (((B5.getD 0 default).data).flatMap u8c) :: imi (0 < B5.length) gA14 (.cells kA16 eA17 zA18) :: Im 1 (.slice pp6 B5.length cc7) B5.length (B5.flatMap byCell) :: bysA B5 :: Im 1 (.slice pp1 ((pkL (gbL E V)).length) cc2) ((pkL (gbL E V)).length) ((pkL (gbL E V)).flatMap u8c) :: t_)) (blk bk45 (.cells #[.bool true, .int .i64 (E : Int), .slice q L.length d] 90 (0, 0)) :: Row 26 6 (.slice q L.length d) L.length (L.flatMap itCell) :: F) mixed 11 rfl H88.drew ?_
  refine Fv 0 rfl (fun _ w _ => x_move (.pointer (pa bk45)) rfl w) (Fv 1 rfl (fun _ w _ => x_move (.pointer (pa bk45)) rfl w) (Fv 2 rfl (fun t_ w hw => x_nilCheck (.pointer (pa bk45)) rfl ⟨_, rfl⟩ w) (Fv 3 rfl (fun t_ w hw => x_fieldAddr 90 2 2 2 38 rfl fi_90_2 rfl w) (Fv 5 rfl (fun t_ w hw => x_loadAgg (itl it74) 6 ag_26 rfl (hw.blk_at (i := 0) rfl) (nbl rfl) rfl) ?_))))
  refine f_all (rs := [4, 6]) t5 t13 ?_
  refine a_cons ⟨_, rfl, ?_⟩ (a_cons ⟨_, rfl, ?_⟩ (fun x hx => absurd hx t13))
  ·intro w89 H90
   try dsimp only at H90
   refine s_load (.slice q L.length d) ag_38 rfl (H90.blk_at (i := 14) rfl) rfl rfl ?_
   refine ⟨blk bk45 (.cells #[.bool true, .int .i64 (E : Int), .slice q L.length d] 90 (0, 0)) :: Row 26 6 (.slice q L.length d) L.length (L.flatMap itCell) :: F, ?_, H90⟩
   change FReg _ _ _ _ _ #[true, true, true, true, true, true, false, false, false, false, false] _ _
   refine f_all (rs := [6]) t5 t13 ?_
   refine a_cons ⟨_, rfl, ?_⟩ (fun x hx => absurd hx t13)
   intro w91 H92
   try dsimp only at H92
   refine s_buildSlice H92 6 1 (cs := (itc it74)) #[.int .i64 0, .int .i64 0, .int .i64 0, .int .i64 0, .slice none 0 0, .int .i64 0] el_38 ze_26 t9 t9 t5 rfl ?_; intro bk93 w94 H95
   have H96 : St W w94 (_ :: _ :: _ :: _ :: _ :: _ :: _ :: _ :: _ :: _ :: _ :: _ :: _ :: _ :: _ :: _ :: _ :: F) := (H95.mv [16, 16, 2, 16, 16])
   have H97 : St W w94 (_ :: _ :: _ :: _ :: _ :: _ :: _ :: _ :: _ :: _ :: _ :: _ :: _ :: _ :: _ :: _ :: _ :: F) := (H96.mv [16, 16, 16, 16, 16])
   have H98 : St W w94 (_ :: _ :: _ :: _ :: _ :: _ :: _ :: _ :: _ :: _ :: _ :: _ :: _ :: _ :: _ :: _ :: _ :: F) := (H97.mv [16, 16, 16, 16, 16])
   have H99 : St W w94 (_ :: _ :: _ :: _ :: _ :: _ :: _ :: _ :: _ :: _ :: _ :: _ :: _ :: _ :: _ :: _ :: _ :: F) := (H98.mv [16, 16])
   refine ⟨blk bk93 (.cells (itc it74) 26 (0, 0)) :: blk bk45 (.cells #[.bool true, .int .i64 (E : Int), .slice q L.length d] 90 (0, 0)) :: Row 26 6 (.slice q L.length d) L.length (L.flatMap itCell) :: F, ?_, H99⟩
   change FReg _ _ _ _ _ #[true, true, true, true, true, true, true, false, false, false, false] _ _
   refine f_all (rs := [7]) t5 t13 ?_
   refine a_cons ⟨_, rfl, ?_⟩ (fun x hx => absurd hx t13)
   intro w100 H101
   try dsimp only at H101
   refine s_append H101 16 rfl rfl rfl (rd_blk (H101.blk_at (i := 14) rfl) rfl (nbl rfl) t15) ap_38 t9 t12 t0 (n' := L.length + 1) (xs' := L.flatMap itCell ++ ((itl it74) : List Value)) t0 t16 rfl ?_; intro vv102 w103 H104 hn105
   obtain ⟨pp106, cc107, rfl⟩ := Row.slice H104 (i := 16) rfl
   refine ⟨blk bk93 (.cells (itc it74) 26 (0, 0)) :: blk bk45 (.cells #[.bool true, .int .i64 (E : Int), .slice q L.length d] 90 (0, 0)) :: Row 26 6 (.slice pp106 (L.length + 1) cc107) (L.length + 1) (L.flatMap itCell ++ ((itl it74) : List Value)) :: F, ?_, H104⟩
   change FReg _ _ _ _ _ #[true, true, true, true, true, true, true, true, false, false, false] _ _
   refine Fv 8 rfl (fun t_ w hw => x_nilCheck (.pointer (pa bk45)) rfl ⟨_, rfl⟩ w) (Fv 9 rfl (fun t_ w hw => x_fieldAddr 90 2 2 2 38 rfl fi_90_2 rfl w) ?_)
   refine f_all (rs := [10]) t5 t13 ?_
   refine a_cons ⟨_, rfl, ?_⟩ (fun x hx => absurd hx t13)
   intro w108 H109
   try dsimp only at H109
   refine s_store H109 15 (.slice pp106 (L.length + 1) cc107) rfl rfl rfl sz_38 rfl (nbl rfl) rfl (cs' := #[.bool true, .int .i64 (E : Int), .slice pp106 (L.length + 1) cc107]) rfl ?_; intro w110 H111
   refine ⟨blk bk93 (.cells (itc it74) 26 (0, 0)) :: blk bk45 (.cells #[.bool true, .int .i64 (E : Int), .slice pp106 (L.length + 1) cc107] 90 (0, 0)) :: Row 26 6 (.slice pp106 (L.length + 1) cc107) (L.length + 1) (L.flatMap itCell ++ ((itl it74) : List Value)) :: F, ?_, H111⟩
   change FReg _ _ _ _ _ #[true, true, true, true, true, true, true, true, true, true, true] _ _
   refine f_done t5 ?_
   intro w112 H113
   refine g_inBlock (g_region (rc (s_add ((k : Int) + 1) rfl rfl (wi64 t0) rfl (Mv (.int .i64 ((k : Int) + 1)) (r_nil ?_)))))
   have H114 : St W w112 (blk bk78 (.cells #[.int .i64 it74.op.v, .int .i64 it74.inp.v, .int .i64 it74.ep.v, .int .i64 it74.kind.v, .slice it74.p it74.bs.length it74.c, .int .i64 it74.t.v] 26 (0, 0)) :: Im 6 (.slice it74.p it74.bs.length it74.c) it74.bs.length (it74.bs.flatMap bndCell) :: bndsA it74.bs :: Im 1 (.slice (((B5.drop 1).getD k default).p) (((B5.drop 1).getD k default).data.length) (((B5.drop 1).getD k default).c)) ((((B5.drop 1).getD k default).data).length) ((((B5.drop 1).getD k default).data).flatMap u8c) :: itsA L :: imi (0 < (B5.drop 1).length) gA54 (.cells kA56 eA57 zA58) :: Im 1 (.slice (cutAt pp6 1 cc7 1) ((B5.drop 1).length) (cc7 - 1)) ((B5.drop 1).length) ((B5.drop 1).flatMap byCell) :: bysA (B5.drop 1) :: imi (0 < ((B5.getD 0 default).data).length) gA28 (.cells kA30 eA31 zA32) :: Im 1 (.slice ((B5.getD 0 default).p) ((B5.getD 0 default).data.length) ((B5.getD 0 default).c)) (((B5.getD 0 default).data).length) (((B5.getD 0 default).data).flatMap u8c) :: imi (0 < B5.length) gA14 (.cells kA16 eA17 zA18) :: Im 1 (.slice pp6 B5.length cc7) B5.length (B5.flatMap byCell) :: bysA B5 :: Im 1 (.slice pp1 ((pkL (gbL E V)).length) cc2) ((pkL (gbL E V)).length) ((pkL (gbL E V)).flatMap u8c) :: blk bk93 (.cells #[.int .i64 it74.op.v, .int .i64 it74.inp.v, .int .i64 it74.ep.v, .int .i64 it74.kind.v, .slice it74.p it74.bs.length it74.c, .int .i64 it74.t.v] 26 (0, 0)) :: blk bk45 (.cells #[.bool true, .int .i64 (E : Int), .slice pp106 ((L ++ [it74]).length) cc107] 90 (0, 0)) :: Row 26 6 (.slice pp106 ((L ++ [it74]).length) cc107) ((L ++ [it74]).length) ((L ++ [it74]).flatMap itCell) :: F) := by rw [List.flatMap_append, List.length_append]; exact H113
   have H115 : St W w112 (_ :: _ :: _ :: _ :: _ :: _ :: _ :: _ :: _ :: _ :: _ :: _ :: _ :: _ :: _ :: _ :: _ :: F) := (H114.mv [4, 3, 3])
   have H116 : St W w112 (itsA (L ++ [it74]) :: _ :: _ :: _ :: _ :: _ :: _ :: _ :: _ :: _ :: _ :: _ :: _ :: _ :: _ :: F) := itsA_snoc (x := it74) H115
   have H117 : St W w112 (_ :: _ :: _ :: _ :: _ :: _ :: _ :: _ :: _ :: _ :: _ :: _ :: _ :: _ :: _ :: F) := (H116.mv [11, 11, 11, 11, 11])
   have H118 : St W w112 (_ :: _ :: _ :: _ :: _ :: _ :: _ :: _ :: _ :: _ :: _ :: _ :: _ :: _ :: _ :: F) := (H117.mv [11, 11, 11, 11, 9])
   have H119 : St W w112 (_ :: _ :: _ :: _ :: _ :: _ :: _ :: _ :: _ :: _ :: _ :: _ :: F) := (H118.mv [14, 14, 112, 112, 112])
   exact nx71 (k + 1, (L ++ [it74]), pp106, cc107) _ _ ⟨t0, (vtake_snoc hLv t0 hi2), H119⟩ t7 t1
  intro w120 H121
  try dsimp only at H121
  refine s_buildSlice H121 6 1 (cs := (itc it74)) #[.int .i64 0, .int .i64 0, .int .i64 0, .int .i64 0, .slice none 0 0, .int .i64 0] el_38 ze_26 t9 t9 t5 rfl ?_; intro bk122 w123 H124
  have H125 : St W w123 (_ :: _ :: _ :: _ :: _ :: _ :: _ :: _ :: _ :: _ :: _ :: _ :: _ :: _ :: _ :: _ :: _ :: F) := (H124.mv [16, 16, 2, 16, 16])
  have H126 : St W w123 (_ :: _ :: _ :: _ :: _ :: _ :: _ :: _ :: _ :: _ :: _ :: _ :: _ :: _ :: _ :: _ :: _ :: F) := (H125.mv [16, 16, 16, 16, 16])
  have H127 : St W w123 (_ :: _ :: _ :: _ :: _ :: _ :: _ :: _ :: _ :: _ :: _ :: _ :: _ :: _ :: _ :: _ :: _ :: F) := (H126.mv [16, 16, 16, 16, 16])
  have H128 : St W w123 (_ :: _ :: _ :: _ :: _ :: _ :: _ :: _ :: _ :: _ :: _ :: _ :: _ :: _ :: _ :: _ :: _ :: F) := (H127.mv [16, 16])
  refine ⟨blk bk122 (.cells (itc it74) 26 (0, 0)) :: blk bk45 (.cells #[.bool true, .int .i64 (E : Int), .slice q L.length d] 90 (0, 0)) :: Row 26 6 (.slice q L.length d) L.length (L.flatMap itCell) :: F, ?_, H128⟩
  change FReg _ _ _ _ _ #[true, true, true, true, false, true, true, false, false, false, false] _ _
  refine f_all (rs := [4]) t5 t13 ?_
  refine a_cons ⟨_, rfl, ?_⟩ (fun x hx => absurd hx t13)
  intro w129 H130
  try dsimp only at H130
  refine s_load (.slice q L.length d) ag_38 rfl (H130.blk_at (i := 15) rfl) rfl rfl ?_
  refine ⟨blk bk122 (.cells (itc it74) 26 (0, 0)) :: blk bk45 (.cells #[.bool true, .int .i64 (E : Int), .slice q L.length d] 90 (0, 0)) :: Row 26 6 (.slice q L.length d) L.length (L.flatMap itCell) :: F, ?_, H130⟩
  change FReg _ _ _ _ _ #[true, true, true, true, true, true, true, false, false, false, false] _ _
  refine f_all (rs := [7]) t5 t13 ?_
  refine a_cons ⟨_, rfl, ?_⟩ (fun x hx => absurd hx t13)
  intro w131 H132
  try dsimp only at H132
  refine s_append H132 16 rfl rfl rfl (rd_blk (H132.blk_at (i := 14) rfl) rfl (nbl rfl) t15) ap_38 t9 t12 t0 (n' := L.length + 1) (xs' := L.flatMap itCell ++ ((itl it74) : List Value)) t0 t16 rfl ?_; intro vv133 w134 H135 hn136
  obtain ⟨pp137, cc138, rfl⟩ := Row.slice H135 (i := 16) rfl
  refine ⟨blk bk122 (.cells (itc it74) 26 (0, 0)) :: blk bk45 (.cells #[.bool true, .int .i64 (E : Int), .slice q L.length d] 90 (0, 0)) :: Row 26 6 (.slice pp137 (L.length + 1) cc138) (L.length + 1) (L.flatMap itCell ++ ((itl it74) : List Value)) :: F, ?_, H135⟩
  change FReg _ _ _ _ _ #[true, true, true, true, true, true, true, true, false, false, false] _ _
  refine Fv 8 rfl (fun t_ w hw => x_nilCheck (.pointer (pa bk45)) rfl ⟨_, rfl⟩ w) (Fv 9 rfl (fun t_ w hw => x_fieldAddr 90 2 2 2 38 rfl fi_90_2 rfl w) ?_)
  refine f_all (rs := [10]) t5 t13 ?_
  refine a_cons ⟨_, rfl, ?_⟩ (fun x hx => absurd hx t13)
  intro w139 H140
  try dsimp only at H140
  refine s_store H140 15 (.slice pp137 (L.length + 1) cc138) rfl rfl rfl sz_38 rfl (nbl rfl) rfl (cs' := #[.bool true, .int .i64 (E : Int), .slice pp137 (L.length + 1) cc138]) rfl ?_; intro w141 H142
  refine ⟨blk bk122 (.cells (itc it74) 26 (0, 0)) :: blk bk45 (.cells #[.bool true, .int .i64 (E : Int), .slice pp137 (L.length + 1) cc138] 90 (0, 0)) :: Row 26 6 (.slice pp137 (L.length + 1) cc138) (L.length + 1) (L.flatMap itCell ++ ((itl it74) : List Value)) :: F, ?_, H142⟩
  change FReg _ _ _ _ _ #[true, true, true, true, true, true, true, true, true, true, true] _ _
  refine f_done t5 ?_
  intro w143 H144
  refine g_inBlock (g_region (rc (s_add ((k : Int) + 1) rfl rfl (wi64 t0) rfl (Mv (.int .i64 ((k : Int) + 1)) (r_nil ?_)))))
  have H145 : St W w143 (blk bk78 (.cells #[.int .i64 it74.op.v, .int .i64 it74.inp.v, .int .i64 it74.ep.v, .int .i64 it74.kind.v, .slice it74.p it74.bs.length it74.c, .int .i64 it74.t.v] 26 (0, 0)) :: Im 6 (.slice it74.p it74.bs.length it74.c) it74.bs.length (it74.bs.flatMap bndCell) :: bndsA it74.bs :: Im 1 (.slice (((B5.drop 1).getD k default).p) (((B5.drop 1).getD k default).data.length) (((B5.drop 1).getD k default).c)) ((((B5.drop 1).getD k default).data).length) ((((B5.drop 1).getD k default).data).flatMap u8c) :: itsA L :: imi (0 < (B5.drop 1).length) gA54 (.cells kA56 eA57 zA58) :: Im 1 (.slice (cutAt pp6 1 cc7 1) ((B5.drop 1).length) (cc7 - 1)) ((B5.drop 1).length) ((B5.drop 1).flatMap byCell) :: bysA (B5.drop 1) :: imi (0 < ((B5.getD 0 default).data).length) gA28 (.cells kA30 eA31 zA32) :: Im 1 (.slice ((B5.getD 0 default).p) ((B5.getD 0 default).data.length) ((B5.getD 0 default).c)) (((B5.getD 0 default).data).length) (((B5.getD 0 default).data).flatMap u8c) :: imi (0 < B5.length) gA14 (.cells kA16 eA17 zA18) :: Im 1 (.slice pp6 B5.length cc7) B5.length (B5.flatMap byCell) :: bysA B5 :: Im 1 (.slice pp1 ((pkL (gbL E V)).length) cc2) ((pkL (gbL E V)).length) ((pkL (gbL E V)).flatMap u8c) :: blk bk122 (.cells #[.int .i64 it74.op.v, .int .i64 it74.inp.v, .int .i64 it74.ep.v, .int .i64 it74.kind.v, .slice it74.p it74.bs.length it74.c, .int .i64 it74.t.v] 26 (0, 0)) :: blk bk45 (.cells #[.bool true, .int .i64 (E : Int), .slice pp137 ((L ++ [it74]).length) cc138] 90 (0, 0)) :: Row 26 6 (.slice pp137 ((L ++ [it74]).length) cc138) ((L ++ [it74]).length) ((L ++ [it74]).flatMap itCell) :: F) := by rw [List.flatMap_append, List.length_append]; exact H144
  have H146 : St W w143 (_ :: _ :: _ :: _ :: _ :: _ :: _ :: _ :: _ :: _ :: _ :: _ :: _ :: _ :: _ :: _ :: _ :: F) := (H145.mv [4, 3, 3])
  have H147 : St W w143 (itsA (L ++ [it74]) :: _ :: _ :: _ :: _ :: _ :: _ :: _ :: _ :: _ :: _ :: _ :: _ :: _ :: _ :: F) := itsA_snoc (x := it74) H146
  have H148 : St W w143 (_ :: _ :: _ :: _ :: _ :: _ :: _ :: _ :: _ :: _ :: _ :: _ :: _ :: _ :: _ :: F) := (H147.mv [11, 11, 11, 11, 11])
  have H149 : St W w143 (_ :: _ :: _ :: _ :: _ :: _ :: _ :: _ :: _ :: _ :: _ :: _ :: _ :: _ :: _ :: F) := (H148.mv [11, 11, 11, 11, 9])
  have H150 : St W w143 (_ :: _ :: _ :: _ :: _ :: _ :: _ :: _ :: _ :: _ :: _ :: _ :: F) := (H149.mv [14, 14, 112, 112, 112])
  exact nx71 (k + 1, (L ++ [it74]), pp137, cc138) _ _ ⟨t0, (vtake_snoc hLv t0 hi2), H150⟩ t7 t1
 refine rc (s_lss false rfl rfl (dfalse hc72) rfl (r_nil (g_seq (g_false rfl (g_exit t39 (g_seq (g_region (Mv (.pointer (pa bk45)) (Ag (.pointer (pa bk45)) (Ag (.int .i64 0) (r_nil (Gr [.pointer (pa bk45), .int .i64 0] Tryz.func25 Tryz.results25 ?_))))))))))))
 have H151 : St W w69 (_ :: _ :: _ :: _ :: _ :: _ :: _ :: _ :: F) := (H70.mv [2, 2, 2, 103, 103, 103, 103])
 have H152 : St W w69 (_ :: _ :: _ :: _ :: F) := (H151.mv [103, 103, 103, 103])
 have H153 : St W w69 (_ :: _ :: _ :: F) := (H152.drop 3 rfl)
 have H154 : St W w69 (GtA bk45 (E : Int) L :: F) := St.shut_ex (q, d) (St.shut_star (ls := [_, _, _]) H153)
 exact ⟨bk45, L, rfl, by rw [hLv, List.take_of_length_le t0], H154⟩
theorem MigrateGates_ (l : List ItemD) (lv : Value) (bs : List Bool) (bv : Value) (hok : ∀ x ∈ l, bsOk x.bs) (hl : l.length ≤ 134217728) {j k a : Nat} (hj : F[j]? = some (Im 6 lv l.length (l.flatMap itCell))) (hk : F[k]? = some (Im 1 bv bs.length (bs.flatMap blc))) (ha : F[a]? = some (itsA l)) (H : St W w F) : Calls Tryz.prog 4 #[lv, bv] w (Ret fun v w' => v = .bool true ∧ St W w' F) := by
 obtain ⟨pp1, cc2, rfl, hsh3⟩ := Rd.shape (Im.rd H (i := j) hj)
 have H4 := H.dup (i := j) hj (Im_pers _ _ _ _)
 have hmlH4 := Im.len H4 (i := 0) rfl
 obtain ⟨pp5, cc6, rfl, hsh7⟩ := Rd.shape (Im.rd H (i := k) hk)
 have H8 := (H4.dup (i := k + 1) (by exact hk) (Im_pers _ _ _ _)).dup (i := a + 2) (by exact ha) (itsA_pers _)
 have H9 : St W w (_ :: _ :: _ :: F) := H8
 have hml1 := Im.len H9 (i := 1) rfl
 have hml2 := Im.len H9 (i := 2) rfl
 refine calls_of_go (n := 142) Tryz.func4 rfl Tryz.ntmps4 rfl ?_
 refine g_seq (g_region (Ag (.bool false) (r_nil (g_seq (g_region (rc (s_call [] pl_15 rfl rfl (NewGate_ H9) ?_)))))))
 rintro _ w11 ⟨bk10, rfl, H12⟩
 refine rc (s_build (cs := #[.int .i64 0, .slice none 0 0]) t5 rfl (Bx H12 44 #[.int .i64 0, .slice none 0 0] (fun bk13 w14 H15 => Ag (.pointer (pa bk10)) (Ag (.pointer (pa bk13)) (r_nil (g_seq (g_seq (g_region (rc (s_call [] pl_9 rfl rfl (begun_ H15) ?_))))))))))
 rintro _ w16 ⟨rfl, H17⟩
 refine rc (s_not true rfl false rfl rfl (Mv (.bool false) (Rt (Mw (.pointer (pa bk10)) (Rt (s_peql false un_40 rfl rfl rfl rfl (Pf (.bool false) (r_nil (g_false rfl (g_skip (g_seq (g_seq (g_region (Mv (.slice pp1 l.length cc2) (rc (s_len l.length rfl ⟨_, un_38⟩ rfl (Mv (.int .i64 0) (r_nil (g_block ?_)))))))))))))))))))
 have H18 := Row.nil_intro H17 26 6
 have H19 := itsA_nil H18
 have H20 := Row.nil_intro H19 26 6
 have H21 := itsA_nil H20
 have H22 : St W w16 (_ :: _ :: _ :: _ :: _ :: _ :: _ :: _ :: _ :: F) := Row.im H21 (i := 1) rfl
 have H23 : St W w16 (_ :: _ :: _ :: _ :: _ :: _ :: _ :: _ :: _ :: F) := (H22.mv [1, 4])
 have H24 : St W w16 (GrA bk13 (0 : Int) ([] : List ItemD) :: _ :: _ :: _ :: _ :: _ :: _ :: F) := St.shut_ex (none, 0) (St.shut_star (ls := [_, _, _]) H23)
 have H25 : St W w16 (_ :: _ :: _ :: _ :: _ :: _ :: _ :: F) := (H24.mv [1, 2, 3])
 have H26 : St W w16 (GtA bk10 (0 : Int) ([] : List ItemD) :: _ :: _ :: _ :: _ :: F) := St.shut_ex (none, 0) (St.shut_star (ls := [_, _, _]) H25)
 obtain ⟨pA27, cA28, gA29, oA30, kA31, eA32, zA33, he39, hn34, hp35, hx36, hs37, hml, H38⟩ := Im.open_ H26 (i := 4) rfl
 obtain ⟨rfl, rfl⟩ : pp1 = pA27 ∧ cc2 = cA28 := by injection he39 with a_ b_ c_; exact ⟨a_, c_⟩
 obtain ⟨pA40, cA41, gA42, oA43, kA44, eA45, zA46, he52, hn47, hp48, hx49, hs50, hml, H51⟩ := Im.open_ H38 (i := 4) rfl
 obtain ⟨rfl, rfl⟩ : pp5 = pA40 ∧ cc6 = cA41 := by injection he52 with a_ b_ c_; exact ⟨a_, c_⟩
 have H53 : St W w16 (_ :: _ :: _ :: _ :: _ :: _ :: _ :: F) := (H51.mv [3, 3])
 refine g_loop_inv (fun ((i, g, e, L1, L2) : Nat × Nat × Int × (List ItemD) × (List ItemD)) => [(1, .slice pp5 bs.length cc6), (4, .bool false), (5, .pointer (pa g)), (6, .pointer (pa bk13)), (27, .slice pp1 l.length cc2), (28, .int .i64 (l.length : Int)), (29, .int .i64 (i : Int))]) (fun (i, g, e, L1, L2) w => (i ≤ l.length) ∧ (L1.map ItemD.v = L2.map ItemD.v) ∧ (GOk i e (L1.map ItemD.v)) ∧ St W w (GtA g e L1 :: GrA bk13 e L2 :: imi (0 < bs.length) gA42 (.cells kA44 eA45 zA46) :: imi (0 < l.length) gA29 (.cells kA31 eA32 zA33) :: itsA l :: Im 1 (.slice pp5 bs.length cc6) bs.length (bs.flatMap blc) :: Im 6 (.slice pp1 l.length cc2) l.length (l.flatMap itCell) :: F)) (fun (i, g, e, L1, L2) => l.length - i) (0, bk10, 0, [], []) ?_ ?_ ?_
 ·exact t1
 ·exact ⟨t0, rfl, gok_start, H53⟩
 rintro ⟨i, g, e, L1, L2⟩ ρ54 w55 ⟨hin, hv, hg, H56⟩ nx57
 change Ends _ _ (upds ρ54 [(1, .slice pp5 bs.length cc6), (4, .bool false), (5, .pointer (pa g)), (6, .pointer (pa bk13)), (27, .slice pp1 l.length cc2), (28, .int .i64 (l.length : Int)), (29, .int .i64 (i : Int))]) w55
 obtain ⟨hg2, hg3, hg4, _⟩ := id hg
 rw [List.length_map] at hg4
 have hll := v_lens hv
 refine g_seq (g_region ?_)
 by_cases hc58 : (i : Int) < (l.length : Int)
 ·refine rc (s_lss true rfl rfl (dtrue hc58) rfl (r_nil (g_seq (g_true rfl (g_skip (g_seq (g_block (g_seq (g_region (Mv (.int .i64 (i : Int)) (rc (s_indexAddr gA29 (off := oA30) (i : Int) 6 (oA30 + i * 6) (by exact congrArg (fun z_ => Value.slice z_ l.length cc2) (hp35 t0)) rfl el_38 t0 rfl rfl ?_))))))))))))
  have H59 : St W w55 (bndsA ((l.getD i default).bs) :: _ :: _ :: _ :: _ :: _ :: _ :: _ :: F) := itsA_at H56 (i := 4) rfl (j := i) t0
  have H60 : St W w55 (Im 6 (.slice ((l.getD i default).p) ((l.getD i default).bs.length) ((l.getD i default).c)) ((l.getD i default).bs.length) ((l.getD i default).bs.flatMap bndCell) :: _ :: _ :: _ :: _ :: _ :: _ :: _ :: _ :: F) := itsA_bs H59 (i := 5) rfl (j := i) t0
  refine rc (s_loadAgg (itl (l.getD i default)) 6 ag_26 rfl (H60.imi_at (i := 5) rfl t0) (by have := elem_size (i := i) (s := 6) (hs37 t0) t0; omega) (elem_take itCell_len (hx36 t0) t0 default) rfl (rc (s_alloc H60 26 ze_26 rfl (fun bk61 w62 H63 => Ag (.int .i64 (i : Int)) (Sa H63 0 rfl (itc (l.getD i default)) 6 sz_26 (itc (l.getD i default)) (fun w64 H65 => r_nil (g_seq (g_region (Mv (.pointer (pa g)) (La (itl (l.getD i default)) 6 ag_26 H65 0 (rc (s_call [.pointer (pa g), .agg (itc (l.getD i default))] pl_16 rfl rfl (Gate_Take g e L1 (l.getD i default) (hok _ (getD_memI t0)) t0 t0 t0 (i := 3) rfl (ip := 1) rfl (iq := 2) rfl H65) ?_))))))))))))
  rintro _ w72 ⟨O66, L67, e68, pp69, cc70, rfl, hT71, H73⟩
  refine Mv (.tuple #[.slice pp69 O66.length cc70, .int .i64 (gkE e L1.length (l.getD i default))]) (Ex (.slice pp69 O66.length cc70) (Ex (.int .i64 (gkE e L1.length (l.getD i default))) (Ag (.slice pp69 O66.length cc70) (Ag (.int .i64 (gkE e L1.length (l.getD i default))) (r_nil (g_seq (g_region (Mv (.pointer (pa bk13)) (La (itl (l.getD i default)) 6 ag_26 H73 2 (rc (s_call [.pointer (pa bk13), .agg (itc (l.getD i default))] pl_17 rfl rfl (Ref_Take bk13 e L2 (l.getD i default) (hok _ (getD_memI t0)) t0 t0 t0 (i := 6) rfl (ip := 3) rfl (iq := 4) rfl H73) ?_)))))))))))
  rintro _ w80 ⟨O74, L75, e76, pp77, cc78, rfl, hT79, H81⟩
  refine Mv (.tuple #[.slice pp77 O74.length cc78, .int .i64 (gkE e L2.length (l.getD i default))]) (Ex (.slice pp77 O74.length cc78) (Ex (.int .i64 (gkE e L2.length (l.getD i default))) (Ag (.slice pp77 O74.length cc78) (Ag (.int .i64 (gkE e L2.length (l.getD i default))) (r_nil (g_seq (g_seq ?_)))))))
  obtain ⟨hO, he9, hv2⟩ := gk_both hv hT71 hT79
  have hg1 := gok_step hg hT71
  obtain ⟨hg5, hg6, hg7, _⟩ := id hg1
  rw [List.length_map] at hg7
  have hl2 := v_lens hv2
  have hok1 := gok_items hg1
  have hok2 := ok_of hv2.symm hok1
  have hgE : gkE e L1.length (l.getD i default) = gkE e L2.length (l.getD i default) := by rw [hll]
  have H82 : St W w80 (_ :: _ :: _ :: _ :: _ :: _ :: _ :: _ :: _ :: _ :: _ :: _ :: _ :: _ :: F) := Row.im H81 (i := 2) rfl
  have H83 : St W w80 (_ :: _ :: _ :: _ :: _ :: _ :: _ :: _ :: _ :: _ :: _ :: _ :: _ :: _ :: F) := Row.im H82 (i := 0) rfl
  have H84 : St W w80 (Im 6 (.slice pp77 O74.length cc78) O74.length (O74.flatMap itCell) :: itsA O74 :: Im 6 (.slice pp69 O66.length cc70) O66.length (O66.flatMap itCell) :: itsA O66 :: blk bk61 (.cells #[.int .i64 ((l.getD i default).op.v), .int .i64 ((l.getD i default).inp.v), .int .i64 ((l.getD i default).ep.v), .int .i64 ((l.getD i default).kind.v), .slice ((l.getD i default).p) ((l.getD i default).bs.length) ((l.getD i default).c), .int .i64 ((l.getD i default).t.v)] 26 (0, 0)) :: Im 6 (.slice ((l.getD i default).p) ((l.getD i default).bs.length) ((l.getD i default).c)) ((l.getD i default).bs.length) ((l.getD i default).bs.flatMap bndCell) :: bndsA ((l.getD i default).bs) :: GtA g e68 L67 :: GrA bk13 e68 L75 :: imi (0 < bs.length) gA42 (.cells kA44 eA45 zA46) :: imi (0 < l.length) gA29 (.cells kA31 eA32 zA33) :: itsA l :: Im 1 (.slice pp5 bs.length cc6) bs.length (bs.flatMap blc) :: Im 6 (.slice pp1 l.length cc2) l.length (l.flatMap itCell) :: F) := by have h9 := H83; rw [← he9] at h9; exact h9
  have H85 := H84.move 8 rfl
  obtain ⟨⟨pp86, cc87⟩, H88⟩ := St.open_ex H85
  have H89 := St.open_star H88
  have H90 : St W w80 (_ :: _ :: _ :: _ :: _ :: _ :: _ :: _ :: _ :: _ :: _ :: _ :: _ :: _ :: _ :: _ :: F) := H89
  refine g_mix (fun t_ w => St W w (blk bk13 (.cells #[.int .i64 e68, .slice pp86 L75.length cc87] 44 (0, 0)) :: Im 6 (.slice pp86 L75.length cc87) L75.length (L75.flatMap itCell) :: itsA L75 :: Im 6 (.slice pp77 O74.length cc78) O74.length (O74.flatMap itCell) :: itsA O74 :: Im 6 (.slice pp69 O66.length cc70) O66.length (O66.flatMap itCell) :: itsA O66 :: blk bk61 (.cells (itc (l.getD i default)) 26 (0, 0)) :: Im 6 (.slice ((l.getD i default).p) ((l.getD i default).bs.length) ((l.getD i default).c)) ((l.getD i default).bs.length) ((l.getD i default).bs.flatMap bndCell) :: bndsA ((l.getD i default).bs) :: GtA g e68 L67 :: imi (0 < bs.length) gA42 (.cells kA44 eA45 zA46) :: imi (0 < l.length) gA29 (.cells kA31 eA32 zA33) :: itsA l :: Im 1 (.slice pp5 bs.length cc6) bs.length (bs.flatMap blc) :: Im 6 (.slice pp1 l.length cc2) l.length (l.flatMap itCell) :: t_)) F mixed 38 rfl H90.drew ?_
  refine Fv 0 rfl (fun _ w _ => x_move (.slice pp69 O66.length cc70) rfl w) (Fv 1 rfl (fun _ w _ => x_move (.slice pp77 O74.length cc78) rfl w) ?_)
  refine f_all (rs := [2]) t5 t13 ?_
  refine a_cons ⟨_, rfl, ?_⟩ (fun x hx => absurd hx t13)
  intro w91 H92
  try dsimp only at H92
  refine s_call [.slice pp69 O66.length cc70, .slice pp77 O74.length cc78] pl_18 rfl rfl (items_ O66 O74 _ _ hO (j := 5) (k := 3) (a := 6) (b := 4) rfl rfl rfl rfl H92) ?_
  rintro _ w93 ⟨rfl, H94⟩
  refine ⟨F, ?_, H94⟩
  change FReg _ _ _ _ _ #[true, true, true, false, false, false, false, false, false, false, false, false, false, false, false, false, false, false, false, false, false, false, false, false, false, false, false, false, false, false, false, false, false, false, false, false, false, false] _ _
  refine Fv 3 rfl (fun t_ w hw => x_not true rfl false rfl w) (Fv 4 rfl (fun _ w _ => x_move (.bool false) rfl w) (Ff 5 rfl ?_))
  refine f_take rfl rfl ?_
  refine f_val rfl rfl rfl (by intro _ w _; exact x_move (.int .i64 (gkE e L1.length (l.getD i default))) rfl w) ?_
  refine Ff 6 rfl ?_
  refine f_take rfl rfl ?_
  refine f_val rfl rfl rfl (by intro _ w _; exact x_move (.int .i64 (gkE e L2.length (l.getD i default))) rfl w) ?_
  refine Ff 7 rfl ?_
  refine f_take rfl rfl ?_
  refine f_val rfl rfl rfl (by intro t_ w hw; exact x_neq false rfl rfl (ntrue hgE) w) ?_
  refine Fv 8 rfl (fun t_ w hw => x_pick_f (.bool false) rfl rfl w) (Fv 9 rfl (fun _ w _ => x_move (.bool false) rfl w) (Ff 10 rfl ?_))
  refine f_take rfl rfl ?_
  refine f_val rfl rfl rfl (by intro _ w _; exact x_move (.pointer (pa g)) rfl w) ?_
  refine Ff 11 rfl ?_
  refine f_take rfl rfl ?_
  refine f_enter (args := #[.pointer (pa g)]) (v := .int .i64 e68) rfl rfl rfl (x_call pl_19 [.pointer (pa g)] rfl) (fun t_ w hw => GtA_Epoch g e68 L67 (i := 10) rfl hw) ?_
  refine Ff 12 rfl ?_
  refine f_take rfl rfl ?_
  refine f_val rfl rfl rfl (by intro _ w _; exact x_move (.pointer (pa bk13)) rfl w) ?_
  refine Ff 13 rfl ?_
  refine f_take rfl rfl ?_
  refine f_val rfl rfl rfl t54 ?_
  refine Ff 14 rfl ?_
  refine f_take rfl rfl ?_
  refine f_val rfl rfl rfl (by intro t_ w hw; exact x_fieldAddr 44 0 0 0 2 rfl fi_44_0 rfl w) ?_
  refine Ff 15 rfl ?_
  refine f_take rfl rfl ?_
  refine f_val rfl rfl rfl (by intro t_ w hw; exact x_load (.int .i64 e68) ag_2 rfl (hw.blk_at (i := 0) rfl) rfl) ?_
  refine Ff 16 rfl ?_
  refine f_take rfl rfl ?_
  refine f_val rfl rfl rfl (by intro t_ w hw; exact x_neq false rfl rfl (ntrue rfl) w) ?_
  refine Fv 17 rfl (fun t_ w hw => x_pick_f (.bool false) rfl rfl w) (Fv 18 rfl (fun _ w _ => x_move (.bool false) rfl w) (Ff 19 rfl ?_))
  refine f_take rfl rfl ?_
  refine f_val rfl rfl rfl (by intro _ w _; exact x_move (.pointer (pa g)) rfl w) ?_
  refine Ff 20 rfl ?_
  refine f_take rfl rfl ?_
  refine f_enter (args := #[.pointer (pa g)]) (v := .int .i64 (L67.length : Int)) rfl rfl rfl (x_call pl_20 [.pointer (pa g)] rfl) (fun t_ w hw => GtA_Waiting g e68 L67 (i := 10) rfl hw) ?_
  refine Ff 21 rfl ?_
  refine f_take rfl rfl ?_
  refine f_val rfl rfl rfl (by intro _ w _; exact x_move (.pointer (pa bk13)) rfl w) ?_
  refine Ff 22 rfl ?_
  refine f_take rfl rfl ?_
  refine f_val rfl rfl rfl t54 ?_
  refine Ff 23 rfl ?_
  refine f_take rfl rfl ?_
  refine f_val rfl rfl rfl (by intro t_ w hw; exact x_fieldAddr 44 1 1 1 38 rfl fi_44_1 rfl w) ?_
  refine Ff 24 rfl ?_
  refine f_take rfl rfl ?_
  refine f_val rfl rfl rfl (by intro t_ w hw; exact x_load (.slice pp86 L75.length cc87) ag_38 rfl (hw.blk_at (i := 0) rfl) rfl) ?_
  refine Ff 25 rfl ?_
  refine f_take rfl rfl ?_
  refine f_val rfl rfl rfl (by intro t_ w hw; exact x_len L75.length rfl ⟨_, un_38⟩ w) ?_
  refine Ff 26 rfl ?_
  refine f_take rfl rfl ?_
  refine f_val rfl rfl rfl (by intro t_ w hw; exact x_neq false rfl rfl (ntrue t0) w) ?_
  refine Fv 27 rfl (fun t_ w hw => x_pick_f (.bool false) rfl rfl w) (Fv 28 rfl (fun _ w _ => x_move (.bool false) rfl w) (Ff 29 rfl ?_))
  refine f_take rfl rfl ?_
  refine f_val rfl rfl rfl (by intro _ w _; exact x_move (.pointer (pa g)) rfl w) ?_
  refine Ff 31 rfl ?_
  refine f_take rfl rfl ?_
  refine f_val rfl rfl rfl (by intro _ w _; exact x_move (.pointer (pa bk13)) rfl w) ?_
  refine Ff 32 rfl ?_
  refine f_take rfl rfl ?_
  refine f_val rfl rfl rfl t54 ?_
  refine Ff 33 rfl ?_
  refine f_take rfl rfl ?_
  refine f_val rfl rfl rfl (by intro t_ w hw; exact x_fieldAddr 44 1 1 1 38 rfl fi_44_1 rfl w) ?_
  refine Ff 34 rfl ?_
  refine f_take rfl rfl ?_
  refine f_val rfl rfl rfl (by intro t_ w hw; exact x_load (.slice pp86 L75.length cc87) ag_38 rfl (hw.blk_at (i := 0) rfl) rfl) ?_
  refine f_all (rs := [30]) t5 t13 ?_
  refine a_cons ⟨_, rfl, ?_⟩ (fun x hx => absurd hx t13)
  intro w95 H96
  try dsimp only at H96
  refine r_take rfl rfl ?_
  refine s_call [.pointer (pa g)] pl_22 rfl rfl (GtA_All g e68 L67 t0 hok1 (i := 10) rfl H96) ?_
  rintro _ w102 ⟨bk97, M98, pp99, cc100, rfl, hM101, H103⟩
  have H104 : St W w102 (_ :: _ :: _ :: _ :: _ :: _ :: _ :: _ :: _ :: _ :: _ :: _ :: _ :: _ :: _ :: _ :: _ :: _ :: _ :: F) := (H103.mv [2, 2, 2, 18, 18])
  have H105 : St W w102 (_ :: _ :: _ :: _ :: _ :: _ :: _ :: _ :: _ :: _ :: _ :: _ :: _ :: _ :: _ :: _ :: _ :: _ :: _ :: F) := (H104.mv [18, 18, 18, 18, 18])
  have H106 : St W w102 (_ :: _ :: _ :: _ :: _ :: _ :: _ :: _ :: _ :: _ :: _ :: _ :: _ :: _ :: _ :: _ :: _ :: _ :: _ :: F) := (H105.mv [18, 18, 18, 18, 18])
  have H107 : St W w102 (_ :: _ :: _ :: _ :: _ :: _ :: _ :: _ :: _ :: _ :: _ :: _ :: _ :: _ :: _ :: _ :: _ :: _ :: _ :: F) := (H106.mv [18, 18, 18, 18])
  refine ⟨imm bk97 (.cells #[.slice pp99 M98.length cc100] 38 (0, 0)) :: Im 6 (.slice pp99 M98.length cc100) M98.length (M98.flatMap itCell) :: itsA M98 :: F, ?_, H107⟩
  change FReg _ _ _ _ _ #[true, true, true, true, true, true, true, true, true, true, true, true, true, true, true, true, true, true, true, true, true, true, true, true, true, true, true, true, true, true, true, true, true, true, true, false, false, false] _ _
  refine f_all (rs := [35]) t5 t13 ?_
  refine a_cons ⟨_, rfl, ?_⟩ (fun x hx => absurd hx t13)
  intro w108 H109
  try dsimp only at H109
  refine r_take rfl rfl ?_
  refine s_call [.func (.func 59) #[] #[.pointer (pa bk97)], .slice pp86 L75.length cc87] pl_21 rfl rfl (told_ bk97 M98 L75 pp99 cc100 (.slice pp86 L75.length cc87) (hM101.trans hv2) (ok_of hM101 hok1) (i1 := 16) rfl (i2 := 17) rfl (i3 := 18) rfl (j := 1) rfl (k := 2) rfl H109) ?_
  rintro _ w110 ⟨rfl, H111⟩
  refine ⟨imm bk97 (.cells #[.slice pp99 M98.length cc100] 38 (0, 0)) :: Im 6 (.slice pp99 M98.length cc100) M98.length (M98.flatMap itCell) :: itsA M98 :: F, ?_, H111⟩
  change FReg _ _ _ _ _ #[true, true, true, true, true, true, true, true, true, true, true, true, true, true, true, true, true, true, true, true, true, true, true, true, true, true, true, true, true, true, true, true, true, true, true, true, false, false] _ _
  refine Ff 36 rfl ?_
  refine f_take rfl rfl ?_
  refine f_val rfl rfl rfl (by intro t_ w hw; exact x_not true rfl false rfl w) ?_
  refine Fv 37 rfl (fun t_ w hw => x_pick_f (.bool false) rfl rfl w) ?_
  refine f_done t5 ?_
  intro w112 H113
  refine g_false rfl (g_skip (g_seq (g_region (Mv (.int .i64 (i : Int)) (Mv (.slice pp5 bs.length cc6) (rc (s_len bs.length rfl ⟨_, un_39⟩ rfl ?_)))))))
  by_cases hc114 : (i : Int) < (bs.length : Int)
  ·refine rc (s_lss true rfl rfl (dtrue hc114) rfl (Mv (.bool true) (Rt (Mw (.slice pp5 bs.length cc6) (Rt (Mw (.int .i64 (i : Int)) (Rt (s_indexAddr gA42 (off := oA43) (i : Int) 1 (oA43 + i * 1) (by exact congrArg (fun z_ => Value.slice z_ bs.length cc6) (hp48 t0)) rfl el_39 t0 rfl rfl (Rt (s_load (.bool (bs.getD i false)) ag_4 rfl (H113.imi_at (i := 11) rfl t0) (elem_cell (L := bs) (i := i) blc_len (hx49 t0) t0 false 0 t9 _ rfl) rfl (Pt (.bool (bs.getD i false)) (r_nil ?_))))))))))))
   by_cases hb115 : (bs.getD i false) = true
   ·refine g_true (congrArg Value.bool hb115) (g_seq (g_region (Mv (.pointer (pa g)) (rc (s_call [.pointer (pa g)] pl_23 rfl rfl (Gate_Bytes g e68 e68.toNat t0 t0 L67 hok1 t0 (i := 10) rfl H113) ?_)))))
    rintro _ w118 ⟨pp116, _, cc117, rfl, rfl, H119⟩
    refine Mv (.tuple #[.slice pp116 ((pkB (gbL e68.toNat (L67.map ItemD.v))).length) cc117, .int .i64 (pkE (gbL e68.toNat (L67.map ItemD.v)))]) (Ex (.slice pp116 ((pkB (gbL e68.toNat (L67.map ItemD.v))).length) cc117) (Ex (.int .i64 (pkE (gbL e68.toNat (L67.map ItemD.v)))) (Ag (.slice pp116 ((pkB (gbL e68.toNat (L67.map ItemD.v))).length) cc117) (Ag (.int .i64 (pkE (gbL e68.toNat (L67.map ItemD.v)))) (r_nil (g_seq (g_region (Mv (.pointer (pa bk13)) ?_))))))))
    have H120 : St W w118 (_ :: _ :: _ :: _ :: _ :: _ :: _ :: _ :: _ :: _ :: _ :: _ :: _ :: _ :: _ :: _ :: _ :: _ :: _ :: _ :: F) := (H119.mv [3, 3, 3])
    have H121 : St W w118 (GrA bk13 e68 L75 :: _ :: _ :: _ :: _ :: _ :: _ :: _ :: _ :: _ :: _ :: _ :: _ :: _ :: _ :: _ :: _ :: _ :: F) := St.shut_ex (pp86, cc87) (St.shut_star (ls := [_, _, _]) H120)
    refine rc (s_call [.pointer (pa bk13)] pl_24 rfl rfl (Ref_Bytes bk13 e68 e68.toNat t0 t0 L75 hok2 t0 (i := 0) rfl H121) ?_)
    rintro _ w124 ⟨pp122, _, cc123, rfl, rfl, H125⟩
    refine Mv (.tuple #[.slice pp122 ((pkB (gbL e68.toNat (L75.map ItemD.v))).length) cc123, .int .i64 (pkE (gbL e68.toNat (L75.map ItemD.v)))]) (Ex (.slice pp122 ((pkB (gbL e68.toNat (L75.map ItemD.v))).length) cc123) (Ex (.int .i64 (pkE (gbL e68.toNat (L75.map ItemD.v)))) (Ag (.slice pp122 ((pkB (gbL e68.toNat (L75.map ItemD.v))).length) cc123) (Ag (.int .i64 (pkE (gbL e68.toNat (L75.map ItemD.v)))) (r_nil (g_seq (g_seq (g_region ?_))))))))
    have hbe : decide ((pkB (gbL e68.toNat (L67.map ItemD.v))) = (pkB (gbL e68.toNat (L75.map ItemD.v)))) = true := by rw [hv2]; exact decide_eq_true rfl
    have hpe : pkE (gbL e68.toNat (L67.map ItemD.v)) = pkE (gbL e68.toNat (L75.map ItemD.v)) := by rw [hv2]
    refine Mv (.slice pp116 ((pkB (gbL e68.toNat (L67.map ItemD.v))).length) cc117) (Mv (.slice pp122 ((pkB (gbL e68.toNat (L75.map ItemD.v))).length) cc123) (rc (s_call [.slice pp116 ((pkB (gbL e68.toNat (L67.map ItemD.v))).length) cc117, .slice pp122 ((pkB (gbL e68.toNat (L75.map ItemD.v))).length) cc123] pl_12 rfl rfl (bytes_Equal _ _ _ _ _ _ (pkB (gbL e68.toNat (L67.map ItemD.v))) (pkB (gbL e68.toNat (L75.map ItemD.v))) RdA.row RdA.row (j := 2) rfl (k := 0) rfl H125) ?_)))
    rintro _ w126 ⟨rfl, H127⟩
    refine rc (s_not (decide ((pkB (gbL e68.toNat (L67.map ItemD.v))) = (pkB (gbL e68.toNat (L75.map ItemD.v))))) rfl false (by rw [hbe]; rfl) rfl (Mv (.bool false) (Rt (Mw (.int .i64 (pkE (gbL e68.toNat (L67.map ItemD.v)))) (Rt (Mw (.int .i64 (pkE (gbL e68.toNat (L75.map ItemD.v)))) (Rt (s_neq false rfl rfl (ntrue hpe) rfl (Pf (.bool false) (r_nil (g_false rfl (g_skip (g_seq (g_region (Mv (.int .i64 (pkE (gbL e68.toNat (L67.map ItemD.v)))) ?_)))))))))))))))
    by_cases hc128 : pkE (gbL e68.toNat (L67.map ItemD.v)) = 0
    ·refine rc (s_eql true rfl rfl (dtrue hc128) rfl (r_nil (g_true rfl (g_seq (g_region (Mv (.slice pp116 ((pkB (gbL e68.toNat (L67.map ItemD.v))).length) cc117) ?_))))))
     have H132 : St W w126 (Row 5 1 (.slice pp122 ((pkB (gbL e68.toNat (L75.map ItemD.v))).length) cc123) ((pkB (gbL e68.toNat (L75.map ItemD.v))).length) ((pkB (gbL e68.toNat (L75.map ItemD.v))).flatMap u8c) :: GrA bk13 e68 L75 :: Im 1 (.slice pp116 ((pkB (gbL e68.toNat (L67.map ItemD.v))).length) cc117) ((pkL (gbL e68.toNat (L67.map ItemD.v))).length) ((pkL (gbL e68.toNat (L67.map ItemD.v))).flatMap u8c) :: Im 6 (.slice pp77 O74.length cc78) O74.length (O74.flatMap itCell) :: itsA O74 :: Im 6 (.slice pp69 O66.length cc70) O66.length (O66.flatMap itCell) :: itsA O66 :: blk bk61 (.cells #[.int .i64 ((l.getD i default).op.v), .int .i64 ((l.getD i default).inp.v), .int .i64 ((l.getD i default).ep.v), .int .i64 ((l.getD i default).kind.v), .slice ((l.getD i default).p) ((l.getD i default).bs.length) ((l.getD i default).c), .int .i64 ((l.getD i default).t.v)] 26 (0, 0)) :: Im 6 (.slice ((l.getD i default).p) ((l.getD i default).bs.length) ((l.getD i default).c)) ((l.getD i default).bs.length) ((l.getD i default).bs.flatMap bndCell) :: bndsA ((l.getD i default).bs) :: GtA g e68 L67 :: imi (0 < bs.length) gA42 (.cells kA44 eA45 zA46) :: imi (0 < l.length) gA29 (.cells kA31 eA32 zA33) :: itsA l :: Im 1 (.slice pp5 bs.length cc6) bs.length (bs.flatMap blc) :: Im 6 (.slice pp1 l.length cc2) l.length (l.flatMap itCell) :: imm bk97 (.cells #[.slice pp99 M98.length cc100] 38 (0, 0)) :: Im 6 (.slice pp99 M98.length cc100) M98.length (M98.flatMap itCell) :: itsA M98 :: F) := by have h9 := Row.im H127 (i := 2) rfl; rw [pkB_yes hc128] at h9 ⊢; exact h9
     refine rc (s_call [.slice pp116 ((pkB (gbL e68.toNat (L67.map ItemD.v))).length) cc117] pl_25 rfl rfl (migrate_ParseGate (e68.toNat) (L67.map ItemD.v) (.slice pp116 ((pkB (gbL e68.toNat (L67.map ItemD.v))).length) cc117) hc128 t0 (by have h9 : ((e68.toNat : Nat) : Int) = e68 := t0; rw [h9]; exact hg1.2.2.2) t43 (m := 2) rfl H132) ?_)
     rintro _ w133 ⟨bk129, L130, rfl, hL131, H134⟩
     refine Mv (.tuple #[.pointer (pa bk129), .int .i64 0]) (Ex (.pointer (pa bk129)) (Ex (.int .i64 0) (Ag (.pointer (pa bk129)) (Ag (.int .i64 0) (r_nil (g_seq (g_region ?_)))))))
     have H135 : St W w133 (GtA bk129 e68 L130 :: Row 5 1 (.slice pp122 ((pkB (gbL e68.toNat (L75.map ItemD.v))).length) cc123) ((pkB (gbL e68.toNat (L75.map ItemD.v))).length) ((pkB (gbL e68.toNat (L75.map ItemD.v))).flatMap u8c) :: GrA bk13 e68 L75 :: Im 1 (.slice pp116 ((pkB (gbL e68.toNat (L67.map ItemD.v))).length) cc117) ((pkL (gbL e68.toNat (L67.map ItemD.v))).length) ((pkL (gbL e68.toNat (L67.map ItemD.v))).flatMap u8c) :: Im 6 (.slice pp77 O74.length cc78) O74.length (O74.flatMap itCell) :: itsA O74 :: Im 6 (.slice pp69 O66.length cc70) O66.length (O66.flatMap itCell) :: itsA O66 :: blk bk61 (.cells #[.int .i64 ((l.getD i default).op.v), .int .i64 ((l.getD i default).inp.v), .int .i64 ((l.getD i default).ep.v), .int .i64 ((l.getD i default).kind.v), .slice ((l.getD i default).p) ((l.getD i default).bs.length) ((l.getD i default).c), .int .i64 ((l.getD i default).t.v)] 26 (0, 0)) :: Im 6 (.slice ((l.getD i default).p) ((l.getD i default).bs.length) ((l.getD i default).c)) ((l.getD i default).bs.length) ((l.getD i default).bs.flatMap bndCell) :: bndsA ((l.getD i default).bs) :: GtA g e68 L67 :: imi (0 < bs.length) gA42 (.cells kA44 eA45 zA46) :: imi (0 < l.length) gA29 (.cells kA31 eA32 zA33) :: itsA l :: Im 1 (.slice pp5 bs.length cc6) bs.length (bs.flatMap blc) :: Im 6 (.slice pp1 l.length cc2) l.length (l.flatMap itCell) :: imm bk97 (.cells #[.slice pp99 M98.length cc100] 38 (0, 0)) :: Im 6 (.slice pp99 M98.length cc100) M98.length (M98.flatMap itCell) :: itsA M98 :: F) := by have h9 := H134; rw [show ((e68.toNat : Nat) : Int) = e68 from by omega] at h9; exact h9
     refine Mv (.int .i64 0) (rc (s_neq false rfl rfl (ntrue t9) rfl (Mv (.bool false) (Rt (Mw (.pointer (pa bk129)) (Rt (s_peql false un_40 rfl rfl rfl rfl (Pf (.bool false) (r_nil (g_false rfl (g_skip (g_inBlock (g_region (rc (s_add ((i : Int) + 1) rfl rfl (wi64 t0) rfl (Mv (.int .i64 ((i : Int) + 1)) (r_nil ?_)))))))))))))))))
     have H136 : St W w133 (_ :: _ :: _ :: _ :: _ :: _ :: _ :: _ :: _ :: _ :: _ :: _ :: _ :: _ :: _ :: _ :: F) := (H135.mv [16, 16, 16, 16, 16, 7, 6, 107, 107, 107, 107])
     have H137 : St W w133 (_ :: _ :: _ :: _ :: _ :: _ :: _ :: _ :: _ :: _ :: _ :: _ :: F) := (H136.mv [107, 107, 107, 107])
     have H138 : St W w133 (_ :: _ :: _ :: _ :: _ :: _ :: _ :: _ :: F) := (H137.mv [107, 107, 107, 107])
     have H139 : St W w133 (_ :: _ :: _ :: _ :: _ :: _ :: _ :: F) := (H138.drop 7 rfl)
     exact nx57 (i + 1, bk129, e68, L130, L75) _ _ ⟨t0, (hL131.trans hv2), (by rw [hL131]; exact hg1), H139⟩ t7 t1
    refine rc (s_eql false rfl rfl (dfalse hc128) rfl (r_nil (g_false rfl (g_skip (g_inBlock (g_region (rc (s_add ((i : Int) + 1) rfl rfl (wi64 t0) rfl (Mv (.int .i64 ((i : Int) + 1)) (r_nil ?_))))))))))
    have H140 : St W w126 (_ :: _ :: _ :: _ :: _ :: _ :: _ :: _ :: _ :: _ :: _ :: _ :: _ :: _ :: _ :: F) := (H127.mv [15, 15, 15, 15, 15, 6, 15, 107, 107, 107, 107])
    have H141 : St W w126 (_ :: _ :: _ :: _ :: _ :: _ :: _ :: _ :: _ :: _ :: _ :: F) := (H140.mv [107, 107, 107, 107])
    have H142 : St W w126 (_ :: _ :: _ :: _ :: _ :: _ :: _ :: F) := (H141.mv [107, 107, 107, 107])
    exact nx57 (i + 1, g, e68, L67, L75) _ _ ⟨t0, hv2, hg1, H142⟩ t7 t1
   have hb115 := eq_false_of_ne_true hb115
   refine g_false (congrArg Value.bool hb115) (g_seq (g_region (Mv (.pointer (pa g)) (rc (s_call [.pointer (pa g)] pl_26 rfl rfl (GtA_Clone g e68 L67 t0 (i := 10) rfl H113) ?_)))))
   rintro _ w144 ⟨bk143, rfl, H145⟩
   refine Ag (.pointer (pa bk143)) (r_nil (g_seq (g_region (Mv (.pointer (pa bk143)) (rc (s_pneq true un_40 rfl rfl rfl rfl (Mv (.bool true) (Rt (Mw (.int .i64 (i : Int)) (Rt (s_rem ((i : Int) % 2) rfl rfl t0 (tmod_pos t0) rfl (Rt ?_))))))))))))
   by_cases hc146 : (i : Int) % 2 = 1
   ·refine s_eql true rfl rfl (dtrue hc146) rfl (Pt (.bool true) (r_nil (g_true rfl (g_seq (g_region (Mv (.pointer (pa g)) (Mv (.pointer (pa g)) (rc (s_call [.pointer (pa g)] pl_19 rfl rfl (GtA_Epoch g e68 L67 (i := 11) rfl H145) ?_)))))))))
    rintro _ w147 ⟨rfl, H148⟩
    refine rc (s_build (cs := #[.int .i64 0, .int .i64 0, .int .i64 e68, .int .i64 3, .slice none 0 0, .int .i64 0]) t5 rfl ?_)
    have he8 : -9223372036854775808 ≤ e68 ∧ e68 ≤ 9223372036854775807 := by omega
    have H149 := bndsA_nil H148
    have H150 := Row.im (Row.nil_intro H149 121 6) (i := 0) rfl
    refine rc (s_call [.pointer (pa g), .agg #[.int .i64 0, .int .i64 0, .int .i64 e68, .int .i64 3, .slice none 0 0, .int .i64 0]] pl_16 rfl rfl (Gate_Take g e68 L67 (endI e68 he8) bsOk_nil t0 t0 t0 (i := 13) rfl (ip := 0) rfl (iq := 1) rfl H150) ?_)
    rintro _ w157 ⟨O151, L152, e153, pp154, cc155, rfl, hT156, H158⟩
    refine r_nil (g_region (Mv (.pointer (pa bk143)) (Ag (.pointer (pa bk143)) (r_nil (g_inBlock (g_region (rc (s_add ((i : Int) + 1) rfl rfl (wi64 t0) rfl (Mv (.int .i64 ((i : Int) + 1)) (r_nil ?_))))))))))
    have H159 : St W w157 (_ :: _ :: _ :: _ :: _ :: _ :: _ :: _ :: _ :: _ :: _ :: _ :: _ :: _ :: _ :: _ :: _ :: _ :: _ :: _ :: _ :: _ :: _ :: _ :: F) := (H158.mv [7, 7, 7])
    have H160 : St W w157 (GrA bk13 e68 L75 :: _ :: _ :: _ :: _ :: _ :: _ :: _ :: _ :: _ :: _ :: _ :: _ :: _ :: _ :: _ :: _ :: _ :: _ :: _ :: _ :: _ :: F) := St.shut_ex (pp86, cc87) (St.shut_star (ls := [_, _, _]) H159)
    have H161 : St W w157 (_ :: _ :: _ :: _ :: _ :: _ :: _ :: _ :: _ :: _ :: _ :: _ :: _ :: _ :: _ :: _ :: _ :: _ :: F) := (H160.mv [18, 18, 18, 18, 18, 5, 10, 107, 107, 107, 107])
    have H162 : St W w157 (_ :: _ :: _ :: _ :: _ :: _ :: _ :: _ :: _ :: _ :: _ :: _ :: _ :: _ :: F) := (H161.mv [107, 107, 107, 107])
    have H163 : St W w157 (_ :: _ :: _ :: _ :: _ :: _ :: _ :: _ :: _ :: _ :: F) := (H162.mv [107, 107, 107, 107])
    have H164 : St W w157 (_ :: _ :: _ :: _ :: _ :: _ :: _ :: F) := (H163.mv [107, 107, 107])
    exact nx57 (i + 1, bk143, e68, L67, L75) _ _ ⟨t0, hv2, hg1, H164⟩ t7 t1
   refine s_eql false rfl rfl (dfalse hc146) rfl (Pt (.bool false) (r_nil (g_false rfl (g_skip (g_inBlock (g_region (rc (s_add ((i : Int) + 1) rfl rfl (wi64 t0) rfl (Mv (.int .i64 ((i : Int) + 1)) (r_nil ?_))))))))))
   have H165 : St W w144 (_ :: _ :: _ :: _ :: _ :: _ :: _ :: _ :: _ :: _ :: _ :: _ :: _ :: _ :: _ :: _ :: _ :: _ :: _ :: _ :: F) := (H145.mv [3, 3, 3])
   have H166 : St W w144 (GrA bk13 e68 L75 :: _ :: _ :: _ :: _ :: _ :: _ :: _ :: _ :: _ :: _ :: _ :: _ :: _ :: _ :: _ :: _ :: _ :: F) := St.shut_ex (pp86, cc87) (St.shut_star (ls := [_, _, _]) H165)
   have H167 : St W w144 (_ :: _ :: _ :: _ :: _ :: _ :: _ :: _ :: _ :: _ :: _ :: _ :: _ :: _ :: F) := (H166.mv [14, 14, 14, 14, 14, 5, 14, 107, 107, 107, 107])
   have H168 : St W w144 (_ :: _ :: _ :: _ :: _ :: _ :: _ :: _ :: _ :: _ :: F) := (H167.mv [107, 107, 107, 107])
   have H169 : St W w144 (_ :: _ :: _ :: _ :: _ :: _ :: _ :: F) := (H168.mv [107, 107, 107])
   exact nx57 (i + 1, g, e68, L67, L75) _ _ ⟨t0, hv2, hg1, H169⟩ t7 t1
  refine rc (s_lss false rfl rfl (dfalse hc114) rfl (Mv (.bool false) (Rp (Rp (Rp (Rp (Pf (.bool false) (r_nil (g_false rfl (g_seq (g_region (Mv (.pointer (pa g)) (rc (s_call [.pointer (pa g)] pl_26 rfl rfl (GtA_Clone g e68 L67 t0 (i := 10) rfl H113) ?_))))))))))))))
  rintro _ w171 ⟨bk170, rfl, H172⟩
  refine Ag (.pointer (pa bk170)) (r_nil (g_seq (g_region (Mv (.pointer (pa bk170)) (rc (s_pneq true un_40 rfl rfl rfl rfl (Mv (.bool true) (Rt (Mw (.int .i64 (i : Int)) (Rt (s_rem ((i : Int) % 2) rfl rfl t0 (tmod_pos t0) rfl (Rt ?_))))))))))))
  by_cases hc173 : (i : Int) % 2 = 1
  ·refine s_eql true rfl rfl (dtrue hc173) rfl (Pt (.bool true) (r_nil (g_true rfl (g_seq (g_region (Mv (.pointer (pa g)) (Mv (.pointer (pa g)) (rc (s_call [.pointer (pa g)] pl_19 rfl rfl (GtA_Epoch g e68 L67 (i := 11) rfl H172) ?_)))))))))
   rintro _ w174 ⟨rfl, H175⟩
   refine rc (s_build (cs := #[.int .i64 0, .int .i64 0, .int .i64 e68, .int .i64 3, .slice none 0 0, .int .i64 0]) t5 rfl ?_)
   have he8 : -9223372036854775808 ≤ e68 ∧ e68 ≤ 9223372036854775807 := by omega
   have H176 := bndsA_nil H175
   have H177 := Row.im (Row.nil_intro H176 121 6) (i := 0) rfl
   refine rc (s_call [.pointer (pa g), .agg #[.int .i64 0, .int .i64 0, .int .i64 e68, .int .i64 3, .slice none 0 0, .int .i64 0]] pl_16 rfl rfl (Gate_Take g e68 L67 (endI e68 he8) bsOk_nil t0 t0 t0 (i := 13) rfl (ip := 0) rfl (iq := 1) rfl H177) ?_)
   rintro _ w184 ⟨O178, L179, e180, pp181, cc182, rfl, hT183, H185⟩
   refine r_nil (g_region (Mv (.pointer (pa bk170)) (Ag (.pointer (pa bk170)) (r_nil (g_inBlock (g_region (rc (s_add ((i : Int) + 1) rfl rfl (wi64 t0) rfl (Mv (.int .i64 ((i : Int) + 1)) (r_nil ?_))))))))))
   have H186 : St W w184 (_ :: _ :: _ :: _ :: _ :: _ :: _ :: _ :: _ :: _ :: _ :: _ :: _ :: _ :: _ :: _ :: _ :: _ :: _ :: _ :: _ :: _ :: _ :: _ :: F) := (H185.mv [7, 7, 7])
   have H187 : St W w184 (GrA bk13 e68 L75 :: _ :: _ :: _ :: _ :: _ :: _ :: _ :: _ :: _ :: _ :: _ :: _ :: _ :: _ :: _ :: _ :: _ :: _ :: _ :: _ :: _ :: F) := St.shut_ex (pp86, cc87) (St.shut_star (ls := [_, _, _]) H186)
   have H188 : St W w184 (_ :: _ :: _ :: _ :: _ :: _ :: _ :: _ :: _ :: _ :: _ :: _ :: _ :: _ :: _ :: _ :: _ :: _ :: F) := (H187.mv [18, 18, 18, 18, 18, 5, 10, 107, 107, 107, 107])
   have H189 : St W w184 (_ :: _ :: _ :: _ :: _ :: _ :: _ :: _ :: _ :: _ :: _ :: _ :: _ :: _ :: F) := (H188.mv [107, 107, 107, 107])
   have H190 : St W w184 (_ :: _ :: _ :: _ :: _ :: _ :: _ :: _ :: _ :: _ :: F) := (H189.mv [107, 107, 107, 107])
   have H191 : St W w184 (_ :: _ :: _ :: _ :: _ :: _ :: _ :: F) := (H190.mv [107, 107, 107])
   exact nx57 (i + 1, bk170, e68, L67, L75) _ _ ⟨t0, hv2, hg1, H191⟩ t7 t1
  refine s_eql false rfl rfl (dfalse hc173) rfl (Pt (.bool false) (r_nil (g_false rfl (g_skip (g_inBlock (g_region (rc (s_add ((i : Int) + 1) rfl rfl (wi64 t0) rfl (Mv (.int .i64 ((i : Int) + 1)) (r_nil ?_))))))))))
  have H192 : St W w171 (_ :: _ :: _ :: _ :: _ :: _ :: _ :: _ :: _ :: _ :: _ :: _ :: _ :: _ :: _ :: _ :: _ :: _ :: _ :: _ :: F) := (H172.mv [3, 3, 3])
  have H193 : St W w171 (GrA bk13 e68 L75 :: _ :: _ :: _ :: _ :: _ :: _ :: _ :: _ :: _ :: _ :: _ :: _ :: _ :: _ :: _ :: _ :: _ :: F) := St.shut_ex (pp86, cc87) (St.shut_star (ls := [_, _, _]) H192)
  have H194 : St W w171 (_ :: _ :: _ :: _ :: _ :: _ :: _ :: _ :: _ :: _ :: _ :: _ :: _ :: _ :: F) := (H193.mv [14, 14, 14, 14, 14, 5, 14, 107, 107, 107, 107])
  have H195 : St W w171 (_ :: _ :: _ :: _ :: _ :: _ :: _ :: _ :: _ :: _ :: F) := (H194.mv [107, 107, 107, 107])
  have H196 : St W w171 (_ :: _ :: _ :: _ :: _ :: _ :: _ :: F) := (H195.mv [107, 107, 107])
  exact nx57 (i + 1, g, e68, L67, L75) _ _ ⟨t0, hv2, hg1, H196⟩ t7 t1
 refine rc (s_lss false rfl rfl (dfalse hc58) rfl (r_nil (g_seq (g_false rfl (g_exit t39 (g_seq (g_region (Ag (.bool true) (r_nil (Gr [.bool true] Tryz.func4 Tryz.results4 ?_))))))))))
 have H197 : St W w55 F := (H56.mv [100, 100, 100, 100, 100, 100, 100])
 exact ⟨rfl, H197⟩
end Sl
