/- Walks of the program's functions. Printed by a program of this claim's author. No condition. -/
import Derived.Test.YteogdknlofcpiaaGreatSlBA
import Derived.Test.YteogdknlofcpiaaGreatSlDB
import Derived.Test.YteogdknlofcpiaaGreatSlQ
import Derived.Test.YteogdknlofcpiaaGreatSlR
import Derived.Test.YteogdknlofcpiaaGreatSlP
import Derived.Test.YteogdknlofcpiaaGreatSlI
import Derived.Test.YteogdknlofcpiaaGreatSlAF
import Derived.Test.YteogdknlofcpiaaGreatSlDK
import Derived.Test.YteogdknlofcpiaaGreatSlDL
import Derived.Test.YteogdknlofcpiaaGreatSlDS
import Derived.Test.YteogdknlofcpiaaGreatSlDM
import Derived.Test.YteogdknlofcpiaaGreatSlDN
import Derived.Test.YteogdknlofcpiaaGreatSlDT
import Derived.Test.YteogdknlofcpiaaGreatSlZC
import Derived.Test.YteogdknlofcpiaaGreatProg
import Derived.Test.YteogdknlofcpiaaGreatWalkMigrateGates1
namespace Sl
open _root_.Go _root_.Go.RowKit _root_.Go.Proofs
set_option linter.all false
set_option maxHeartbeats 4000000
set_option maxRecDepth 100000
variable {W w : World} {F : List Atom}
theorem time3g (g : Nat) (x y z : Int) (H : St W w (blk g (.cells #[.int .i64 x, .int .i64 y, .int .i64 z] 2 (0, 0)) :: F)) : Calls Tryz.prog 47 #[.slice (pa g) 3 3] w (Ret fun v w' => v = .bool (t3B x y z) ∧ St W w' (blk g (.cells #[.int .i64 x, .int .i64 y, .int .i64 z] 2 (0, 0)) :: F)) := by
 refine calls_of_go (n := 18) Tryz.func47 rfl Tryz.ntmps47 rfl ?_
 refine g_seq (g_region (Ag (.bool false) (r_nil (g_seq (g_seq (g_region (Mv (.slice (pa g) 3 3) (rc (s_len 3 rfl ⟨_, un_130⟩ rfl (Mv (.int .i64 0) (r_nil (g_block ?_))))))))))))
 refine g_loop ?_
 refine g_seq (g_region (rc (s_lss true rfl rfl (dtrue t9) rfl (r_nil (g_seq (g_true rfl (g_skip (g_seq (g_block (g_seq (g_region (rc (s_indexAddr g 0 1 0 rfl rfl el_130 t0 rfl rfl (Lo (.int .i64 x) ag_2 H 0 (Ag (.int .i64 x) (r_nil (g_seq (g_region (Mv (.int .i64 x) ?_)))))))))))))))))))
 by_cases hc1 : x < 0
 ·refine rc (s_lss true rfl rfl (dtrue hc1) rfl (Mv (.bool true) (Rp (Rp (Pt (.bool true) (r_nil (g_true rfl (g_seq (g_region (Ag (.bool false) (r_nil (Gr [.bool false] Tryz.func47 Tryz.results47 ?_))))))))))))
  have H2 : St W w (_ :: F) := H
  exact ⟨congrArg Value.bool t29, H2⟩
 refine rc (s_lss false rfl rfl (dfalse hc1) rfl (Mv (.bool false) (Rt (Mw (.int .i64 x) (Rt ?_)))))
 by_cases hc3 : (1099511627776 : Int) < x
 ·refine s_gtr true rfl rfl (dtrue hc3) rfl (Pf (.bool true) (r_nil (g_true rfl (g_seq (g_region (Ag (.bool false) (r_nil (Gr [.bool false] Tryz.func47 Tryz.results47 ?_))))))))
  have H4 : St W w (_ :: F) := H
  exact ⟨congrArg Value.bool t29, H4⟩
 refine s_gtr false rfl rfl (dfalse hc3) rfl (Pf (.bool false) (r_nil (g_false rfl (g_skip (g_inBlock (g_region (rc (s_add 1 rfl rfl (wi64 t0) rfl (Mv (.int .i64 1) (r_nil (g_inLoop (g_seq (g_region (rc (s_lss true rfl rfl (dtrue t9) rfl (r_nil (g_seq (g_true rfl (g_skip (g_seq (g_block (g_seq (g_region (rc (s_indexAddr g 1 1 1 rfl rfl el_130 t0 rfl rfl (Lo (.int .i64 y) ag_2 H 0 (Ag (.int .i64 y) (r_nil (g_seq (g_region (Mv (.int .i64 y) ?_)))))))))))))))))))))))))))))))
 by_cases hc5 : y < 0
 ·refine rc (s_lss true rfl rfl (dtrue hc5) rfl (Mv (.bool true) (Rp (Rp (Pt (.bool true) (r_nil (g_true rfl (g_seq (g_region (Ag (.bool false) (r_nil (Gr [.bool false] Tryz.func47 Tryz.results47 ?_))))))))))))
  have H6 : St W w (_ :: F) := H
  exact ⟨congrArg Value.bool t29, H6⟩
 refine rc (s_lss false rfl rfl (dfalse hc5) rfl (Mv (.bool false) (Rt (Mw (.int .i64 y) (Rt ?_)))))
 by_cases hc7 : (1099511627776 : Int) < y
 ·refine s_gtr true rfl rfl (dtrue hc7) rfl (Pf (.bool true) (r_nil (g_true rfl (g_seq (g_region (Ag (.bool false) (r_nil (Gr [.bool false] Tryz.func47 Tryz.results47 ?_))))))))
  have H8 : St W w (_ :: F) := H
  exact ⟨congrArg Value.bool t29, H8⟩
 refine s_gtr false rfl rfl (dfalse hc7) rfl (Pf (.bool false) (r_nil (g_false rfl (g_skip (g_inBlock (g_region (rc (s_add 2 rfl rfl (wi64 t0) rfl (Mv (.int .i64 2) (r_nil (g_inLoop (g_seq (g_region (rc (s_lss true rfl rfl (dtrue t9) rfl (r_nil (g_seq (g_true rfl (g_skip (g_seq (g_block (g_seq (g_region (rc (s_indexAddr g 2 1 2 rfl rfl el_130 t0 rfl rfl (Lo (.int .i64 z) ag_2 H 0 (Ag (.int .i64 z) (r_nil (g_seq (g_region (Mv (.int .i64 z) ?_)))))))))))))))))))))))))))))))
 by_cases hc9 : z < 0
 ·refine rc (s_lss true rfl rfl (dtrue hc9) rfl (Mv (.bool true) (Rp (Rp (Pt (.bool true) (r_nil (g_true rfl (g_seq (g_region (Ag (.bool false) (r_nil (Gr [.bool false] Tryz.func47 Tryz.results47 ?_))))))))))))
  have H10 : St W w (_ :: F) := H
  exact ⟨congrArg Value.bool t29, H10⟩
 refine rc (s_lss false rfl rfl (dfalse hc9) rfl (Mv (.bool false) (Rt (Mw (.int .i64 z) (Rt ?_)))))
 by_cases hc11 : (1099511627776 : Int) < z
 ·refine s_gtr true rfl rfl (dtrue hc11) rfl (Pf (.bool true) (r_nil (g_true rfl (g_seq (g_region (Ag (.bool false) (r_nil (Gr [.bool false] Tryz.func47 Tryz.results47 ?_))))))))
  have H12 : St W w (_ :: F) := H
  exact ⟨congrArg Value.bool t29, H12⟩
 refine s_gtr false rfl rfl (dfalse hc11) rfl (Pf (.bool false) (r_nil (g_false rfl (g_skip (g_inBlock (g_region (rc (s_add 3 rfl rfl (wi64 t0) rfl (Mv (.int .i64 3) (r_nil (g_inLoop (g_seq (g_region (rc (s_lss false rfl rfl (dfalse t9) rfl (r_nil (g_seq (g_false rfl (g_exit t39 (g_seq (g_region (Ag (.bool true) (r_nil (Gr [.bool true] Tryz.func47 Tryz.results47 ?_))))))))))))))))))))))))
 have H13 : St W w (_ :: F) := H
 exact ⟨congrArg Value.bool t29, H13⟩
theorem migrate_CheckItem (x : ItemD) {ip : Nat} (hp : F[ip]? = some (Im 6 (.slice x.p x.bs.length x.c) x.bs.length (x.bs.flatMap bndCell))) {iq : Nat} (hq : F[iq]? = some (bndsA x.bs)) (H : St W w F) : Calls Tryz.prog 10 #[.agg (itc x)] w (Ret fun v w' => v = .int .i64 (itE x) ∧ St W w' F) := by
 have H1 := (H.dup (i := ip + 0) t55 (Im_pers _ _ _ _)).dup (i := iq + 1) t51 (bndsA_pers _)
 have H2 : St W w (_ :: _ :: F) := H1
 refine calls_of_go (n := 55) Tryz.func10 rfl Tryz.ntmps10 rfl ?_
 refine g_seq (g_region (Bx H2 26 (itc x) (fun bk3 w4 H5 => Ag (.int .i64 0) (r_nil (g_seq (g_region (Fa 0 fi_26_0 rfl (Lo (.int .i64 x.op.v) ag_3 H5 0 (Fa 1 fi_26_1 rfl (Lo (.int .i64 x.inp.v) ag_3 H5 0 (Fa 2 fi_26_2 rfl (Lo (.int .i64 x.ep.v) ag_2 H5 0 (rc (s_buildSlice H5 1 3 (cs := #[.int .i64 x.op.v, .int .i64 x.inp.v, .int .i64 x.ep.v]) #[.int .i64 0] el_130 ze_2 t9 t9 t5 rfl (fun bk6 w7 H8 => rc (s_call [.slice (pa bk6) 3 3] pl_47 rfl rfl (time3g bk6 x.op.v x.inp.v x.ep.v H8) ?_))))))))))))))))
 rintro _ w9 ⟨rfl, H10⟩
 refine Ag (.bool (t3B x.op.v x.inp.v x.ep.v)) (r_nil (g_seq (g_seq (g_region (Fa 3 fi_26_3 rfl (Lo (.int .i64 x.kind.v) ag_3 H10 1 (r_nil (g_block (g_seq (g_region ?_))))))))))
 by_cases hc11 : x.kind.v = 1
 ·refine rc (s_eql true rfl rfl (dtrue hc11) rfl (Ag (.bool true) (r_nil (g_true rfl (g_seq (g_seq (g_region (Mv (.bool (t3B x.op.v x.inp.v x.ep.v)) (Mv (.bool (t3B x.op.v x.inp.v x.ep.v)) ?_)))))))))
  by_cases hb12 : (t3B x.op.v x.inp.v x.ep.v) = true
  ·refine Rh hb12 (s_fieldAddr 26 5 5 5 2 rfl fi_26_5 rfl rfl (Rh hb12 (s_load (.int .i64 x.t.v) ag_2 rfl (H10.blk_at (i := 1) rfl) rfl rfl (Rh hb12 ?_))))
   by_cases hc13 : x.t.v = 0
   ·refine s_eql true rfl rfl (dtrue hc13) rfl (rc (s_pick_t (.bool true) (by exact congrArg Value.bool hb12) rfl rfl (r_nil (g_true rfl (g_seq (g_region (Fa 4 fi_26_4 rfl (La [.slice x.p x.bs.length x.c] 1 ag_24 H10 1 (rc (s_call [.agg #[.slice x.p x.bs.length x.c]] pl_48 rfl rfl (match_Check x.bs _ (ip := 3) rfl (iq := 2) rfl H10) ?_))))))))))
    rintro _ w14 ⟨rfl, H15⟩
    refine Ag (.int .i64 (ptE x.bs)) (r_nil (Gr [.int .i64 (ptE x.bs)] Tryz.func10 Tryz.results10 ?_))
    have H16 : St W w14 F := (H15.mv [100, 100, 100, 100])
    exact ⟨vint (itE_1 t23 t0).symm, H16⟩
   refine s_eql false rfl rfl (dfalse hc13) rfl (rc (s_pick_t (.bool false) (by exact congrArg Value.bool hb12) rfl rfl (r_nil (g_false rfl (g_skip (g_seq (g_region (Ag (.int .i64 243) (r_nil (Gr [.int .i64 243] Tryz.func10 Tryz.results10 ?_))))))))))
   have H17 : St W w9 F := (H10.mv [100, 100, 100, 100])
   exact ⟨vint (itE_243 t3).symm, H17⟩
  have hb12 := eq_false_of_ne_true hb12
  refine Rq hb12 (Rq hb12 (Rq hb12 (rc (s_pick_f (.bool false) (by exact congrArg Value.bool hb12) rfl rfl (r_nil (g_false rfl (g_skip (g_seq (g_region (Ag (.int .i64 243) (r_nil (Gr [.int .i64 243] Tryz.func10 Tryz.results10 ?_))))))))))))
  have H18 : St W w9 F := (H10.mv [100, 100, 100, 100])
  exact ⟨vint (itE_243 t3).symm, H18⟩
 refine rc (s_eql false rfl rfl (dfalse hc11) rfl (Ag (.bool false) (r_nil (g_false rfl (g_seq (g_region ?_))))))
 by_cases hc19 : x.kind.v = 2
 ·refine rc (s_eql true rfl rfl (dtrue hc19) rfl (Ag (.bool true) (r_nil (g_true rfl (g_region (Mv (.bool (t3B x.op.v x.inp.v x.ep.v)) (Mv (.bool (t3B x.op.v x.inp.v x.ep.v)) ?_)))))))
  by_cases hb20 : (t3B x.op.v x.inp.v x.ep.v) = true
  ·refine Rh hb20 (s_fieldAddr 26 5 5 5 2 rfl fi_26_5 rfl rfl (Rh hb20 (s_load (.int .i64 x.t.v) ag_2 rfl (H10.blk_at (i := 1) rfl) rfl rfl (Rh hb20 ?_))))
   by_cases hc21 : (0 : Int) ≤ x.t.v
   ·refine s_geq true rfl rfl (dtrue hc21) rfl (rc (s_pick_t (.bool true) t45 rfl rfl (Mv (.bool true) (Rt (s_fieldAddr 26 5 5 5 2 rfl fi_26_5 rfl rfl (Rt (s_load (.int .i64 x.t.v) ag_2 rfl (H10.blk_at (i := 1) rfl) rfl rfl (Rt ?_))))))))
    by_cases hc22 : x.t.v ≤ 1099511627777
    ·refine s_leq true rfl rfl (dtrue hc22) rfl (Pt (.bool true) (Ag (.bool true) (r_nil (g_inBlock (g_seq (g_seq (g_region (Mv (.bool true) (rc (s_not true rfl false rfl rfl (Mv (.bool false) (Rt (s_fieldAddr 26 4 4 4 24 rfl fi_26_4 rfl rfl (Rt (s_fieldAddr 24 0 0 4 22 rfl fi_24_0 rfl rfl (Rt (s_load (.slice x.p x.bs.length x.c) ag_22 rfl (H10.blk_at (i := 1) rfl) rfl rfl (Rt (s_len x.bs.length rfl ⟨_, un_22⟩ rfl (Rt ?_))))))))))))))))))))
     by_cases hc23 : (0 : Int) < (x.bs.length : Int)
     ·refine s_gtr true rfl rfl (dtrue hc23) rfl (Pf (.bool true) (r_nil (g_true rfl (g_seq (g_region (Ag (.int .i64 243) (r_nil (Gr [.int .i64 243] Tryz.func10 Tryz.results10 ?_))))))))
      have H24 : St W w9 F := (H10.mv [100, 100, 100, 100])
      exact ⟨vint (itE_243 t3).symm, H24⟩
     refine s_gtr false rfl rfl (dfalse hc23) rfl (Pf (.bool false) (r_nil (g_false rfl (g_skip (g_seq (g_region (Ag (.int .i64 0) (r_nil (Gr [.int .i64 0] Tryz.func10 Tryz.results10 ?_)))))))))
     have H25 : St W w9 F := (H10.mv [100, 100, 100, 100])
     exact ⟨vint (itE_0 t23 t0).symm, H25⟩
    refine s_leq false rfl rfl (dfalse hc22) rfl (Pt (.bool false) (Ag (.bool false) (r_nil (g_inBlock (g_seq (g_seq (g_region (Mv (.bool false) (rc (s_not false rfl true rfl rfl (Mv (.bool true) (Rp (Rp (Rp (Rp (Rp (Pt (.bool true) (r_nil (g_true rfl (g_seq (g_region (Ag (.int .i64 243) (r_nil (Gr [.int .i64 243] Tryz.func10 Tryz.results10 ?_))))))))))))))))))))))))
    have H26 : St W w9 F := (H10.mv [100, 100, 100, 100])
    exact ⟨vint (itE_243 t3).symm, H26⟩
   refine s_geq false rfl rfl (dfalse hc21) rfl (rc (s_pick_t (.bool false) t45 rfl rfl (Mv (.bool false) (Rp (Rp (Rp (Pf (.bool false) (Ag (.bool false) (r_nil (g_inBlock (g_seq (g_seq (g_region (Mv (.bool false) (rc (s_not false rfl true rfl rfl (Mv (.bool true) (Rp (Rp (Rp (Rp (Rp (Pt (.bool true) (r_nil (g_true rfl (g_seq (g_region (Ag (.int .i64 243) (r_nil (Gr [.int .i64 243] Tryz.func10 Tryz.results10 ?_))))))))))))))))))))))))))))))
   have H27 : St W w9 F := (H10.mv [100, 100, 100, 100])
   exact ⟨vint (itE_243 t3).symm, H27⟩
  have hb20 := eq_false_of_ne_true hb20
  refine Rq hb20 (Rq hb20 (Rq hb20 (rc (s_pick_f (.bool false) t45 rfl rfl (Mv (.bool false) (Rp (Rp (Rp (Pf (.bool false) (Ag (.bool false) (r_nil (g_inBlock (g_seq (g_seq (g_region (Mv (.bool false) (rc (s_not false rfl true rfl rfl (Mv (.bool true) (Rp (Rp (Rp (Rp (Rp (Pt (.bool true) (r_nil (g_true rfl (g_seq (g_region (Ag (.int .i64 243) (r_nil (Gr [.int .i64 243] Tryz.func10 Tryz.results10 ?_))))))))))))))))))))))))))))))))
  have H28 : St W w9 F := (H10.mv [100, 100, 100, 100])
  exact ⟨vint (itE_243 t3).symm, H28⟩
 refine rc (s_eql false rfl rfl (dfalse hc19) rfl (Ag (.bool false) (r_nil (g_false rfl (g_seq (g_region ?_))))))
 by_cases hc29 : x.kind.v = 3
 ·refine rc (s_eql true rfl rfl (dtrue hc29) rfl (Ag (.bool true) (r_nil (g_true rfl (g_region (Mv (.bool (t3B x.op.v x.inp.v x.ep.v)) (Mv (.bool (t3B x.op.v x.inp.v x.ep.v)) ?_)))))))
  by_cases hb30 : (t3B x.op.v x.inp.v x.ep.v) = true
  ·refine Rh hb30 (s_fieldAddr 26 5 5 5 2 rfl fi_26_5 rfl rfl (Rh hb30 (s_load (.int .i64 x.t.v) ag_2 rfl (H10.blk_at (i := 1) rfl) rfl rfl (Rh hb30 ?_))))
   by_cases hc31 : x.t.v = 0
   ·refine s_eql true rfl rfl (dtrue hc31) rfl (rc (s_pick_t (.bool true) (by exact congrArg Value.bool hb30) rfl rfl (Ag (.bool true) (r_nil (g_inBlock (g_seq (g_seq (g_region (Mv (.bool true) (rc (s_not true rfl false rfl rfl (Mv (.bool false) (Rt (s_fieldAddr 26 4 4 4 24 rfl fi_26_4 rfl rfl (Rt (s_fieldAddr 24 0 0 4 22 rfl fi_24_0 rfl rfl (Rt (s_load (.slice x.p x.bs.length x.c) ag_22 rfl (H10.blk_at (i := 1) rfl) rfl rfl (Rt (s_len x.bs.length rfl ⟨_, un_22⟩ rfl (Rt ?_)))))))))))))))))))))
    by_cases hc32 : (0 : Int) < (x.bs.length : Int)
    ·refine s_gtr true rfl rfl (dtrue hc32) rfl (Pf (.bool true) (r_nil (g_true rfl (g_seq (g_region (Ag (.int .i64 243) (r_nil (Gr [.int .i64 243] Tryz.func10 Tryz.results10 ?_))))))))
     have H33 : St W w9 F := (H10.mv [100, 100, 100, 100])
     exact ⟨vint (itE_243 t3).symm, H33⟩
    refine s_gtr false rfl rfl (dfalse hc32) rfl (Pf (.bool false) (r_nil (g_false rfl (g_skip (g_seq (g_region (Ag (.int .i64 0) (r_nil (Gr [.int .i64 0] Tryz.func10 Tryz.results10 ?_)))))))))
    have H34 : St W w9 F := (H10.mv [100, 100, 100, 100])
    exact ⟨vint (itE_0 t23 t0).symm, H34⟩
   refine s_eql false rfl rfl (dfalse hc31) rfl (rc (s_pick_t (.bool false) (by exact congrArg Value.bool hb30) rfl rfl (Ag (.bool false) (r_nil (g_inBlock (g_seq (g_seq (g_region (Mv (.bool false) (rc (s_not false rfl true rfl rfl (Mv (.bool true) (Rp (Rp (Rp (Rp (Rp (Pt (.bool true) (r_nil (g_true rfl (g_seq (g_region (Ag (.int .i64 243) (r_nil (Gr [.int .i64 243] Tryz.func10 Tryz.results10 ?_)))))))))))))))))))))))))
   have H35 : St W w9 F := (H10.mv [100, 100, 100, 100])
   exact ⟨vint (itE_243 t3).symm, H35⟩
  have hb30 := eq_false_of_ne_true hb30
  refine Rq hb30 (Rq hb30 (Rq hb30 (rc (s_pick_f (.bool false) (by exact congrArg Value.bool hb30) rfl rfl (Ag (.bool false) (r_nil (g_inBlock (g_seq (g_seq (g_region (Mv (.bool false) (rc (s_not false rfl true rfl rfl (Mv (.bool true) (Rp (Rp (Rp (Rp (Rp (Pt (.bool true) (r_nil (g_true rfl (g_seq (g_region (Ag (.int .i64 243) (r_nil (Gr [.int .i64 243] Tryz.func10 Tryz.results10 ?_)))))))))))))))))))))))))))
  have H36 : St W w9 F := (H10.mv [100, 100, 100, 100])
  exact ⟨vint (itE_243 t3).symm, H36⟩
 refine rc (s_eql false rfl rfl (dfalse hc29) rfl (Ag (.bool false) (r_nil (g_false rfl (g_region (Ag (.bool false) (r_nil (g_inBlock (g_seq (g_seq (g_region (Mv (.bool false) (rc (s_not false rfl true rfl rfl (Mv (.bool true) (Rp (Rp (Rp (Rp (Rp (Pt (.bool true) (r_nil (g_true rfl (g_seq (g_region (Ag (.int .i64 243) (r_nil (Gr [.int .i64 243] Tryz.func10 Tryz.results10 ?_))))))))))))))))))))))))))))
 have H37 : St W w9 F := (H10.mv [100, 100, 100, 100])
 exact ⟨vint (itE_243 t3).symm, H37⟩
theorem ref24_CheckItem (x : ItemD) {ip : Nat} (hp : F[ip]? = some (Im 6 (.slice x.p x.bs.length x.c) x.bs.length (x.bs.flatMap bndCell))) {iq : Nat} (hq : F[iq]? = some (bndsA x.bs)) (H : St W w F) : Calls Tryz.prog 11 #[.agg (itc x)] w (Ret fun v w' => v = .int .i64 (itE x) ∧ St W w' F) := by
 have H1 := (H.dup (i := ip + 0) t55 (Im_pers _ _ _ _)).dup (i := iq + 1) t51 (bndsA_pers _)
 have H2 : St W w (_ :: _ :: F) := H1
 refine calls_of_go (n := 75) Tryz.func11 rfl Tryz.ntmps11 rfl ?_
 refine g_seq (g_region (Bx H2 26 (itc x) (fun bk3 w4 H5 => Ag (.int .i64 0) (r_nil (g_seq (g_seq (g_region (Fa 0 fi_26_0 rfl (Lo (.int .i64 x.op.v) ag_3 H5 0 (rc (s_call [.int .i64 x.op.v] pl_49 rfl rfl (ref24_time x.op.v H5) ?_)))))))))))
 rintro _ w6 ⟨rfl, H7⟩
 refine rc (s_not (timeB x.op.v) rfl (!(timeB x.op.v)) rfl rfl (Mv (.bool (!(timeB x.op.v))) ?_))
 by_cases hb8 : (!(timeB x.op.v)) = true
 ·refine Rq hb8 (Rq hb8 (Rq hb8 (Rq hb8 (rc (s_pick_t (.bool true) (by exact congrArg Value.bool hb8) rfl rfl (Mv (.bool true) (Rp (Rp (Rp (Rp (Pt (.bool true) (Mv (.bool true) (Rp (Rp (Rp (Rp (Rn (Rn (Rn (Rp (Rp (Rn (Rn (Rn (Rp (Pt (.bool true) (r_nil (g_true rfl (g_seq (g_region (Ag (.int .i64 243) (r_nil (Gr [.int .i64 243] Tryz.func11 Tryz.results11 ?_)))))))))))))))))))))))))))))))))
  have H9 : St W w6 F := (H7.mv [100, 100, 100])
  exact ⟨vint (itE_243 t3).symm, H9⟩
 have hb8 := eq_false_of_ne_true hb8
 refine Rh hb8 (s_fieldAddr 26 1 1 1 3 rfl fi_26_1 rfl rfl (Rh hb8 (s_load (.int .i64 x.inp.v) ag_3 rfl (H7.blk_at (i := 0) rfl) rfl rfl (Rh hb8 (s_call [.int .i64 x.inp.v] pl_49 rfl rfl (ref24_time x.inp.v H7) ?_)))))
 rintro _ w10 ⟨rfl, H11⟩
 refine Rh hb8 (s_not (timeB x.inp.v) rfl (!(timeB x.inp.v)) rfl rfl (rc (s_pick_f (.bool (!(timeB x.inp.v))) (by exact congrArg Value.bool hb8) rfl rfl (Mv (.bool (!(timeB x.inp.v))) ?_))))
 by_cases hb12 : (!(timeB x.inp.v)) = true
 ·refine Rq hb12 (Rq hb12 (Rq hb12 (Rq hb12 (rc (s_pick_t (.bool true) (by exact congrArg Value.bool hb12) rfl rfl (Mv (.bool true) (Rp (Rp (Rp (Rp (Rn (Rn (Rn (Rp (Rp (Rn (Rn (Rn (Rp (Pt (.bool true) (r_nil (g_true rfl (g_seq (g_region (Ag (.int .i64 243) (r_nil (Gr [.int .i64 243] Tryz.func11 Tryz.results11 ?_)))))))))))))))))))))))))))
  have H13 : St W w10 F := (H11.mv [100, 100, 100])
  exact ⟨vint (itE_243 t3).symm, H13⟩
 have hb12 := eq_false_of_ne_true hb12
 refine Rh hb12 (s_fieldAddr 26 2 2 2 2 rfl fi_26_2 rfl rfl (Rh hb12 (s_load (.int .i64 x.ep.v) ag_2 rfl (H11.blk_at (i := 0) rfl) rfl rfl (Rh hb12 (s_call [.int .i64 x.ep.v] pl_49 rfl rfl (ref24_time x.ep.v H11) ?_)))))
 rintro _ w14 ⟨rfl, H15⟩
 refine Rh hb12 (s_not (timeB x.ep.v) rfl (!(timeB x.ep.v)) rfl rfl (rc (s_pick_f (.bool (!(timeB x.ep.v))) (by exact congrArg Value.bool hb12) rfl rfl (Mv (.bool (!(timeB x.ep.v))) ?_))))
 by_cases hb16 : (!(timeB x.ep.v)) = true
 ·refine Rq hb16 (Rq hb16 (Rq hb16 (Rq hb16 (Rn (Rn (Rn (Rq hb16 (Rq hb16 (Rn (Rn (Rn (Rq hb16 (rc (s_pick_t (.bool true) (by exact congrArg Value.bool hb16) rfl rfl (r_nil (g_true rfl (g_seq (g_region (Ag (.int .i64 243) (r_nil (Gr [.int .i64 243] Tryz.func11 Tryz.results11 ?_)))))))))))))))))))))
  have H17 : St W w14 F := (H15.mv [100, 100, 100])
  exact ⟨vint (itE_243 t3).symm, H17⟩
 have hb16 := eq_false_of_ne_true hb16
 refine Rh hb16 (s_fieldAddr 26 3 3 3 3 rfl fi_26_3 rfl rfl (Rh hb16 (s_load (.int .i64 x.kind.v) ag_3 rfl (H15.blk_at (i := 0) rfl) rfl rfl (Rh hb16 ?_))))
 by_cases hc18 : x.kind.v = 1
 ·refine s_neq false rfl rfl (ntrue hc18) rfl (Rh hb16 (Mw (.bool false) (Rp (Rp (Rp (Rh hb16 (s_pick_f (.bool false) rfl rfl rfl (Rh hb16 (Mw (.bool false) (Rp (Rp (Rp (Rh hb16 (s_pick_f (.bool false) rfl rfl rfl (rc (s_pick_f (.bool false) (by exact congrArg Value.bool hb16) rfl rfl (r_nil (g_false rfl (g_skip (g_seq (g_seq (g_region (Fa 3 fi_26_3 rfl (Lo (.int .i64 x.kind.v) ag_3 H15 0 (rc (s_eql false rfl rfl (dfalse t0) rfl (Mv (.bool false) (Rp (Rp (Rp (Rp (Rn (Rn (Rn (Rp (Pf (.bool false) (Mv (.bool false) (Rt (s_fieldAddr 26 3 3 3 3 rfl fi_26_3 rfl rfl (Rt (s_load (.int .i64 x.kind.v) ag_3 rfl (H15.blk_at (i := 0) rfl) rfl rfl (Rt ?_))))))))))))))))))))))))))))))))))))))))))
  refine s_neq true rfl rfl (nfalse t0) rfl (Rt (Mw (.bool true) (Rt (s_fieldAddr 26 5 5 5 2 rfl fi_26_5 rfl rfl (Rt (s_load (.int .i64 x.t.v) ag_2 rfl (H15.blk_at (i := 0) rfl) rfl rfl (Rt ?_)))))))
  by_cases hc19 : x.t.v = 0
  ·refine s_neq false rfl rfl (ntrue hc19) rfl (Rt (s_pick_t (.bool false) rfl rfl rfl (Pf (.bool false) (Mv (.bool false) (Rt (s_fieldAddr 26 3 3 3 3 rfl fi_26_3 rfl rfl (Rt (s_load (.int .i64 x.kind.v) ag_3 rfl (H15.blk_at (i := 0) rfl) rfl rfl (Rt (s_neq false rfl rfl (ntrue t0) rfl (Rt (Mw (.bool false) (Rp (Rp (Rp (Rp (Rp (Rt (s_pick_f (.bool false) rfl rfl rfl (Pf (.bool false) (r_nil (g_false rfl (g_skip (g_seq (g_seq (g_region (Fa 3 fi_26_3 rfl (Lo (.int .i64 x.kind.v) ag_3 H15 0 (rc (s_eql true rfl rfl (dtrue t0) rfl (r_nil (g_true rfl (g_seq (g_region (Fa 4 fi_26_4 rfl (La [.slice x.p x.bs.length x.c] 1 ag_24 H15 0 (rc (s_call [.agg #[.slice x.p x.bs.length x.c]] pl_50 rfl rfl (ref10_Check x.bs _ (ip := 2) rfl (iq := 1) rfl H15) ?_))))))))))))))))))))))))))))))))))))))
   rintro _ w20 ⟨rfl, H21⟩
   refine Ag (.int .i64 (ptE x.bs)) (r_nil (Gr [.int .i64 (ptE x.bs)] Tryz.func11 Tryz.results11 ?_))
   have H22 : St W w20 F := (H21.mv [100, 100, 100])
   exact ⟨vint (itE_1 t23 t0).symm, H22⟩
  refine s_neq true rfl rfl (nfalse hc19) rfl (Rt (s_pick_t (.bool true) rfl rfl rfl (Pf (.bool true) (Mv (.bool true) (Rp (Rp (Rp (Rp (Rn (Rn (Rn (Rn (Rn (Rp (Pt (.bool true) (r_nil (g_true rfl (g_seq (g_region (Ag (.int .i64 243) (r_nil (Gr [.int .i64 243] Tryz.func11 Tryz.results11 ?_))))))))))))))))))))))
  have H23 : St W w14 F := (H15.mv [100, 100, 100])
  exact ⟨vint (itE_243 t3).symm, H23⟩
 refine s_neq true rfl rfl (nfalse hc18) rfl (Rh hb16 (Mw (.bool true) (Rt (s_fieldAddr 26 3 3 3 3 rfl fi_26_3 rfl rfl (Rt (s_load (.int .i64 x.kind.v) ag_3 rfl (H15.blk_at (i := 0) rfl) rfl rfl (Rt ?_)))))))
 by_cases hc24 : x.kind.v = 2
 ·refine s_neq false rfl rfl (ntrue hc24) rfl (Rh hb16 (s_pick_t (.bool false) rfl rfl rfl (Rh hb16 (Mw (.bool false) (Rp (Rp (Rp (Rh hb16 (s_pick_f (.bool false) rfl rfl rfl (rc (s_pick_f (.bool false) (by exact congrArg Value.bool hb16) rfl rfl (r_nil (g_false rfl (g_skip (g_seq (g_seq (g_region (Fa 3 fi_26_3 rfl (Lo (.int .i64 x.kind.v) ag_3 H15 0 (rc (s_eql true rfl rfl (dtrue t0) rfl (Mv (.bool true) (Rt (s_fieldAddr 26 5 5 5 2 rfl fi_26_5 rfl rfl (Rt (s_load (.int .i64 x.t.v) ag_2 rfl (H15.blk_at (i := 0) rfl) rfl rfl (Rt ?_)))))))))))))))))))))))))))
  by_cases hc25 : x.t.v < 0
  ·refine s_lss true rfl rfl (dtrue hc25) rfl (Rt (Mw (.bool true) (Rp (Rp (Rp (Rt (s_pick_t (.bool true) rfl rfl rfl (Pt (.bool true) (Mv (.bool true) (Rp (Rp (Rp (Rp (Rn (Rn (Rn (Rp (Pt (.bool true) (Mv (.bool true) (Rp (Rp (Rp (Rp (Rn (Rn (Rn (Rn (Rn (Rp (Pt (.bool true) (r_nil (g_true rfl (g_seq (g_region (Ag (.int .i64 243) (r_nil (Gr [.int .i64 243] Tryz.func11 Tryz.results11 ?_)))))))))))))))))))))))))))))))))))))
   have H26 : St W w14 F := (H15.mv [100, 100, 100])
   exact ⟨vint (itE_243 t3).symm, H26⟩
  refine s_lss false rfl rfl (dfalse hc25) rfl (Rt (Mw (.bool false) (Rt (s_fieldAddr 26 5 5 5 2 rfl fi_26_5 rfl rfl (Rt (s_load (.int .i64 x.t.v) ag_2 rfl (H15.blk_at (i := 0) rfl) rfl rfl (Rt ?_)))))))
  by_cases hc27 : (1099511627777 : Int) < x.t.v
  ·refine s_gtr true rfl rfl (dtrue hc27) rfl (Rt (s_pick_f (.bool true) rfl rfl rfl (Pt (.bool true) (Mv (.bool true) (Rp (Rp (Rp (Rp (Rn (Rn (Rn (Rp (Pt (.bool true) (Mv (.bool true) (Rp (Rp (Rp (Rp (Rn (Rn (Rn (Rn (Rn (Rp (Pt (.bool true) (r_nil (g_true rfl (g_seq (g_region (Ag (.int .i64 243) (r_nil (Gr [.int .i64 243] Tryz.func11 Tryz.results11 ?_))))))))))))))))))))))))))))))))
   have H28 : St W w14 F := (H15.mv [100, 100, 100])
   exact ⟨vint (itE_243 t3).symm, H28⟩
  refine s_gtr false rfl rfl (dfalse hc27) rfl (Rt (s_pick_f (.bool false) rfl rfl rfl (Pt (.bool false) (Mv (.bool false) (Rt (s_fieldAddr 26 3 3 3 3 rfl fi_26_3 rfl rfl (Rt (s_load (.int .i64 x.kind.v) ag_3 rfl (H15.blk_at (i := 0) rfl) rfl rfl (Rt (s_neq false rfl rfl (ntrue t0) rfl (Rt (Mw (.bool false) (Rp (Rp (Rp (Rt (s_pick_f (.bool false) rfl rfl rfl (Pf (.bool false) (Mv (.bool false) (Rt (s_fieldAddr 26 3 3 3 3 rfl fi_26_3 rfl rfl (Rt (s_load (.int .i64 x.kind.v) ag_3 rfl (H15.blk_at (i := 0) rfl) rfl rfl (Rt (s_neq true rfl rfl (nfalse t0) rfl (Rt (Mw (.bool true) (Rt (s_fieldAddr 26 4 4 4 24 rfl fi_26_4 rfl rfl (Rt (s_fieldAddr 24 0 0 4 22 rfl fi_24_0 rfl rfl (Rt (s_load (.slice x.p x.bs.length x.c) ag_22 rfl (H15.blk_at (i := 0) rfl) rfl rfl (Rt (s_len x.bs.length rfl ⟨_, un_22⟩ rfl (Rt ?_))))))))))))))))))))))))))))))))))))
  by_cases hc29 : (0 : Int) < (x.bs.length : Int)
  ·refine s_gtr true rfl rfl (dtrue hc29) rfl (Rt (s_pick_t (.bool true) rfl rfl rfl (Pf (.bool true) (r_nil (g_true rfl (g_seq (g_region (Ag (.int .i64 243) (r_nil (Gr [.int .i64 243] Tryz.func11 Tryz.results11 ?_))))))))))
   have H30 : St W w14 F := (H15.mv [100, 100, 100])
   exact ⟨vint (itE_243 t3).symm, H30⟩
  refine s_gtr false rfl rfl (dfalse hc29) rfl (Rt (s_pick_t (.bool false) rfl rfl rfl (Pf (.bool false) (r_nil (g_false rfl (g_skip (g_seq (g_seq (g_region (Fa 3 fi_26_3 rfl (Lo (.int .i64 x.kind.v) ag_3 H15 0 (rc (s_eql false rfl rfl (dfalse t0) rfl (r_nil (g_false rfl (g_skip (g_seq (g_region (Ag (.int .i64 0) (r_nil (Gr [.int .i64 0] Tryz.func11 Tryz.results11 ?_)))))))))))))))))))))
  have H31 : St W w14 F := (H15.mv [100, 100, 100])
  exact ⟨vint (itE_0 t23 t0).symm, H31⟩
 refine s_neq true rfl rfl (nfalse hc24) rfl (Rh hb16 (s_pick_t (.bool true) rfl rfl rfl (Rh hb16 (Mw (.bool true) (Rt (s_fieldAddr 26 3 3 3 3 rfl fi_26_3 rfl rfl (Rt (s_load (.int .i64 x.kind.v) ag_3 rfl (H15.blk_at (i := 0) rfl) rfl rfl (Rt ?_)))))))))
 by_cases hc32 : x.kind.v = 3
 ·refine s_neq false rfl rfl (ntrue hc32) rfl (Rh hb16 (s_pick_t (.bool false) rfl rfl rfl (rc (s_pick_f (.bool false) (by exact congrArg Value.bool hb16) rfl rfl (r_nil (g_false rfl (g_skip (g_seq (g_seq (g_region (Fa 3 fi_26_3 rfl (Lo (.int .i64 x.kind.v) ag_3 H15 0 (rc (s_eql false rfl rfl (dfalse t0) rfl (Mv (.bool false) (Rp (Rp (Rp (Rp (Rn (Rn (Rn (Rp (Pf (.bool false) (Mv (.bool false) (Rt (s_fieldAddr 26 3 3 3 3 rfl fi_26_3 rfl rfl (Rt (s_load (.int .i64 x.kind.v) ag_3 rfl (H15.blk_at (i := 0) rfl) rfl rfl (Rt (s_neq true rfl rfl (nfalse t0) rfl (Rt (Mw (.bool true) (Rt (s_fieldAddr 26 5 5 5 2 rfl fi_26_5 rfl rfl (Rt (s_load (.int .i64 x.t.v) ag_2 rfl (H15.blk_at (i := 0) rfl) rfl rfl (Rt ?_))))))))))))))))))))))))))))))))))))))
  by_cases hc33 : x.t.v = 0
  ·refine s_neq false rfl rfl (ntrue hc33) rfl (Rt (s_pick_t (.bool false) rfl rfl rfl (Pf (.bool false) (Mv (.bool false) (Rt (s_fieldAddr 26 3 3 3 3 rfl fi_26_3 rfl rfl (Rt (s_load (.int .i64 x.kind.v) ag_3 rfl (H15.blk_at (i := 0) rfl) rfl rfl (Rt (s_neq true rfl rfl (nfalse t0) rfl (Rt (Mw (.bool true) (Rt (s_fieldAddr 26 4 4 4 24 rfl fi_26_4 rfl rfl (Rt (s_fieldAddr 24 0 0 4 22 rfl fi_24_0 rfl rfl (Rt (s_load (.slice x.p x.bs.length x.c) ag_22 rfl (H15.blk_at (i := 0) rfl) rfl rfl (Rt (s_len x.bs.length rfl ⟨_, un_22⟩ rfl (Rt ?_)))))))))))))))))))))
   by_cases hc34 : (0 : Int) < (x.bs.length : Int)
   ·refine s_gtr true rfl rfl (dtrue hc34) rfl (Rt (s_pick_t (.bool true) rfl rfl rfl (Pf (.bool true) (r_nil (g_true rfl (g_seq (g_region (Ag (.int .i64 243) (r_nil (Gr [.int .i64 243] Tryz.func11 Tryz.results11 ?_))))))))))
    have H35 : St W w14 F := (H15.mv [100, 100, 100])
    exact ⟨vint (itE_243 t3).symm, H35⟩
   refine s_gtr false rfl rfl (dfalse hc34) rfl (Rt (s_pick_t (.bool false) rfl rfl rfl (Pf (.bool false) (r_nil (g_false rfl (g_skip (g_seq (g_seq (g_region (Fa 3 fi_26_3 rfl (Lo (.int .i64 x.kind.v) ag_3 H15 0 (rc (s_eql false rfl rfl (dfalse t0) rfl (r_nil (g_false rfl (g_skip (g_seq (g_region (Ag (.int .i64 0) (r_nil (Gr [.int .i64 0] Tryz.func11 Tryz.results11 ?_)))))))))))))))))))))
   have H36 : St W w14 F := (H15.mv [100, 100, 100])
   exact ⟨vint (itE_0 t23 t0).symm, H36⟩
  refine s_neq true rfl rfl (nfalse hc33) rfl (Rt (s_pick_t (.bool true) rfl rfl rfl (Pf (.bool true) (Mv (.bool true) (Rp (Rp (Rp (Rp (Rn (Rn (Rn (Rn (Rn (Rp (Pt (.bool true) (r_nil (g_true rfl (g_seq (g_region (Ag (.int .i64 243) (r_nil (Gr [.int .i64 243] Tryz.func11 Tryz.results11 ?_))))))))))))))))))))))
  have H37 : St W w14 F := (H15.mv [100, 100, 100])
  exact ⟨vint (itE_243 t3).symm, H37⟩
 refine s_neq true rfl rfl (nfalse hc32) rfl (Rh hb16 (s_pick_t (.bool true) rfl rfl rfl (rc (s_pick_f (.bool true) (by exact congrArg Value.bool hb16) rfl rfl (r_nil (g_true rfl (g_seq (g_region (Ag (.int .i64 243) (r_nil (Gr [.int .i64 243] Tryz.func11 Tryz.results11 ?_)))))))))))
 have H38 : St W w14 F := (H15.mv [100, 100, 100])
 exact ⟨vint (itE_243 t3).symm, H38⟩
theorem migrate_own (x : ItemD) (hok : bsOk x.bs) {ip : Nat} (hp : F[ip]? = some (Im 6 (.slice x.p x.bs.length x.c) x.bs.length (x.bs.flatMap bndCell))) {iq : Nat} (hq : F[iq]? = some (bndsA x.bs)) (H : St W w F) : Calls Tryz.prog 54 #[.agg (itc x)] w (Ret fun v w' => ∃ y : ItemD, v = .agg (itc y) ∧ y.v = x.v ∧ St W w' (BsA y :: bndsA y.bs :: F)) := by
 have H1 := (H.dup (i := ip + 0) t55 (Im_pers _ _ _ _)).dup (i := iq + 1) t51 (bndsA_pers _)
 have H2 : St W w (_ :: _ :: F) := H1
 refine calls_of_go (n := 8) Tryz.func54 rfl Tryz.ntmps54 rfl ?_
 refine g_seq (g_region (Bx H2 26 (itc x) (fun bk3 w4 H5 => rc (s_alloc H5 26 ze_26 rfl (fun bk6 w7 H8 => r_nil (g_seq (g_region (Fa 4 fi_26_4 rfl (La [.slice x.p x.bs.length x.c] 1 ag_24 H8 1 (rc (s_call [.agg #[.slice x.p x.bs.length x.c]] pl_91 rfl rfl (match_Clone x.bs _ hok.1 hok.2 (ip := 3) rfl (iq := 2) rfl H8) ?_)))))))))))
 rintro _ w13 ⟨L9, pp10, cc11, rfl, hM12, H14⟩
 refine Fa 4 fi_26_4 rfl (Sa H14 3 rfl #[.slice pp10 L9.length cc11] 1 sz_24 #[.int .i64 x.op.v, .int .i64 x.inp.v, .int .i64 x.ep.v, .int .i64 x.kind.v, .slice pp10 L9.length cc11, .int .i64 x.t.v] (fun w15 H16 => r_nil (g_seq (g_region (La [.int .i64 x.op.v, .int .i64 x.inp.v, .int .i64 x.ep.v, .int .i64 x.kind.v, .slice pp10 L9.length cc11, .int .i64 x.t.v] 6 ag_26 H16 3 (Sa H16 2 rfl #[.int .i64 x.op.v, .int .i64 x.inp.v, .int .i64 x.ep.v, .int .i64 x.kind.v, .slice pp10 L9.length cc11, .int .i64 x.t.v] 6 sz_26 #[.int .i64 x.op.v, .int .i64 x.inp.v, .int .i64 x.ep.v, .int .i64 x.kind.v, .slice pp10 L9.length cc11, .int .i64 x.t.v] (fun w17 H18 => r_nil ?_)))))))
 refine g_ret' [.agg #[.int .i64 x.op.v, .int .i64 x.inp.v, .int .i64 x.ep.v, .int .i64 x.kind.v, .slice pp10 L9.length cc11, .int .i64 x.t.v]] Tryz.func54 Tryz.results54 ⟨(res_cellN rfl ag_26 (H18.blk_at (i := 2) rfl) (nbl rfl) rfl), trivial⟩ ?_
 have H19 : St W w17 (_ :: _ :: F) := (H18.mv [1, 1, 102, 102, 102, 102])
 exact ⟨⟨x.op, x.inp, x.ep, x.kind, pp10, cc11, L9, x.t⟩, rfl, by unfold ItemD.v; rw [hM12], H19⟩
theorem ref24_Clone (x : ItemD) (hok : bsOk x.bs) {ip : Nat} (hp : F[ip]? = some (Im 6 (.slice x.p x.bs.length x.c) x.bs.length (x.bs.flatMap bndCell))) {iq : Nat} (hq : F[iq]? = some (bndsA x.bs)) (H : St W w F) : Calls Tryz.prog 56 #[.agg (itc x)] w (Ret fun v w' => ∃ y : ItemD, v = .agg (itc y) ∧ y.v = x.v ∧ St W w' (BsA y :: bndsA y.bs :: F)) := by
 have H1 := (H.dup (i := ip + 0) t55 (Im_pers _ _ _ _)).dup (i := iq + 1) t51 (bndsA_pers _)
 have H2 : St W w (_ :: _ :: F) := H1
 refine calls_of_go (n := 8) Tryz.func56 rfl Tryz.ntmps56 rfl ?_
 refine g_seq (g_region (Bx H2 26 (itc x) (fun bk3 w4 H5 => rc (s_alloc H5 26 ze_26 rfl (fun bk6 w7 H8 => r_nil (g_seq (g_region (Fa 4 fi_26_4 rfl (La [.slice x.p x.bs.length x.c] 1 ag_24 H8 1 (rc (s_call [.agg #[.slice x.p x.bs.length x.c]] pl_92 rfl rfl (ref10_Clone x.bs _ hok.1 hok.2 (ip := 3) rfl (iq := 2) rfl H8) ?_)))))))))))
 rintro _ w13 ⟨L9, pp10, cc11, rfl, hM12, H14⟩
 refine Fa 4 fi_26_4 rfl (Sa H14 3 rfl #[.slice pp10 L9.length cc11] 1 sz_24 #[.int .i64 x.op.v, .int .i64 x.inp.v, .int .i64 x.ep.v, .int .i64 x.kind.v, .slice pp10 L9.length cc11, .int .i64 x.t.v] (fun w15 H16 => r_nil (g_seq (g_region (La [.int .i64 x.op.v, .int .i64 x.inp.v, .int .i64 x.ep.v, .int .i64 x.kind.v, .slice pp10 L9.length cc11, .int .i64 x.t.v] 6 ag_26 H16 3 (Sa H16 2 rfl #[.int .i64 x.op.v, .int .i64 x.inp.v, .int .i64 x.ep.v, .int .i64 x.kind.v, .slice pp10 L9.length cc11, .int .i64 x.t.v] 6 sz_26 #[.int .i64 x.op.v, .int .i64 x.inp.v, .int .i64 x.ep.v, .int .i64 x.kind.v, .slice pp10 L9.length cc11, .int .i64 x.t.v] (fun w17 H18 => r_nil ?_)))))))
 refine g_ret' [.agg #[.int .i64 x.op.v, .int .i64 x.inp.v, .int .i64 x.ep.v, .int .i64 x.kind.v, .slice pp10 L9.length cc11, .int .i64 x.t.v]] Tryz.func56 Tryz.results56 ⟨(res_cellN rfl ag_26 (H18.blk_at (i := 2) rfl) (nbl rfl) rfl), trivial⟩ ?_
 have H19 : St W w17 (_ :: _ :: F) := (H18.mv [1, 1, 102, 102, 102, 102])
 exact ⟨⟨x.op, x.inp, x.ep, x.kind, pp10, cc11, L9, x.t⟩, rfl, by unfold ItemD.v; rw [hM12], H19⟩
theorem ref24_SameItem (x y : ItemD) {ip : Nat} (hp : F[ip]? = some (Im 6 (.slice x.p x.bs.length x.c) x.bs.length (x.bs.flatMap bndCell))) {iq : Nat} (hq : F[iq]? = some (bndsA x.bs)) {ip2 : Nat} (hp2 : F[ip2]? = some (Im 6 (.slice y.p y.bs.length y.c) y.bs.length (y.bs.flatMap bndCell))) {iq2 : Nat} (hq2 : F[iq2]? = some (bndsA y.bs)) (H : St W w F) : Calls Tryz.prog 13 #[.agg (itc x), .agg (itc y)] w (Ret fun v w' => v = .bool (sameIt x y) ∧ St W w' F) := by
 have H1 := (H.dup (i := ip + 0) t55 (Im_pers _ _ _ _)).dup (i := iq + 1) t51 (bndsA_pers _)
 have H2 : St W w (_ :: _ :: F) := H1
 have H3 := (H2.dup (i := ip2 + 2) (by exact hp2) (Im_pers _ _ _ _)).dup (i := iq2 + 3) (by exact hq2) (bndsA_pers _)
 have H4 : St W w (_ :: _ :: _ :: _ :: F) := H3
 refine calls_of_go (n := 45) Tryz.func13 rfl Tryz.ntmps13 rfl ?_
 refine g_seq (g_region (Bx H4 26 (itc x) (fun bk5 w6 H7 => Bx H7 26 (itc y) (fun bk8 w9 H10 => Ag (.bool false) (r_nil (g_seq (g_region (Fa 0 fi_26_0 rfl (Lo (.int .i64 x.op.v) ag_3 H10 1 (Fa 0 fi_26_0 rfl (Lo (.int .i64 y.op.v) ag_3 H10 0 ?_)))))))))))
 by_cases hc11 : x.op.v = y.op.v
 ·refine rc (s_eql true rfl rfl (dtrue hc11) rfl (Mv (.bool true) (Rt (s_fieldAddr 26 1 1 1 3 rfl fi_26_1 rfl rfl (Rt (s_load (.int .i64 x.inp.v) ag_3 rfl (H10.blk_at (i := 1) rfl) rfl rfl (Rt (s_fieldAddr 26 1 1 1 3 rfl fi_26_1 rfl rfl (Rt (s_load (.int .i64 y.inp.v) ag_3 rfl (H10.blk_at (i := 0) rfl) rfl rfl (Rt ?_)))))))))))
  by_cases hc12 : x.inp.v = y.inp.v
  ·refine s_eql true rfl rfl (dtrue hc12) rfl (Pt (.bool true) (Mv (.bool true) (Rt (s_fieldAddr 26 2 2 2 2 rfl fi_26_2 rfl rfl (Rt (s_load (.int .i64 x.ep.v) ag_2 rfl (H10.blk_at (i := 1) rfl) rfl rfl (Rt (s_fieldAddr 26 2 2 2 2 rfl fi_26_2 rfl rfl (Rt (s_load (.int .i64 y.ep.v) ag_2 rfl (H10.blk_at (i := 0) rfl) rfl rfl (Rt ?_)))))))))))
   by_cases hc13 : x.ep.v = y.ep.v
   ·refine s_eql true rfl rfl (dtrue hc13) rfl (Pt (.bool true) (Mv (.bool true) (Rt (s_fieldAddr 26 3 3 3 3 rfl fi_26_3 rfl rfl (Rt (s_load (.int .i64 x.kind.v) ag_3 rfl (H10.blk_at (i := 1) rfl) rfl rfl (Rt (s_fieldAddr 26 3 3 3 3 rfl fi_26_3 rfl rfl (Rt (s_load (.int .i64 y.kind.v) ag_3 rfl (H10.blk_at (i := 0) rfl) rfl rfl (Rt ?_)))))))))))
    by_cases hc14 : x.kind.v = y.kind.v
    ·refine s_eql true rfl rfl (dtrue hc14) rfl (Pt (.bool true) (Mv (.bool true) (Rt (s_fieldAddr 26 5 5 5 2 rfl fi_26_5 rfl rfl (Rt (s_load (.int .i64 x.t.v) ag_2 rfl (H10.blk_at (i := 1) rfl) rfl rfl (Rt (s_fieldAddr 26 5 5 5 2 rfl fi_26_5 rfl rfl (Rt (s_load (.int .i64 y.t.v) ag_2 rfl (H10.blk_at (i := 0) rfl) rfl rfl (Rt ?_)))))))))))
     by_cases hc15 : x.t.v = y.t.v
     ·refine s_eql true rfl rfl (dtrue hc15) rfl (Pt (.bool true) (Mv (.bool true) (Rt (s_fieldAddr 26 4 4 4 24 rfl fi_26_4 rfl rfl (Rt (s_loadAgg [.slice x.p x.bs.length x.c] 1 ag_24 rfl (H10.blk_at (i := 1) rfl) (nbl rfl) rfl rfl (Rt (s_fieldAddr 26 4 4 4 24 rfl fi_26_4 rfl rfl (Rt (s_loadAgg [.slice y.p y.bs.length y.c] 1 ag_24 rfl (H10.blk_at (i := 0) rfl) (nbl rfl) rfl rfl (Rt (s_call [.agg #[.slice x.p x.bs.length x.c], .agg #[.slice y.p y.bs.length y.c]] pl_51 rfl rfl (ref10_Same x.bs y.bs _ _ (ip := 5) rfl (iq := 4) rfl (ip2 := 3) rfl (iq2 := 2) rfl H10) ?_))))))))))))
      rintro _ w16 ⟨rfl, H17⟩
      refine Pt (.bool (sameBs x.bs y.bs)) (Ag (.bool (sameBs x.bs y.bs)) (r_nil (Gr [.bool (sameBs x.bs y.bs)] Tryz.func13 Tryz.results13 ?_)))
      have H18 : St W w16 F := (H17.mv [100, 100, 100, 100, 100, 100])
      exact ⟨congrArg Value.bool (by rw [sameIt_eq]; simp_all), H18⟩
     refine s_eql false rfl rfl (dfalse hc15) rfl (Pt (.bool false) (Mv (.bool false) (Rp (Rp (Rp (Rp (Rp (Pf (.bool false) (Ag (.bool false) (r_nil (Gr [.bool false] Tryz.func13 Tryz.results13 ?_)))))))))))
     have H19 : St W w9 F := (H10.mv [100, 100, 100, 100, 100, 100])
     exact ⟨congrArg Value.bool t25, H19⟩
    refine s_eql false rfl rfl (dfalse hc14) rfl (Pt (.bool false) (Mv (.bool false) (Rp (Rp (Rp (Rp (Rp (Pf (.bool false) (Mv (.bool false) (Rp (Rp (Rp (Rp (Rp (Pf (.bool false) (Ag (.bool false) (r_nil (Gr [.bool false] Tryz.func13 Tryz.results13 ?_))))))))))))))))))
    have H20 : St W w9 F := (H10.mv [100, 100, 100, 100, 100, 100])
    exact ⟨congrArg Value.bool t25, H20⟩
   refine s_eql false rfl rfl (dfalse hc13) rfl (Pt (.bool false) (Mv (.bool false) (Rp (Rp (Rp (Rp (Rp (Pf (.bool false) (Mv (.bool false) (Rp (Rp (Rp (Rp (Rp (Pf (.bool false) (Mv (.bool false) (Rp (Rp (Rp (Rp (Rp (Pf (.bool false) (Ag (.bool false) (r_nil (Gr [.bool false] Tryz.func13 Tryz.results13 ?_)))))))))))))))))))))))))
   have H21 : St W w9 F := (H10.mv [100, 100, 100, 100, 100, 100])
   exact ⟨congrArg Value.bool t25, H21⟩
  refine s_eql false rfl rfl (dfalse hc12) rfl (Pt (.bool false) (Mv (.bool false) (Rp (Rp (Rp (Rp (Rp (Pf (.bool false) (Mv (.bool false) (Rp (Rp (Rp (Rp (Rp (Pf (.bool false) (Mv (.bool false) (Rp (Rp (Rp (Rp (Rp (Pf (.bool false) (Mv (.bool false) (Rp (Rp (Rp (Rp (Rp (Pf (.bool false) (Ag (.bool false) (r_nil (Gr [.bool false] Tryz.func13 Tryz.results13 ?_))))))))))))))))))))))))))))))))
  have H22 : St W w9 F := (H10.mv [100, 100, 100, 100, 100, 100])
  exact ⟨congrArg Value.bool t25, H22⟩
 refine rc (s_eql false rfl rfl (dfalse hc11) rfl (Mv (.bool false) (Rp (Rp (Rp (Rp (Rp (Pf (.bool false) (Mv (.bool false) (Rp (Rp (Rp (Rp (Rp (Pf (.bool false) (Mv (.bool false) (Rp (Rp (Rp (Rp (Rp (Pf (.bool false) (Mv (.bool false) (Rp (Rp (Rp (Rp (Rp (Pf (.bool false) (Mv (.bool false) (Rp (Rp (Rp (Rp (Rp (Pf (.bool false) (Ag (.bool false) (r_nil (Gr [.bool false] Tryz.func13 Tryz.results13 ?_)))))))))))))))))))))))))))))))))))))))
 have H23 : St W w9 F := (H10.mv [100, 100, 100, 100, 100, 100])
 exact ⟨congrArg Value.bool t25, H23⟩
theorem match_form (b : Nat) (L : List Bool) (bs : List BoundD) (bv : Value) (hpt : ptE bs = 0) (hroom : L.length + (ptB (bs.map BoundD.v)).length ≤ 1048576) {ip : Nat} (hp : F[ip]? = some (Im 6 bv bs.length (bs.flatMap bndCell))) {iq : Nat} (hq : F[iq]? = some (bndsA bs)) {i : Nat} (hi : F[i]? = some (SinkA b L)) (H : St W w F) : Calls Tryz.prog 69 #[.pointer (pa b), .agg #[bv]] w (Ret fun v w' => v = .tuple #[] ∧ St W w' (F.set i (SinkA b (L ++ (ptB (bs.map BoundD.v)))))) := by
 obtain ⟨pp1, cc2, rfl, hn3⟩ := Rd.shape (Im.rd H (i := ip) hp)
 have H4 := H.dup (i := ip + 0) t55 (Im_pers _ _ _ _)
 have H5 : St W w (_ :: F) := H4
 have H6 := H5.dup (i := iq + 1) t51 (bndsA_pers _)
 have H7 : St W w (_ :: _ :: F) := H6
 have H8 := H7.front (i := i + 2) t34
 have H9 : St W w (_ :: _ :: _ :: (F.set i emp)) := H8
 have hbl := bd_len hpt
 have hbp := ptB_len_le hpt
 have hp4 := ptB_ge (bs := bs)
 refine calls_of_go (n := 28) Tryz.func69 rfl Tryz.ntmps69 rfl ?_
 refine g_seq (g_region (Bx H9 24 #[.slice pp1 bs.length cc2] (fun bk10 w11 H12 => r_nil (g_seq (g_region (Mv (.pointer (pa b)) (Fa 0 fi_24_0 rfl (Lo (.slice pp1 bs.length cc2) ag_22 H12 0 (rc (s_len bs.length rfl ⟨_, un_22⟩ rfl (rc (s_conv ((bs.length : Nat) : Int) rfl us_3 ik_61 (wu64 t0) rfl (rc (s_call [.pointer (pa b), .int .u64 ((bs.length : Nat) : Int), .int .i64 4] pl_29 rfl rfl (Sink_Bits b L bs.length 4 t0 t2 (i := 1) rfl H12) ?_))))))))))))))
 rintro _ w13 ⟨rfl, H14⟩
 have hk15 : bitsE L bs.length 4 = 0 ∧ bitsL L bs.length 4 = L ++ lowB bs.length 4 := (by have hh := bits_ok (L := L) (u := bs.length) (n := 4) (fits_small (k := 4) rfl t9 t0) t21; exact hh)
 have H17 : St W w13 (blk bk10 (.cells #[.slice pp1 bs.length cc2] 24 (0, 0)) :: SinkA b (L ++ lowB bs.length 4) :: bndsA bs :: Im 6 (.slice pp1 bs.length cc2) bs.length (bs.flatMap bndCell) :: (F.set i emp)) := by rw [← hk15.2]; exact H14
 refine r_nil (g_seq (g_region (Fa 0 fi_24_0 rfl (Lo (.slice pp1 bs.length cc2) ag_22 H17 0 (rc (s_len bs.length rfl ⟨_, un_22⟩ rfl (Mv (.int .i64 0) (r_nil (g_block ?_)))))))))
 have H18 : St W w13 (blk bk10 (.cells #[.slice pp1 bs.length cc2] 24 (0, 0)) :: SinkA b (L ++ lowB bs.length 4 ++ bdsB bs 0) :: bndsA bs :: Im 6 (.slice pp1 bs.length cc2) bs.length (bs.flatMap bndCell) :: (F.set i emp)) := by rw [bdsB_0, List.append_nil]; exact H17
 obtain ⟨pA19, cA20, gA21, oA22, kA23, eA24, zA25, he31, hn26, hp27, hx28, hs29, hml, H30⟩ := Im.open_ H18 (i := 3) rfl
 obtain ⟨rfl, rfl⟩ : pp1 = pA19 ∧ cc2 = cA20 := by injection he31 with a_ b_ c_; exact ⟨a_, c_⟩
 refine g_loop_inv (fun (j : Nat) => [(0, .pointer (pa b)), (13, .slice pp1 bs.length cc2), (14, .int .i64 (bs.length : Int)), (15, .int .i64 (j : Int))]) (fun j w => (j ≤ bs.length) ∧ St W w (imi (0 < bs.length) gA21 (.cells kA23 eA24 zA25) :: blk bk10 (.cells #[.slice pp1 bs.length cc2] 24 (0, 0)) :: SinkA b (L ++ lowB bs.length 4 ++ bdsB bs j) :: bndsA bs :: Im 6 (.slice pp1 bs.length cc2) bs.length (bs.flatMap bndCell) :: (F.set i emp))) (fun j => bs.length - j) (0) ?_ ?_ ?_
 ·exact t1
 ·exact ⟨t0, H30⟩
 rintro j ρ32 w33 ⟨hjn, H34⟩ nx35
 change Ends _ _ (upds ρ32 [(0, .pointer (pa b)), (13, .slice pp1 bs.length cc2), (14, .int .i64 (bs.length : Int)), (15, .int .i64 (j : Int))]) w33
 refine g_seq (g_region ?_)
 by_cases hc36 : (j : Int) < (bs.length : Int)
 ·refine rc (s_lss true rfl rfl (dtrue hc36) rfl (r_nil (g_seq (g_true rfl (g_skip (g_seq (g_block (g_seq (g_region (rc (s_indexAddr gA21 (off := oA22) (j : Int) 6 (oA22 + j * 6) (by exact congrArg (fun z_ => Value.slice z_ bs.length cc2) (hp27 t0)) rfl el_22 t0 rfl rfl (rc (s_loadAgg (bnl (bs.getD j default)) 6 ag_121 rfl (H34.imi_at (i := 0) rfl t0) (by have := elem_size (i := j) (s := 6) (hs29 t0) t0; omega) (elem_take bndCell_len (hx28 t0) t0 default) rfl (rc (s_alloc H34 121 ze_121 rfl (fun bk37 w38 H39 => Sa H39 0 rfl (bnc (bs.getD j default)) 6 sz_121 (bnc (bs.getD j default)) (fun w40 H41 => r_nil (g_seq (g_region ?_)))))))))))))))))))
  obtain ⟨hv9, he9⟩ := bd_ok hpt (j := j) t0
  have hr9 := bdsB_room (bs := bs) (j := j) t0
  have hf9 := formB_le he9
  have ht9 := textB_le hv9 t0
  refine Mv (.pointer (pa b)) (Fa 0 fi_121_0 rfl (Lo (.string ((bs.getD j default).var.v)) ag_9 H41 0 (rc (s_call [.pointer (pa b), .string ((bs.getD j default).var.v)] pl_96 rfl rfl (Sink_Text b (L ++ lowB bs.length 4 ++ bdsB bs j) ((bs.getD j default).var.v) (bs.getD j default).var.ok t2 (i := 3) rfl H41) ?_))))
  rintro _ w42 ⟨rfl, H43⟩
  have hk44 : putE (L ++ lowB bs.length 4 ++ bdsB bs j) ((textB ((bs.getD j default).var.v)).length : Int) = 0 ∧ putL (L ++ lowB bs.length 4 ++ bdsB bs j) (textB ((bs.getD j default).var.v)) = L ++ lowB bs.length 4 ++ bdsB bs j ++ textB (bs.getD j default).var.v := put_ok (L := L ++ lowB bs.length 4 ++ bdsB bs j) rfl t21
  have H46 : St W w42 (blk bk37 (.cells #[.string ((bs.getD j default).var.v), .int .i64 ((bs.getD j default).ev.ev.src.v), .int .i64 ((bs.getD j default).ev.ev.seq.v), .int .i64 ((bs.getD j default).ev.ev.time.v), .string ((bs.getD j default).ev.ev.typ.v), .slice ((bs.getD j default).ev.p) ((bs.getD j default).ev.ev.attrs.length) ((bs.getD j default).ev.c)] 121 (0, 0)) :: imi (0 < bs.length) gA21 (.cells kA23 eA24 zA25) :: blk bk10 (.cells #[.slice pp1 bs.length cc2] 24 (0, 0)) :: SinkA b (L ++ lowB bs.length 4 ++ bdsB bs j ++ textB (bs.getD j default).var.v) :: bndsA bs :: Im 6 (.slice pp1 bs.length cc2) bs.length (bs.flatMap bndCell) :: (F.set i emp)) := by rw [← hk44.2]; exact H43
  refine r_nil (g_region ?_)
  have H47 := bndsA_at j H46 (i := 4) rfl
  refine Mv (.pointer (pa b)) (Fa 1 fi_121_1 rfl (La (evl ((bs.getD j default).ev.ev) ((bs.getD j default).ev.p) ((bs.getD j default).ev.c)) 5 ag_119 H47 1 (rc (s_call [.pointer (pa b), .agg (evc ((bs.getD j default).ev.ev) ((bs.getD j default).ev.p) ((bs.getD j default).ev.c))] pl_97 rfl rfl (event_Put b (L ++ lowB bs.length 4 ++ bdsB bs j ++ textB (bs.getD j default).var.v) ((bs.getD j default).ev.ev) (.slice ((bs.getD j default).ev.p) ((bs.getD j default).ev.ev.attrs.length) ((bs.getD j default).ev.c)) t2 (j := 0) rfl (i := 4) rfl H47) ?_))))
  rintro _ w48 ⟨rfl, H49⟩
  have hk50 : evPutE (L ++ lowB bs.length 4 ++ bdsB bs j ++ textB (bs.getD j default).var.v) ((bs.getD j default).ev.ev) = 0 ∧ evPutL (L ++ lowB bs.length 4 ++ bdsB bs j ++ textB (bs.getD j default).var.v) ((bs.getD j default).ev.ev) = L ++ lowB bs.length 4 ++ bdsB bs j ++ textB (bs.getD j default).var.v ++ formB (bs.getD j default).ev.ev := (evPut_ok (L := L ++ lowB bs.length 4 ++ bdsB bs j ++ textB (bs.getD j default).var.v) he9 t21)
  have H52 : St W w48 (Attrs (.slice ((bs.getD j default).ev.p) ((bs.getD j default).ev.ev.attrs.length) ((bs.getD j default).ev.c)) ((bs.getD j default).ev.ev.attrs) :: blk bk37 (.cells #[.string ((bs.getD j default).var.v), .int .i64 ((bs.getD j default).ev.ev.src.v), .int .i64 ((bs.getD j default).ev.ev.seq.v), .int .i64 ((bs.getD j default).ev.ev.time.v), .string ((bs.getD j default).ev.ev.typ.v), .slice ((bs.getD j default).ev.p) ((bs.getD j default).ev.ev.attrs.length) ((bs.getD j default).ev.c)] 121 (0, 0)) :: imi (0 < bs.length) gA21 (.cells kA23 eA24 zA25) :: blk bk10 (.cells #[.slice pp1 bs.length cc2] 24 (0, 0)) :: SinkA b (L ++ lowB bs.length 4 ++ bdsB bs j ++ textB (bs.getD j default).var.v ++ formB (bs.getD j default).ev.ev) :: bndsA bs :: Im 6 (.slice pp1 bs.length cc2) bs.length (bs.flatMap bndCell) :: (F.set i emp)) := by rw [← hk50.2]; exact H49
  refine r_nil (g_inBlock (g_region (rc (s_add ((j : Int) + 1) rfl rfl (wi64 t0) rfl (Mv (.int .i64 ((j : Int) + 1)) (r_nil ?_))))))
  have H53 : St W w48 (Attrs (.slice ((bs.getD j default).ev.p) ((bs.getD j default).ev.ev.attrs.length) ((bs.getD j default).ev.c)) ((bs.getD j default).ev.ev.attrs) :: blk bk37 (.cells #[.string ((bs.getD j default).var.v), .int .i64 ((bs.getD j default).ev.ev.src.v), .int .i64 ((bs.getD j default).ev.ev.seq.v), .int .i64 ((bs.getD j default).ev.ev.time.v), .string ((bs.getD j default).ev.ev.typ.v), .slice ((bs.getD j default).ev.p) ((bs.getD j default).ev.ev.attrs.length) ((bs.getD j default).ev.c)] 121 (0, 0)) :: imi (0 < bs.length) gA21 (.cells kA23 eA24 zA25) :: blk bk10 (.cells #[.slice pp1 bs.length cc2] 24 (0, 0)) :: SinkA b (L ++ lowB bs.length 4 ++ bdsB bs (j + 1)) :: bndsA bs :: Im 6 (.slice pp1 bs.length cc2) bs.length (bs.flatMap bndCell) :: (F.set i emp)) := by rw [bdsB_succ t0]; simp only [List.append_assoc] at H52 ⊢; exact H52
  have H54 : St W w48 (_ :: _ :: _ :: _ :: _ :: (F.set i emp)) := (H53.mv [6, 6, 6, 6, 6, 105, 105])
  exact nx35 (j + 1) _ _ ⟨t0, H54⟩ t7 t1
 refine rc (s_lss false rfl rfl (dfalse hc36) rfl (r_nil (g_seq (g_false rfl (g_exit t39 ?_)))))
 refine g_end' [] Tryz.func69 Tryz.results69 trivial ?_
 have H55 : St W w33 (_ :: (F.set i emp)) := (H34.mv [2, 101, 101, 101, 101])
 obtain rfl : j = bs.length := by omega
 exact ⟨rfl, by rw [← bdsB_all, ← List.append_assoc]; exact St.back hi H55⟩
theorem match_Put (b : Nat) (L : List Bool) (bs : List BoundD) (bv : Value) (hpt : ptE bs = 0) (hroom : L.length ≤ 900000) {ip : Nat} (hp : F[ip]? = some (Im 6 bv bs.length (bs.flatMap bndCell))) {iq : Nat} (hq : F[iq]? = some (bndsA bs)) {i : Nat} (hi : F[i]? = some (SinkA b L)) (H : St W w F) : Calls Tryz.prog 30 #[.pointer (pa b), .agg #[bv]] w (Ret fun v w' => v = .int .i64 0 ∧ St W w' (F.set i (SinkA b (L ++ (ptB (bs.map BoundD.v)))))) := by
 obtain ⟨pp1, cc2, rfl, hn3⟩ := Rd.shape (Im.rd H (i := ip) hp)
 have H4 := H.dup (i := ip + 0) t55 (Im_pers _ _ _ _)
 have H5 : St W w (_ :: F) := H4
 have H6 := H5.dup (i := iq + 1) t51 (bndsA_pers _)
 have H7 : St W w (_ :: _ :: F) := H6
 have H8 := H7.front (i := i + 2) t34
 have H9 : St W w (_ :: _ :: _ :: (F.set i emp)) := H8
 have hbl := bd_len hpt
 have hbp := ptB_len_le hpt
 have hp4 := ptB_ge (bs := bs)
 refine calls_of_go (n := 28) Tryz.func30 rfl Tryz.ntmps30 rfl ?_
 refine g_seq (g_region (Bx H9 24 #[.slice pp1 bs.length cc2] (fun bk10 w11 H12 => Ag (.int .i64 0) (r_nil (g_seq (g_seq (g_region (Mv (.pointer (pa b)) ?_))))))))
 have H13 := Row.im (Row.nil_intro H12 4 1) (i := 0) rfl
 refine rc (s_call [.pointer (pa b), .slice none 0 0] pl_68 rfl rfl (Sink_Flags b L [] (.slice none 0 0) t2 (j := 0) rfl (i := 2) rfl H13) ?_)
 rintro _ w14 ⟨rfl, H15⟩
 have hfl : putL L [] = L := (putL_0 rfl (putE_0 (by simp only [List.length_nil]; omega))).trans (List.append_nil L)
 have H16 : St W w14 (Im 1 (.slice none 0 0) 0 [] :: blk bk10 (.cells #[.slice pp1 bs.length cc2] 24 (0, 0)) :: SinkA b L :: bndsA bs :: Im 6 (.slice pp1 bs.length cc2) bs.length (bs.flatMap bndCell) :: (F.set i emp)) := by have hx := H15; rw [hfl] at hx; exact hx
 refine rc (s_neq false rfl rfl (ntrue (putE_0 (by simp only [List.length_nil]; omega))) rfl (r_nil (g_false rfl (g_skip (g_seq (g_seq (g_region (La [.slice pp1 bs.length cc2] 1 ag_24 H16 1 (rc (s_call [.agg #[.slice pp1 bs.length cc2]] pl_48 rfl rfl (match_Check bs _ (ip := 4) rfl (iq := 3) rfl H16) ?_))))))))))
 rintro _ w17 ⟨rfl, H18⟩
 refine Ag (.int .i64 (ptE bs)) (r_nil (g_seq (g_region (Mv (.int .i64 (ptE bs)) (rc (s_neq false rfl rfl (ntrue hpt) rfl (r_nil (g_false rfl (g_skip (g_seq (g_region (rc (s_call [] pl_27 rfl rfl (NewSink H18) ?_)))))))))))))
 rintro _ w20 ⟨bk19, rfl, H21⟩
 refine Ag (.pointer (pa bk19)) (r_nil (g_seq (g_region (Mv (.pointer (pa bk19)) (La [.slice pp1 bs.length cc2] 1 ag_24 H21 2 (rc (s_call [.pointer (pa bk19), .agg #[.slice pp1 bs.length cc2]] pl_69 rfl rfl (match_form bk19 [] bs _ hpt (by (try simp only [List.length_append, List.length_nil]); omega) (ip := 5) rfl (iq := 4) rfl (i := 0) rfl H21) ?_)))))))
 rintro _ w22 ⟨rfl, H23⟩
 refine r_nil (g_seq (g_seq (g_region ?_)))
 have hol : (([] : List Bool) ++ (ptB (bs.map BoundD.v))).length = (ptB (bs.map BoundD.v)).length := by rw [List.nil_append]
 refine Mv (.pointer (pa bk19)) (rc (s_call [.pointer (pa bk19)] pl_70 rfl rfl (Sink_Len bk19 (([] : List Bool) ++ ptB (bs.map BoundD.v))   (i := 0) rfl H23) ?_))
 rintro _ w24 ⟨rfl, H25⟩
 refine Mv (.pointer (pa b)) (rc (s_call [.pointer (pa b)] pl_70 rfl rfl (Sink_Len b L   (i := 3) rfl H25) ?_))
 rintro _ w26 ⟨rfl, H27⟩
 refine rc (s_sub (1048576 - (L.length : Int)) rfl rfl (wi64 t0) rfl (rc (s_gtr false rfl rfl (dfalse t0) rfl (r_nil (g_false rfl (g_skip (g_seq (g_region (Mv (.pointer (pa b)) (La [.slice pp1 bs.length cc2] 1 ag_24 H27 2 (rc (s_call [.pointer (pa b), .agg #[.slice pp1 bs.length cc2]] pl_69 rfl rfl (match_form b L bs _ hpt (by (try simp only [List.length_append, List.length_nil]); omega) (ip := 5) rfl (iq := 4) rfl (i := 3) rfl H27) ?_))))))))))))
 rintro _ w28 ⟨rfl, H29⟩
 refine r_nil (g_seq (g_region (Ag (.int .i64 0) (r_nil (Gr [.int .i64 0] Tryz.func30 Tryz.results30 ?_)))))
 have H30 : St W w28 (_ :: (F.set i emp)) := (H29.mv [3, 101, 101, 101, 101, 101])
 exact ⟨rfl, St.back hi H30⟩
theorem ref10_Form (bs : List BoundD) (bv : Value) (hpt : ptE bs = 0) {ip : Nat} (hp : F[ip]? = some (Im 6 bv bs.length (bs.flatMap bndCell))) {iq : Nat} (hq : F[iq]? = some (bndsA bs)) (H : St W w F) : Calls Tryz.prog 34 #[.agg #[bv]] w (Ret fun v w' => ∃ p n c, v = .slice p n c ∧ n = (ptB (bs.map BoundD.v)).length ∧ St W w' (Row 4 1 (.slice p n c) n ((ptB (bs.map BoundD.v)).flatMap blc) :: F)) := by
 obtain ⟨pp1, cc2, rfl, hn3⟩ := Rd.shape (Im.rd H (i := ip) hp)
 have H4 := H.dup (i := ip + 0) t55 (Im_pers _ _ _ _)
 have H5 : St W w (_ :: F) := H4
 have H6 := H5.dup (i := iq + 1) t51 (bndsA_pers _)
 have H7 : St W w (_ :: _ :: F) := H6
 have hbl := bd_len hpt
 have hmlb := Im.len H7 (i := 1) rfl
 refine calls_of_go (n := 35) Tryz.func34 rfl Tryz.ntmps34 rfl ?_
 refine g_seq (g_region (Bx H7 24 #[.slice pp1 bs.length cc2] (fun bk8 w9 H10 => Ag (.slice none 0 0) (r_nil (g_seq (g_region (Fa 0 fi_24_0 rfl (Lo (.slice pp1 bs.length cc2) ag_22 H10 0 (rc (s_len bs.length rfl ⟨_, un_22⟩ rfl (rc (s_conv ((bs.length : Nat) : Int) rfl us_3 ik_61 (wu64 t0) rfl (rc (s_call [.int .u64 ((bs.length : Nat) : Int), .int .i64 4] pl_33 rfl rfl (ref01_Low bs.length 4 t0 t0 H10) ?_))))))))))))))
 rintro _ w13 ⟨pp11, cc12, rfl, H14⟩
 refine Ag (.slice pp11 4 cc12) (r_nil (g_seq (g_seq (g_region (Ag (.int .i64 0) (r_nil (g_block ?_)))))))
 have hn0 : (lowB bs.length 4 ++ bdsB bs 0).length = 4 := by rw [bdsB_0, List.append_nil]; first | rfl | rw [lowB_len]
 have H15 : St W w13 (Row 4 1 (.slice pp11 ((lowB bs.length 4 ++ bdsB bs 0).length) cc12) ((lowB bs.length 4 ++ bdsB bs 0).length) ((lowB bs.length 4 ++ bdsB bs 0).flatMap blc) :: blk bk8 (.cells #[.slice pp1 bs.length cc2] 24 (0, 0)) :: bndsA bs :: Im 6 (.slice pp1 bs.length cc2) bs.length (bs.flatMap bndCell) :: F) := by rw [hn0, bdsB_0, List.append_nil]; exact H14
 obtain ⟨pA16, cA17, gA18, oA19, kA20, eA21, zA22, he28, hn23, hp24, hx25, hs26, hml, H27⟩ := Im.open_ H15 (i := 3) rfl
 obtain ⟨rfl, rfl⟩ : pp1 = pA16 ∧ cc2 = cA17 := by injection he28 with a_ b_ c_; exact ⟨a_, c_⟩
 refine g_loop_inv (fun ((j, pq, cq) : Nat × (Option Addr) × Nat) => [(1, .pointer (pa bk8)), (2, .slice none 0 0), (3, .slice pq ((lowB bs.length 4 ++ bdsB bs j).length) cq), (4, .int .i64 (j : Int))]) (fun (j, pq, cq) w => (j ≤ bs.length) ∧ St W w (imi (0 < bs.length) gA18 (.cells kA20 eA21 zA22) :: Row 4 1 (.slice pq ((lowB bs.length 4 ++ bdsB bs j).length) cq) ((lowB bs.length 4 ++ bdsB bs j).length) ((lowB bs.length 4 ++ bdsB bs j).flatMap blc) :: blk bk8 (.cells #[.slice pp1 bs.length cc2] 24 (0, 0)) :: bndsA bs :: Im 6 (.slice pp1 bs.length cc2) bs.length (bs.flatMap bndCell) :: F)) (fun (j, pq, cq) => bs.length - j) (0, pp11, cc12) ?_ ?_ ?_
 ·exact ⟨by first | rfl | exact vint t0, by first | rfl | exact vint t0, congrArg (fun z_ => Value.slice pp11 z_ cc12) hn0.symm, by first | rfl | exact vint t0, trivial⟩
 ·exact ⟨t0, H27⟩
 rintro ⟨j, pq, cq⟩ ρ29 w30 ⟨hjn, H31⟩ nx32
 change Ends _ _ (upds ρ29 [(1, .pointer (pa bk8)), (2, .slice none 0 0), (3, .slice pq ((lowB bs.length 4 ++ bdsB bs j).length) cq), (4, .int .i64 (j : Int))]) w30
 have hbj := bdsB_le hpt hjn
 have hll : (lowB bs.length 4 ++ bdsB bs j).length = 4 + (bdsB bs j).length := by rw [List.length_append, lowB_len]
 refine g_seq (g_seq (g_region (Mv (.int .i64 (j : Int)) (Fa 0 fi_24_0 rfl (Lo (.slice pp1 bs.length cc2) ag_22 H31 2 (rc (s_len bs.length rfl ⟨_, un_22⟩ rfl ?_)))))))
 by_cases hc33 : (j : Int) < (bs.length : Int)
 ·refine rc (s_lss true rfl rfl (dtrue hc33) rfl (r_nil (g_true rfl (g_skip (g_seq (g_block ?_))))))
  obtain ⟨hv9, he9⟩ := bd_ok hpt (j := j) t0
  have hf9 := formB_le he9
  have ht9 := textB_le hv9 t0
  have hz9 := sizeU_le (u := (bs.getD j default).var.v.size) t0
  have H34 := bndsA_at j H31 (i := 3) rfl
  have H35 : St W w30 (_ :: _ :: _ :: _ :: _ :: _ :: F) := (H34.mv [2, 5, 5, 5, 5, 5])
  refine g_mix (fun t_ w => St W w (Attrs (.slice ((bs.getD j default).ev.p) ((bs.getD j default).ev.ev.attrs.length) ((bs.getD j default).ev.c)) ((bs.getD j default).ev.ev.attrs) :: imi (0 < bs.length) gA18 (.cells kA20 eA21 zA22) :: blk bk8 (.cells #[.slice pp1 bs.length cc2] 24 (0, 0)) :: bndsA bs :: Im 6 (.slice pp1 bs.length cc2) bs.length (bs.flatMap bndCell) :: t_)) (Row 4 1 (.slice pq ((lowB bs.length 4 ++ bdsB bs j).length) cq) ((lowB bs.length 4 ++ bdsB bs j).length) ((lowB bs.length 4 ++ bdsB bs j).flatMap blc) :: F) mixed 18 rfl H35.drew ?_
  refine Fv 0 rfl (fun _ w _ => x_move (.slice pq ((lowB bs.length 4 ++ bdsB bs j).length) cq) rfl w) (Fv 1 rfl (fun t_ w hw => x_fieldAddr 24 0 0 0 22 rfl fi_24_0 rfl w) (Fv 2 rfl (fun t_ w hw => x_load (.slice pp1 bs.length cc2) ag_22 rfl (hw.blk_at (i := 2) rfl) rfl) (Fv 3 rfl (fun _ w _ => x_move (.int .i64 (j : Int)) rfl w) (Fv 4 rfl (fun t_ w hw => x_indexAddr gA18 (off := oA19) (j : Int) 6 (oA19 + j * 6) (by exact congrArg (fun z_ => Value.slice z_ bs.length cc2) (hp24 t0)) rfl el_22 t0 rfl w) (Fv 5 rfl (fun t_ w hw => x_fieldAddr 121 0 0 (oA19 + j * 6) 9 rfl fi_121_0 rfl w) (Fv 6 rfl (fun t_ w hw => x_load (.string ((bs.getD j default).var.v)) ag_9 rfl (hw.imi_at (i := 1) rfl t0) (elem_cell (L := bs) (i := j) bndCell_len (hx25 t0) t0 default 0 t9 _ rfl)) (Fv 9 rfl (fun t_ w hw => x_fieldAddr 24 0 0 0 22 rfl fi_24_0 rfl w) (Fv 10 rfl (fun t_ w hw => x_load (.slice pp1 bs.length cc2) ag_22 rfl (hw.blk_at (i := 2) rfl) rfl) (Fv 11 rfl (fun _ w _ => x_move (.int .i64 (j : Int)) rfl w) (Fv 12 rfl (fun t_ w hw => x_indexAddr gA18 (off := oA19) (j : Int) 6 (oA19 + j * 6) (by exact congrArg (fun z_ => Value.slice z_ bs.length cc2) (hp24 t0)) rfl el_22 t0 rfl w) (Fv 13 rfl (fun t_ w hw => x_fieldAddr 121 1 1 (oA19 + j * 6 + 1) 119 rfl fi_121_1 rfl w) (Fv 14 rfl (fun t_ w hw => x_loadAgg (evl ((bs.getD j default).ev.ev) ((bs.getD j default).ev.p) ((bs.getD j default).ev.c)) 5 ag_119 rfl (hw.imi_at (i := 1) rfl t0) (by have := elem_size (i := j) (s := 6) (hs26 t0) t0; omega) (elem_sub bndCell_len (hx25 t0) t0 default 1 5 t9)) ?_))))))))))))
  refine f_all (rs := [7]) t5 t13 ?_
  refine a_cons ⟨_, rfl, ?_⟩ (fun x hx => absurd hx t13)
  intro w36 H37
  try dsimp only at H37
  refine s_call [.string ((bs.getD j default).var.v)] pl_73 rfl rfl (ref01_Text ((bs.getD j default).var.v) t0 H37) ?_
  rintro _ w40 ⟨pp38, cc39, rfl, H41⟩
  have H42 : St W w40 (_ :: _ :: _ :: _ :: _ :: _ :: _ :: F) := (H41.mv [6, 1, 6, 6, 6, 6, 6])
  refine ⟨Row 4 1 (.slice pp38 (sizeU ((bs.getD j default).var.v).size + 8 * ((bs.getD j default).var.v).size) cc39) (sizeU ((bs.getD j default).var.v).size + 8 * ((bs.getD j default).var.v).size) ((textB ((bs.getD j default).var.v)).flatMap blc) :: Row 4 1 (.slice pq ((lowB bs.length 4 ++ bdsB bs j).length) cq) ((lowB bs.length 4 ++ bdsB bs j).length) ((lowB bs.length 4 ++ bdsB bs j).flatMap blc) :: F, ?_, H42⟩
  change FReg _ _ _ _ _ #[true, true, true, true, true, true, true, true, false, true, true, true, true, true, true, false, false, false] _ _
  refine f_all (rs := [8]) t5 t13 ?_
  refine a_cons ⟨_, rfl, ?_⟩ (fun x hx => absurd hx t13)
  intro w43 H44
  try dsimp only at H44
  refine s_append H44 6 rfl rfl rfl (Row.rd H44 (i := 5) rfl) ap_39 t9 t12 t0 (n' := (lowB bs.length 4 ++ bdsB bs j).length + sizeU ((bs.getD j default).var.v).size + 8 * ((bs.getD j default).var.v).size) (xs' := (lowB bs.length 4 ++ bdsB bs j).flatMap blc ++ (textB ((bs.getD j default).var.v)).flatMap blc) t0 t16 rfl ?_; intro vv45 w46 H47 hn48
  obtain ⟨pp49, cc50, rfl⟩ := Row.slice H47 (i := 6) rfl
  refine ⟨Row 4 1 (.slice pp38 (sizeU ((bs.getD j default).var.v).size + 8 * ((bs.getD j default).var.v).size) cc39) (sizeU ((bs.getD j default).var.v).size + 8 * ((bs.getD j default).var.v).size) ((textB ((bs.getD j default).var.v)).flatMap blc) :: Row 4 1 (.slice pp49 ((lowB bs.length 4 ++ bdsB bs j).length + sizeU ((bs.getD j default).var.v).size + 8 * ((bs.getD j default).var.v).size) cc50) ((lowB bs.length 4 ++ bdsB bs j).length + sizeU ((bs.getD j default).var.v).size + 8 * ((bs.getD j default).var.v).size) ((lowB bs.length 4 ++ bdsB bs j).flatMap blc ++ (textB ((bs.getD j default).var.v)).flatMap blc) :: F, ?_, H47⟩
  change FReg _ _ _ _ _ #[true, true, true, true, true, true, true, true, true, true, true, true, true, true, true, false, false, false] _ _
  refine f_all (rs := [15]) t5 t13 ?_
  refine a_cons ⟨_, rfl, ?_⟩ (fun x hx => absurd hx t13)
  intro w51 H52
  try dsimp only at H52
  refine s_call [.agg (evc ((bs.getD j default).ev.ev) ((bs.getD j default).ev.p) ((bs.getD j default).ev.c))] pl_74 rfl rfl (ref04_Form ((bs.getD j default).ev.ev) (.slice ((bs.getD j default).ev.p) ((bs.getD j default).ev.ev.attrs.length) ((bs.getD j default).ev.c)) t11 (j := 0) rfl H52) ?_
  rintro _ w55 ⟨pp53, _, cc54, rfl, rfl, H56⟩
  have H57 : St W w55 (_ :: _ :: _ :: _ :: _ :: _ :: _ :: _ :: F) := (H56.mv [7, 7, 2, 7, 7, 7, 7, 7])
  refine ⟨Row 4 1 (.slice pp53 ((formB ((bs.getD j default).ev.ev)).length) cc54) ((formB ((bs.getD j default).ev.ev)).length) ((formB ((bs.getD j default).ev.ev)).flatMap blc) :: Row 4 1 (.slice pp38 (sizeU ((bs.getD j default).var.v).size + 8 * ((bs.getD j default).var.v).size) cc39) (sizeU ((bs.getD j default).var.v).size + 8 * ((bs.getD j default).var.v).size) ((textB ((bs.getD j default).var.v)).flatMap blc) :: Row 4 1 (.slice pp49 ((lowB bs.length 4 ++ bdsB bs j).length + sizeU ((bs.getD j default).var.v).size + 8 * ((bs.getD j default).var.v).size) cc50) ((lowB bs.length 4 ++ bdsB bs j).length + sizeU ((bs.getD j default).var.v).size + 8 * ((bs.getD j default).var.v).size) ((lowB bs.length 4 ++ bdsB bs j).flatMap blc ++ (textB ((bs.getD j default).var.v)).flatMap blc) :: F, ?_, H57⟩
  change FReg _ _ _ _ _ #[true, true, true, true, true, true, true, true, true, true, true, true, true, true, true, true, false, false] _ _
  refine f_all (rs := [16]) t5 t13 ?_
  refine a_cons ⟨_, rfl, ?_⟩ (fun x hx => absurd hx t13)
  intro w58 H59
  try dsimp only at H59
  refine s_append H59 7 rfl rfl rfl (Row.rd H59 (i := 5) rfl) ap_39 t9 t12 t0 (n' := (lowB bs.length 4 ++ bdsB bs j).length + sizeU ((bs.getD j default).var.v).size + 8 * ((bs.getD j default).var.v).size + (formB ((bs.getD j default).ev.ev)).length) (xs' := (lowB bs.length 4 ++ bdsB bs j).flatMap blc ++ (textB ((bs.getD j default).var.v)).flatMap blc ++ (formB ((bs.getD j default).ev.ev)).flatMap blc) t0 t16 rfl ?_; intro vv60 w61 H62 hn63
  obtain ⟨pp64, cc65, rfl⟩ := Row.slice H62 (i := 7) rfl
  refine ⟨Row 4 1 (.slice pp53 ((formB ((bs.getD j default).ev.ev)).length) cc54) ((formB ((bs.getD j default).ev.ev)).length) ((formB ((bs.getD j default).ev.ev)).flatMap blc) :: Row 4 1 (.slice pp38 (sizeU ((bs.getD j default).var.v).size + 8 * ((bs.getD j default).var.v).size) cc39) (sizeU ((bs.getD j default).var.v).size + 8 * ((bs.getD j default).var.v).size) ((textB ((bs.getD j default).var.v)).flatMap blc) :: Row 4 1 (.slice pp64 ((lowB bs.length 4 ++ bdsB bs j).length + sizeU ((bs.getD j default).var.v).size + 8 * ((bs.getD j default).var.v).size + (formB ((bs.getD j default).ev.ev)).length) cc65) ((lowB bs.length 4 ++ bdsB bs j).length + sizeU ((bs.getD j default).var.v).size + 8 * ((bs.getD j default).var.v).size + (formB ((bs.getD j default).ev.ev)).length) ((lowB bs.length 4 ++ bdsB bs j).flatMap blc ++ (textB ((bs.getD j default).var.v)).flatMap blc ++ (formB ((bs.getD j default).ev.ev)).flatMap blc) :: F, ?_, H62⟩
  change FReg _ _ _ _ _ #[true, true, true, true, true, true, true, true, true, true, true, true, true, true, true, true, true, false] _ _
  refine Fv 17 rfl (fun t_ w hw => x_assign (.slice pp64 ((lowB bs.length 4 ++ bdsB bs j).length + sizeU ((bs.getD j default).var.v).size + 8 * ((bs.getD j default).var.v).size + (formB ((bs.getD j default).ev.ev)).length) cc65) rfl w) ?_
  refine f_done t5 ?_
  intro w66 H67
  refine g_inBlock (g_region (Mv (.int .i64 (j : Int)) (rc (s_add ((j : Int) + 1) rfl rfl (wi64 t0) rfl (Ag (.int .i64 ((j : Int) + 1)) (r_nil ?_))))))
  have hnj : (lowB bs.length 4 ++ bdsB bs (j + 1)).length = (lowB bs.length 4 ++ bdsB bs j).length + sizeU ((bs.getD j default).var.v).size + 8 * ((bs.getD j default).var.v).size + (formB ((bs.getD j default).ev.ev)).length := by rw [bdsB_succ t0]; simp only [List.length_append, textB_len]; omega
  have H68 : St W w66 (Attrs (.slice ((bs.getD j default).ev.p) ((bs.getD j default).ev.ev.attrs.length) ((bs.getD j default).ev.c)) ((bs.getD j default).ev.ev.attrs) :: imi (0 < bs.length) gA18 (.cells kA20 eA21 zA22) :: blk bk8 (.cells #[.slice pp1 bs.length cc2] 24 (0, 0)) :: bndsA bs :: Im 6 (.slice pp1 bs.length cc2) bs.length (bs.flatMap bndCell) :: Row 4 1 (.slice pp53 ((formB ((bs.getD j default).ev.ev)).length) cc54) ((formB ((bs.getD j default).ev.ev)).length) ((formB ((bs.getD j default).ev.ev)).flatMap blc) :: Row 4 1 (.slice pp38 (sizeU ((bs.getD j default).var.v).size + 8 * ((bs.getD j default).var.v).size) cc39) (sizeU ((bs.getD j default).var.v).size + 8 * ((bs.getD j default).var.v).size) ((textB ((bs.getD j default).var.v)).flatMap blc) :: Row 4 1 (.slice pp64 ((lowB bs.length 4 ++ bdsB bs (j + 1)).length) cc65) ((lowB bs.length 4 ++ bdsB bs (j + 1)).length) ((lowB bs.length 4 ++ bdsB bs (j + 1)).flatMap blc) :: F) := by rw [hnj, bdsB_succ t0]; simp only [List.flatMap_append, List.append_assoc] at H67 ⊢; exact H67
  have H69 : St W w66 (_ :: _ :: _ :: _ :: _ :: F) := (H68.mv [4, 4, 4, 7, 5, 105, 105, 105])
  exact nx32 (j + 1, pp64, cc65) _ _ ⟨t0, H69⟩ t7 ⟨by first | rfl | exact vint t0, by first | rfl | exact vint t0, congrArg (fun z_ => Value.slice pp64 z_ cc65) hnj.symm, by first | rfl | exact vint t0, trivial⟩
 refine rc (s_lss false rfl rfl (dfalse hc33) rfl (r_nil (g_false rfl (g_exit t39 (g_seq (g_region (Mv (.slice pq ((lowB bs.length 4 ++ bdsB bs j).length) cq) (Ag (.slice pq ((lowB bs.length 4 ++ bdsB bs j).length) cq) (r_nil (Gr [.slice pq ((lowB bs.length 4 ++ bdsB bs j).length) cq] Tryz.func34 Tryz.results34 ?_))))))))))
 have H70 : St W w30 (_ :: F) := (H31.mv [1, 101, 101, 101, 101])
 obtain rfl : j = bs.length := by omega
 exact ⟨_, _, _, rfl, by rw [bdsB_all], by rw [← bdsB_all]; exact H70⟩
theorem migrate_ItemBytes (x : ItemD) {ip : Nat} (hp : F[ip]? = some (Im 6 (.slice x.p x.bs.length x.c) x.bs.length (x.bs.flatMap bndCell))) {iq : Nat} (hq : F[iq]? = some (bndsA x.bs)) (H : St W w F) : Calls Tryz.prog 5 #[.agg (itc x)] w (Ret fun v w' => ∃ p n c, v = .tuple #[.slice p n c, .int .i64 (itE x)] ∧ n = (itBytes x.v).length ∧ St W w' (Row 5 1 (.slice p n c) n ((itBytes x.v).flatMap u8c) :: F)) := by
 have H1 := (H.dup (i := ip + 0) t55 (Im_pers _ _ _ _)).dup (i := iq + 1) t51 (bndsA_pers _)
 have H2 : St W w (_ :: _ :: F) := H1
 refine calls_of_go (n := 49) Tryz.func5 rfl Tryz.ntmps5 rfl ?_
 refine g_seq (g_region (Bx H2 26 (itc x) (fun bk3 w4 H5 => Ag (.slice none 0 0) (Ag (.int .i64 0) (r_nil (g_seq (g_seq (g_region (La (itl x) 6 ag_26 H5 0 (rc (s_call [.agg (itc x)] pl_10 rfl rfl (migrate_CheckItem x (ip := 2) rfl (iq := 1) rfl H5) ?_)))))))))))
 rintro _ w6 ⟨rfl, H7⟩
 refine Ag (.int .i64 (itE x)) (r_nil (g_seq (g_region (Mv (.int .i64 (itE x)) ?_))))
 by_cases hc8 : itE x = 0
 ·refine rc (s_neq false rfl rfl (ntrue hc8) rfl (r_nil (g_false rfl (g_skip (g_seq (g_region ?_))))))
  have hok : itE x = 0 := by assumption
  obtain ⟨q1, q2, q3, q4⟩ := itD_is hok
  have hz_op := sizeU_le (u := x.op.v.toNat) t0
  have hz_inp := sizeU_le (u := x.inp.v.toNat) t0
  have hz_ep := sizeU_le (u := x.ep.v.toNat) t0
  refine rc (s_call [] pl_27 rfl rfl (NewSink H7) ?_)
  rintro _ w10 ⟨bk9, rfl, H11⟩
  refine Ag (.pointer (pa bk9)) (r_nil (g_seq (g_region (Mv (.pointer (pa bk9)) (Fa 0 fi_26_0 rfl (Lo (.int .i64 x.op.v) ag_3 H11 1 (rc (s_conv ((x.op.v.toNat : Nat) : Int) rfl us_3 ik_61 ((wu64 t0).trans t0) rfl (rc (s_call [.pointer (pa bk9), .int .u64 ((x.op.v.toNat : Nat) : Int)] pl_28 rfl rfl (Sink_Nat bk9 [] x.op.v.toNat t0 t2 (i := 0) rfl H11) ?_))))))))))
  rintro _ w12 ⟨rfl, H13⟩
  have hk14 : putE [] (sizeU x.op.v.toNat : Int) = 0 ∧ putL [] (natB x.op.v.toNat) = natB x.op.v.toNat := by have hh_ := put_ok (L := ([] : List Bool)) (M := natB x.op.v.toNat) (n := (sizeU x.op.v.toNat : Int)) (by rw [natB_len]) t21; rw [List.nil_append] at hh_; exact hh_
  have H16 : St W w12 (SinkA bk9 (natB x.op.v.toNat) :: blk bk3 (.cells #[.int .i64 x.op.v, .int .i64 x.inp.v, .int .i64 x.ep.v, .int .i64 x.kind.v, .slice x.p x.bs.length x.c, .int .i64 x.t.v] 26 (0, 0)) :: bndsA x.bs :: Im 6 (.slice x.p x.bs.length x.c) x.bs.length (x.bs.flatMap bndCell) :: F) := by rw [← hk14.2]; exact H13
  refine r_nil (g_seq (g_region (Mv (.pointer (pa bk9)) (Fa 1 fi_26_1 rfl (Lo (.int .i64 x.inp.v) ag_3 H16 1 (rc (s_conv ((x.inp.v.toNat : Nat) : Int) rfl us_3 ik_61 ((wu64 t0).trans t0) rfl (rc (s_call [.pointer (pa bk9), .int .u64 ((x.inp.v.toNat : Nat) : Int)] pl_28 rfl rfl (Sink_Nat bk9 (natB x.op.v.toNat) x.inp.v.toNat t0 t2 (i := 0) rfl H16) ?_)))))))))
  rintro _ w17 ⟨rfl, H18⟩
  have hk19 : putE (natB x.op.v.toNat) (sizeU x.inp.v.toNat : Int) = 0 ∧ putL (natB x.op.v.toNat) (natB x.inp.v.toNat) = natB x.op.v.toNat ++ natB x.inp.v.toNat := put_ok (L := natB x.op.v.toNat) (M := natB x.inp.v.toNat) (n := (sizeU x.inp.v.toNat : Int)) (by rw [natB_len]) t21
  have H21 : St W w17 (SinkA bk9 (natB x.op.v.toNat ++ natB x.inp.v.toNat) :: blk bk3 (.cells #[.int .i64 x.op.v, .int .i64 x.inp.v, .int .i64 x.ep.v, .int .i64 x.kind.v, .slice x.p x.bs.length x.c, .int .i64 x.t.v] 26 (0, 0)) :: bndsA x.bs :: Im 6 (.slice x.p x.bs.length x.c) x.bs.length (x.bs.flatMap bndCell) :: F) := by rw [← hk19.2]; exact H18
  refine r_nil (g_seq (g_region (Mv (.pointer (pa bk9)) (Fa 2 fi_26_2 rfl (Lo (.int .i64 x.ep.v) ag_2 H21 1 (rc (s_conv ((x.ep.v.toNat : Nat) : Int) rfl us_2 ik_61 ((wu64 t0).trans t0) rfl (rc (s_call [.pointer (pa bk9), .int .u64 ((x.ep.v.toNat : Nat) : Int)] pl_28 rfl rfl (Sink_Nat bk9 (natB x.op.v.toNat ++ natB x.inp.v.toNat) x.ep.v.toNat t0 t2 (i := 0) rfl H21) ?_)))))))))
  rintro _ w22 ⟨rfl, H23⟩
  have hk24 : putE (natB x.op.v.toNat ++ natB x.inp.v.toNat) (sizeU x.ep.v.toNat : Int) = 0 ∧ putL (natB x.op.v.toNat ++ natB x.inp.v.toNat) (natB x.ep.v.toNat) = natB x.op.v.toNat ++ natB x.inp.v.toNat ++ natB x.ep.v.toNat := put_ok (L := natB x.op.v.toNat ++ natB x.inp.v.toNat) (M := natB x.ep.v.toNat) (n := (sizeU x.ep.v.toNat : Int)) (by rw [natB_len]) t21
  have H26 : St W w22 (SinkA bk9 (natB x.op.v.toNat ++ natB x.inp.v.toNat ++ natB x.ep.v.toNat) :: blk bk3 (.cells #[.int .i64 x.op.v, .int .i64 x.inp.v, .int .i64 x.ep.v, .int .i64 x.kind.v, .slice x.p x.bs.length x.c, .int .i64 x.t.v] 26 (0, 0)) :: bndsA x.bs :: Im 6 (.slice x.p x.bs.length x.c) x.bs.length (x.bs.flatMap bndCell) :: F) := by rw [← hk24.2]; exact H23
  refine r_nil (g_seq (g_region (Mv (.pointer (pa bk9)) (Fa 3 fi_26_3 rfl (Lo (.int .i64 x.kind.v) ag_3 H26 1 (rc (s_conv ((x.kind.v.toNat : Nat) : Int) rfl us_3 ik_61 ((wu64 t0).trans t0) rfl (rc (s_call [.pointer (pa bk9), .int .u64 ((x.kind.v.toNat : Nat) : Int), .int .i64 2] pl_29 rfl rfl (Sink_Bits bk9 (natB x.op.v.toNat ++ natB x.inp.v.toNat ++ natB x.ep.v.toNat) x.kind.v.toNat 2 t0 t2 (i := 0) rfl H26) ?_)))))))))
  rintro _ w27 ⟨rfl, H28⟩
  have hk29 : bitsE (natB x.op.v.toNat ++ natB x.inp.v.toNat ++ natB x.ep.v.toNat) x.kind.v.toNat 2 = 0 ∧ bitsL (natB x.op.v.toNat ++ natB x.inp.v.toNat ++ natB x.ep.v.toNat) x.kind.v.toNat 2 = natB x.op.v.toNat ++ natB x.inp.v.toNat ++ natB x.ep.v.toNat ++ lowB x.kind.v.toNat 2 := (by have hh := bits_ok (L := natB x.op.v.toNat ++ natB x.inp.v.toNat ++ natB x.ep.v.toNat) (u := x.kind.v.toNat) (n := 2) (fits_small (k := 2) rfl t9 t0) t21; exact hh)
  have H31 : St W w27 (SinkA bk9 (natB x.op.v.toNat ++ natB x.inp.v.toNat ++ natB x.ep.v.toNat ++ lowB x.kind.v.toNat 2) :: blk bk3 (.cells #[.int .i64 x.op.v, .int .i64 x.inp.v, .int .i64 x.ep.v, .int .i64 x.kind.v, .slice x.p x.bs.length x.c, .int .i64 x.t.v] 26 (0, 0)) :: bndsA x.bs :: Im 6 (.slice x.p x.bs.length x.c) x.bs.length (x.bs.flatMap bndCell) :: F) := by rw [← hk29.2]; exact H28
  refine r_nil (g_seq (g_seq (g_region (Fa 3 fi_26_3 rfl (Lo (.int .i64 x.kind.v) ag_3 H31 1 (r_nil (g_block (g_seq (g_region ?_)))))))))
  by_cases hc32 : x.kind.v = 1
  ·refine rc (s_eql true rfl rfl (dtrue hc32) rfl (Ag (.bool true) (r_nil (g_true rfl (g_region (Mv (.pointer (pa bk9)) (Fa 4 fi_26_4 rfl (La [.slice x.p x.bs.length x.c] 1 ag_24 H31 1 ?_))))))))
   have hpt : ptE x.bs = 0 := by rcases q4 with h | h | h <;> omega
   have hbp := ptB_len_le hpt
   refine rc (s_call [.pointer (pa bk9), .agg #[.slice x.p x.bs.length x.c]] pl_30 rfl rfl (match_Put bk9 (natB x.op.v.toNat ++ natB x.inp.v.toNat ++ natB x.ep.v.toNat ++ lowB x.kind.v.toNat 2) x.bs _ hpt t21 (ip := 3) rfl (iq := 2) rfl (i := 0) rfl H31) ?_)
   rintro _ w33 ⟨rfl, H34⟩
   refine r_nil (g_inBlock (g_seq (g_region (Mv (.pointer (pa bk9)) (rc (s_call [.pointer (pa bk9)] pl_31 rfl rfl (Sink_Out bk9 (natB x.op.v.toNat ++ natB x.inp.v.toNat ++ natB x.ep.v.toNat ++ lowB x.kind.v.toNat 2 ++ ptB (x.bs.map BoundD.v)) t2 (i := 0) rfl H34) ?_))))))
   rintro _ w37 ⟨pp35, cc36, rfl, H38⟩
   refine Ag (.slice pp35 (((natB x.op.v.toNat ++ natB x.inp.v.toNat ++ natB x.ep.v.toNat ++ lowB x.kind.v.toNat 2 ++ ptB (x.bs.map BoundD.v)).length + 7) / 8) cc36) (Ag (.int .i64 0) (r_nil (Gr [.slice pp35 (((natB x.op.v.toNat ++ natB x.inp.v.toNat ++ natB x.ep.v.toNat ++ lowB x.kind.v.toNat 2 ++ ptB (x.bs.map BoundD.v)).length + 7) / 8) cc36, .int .i64 0] Tryz.func5 Tryz.results5 ?_)))
   have H39 : St W w37 (_ :: F) := (H38.mv [101, 101, 101, 101])
   have hdg : itB x.v = (natB x.op.v.toNat ++ natB x.inp.v.toNat ++ natB x.ep.v.toNat ++ lowB x.kind.v.toNat 2 ++ ptB (x.bs.map BoundD.v)) := by rw [itB_0]; show _ ++ itTail x.v = _; rw [itD_tail (k := x.kind.v) rfl]; rw [if_pos hc32]; simp only [List.nil_append, List.append_nil, List.append_assoc]; (try rfl)
   refine ⟨_, _, _, by rw [hok]; rfl, ?_, ?_⟩
   ·rw [itD_yes hok, hdg, pk_len]
   rw [itD_yes hok, hdg]
   exact H39
  refine rc (s_eql false rfl rfl (dfalse hc32) rfl (Ag (.bool false) (r_nil (g_false rfl (g_seq (g_region ?_))))))
  by_cases hc40 : x.kind.v = 2
  ·refine rc (s_eql true rfl rfl (dtrue hc40) rfl (Ag (.bool true) (r_nil (g_true rfl (g_region (Mv (.pointer (pa bk9)) ?_))))))
   have hz_t := sizeU_le (u := x.t.v.toNat) t0
   refine Fa 5 fi_26_5 rfl (Lo (.int .i64 x.t.v) ag_2 H31 1 (rc (s_conv ((x.t.v.toNat : Nat) : Int) rfl us_2 ik_61 ((wu64 t0).trans t0) rfl (rc (s_call [.pointer (pa bk9), .int .u64 ((x.t.v.toNat : Nat) : Int)] pl_28 rfl rfl (Sink_Nat bk9 (natB x.op.v.toNat ++ natB x.inp.v.toNat ++ natB x.ep.v.toNat ++ lowB x.kind.v.toNat 2) x.t.v.toNat t0 t2 (i := 0) rfl H31) ?_)))))
   rintro _ w41 ⟨rfl, H42⟩
   have hk43 : putE (natB x.op.v.toNat ++ natB x.inp.v.toNat ++ natB x.ep.v.toNat ++ lowB x.kind.v.toNat 2) (sizeU x.t.v.toNat : Int) = 0 ∧ putL (natB x.op.v.toNat ++ natB x.inp.v.toNat ++ natB x.ep.v.toNat ++ lowB x.kind.v.toNat 2) (natB x.t.v.toNat) = natB x.op.v.toNat ++ natB x.inp.v.toNat ++ natB x.ep.v.toNat ++ lowB x.kind.v.toNat 2 ++ natB x.t.v.toNat := put_ok (L := natB x.op.v.toNat ++ natB x.inp.v.toNat ++ natB x.ep.v.toNat ++ lowB x.kind.v.toNat 2) (M := natB x.t.v.toNat) (n := (sizeU x.t.v.toNat : Int)) (by rw [natB_len]) t21
   have H45 : St W w41 (SinkA bk9 (natB x.op.v.toNat ++ natB x.inp.v.toNat ++ natB x.ep.v.toNat ++ lowB x.kind.v.toNat 2 ++ natB x.t.v.toNat) :: blk bk3 (.cells #[.int .i64 x.op.v, .int .i64 x.inp.v, .int .i64 x.ep.v, .int .i64 x.kind.v, .slice x.p x.bs.length x.c, .int .i64 x.t.v] 26 (0, 0)) :: bndsA x.bs :: Im 6 (.slice x.p x.bs.length x.c) x.bs.length (x.bs.flatMap bndCell) :: F) := by rw [← hk43.2]; exact H42
   refine r_nil (g_inBlock (g_seq (g_region (Mv (.pointer (pa bk9)) (rc (s_call [.pointer (pa bk9)] pl_31 rfl rfl (Sink_Out bk9 (natB x.op.v.toNat ++ natB x.inp.v.toNat ++ natB x.ep.v.toNat ++ lowB x.kind.v.toNat 2 ++ natB x.t.v.toNat) t2 (i := 0) rfl H45) ?_))))))
   rintro _ w48 ⟨pp46, cc47, rfl, H49⟩
   refine Ag (.slice pp46 (((natB x.op.v.toNat ++ natB x.inp.v.toNat ++ natB x.ep.v.toNat ++ lowB x.kind.v.toNat 2 ++ natB x.t.v.toNat).length + 7) / 8) cc47) (Ag (.int .i64 0) (r_nil (Gr [.slice pp46 (((natB x.op.v.toNat ++ natB x.inp.v.toNat ++ natB x.ep.v.toNat ++ lowB x.kind.v.toNat 2 ++ natB x.t.v.toNat).length + 7) / 8) cc47, .int .i64 0] Tryz.func5 Tryz.results5 ?_)))
   have H50 : St W w48 (_ :: F) := (H49.mv [101, 101, 101, 101])
   have hdg : itB x.v = (natB x.op.v.toNat ++ natB x.inp.v.toNat ++ natB x.ep.v.toNat ++ lowB x.kind.v.toNat 2 ++ natB x.t.v.toNat) := by rw [itB_0]; show _ ++ itTail x.v = _; rw [itD_tail (k := x.kind.v) rfl]; rw [if_neg hc32]; rw [if_pos hc40]; simp only [List.nil_append, List.append_nil, List.append_assoc]; (try rfl)
   refine ⟨_, _, _, by rw [hok]; rfl, ?_, ?_⟩
   ·rw [itD_yes hok, hdg, pk_len]
   rw [itD_yes hok, hdg]
   exact H50
  refine rc (s_eql false rfl rfl (dfalse hc40) rfl (Ag (.bool false) (r_nil (g_false rfl (g_skip (g_inBlock (g_seq (g_region (Mv (.pointer (pa bk9)) (rc (s_call [.pointer (pa bk9)] pl_31 rfl rfl (Sink_Out bk9 (natB x.op.v.toNat ++ natB x.inp.v.toNat ++ natB x.ep.v.toNat ++ lowB x.kind.v.toNat 2) t2 (i := 0) rfl H31) ?_)))))))))))
  rintro _ w53 ⟨pp51, cc52, rfl, H54⟩
  refine Ag (.slice pp51 (((natB x.op.v.toNat ++ natB x.inp.v.toNat ++ natB x.ep.v.toNat ++ lowB x.kind.v.toNat 2).length + 7) / 8) cc52) (Ag (.int .i64 0) (r_nil (Gr [.slice pp51 (((natB x.op.v.toNat ++ natB x.inp.v.toNat ++ natB x.ep.v.toNat ++ lowB x.kind.v.toNat 2).length + 7) / 8) cc52, .int .i64 0] Tryz.func5 Tryz.results5 ?_)))
  have H55 : St W w53 (_ :: F) := (H54.mv [101, 101, 101, 101])
  have hdg : itB x.v = (natB x.op.v.toNat ++ natB x.inp.v.toNat ++ natB x.ep.v.toNat ++ lowB x.kind.v.toNat 2) := by rw [itB_0]; show _ ++ itTail x.v = _; rw [itD_tail (k := x.kind.v) rfl]; rw [if_neg hc32]; rw [if_neg hc40]; simp only [List.nil_append, List.append_nil, List.append_assoc]; (try rfl)
  refine ⟨_, _, _, by rw [hok]; rfl, ?_, ?_⟩
  ·rw [itD_yes hok, hdg, pk_len]
  rw [itD_yes hok, hdg]
  exact H55
 refine rc (s_neq true rfl rfl (nfalse hc8) rfl (r_nil (g_true rfl (g_seq (g_region (Mv (.int .i64 (itE x)) (Ag (.slice none 0 0) (Ag (.int .i64 (itE x)) (r_nil (Gr [.slice none 0 0, .int .i64 (itE x)] Tryz.func5 Tryz.results5 ?_))))))))))
 have H56 := Row.nil_intro H7 5 1
 have H57 : St W w6 (_ :: F) := (H56.mv [101, 101, 101])
 have hno : ¬ itE x = 0 := by assumption
 exact ⟨none, 0, 0, rfl, by rw [itD_no hno]; rfl, by rw [itD_no hno]; exact H57⟩
theorem ref24_ItemBytes (x : ItemD) {ip : Nat} (hp : F[ip]? = some (Im 6 (.slice x.p x.bs.length x.c) x.bs.length (x.bs.flatMap bndCell))) {iq : Nat} (hq : F[iq]? = some (bndsA x.bs)) (H : St W w F) : Calls Tryz.prog 6 #[.agg (itc x)] w (Ret fun v w' => ∃ p n c, v = .tuple #[.slice p n c, .int .i64 (itE x)] ∧ n = (itBytes x.v).length ∧ St W w' (Row 5 1 (.slice p n c) n ((itBytes x.v).flatMap u8c) :: F)) := by
 have H1 := (H.dup (i := ip + 0) t55 (Im_pers _ _ _ _)).dup (i := iq + 1) t51 (bndsA_pers _)
 have H2 : St W w (_ :: _ :: F) := H1
 refine calls_of_go (n := 50) Tryz.func6 rfl Tryz.ntmps6 rfl ?_
 refine g_seq (g_region (Bx H2 26 (itc x) (fun bk3 w4 H5 => Ag (.slice none 0 0) (Ag (.int .i64 0) (r_nil (g_seq (g_seq (g_region (La (itl x) 6 ag_26 H5 0 (rc (s_call [.agg (itc x)] pl_11 rfl rfl (ref24_CheckItem x (ip := 2) rfl (iq := 1) rfl H5) ?_)))))))))))
 rintro _ w6 ⟨rfl, H7⟩
 refine Ag (.int .i64 (itE x)) (r_nil (g_seq (g_region (Mv (.int .i64 (itE x)) ?_))))
 by_cases hc8 : itE x = 0
 ·refine rc (s_neq false rfl rfl (ntrue hc8) rfl (r_nil (g_false rfl (g_skip (g_seq ?_)))))
  have hok : itE x = 0 := by assumption
  obtain ⟨q1, q2, q3, q4⟩ := itD_is hok
  have hz_op := sizeU_le (u := x.op.v.toNat) t0
  have hz_inp := sizeU_le (u := x.inp.v.toNat) t0
  have hz_ep := sizeU_le (u := x.ep.v.toNat) t0
  refine g_mix (fun t_ w => St W w (blk bk3 (.cells (itc x) 26 (0, 0)) :: bndsA x.bs :: Im 6 (.slice x.p x.bs.length x.c) x.bs.length (x.bs.flatMap bndCell) :: t_)) F mixed 10 rfl H7.drew ?_
  refine Fv 0 rfl (fun t_ w hw => x_fieldAddr 26 0 0 0 3 rfl fi_26_0 rfl w) (Fv 1 rfl (fun t_ w hw => x_load (.int .i64 x.op.v) ag_3 rfl (hw.blk_at (i := 0) rfl) rfl) (Fv 2 rfl (fun t_ w hw => x_conv ((x.op.v.toNat : Nat) : Int) rfl us_3 ik_61 ((wu64 t0).trans t0) w) (Fv 4 rfl (fun t_ w hw => x_fieldAddr 26 1 1 1 3 rfl fi_26_1 rfl w) (Fv 5 rfl (fun t_ w hw => x_load (.int .i64 x.inp.v) ag_3 rfl (hw.blk_at (i := 0) rfl) rfl) (Fv 6 rfl (fun t_ w hw => x_conv ((x.inp.v.toNat : Nat) : Int) rfl us_3 ik_61 ((wu64 t0).trans t0) w) ?_)))))
  refine f_all (rs := [3]) t5 t13 ?_
  refine a_cons ⟨_, rfl, ?_⟩ (fun x hx => absurd hx t13)
  intro w9 H10
  try dsimp only at H10
  refine s_call [.int .u64 ((x.op.v.toNat : Nat) : Int)] pl_32 rfl rfl (ref01_Nat x.op.v.toNat t0 H10) ?_
  rintro _ w13 ⟨pp11, cc12, rfl, H14⟩
  have H15 : St W w13 (_ :: _ :: _ :: _ :: F) := (H14.mv [3, 3, 3])
  refine ⟨Row 4 1 (.slice pp11 (sizeU x.op.v.toNat) cc12) (sizeU x.op.v.toNat) ((natB x.op.v.toNat).flatMap blc) :: F, ?_, H15⟩
  change FReg _ _ _ _ _ #[true, true, true, true, true, true, true, false, false, false] _ _
  refine f_all (rs := [7]) t5 t13 ?_
  refine a_cons ⟨_, rfl, ?_⟩ (fun x hx => absurd hx t13)
  intro w16 H17
  try dsimp only at H17
  refine s_call [.int .u64 ((x.inp.v.toNat : Nat) : Int)] pl_32 rfl rfl (ref01_Nat x.inp.v.toNat t0 H17) ?_
  rintro _ w20 ⟨pp18, cc19, rfl, H21⟩
  have H22 : St W w20 (_ :: _ :: _ :: _ :: _ :: F) := (H21.mv [4, 1, 4, 4, 4])
  refine ⟨Row 4 1 (.slice pp18 (sizeU x.inp.v.toNat) cc19) (sizeU x.inp.v.toNat) ((natB x.inp.v.toNat).flatMap blc) :: Row 4 1 (.slice pp11 (sizeU x.op.v.toNat) cc12) (sizeU x.op.v.toNat) ((natB x.op.v.toNat).flatMap blc) :: F, ?_, H22⟩
  change FReg _ _ _ _ _ #[true, true, true, true, true, true, true, true, false, false] _ _
  refine f_all (rs := [8]) t5 t13 ?_
  refine a_cons ⟨_, rfl, ?_⟩ (fun x hx => absurd hx t13)
  intro w23 H24
  try dsimp only at H24
  refine s_append H24 4 rfl rfl rfl (Row.rd H24 (i := 3) rfl) ap_39 t9 t12 t0 (n' := sizeU x.op.v.toNat + sizeU x.inp.v.toNat) (xs' := (natB x.op.v.toNat ++ (natB x.inp.v.toNat)).flatMap blc) t0 t59 rfl ?_; intro vv25 w26 H27 hn28
  obtain ⟨pp29, cc30, rfl⟩ := Row.slice H27 (i := 4) rfl
  refine ⟨Row 4 1 (.slice pp18 (sizeU x.inp.v.toNat) cc19) (sizeU x.inp.v.toNat) ((natB x.inp.v.toNat).flatMap blc) :: Row 4 1 (.slice pp29 (sizeU x.op.v.toNat + sizeU x.inp.v.toNat) cc30) (sizeU x.op.v.toNat + sizeU x.inp.v.toNat) ((natB x.op.v.toNat ++ (natB x.inp.v.toNat)).flatMap blc) :: F, ?_, H27⟩
  change FReg _ _ _ _ _ #[true, true, true, true, true, true, true, true, true, false] _ _
  refine Fv 9 rfl (fun t_ w hw => x_assign (.slice pp29 (sizeU x.op.v.toNat + sizeU x.inp.v.toNat) cc30) rfl w) ?_
  refine f_done t5 ?_
  intro w31 H32
  refine g_seq ?_
  refine g_mix (fun t_ w => St W w (blk bk3 (.cells (itc x) 26 (0, 0)) :: bndsA x.bs :: Im 6 (.slice x.p x.bs.length x.c) x.bs.length (x.bs.flatMap bndCell) :: Row 4 1 (.slice pp18 (sizeU x.inp.v.toNat) cc19) (sizeU x.inp.v.toNat) ((natB x.inp.v.toNat).flatMap blc) :: t_)) (Row 4 1 (.slice pp29 (sizeU x.op.v.toNat + sizeU x.inp.v.toNat) cc30) (sizeU x.op.v.toNat + sizeU x.inp.v.toNat) ((natB x.op.v.toNat ++ (natB x.inp.v.toNat)).flatMap blc) :: F) mixed 12 rfl H32.drew ?_
  refine Fv 0 rfl (fun _ w _ => x_move (.slice pp29 (sizeU x.op.v.toNat + sizeU x.inp.v.toNat) cc30) rfl w) (Fv 1 rfl (fun t_ w hw => x_fieldAddr 26 2 2 2 2 rfl fi_26_2 rfl w) (Fv 2 rfl (fun t_ w hw => x_load (.int .i64 x.ep.v) ag_2 rfl (hw.blk_at (i := 0) rfl) rfl) (Fv 3 rfl (fun t_ w hw => x_conv ((x.ep.v.toNat : Nat) : Int) rfl us_2 ik_61 ((wu64 t0).trans t0) w) (Fv 6 rfl (fun t_ w hw => x_fieldAddr 26 3 3 3 3 rfl fi_26_3 rfl w) (Fv 7 rfl (fun t_ w hw => x_load (.int .i64 x.kind.v) ag_3 rfl (hw.blk_at (i := 0) rfl) rfl) (Fv 8 rfl (fun t_ w hw => x_conv ((x.kind.v.toNat : Nat) : Int) rfl us_3 ik_61 ((wu64 t0).trans t0) w) ?_))))))
  refine f_all (rs := [4]) t5 t13 ?_
  refine a_cons ⟨_, rfl, ?_⟩ (fun x hx => absurd hx t13)
  intro w33 H34
  try dsimp only at H34
  refine s_call [.int .u64 ((x.ep.v.toNat : Nat) : Int)] pl_32 rfl rfl (ref01_Nat x.ep.v.toNat t0 H34) ?_
  rintro _ w37 ⟨pp35, cc36, rfl, H38⟩
  have H39 : St W w37 (_ :: _ :: _ :: _ :: _ :: _ :: F) := (H38.mv [5, 1, 5, 5, 5, 5])
  refine ⟨Row 4 1 (.slice pp35 (sizeU x.ep.v.toNat) cc36) (sizeU x.ep.v.toNat) ((natB x.ep.v.toNat).flatMap blc) :: Row 4 1 (.slice pp29 (sizeU x.op.v.toNat + sizeU x.inp.v.toNat) cc30) (sizeU x.op.v.toNat + sizeU x.inp.v.toNat) ((natB x.op.v.toNat ++ (natB x.inp.v.toNat)).flatMap blc) :: F, ?_, H39⟩
  change FReg _ _ _ _ _ #[true, true, true, true, true, false, true, true, true, false, false, false] _ _
  refine f_all (rs := [5]) t5 t13 ?_
  refine a_cons ⟨_, rfl, ?_⟩ (fun x hx => absurd hx t13)
  intro w40 H41
  try dsimp only at H41
  refine s_append H41 5 rfl rfl rfl (Row.rd H41 (i := 4) rfl) ap_39 t9 t12 t0 (n' := sizeU x.op.v.toNat + sizeU x.inp.v.toNat + sizeU x.ep.v.toNat) (xs' := (natB x.op.v.toNat ++ (natB x.inp.v.toNat) ++ (natB x.ep.v.toNat)).flatMap blc) t0 t59 rfl ?_; intro vv42 w43 H44 hn45
  obtain ⟨pp46, cc47, rfl⟩ := Row.slice H44 (i := 5) rfl
  refine ⟨Row 4 1 (.slice pp35 (sizeU x.ep.v.toNat) cc36) (sizeU x.ep.v.toNat) ((natB x.ep.v.toNat).flatMap blc) :: Row 4 1 (.slice pp46 (sizeU x.op.v.toNat + sizeU x.inp.v.toNat + sizeU x.ep.v.toNat) cc47) (sizeU x.op.v.toNat + sizeU x.inp.v.toNat + sizeU x.ep.v.toNat) ((natB x.op.v.toNat ++ (natB x.inp.v.toNat) ++ (natB x.ep.v.toNat)).flatMap blc) :: F, ?_, H44⟩
  change FReg _ _ _ _ _ #[true, true, true, true, true, true, true, true, true, false, false, false] _ _
  refine f_all (rs := [9]) t5 t13 ?_
  refine a_cons ⟨_, rfl, ?_⟩ (fun x hx => absurd hx t13)
  intro w48 H49
  try dsimp only at H49
  refine s_call [.int .u64 ((x.kind.v.toNat : Nat) : Int), .int .i64 2] pl_33 rfl rfl (ref01_Low x.kind.v.toNat 2 t0 t0 H49) ?_
  rintro _ w52 ⟨pp50, cc51, rfl, H53⟩
  have H54 : St W w52 (_ :: _ :: _ :: _ :: _ :: _ :: _ :: F) := (H53.mv [6, 6, 2, 6, 6, 6, 6])
  refine ⟨Row 4 1 (.slice pp50 2 cc51) 2 ((lowB x.kind.v.toNat 2).flatMap blc) :: Row 4 1 (.slice pp35 (sizeU x.ep.v.toNat) cc36) (sizeU x.ep.v.toNat) ((natB x.ep.v.toNat).flatMap blc) :: Row 4 1 (.slice pp46 (sizeU x.op.v.toNat + sizeU x.inp.v.toNat + sizeU x.ep.v.toNat) cc47) (sizeU x.op.v.toNat + sizeU x.inp.v.toNat + sizeU x.ep.v.toNat) ((natB x.op.v.toNat ++ (natB x.inp.v.toNat) ++ (natB x.ep.v.toNat)).flatMap blc) :: F, ?_, H54⟩
  change FReg _ _ _ _ _ #[true, true, true, true, true, true, true, true, true, true, false, false] _ _
  refine f_all (rs := [10]) t5 t13 ?_
  refine a_cons ⟨_, rfl, ?_⟩ (fun x hx => absurd hx t13)
  intro w55 H56
  try dsimp only at H56
  refine s_append H56 6 rfl rfl rfl (Row.rd H56 (i := 4) rfl) ap_39 t9 t12 t0 (n' := sizeU x.op.v.toNat + sizeU x.inp.v.toNat + sizeU x.ep.v.toNat + 2) (xs' := (natB x.op.v.toNat ++ (natB x.inp.v.toNat) ++ (natB x.ep.v.toNat) ++ (lowB x.kind.v.toNat 2)).flatMap blc) t0 t59 rfl ?_; intro vv57 w58 H59 hn60
  obtain ⟨pp61, cc62, rfl⟩ := Row.slice H59 (i := 6) rfl
  refine ⟨Row 4 1 (.slice pp50 2 cc51) 2 ((lowB x.kind.v.toNat 2).flatMap blc) :: Row 4 1 (.slice pp35 (sizeU x.ep.v.toNat) cc36) (sizeU x.ep.v.toNat) ((natB x.ep.v.toNat).flatMap blc) :: Row 4 1 (.slice pp61 (sizeU x.op.v.toNat + sizeU x.inp.v.toNat + sizeU x.ep.v.toNat + 2) cc62) (sizeU x.op.v.toNat + sizeU x.inp.v.toNat + sizeU x.ep.v.toNat + 2) ((natB x.op.v.toNat ++ (natB x.inp.v.toNat) ++ (natB x.ep.v.toNat) ++ (lowB x.kind.v.toNat 2)).flatMap blc) :: F, ?_, H59⟩
  change FReg _ _ _ _ _ #[true, true, true, true, true, true, true, true, true, true, true, false] _ _
  refine Fv 11 rfl (fun t_ w hw => x_assign (.slice pp61 (sizeU x.op.v.toNat + sizeU x.inp.v.toNat + sizeU x.ep.v.toNat + 2) cc62) rfl w) ?_
  refine f_done t5 ?_
  intro w63 H64
  refine g_seq (g_seq (g_region (Fa 3 fi_26_3 rfl (Lo (.int .i64 x.kind.v) ag_3 H64 0 (r_nil (g_block (g_seq (g_region ?_))))))))
  by_cases hc65 : x.kind.v = 1
  ·refine rc (s_eql true rfl rfl (dtrue hc65) rfl (Ag (.bool true) (r_nil (g_true rfl (g_region (Mv (.slice pp61 (sizeU x.op.v.toNat + sizeU x.inp.v.toNat + sizeU x.ep.v.toNat + 2) cc62) (Fa 4 fi_26_4 rfl (La [.slice x.p x.bs.length x.c] 1 ag_24 H64 0 ?_))))))))
   have hpt : ptE x.bs = 0 := by rcases q4 with h | h | h <;> omega
   have hbp := ptB_len_le hpt
   refine rc (s_call [.agg #[.slice x.p x.bs.length x.c]] pl_34 rfl rfl (ref10_Form x.bs _ hpt (ip := 2) rfl (iq := 1) rfl H64) ?_)
   rintro _ w68 ⟨pp66, _, cc67, rfl, rfl, H69⟩
   refine rc (s_append H69 7 rfl rfl rfl (Row.rd H69 (i := 0) rfl) ap_39 t9 t12 t0 (n' := sizeU x.op.v.toNat + sizeU x.inp.v.toNat + sizeU x.ep.v.toNat + 2 + (ptB (x.bs.map BoundD.v)).length) (xs' := (natB x.op.v.toNat ++ (natB x.inp.v.toNat) ++ (natB x.ep.v.toNat) ++ (lowB x.kind.v.toNat 2) ++ (ptB (x.bs.map BoundD.v))).flatMap blc) t0 t59 rfl ?_); intro vv70 w71 H72 hn73
   obtain ⟨pp74, cc75, rfl⟩ := Row.slice H72 (i := 7) rfl
   refine Ag (.slice pp74 (sizeU x.op.v.toNat + sizeU x.inp.v.toNat + sizeU x.ep.v.toNat + 2 + (ptB (x.bs.map BoundD.v)).length) cc75) (r_nil (g_inBlock (g_seq (g_region (Mv (.slice pp74 (sizeU x.op.v.toNat + sizeU x.inp.v.toNat + sizeU x.ep.v.toNat + 2 + (ptB (x.bs.map BoundD.v)).length) cc75) ?_)))))
   have H76 : St W w71 (_ :: _ :: _ :: _ :: _ :: _ :: _ :: _ :: F) := Row.im H72 (i := 7) rfl
   refine rc (s_call [.slice pp74 (sizeU x.op.v.toNat + sizeU x.inp.v.toNat + sizeU x.ep.v.toNat + 2 + (ptB (x.bs.map BoundD.v)).length) cc75] pl_35 rfl rfl (ref01_Pack (natB x.op.v.toNat ++ (natB x.inp.v.toNat) ++ (natB x.ep.v.toNat) ++ (lowB x.kind.v.toNat 2) ++ (ptB (x.bs.map BoundD.v))) (sizeU x.op.v.toNat + sizeU x.inp.v.toNat + sizeU x.ep.v.toNat + 2 + (ptB (x.bs.map BoundD.v)).length) _ t36 t0 (j := 7) rfl H76) ?_)
   rintro _ w79 ⟨pp77, cc78, rfl, H80⟩
   refine Ag (.slice pp77 (((natB x.op.v.toNat ++ (natB x.inp.v.toNat) ++ (natB x.ep.v.toNat) ++ (lowB x.kind.v.toNat 2) ++ (ptB (x.bs.map BoundD.v))).length + 7) / 8) cc78) (Ag (.int .i64 0) (r_nil (Gr [.slice pp77 (((natB x.op.v.toNat ++ (natB x.inp.v.toNat) ++ (natB x.ep.v.toNat) ++ (lowB x.kind.v.toNat 2) ++ (ptB (x.bs.map BoundD.v))).length + 7) / 8) cc78, .int .i64 0] Tryz.func6 Tryz.results6 ?_)))
   have H81 : St W w79 (_ :: F) := (H80.mv [101, 101, 101, 101, 101, 101, 101, 101])
   have hdg : itB x.v = (natB x.op.v.toNat ++ (natB x.inp.v.toNat) ++ (natB x.ep.v.toNat) ++ (lowB x.kind.v.toNat 2) ++ (ptB (x.bs.map BoundD.v))) := by rw [itB_0]; show _ ++ itTail x.v = _; rw [itD_tail (k := x.kind.v) rfl]; rw [if_pos hc65]; simp only [List.nil_append, List.append_nil, List.append_assoc]; (try rfl)
   refine ⟨_, _, _, by rw [hok]; rfl, ?_, ?_⟩
   ·rw [itD_yes hok, hdg, pk_len]
   rw [itD_yes hok, hdg]
   exact H81
  refine rc (s_eql false rfl rfl (dfalse hc65) rfl (Ag (.bool false) (r_nil (g_false rfl (g_seq (g_region ?_))))))
  by_cases hc82 : x.kind.v = 2
  ·refine rc (s_eql true rfl rfl (dtrue hc82) rfl (Ag (.bool true) (r_nil (g_true rfl (g_region (Mv (.slice pp61 (sizeU x.op.v.toNat + sizeU x.inp.v.toNat + sizeU x.ep.v.toNat + 2) cc62) ?_))))))
   have hz_t := sizeU_le (u := x.t.v.toNat) t0
   refine Fa 5 fi_26_5 rfl (Lo (.int .i64 x.t.v) ag_2 H64 0 (rc (s_conv ((x.t.v.toNat : Nat) : Int) rfl us_2 ik_61 ((wu64 t0).trans t0) rfl (rc (s_call [.int .u64 ((x.t.v.toNat : Nat) : Int)] pl_32 rfl rfl (ref01_Nat x.t.v.toNat t0 H64) ?_)))))
   rintro _ w85 ⟨pp83, cc84, rfl, H86⟩
   refine rc (s_append H86 7 rfl rfl rfl (Row.rd H86 (i := 0) rfl) ap_39 t9 t12 t0 (n' := sizeU x.op.v.toNat + sizeU x.inp.v.toNat + sizeU x.ep.v.toNat + 2 + sizeU x.t.v.toNat) (xs' := (natB x.op.v.toNat ++ (natB x.inp.v.toNat) ++ (natB x.ep.v.toNat) ++ (lowB x.kind.v.toNat 2) ++ (natB x.t.v.toNat)).flatMap blc) t0 t59 rfl ?_); intro vv87 w88 H89 hn90
   obtain ⟨pp91, cc92, rfl⟩ := Row.slice H89 (i := 7) rfl
   refine Ag (.slice pp91 (sizeU x.op.v.toNat + sizeU x.inp.v.toNat + sizeU x.ep.v.toNat + 2 + sizeU x.t.v.toNat) cc92) (r_nil (g_inBlock (g_seq (g_region (Mv (.slice pp91 (sizeU x.op.v.toNat + sizeU x.inp.v.toNat + sizeU x.ep.v.toNat + 2 + sizeU x.t.v.toNat) cc92) ?_)))))
   have H93 : St W w88 (_ :: _ :: _ :: _ :: _ :: _ :: _ :: _ :: F) := Row.im H89 (i := 7) rfl
   refine rc (s_call [.slice pp91 (sizeU x.op.v.toNat + sizeU x.inp.v.toNat + sizeU x.ep.v.toNat + 2 + sizeU x.t.v.toNat) cc92] pl_35 rfl rfl (ref01_Pack (natB x.op.v.toNat ++ (natB x.inp.v.toNat) ++ (natB x.ep.v.toNat) ++ (lowB x.kind.v.toNat 2) ++ (natB x.t.v.toNat)) (sizeU x.op.v.toNat + sizeU x.inp.v.toNat + sizeU x.ep.v.toNat + 2 + sizeU x.t.v.toNat) _ t36 t0 (j := 7) rfl H93) ?_)
   rintro _ w96 ⟨pp94, cc95, rfl, H97⟩
   refine Ag (.slice pp94 (((natB x.op.v.toNat ++ (natB x.inp.v.toNat) ++ (natB x.ep.v.toNat) ++ (lowB x.kind.v.toNat 2) ++ (natB x.t.v.toNat)).length + 7) / 8) cc95) (Ag (.int .i64 0) (r_nil (Gr [.slice pp94 (((natB x.op.v.toNat ++ (natB x.inp.v.toNat) ++ (natB x.ep.v.toNat) ++ (lowB x.kind.v.toNat 2) ++ (natB x.t.v.toNat)).length + 7) / 8) cc95, .int .i64 0] Tryz.func6 Tryz.results6 ?_)))
   have H98 : St W w96 (_ :: F) := (H97.mv [101, 101, 101, 101, 101, 101, 101, 101])
   have hdg : itB x.v = (natB x.op.v.toNat ++ (natB x.inp.v.toNat) ++ (natB x.ep.v.toNat) ++ (lowB x.kind.v.toNat 2) ++ (natB x.t.v.toNat)) := by rw [itB_0]; show _ ++ itTail x.v = _; rw [itD_tail (k := x.kind.v) rfl]; rw [if_neg hc65]; rw [if_pos hc82]; simp only [List.nil_append, List.append_nil, List.append_assoc]; (try rfl)
   refine ⟨_, _, _, by rw [hok]; rfl, ?_, ?_⟩
   ·rw [itD_yes hok, hdg, pk_len]
   rw [itD_yes hok, hdg]
   exact H98
  refine rc (s_eql false rfl rfl (dfalse hc82) rfl (Ag (.bool false) (r_nil (g_false rfl (g_skip (g_inBlock (g_seq (g_region (Mv (.slice pp61 (sizeU x.op.v.toNat + sizeU x.inp.v.toNat + sizeU x.ep.v.toNat + 2) cc62) ?_)))))))))
  have H99 : St W w63 (_ :: _ :: _ :: _ :: _ :: _ :: _ :: F) := Row.im H64 (i := 6) rfl
  refine rc (s_call [.slice pp61 (sizeU x.op.v.toNat + sizeU x.inp.v.toNat + sizeU x.ep.v.toNat + 2) cc62] pl_35 rfl rfl (ref01_Pack (natB x.op.v.toNat ++ (natB x.inp.v.toNat) ++ (natB x.ep.v.toNat) ++ (lowB x.kind.v.toNat 2)) (sizeU x.op.v.toNat + sizeU x.inp.v.toNat + sizeU x.ep.v.toNat + 2) _ t36 t0 (j := 6) rfl H99) ?_)
  rintro _ w102 ⟨pp100, cc101, rfl, H103⟩
  refine Ag (.slice pp100 (((natB x.op.v.toNat ++ (natB x.inp.v.toNat) ++ (natB x.ep.v.toNat) ++ (lowB x.kind.v.toNat 2)).length + 7) / 8) cc101) (Ag (.int .i64 0) (r_nil (Gr [.slice pp100 (((natB x.op.v.toNat ++ (natB x.inp.v.toNat) ++ (natB x.ep.v.toNat) ++ (lowB x.kind.v.toNat 2)).length + 7) / 8) cc101, .int .i64 0] Tryz.func6 Tryz.results6 ?_)))
  have H104 : St W w102 (_ :: F) := (H103.mv [101, 101, 101, 101, 101, 101, 101])
  have hdg : itB x.v = (natB x.op.v.toNat ++ (natB x.inp.v.toNat) ++ (natB x.ep.v.toNat) ++ (lowB x.kind.v.toNat 2)) := by rw [itB_0]; show _ ++ itTail x.v = _; rw [itD_tail (k := x.kind.v) rfl]; rw [if_neg hc65]; rw [if_neg hc82]; simp only [List.nil_append, List.append_nil, List.append_assoc]; (try rfl)
  refine ⟨_, _, _, by rw [hok]; rfl, ?_, ?_⟩
  ·rw [itD_yes hok, hdg, pk_len]
  rw [itD_yes hok, hdg]
  exact H104
 refine rc (s_neq true rfl rfl (nfalse hc8) rfl (r_nil (g_true rfl (g_seq (g_region (Mv (.int .i64 (itE x)) (Ag (.slice none 0 0) (Ag (.int .i64 (itE x)) (r_nil (Gr [.slice none 0 0, .int .i64 (itE x)] Tryz.func6 Tryz.results6 ?_))))))))))
 have H105 := Row.nil_intro H7 5 1
 have H106 : St W w6 (_ :: F) := (H105.mv [101, 101, 101])
 have hno : ¬ itE x = 0 := by assumption
 exact ⟨none, 0, 0, rfl, by rw [itD_no hno]; rfl, by rw [itD_no hno]; exact H106⟩
theorem match_bounds (b : Nat) (bs : List UInt8) (p : Nat) (hp : p ≤ 8 * bs.length) (hb : bs.length ≤ 140737488355328) {i : Nat} (hi : F[i]? = some (SrcA b bs p)) (H : St W w F) : Calls Tryz.prog 77 #[.pointer (pa b)] w (Ret fun v w' => (qtE (remB bs p) = 0 ∧ ∃ (L : List BoundD) (q : Option Addr) (c p' : Nat), v = .tuple #[.agg #[.slice q L.length c], .int .i64 0] ∧ L.map BoundD.v = qtV (remB bs p) ∧ remB bs p' = qtR (remB bs p) ∧ p' ≤ 8 * bs.length ∧ St W w' (Im 6 (.slice q L.length c) L.length (L.flatMap bndCell) :: bndsA L :: F.set i (SrcA b bs p'))) ∨ (¬ qtE (remB bs p) = 0 ∧ ∃ q n c p', v = .tuple #[.agg #[.slice q n c], .int .i64 (qtE (remB bs p))] ∧ St W w' (F.set i (SrcA b bs p')))) := by
 have H0 := H.front hi
 refine calls_of_go (n := 55) Tryz.func77 rfl Tryz.ntmps77 rfl ?_
 refine g_seq (g_region (rc (s_alloc H0 24 ze_24 rfl (fun bk1 w2 H3 => Ag (.int .i64 0) (r_nil (g_seq (g_region (rc (s_alloc H3 24 ze_24 rfl (fun bk4 w5 H6 => r_nil (g_seq (g_region (Mv (.pointer (pa b)) (rc (s_call [.pointer (pa b), .int .i64 4] pl_76 rfl rfl (Src_Bits b bs p t4 t18 4  (i := 2) rfl H6) ?_)))))))))))))))
 rintro _ w7 ⟨rfl, H8⟩
 refine Mv (.tuple #[.int .u64 (srcU (remB bs p) 4 : Int), .int .i64 (srcE (remB bs p) 4)]) (Ex (.int .u64 (srcU (remB bs p) 4 : Int)) (Ex (.int .i64 (srcE (remB bs p) 4)) (Ag (.int .u64 (srcU (remB bs p) 4 : Int)) (Ag (.int .i64 (srcE (remB bs p) 4)) (r_nil (g_seq (g_seq (g_region (Mv (.int .i64 (srcE (remB bs p) 4)) ?_)))))))))
 by_cases hc9 : srcE (remB bs p) 4 = 0
 ·refine rc (s_neq false rfl rfl (ntrue hc9) rfl (r_nil (g_false rfl (g_skip (g_seq (g_seq (g_region (Mv (.int .u64 (srcU (remB bs p) 4 : Int)) ?_))))))))
  by_cases hc10 : (12 : Int) < (srcU (remB bs p) 4 : Int)
  ·refine rc (s_gtr true rfl rfl (dtrue hc10) rfl (r_nil (g_true rfl (g_seq (g_region (La [.slice none 0 0] 1 ag_24 H8 0 (Sa H8 1 rfl #[.slice none 0 0] 1 sz_24 #[.slice none 0 0] (fun w11 H12 => Ag (.int .i64 100) (r_nil ?_)))))))))
   refine g_ret' [.agg #[.slice none 0 0], .int .i64 100] Tryz.func77 Tryz.results77 ⟨(res_cellN rfl ag_24 (H12.blk_at (i := 1) rfl) (nbl rfl) rfl), rfl, trivial⟩ ?_
   have H13 : St W w11 (_ :: (F.set i emp)) := (H12.mv [2, 101, 101])
   have hE : qtE (remB bs p) = 100 := qt_2 hc9 t0
   have hE0 : ¬ qtE (remB bs p) = 0 := by rw [hE]; first | assumption | decide
   exact .inr ⟨hE0, _, _, _, _, by rw [hE]; rfl, St.back hi H13⟩
  refine rc (s_gtr false rfl rfl (dfalse hc10) rfl (r_nil (g_false rfl (g_skip (g_seq (g_seq (g_region (Mv (.int .u64 (srcU (remB bs p) 4 : Int)) (Mv (.int .u64 0) (r_nil (g_block ?_)))))))))))
  have g1 : remB bs (p + srcN (remB bs p) 4) = (remB bs p).drop (srcN (remB bs p) 4) := (remB_drop bs p _).symm
  have hs4 : srcE (remB bs p) 4 = 0 := hc9
  have hp1 : p + srcN (remB bs p) 4 ≤ 8 * bs.length := t4
  have H14 := Row.nil_intro H8 121 6
  have H15 := bndsA_nil H14
  have H16 : St W w7 (_ :: _ :: _ :: _ :: _ :: (F.set i emp)) := (H15.mv [3, 3, 4, 3, 4])
  refine g_loop_inv (fun ((j, pre, pj, q, d) : Nat × (List BoundD) × Nat × (Option Addr) × Nat) => [(0, .pointer (pa b)), (2, .pointer (pa bk1)), (3, .int .i64 0), (4, .pointer (pa bk4)), (22, .int .u64 (srcU (remB bs p) 4 : Int)), (23, .int .u64 (j : Int))]) (fun (j, pre, pj, q, d) w => (j ≤ srcU (remB bs p) 4) ∧ ((rbs j (remB bs (p + srcN (remB bs p) 4))).1 = 0) ∧ (pre.map BoundD.v = (rbs j (remB bs (p + srcN (remB bs p) 4))).2.1) ∧ (remB bs pj = (rbs j (remB bs (p + srcN (remB bs p) 4))).2.2) ∧ (pj ≤ 8 * bs.length) ∧ St W w (Row 121 6 (.slice q pre.length d) pre.length (pre.flatMap bndCell) :: bndsA pre :: SrcA b bs pj :: blk bk4 (.cells #[.slice q pre.length d] 24 (0, 0)) :: blk bk1 (.cells #[.slice none 0 0] 24 (0, 0)) :: (F.set i emp))) (fun (j, pre, pj, q, d) => srcU (remB bs p) 4 - j) (0, [], p + srcN (remB bs p) 4, none, 0) ?_ ?_ ?_
  ·exact t1
  ·exact ⟨t0, rfl, rfl, rfl, hp1, H16⟩
  rintro ⟨j, pre, pj, q, d⟩ ρ17 w18 ⟨hjn, hrj, hVj, hRj, hpj, H19⟩ nx20
  change Ends _ _ (upds ρ17 [(0, .pointer (pa b)), (2, .pointer (pa bk1)), (3, .int .i64 0), (4, .pointer (pa bk4)), (22, .int .u64 (srcU (remB bs p) 4 : Int)), (23, .int .u64 (j : Int))]) w18
  have hpl := bv_len2 hVj
  have hrl := (rbs_len (R := remB bs (p + srcN (remB bs p) 4)) j).1
  have hlt4 : srcU (remB bs p) 4 < 16 := srcU_lt_pow (k := 4)
  refine g_seq (g_region ?_)
  by_cases hc21 : (j : Int) < (srcU (remB bs p) 4 : Int)
  ·refine rc (s_lss true rfl rfl (dtrue hc21) rfl (r_nil (g_seq (g_true rfl (g_skip (g_seq (g_block (g_seq (g_region (Mv (.pointer (pa b)) (rc (s_call [.pointer (pa b)] pl_102 rfl rfl (Src_Text b bs pj t4 t18 (i := 2) rfl H19) ?_))))))))))))
   rintro _ w22 ⟨rfl, H23⟩
   refine Mv (.tuple #[.string (textS (remB bs pj)), .int .i64 (textE (remB bs pj))]) (Ex (.string (textS (remB bs pj))) (Ex (.int .i64 (textE (remB bs pj))) (Ag (.string (textS (remB bs pj))) (Ag (.int .i64 (textE (remB bs pj))) (r_nil (g_seq (g_seq (g_region (Mv (.int .i64 (textE (remB bs pj))) ?_)))))))))
   by_cases hc24 : textE (remB bs pj) = 0
   ·refine rc (s_neq false rfl rfl (ntrue hc24) rfl (r_nil (g_false rfl (g_skip (g_seq (g_region (Mv (.pointer (pa b)) (rc (s_call [.pointer (pa b)] pl_103 rfl rfl (event_Take b bs (pj + textN (remB bs pj)) t4 t0 (i := 2) rfl H23) ?_)))))))))
    rintro _ w30 ⟨pp25, _, cc26, q27, rfl, rfl, hR28, hp29, H31⟩
    refine Mv (.tuple #[.agg #[.int .i64 ((tkV (remB bs (pj + textN (remB bs pj)))).src.v), .int .i64 ((tkV (remB bs (pj + textN (remB bs pj)))).seq.v), .int .i64 ((tkV (remB bs (pj + textN (remB bs pj)))).time.v), .string ((tkV (remB bs (pj + textN (remB bs pj)))).typ.v), .slice pp25 ((tkV (remB bs (pj + textN (remB bs pj)))).attrs.length) cc26], .int .i64 (tkE (remB bs (pj + textN (remB bs pj))))]) (Ex (.agg #[.int .i64 ((tkV (remB bs (pj + textN (remB bs pj)))).src.v), .int .i64 ((tkV (remB bs (pj + textN (remB bs pj)))).seq.v), .int .i64 ((tkV (remB bs (pj + textN (remB bs pj)))).time.v), .string ((tkV (remB bs (pj + textN (remB bs pj)))).typ.v), .slice pp25 ((tkV (remB bs (pj + textN (remB bs pj)))).attrs.length) cc26]) (Ex (.int .i64 (tkE (remB bs (pj + textN (remB bs pj))))) (rc (s_alloc H31 119 ze_119 rfl (fun bk32 w33 H34 => Sa H34 0 rfl #[.int .i64 ((tkV (remB bs (pj + textN (remB bs pj)))).src.v), .int .i64 ((tkV (remB bs (pj + textN (remB bs pj)))).seq.v), .int .i64 ((tkV (remB bs (pj + textN (remB bs pj)))).time.v), .string ((tkV (remB bs (pj + textN (remB bs pj)))).typ.v), .slice pp25 ((tkV (remB bs (pj + textN (remB bs pj)))).attrs.length) cc26] 5 sz_119 #[.int .i64 ((tkV (remB bs (pj + textN (remB bs pj)))).src.v), .int .i64 ((tkV (remB bs (pj + textN (remB bs pj)))).seq.v), .int .i64 ((tkV (remB bs (pj + textN (remB bs pj)))).time.v), .string ((tkV (remB bs (pj + textN (remB bs pj)))).typ.v), .slice pp25 ((tkV (remB bs (pj + textN (remB bs pj)))).attrs.length) cc26] (fun w35 H36 => Ag (.int .i64 (tkE (remB bs (pj + textN (remB bs pj))))) (r_nil (g_seq (g_seq (g_region (Mv (.int .i64 (tkE (remB bs (pj + textN (remB bs pj))))) ?_)))))))))))
    by_cases hc37 : tkE (remB bs (pj + textN (remB bs pj))) = 0
    ·refine rc (s_neq false rfl rfl (ntrue hc37) rfl (r_nil (g_false rfl (g_skip (g_region (Fa 0 fi_24_0 rfl (Lo (.slice q pre.length d) ag_22 H36 5 (Mv (.string (textS (remB bs pj))) (La [.int .i64 ((tkV (remB bs (pj + textN (remB bs pj)))).src.v), .int .i64 ((tkV (remB bs (pj + textN (remB bs pj)))).seq.v), .int .i64 ((tkV (remB bs (pj + textN (remB bs pj)))).time.v), .string ((tkV (remB bs (pj + textN (remB bs pj)))).typ.v), .slice pp25 ((tkV (remB bs (pj + textN (remB bs pj)))).attrs.length) cc26] 5 ag_119 H36 0 (rc (s_build (cs := #[.string (textS (remB bs pj)), .int .i64 ((tkV (remB bs (pj + textN (remB bs pj)))).src.v), .int .i64 ((tkV (remB bs (pj + textN (remB bs pj)))).seq.v), .int .i64 ((tkV (remB bs (pj + textN (remB bs pj)))).time.v), .string ((tkV (remB bs (pj + textN (remB bs pj)))).typ.v), .slice pp25 ((tkV (remB bs (pj + textN (remB bs pj)))).attrs.length) cc26]) t5 rfl (rc (s_buildSlice H36 6 1 (cs := #[.string (textS (remB bs pj)), .int .i64 ((tkV (remB bs (pj + textN (remB bs pj)))).src.v), .int .i64 ((tkV (remB bs (pj + textN (remB bs pj)))).seq.v), .int .i64 ((tkV (remB bs (pj + textN (remB bs pj)))).time.v), .string ((tkV (remB bs (pj + textN (remB bs pj)))).typ.v), .slice pp25 ((tkV (remB bs (pj + textN (remB bs pj)))).attrs.length) cc26]) #[.string ByteArray.empty, .int .i64 0, .int .i64 0, .int .i64 0, .string ByteArray.empty, .slice none 0 0] el_22 ze_121 t9 t9 t5 rfl (fun bk38 w39 H40 => rc (s_append H40 3 rfl rfl rfl (rd_blk (H40.blk_at (i := 0) rfl) rfl (nbl rfl) t15) ap_22 t9 t12 t0 (n' := pre.length + 1) (xs' := pre.flatMap bndCell ++ ([.string (textS (remB bs pj)), .int .i64 ((tkV (remB bs (pj + textN (remB bs pj)))).src.v), .int .i64 ((tkV (remB bs (pj + textN (remB bs pj)))).seq.v), .int .i64 ((tkV (remB bs (pj + textN (remB bs pj)))).time.v), .string ((tkV (remB bs (pj + textN (remB bs pj)))).typ.v), .slice pp25 ((tkV (remB bs (pj + textN (remB bs pj)))).attrs.length) cc26] : List Value)) t0 t16 rfl ?_))))))))))))))); intro vv41 w42 H43 hn44
     obtain ⟨pp45, cc46, rfl⟩ := Row.slice H43 (i := 3) rfl
     refine Fa 0 fi_24_0 rfl (rc (s_store H43 6 (.slice pp45 (pre.length + 1) cc46) rfl rfl rfl sz_22 rfl (nbl rfl) rfl (cs' := #[.slice pp45 (pre.length + 1) cc46]) rfl (fun w47 H48 => r_nil (g_inBlock (g_region (rc (s_add ((j : Int) + 1) rfl rfl (wu64 t0) rfl (Mv (.int .u64 ((j : Int) + 1)) (r_nil ?_)))))))))
     have H49 : St W w47 (_ :: _ :: _ :: _ :: _ :: _ :: _ :: _ :: (F.set i emp)) := (H48.mv [4, 3])
     have H50 : St W w47 (bndsA (pre ++ [(⟨str' (textS (remB bs pj)), ⟨tkV (remB bs (pj + textN (remB bs pj))), pp25, cc26⟩⟩ : BoundD)]) :: _ :: _ :: _ :: _ :: _ :: _ :: (F.set i emp)) := bndsA_snoc (x := (⟨str' (textS (remB bs pj)), ⟨tkV (remB bs (pj + textN (remB bs pj))), pp25, cc26⟩⟩ : BoundD)) H49
     obtain ⟨s1, s2, s3⟩ := rb_step hrj hVj hRj (remB_drop bs pj _).symm hc24 hc37
     have hso : (str' (textS (remB bs pj))).v = textS (remB bs pj) := textS_ok (by rw [remB_len]; omega)
     have H51 : St W w47 (bndsA (pre ++ [(⟨str' (textS (remB bs pj)), ⟨tkV (remB bs (pj + textN (remB bs pj))), pp25, cc26⟩⟩ : BoundD)]) :: blk bk38 (.cells #[.string (textS (remB bs pj)), .int .i64 ((tkV (remB bs (pj + textN (remB bs pj)))).src.v), .int .i64 ((tkV (remB bs (pj + textN (remB bs pj)))).seq.v), .int .i64 ((tkV (remB bs (pj + textN (remB bs pj)))).time.v), .string ((tkV (remB bs (pj + textN (remB bs pj)))).typ.v), .slice pp25 ((tkV (remB bs (pj + textN (remB bs pj)))).attrs.length) cc26] 121 (0, 0)) :: blk bk32 (.cells #[.int .i64 ((tkV (remB bs (pj + textN (remB bs pj)))).src.v), .int .i64 ((tkV (remB bs (pj + textN (remB bs pj)))).seq.v), .int .i64 ((tkV (remB bs (pj + textN (remB bs pj)))).time.v), .string ((tkV (remB bs (pj + textN (remB bs pj)))).typ.v), .slice pp25 ((tkV (remB bs (pj + textN (remB bs pj)))).attrs.length) cc26] 119 (0, 0)) :: Row 121 6 (.slice pp45 ((pre ++ [(⟨str' (textS (remB bs pj)), ⟨tkV (remB bs (pj + textN (remB bs pj))), pp25, cc26⟩⟩ : BoundD)]).length) cc46) ((pre ++ [(⟨str' (textS (remB bs pj)), ⟨tkV (remB bs (pj + textN (remB bs pj))), pp25, cc26⟩⟩ : BoundD)]).length) ((pre ++ [(⟨str' (textS (remB bs pj)), ⟨tkV (remB bs (pj + textN (remB bs pj))), pp25, cc26⟩⟩ : BoundD)]).flatMap bndCell) :: SrcA b bs q27 :: blk bk4 (.cells #[.slice pp45 ((pre ++ [(⟨str' (textS (remB bs pj)), ⟨tkV (remB bs (pj + textN (remB bs pj))), pp25, cc26⟩⟩ : BoundD)]).length) cc46] 24 (0, 0)) :: blk bk1 (.cells #[.slice none 0 0] 24 (0, 0)) :: (F.set i emp)) := by rw [List.flatMap_append, List.length_append, show ([(⟨str' (textS (remB bs pj)), ⟨tkV (remB bs (pj + textN (remB bs pj))), pp25, cc26⟩⟩ : BoundD)] : List BoundD).flatMap bndCell = bndCell (⟨str' (textS (remB bs pj)), ⟨tkV (remB bs (pj + textN (remB bs pj))), pp25, cc26⟩⟩ : BoundD) from by simp]; unfold bndCell; rw [hso]; exact H50
     have H52 : St W w47 (_ :: _ :: _ :: _ :: _ :: (F.set i emp)) := (H51.mv [6, 6, 6, 3, 6, 105, 105])
     exact nx20 (j + 1, (pre ++ [(⟨str' (textS (remB bs pj)), ⟨tkV (remB bs (pj + textN (remB bs pj))), pp25, cc26⟩⟩ : BoundD)]), q27, pp45, cc46) _ _ ⟨t0, s1, (by rw [List.map_append, List.map_singleton, ← s2]; rfl), (hR28.trans s3), hp29, H52⟩ t7 t1
    refine rc (s_neq true rfl rfl (nfalse hc37) rfl (r_nil (g_true rfl (g_seq (g_region (La [.slice q pre.length d] 1 ag_24 H36 5 (Mv (.int .i64 (tkE (remB bs (pj + textN (remB bs pj))))) (Sa H36 6 rfl #[.slice q pre.length d] 1 sz_24 #[.slice q pre.length d] (fun w53 H54 => Ag (.int .i64 (tkE (remB bs (pj + textN (remB bs pj))))) (r_nil ?_))))))))))
    refine g_ret' [.agg #[.slice q pre.length d], .int .i64 (tkE (remB bs (pj + textN (remB bs pj))))] Tryz.func77 Tryz.results77 ⟨(res_cellN rfl ag_24 (H54.blk_at (i := 6) rfl) (nbl rfl) rfl), rfl, trivial⟩ ?_
    have ht9 := rb_tk hrj hRj (remB_drop bs pj _).symm hc24
    have H55 : St W w53 (_ :: (F.set i emp)) := (H54.mv [4, 101, 101, 101, 101, 101, 101])
    have hE : qtE (remB bs p) = tkE (remB bs (pj + textN (remB bs pj))) := (qt_3 hs4 t0 g1 (j := j + 1) t0 (by rw [ht9]; exact hc37)).trans ht9
    have hE0 : ¬ qtE (remB bs p) = 0 := by rw [hE]; first | assumption | decide
    exact .inr ⟨hE0, _, _, _, _, by rw [hE]; rfl, St.back hi H55⟩
   refine rc (s_neq true rfl rfl (nfalse hc24) rfl (r_nil (g_true rfl (g_seq (g_region (La [.slice q pre.length d] 1 ag_24 H23 3 (Mv (.int .i64 (textE (remB bs pj))) (Sa H23 4 rfl #[.slice q pre.length d] 1 sz_24 #[.slice q pre.length d] (fun w56 H57 => Ag (.int .i64 (textE (remB bs pj))) (r_nil ?_))))))))))
   refine g_ret' [.agg #[.slice q pre.length d], .int .i64 (textE (remB bs pj))] Tryz.func77 Tryz.results77 ⟨(res_cellN rfl ag_24 (H57.blk_at (i := 4) rfl) (nbl rfl) rfl), rfl, trivial⟩ ?_
   have ht9 := rb_text hrj hRj hc24
   have H58 : St W w56 (_ :: (F.set i emp)) := (H57.mv [2, 101, 101, 101, 101])
   have hE : qtE (remB bs p) = textE (remB bs pj) := (qt_3 hs4 t0 g1 (j := j + 1) t0 (by rw [ht9]; exact hc24)).trans ht9
   have hE0 : ¬ qtE (remB bs p) = 0 := by rw [hE]; first | assumption | decide
   exact .inr ⟨hE0, _, _, _, _, by rw [hE]; rfl, St.back hi H58⟩
  refine rc (s_lss false rfl rfl (dfalse hc21) rfl (r_nil (g_seq (g_false rfl (g_exit t39 (g_seq ?_))))))
  have H59 : St W w18 (_ :: _ :: _ :: _ :: _ :: (F.set i emp)) := Row.im H19 (i := 0) rfl
  refine g_mix (fun t_ w => St W w (Im 6 (.slice q pre.length d) pre.length (pre.flatMap bndCell) :: bndsA pre :: SrcA b bs pj :: blk bk4 (.cells #[.slice q pre.length d] 24 (0, 0)) :: t_)) (blk bk1 (.cells #[.slice none 0 0] 24 (0, 0)) :: (F.set i emp)) mixed 5 rfl H59.drew ?_
  refine Fv 0 rfl (fun t_ w hw => x_loadAgg [.slice q pre.length d] 1 ag_24 rfl (hw.blk_at (i := 3) rfl) (nbl rfl) rfl) (Fv 1 rfl (fun t_ w hw => x_loadAgg [.slice q pre.length d] 1 ag_24 rfl (hw.blk_at (i := 3) rfl) (nbl rfl) rfl) (Ff 2 rfl ?_))
  refine f_enter (args := #[.agg #[.slice q pre.length d]]) (v := .int .i64 (ptE pre)) rfl rfl rfl (x_call pl_48 [.agg #[.slice q pre.length d]] rfl) (fun t_ w hw => match_Check pre _ (ip := 0) rfl (iq := 1) rfl hw) ?_
  refine f_all (rs := [3]) t5 t13 ?_
  refine a_cons ⟨_, rfl, ?_⟩ (fun x hx => absurd hx t13)
  intro w60 H61
  try dsimp only at H61
  refine s_storeAgg H61 4 #[.slice q pre.length d] 1 rfl rfl rfl sz_24 rfl t15 (nbl rfl) (fun o h1 h2 => by first | (simp; done) | (simp; omega)) (cs' := #[.slice q pre.length d]) rfl ?_; intro w62 H63
  refine ⟨blk bk1 (.cells #[.slice q pre.length d] 24 (0, 0)) :: (F.set i emp), ?_, H63⟩
  change FReg _ _ _ _ _ #[true, true, true, true, false] _ _
  refine Fv 4 rfl (fun t_ w hw => x_assign (.int .i64 (ptE pre)) rfl w) ?_
  refine f_done t5 ?_
  intro w64 H65
  refine g_ret' [.agg #[.slice q pre.length d], .int .i64 (ptE pre)] Tryz.func77 Tryz.results77 ⟨(res_cellN rfl ag_24 (H65.blk_at (i := 4) rfl) (nbl rfl) rfl), rfl, trivial⟩ ?_
  have hjj : j = srcU (remB bs p) 4 := by omega
  have hE : qtE (remB bs p) = ptE pre := by rw [ptE_of hVj, hjj]; exact qt_4 hs4 t0 g1 (by rw [← hjj]; exact hrj)
  have H66 : St W w64 (_ :: _ :: _ :: (F.set i emp)) := (H65.mv [2, 2, 2, 103, 103])
  have H67 : St W w64 (_ :: (Im 6 (.slice q pre.length d) pre.length (pre.flatMap bndCell) :: bndsA pre :: F).set (i + 2) emp) := H66.move 2 rfl
  rcases Decidable.em (qtE (remB bs p) = 0) with h0 | h0
  ·exact .inl ⟨h0, pre, _, _, _, by rw [← hE, h0]; rfl, by rw [hVj, qtV_yes h0 g1, hjj], by rw [hRj, qtR_yes h0 g1, hjj], hpj, St.back (i := i + 2) t34 H67⟩
  exact .inr ⟨h0, _, _, _, _, by rw [hE]; rfl, St.back hi (H67.mv [101, 101])⟩
 refine rc (s_neq true rfl rfl (nfalse hc9) rfl (r_nil (g_true rfl (g_seq (g_region (La [.slice none 0 0] 1 ag_24 H8 0 (Mv (.int .i64 (srcE (remB bs p) 4)) (Sa H8 1 rfl #[.slice none 0 0] 1 sz_24 #[.slice none 0 0] (fun w68 H69 => Ag (.int .i64 (srcE (remB bs p) 4)) (r_nil ?_))))))))))
 refine g_ret' [.agg #[.slice none 0 0], .int .i64 (srcE (remB bs p) 4)] Tryz.func77 Tryz.results77 ⟨(res_cellN rfl ag_24 (H69.blk_at (i := 1) rfl) (nbl rfl) rfl), rfl, trivial⟩ ?_
 have H70 : St W w68 (_ :: (F.set i emp)) := (H69.mv [2, 101, 101])
 have hE : qtE (remB bs p) = srcE (remB bs p) 4 := qt_1 hc9
 have hE0 : ¬ qtE (remB bs p) = 0 := by rw [hE]; first | assumption | decide
 exact .inr ⟨hE0, _, _, _, _, by rw [hE]; rfl, St.back hi H70⟩
theorem match_Take (b : Nat) (bs : List UInt8) (p : Nat) (hp : p ≤ 8 * bs.length) (hb : bs.length ≤ 140737488355328) {i : Nat} (hi : F[i]? = some (SrcA b bs p)) (H : St W w F) : Calls Tryz.prog 41 #[.pointer (pa b)] w (Ret fun v w' => ∃ (L : List BoundD) (q : Option Addr) (c p' : Nat), v = .tuple #[.agg #[.slice q L.length c], .int .i64 (qtE (remB bs p))] ∧ L.map BoundD.v = qtV (remB bs p) ∧ remB bs p' = qtR (remB bs p) ∧ p' ≤ 8 * bs.length ∧ St W w' (Im 6 (.slice q L.length c) L.length (L.flatMap bndCell) :: bndsA L :: F.set i (SrcA b bs p'))) := by
 have H0 := H.front hi
 refine calls_of_go (n := 33) Tryz.func41 rfl Tryz.ntmps41 rfl ?_
 refine g_seq (g_region (rc (s_alloc H0 24 ze_24 rfl (fun bk1 w2 H3 => Ag (.int .i64 0) (r_nil (g_seq (g_seq (g_region (Mv (.pointer (pa b)) (rc (s_call [.pointer (pa b), .int .i64 0] pl_76 rfl rfl (Src_Bits b bs p t4 t18 0  (i := 1) rfl H3) ?_)))))))))))
 rintro _ w4 ⟨rfl, H5⟩
 refine Mv (.tuple #[.int .u64 (srcU (remB bs p) 0 : Int), .int .i64 (srcE (remB bs p) 0)]) (Ex (.int .u64 (srcU (remB bs p) 0 : Int)) (Ex (.int .i64 (srcE (remB bs p) 0)) (Ag (.int .u64 (srcU (remB bs p) 0 : Int)) (Ag (.int .i64 (srcE (remB bs p) 0)) (r_nil (g_seq (g_region (Mv (.int .i64 (srcE (remB bs p) 0)) (rc (s_eql false rfl rfl (dfalse (by rw [srcE_0 t0 t0]; decide)) rfl (r_nil (g_false rfl (g_skip (g_seq (g_region ?_)))))))))))))))
 have hz : p + srcN (remB bs p) 0 = p := by rw [srcN_0 (srcE_0 t0 t0)]; rfl
 have H6 : St W w4 (blk bk1 (.cells #[.slice none 0 0] 24 (0, 0)) :: SrcA b bs p :: (F.set i emp)) := by have hx := H5; rw [hz] at hx; exact hx
 refine Mv (.pointer (pa b)) (Nc (.pointer (pa b)) ?_)
 have H7 := H6.move 1 rfl
 obtain ⟨vv8, H9⟩ := St.open_ex H7
 have H10 := St.open_star H9
 obtain ⟨pp11, cc12, gA13, oA14, kA15, eA16, zA17, rfl, hn18, hp19, hx20, hs21, hml, H22⟩ := Im.open_ H10 (i := 1) rfl
 have H23 : St W w4 (_ :: _ :: _ :: _ :: (F.set i emp)) := H22
 refine La [.bool true, .slice pp11 bs.length cc12, .int .i64 ((p : Nat) : Int)] 3 ag_124 H23 1 (rc (s_alloc H23 124 ze_124 rfl (fun bk24 w25 H26 => Sa H26 0 rfl #[.bool true, .slice pp11 bs.length cc12, .int .i64 ((p : Nat) : Int)] 3 sz_124 #[.bool true, .slice pp11 bs.length cc12, .int .i64 ((p : Nat) : Int)] (fun w27 H28 => r_nil (g_seq (g_region ?_))))))
 have H29 := H28.dup (i := 3) rfl (Im_pers _ _ _ _)
 refine Mv (.pointer (pa b)) ?_
 have H30 : St W w27 (_ :: _ :: _ :: _ :: _ :: (F.set i emp)) := (H29.mv [5, 5, 3, 3, 5, 105])
 have H31 : St W w27 (SrcA b bs p :: _ :: _ :: _ :: (F.set i emp)) := St.shut_ex (.slice pp11 bs.length cc12) (St.shut_star (ls := [_, _]) H30)
 refine rc (s_call [.pointer (pa b)] pl_77 rfl rfl (match_bounds b bs p t4 t0 (i := 0) rfl H31) ?_)
 rintro _ w42 (⟨he36, L32, pp33, cc34, q35, rfl, hL37, hR38, hp39, H40⟩ | ⟨he36, pp33, NN41, cc34, q35, rfl, H40⟩)
 ·refine Mv (.tuple #[.agg #[.slice pp33 L32.length cc34], .int .i64 0]) (Ex (.agg #[.slice pp33 L32.length cc34]) (Ex (.int .i64 0) (rc (s_alloc H40 24 ze_24 rfl (fun bk43 w44 H45 => Sa H45 0 rfl #[.slice pp33 L32.length cc34] 1 sz_24 #[.slice pp33 L32.length cc34] (fun w46 H47 => Ag (.int .i64 0) (r_nil (g_seq (g_seq (g_region (Mv (.int .i64 0) (rc (s_neq false rfl rfl (ntrue t9) rfl (r_nil (g_false rfl (g_skip (g_seq (g_region (La [.slice pp33 L32.length cc34] 1 ag_24 H47 0 (Sa H47 6 rfl #[.slice pp33 L32.length cc34] 1 sz_24 #[.slice pp33 L32.length cc34] (fun w48 H49 => Ag (.int .i64 0) (r_nil ?_))))))))))))))))))))))
  refine g_ret' [.agg #[.slice pp33 L32.length cc34], .int .i64 0] Tryz.func41 Tryz.results41 ⟨(res_cellN rfl ag_24 (H49.blk_at (i := 6) rfl) (nbl rfl) rfl), rfl, trivial⟩ ?_
  have H50 : St W w48 (_ :: _ :: _ :: (F.set i emp)) := (H49.mv [2, 2, 3, 103, 103, 103, 103])
  have H51 : St W w48 (_ :: (Im 6 (.slice pp33 L32.length cc34) L32.length (L32.flatMap bndCell) :: bndsA L32 :: F).set (i + 2) emp) := H50
  exact ⟨L32, _, _, _, by rw [he36]; rfl, hL37, hR38, hp39, St.back (i := i + 2) t34 H51⟩
 refine Mv (.tuple #[.agg #[.slice pp33 NN41 cc34], .int .i64 (qtE (remB bs p))]) (Ex (.agg #[.slice pp33 NN41 cc34]) (Ex (.int .i64 (qtE (remB bs p))) (rc (s_alloc H40 24 ze_24 rfl (fun bk52 w53 H54 => Sa H54 0 rfl #[.slice pp33 NN41 cc34] 1 sz_24 #[.slice pp33 NN41 cc34] (fun w55 H56 => Ag (.int .i64 (qtE (remB bs p))) (r_nil (g_seq (g_seq (g_region (Mv (.int .i64 (qtE (remB bs p))) (rc (s_neq true rfl rfl (nfalse t0) rfl (r_nil (g_true rfl (g_seq (g_region (Mv (.pointer (pa b)) (La [.bool true, .slice pp11 bs.length cc12, .int .i64 ((p : Nat) : Int)] 3 ag_124 H56 2 (Nc (.pointer (pa b)) ?_))))))))))))))))))))
 have H57 := H56.move 1 rfl
 obtain ⟨vv58, H59⟩ := St.open_ex H57
 have H60 := St.open_star H59
 obtain ⟨pp61, cc62, gA63, oA64, kA65, eA66, zA67, rfl, hn68, hp69, hx70, hs71, hml, H72⟩ := Im.open_ H60 (i := 1) rfl
 have H73 : St W w55 (_ :: _ :: _ :: _ :: _ :: _ :: _ :: (F.set i emp)) := H72
 refine Sa H73 1 rfl #[.bool true, .slice pp11 bs.length cc12, .int .i64 ((p : Nat) : Int)] 3 sz_124 #[.bool true, .slice pp11 bs.length cc12, .int .i64 ((p : Nat) : Int)] (fun w74 H75 => r_nil (g_seq (g_region (rc (s_build (cs := #[.slice none 0 0]) t5 rfl (Mv (.int .i64 (qtE (remB bs p))) (Sa H75 6 rfl #[.slice none 0 0] 1 sz_24 #[.slice none 0 0] (fun w76 H77 => Ag (.int .i64 (qtE (remB bs p))) (r_nil ?_)))))))))
 refine g_ret' [.agg #[.slice none 0 0], .int .i64 (qtE (remB bs p))] Tryz.func41 Tryz.results41 ⟨(res_cellN rfl ag_24 (H77.blk_at (i := 6) rfl) (nbl rfl) rfl), rfl, trivial⟩ ?_
 have H78 : St W w76 (_ :: _ :: _ :: _ :: _ :: _ :: (F.set i emp)) := (H77.mv [6, 5, 5, 5, 6, 6, 106])
 have H79 : St W w76 (SrcA b bs p :: _ :: _ :: _ :: _ :: (F.set i emp)) := St.shut_ex (.slice pp11 bs.length cc12) (St.shut_star (ls := [_, _]) H78)
 have H80 := bndsA_nil H79
 have H81 := Row.im (Row.nil_intro H80 121 6) (i := 0) rfl
 have H82 : St W w76 (_ :: _ :: _ :: (F.set i emp)) := (H81.mv [1, 1, 2, 103, 103, 103, 103])
 have H83 : St W w76 (_ :: (Im 6 (.slice none 0 0) 0 [] :: bndsA ([] : List BoundD) :: F).set (i + 2) emp) := H82
 exact ⟨[], none, 0, p, rfl, by rw [qtV_no he36]; rfl, by rw [qtR_no he36], hp, St.back (i := i + 2) t34 H83⟩
theorem ir_nat (r b : Nat) (bs : List UInt8) (p : Nat) (X : RX) (hR : remB bs p = X.R) (hp : p ≤ 8 * bs.length) (hb : bs.length ≤ 140737488355328) (H : St W w (blk r (.cells #[.pointer (pa b), .int .i64 X.e] 73 (0, 0)) :: SrcA b bs p :: F)) : Calls Tryz.prog 37 #[.pointer (pa r)] w (Ret fun v w' => v = .int .u64 ((stN X).1 : Int) ∧ ∃ p', remB bs p' = ((stN X).2).R ∧ p' ≤ 8 * bs.length ∧ St W w' (blk r (.cells #[.pointer (pa b), .int .i64 (((stN X).2).e)] 73 (0, 0)) :: SrcA b bs p' :: F)) := by
 refine calls_of_go (n := 23) Tryz.func37 rfl Tryz.ntmps37 rfl ?_
 refine g_seq (g_region (Ag (.int .u64 0) (r_nil (g_seq (g_seq (g_region (Mv (.pointer (pa r)) (Nc (.pointer (pa r)) (Fa 1 fi_73_1 rfl (Lo (.int .i64 X.e) ag_28 H 0 ?_))))))))))
 by_cases hc1 : X.e = 0
 ·refine rc (s_neq false rfl rfl (ntrue hc1) rfl (r_nil (g_false rfl (g_skip (g_seq (g_region (Mv (.pointer (pa r)) (Nc (.pointer (pa r)) (Fa 0 fi_73_0 rfl (Lo (.pointer (pa b)) ag_70 H 0 (rc (s_call [.pointer (pa b)] pl_75 rfl rfl (Src_Nat b bs p t4 t18   (i := 1) rfl H) ?_))))))))))))
  rintro _ w2 ⟨rfl, H3⟩
  refine Mv (.tuple #[.int .u64 (natU (remB bs p) : Int), .int .i64 (natE (remB bs p))]) (Ex (.int .u64 (natU (remB bs p) : Int)) (Ex (.int .i64 (natE (remB bs p))) (Ag (.int .u64 (natU (remB bs p) : Int)) (Ag (.int .i64 (natE (remB bs p))) (r_nil (g_seq (g_region (Mv (.pointer (pa r)) (Mv (.int .i64 (natE (remB bs p))) (Nc (.pointer (pa r)) (Fa 1 fi_73_1 rfl (rc (s_store H3 0 (.int .i64 (natE (remB bs p))) rfl rfl rfl sz_28 rfl (nbl rfl) rfl (cs' := #[.pointer (pa b), .int .i64 (natE (remB bs p))]) rfl (fun w4 H5 => r_nil (g_seq (g_region (Mv (.int .u64 (natU (remB bs p) : Int)) (Ag (.int .u64 (natU (remB bs p) : Int)) (r_nil (Gr [.int .u64 (natU (remB bs p) : Int)] Tryz.func37 Tryz.results37 ?_))))))))))))))))))))
  have H6 : St W w4 (_ :: _ :: F) := (H5.mv [1, 1])
  rw [stN_yes hc1, ← hR]
  exact ⟨rfl, p + natN (remB bs p), (remB_drop bs p _).symm, natN_pos hp, H6⟩
 refine rc (s_neq true rfl rfl (nfalse hc1) rfl (r_nil (g_true rfl (g_seq (g_region (Ag (.int .u64 0) (r_nil (Gr [.int .u64 0] Tryz.func37 Tryz.results37 ?_))))))))
 have H7 : St W w (_ :: _ :: F) := (H.mv [1, 1])
 rw [stN_no hc1]
 exact ⟨rfl, p, hR, hp, H7⟩
theorem ir_bits (r b : Nat) (bs : List UInt8) (p : Nat) (X : RX) (hR : remB bs p = X.R) (hp : p ≤ 8 * bs.length) (hb : bs.length ≤ 140737488355328) (H : St W w (blk r (.cells #[.pointer (pa b), .int .i64 X.e] 73 (0, 0)) :: SrcA b bs p :: F)) : Calls Tryz.prog 40 #[.pointer (pa r), .int .i64 2] w (Ret fun v w' => v = .int .i64 ((stB 2 X).1 : Int) ∧ ∃ p', remB bs p' = ((stB 2 X).2).R ∧ p' ≤ 8 * bs.length ∧ St W w' (blk r (.cells #[.pointer (pa b), .int .i64 (((stB 2 X).2).e)] 73 (0, 0)) :: SrcA b bs p' :: F)) := by
 refine calls_of_go (n := 27) Tryz.func40 rfl Tryz.ntmps40 rfl ?_
 refine g_seq (g_region (Ag (.int .i64 0) (r_nil (g_seq (g_seq (g_region (Mv (.pointer (pa r)) (Nc (.pointer (pa r)) (Fa 1 fi_73_1 rfl (Lo (.int .i64 X.e) ag_28 H 0 ?_))))))))))
 by_cases hc1 : X.e = 0
 ·refine rc (s_neq false rfl rfl (ntrue hc1) rfl (r_nil (g_false rfl (g_skip (g_seq (g_region (Mv (.pointer (pa r)) (Nc (.pointer (pa r)) (Fa 0 fi_73_0 rfl (Lo (.pointer (pa b)) ag_70 H 0 (Mv (.int .i64 2) (rc (s_call [.pointer (pa b), .int .i64 2] pl_76 rfl rfl (Src_Bits b bs p t4 t18 2  (i := 1) rfl H) ?_)))))))))))))
  rintro _ w2 ⟨rfl, H3⟩
  refine Mv (.tuple #[.int .u64 (srcU (remB bs p) 2 : Int), .int .i64 (srcE (remB bs p) 2)]) (Ex (.int .u64 (srcU (remB bs p) 2 : Int)) (Ex (.int .i64 (srcE (remB bs p) 2)) (Ag (.int .u64 (srcU (remB bs p) 2 : Int)) (Ag (.int .i64 (srcE (remB bs p) 2)) (r_nil (g_seq (g_region (Mv (.pointer (pa r)) (Mv (.int .i64 (srcE (remB bs p) 2)) (Nc (.pointer (pa r)) (Fa 1 fi_73_1 rfl (rc (s_store H3 0 (.int .i64 (srcE (remB bs p) 2)) rfl rfl rfl sz_28 rfl (nbl rfl) rfl (cs' := #[.pointer (pa b), .int .i64 (srcE (remB bs p) 2)]) rfl (fun w4 H5 => r_nil (g_seq (g_region (Mv (.int .u64 (srcU (remB bs p) 2 : Int)) ?_)))))))))))))))))
  have hlt : srcU (remB bs p) 2 < 4 := srcU_lt_pow (k := 2)
  refine rc (s_conv (srcU (remB bs p) 2 : Int) rfl us_61 ik_3 (wi64 t0) rfl (Ag (.int .i64 (srcU (remB bs p) 2 : Int)) (r_nil (Gr [.int .i64 (srcU (remB bs p) 2 : Int)] Tryz.func40 Tryz.results40 ?_))))
  have H6 : St W w4 (_ :: _ :: F) := (H5.mv [1, 1])
  rw [stB_yes hc1, ← hR]
  exact ⟨rfl, p + srcN (remB bs p) 2, (remB_drop bs p _).symm, srcN_pos hp, H6⟩
 refine rc (s_neq true rfl rfl (nfalse hc1) rfl (r_nil (g_true rfl (g_seq (g_region (Ag (.int .i64 0) (r_nil (Gr [.int .i64 0] Tryz.func40 Tryz.results40 ?_))))))))
 have H7 : St W w (_ :: _ :: F) := (H.mv [1, 1])
 rw [stB_no hc1]
 exact ⟨rfl, p, hR, hp, H7⟩
theorem ir_wrong (r b : Nat) (X : RX) (x : Bool) (k : Int) {i : Nat} (hi : F[i]? = some (blk r (.cells #[.pointer (pa b), .int .i64 X.e] 73 (0, 0)))) (H : St W w F) : Calls Tryz.prog 38 #[.pointer (pa r), .bool x, .int .i64 k] w (Ret fun v w' => v = .tuple #[] ∧ St W w' (F.set i (blk r (.cells #[.pointer (pa b), .int .i64 ((stW x k X).e)] 73 (0, 0))))) := by
 have H0 := H.front hi
 refine calls_of_go (n := 18) Tryz.func38 rfl Tryz.ntmps38 rfl ?_
 refine g_seq (g_region (Mv (.pointer (pa r)) (Nc (.pointer (pa r)) (Fa 1 fi_73_1 rfl (Lo (.int .i64 X.e) ag_28 H0 0 ?_)))))
 by_cases hc1 : X.e = 0
 ·refine rc (s_eql true rfl rfl (dtrue hc1) rfl (Mv (.bool true) (Rt (Mw (.bool x) (Pt (.bool x) (r_nil ?_))))))
  by_cases hb2 : (x) = true
  ·refine g_true (congrArg Value.bool hb2) (g_region (Mv (.pointer (pa r)) (Mv (.int .i64 k) (Nc (.pointer (pa r)) (Fa 1 fi_73_1 rfl (rc (s_store H0 0 (.int .i64 k) rfl rfl rfl sz_28 rfl (nbl rfl) rfl (cs' := #[.pointer (pa b), .int .i64 k]) rfl (fun w3 H4 => r_nil ?_))))))))
   refine g_end' [] Tryz.func38 Tryz.results38 trivial ?_
   have H5 : St W w3 (_ :: (F.set i emp)) := H4
   exact ⟨rfl, by rw [stW_t hc1 hb2]; exact St.back hi H5⟩
  have hb2 := eq_false_of_ne_true hb2
  refine g_false (congrArg Value.bool hb2) (g_skip ?_)
  refine g_end' [] Tryz.func38 Tryz.results38 trivial ?_
  have H6 : St W w (_ :: (F.set i emp)) := H0
  exact ⟨rfl, by rw [stW_f hb2]; exact St.back hi H6⟩
 refine rc (s_eql false rfl rfl (dfalse hc1) rfl (Mv (.bool false) (Rp (Pf (.bool false) (r_nil (g_false rfl (g_skip ?_)))))))
 refine g_end' [] Tryz.func38 Tryz.results38 trivial ?_
 have H7 : St W w (_ :: (F.set i emp)) := H0
 exact ⟨rfl, by rw [stW_no hc1]; exact St.back hi H7⟩
theorem ir_end (r b : Nat) (bs : List UInt8) (p : Nat) (X : RX) (hR : remB bs p = X.R) (hp : p ≤ 8 * bs.length) (hb : bs.length ≤ 140737488355328) (H : St W w (blk r (.cells #[.pointer (pa b), .int .i64 X.e] 73 (0, 0)) :: SrcA b bs p :: F)) : Calls Tryz.prog 42 #[.pointer (pa r)] w (Ret fun v w' => v = .tuple #[] ∧ St W w' (blk r (.cells #[.pointer (pa b), .int .i64 (if X.e = 0 then endE X.R else X.e)] 73 (0, 0)) :: SrcA b bs p :: F)) := by
 refine calls_of_go (n := 15) Tryz.func42 rfl Tryz.ntmps42 rfl ?_
 refine g_seq (g_region (Mv (.pointer (pa r)) (Nc (.pointer (pa r)) (Fa 1 fi_73_1 rfl (Lo (.int .i64 X.e) ag_28 H 0 ?_)))))
 by_cases hc1 : X.e = 0
 ·refine rc (s_eql true rfl rfl (dtrue hc1) rfl (r_nil (g_true rfl (g_region (Mv (.pointer (pa r)) (Mv (.pointer (pa r)) (Nc (.pointer (pa r)) (Fa 0 fi_73_0 rfl (Lo (.pointer (pa b)) ag_70 H 0 (rc (s_call [.pointer (pa b)] pl_78 rfl rfl (Src_End b bs p t4 t18   (i := 1) rfl H) ?_)))))))))))
  rintro _ w2 ⟨rfl, H3⟩
  refine Nc (.pointer (pa r)) (Fa 1 fi_73_1 rfl (rc (s_store H3 0 (.int .i64 (endE (remB bs p))) rfl rfl rfl sz_28 rfl (nbl rfl) rfl (cs' := #[.pointer (pa b), .int .i64 (endE (remB bs p))]) rfl (fun w4 H5 => r_nil ?_))))
  refine g_end' [] Tryz.func42 Tryz.results42 trivial ?_
  have H6 : St W w4 (_ :: _ :: F) := (H5.mv [1, 1])
  exact ⟨rfl, by rw [if_pos hc1, ← hR]; exact H6⟩
 refine rc (s_eql false rfl rfl (dfalse hc1) rfl (r_nil (g_false rfl (g_skip ?_))))
 refine g_end' [] Tryz.func42 Tryz.results42 trivial ?_
 have H7 : St W w (_ :: _ :: F) := (H.mv [1, 1])
 exact ⟨rfl, by rw [if_neg hc1]; exact H7⟩
theorem migrate_clip (u : Nat) (hu : u < 18446744073709551616) (H : St W w F) : Calls Tryz.prog 39 #[.int .u64 (u : Int)] w (Ret fun v w' => v = .int .i64 (clipN u) ∧ St W w' F) := by
 refine calls_of_go (n := 7) Tryz.func39 rfl Tryz.ntmps39 rfl ?_
 refine g_seq (g_region (Ag (.int .i64 0) (r_nil (g_seq (g_seq (g_region (Mv (.int .u64 (u : Int)) ?_)))))))
 by_cases hc1 : (1099511627777 : Int) < (u : Int)
 ·refine rc (s_gtr true rfl rfl (dtrue hc1) rfl (r_nil (g_true rfl (g_seq (g_region (Ag (.int .i64 (-1)) (r_nil (Gr [.int .i64 (-1)] Tryz.func39 Tryz.results39 ?_))))))))
  have H2 : St W w F := H
  exact ⟨vint (by unfold clipN; first | (rw [if_pos t0]; done) | (rw [if_neg t0]; done)), H2⟩
 refine rc (s_gtr false rfl rfl (dfalse hc1) rfl (r_nil (g_false rfl (g_skip (g_seq (g_region (Mv (.int .u64 (u : Int)) (rc (s_conv (u : Int) rfl us_61 ik_2 (wi64 t0) rfl (Ag (.int .i64 (u : Int)) (r_nil (Gr [.int .i64 (u : Int)] Tryz.func39 Tryz.results39 ?_))))))))))))
 have H3 : St W w F := H
 exact ⟨vint (by unfold clipN; first | (rw [if_pos t0]; done) | (rw [if_neg t0]; done)), H3⟩
theorem migrate_ParseItem (A : Atom) (v0 : Value) (bs : List UInt8) (hA : RdA A 1 v0 bs.length (bs.flatMap u8c)) (hb : bs.length ≤ 140737488355328) {j : Nat} (hj : F[j]? = some A) (H : St W w F) : Calls Tryz.prog 7 #[v0] w (Ret fun v w' => ∃ x : ItemD, v = .tuple #[.agg (itc x), .int .i64 (ipE (remB bs 0))] ∧ x.v = ipV (remB bs 0) ∧ St W w' (BsA x :: bndsA x.bs :: F)) := by
 have hml := (hA _ _ _ j H hj).2
 obtain ⟨pp1, cc2, rfl, hn3⟩ := Rd.shape (hA _ _ _ j H hj).1
 obtain ⟨X0, hX0⟩ : ∃ X, X = (⟨0, (remB bs 0)⟩ : RX) := ⟨_, rfl⟩
 have hX0e : X0.e = 0 := by rw [hX0]
 have hR0 : (remB bs 0) = X0.R := by rw [hX0]
 refine calls_of_go (n := 93) Tryz.func7 rfl Tryz.ntmps7 rfl ?_
 refine g_seq (g_region (rc (s_alloc H 26 ze_26 rfl (fun bk4 w5 H6 => Ag (.int .i64 0) (r_nil (g_seq (g_region (Mv (.slice pp1 bs.length cc2) (rc (s_call [.slice pp1 bs.length cc2] pl_36 rfl rfl (NewSource _ _ bs (hA) (by first | omega | decide) (j := j + 1) (by exact hj) H6) ?_))))))))))
 rintro _ w8 ⟨bk7, rfl, H9⟩
 refine rc (s_build (cs := #[.pointer (pa bk7), .int .i64 0]) t5 rfl (Bx H9 73 #[.pointer (pa bk7), .int .i64 0] (fun bk10 w11 H12 => Ag (.pointer (pa bk10)) (r_nil (g_seq (g_region ?_))))))
 have H13 : St W w11 (blk bk10 (.cells #[.pointer (pa bk7), .int .i64 X0.e] 73 (0, 0)) :: SrcA bk7 bs 0 :: blk bk4 (.cells #[.int .i64 0, .int .i64 0, .int .i64 0, .int .i64 0, .slice none 0 0, .int .i64 0] 26 (0, 0)) :: F) := by rw [hX0e]; exact H12
 refine Mv (.pointer (pa bk10)) (rc (s_call [.pointer (pa bk10)] pl_37 rfl rfl (ir_nat bk10 bk7 bs 0 X0 hR0 (Nat.zero_le _) t0 H13) ?_))
 rintro _ w17 ⟨rfl, q14, hR15, hp16, H18⟩
 have H19 : St W w17 (_ :: _ :: _ :: F) := H18
 refine Ag (.int .u64 ((n1 X0).1 : Int)) (r_nil (g_seq (g_region (Mv (.pointer (pa bk10)) (Mv (.int .u64 ((n1 X0).1 : Int)) (rc (s_gtr (big (n1 X0).1) rfl rfl ((by unfold big; exact decide_eq_decide.2 t0)) rfl (rc (s_call [.pointer (pa bk10), .bool (big (n1 X0).1), .int .i64 243] pl_38 rfl rfl (ir_wrong bk10 bk7 ((n1 X0).2) (big (n1 X0).1) 243 (i := 0) rfl H19) ?_)))))))))
 rintro _ w20 ⟨rfl, H21⟩
 have H22 : St W w20 (_ :: _ :: _ :: F) := H21
 have hR23 : remB bs q14 = (j1 X0).R := hR15.trans (stW_R _ _ _).symm
 refine r_nil (g_seq (g_region (Mv (.pointer (pa bk10)) (rc (s_call [.pointer (pa bk10)] pl_37 rfl rfl (ir_nat bk10 bk7 bs q14 (j1 X0) hR23 hp16 t0 H22) ?_)))))
 rintro _ w27 ⟨rfl, q24, hR25, hp26, H28⟩
 have H29 : St W w27 (_ :: _ :: _ :: F) := H28
 refine Ag (.int .u64 ((n2 X0).1 : Int)) (r_nil (g_seq (g_region (Mv (.pointer (pa bk10)) (Mv (.int .u64 ((n2 X0).1 : Int)) (rc (s_gtr (big (n2 X0).1) rfl rfl ((by unfold big; exact decide_eq_decide.2 t0)) rfl (rc (s_call [.pointer (pa bk10), .bool (big (n2 X0).1), .int .i64 243] pl_38 rfl rfl (ir_wrong bk10 bk7 ((n2 X0).2) (big (n2 X0).1) 243 (i := 0) rfl H29) ?_)))))))))
 rintro _ w30 ⟨rfl, H31⟩
 have H32 : St W w30 (_ :: _ :: _ :: F) := H31
 have hR33 : remB bs q24 = (j2 X0).R := hR25.trans (stW_R _ _ _).symm
 refine r_nil (g_seq (g_region (Mv (.int .u64 ((n1 X0).1 : Int)) (rc (s_call [.int .u64 ((n1 X0).1 : Int)] pl_39 rfl rfl (migrate_clip ((n1 X0).1) stN_lt H32) ?_)))))
 rintro _ w34 ⟨rfl, H35⟩
 refine Mv (.int .u64 ((n2 X0).1 : Int)) (rc (s_call [.int .u64 ((n2 X0).1 : Int)] pl_39 rfl rfl (migrate_clip ((n2 X0).1) stN_lt H35) ?_))
 rintro _ w36 ⟨rfl, H37⟩
 refine Mv (.pointer (pa bk10)) (rc (s_call [.pointer (pa bk10)] pl_37 rfl rfl (ir_nat bk10 bk7 bs q24 (j2 X0) hR33 hp26 t0 H37) ?_))
 rintro _ w41 ⟨rfl, q38, hR39, hp40, H42⟩
 have H43 : St W w41 (_ :: _ :: _ :: F) := H42
 refine rc (s_call [.int .u64 ((n3 X0).1 : Int)] pl_39 rfl rfl (migrate_clip ((n3 X0).1) stN_lt H43) ?_)
 rintro _ w44 ⟨rfl, H45⟩
 refine rc (s_build (cs := #[.int .i64 (clipN ((n1 X0).1)), .int .i64 (clipN ((n2 X0).1)), .int .i64 (clipN ((n3 X0).1)), .int .i64 0, .slice none 0 0, .int .i64 0]) t5 rfl (rc (s_alloc H45 26 ze_26 rfl (fun bk46 w47 H48 => Sa H48 0 rfl #[.int .i64 (clipN ((n1 X0).1)), .int .i64 (clipN ((n2 X0).1)), .int .i64 (clipN ((n3 X0).1)), .int .i64 0, .slice none 0 0, .int .i64 0] 6 sz_26 #[.int .i64 (clipN ((n1 X0).1)), .int .i64 (clipN ((n2 X0).1)), .int .i64 (clipN ((n3 X0).1)), .int .i64 0, .slice none 0 0, .int .i64 0] (fun w49 H50 => r_nil (g_seq (g_region (Mv (.pointer (pa bk10)) ?_))))))))
 have H51 : St W w49 (_ :: _ :: _ :: _ :: F) := (H50.mv [2, 2])
 refine rc (s_call [.pointer (pa bk10), .int .i64 2] pl_40 rfl rfl (ir_bits bk10 bk7 bs q38 ((n3 X0).2) hR39 hp40 t0 H51) ?_)
 rintro _ w55 ⟨rfl, q52, hR53, hp54, H56⟩
 have H57 : St W w55 (_ :: _ :: _ :: _ :: F) := H56
 refine Fa 3 fi_26_3 rfl (rc (s_store H57 2 (.int .i64 ((n4 X0).1 : Int)) rfl rfl rfl sz_3 rfl (nbl rfl) rfl (cs' := #[.int .i64 (clipN ((n1 X0).1)), .int .i64 (clipN ((n2 X0).1)), .int .i64 (clipN ((n3 X0).1)), .int .i64 ((n4 X0).1 : Int), .slice none 0 0, .int .i64 0]) rfl (fun w58 H59 => r_nil (g_seq (g_region (Mv (.pointer (pa bk10)) (Fa 3 fi_26_3 rfl (Lo (.int .i64 ((n4 X0).1 : Int)) ag_3 H59 2 (rc (s_eql (decide ((n4 X0).1 = 0)) rfl rfl ((decide_eq_decide.2 t0)) rfl (rc (s_call [.pointer (pa bk10), .bool (decide ((n4 X0).1 = 0)), .int .i64 243] pl_38 rfl rfl (ir_wrong bk10 bk7 ((n4 X0).2) (decide ((n4 X0).1 = 0)) 243 (i := 0) rfl H59) ?_))))))))))))
 rintro _ w60 ⟨rfl, H61⟩
 have H62 : St W w60 (_ :: _ :: _ :: _ :: F) := H61
 have hR63 : remB bs q52 = (j4 X0).R := hR53.trans (stW_R _ _ _).symm
 refine r_nil (g_seq ?_)
 refine g_cut (fun (x_ : Nat × (List BoundD) × (Option Addr) × Nat × Int) => match x_ with | (pM, LM, qM, cM, tM) => [(2, .pointer (pa bk4)), (3, .int .i64 0), (4, .pointer (pa bk10)), (7, .pointer (pa bk46))]) (fun (x_ : Nat × (List BoundD) × (Option Addr) × Nat × Int) w => match x_ with | (pM, LM, qM, cM, tM) => (remB bs pM = (j5 X0).R) ∧ (pM ≤ 8 * bs.length) ∧ ((j5 X0).e = 0 → LM.map BoundD.v = (ival clipN X0).bs) ∧ ((j5 X0).e = 0 → tM = (ival clipN X0).t.v) ∧ St W w (blk bk10 (.cells #[.pointer (pa bk7), .int .i64 ((j5 X0).e)] 73 (0, 0)) :: SrcA bk7 bs pM :: blk bk46 (.cells #[.int .i64 (clipN ((n1 X0).1)), .int .i64 (clipN ((n2 X0).1)), .int .i64 (clipN ((n3 X0).1)), .int .i64 ((n4 X0).1 : Int), .slice qM LM.length cM, .int .i64 tM] 26 (0, 0)) :: blk bk4 (.cells #[.int .i64 0, .int .i64 0, .int .i64 0, .int .i64 0, .slice none 0 0, .int .i64 0] 26 (0, 0)) :: Im 6 (.slice qM LM.length cM) LM.length (LM.flatMap bndCell) :: bndsA LM :: F)) ?_ ?_
 ·rintro ⟨pM, LM, qM, cM, tM⟩ ρ67 w65 ⟨hRM, hpM, hLM, htM, H66⟩
  change Ends _ _ (upds ρ67 [(2, .pointer (pa bk4)), (3, .int .i64 0), (4, .pointer (pa bk10)), (7, .pointer (pa bk46))]) w65
  refine g_seq (g_region (Mv (.pointer (pa bk10)) (rc (s_call [.pointer (pa bk10)] pl_42 rfl rfl (ir_end bk10 bk7 bs pM (j5 X0) hRM hpM t0 H66) ?_))))
  rintro _ w68 ⟨rfl, H69⟩
  have H70 : St W w68 (_ :: _ :: _ :: _ :: _ :: _ :: F) := H69
  refine r_nil (g_seq (g_seq (g_region (Mv (.pointer (pa bk10)) (Nc (.pointer (pa bk10)) (Fa 1 fi_73_1 rfl (Lo (.int .i64 (j6 X0)) ag_28 H70 0 ?_)))))))
  by_cases hc71 : (j6 X0) = 0
  ·refine rc (s_eql true rfl rfl (dtrue hc71) rfl (r_nil (g_true rfl (g_region ?_))))
   have h5 : (j5 X0).e = 0 := Decidable.byContradiction fun hn => hn ((j6_no hn).symm.trans hc71)
   obtain ⟨x9, xv, x1, x2, x3, x4, x5, x6, x7, x8⟩ := it_made h5 (hLM h5) qM cM
   have xt := htM h5
   have H72 : St W w68 (blk bk10 (.cells #[.pointer (pa bk7), .int .i64 (j6 X0)] 73 (0, 0)) :: SrcA bk7 bs pM :: blk bk46 (.cells #[.int .i64 x9.op.v, .int .i64 x9.inp.v, .int .i64 x9.ep.v, .int .i64 x9.kind.v, .slice x9.p x9.bs.length x9.c, .int .i64 x9.t.v] 26 (0, 0)) :: blk bk4 (.cells #[.int .i64 0, .int .i64 0, .int .i64 0, .int .i64 0, .slice none 0 0, .int .i64 0] 26 (0, 0)) :: Im 6 (.slice x9.p x9.bs.length x9.c) x9.bs.length (x9.bs.flatMap bndCell) :: bndsA x9.bs :: F) := by rw [x1, x2, x3, x4, x5, x6, x7, x8, ← xt]; exact H70
   refine Mv (.pointer (pa bk10)) (La (itl x9) 6 ag_26 H72 2 (rc (s_call [.agg (itc x9)] pl_10 rfl rfl (migrate_CheckItem x9 (ip := 4) rfl (iq := 5) rfl H72) ?_)))
   rintro _ w73 ⟨rfl, H74⟩
   refine Nc (.pointer (pa bk10)) (Fa 1 fi_73_1 rfl (rc (s_store H74 0 (.int .i64 (itE x9)) rfl rfl rfl sz_28 rfl (nbl rfl) rfl (cs' := #[.pointer (pa bk7), .int .i64 (itE x9)]) rfl (fun w75 H76 => r_nil (g_seq (g_seq (g_region (Mv (.pointer (pa bk10)) (Nc (.pointer (pa bk10)) (Fa 1 fi_73_1 rfl (Lo (.int .i64 (itE x9)) ag_28 H76 0 ?_)))))))))))
   by_cases hc77 : itE x9 = 0
   ·refine rc (s_neq false rfl rfl (ntrue hc77) rfl (r_nil (g_false rfl (g_skip (g_seq (g_region (La (itl x9) 6 ag_26 H76 2 (Sa H76 3 rfl (itc x9) 6 sz_26 (itc x9) (fun w78 H79 => Ag (.int .i64 0) (r_nil ?_))))))))))
    refine g_ret' [.agg (itc x9), .int .i64 0] Tryz.func7 Tryz.results7 ⟨(res_cellN rfl ag_26 (H79.blk_at (i := 3) rfl) (nbl rfl) rfl), rfl, trivial⟩ ?_
    have hE : ipE (remB bs 0) = 0 := by rw [ip_yes (by rw [← hX0]; exact hc71), ← hX0, ← itE_of xv]; assumption
    have H80 : St W w78 (_ :: _ :: F) := (H79.mv [5, 5, 102, 102, 102, 102])
    exact ⟨x9, by rw [hE]; rfl, by rw [ipV_yes hE, ← hX0]; exact xv, H80⟩
   refine rc (s_neq true rfl rfl (nfalse hc77) rfl (r_nil (g_true rfl (g_seq ?_))))
   have H81 : St W w75 (_ :: _ :: _ :: _ :: _ :: _ :: F) := (H76.mv [3, 5, 5, 5, 5, 5])
   refine g_mix (fun t_ w => St W w (blk bk10 (.cells #[.pointer (pa bk7), .int .i64 (itE x9)] 73 (0, 0)) :: SrcA bk7 bs pM :: blk bk46 (.cells (itc x9) 26 (0, 0)) :: Im 6 (.slice x9.p x9.bs.length x9.c) x9.bs.length (x9.bs.flatMap bndCell) :: bndsA x9.bs :: t_)) (blk bk4 (.cells #[.int .i64 0, .int .i64 0, .int .i64 0, .int .i64 0, .slice none 0 0, .int .i64 0] 26 (0, 0)) :: F) mixed 7 rfl H81.drew ?_
   refine Fv 0 rfl (fun t_ w hw => x_build (cs := #[.int .i64 0, .int .i64 0, .int .i64 0, .int .i64 0, .slice none 0 0, .int .i64 0]) t5 w) (Fv 1 rfl (fun _ w _ => x_move (.pointer (pa bk10)) rfl w) (Fv 2 rfl (fun t_ w hw => x_nilCheck (.pointer (pa bk10)) rfl ⟨_, rfl⟩ w) (Fv 3 rfl (fun t_ w hw => x_fieldAddr 73 1 1 1 28 rfl fi_73_1 rfl w) (Fv 4 rfl (fun t_ w hw => x_load (.int .i64 (itE x9)) ag_28 rfl (hw.blk_at (i := 0) rfl) rfl) ?_))))
   refine f_all (rs := [5]) t5 t13 ?_
   refine a_cons ⟨_, rfl, ?_⟩ (fun x hx => absurd hx t13)
   intro w82 H83
   try dsimp only at H83
   refine s_storeAgg H83 5 #[.int .i64 0, .int .i64 0, .int .i64 0, .int .i64 0, .slice none 0 0, .int .i64 0] 6 rfl rfl rfl sz_26 rfl t15 (nbl rfl) (fun o h1 h2 => by first | (simp; done) | (simp; omega)) (cs' := #[.int .i64 0, .int .i64 0, .int .i64 0, .int .i64 0, .slice none 0 0, .int .i64 0]) rfl ?_; intro w84 H85
   refine ⟨blk bk4 (.cells #[.int .i64 0, .int .i64 0, .int .i64 0, .int .i64 0, .slice none 0 0, .int .i64 0] 26 (0, 0)) :: F, ?_, H85⟩
   change FReg _ _ _ _ _ #[true, true, true, true, true, true, false] _ _
   refine Fv 6 rfl (fun t_ w hw => x_assign (.int .i64 (itE x9)) rfl w) ?_
   refine f_done t5 ?_
   intro w86 H87
   refine g_ret' [.agg #[.int .i64 0, .int .i64 0, .int .i64 0, .int .i64 0, .slice none 0 0, .int .i64 0], .int .i64 (itE x9)] Tryz.func7 Tryz.results7 ⟨(res_cellN rfl ag_26 (H87.blk_at (i := 5) rfl) (nbl rfl) rfl), rfl, trivial⟩ ?_
   have hE : ipE (remB bs 0) = itE x9 := by rw [ip_yes (by rw [← hX0]; exact hc71), ← hX0, ← itE_of xv]
   have hE0 : ¬ ipE (remB bs 0) = 0 := by rw [hE]; assumption
   have H88 := bndsA_nil H87
   have H89 := Row.im (Row.nil_intro H88 121 6) (i := 0) rfl
   have H90 : St W w86 (_ :: _ :: F) := (H89.mv [1, 1, 102, 102, 102, 102, 102, 102])
   exact ⟨zeroD, by rw [hE]; rfl, by rw [ipV_no hE0]; rfl, H90⟩
  refine rc (s_eql false rfl rfl (dfalse hc71) rfl (r_nil (g_false rfl (g_skip (g_seq (g_seq (g_region (Mv (.pointer (pa bk10)) (Nc (.pointer (pa bk10)) (Fa 1 fi_73_1 rfl (Lo (.int .i64 (j6 X0)) ag_28 H70 0 (rc (s_neq true rfl rfl (nfalse t0) rfl (r_nil (g_true rfl (g_seq ?_))))))))))))))))
  have H91 : St W w68 (_ :: _ :: _ :: _ :: _ :: _ :: F) := (H70.mv [3, 5, 5, 5, 5, 5])
  refine g_mix (fun t_ w => St W w (blk bk10 (.cells #[.pointer (pa bk7), .int .i64 (j6 X0)] 73 (0, 0)) :: SrcA bk7 bs pM :: blk bk46 (.cells #[.int .i64 (clipN ((n1 X0).1)), .int .i64 (clipN ((n2 X0).1)), .int .i64 (clipN ((n3 X0).1)), .int .i64 ((n4 X0).1 : Int), .slice qM LM.length cM, .int .i64 tM] 26 (0, 0)) :: Im 6 (.slice qM LM.length cM) LM.length (LM.flatMap bndCell) :: bndsA LM :: t_)) (blk bk4 (.cells #[.int .i64 0, .int .i64 0, .int .i64 0, .int .i64 0, .slice none 0 0, .int .i64 0] 26 (0, 0)) :: F) mixed 7 rfl H91.drew ?_
  refine Fv 0 rfl (fun t_ w hw => x_build (cs := #[.int .i64 0, .int .i64 0, .int .i64 0, .int .i64 0, .slice none 0 0, .int .i64 0]) t5 w) (Fv 1 rfl (fun _ w _ => x_move (.pointer (pa bk10)) rfl w) (Fv 2 rfl (fun t_ w hw => x_nilCheck (.pointer (pa bk10)) rfl ⟨_, rfl⟩ w) (Fv 3 rfl (fun t_ w hw => x_fieldAddr 73 1 1 1 28 rfl fi_73_1 rfl w) (Fv 4 rfl (fun t_ w hw => x_load (.int .i64 (j6 X0)) ag_28 rfl (hw.blk_at (i := 0) rfl) rfl) ?_))))
  refine f_all (rs := [5]) t5 t13 ?_
  refine a_cons ⟨_, rfl, ?_⟩ (fun x hx => absurd hx t13)
  intro w92 H93
  try dsimp only at H93
  refine s_storeAgg H93 5 #[.int .i64 0, .int .i64 0, .int .i64 0, .int .i64 0, .slice none 0 0, .int .i64 0] 6 rfl rfl rfl sz_26 rfl t15 (nbl rfl) (fun o h1 h2 => by first | (simp; done) | (simp; omega)) (cs' := #[.int .i64 0, .int .i64 0, .int .i64 0, .int .i64 0, .slice none 0 0, .int .i64 0]) rfl ?_; intro w94 H95
  refine ⟨blk bk4 (.cells #[.int .i64 0, .int .i64 0, .int .i64 0, .int .i64 0, .slice none 0 0, .int .i64 0] 26 (0, 0)) :: F, ?_, H95⟩
  change FReg _ _ _ _ _ #[true, true, true, true, true, true, false] _ _
  refine Fv 6 rfl (fun t_ w hw => x_assign (.int .i64 (j6 X0)) rfl w) ?_
  refine f_done t5 ?_
  intro w96 H97
  refine g_ret' [.agg #[.int .i64 0, .int .i64 0, .int .i64 0, .int .i64 0, .slice none 0 0, .int .i64 0], .int .i64 (j6 X0)] Tryz.func7 Tryz.results7 ⟨(res_cellN rfl ag_26 (H97.blk_at (i := 5) rfl) (nbl rfl) rfl), rfl, trivial⟩ ?_
  have hE : ipE (remB bs 0) = (j6 X0) := by rw [ip_no (by rw [← hX0]; exact hc71), ← hX0]
  have hE0 : ¬ ipE (remB bs 0) = 0 := by rw [hE]; assumption
  have H98 := bndsA_nil H97
  have H99 := Row.im (Row.nil_intro H98 121 6) (i := 0) rfl
  have H100 : St W w96 (_ :: _ :: F) := (H99.mv [1, 1, 102, 102, 102, 102, 102, 102])
  exact ⟨zeroD, by rw [hE]; rfl, by rw [ipV_no hE0]; rfl, H100⟩
 intro join64
 refine g_block (g_seq (g_region (Mv (.pointer (pa bk10)) (Nc (.pointer (pa bk10)) (Fa 1 fi_73_1 rfl (Lo (.int .i64 ((j4 X0).e)) ag_28 H62 0 ?_))))))
 by_cases hc101 : (j4 X0).e = 0
 ·refine rc (s_neq false rfl rfl (ntrue hc101) rfl (Ag (.bool false) (r_nil (g_false rfl (g_seq (g_region (Fa 3 fi_26_3 rfl (Lo (.int .i64 ((n4 X0).1 : Int)) ag_3 H62 2 ?_))))))))
  by_cases hc102 : ((n4 X0).1 : Int) = 1
  ·refine rc (s_eql true rfl rfl (dtrue hc102) rfl (Ag (.bool true) (r_nil (g_true rfl (g_region (Mv (.pointer (pa bk10)) (Mv (.pointer (pa bk10)) (Nc (.pointer (pa bk10)) (Fa 0 fi_73_0 rfl (Lo (.pointer (pa bk7)) ag_70 H62 0 (rc (s_call [.pointer (pa bk7)] pl_41 rfl rfl (match_Take bk7 bs q52 t4 t0 (i := 1) rfl H62) ?_))))))))))))
   rintro _ w110 ⟨L103, pp104, cc105, q106, rfl, hL107, hR108, hp109, H111⟩
   refine Mv (.tuple #[.agg #[.slice pp104 L103.length cc105], .int .i64 (qtE (remB bs q52))]) (Ex (.agg #[.slice pp104 L103.length cc105]) (Ex (.int .i64 (qtE (remB bs q52))) (Fa 4 fi_26_4 rfl (Sa H111 4 rfl #[.slice pp104 L103.length cc105] 1 sz_24 #[.int .i64 (clipN ((n1 X0).1)), .int .i64 (clipN ((n2 X0).1)), .int .i64 (clipN ((n3 X0).1)), .int .i64 ((n4 X0).1 : Int), .slice pp104 L103.length cc105, .int .i64 0] (fun w112 H113 => Nc (.pointer (pa bk10)) (Fa 1 fi_73_1 rfl (rc (s_store H113 2 (.int .i64 (qtE (remB bs q52))) rfl rfl rfl sz_28 rfl (nbl rfl) rfl (cs' := #[.pointer (pa bk7), .int .i64 (qtE (remB bs q52))]) rfl (fun w114 H115 => r_nil (g_inBlock ?_))))))))))
   have hk9 : (n4 X0).1 = 1 := by omega
   have h59 := j5_1 hc101 hk9
   have H116 : St W w114 (Im 6 (.slice pp104 L103.length cc105) L103.length (L103.flatMap bndCell) :: bndsA L103 :: blk bk10 (.cells #[.pointer (pa bk7), .int .i64 ((j5 X0).e)] 73 (0, 0)) :: SrcA bk7 bs q106 :: blk bk46 (.cells #[.int .i64 (clipN ((n1 X0).1)), .int .i64 (clipN ((n2 X0).1)), .int .i64 (clipN ((n3 X0).1)), .int .i64 ((n4 X0).1 : Int), .slice pp104 L103.length cc105, .int .i64 0] 26 (0, 0)) :: blk bk4 (.cells #[.int .i64 0, .int .i64 0, .int .i64 0, .int .i64 0, .slice none 0 0, .int .i64 0] 26 (0, 0)) :: F) := by rw [h59, ← hR63]; exact H115
   have H117 : St W w114 (_ :: _ :: _ :: _ :: _ :: _ :: F) := (H116.mv [1, 1, 5, 5, 5, 5])
   exact join64 (q106, L103, pp104, cc105, 0) _ _ ⟨(by rw [h59]; show remB bs _ = qtR (j4 X0).R; rw [hR108, hR63]), hp109, (fun _ => by rw [ival_bs1 hk9, hL107, hR63]), (fun _ => by rw [ival_t0 t0]), H117⟩ t1
  refine rc (s_eql false rfl rfl (dfalse hc102) rfl (Ag (.bool false) (r_nil (g_false rfl (g_seq (g_region (Fa 3 fi_26_3 rfl (Lo (.int .i64 ((n4 X0).1 : Int)) ag_3 H62 2 ?_))))))))
  by_cases hc118 : ((n4 X0).1 : Int) = 2
  ·refine rc (s_eql true rfl rfl (dtrue hc118) rfl (Ag (.bool true) (r_nil (g_true rfl (g_region (Mv (.pointer (pa bk10)) (rc (s_call [.pointer (pa bk10)] pl_37 rfl rfl (ir_nat bk10 bk7 bs q52 (j4 X0) hR63 hp54 t0 H62) ?_))))))))
   rintro _ w122 ⟨rfl, q119, hR120, hp121, H123⟩
   have H124 : St W w122 (_ :: _ :: _ :: _ :: F) := H123
   refine rc (s_call [.int .u64 ((stN (j4 X0)).1 : Int)] pl_39 rfl rfl (migrate_clip ((stN (j4 X0)).1) stN_lt H124) ?_)
   rintro _ w125 ⟨rfl, H126⟩
   refine Fa 5 fi_26_5 rfl (rc (s_store H126 2 (.int .i64 (clipN ((stN (j4 X0)).1))) rfl rfl rfl sz_2 rfl (nbl rfl) rfl (cs' := #[.int .i64 (clipN ((n1 X0).1)), .int .i64 (clipN ((n2 X0).1)), .int .i64 (clipN ((n3 X0).1)), .int .i64 ((n4 X0).1 : Int), .slice none 0 0, .int .i64 (clipN ((stN (j4 X0)).1))]) rfl (fun w127 H128 => r_nil (g_inBlock ?_))))
   have hk9 : (n4 X0).1 = 2 := by omega
   have h59 := j5_2 hc101 hk9
   have H129 : St W w127 (blk bk10 (.cells #[.pointer (pa bk7), .int .i64 ((j5 X0).e)] 73 (0, 0)) :: SrcA bk7 bs q119 :: blk bk46 (.cells #[.int .i64 (clipN ((n1 X0).1)), .int .i64 (clipN ((n2 X0).1)), .int .i64 (clipN ((n3 X0).1)), .int .i64 ((n4 X0).1 : Int), .slice none 0 0, .int .i64 (clipN ((stN (j4 X0)).1))] 26 (0, 0)) :: blk bk4 (.cells #[.int .i64 0, .int .i64 0, .int .i64 0, .int .i64 0, .slice none 0 0, .int .i64 0] 26 (0, 0)) :: F) := by rw [h59]; exact H128
   have H130 := bndsA_nil H129
   have H131 := Row.im (Row.nil_intro H130 121 6) (i := 0) rfl
   have H132 : St W w127 (_ :: _ :: _ :: _ :: _ :: _ :: F) := (H131.mv [1, 1, 5, 5, 5, 5])
   exact join64 (q119, ([] : List BoundD), none, 0, clipN ((stN (j4 X0)).1)) _ _ ⟨(by rw [h59]; exact hR120), hp121, (fun _ => by rw [ival_bs0 t0]; rfl), (fun _ => by rw [ival_t2c hk9]), H132⟩ t1
  refine rc (s_eql false rfl rfl (dfalse hc118) rfl (Ag (.bool false) (r_nil (g_false rfl (g_skip (g_inBlock ?_))))))
  have h59 := j5_3 (X := X0) t0 t0
  have H133 : St W w60 (blk bk10 (.cells #[.pointer (pa bk7), .int .i64 ((j5 X0).e)] 73 (0, 0)) :: SrcA bk7 bs q52 :: blk bk46 (.cells #[.int .i64 (clipN ((n1 X0).1)), .int .i64 (clipN ((n2 X0).1)), .int .i64 (clipN ((n3 X0).1)), .int .i64 ((n4 X0).1 : Int), .slice none 0 0, .int .i64 0] 26 (0, 0)) :: blk bk4 (.cells #[.int .i64 0, .int .i64 0, .int .i64 0, .int .i64 0, .slice none 0 0, .int .i64 0] 26 (0, 0)) :: F) := by rw [h59]; exact H62
  have H134 := bndsA_nil H133
  have H135 := Row.im (Row.nil_intro H134 121 6) (i := 0) rfl
  have H136 : St W w60 (_ :: _ :: _ :: _ :: _ :: _ :: F) := (H135.mv [1, 1, 5, 5, 5, 5])
  exact join64 (q52, ([] : List BoundD), none, 0, 0) _ _ ⟨(by rw [h59]; exact hR63), hp54, (fun _ => by rw [ival_bs0 t0]; rfl), (fun _ => by rw [ival_t0 t0]), H136⟩ t1
 refine rc (s_neq true rfl rfl (nfalse hc101) rfl (Ag (.bool true) (r_nil (g_true rfl (g_skip (g_inBlock ?_))))))
 have H137 : St W w60 (blk bk10 (.cells #[.pointer (pa bk7), .int .i64 ((j5 X0).e)] 73 (0, 0)) :: SrcA bk7 bs q52 :: blk bk46 (.cells #[.int .i64 (clipN ((n1 X0).1)), .int .i64 (clipN ((n2 X0).1)), .int .i64 (clipN ((n3 X0).1)), .int .i64 ((n4 X0).1 : Int), .slice none 0 0, .int .i64 0] 26 (0, 0)) :: blk bk4 (.cells #[.int .i64 0, .int .i64 0, .int .i64 0, .int .i64 0, .slice none 0 0, .int .i64 0] 26 (0, 0)) :: F) := by rw [j5_no hc101]; exact H62
 have H138 := bndsA_nil H137
 have H139 := Row.im (Row.nil_intro H138 121 6) (i := 0) rfl
 have H140 : St W w60 (_ :: _ :: _ :: _ :: _ :: _ :: F) := (H139.mv [1, 1, 5, 5, 5, 5])
 exact join64 (q52, ([] : List BoundD), none, 0, 0) _ _ ⟨(by rw [j5_no hc101]; exact hR63), hp54, (fun h_ => absurd (by rw [j5_no hc101] at h_; exact h_) hc101), (fun h_ => absurd (by rw [j5_no hc101] at h_; exact h_) hc101), H140⟩ t1
/-- A gate: its epoch, what waits. -/
def GtA (g : Nat) (e : Int) (L : List ItemD) : Atom := ex fun q : Option Addr × Nat => star [blk g (.cells #[.bool true, .int .i64 e, .slice q.1 L.length q.2] 90 (0, 0)), Row 26 6 (.slice q.1 L.length q.2) L.length (L.flatMap itCell), itsA L]
theorem Gate_turn (g : Nat) (e : Int) (L : List ItemD) (hL : L.length ≤ 1099511627776) {i : Nat} (hi : F[i]? = some (GtA g e L)) (H : St W w F) : Calls Tryz.prog 55 #[.pointer (pa g)] w (Ret fun v w' => ∃ p c, v = .tuple #[.slice p ((trO epD kdD e L).length) c, .bool (trE epD kdD e L)] ∧ St W w' (Row 26 6 (.slice p ((trO epD kdD e L).length) c) ((trO epD kdD e L).length) ((trO epD kdD e L).flatMap itCell) :: itsA (trO epD kdD e L) :: F.set i (GtA g e (trR epD e L)))) := by
 have H0 := H.front hi
 refine calls_of_go (n := 47) Tryz.func55 rfl Tryz.ntmps55 rfl ?_
 refine g_seq (g_region (Ag (.slice none 0 0) (Ag (.bool false) (r_nil (g_seq (g_region (Ag (.slice none 0 0) (Ag (.slice none 0 0) (r_nil (g_seq (g_region (Ag (.bool false) (r_nil (g_seq (g_seq (g_region (Mv (.pointer (pa g)) (Nc (.pointer (pa g)) (Fa 2 fi_90_2 rfl ?_)))))))))))))))))))
 have H1 := H0.move 0 rfl
 obtain ⟨⟨pp2, cc3⟩, H4⟩ := St.open_ex H1
 have H5 := St.open_star H4
 have H6 : St W w (_ :: _ :: _ :: (F.set i emp)) := H5
 refine Lo (.slice pp2 L.length cc3) ag_38 H6 0 (rc (s_len L.length rfl ⟨_, un_38⟩ rfl (Mv (.int .i64 0) (r_nil (g_block ?_)))))
 have H7 : St W w (_ :: _ :: _ :: (F.set i emp)) := Row.im H6 (i := 1) rfl
 obtain ⟨pA8, cA9, gA10, oA11, kA12, eA13, zA14, he20, hn15, hp16, hx17, hs18, hml, H19⟩ := Im.open_ H7 (i := 1) rfl
 obtain ⟨rfl, rfl⟩ : pp2 = pA8 ∧ cc3 = cA9 := by injection he20 with a_ b_ c_; exact ⟨a_, c_⟩
 have H21 := Row.nil_intro H19 26 6
 have H22 := Row.nil_intro H21 26 6
 refine g_loop_inv (fun ((j, p1, d1, p2, d2) : Nat × (Option Addr) × Nat × (Option Addr) × Nat) => [(0, .pointer (pa g)), (2, .slice none 0 0), (3, .bool false), (4, .slice p1 ((trO epD kdD e (L.take j)).length) d1), (5, .slice p2 ((trR epD e (L.take j)).length) d2), (6, .bool (trE epD kdD e (L.take j))), (12, .slice pp2 L.length cc3), (13, .int .i64 (L.length : Int)), (14, .int .i64 (j : Int))]) (fun (j, p1, d1, p2, d2) w => (j ≤ L.length) ∧ St W w (Row 26 6 (.slice p1 ((trO epD kdD e (L.take j)).length) d1) ((trO epD kdD e (L.take j)).length) ((trO epD kdD e (L.take j)).flatMap itCell) :: Row 26 6 (.slice p2 ((trR epD e (L.take j)).length) d2) ((trR epD e (L.take j)).length) ((trR epD e (L.take j)).flatMap itCell) :: imi (0 < L.length) gA10 (.cells kA12 eA13 zA14) :: blk g (.cells #[.bool true, .int .i64 e, .slice pp2 L.length cc3] 90 (0, 0)) :: Im 6 (.slice pp2 L.length cc3) L.length (L.flatMap itCell) :: itsA L :: (F.set i emp))) (fun (j, p1, d1, p2, d2) => L.length - j) (0, none, 0, none, 0) ?_ ?_ ?_
 ·exact t1
 ·exact ⟨t0, H22⟩
 rintro ⟨j, p1, d1, p2, d2⟩ ρ23 w24 ⟨hjn, H25⟩ nx26
 change Ends _ _ (upds ρ23 [(0, .pointer (pa g)), (2, .slice none 0 0), (3, .bool false), (4, .slice p1 ((trO epD kdD e (L.take j)).length) d1), (5, .slice p2 ((trR epD e (L.take j)).length) d2), (6, .bool (trE epD kdD e (L.take j))), (12, .slice pp2 L.length cc3), (13, .int .i64 (L.length : Int)), (14, .int .i64 (j : Int))]) w24
 have hlr := trR_len (ep := epD) (e := e) (L := L.take j)
 have hlo := trO_len (ep := epD) (kd := kdD) (e := e) (L := L.take j)
 have hlt : (L.take j).length = j := by rw [List.length_take]; omega
 refine g_seq (g_region ?_)
 by_cases hc27 : (j : Int) < (L.length : Int)
 ·refine rc (s_lss true rfl rfl (dtrue hc27) rfl (r_nil (g_seq (g_true rfl (g_skip (g_seq (g_block (g_seq (g_region (rc (s_indexAddr gA10 (off := oA11) (j : Int) 6 (oA11 + j * 6) (by exact congrArg (fun z_ => Value.slice z_ L.length cc3) (hp16 t0)) rfl el_38 t0 rfl rfl (rc (s_loadAgg (itl (L.getD j default)) 6 ag_26 rfl (H25.imi_at (i := 2) rfl t0) (by have := elem_size (i := j) (s := 6) (hs18 t0) t0; omega) (elem_take itCell_len (hx17 t0) t0 default) rfl (rc (s_alloc H25 26 ze_26 rfl (fun bk28 w29 H30 => Sa H30 0 rfl (itc (L.getD j default)) 6 sz_26 (itc (L.getD j default)) (fun w31 H32 => r_nil (g_block (g_seq ?_)))))))))))))))))))
  refine g_quiet (fun w' => St W w' (blk bk28 (.cells (itc (L.getD j default)) 26 (0, 0)) :: Row 26 6 (.slice p1 ((trO epD kdD e (L.take j)).length) d1) ((trO epD kdD e (L.take j)).length) ((trO epD kdD e (L.take j)).flatMap itCell) :: Row 26 6 (.slice p2 ((trR epD e (L.take j)).length) d2) ((trR epD e (L.take j)).length) ((trR epD e (L.take j)).flatMap itCell) :: imi (0 < L.length) gA10 (.cells kA12 eA13 zA14) :: blk g (.cells #[.bool true, .int .i64 e, .slice pp2 L.length cc3] 90 (0, 0)) :: Im 6 (.slice pp2 L.length cc3) L.length (L.flatMap itCell) :: itsA L :: (F.set i emp))) mixed t5 H32.drew ?_
  refine Qf 2 fi_26_2 rfl (Qv (fun w hw => x_load (.int .i64 ((L.getD j default).ep.v)) ag_2 rfl (hw.blk_at (i := 0) rfl) rfl) (Qm (.pointer (pa g)) (Qv (fun w hw => x_nilCheck (.pointer (pa g)) rfl ⟨_, rfl⟩ w) (Qf 1 fi_90_1 rfl (Qv (fun w hw => x_load (.int .i64 e) ag_2 rfl (hw.blk_at (i := 4) rfl) rfl) ?_)))))
  by_cases hc33 : (L.getD j default).ep.v = e
  ·refine Qv (fun w hw => x_neq false rfl rfl (ntrue hc33) w) (Qv (fun w hw => x_assign (.bool false) rfl w) (q_nil ?_))
   intro w34 H35
   refine g_false rfl (g_seq (g_region (Mv (.bool (trE epD kdD e (L.take j))) (Ag (.bool (trE epD kdD e (L.take j))) (r_nil ?_)))))
   by_cases hb36 : (trE epD kdD e (L.take j)) = true
   ·refine g_true (congrArg Value.bool hb36) (g_skip (g_inBlock (g_inBlock (g_region (rc (s_add ((j : Int) + 1) rfl rfl (wi64 t0) rfl (Mv (.int .i64 ((j : Int) + 1)) (r_nil ?_))))))))
    have ht9 := take_getD (L := L) (j := j) t0
    obtain ⟨h1, h2, h3⟩ := tr_past (L := L.take j) (x := (L.getD j default)) (ep := epD) (e := e) hc33 hb36
    have H37 : St W w34 (blk bk28 (.cells #[.int .i64 ((L.getD j default).op.v), .int .i64 ((L.getD j default).inp.v), .int .i64 ((L.getD j default).ep.v), .int .i64 ((L.getD j default).kind.v), .slice ((L.getD j default).p) ((L.getD j default).bs.length) ((L.getD j default).c), .int .i64 ((L.getD j default).t.v)] 26 (0, 0)) :: Row 26 6 (.slice p1 ((trO epD kdD e (L.take (j + 1))).length) d1) ((trO epD kdD e (L.take (j + 1))).length) ((trO epD kdD e (L.take (j + 1))).flatMap itCell) :: Row 26 6 (.slice p2 ((trR epD e (L.take (j + 1))).length) d2) ((trR epD e (L.take (j + 1))).length) ((trR epD e (L.take (j + 1))).flatMap itCell) :: imi (0 < L.length) gA10 (.cells kA12 eA13 zA14) :: blk g (.cells #[.bool true, .int .i64 e, .slice pp2 L.length cc3] 90 (0, 0)) :: Im 6 (.slice pp2 L.length cc3) L.length (L.flatMap itCell) :: itsA L :: (F.set i emp)) := by rw [ht9, h1, h2]; (try rw [List.flatMap_append, List.length_append]); exact H35
    have H38 : St W w34 (_ :: _ :: _ :: _ :: _ :: _ :: (F.set i emp)) := (H37.mv [6, 6, 6, 6, 6, 6, 106])
    exact nx26 (j + 1, p1, d1, p2, d2) _ _ ⟨t0, H38⟩ t7 ⟨by first | rfl | exact vint t0, by first | rfl | exact vint t0, by first | rfl | exact vint t0, by rw [ht9, h2]; first | rfl | (rw [List.length_append]; rfl), by rw [ht9, h1]; first | rfl | (rw [List.length_append]; rfl), by rw [ht9, h3]; first | rfl | exact congrArg Value.bool t11, by first | rfl | exact vint t0, by first | rfl | exact vint t0, by first | rfl | exact vint t0, trivial⟩
   have hb36 := eq_false_of_ne_true hb36
   refine g_false (congrArg Value.bool hb36) (g_seq (g_region (Fa 3 fi_26_3 rfl (Lo (.int .i64 ((L.getD j default).kind.v)) ag_3 H35 0 ?_))))
   by_cases hc39 : (L.getD j default).kind.v = 3
   ·refine rc (s_eql true rfl rfl (dtrue hc39) rfl (Ag (.bool true) (r_nil (g_true rfl (g_region (Ag (.bool true) (r_nil (g_inBlock (g_inBlock (g_region (rc (s_add ((j : Int) + 1) rfl rfl (wi64 t0) rfl (Mv (.int .i64 ((j : Int) + 1)) (r_nil ?_))))))))))))))
    have ht9 := take_getD (L := L) (j := j) t0
    obtain ⟨h1, h2, h3⟩ := tr_end (L := L.take j) (x := (L.getD j default)) (ep := epD) (e := e) hc33 hb36 hc39
    have H40 : St W w34 (blk bk28 (.cells #[.int .i64 ((L.getD j default).op.v), .int .i64 ((L.getD j default).inp.v), .int .i64 ((L.getD j default).ep.v), .int .i64 ((L.getD j default).kind.v), .slice ((L.getD j default).p) ((L.getD j default).bs.length) ((L.getD j default).c), .int .i64 ((L.getD j default).t.v)] 26 (0, 0)) :: Row 26 6 (.slice p1 ((trO epD kdD e (L.take (j + 1))).length) d1) ((trO epD kdD e (L.take (j + 1))).length) ((trO epD kdD e (L.take (j + 1))).flatMap itCell) :: Row 26 6 (.slice p2 ((trR epD e (L.take (j + 1))).length) d2) ((trR epD e (L.take (j + 1))).length) ((trR epD e (L.take (j + 1))).flatMap itCell) :: imi (0 < L.length) gA10 (.cells kA12 eA13 zA14) :: blk g (.cells #[.bool true, .int .i64 e, .slice pp2 L.length cc3] 90 (0, 0)) :: Im 6 (.slice pp2 L.length cc3) L.length (L.flatMap itCell) :: itsA L :: (F.set i emp)) := by rw [ht9, h1, h2]; (try rw [List.flatMap_append, List.length_append]); exact H35
    have H41 : St W w34 (_ :: _ :: _ :: _ :: _ :: _ :: (F.set i emp)) := (H40.mv [6, 6, 6, 6, 6, 6, 106])
    exact nx26 (j + 1, p1, d1, p2, d2) _ _ ⟨t0, H41⟩ t7 ⟨by first | rfl | exact vint t0, by first | rfl | exact vint t0, by first | rfl | exact vint t0, by rw [ht9, h2]; first | rfl | (rw [List.length_append]; rfl), by rw [ht9, h1]; first | rfl | (rw [List.length_append]; rfl), by rw [ht9, h3]; first | rfl | exact congrArg Value.bool t11, by first | rfl | exact vint t0, by first | rfl | exact vint t0, by first | rfl | exact vint t0, trivial⟩
   refine rc (s_eql false rfl rfl (dfalse hc39) rfl (Ag (.bool false) (r_nil (g_false rfl (g_region (Mv (.slice p1 ((trO epD kdD e (L.take j)).length) d1) (La (itl (L.getD j default)) 6 ag_26 H35 0 (rc (s_buildSlice H35 6 1 (cs := (itc (L.getD j default))) #[.int .i64 0, .int .i64 0, .int .i64 0, .int .i64 0, .slice none 0 0, .int .i64 0] el_38 ze_26 t9 t9 t5 rfl (fun bk42 w43 H44 => rc (s_append H44 2 rfl rfl rfl (rd_blk (H44.blk_at (i := 0) rfl) rfl (nbl rfl) t15) ap_38 t9 t12 t0 (n' := (trO epD kdD e (L.take j)).length + 1) (xs' := (trO epD kdD e (L.take j)).flatMap itCell ++ ((itl (L.getD j default)) : List Value)) t0 t16 rfl ?_))))))))))); intro vv45 w46 H47 hn48
   obtain ⟨pp49, cc50, rfl⟩ := Row.slice H47 (i := 2) rfl
   refine Ag (.slice pp49 ((trO epD kdD e (L.take j)).length + 1) cc50) (r_nil (g_inBlock (g_inBlock (g_region (rc (s_add ((j : Int) + 1) rfl rfl (wi64 t0) rfl (Mv (.int .i64 ((j : Int) + 1)) (r_nil ?_))))))))
   have ht9 := take_getD (L := L) (j := j) t0
   obtain ⟨h1, h2, h3⟩ := tr_pass (L := L.take j) (x := (L.getD j default)) (ep := epD) (e := e) hc33 hb36 hc39
   have H51 : St W w46 (blk bk42 (.cells #[.int .i64 ((L.getD j default).op.v), .int .i64 ((L.getD j default).inp.v), .int .i64 ((L.getD j default).ep.v), .int .i64 ((L.getD j default).kind.v), .slice ((L.getD j default).p) ((L.getD j default).bs.length) ((L.getD j default).c), .int .i64 ((L.getD j default).t.v)] 26 (0, 0)) :: blk bk28 (.cells #[.int .i64 ((L.getD j default).op.v), .int .i64 ((L.getD j default).inp.v), .int .i64 ((L.getD j default).ep.v), .int .i64 ((L.getD j default).kind.v), .slice ((L.getD j default).p) ((L.getD j default).bs.length) ((L.getD j default).c), .int .i64 ((L.getD j default).t.v)] 26 (0, 0)) :: Row 26 6 (.slice pp49 ((trO epD kdD e (L.take (j + 1))).length) cc50) ((trO epD kdD e (L.take (j + 1))).length) ((trO epD kdD e (L.take (j + 1))).flatMap itCell) :: Row 26 6 (.slice p2 ((trR epD e (L.take (j + 1))).length) d2) ((trR epD e (L.take (j + 1))).length) ((trR epD e (L.take (j + 1))).flatMap itCell) :: imi (0 < L.length) gA10 (.cells kA12 eA13 zA14) :: blk g (.cells #[.bool true, .int .i64 e, .slice pp2 L.length cc3] 90 (0, 0)) :: Im 6 (.slice pp2 L.length cc3) L.length (L.flatMap itCell) :: itsA L :: (F.set i emp)) := by rw [ht9, h1, h2]; (try rw [List.flatMap_append, List.length_append]); exact H47
   have H52 : St W w46 (_ :: _ :: _ :: _ :: _ :: _ :: (F.set i emp)) := (H51.mv [7, 7, 7, 7, 7, 7, 106, 106])
   exact nx26 (j + 1, pp49, cc50, p2, d2) _ _ ⟨t0, H52⟩ t7 ⟨by first | rfl | exact vint t0, by first | rfl | exact vint t0, by first | rfl | exact vint t0, by rw [ht9, h2]; first | rfl | (rw [List.length_append]; rfl), by rw [ht9, h1]; first | rfl | (rw [List.length_append]; rfl), by rw [ht9, h3]; first | rfl | exact congrArg Value.bool t11, by first | rfl | exact vint t0, by first | rfl | exact vint t0, by first | rfl | exact vint t0, trivial⟩
  refine Qv (fun w hw => x_neq true rfl rfl (nfalse hc33) w) (Qv (fun w hw => x_assign (.bool true) rfl w) (q_nil ?_))
  intro w53 H54
  refine g_true rfl (g_region (Mv (.slice p2 ((trR epD e (L.take j)).length) d2) (La (itl (L.getD j default)) 6 ag_26 H54 0 (rc (s_buildSlice H54 6 1 (cs := (itc (L.getD j default))) #[.int .i64 0, .int .i64 0, .int .i64 0, .int .i64 0, .slice none 0 0, .int .i64 0] el_38 ze_26 t9 t9 t5 rfl (fun bk55 w56 H57 => rc (s_append H57 3 rfl rfl rfl (rd_blk (H57.blk_at (i := 0) rfl) rfl (nbl rfl) t15) ap_38 t9 t12 t0 (n' := (trR epD e (L.take j)).length + 1) (xs' := (trR epD e (L.take j)).flatMap itCell ++ ((itl (L.getD j default)) : List Value)) t0 t16 rfl ?_))))))); intro vv58 w59 H60 hn61
  obtain ⟨pp62, cc63, rfl⟩ := Row.slice H60 (i := 3) rfl
  refine Ag (.slice pp62 ((trR epD e (L.take j)).length + 1) cc63) (r_nil (g_inBlock (g_inBlock (g_region (rc (s_add ((j : Int) + 1) rfl rfl (wi64 t0) rfl (Mv (.int .i64 ((j : Int) + 1)) (r_nil ?_))))))))
  have ht9 := take_getD (L := L) (j := j) t0
  obtain ⟨h1, h2, h3⟩ := tr_other (L := L.take j) (x := (L.getD j default)) (ep := epD) (e := e) (kd := kdD) hc33
  have H64 : St W w59 (blk bk55 (.cells #[.int .i64 ((L.getD j default).op.v), .int .i64 ((L.getD j default).inp.v), .int .i64 ((L.getD j default).ep.v), .int .i64 ((L.getD j default).kind.v), .slice ((L.getD j default).p) ((L.getD j default).bs.length) ((L.getD j default).c), .int .i64 ((L.getD j default).t.v)] 26 (0, 0)) :: blk bk28 (.cells #[.int .i64 ((L.getD j default).op.v), .int .i64 ((L.getD j default).inp.v), .int .i64 ((L.getD j default).ep.v), .int .i64 ((L.getD j default).kind.v), .slice ((L.getD j default).p) ((L.getD j default).bs.length) ((L.getD j default).c), .int .i64 ((L.getD j default).t.v)] 26 (0, 0)) :: Row 26 6 (.slice p1 ((trO epD kdD e (L.take (j + 1))).length) d1) ((trO epD kdD e (L.take (j + 1))).length) ((trO epD kdD e (L.take (j + 1))).flatMap itCell) :: Row 26 6 (.slice pp62 ((trR epD e (L.take (j + 1))).length) cc63) ((trR epD e (L.take (j + 1))).length) ((trR epD e (L.take (j + 1))).flatMap itCell) :: imi (0 < L.length) gA10 (.cells kA12 eA13 zA14) :: blk g (.cells #[.bool true, .int .i64 e, .slice pp2 L.length cc3] 90 (0, 0)) :: Im 6 (.slice pp2 L.length cc3) L.length (L.flatMap itCell) :: itsA L :: (F.set i emp)) := by rw [ht9, h1, h2]; (try rw [List.flatMap_append, List.length_append]); exact H60
  have H65 : St W w59 (_ :: _ :: _ :: _ :: _ :: _ :: (F.set i emp)) := (H64.mv [7, 7, 7, 7, 7, 7, 106, 106])
  exact nx26 (j + 1, p1, d1, pp62, cc63) _ _ ⟨t0, H65⟩ t7 ⟨by first | rfl | exact vint t0, by first | rfl | exact vint t0, by first | rfl | exact vint t0, by rw [ht9, h2]; first | rfl | (rw [List.length_append]; rfl), by rw [ht9, h1]; first | rfl | (rw [List.length_append]; rfl), by rw [ht9, h3]; first | rfl | exact congrArg Value.bool t11, by first | rfl | exact vint t0, by first | rfl | exact vint t0, by first | rfl | exact vint t0, trivial⟩
 refine rc (s_lss false rfl rfl (dfalse hc27) rfl (r_nil (g_seq (g_false rfl (g_exit t39 (g_seq (g_region (Mv (.pointer (pa g)) (Mv (.slice p2 ((trR epD e (L.take j)).length) d2) (Nc (.pointer (pa g)) (Fa 2 fi_90_2 rfl (rc (s_store H25 3 (.slice p2 ((trR epD e (L.take j)).length) d2) rfl rfl rfl sz_38 rfl (nbl rfl) rfl (cs' := #[.bool true, .int .i64 e, .slice p2 ((trR epD e (L.take j)).length) d2]) rfl (fun w66 H67 => r_nil (g_seq (g_region (Mv (.slice p1 ((trO epD kdD e (L.take j)).length) d1) (Mv (.bool (trE epD kdD e (L.take j))) (Ag (.slice p1 ((trO epD kdD e (L.take j)).length) d1) (Ag (.bool (trE epD kdD e (L.take j))) (r_nil (Gr [.slice p1 ((trO epD kdD e (L.take j)).length) d1, .bool (trE epD kdD e (L.take j))] Tryz.func55 Tryz.results55 ?_))))))))))))))))))))))
 have hj9 : L.take j = L := by rw [show j = L.length from by omega, List.take_length]
 have H68 : St W w66 (Row 26 6 (.slice p1 ((trO epD kdD e L).length) d1) ((trO epD kdD e L).length) ((trO epD kdD e L).flatMap itCell) :: Row 26 6 (.slice p2 ((trR epD e L).length) d2) ((trR epD e L).length) ((trR epD e L).flatMap itCell) :: imi (0 < L.length) gA10 (.cells kA12 eA13 zA14) :: blk g (.cells #[.bool true, .int .i64 e, .slice p2 ((trR epD e L).length) d2] 90 (0, 0)) :: Im 6 (.slice pp2 L.length cc3) L.length (L.flatMap itCell) :: itsA L :: (F.set i emp)) := by have hx := H67; rw [hj9] at hx; exact hx
 have H69 := itsA_sub (M := (trR epD e L)) H68 (i := 5) rfl (fun x hx => (trR_mem hx).1)
 have H70 := itsA_sub (M := (trO epD kdD e L)) H69 (i := 6) rfl (fun x hx => trO_mem hx)
 have H71 : St W w66 (_ :: _ :: _ :: _ :: _ :: _ :: _ :: _ :: (F.set i emp)) := (H70.mv [1, 3, 5])
 have H72 : St W w66 (GtA g e (trR epD e L) :: _ :: _ :: _ :: _ :: _ :: (F.set i emp)) := St.shut_ex (p2, d2) (St.shut_star (ls := [_, _, _]) H71)
 have H73 : St W w66 (_ :: _ :: _ :: (F.set i emp)) := (H72.mv [1, 2, 103, 103, 103])
 have H74 : St W w66 (_ :: (Row 26 6 (.slice p1 ((trO epD kdD e L).length) d1) ((trO epD kdD e L).length) ((trO epD kdD e L).flatMap itCell) :: itsA (trO epD kdD e L) :: F).set (i + 2) emp) := (H73.move 2 rfl)
 exact ⟨_, _, by rw [hj9]; rfl, St.back (i := i + 2) t34 H74⟩
theorem Gate_Take (g : Nat) (e : Int) (L : List ItemD) (x : ItemD) (hok : bsOk x.bs) (hL : L.length ≤ 1099511627776) (he : e + L.length + 1 ≤ 4611686018427387904) (he0 : 0 ≤ e) {i : Nat} (hi : F[i]? = some (GtA g e L)) {ip : Nat} (hp : F[ip]? = some (Im 6 (.slice x.p x.bs.length x.c) x.bs.length (x.bs.flatMap bndCell))) {iq : Nat} (hq : F[iq]? = some (bndsA x.bs)) (H : St W w F) : Calls Tryz.prog 16 #[.pointer (pa g), .agg (itc x)] w (Ret fun v w' => ∃ (O L2 : List ItemD) (e2 : Int) (p : Option Addr) (c : Nat), v = .tuple #[.slice p O.length c, .int .i64 (gkE e L.length x)] ∧ gkV (gkE e L.length x) e (L.map ItemD.v) x.v = (O.map ItemD.v, e2, L2.map ItemD.v) ∧ St W w' (Row 26 6 (.slice p O.length c) O.length (O.flatMap itCell) :: itsA O :: F.set i (GtA g e2 L2))) := by
 have H0 := ((H.dup hp (Im_pers _ _ _ _)).dup (i := iq + 1) t51 (bndsA_pers _)).front (i := i + 2) t34
 have H1 : St W w (_ :: _ :: _ :: (F.set i emp)) := H0
 have H2 := H1.move 0 rfl
 obtain ⟨⟨pp3, cc4⟩, H5⟩ := St.open_ex H2
 have H6 := St.open_star H5
 have H7 : St W w (_ :: _ :: _ :: _ :: _ :: (F.set i emp)) := H6
 refine calls_of_go (n := 74) Tryz.func16 rfl Tryz.ntmps16 rfl ?_
 refine g_seq (g_region (Bx H7 26 (itc x) (fun bk8 w9 H10 => Ag (.slice none 0 0) (Ag (.int .i64 0) (r_nil (g_seq (g_seq (g_region (Mv (.pointer (pa g)) (rc (s_call [.pointer (pa g)] pl_53 rfl rfl (Gate_none g (e : Int) (.slice pp3 L.length cc4) (i := 1) rfl H10) ?_)))))))))))
 rintro _ w11 ⟨rfl, H12⟩
 refine r_nil (g_false rfl (g_skip (g_seq (g_seq (g_region (La (itl x) 6 ag_26 H12 0 (rc (s_call [.agg (itc x)] pl_10 rfl rfl (migrate_CheckItem x (ip := 5) rfl (iq := 4) rfl H12) ?_))))))))
 rintro _ w13 ⟨rfl, H14⟩
 refine Ag (.int .i64 (itE x)) (r_nil (g_seq (g_region (Mv (.int .i64 (itE x)) ?_))))
 by_cases hc15 : itE x = 0
 ·refine rc (s_neq false rfl rfl (ntrue hc15) rfl (r_nil (g_false rfl (g_skip (g_seq (g_block (g_seq ?_)))))))
  refine g_quiet (fun w' => St W w' (blk bk8 (.cells (itc x) 26 (0, 0)) :: blk g (.cells #[.bool true, .int .i64 e, .slice pp3 L.length cc4] 90 (0, 0)) :: Row 26 6 (.slice pp3 L.length cc4) L.length (L.flatMap itCell) :: itsA L :: bndsA x.bs :: Im 6 (.slice x.p x.bs.length x.c) x.bs.length (x.bs.flatMap bndCell) :: (F.set i emp))) mixed t5 H14.drew ?_
  refine Qf 2 fi_26_2 rfl (Qv (fun w hw => x_load (.int .i64 x.ep.v) ag_2 rfl (hw.blk_at (i := 0) rfl) rfl) (Qm (.pointer (pa g)) (Qv (fun w hw => x_nilCheck (.pointer (pa g)) rfl ⟨_, rfl⟩ w) (Qf 1 fi_90_1 rfl (Qv (fun w hw => x_load (.int .i64 e) ag_2 rfl (hw.blk_at (i := 1) rfl) rfl) ?_)))))
  by_cases hc16 : x.ep.v < e
  ·refine Qv (fun w hw => x_lss true rfl rfl (dtrue hc16) w) (Qv (fun w hw => x_assign (.bool true) rfl w) (q_nil ?_))
   intro w17 H18
   refine g_true rfl (g_seq (g_region (Ag (.slice none 0 0) (Ag (.int .i64 240) (r_nil (Gr [.slice none 0 0, .int .i64 240] Tryz.func16 Tryz.results16 ?_))))))
   have H19 : St W w17 (_ :: _ :: _ :: _ :: _ :: _ :: (F.set i emp)) := (H18.mv [3, 3, 3])
   have H20 : St W w17 (GtA g e L :: _ :: _ :: _ :: (F.set i emp)) := St.shut_ex (pp3, cc4) (St.shut_star (ls := [_, _, _]) H19)
   have hE : gkE e L.length x = 240 := by first | exact gkE_it t11 | exact gkE_old t11 t0 | exact gkE_full t11 t0 t0
   have hE0 : ¬ gkE e L.length x = 0 := by rw [hE]; first | assumption | decide
   have H21 := Row.nil_intro H20 26 6
   have H22 := itsA_nil H21
   have H23 : St W w17 (_ :: _ :: _ :: (F.set i emp)) := (H22.mv [2, 1, 2, 103, 103, 103])
   have H24 : St W w17 (_ :: (Row 26 6 (.slice none 0 0) 0 [] :: itsA ([] : List ItemD) :: F).set (i + 2) emp) := (H23.move 2 rfl)
   exact ⟨[], L, e, none, 0, by rw [hE]; rfl, gk_no hE0, St.back (i := i + 2) t34 H24⟩
  refine Qv (fun w hw => x_lss false rfl rfl (dfalse hc16) w) (Qv (fun w hw => x_assign (.bool false) rfl w) (q_nil ?_))
  intro w25 H26
  refine g_false rfl (g_seq ?_)
  refine g_quiet (fun w' => St W w' (blk bk8 (.cells (itc x) 26 (0, 0)) :: blk g (.cells #[.bool true, .int .i64 e, .slice pp3 L.length cc4] 90 (0, 0)) :: Row 26 6 (.slice pp3 L.length cc4) L.length (L.flatMap itCell) :: itsA L :: bndsA x.bs :: Im 6 (.slice x.p x.bs.length x.c) x.bs.length (x.bs.flatMap bndCell) :: (F.set i emp))) mixed t5 H26.drew ?_
  refine Qf 2 fi_26_2 rfl (Qv (fun w hw => x_load (.int .i64 x.ep.v) ag_2 rfl (hw.blk_at (i := 0) rfl) rfl) (Qm (.pointer (pa g)) (Qv (fun w hw => x_nilCheck (.pointer (pa g)) rfl ⟨_, rfl⟩ w) (Qf 1 fi_90_1 rfl (Qv (fun w hw => x_load (.int .i64 e) ag_2 rfl (hw.blk_at (i := 1) rfl) rfl) ?_)))))
  by_cases hc27 : e < x.ep.v
  ·refine Qv (fun w hw => x_gtr true rfl rfl (dtrue hc27) w) (Qv (fun w hw => x_assign (.bool true) rfl w) (q_nil ?_))
   intro w28 H29
   refine g_true rfl (g_seq (g_seq (g_region (Mv (.pointer (pa g)) (Nc (.pointer (pa g)) (Fa 2 fi_90_2 rfl (Lo (.slice pp3 L.length cc4) ag_38 H29 1 (rc (s_len L.length rfl ⟨_, un_38⟩ rfl ?_)))))))))
   by_cases hc30 : (4096 : Int) ≤ (L.length : Int)
   ·refine rc (s_geq true rfl rfl (dtrue hc30) rfl (r_nil (g_true rfl (g_seq (g_region (Ag (.slice none 0 0) (Ag (.int .i64 6) (r_nil (Gr [.slice none 0 0, .int .i64 6] Tryz.func16 Tryz.results16 ?_)))))))))
    have H31 : St W w28 (_ :: _ :: _ :: _ :: _ :: _ :: (F.set i emp)) := (H29.mv [3, 3, 3])
    have H32 : St W w28 (GtA g e L :: _ :: _ :: _ :: (F.set i emp)) := St.shut_ex (pp3, cc4) (St.shut_star (ls := [_, _, _]) H31)
    have hE : gkE e L.length x = 6 := by first | exact gkE_it t11 | exact gkE_old t11 t0 | exact gkE_full t11 t0 t0
    have hE0 : ¬ gkE e L.length x = 0 := by rw [hE]; first | assumption | decide
    have H33 := Row.nil_intro H32 26 6
    have H34 := itsA_nil H33
    have H35 : St W w28 (_ :: _ :: _ :: (F.set i emp)) := (H34.mv [2, 1, 2, 103, 103, 103])
    have H36 : St W w28 (_ :: (Row 26 6 (.slice none 0 0) 0 [] :: itsA ([] : List ItemD) :: F).set (i + 2) emp) := (H35.move 2 rfl)
    exact ⟨[], L, e, none, 0, by rw [hE]; rfl, gk_no hE0, St.back (i := i + 2) t34 H36⟩
   refine rc (s_geq false rfl rfl (dfalse hc30) rfl (r_nil (g_false rfl (g_skip (g_seq ?_)))))
   have H37 : St W w28 (_ :: _ :: _ :: _ :: _ :: _ :: (F.set i emp)) := (H29.mv [2, 2, 5, 5, 5, 5])
   refine g_mix (fun t_ w => St W w (blk bk8 (.cells (itc x) 26 (0, 0)) :: itsA L :: bndsA x.bs :: Im 6 (.slice x.p x.bs.length x.c) x.bs.length (x.bs.flatMap bndCell) :: t_)) (blk g (.cells #[.bool true, .int .i64 e, .slice pp3 L.length cc4] 90 (0, 0)) :: Row 26 6 (.slice pp3 L.length cc4) L.length (L.flatMap itCell) :: (F.set i emp)) mixed 12 rfl H37.drew ?_
   refine Fv 0 rfl (fun _ w _ => x_move (.pointer (pa g)) rfl w) (Fv 1 rfl (fun _ w _ => x_move (.pointer (pa g)) rfl w) (Fv 2 rfl (fun t_ w hw => x_nilCheck (.pointer (pa g)) rfl ⟨_, rfl⟩ w) (Fv 3 rfl (fun t_ w hw => x_fieldAddr 90 2 2 2 38 rfl fi_90_2 rfl w) (Fv 5 rfl (fun t_ w hw => x_loadAgg (itl x) 6 ag_26 rfl (hw.blk_at (i := 0) rfl) (nbl rfl) rfl) ?_))))
   refine f_all (rs := [4, 6]) t5 t13 ?_
   refine a_cons ⟨_, rfl, ?_⟩ (a_cons ⟨_, rfl, ?_⟩ (fun x hx => absurd hx t13))
   ·intro w38 H39
    try dsimp only at H39
    refine s_load (.slice pp3 L.length cc4) ag_38 rfl (H39.blk_at (i := 4) rfl) rfl rfl ?_
    refine ⟨blk g (.cells #[.bool true, .int .i64 e, .slice pp3 L.length cc4] 90 (0, 0)) :: Row 26 6 (.slice pp3 L.length cc4) L.length (L.flatMap itCell) :: (F.set i emp), ?_, H39⟩
    change FReg _ _ _ _ _ #[true, true, true, true, true, true, false, false, false, false, false, false] _ _
    refine f_all (rs := [6]) t5 t13 ?_
    refine a_cons ⟨_, rfl, ?_⟩ (fun x hx => absurd hx t13)
    intro w40 H41
    try dsimp only at H41
    refine s_call [.agg (itc x)] pl_54 rfl rfl (migrate_own x hok (ip := 3) rfl (iq := 2) rfl H41) ?_
    rintro _ w44 ⟨it42, rfl, hy43, H45⟩
    have H46 : St W w44 (_ :: _ :: _ :: _ :: _ :: _ :: _ :: _ :: (F.set i emp)) := (H45.mv [7, 7, 3, 3, 7, 7, 7, 7])
    refine ⟨Im 6 (.slice it42.p it42.bs.length it42.c) it42.bs.length (it42.bs.flatMap bndCell) :: bndsA it42.bs :: blk g (.cells #[.bool true, .int .i64 e, .slice pp3 L.length cc4] 90 (0, 0)) :: Row 26 6 (.slice pp3 L.length cc4) L.length (L.flatMap itCell) :: (F.set i emp), ?_, H46⟩
    change FReg _ _ _ _ _ #[true, true, true, true, true, true, true, false, false, false, false, false] _ _
    refine f_all (rs := [7]) t5 t13 ?_
    refine a_cons ⟨_, rfl, ?_⟩ (fun x hx => absurd hx t13)
    intro w47 H48
    try dsimp only at H48
    refine s_buildSlice H48 6 1 (cs := (itc it42)) #[.int .i64 0, .int .i64 0, .int .i64 0, .int .i64 0, .slice none 0 0, .int .i64 0] el_38 ze_26 t9 t9 t5 rfl ?_; intro bk49 w50 H51
    have H52 : St W w50 (_ :: _ :: _ :: _ :: _ :: _ :: _ :: _ :: _ :: (F.set i emp)) := (H51.mv [8, 8, 8, 8, 4, 8, 8, 8, 8])
    refine ⟨blk bk49 (.cells (itc it42) 26 (0, 0)) :: Im 6 (.slice it42.p it42.bs.length it42.c) it42.bs.length (it42.bs.flatMap bndCell) :: bndsA it42.bs :: blk g (.cells #[.bool true, .int .i64 e, .slice pp3 L.length cc4] 90 (0, 0)) :: Row 26 6 (.slice pp3 L.length cc4) L.length (L.flatMap itCell) :: (F.set i emp), ?_, H52⟩
    change FReg _ _ _ _ _ #[true, true, true, true, true, true, true, true, false, false, false, false] _ _
    refine f_all (rs := [8]) t5 t13 ?_
    refine a_cons ⟨_, rfl, ?_⟩ (fun x hx => absurd hx t13)
    intro w53 H54
    try dsimp only at H54
    refine s_append H54 8 rfl rfl rfl (rd_blk (H54.blk_at (i := 4) rfl) rfl (nbl rfl) t15) ap_38 t9 t12 t0 (n' := L.length + 1) (xs' := L.flatMap itCell ++ ((itl it42) : List Value)) t0 t16 rfl ?_; intro vv55 w56 H57 hn58
    obtain ⟨pp59, cc60, rfl⟩ := Row.slice H57 (i := 8) rfl
    refine ⟨blk bk49 (.cells (itc it42) 26 (0, 0)) :: Im 6 (.slice it42.p it42.bs.length it42.c) it42.bs.length (it42.bs.flatMap bndCell) :: bndsA it42.bs :: blk g (.cells #[.bool true, .int .i64 e, .slice pp3 L.length cc4] 90 (0, 0)) :: Row 26 6 (.slice pp59 (L.length + 1) cc60) (L.length + 1) (L.flatMap itCell ++ ((itl it42) : List Value)) :: (F.set i emp), ?_, H57⟩
    change FReg _ _ _ _ _ #[true, true, true, true, true, true, true, true, true, false, false, false] _ _
    refine Fv 9 rfl (fun t_ w hw => x_nilCheck (.pointer (pa g)) rfl ⟨_, rfl⟩ w) (Fv 10 rfl (fun t_ w hw => x_fieldAddr 90 2 2 2 38 rfl fi_90_2 rfl w) ?_)
    refine f_all (rs := [11]) t5 t13 ?_
    refine a_cons ⟨_, rfl, ?_⟩ (fun x hx => absurd hx t13)
    intro w61 H62
    try dsimp only at H62
    refine s_store H62 7 (.slice pp59 (L.length + 1) cc60) rfl rfl rfl sz_38 rfl (nbl rfl) rfl (cs' := #[.bool true, .int .i64 e, .slice pp59 (L.length + 1) cc60]) rfl ?_; intro w63 H64
    refine ⟨blk bk49 (.cells (itc it42) 26 (0, 0)) :: Im 6 (.slice it42.p it42.bs.length it42.c) it42.bs.length (it42.bs.flatMap bndCell) :: bndsA it42.bs :: blk g (.cells #[.bool true, .int .i64 e, .slice pp59 (L.length + 1) cc60] 90 (0, 0)) :: Row 26 6 (.slice pp59 (L.length + 1) cc60) (L.length + 1) (L.flatMap itCell ++ ((itl it42) : List Value)) :: (F.set i emp), ?_, H64⟩
    change FReg _ _ _ _ _ #[true, true, true, true, true, true, true, true, true, true, true, true] _ _
    refine f_done t5 ?_
    intro w65 H66
    refine g_seq (g_region (Ag (.slice none 0 0) (Ag (.int .i64 0) (r_nil (Gr [.slice none 0 0, .int .i64 0] Tryz.func16 Tryz.results16 ?_)))))
    have hE : gkE e L.length x = 0 := gkE_ok t11 t0 t0
    have H67 : St W w65 (blk bk8 (.cells #[.int .i64 x.op.v, .int .i64 x.inp.v, .int .i64 x.ep.v, .int .i64 x.kind.v, .slice x.p x.bs.length x.c, .int .i64 x.t.v] 26 (0, 0)) :: itsA L :: bndsA x.bs :: Im 6 (.slice x.p x.bs.length x.c) x.bs.length (x.bs.flatMap bndCell) :: blk bk49 (.cells #[.int .i64 it42.op.v, .int .i64 it42.inp.v, .int .i64 it42.ep.v, .int .i64 it42.kind.v, .slice it42.p it42.bs.length it42.c, .int .i64 it42.t.v] 26 (0, 0)) :: Im 6 (.slice it42.p it42.bs.length it42.c) it42.bs.length (it42.bs.flatMap bndCell) :: bndsA it42.bs :: blk g (.cells #[.bool true, .int .i64 e, .slice pp59 ((L ++ [it42]).length) cc60] 90 (0, 0)) :: Row 26 6 (.slice pp59 ((L ++ [it42]).length) cc60) ((L ++ [it42]).length) ((L ++ [it42]).flatMap itCell) :: (F.set i emp)) := by rw [List.flatMap_append, List.length_append]; exact H66
    have H68 : St W w65 (_ :: _ :: _ :: _ :: _ :: _ :: _ :: _ :: _ :: (F.set i emp)) := (H67.mv [1, 6, 6])
    have H69 : St W w65 (itsA (L ++ [it42]) :: _ :: _ :: _ :: _ :: _ :: _ :: (F.set i emp)) := itsA_snoc (x := it42) H68
    have H70 : St W w65 (_ :: _ :: _ :: _ :: _ :: _ :: _ :: (F.set i emp)) := (H69.mv [6, 6])
    have H71 : St W w65 (GtA g e (L ++ [it42]) :: _ :: _ :: _ :: _ :: (F.set i emp)) := St.shut_ex (pp59, cc60) (St.shut_star (ls := [_, _, _]) H70)
    have H72 := Row.nil_intro H71 26 6
    have H73 := itsA_nil H72
    have H74 : St W w65 (_ :: _ :: _ :: (F.set i emp)) := (H73.mv [2, 1, 2, 103, 103, 103, 103])
    have H75 : St W w65 (_ :: (Row 26 6 (.slice none 0 0) 0 [] :: itsA ([] : List ItemD) :: F).set (i + 2) emp) := (H74.move 2 rfl)
    exact ⟨[], (L ++ [it42]), e, none, 0, by rw [hE]; rfl, gk_wait hE t0 hy43, St.back (i := i + 2) t34 H75⟩
   intro w76 H77
   try dsimp only at H77
   refine s_call [.agg (itc x)] pl_54 rfl rfl (migrate_own x hok (ip := 3) rfl (iq := 2) rfl H77) ?_
   rintro _ w80 ⟨it78, rfl, hy79, H81⟩
   have H82 : St W w80 (_ :: _ :: _ :: _ :: _ :: _ :: _ :: _ :: (F.set i emp)) := (H81.mv [7, 7, 3, 3, 7, 7, 7, 7])
   refine ⟨Im 6 (.slice it78.p it78.bs.length it78.c) it78.bs.length (it78.bs.flatMap bndCell) :: bndsA it78.bs :: blk g (.cells #[.bool true, .int .i64 e, .slice pp3 L.length cc4] 90 (0, 0)) :: Row 26 6 (.slice pp3 L.length cc4) L.length (L.flatMap itCell) :: (F.set i emp), ?_, H82⟩
   change FReg _ _ _ _ _ #[true, true, true, true, false, true, true, false, false, false, false, false] _ _
   refine f_all (rs := [4, 7]) t5 t13 ?_
   refine a_cons ⟨_, rfl, ?_⟩ (a_cons ⟨_, rfl, ?_⟩ (fun x hx => absurd hx t13))
   ·intro w83 H84
    try dsimp only at H84
    refine s_load (.slice pp3 L.length cc4) ag_38 rfl (H84.blk_at (i := 6) rfl) rfl rfl ?_
    refine ⟨Im 6 (.slice it78.p it78.bs.length it78.c) it78.bs.length (it78.bs.flatMap bndCell) :: bndsA it78.bs :: blk g (.cells #[.bool true, .int .i64 e, .slice pp3 L.length cc4] 90 (0, 0)) :: Row 26 6 (.slice pp3 L.length cc4) L.length (L.flatMap itCell) :: (F.set i emp), ?_, H84⟩
    change FReg _ _ _ _ _ #[true, true, true, true, true, true, true, false, false, false, false, false] _ _
    refine f_all (rs := [7]) t5 t13 ?_
    refine a_cons ⟨_, rfl, ?_⟩ (fun x hx => absurd hx t13)
    intro w85 H86
    try dsimp only at H86
    refine s_buildSlice H86 6 1 (cs := (itc it78)) #[.int .i64 0, .int .i64 0, .int .i64 0, .int .i64 0, .slice none 0 0, .int .i64 0] el_38 ze_26 t9 t9 t5 rfl ?_; intro bk87 w88 H89
    have H90 : St W w88 (_ :: _ :: _ :: _ :: _ :: _ :: _ :: _ :: _ :: (F.set i emp)) := (H89.mv [8, 8, 8, 8, 4, 8, 8, 8, 8])
    refine ⟨blk bk87 (.cells (itc it78) 26 (0, 0)) :: Im 6 (.slice it78.p it78.bs.length it78.c) it78.bs.length (it78.bs.flatMap bndCell) :: bndsA it78.bs :: blk g (.cells #[.bool true, .int .i64 e, .slice pp3 L.length cc4] 90 (0, 0)) :: Row 26 6 (.slice pp3 L.length cc4) L.length (L.flatMap itCell) :: (F.set i emp), ?_, H90⟩
    change FReg _ _ _ _ _ #[true, true, true, true, true, true, true, true, false, false, false, false] _ _
    refine f_all (rs := [8]) t5 t13 ?_
    refine a_cons ⟨_, rfl, ?_⟩ (fun x hx => absurd hx t13)
    intro w91 H92
    try dsimp only at H92
    refine s_append H92 8 rfl rfl rfl (rd_blk (H92.blk_at (i := 4) rfl) rfl (nbl rfl) t15) ap_38 t9 t12 t0 (n' := L.length + 1) (xs' := L.flatMap itCell ++ ((itl it78) : List Value)) t0 t16 rfl ?_; intro vv93 w94 H95 hn96
    obtain ⟨pp97, cc98, rfl⟩ := Row.slice H95 (i := 8) rfl
    refine ⟨blk bk87 (.cells (itc it78) 26 (0, 0)) :: Im 6 (.slice it78.p it78.bs.length it78.c) it78.bs.length (it78.bs.flatMap bndCell) :: bndsA it78.bs :: blk g (.cells #[.bool true, .int .i64 e, .slice pp3 L.length cc4] 90 (0, 0)) :: Row 26 6 (.slice pp97 (L.length + 1) cc98) (L.length + 1) (L.flatMap itCell ++ ((itl it78) : List Value)) :: (F.set i emp), ?_, H95⟩
    change FReg _ _ _ _ _ #[true, true, true, true, true, true, true, true, true, false, false, false] _ _
    refine Fv 9 rfl (fun t_ w hw => x_nilCheck (.pointer (pa g)) rfl ⟨_, rfl⟩ w) (Fv 10 rfl (fun t_ w hw => x_fieldAddr 90 2 2 2 38 rfl fi_90_2 rfl w) ?_)
    refine f_all (rs := [11]) t5 t13 ?_
    refine a_cons ⟨_, rfl, ?_⟩ (fun x hx => absurd hx t13)
    intro w99 H100
    try dsimp only at H100
    refine s_store H100 7 (.slice pp97 (L.length + 1) cc98) rfl rfl rfl sz_38 rfl (nbl rfl) rfl (cs' := #[.bool true, .int .i64 e, .slice pp97 (L.length + 1) cc98]) rfl ?_; intro w101 H102
    refine ⟨blk bk87 (.cells (itc it78) 26 (0, 0)) :: Im 6 (.slice it78.p it78.bs.length it78.c) it78.bs.length (it78.bs.flatMap bndCell) :: bndsA it78.bs :: blk g (.cells #[.bool true, .int .i64 e, .slice pp97 (L.length + 1) cc98] 90 (0, 0)) :: Row 26 6 (.slice pp97 (L.length + 1) cc98) (L.length + 1) (L.flatMap itCell ++ ((itl it78) : List Value)) :: (F.set i emp), ?_, H102⟩
    change FReg _ _ _ _ _ #[true, true, true, true, true, true, true, true, true, true, true, true] _ _
    refine f_done t5 ?_
    intro w103 H104
    refine g_seq (g_region (Ag (.slice none 0 0) (Ag (.int .i64 0) (r_nil (Gr [.slice none 0 0, .int .i64 0] Tryz.func16 Tryz.results16 ?_)))))
    have hE : gkE e L.length x = 0 := gkE_ok t11 t0 t0
    have H105 : St W w103 (blk bk8 (.cells #[.int .i64 x.op.v, .int .i64 x.inp.v, .int .i64 x.ep.v, .int .i64 x.kind.v, .slice x.p x.bs.length x.c, .int .i64 x.t.v] 26 (0, 0)) :: itsA L :: bndsA x.bs :: Im 6 (.slice x.p x.bs.length x.c) x.bs.length (x.bs.flatMap bndCell) :: blk bk87 (.cells #[.int .i64 it78.op.v, .int .i64 it78.inp.v, .int .i64 it78.ep.v, .int .i64 it78.kind.v, .slice it78.p it78.bs.length it78.c, .int .i64 it78.t.v] 26 (0, 0)) :: Im 6 (.slice it78.p it78.bs.length it78.c) it78.bs.length (it78.bs.flatMap bndCell) :: bndsA it78.bs :: blk g (.cells #[.bool true, .int .i64 e, .slice pp97 ((L ++ [it78]).length) cc98] 90 (0, 0)) :: Row 26 6 (.slice pp97 ((L ++ [it78]).length) cc98) ((L ++ [it78]).length) ((L ++ [it78]).flatMap itCell) :: (F.set i emp)) := by rw [List.flatMap_append, List.length_append]; exact H104
    have H106 : St W w103 (_ :: _ :: _ :: _ :: _ :: _ :: _ :: _ :: _ :: (F.set i emp)) := (H105.mv [1, 6, 6])
    have H107 : St W w103 (itsA (L ++ [it78]) :: _ :: _ :: _ :: _ :: _ :: _ :: (F.set i emp)) := itsA_snoc (x := it78) H106
    have H108 : St W w103 (_ :: _ :: _ :: _ :: _ :: _ :: _ :: (F.set i emp)) := (H107.mv [6, 6])
    have H109 : St W w103 (GtA g e (L ++ [it78]) :: _ :: _ :: _ :: _ :: (F.set i emp)) := St.shut_ex (pp97, cc98) (St.shut_star (ls := [_, _, _]) H108)
    have H110 := Row.nil_intro H109 26 6
    have H111 := itsA_nil H110
    have H112 : St W w103 (_ :: _ :: _ :: (F.set i emp)) := (H111.mv [2, 1, 2, 103, 103, 103, 103])
    have H113 : St W w103 (_ :: (Row 26 6 (.slice none 0 0) 0 [] :: itsA ([] : List ItemD) :: F).set (i + 2) emp) := (H112.move 2 rfl)
    exact ⟨[], (L ++ [it78]), e, none, 0, by rw [hE]; rfl, gk_wait hE t0 hy79, St.back (i := i + 2) t34 H113⟩
   intro w114 H115
   try dsimp only at H115
   refine s_buildSlice H115 6 1 (cs := (itc it78)) #[.int .i64 0, .int .i64 0, .int .i64 0, .int .i64 0, .slice none 0 0, .int .i64 0] el_38 ze_26 t9 t9 t5 rfl ?_; intro bk116 w117 H118
   have H119 : St W w117 (_ :: _ :: _ :: _ :: _ :: _ :: _ :: _ :: _ :: (F.set i emp)) := (H118.mv [8, 8, 8, 8, 4, 8, 8, 8, 8])
   refine ⟨blk bk116 (.cells (itc it78) 26 (0, 0)) :: Im 6 (.slice it78.p it78.bs.length it78.c) it78.bs.length (it78.bs.flatMap bndCell) :: bndsA it78.bs :: blk g (.cells #[.bool true, .int .i64 e, .slice pp3 L.length cc4] 90 (0, 0)) :: Row 26 6 (.slice pp3 L.length cc4) L.length (L.flatMap itCell) :: (F.set i emp), ?_, H119⟩
   change FReg _ _ _ _ _ #[true, true, true, true, false, true, true, true, false, false, false, false] _ _
   refine f_all (rs := [4]) t5 t13 ?_
   refine a_cons ⟨_, rfl, ?_⟩ (fun x hx => absurd hx t13)
   intro w120 H121
   try dsimp only at H121
   refine s_load (.slice pp3 L.length cc4) ag_38 rfl (H121.blk_at (i := 7) rfl) rfl rfl ?_
   refine ⟨blk bk116 (.cells (itc it78) 26 (0, 0)) :: Im 6 (.slice it78.p it78.bs.length it78.c) it78.bs.length (it78.bs.flatMap bndCell) :: bndsA it78.bs :: blk g (.cells #[.bool true, .int .i64 e, .slice pp3 L.length cc4] 90 (0, 0)) :: Row 26 6 (.slice pp3 L.length cc4) L.length (L.flatMap itCell) :: (F.set i emp), ?_, H121⟩
   change FReg _ _ _ _ _ #[true, true, true, true, true, true, true, true, false, false, false, false] _ _
   refine f_all (rs := [8]) t5 t13 ?_
   refine a_cons ⟨_, rfl, ?_⟩ (fun x hx => absurd hx t13)
   intro w122 H123
   try dsimp only at H123
   refine s_append H123 8 rfl rfl rfl (rd_blk (H123.blk_at (i := 4) rfl) rfl (nbl rfl) t15) ap_38 t9 t12 t0 (n' := L.length + 1) (xs' := L.flatMap itCell ++ ((itl it78) : List Value)) t0 t16 rfl ?_; intro vv124 w125 H126 hn127
   obtain ⟨pp128, cc129, rfl⟩ := Row.slice H126 (i := 8) rfl
   refine ⟨blk bk116 (.cells (itc it78) 26 (0, 0)) :: Im 6 (.slice it78.p it78.bs.length it78.c) it78.bs.length (it78.bs.flatMap bndCell) :: bndsA it78.bs :: blk g (.cells #[.bool true, .int .i64 e, .slice pp3 L.length cc4] 90 (0, 0)) :: Row 26 6 (.slice pp128 (L.length + 1) cc129) (L.length + 1) (L.flatMap itCell ++ ((itl it78) : List Value)) :: (F.set i emp), ?_, H126⟩
   change FReg _ _ _ _ _ #[true, true, true, true, true, true, true, true, true, false, false, false] _ _
   refine Fv 9 rfl (fun t_ w hw => x_nilCheck (.pointer (pa g)) rfl ⟨_, rfl⟩ w) (Fv 10 rfl (fun t_ w hw => x_fieldAddr 90 2 2 2 38 rfl fi_90_2 rfl w) ?_)
   refine f_all (rs := [11]) t5 t13 ?_
   refine a_cons ⟨_, rfl, ?_⟩ (fun x hx => absurd hx t13)
   intro w130 H131
   try dsimp only at H131
   refine s_store H131 7 (.slice pp128 (L.length + 1) cc129) rfl rfl rfl sz_38 rfl (nbl rfl) rfl (cs' := #[.bool true, .int .i64 e, .slice pp128 (L.length + 1) cc129]) rfl ?_; intro w132 H133
   refine ⟨blk bk116 (.cells (itc it78) 26 (0, 0)) :: Im 6 (.slice it78.p it78.bs.length it78.c) it78.bs.length (it78.bs.flatMap bndCell) :: bndsA it78.bs :: blk g (.cells #[.bool true, .int .i64 e, .slice pp128 (L.length + 1) cc129] 90 (0, 0)) :: Row 26 6 (.slice pp128 (L.length + 1) cc129) (L.length + 1) (L.flatMap itCell ++ ((itl it78) : List Value)) :: (F.set i emp), ?_, H133⟩
   change FReg _ _ _ _ _ #[true, true, true, true, true, true, true, true, true, true, true, true] _ _
   refine f_done t5 ?_
   intro w134 H135
   refine g_seq (g_region (Ag (.slice none 0 0) (Ag (.int .i64 0) (r_nil (Gr [.slice none 0 0, .int .i64 0] Tryz.func16 Tryz.results16 ?_)))))
   have hE : gkE e L.length x = 0 := gkE_ok t11 t0 t0
   have H136 : St W w134 (blk bk8 (.cells #[.int .i64 x.op.v, .int .i64 x.inp.v, .int .i64 x.ep.v, .int .i64 x.kind.v, .slice x.p x.bs.length x.c, .int .i64 x.t.v] 26 (0, 0)) :: itsA L :: bndsA x.bs :: Im 6 (.slice x.p x.bs.length x.c) x.bs.length (x.bs.flatMap bndCell) :: blk bk116 (.cells #[.int .i64 it78.op.v, .int .i64 it78.inp.v, .int .i64 it78.ep.v, .int .i64 it78.kind.v, .slice it78.p it78.bs.length it78.c, .int .i64 it78.t.v] 26 (0, 0)) :: Im 6 (.slice it78.p it78.bs.length it78.c) it78.bs.length (it78.bs.flatMap bndCell) :: bndsA it78.bs :: blk g (.cells #[.bool true, .int .i64 e, .slice pp128 ((L ++ [it78]).length) cc129] 90 (0, 0)) :: Row 26 6 (.slice pp128 ((L ++ [it78]).length) cc129) ((L ++ [it78]).length) ((L ++ [it78]).flatMap itCell) :: (F.set i emp)) := by rw [List.flatMap_append, List.length_append]; exact H135
   have H137 : St W w134 (_ :: _ :: _ :: _ :: _ :: _ :: _ :: _ :: _ :: (F.set i emp)) := (H136.mv [1, 6, 6])
   have H138 : St W w134 (itsA (L ++ [it78]) :: _ :: _ :: _ :: _ :: _ :: _ :: (F.set i emp)) := itsA_snoc (x := it78) H137
   have H139 : St W w134 (_ :: _ :: _ :: _ :: _ :: _ :: _ :: (F.set i emp)) := (H138.mv [6, 6])
   have H140 : St W w134 (GtA g e (L ++ [it78]) :: _ :: _ :: _ :: _ :: (F.set i emp)) := St.shut_ex (pp128, cc129) (St.shut_star (ls := [_, _, _]) H139)
   have H141 := Row.nil_intro H140 26 6
   have H142 := itsA_nil H141
   have H143 : St W w134 (_ :: _ :: _ :: (F.set i emp)) := (H142.mv [2, 1, 2, 103, 103, 103, 103])
   have H144 : St W w134 (_ :: (Row 26 6 (.slice none 0 0) 0 [] :: itsA ([] : List ItemD) :: F).set (i + 2) emp) := (H143.move 2 rfl)
   exact ⟨[], (L ++ [it78]), e, none, 0, by rw [hE]; rfl, gk_wait hE t0 hy79, St.back (i := i + 2) t34 H144⟩
  refine Qv (fun w hw => x_gtr false rfl rfl (dfalse hc27) w) (Qv (fun w hw => x_assign (.bool false) rfl w) (q_nil ?_))
  intro w145 H146
  refine g_false rfl (g_seq (g_region (Fa 3 fi_26_3 rfl (Lo (.int .i64 x.kind.v) ag_3 H146 0 ?_))))
  by_cases hc147 : x.kind.v = 3
  ·refine rc (s_neq false rfl rfl (ntrue hc147) rfl (Ag (.bool false) (r_nil (g_false rfl (g_skip (g_inBlock (g_seq (g_region (Ag (.slice none 0 0) (r_nil (g_seq (g_seq (g_region (Ag (.bool true) (r_nil (g_block ?_))))))))))))))))
   have H148 : St W w145 (_ :: _ :: _ :: _ :: _ :: _ :: (F.set i emp)) := (H146.mv [3, 3, 3])
   have H149 : St W w145 (GtA g e L :: _ :: _ :: _ :: (F.set i emp)) := St.shut_ex (pp3, cc4) (St.shut_star (ls := [_, _, _]) H148)
   have H150 := Row.nil_intro H149 26 6
   have H151 := itsA_nil H150
   have H152 : St W w145 (_ :: _ :: _ :: (F.set i emp)) := (H151.mv [2, 1, 2, 103, 103, 103])
   refine g_loop_inv (fun ((b, n, O, e2, L2, q, d) : Bool × Nat × (List ItemD) × Int × (List ItemD) × (Option Addr) × Nat) => [(0, .pointer (pa g)), (4, .slice none 0 0), (5, .int .i64 0), (7, .slice q O.length d), (8, .bool b)]) (fun (b, n, O, e2, L2, q, d) w => (goS epD kdD (goG epD kdD (L.length + 1) e L) b n O e2 L2) ∧ (O.length + L2.length ≤ L.length) ∧ (e ≤ e2) ∧ St W w (Row 26 6 (.slice q O.length d) O.length (O.flatMap itCell) :: itsA O :: GtA g e2 L2 :: (F.set i emp))) (fun (b, n, O, e2, L2, q, d) => n) (true, (L.length + 1), [], e, L, none, 0) ?_ ?_ ?_
   ·exact t1
   ·exact ⟨(goS_start he), t13, (Int.le_refl _), H152⟩
   rintro ⟨b, n, O, e2, L2, q, d⟩ ρ153 w154 ⟨hG, hsum, he9, H155⟩ nx156
   change Ends _ _ (upds ρ153 [(0, .pointer (pa g)), (4, .slice none 0 0), (5, .int .i64 0), (7, .slice q O.length d), (8, .bool b)]) w154
   refine g_seq (g_seq (g_region (Mv (.bool b) (r_nil ?_))))
   by_cases hb157 : (b) = true
   ·refine g_true (congrArg Value.bool hb157) (g_skip (g_block (g_seq (g_region ?_))))
    have hG1 := hG
    rw [hb157] at hG1
    obtain ⟨hn1, hn2⟩ := goS_n hG1
    have hts := tr_sum (ep := epD) (kd := kdD) (e := e2 + 1) (L := L2)
    refine Mv (.pointer (pa g)) (Nc (.pointer (pa g)) (Fa 1 fi_90_1 rfl ?_))
    have H158 := H155.move 2 rfl
    obtain ⟨⟨pp159, cc160⟩, H161⟩ := St.open_ex H158
    have H162 := St.open_star H161
    have H163 : St W w154 (_ :: _ :: _ :: _ :: _ :: (F.set i emp)) := H162
    refine Lo (.int .i64 e2) ag_2 H163 0 (rc (s_add (e2 + 1) rfl rfl (wi64 t0) rfl (Nc (.pointer (pa g)) (Fa 1 fi_90_1 rfl (rc (s_store H163 0 (.int .i64 (e2 + 1)) rfl rfl rfl sz_2 rfl (nbl rfl) rfl (cs' := #[.bool true, .int .i64 (e2 + 1), .slice pp159 L2.length cc160]) rfl (fun w164 H165 => r_nil (g_seq (g_region (Ag (.slice none 0 0) (r_nil (g_seq (g_region (Mv (.pointer (pa g)) ?_))))))))))))))
    have H166 : St W w164 (GtA g (e2 + 1) L2 :: _ :: _ :: (F.set i emp)) := St.shut_ex (pp159, cc160) (St.shut_star (ls := [_, _, _]) H165)
    refine rc (s_call [.pointer (pa g)] pl_55 rfl rfl (Gate_turn g (e2 + 1) L2 t0 (i := 0) rfl H166) ?_)
    rintro _ w169 ⟨pp167, cc168, rfl, H170⟩
    refine Mv (.tuple #[.slice pp167 ((trO epD kdD (e2 + 1) L2).length) cc168, .bool (trE epD kdD (e2 + 1) L2)]) (Ex (.slice pp167 ((trO epD kdD (e2 + 1) L2).length) cc168) (Ex (.bool (trE epD kdD (e2 + 1) L2)) (Ag (.slice pp167 ((trO epD kdD (e2 + 1) L2).length) cc168) (Ag (.bool (trE epD kdD (e2 + 1) L2)) (r_nil (g_region (Mv (.slice q O.length d) (Mv (.slice pp167 ((trO epD kdD (e2 + 1) L2).length) cc168) (rc (s_append H170 3 rfl rfl rfl (Row.rd H170 (i := 0) rfl) ap_38 t9 t12 t0 (n' := O.length + (trO epD kdD (e2 + 1) L2).length) (xs' := O.flatMap itCell ++ (trO epD kdD (e2 + 1) L2).flatMap itCell) t0 t16 rfl ?_)))))))))); intro vv171 w172 H173 hn174
    obtain ⟨pp175, cc176, rfl⟩ := Row.slice H173 (i := 3) rfl
    refine Ag (.slice pp175 (O.length + (trO epD kdD (e2 + 1) L2).length) cc176) (r_nil (g_inBlock ?_))
    have H177 : St W w172 (Row 26 6 (.slice pp167 ((trO epD kdD (e2 + 1) L2).length) cc168) ((trO epD kdD (e2 + 1) L2).length) ((trO epD kdD (e2 + 1) L2).flatMap itCell) :: itsA (trO epD kdD (e2 + 1) L2) :: GtA g (e2 + 1) (trR epD (e2 + 1) L2) :: Row 26 6 (.slice pp175 ((O ++ trO epD kdD (e2 + 1) L2).length) cc176) ((O ++ trO epD kdD (e2 + 1) L2).length) ((O ++ trO epD kdD (e2 + 1) L2).flatMap itCell) :: itsA O :: (F.set i emp)) := by rw [List.flatMap_append, List.length_append]; exact H173
    have H178 : St W w172 (_ :: _ :: _ :: _ :: _ :: (F.set i emp)) := (H177.mv [4, 2])
    have H179 : St W w172 (itsA (O ++ trO epD kdD (e2 + 1) L2) :: _ :: _ :: _ :: (F.set i emp)) := itsA_app H178
    have H180 : St W w172 (_ :: _ :: _ :: (F.set i emp)) := (H179.mv [2, 1, 3, 103])
    exact nx156 ((trE epD kdD (e2 + 1) L2), n - 1, (O ++ trO epD kdD (e2 + 1) L2), (e2 + 1), (trR epD (e2 + 1) L2), pp175, cc176) _ _ ⟨(goS_step hG1), t47, t0, H180⟩ t7 ⟨by first | rfl | exact vint t0, by first | rfl | exact vint t0, by first | rfl | exact vint t0, by first | rfl | (rw [List.length_append]; rfl), by first | rfl | exact vint t0, trivial⟩
   have hb157 := eq_false_of_ne_true hb157
   refine g_false (congrArg Value.bool hb157) (g_exit t39 (g_seq (g_region (Mv (.slice q O.length d) (Ag (.slice q O.length d) (Ag (.int .i64 0) (r_nil (Gr [.slice q O.length d, .int .i64 0] Tryz.func16 Tryz.results16 ?_))))))))
   have hE : gkE e L.length x = 0 := gkE_ok t11 t0 t0
   have hGd : goG epD kdD (L.length + 1) e L = (O, e2, L2) := goS_done (by have h9 := hG; rw [hb157] at h9; exact h9)
   have H181 : St W w154 (_ :: _ :: _ :: (F.set i emp)) := (H155.mv [2, 2, 2])
   have H182 : St W w154 (_ :: (Row 26 6 (.slice q O.length d) O.length (O.flatMap itCell) :: itsA O :: F).set (i + 2) emp) := (H181.move 2 rfl)
   exact ⟨O, L2, e2, _, _, by rw [hE]; rfl, gk_end hE t0 t0 hGd, St.back (i := i + 2) t34 H182⟩
  refine rc (s_neq true rfl rfl (nfalse hc147) rfl (Ag (.bool true) (r_nil (g_true rfl (g_seq (g_region (La (itl x) 6 ag_26 H146 0 (rc (s_call [.agg (itc x)] pl_54 rfl rfl (migrate_own x hok (ip := 5) rfl (iq := 4) rfl H146) ?_)))))))))
  rintro _ w185 ⟨it183, rfl, hy184, H186⟩
  refine rc (s_buildSlice H186 6 1 (cs := (itc it183)) #[.int .i64 0, .int .i64 0, .int .i64 0, .int .i64 0, .slice none 0 0, .int .i64 0] el_38 ze_26 t9 t9 t5 rfl (fun bk187 w188 H189 => Ag (.slice (pa bk187) 1 1) (Ag (.int .i64 0) (r_nil (Gr [.slice (pa bk187) 1 1, .int .i64 0] Tryz.func16 Tryz.results16 ?_)))))
  have hE : gkE e L.length x = 0 := gkE_ok t11 t0 t0
  have H190 : St W w188 (_ :: _ :: _ :: _ :: _ :: _ :: _ :: _ :: _ :: (F.set i emp)) := (H189.mv [6, 6, 6])
  have H191 : St W w188 (GtA g e L :: _ :: _ :: _ :: _ :: _ :: _ :: (F.set i emp)) := St.shut_ex (pp3, cc4) (St.shut_star (ls := [_, _, _]) H190)
  have H192 : St W w188 (GtA g e L :: _ :: _ :: _ :: _ :: _ :: _ :: (F.set i emp)) := Row.of_blk (n := 1) (size := 6) H191 (i := 1) rfl t12 rfl t15
  have H193 := itsA_nil H192
  have H194 : St W w188 (_ :: _ :: _ :: _ :: _ :: _ :: _ :: _ :: (F.set i emp)) := (H193.mv [4, 4])
  have H195 : St W w188 (itsA [it183] :: _ :: _ :: _ :: _ :: _ :: (F.set i emp)) := itsA_snoc (L := []) (x := it183) H194
  have H196 : St W w188 (_ :: _ :: _ :: (F.set i emp)) := (H195.mv [1, 1, 2, 103, 103, 103])
  have H197 : St W w188 (_ :: (Row 26 6 (.slice (pa bk187) ([it183].length) 1) ([it183].length) ([it183].flatMap itCell) :: itsA [it183] :: F).set (i + 2) emp) := (H196.move 2 rfl)
  exact ⟨[it183], L, e, _, _, by rw [hE]; rfl, gk_now hE t0 t0 hy184, St.back (i := i + 2) t34 H197⟩
 refine rc (s_neq true rfl rfl (nfalse hc15) rfl (r_nil (g_true rfl (g_seq (g_region (Mv (.int .i64 (itE x)) (Ag (.slice none 0 0) (Ag (.int .i64 (itE x)) (r_nil (Gr [.slice none 0 0, .int .i64 (itE x)] Tryz.func16 Tryz.results16 ?_))))))))))
 have H198 : St W w13 (_ :: _ :: _ :: _ :: _ :: _ :: (F.set i emp)) := (H14.mv [3, 3, 3])
 have H199 : St W w13 (GtA g e L :: _ :: _ :: _ :: (F.set i emp)) := St.shut_ex (pp3, cc4) (St.shut_star (ls := [_, _, _]) H198)
 have hE : gkE e L.length x = itE x := by first | exact gkE_it t11 | exact gkE_old t11 t0 | exact gkE_full t11 t0 t0
 have hE0 : ¬ gkE e L.length x = 0 := by rw [hE]; first | assumption | decide
 have H200 := Row.nil_intro H199 26 6
 have H201 := itsA_nil H200
 have H202 : St W w13 (_ :: _ :: _ :: (F.set i emp)) := (H201.mv [2, 1, 2, 103, 103, 103])
 have H203 : St W w13 (_ :: (Row 26 6 (.slice none 0 0) 0 [] :: itsA ([] : List ItemD) :: F).set (i + 2) emp) := (H202.move 2 rfl)
 exact ⟨[], L, e, none, 0, by rw [hE]; rfl, gk_no hE0, St.back (i := i + 2) t34 H203⟩
theorem EqualFunc_items (L M : List ItemD) (u v : Value) (heq : L.map ItemD.v = M.map ItemD.v) {j k a b : Nat} (hj : F[j]? = some (Im 6 u L.length (L.flatMap itCell))) (hk : F[k]? = some (Im 6 v M.length (M.flatMap itCell))) (ha : F[a]? = some (itsA L)) (hb : F[b]? = some (itsA M)) (H : St W w F) : Calls Tryz.prog 58 #[u, v, .func (.func 13) #[] #[]] w (Ret fun v w' => v = .bool true ∧ St W w' F) := by
 obtain ⟨pp1, cc2, rfl, hsh3⟩ := Rd.shape (Im.rd H (i := j) hj)
 have H4 := H.dup (i := j) hj (Im_pers _ _ _ _)
 have hmlH4 := Im.len H4 (i := 0) rfl
 obtain ⟨pp5, cc6, rfl, hsh7⟩ := Rd.shape (Im.rd H (i := k) hk)
 have H8 := ((H4.dup (i := k + 1) (by exact hk) (Im_pers _ _ _ _)).dup (i := a + 2) (by exact ha) (itsA_pers _)).dup (i := b + 3) (by exact hb) (itsA_pers _)
 have H9 : St W w (_ :: _ :: _ :: _ :: F) := H8
 have hl : L.length = M.length := by simpa using congrArg List.length heq
 refine calls_of_go (n := 32) Tryz.func58 rfl Tryz.ntmps58 rfl ?_
 refine g_seq (g_region (Ag (.bool false) (r_nil (g_seq (g_seq (g_region (Mv (.slice pp1 L.length cc2) (rc (s_len L.length rfl ⟨_, un_38⟩ rfl (Mv (.slice pp5 M.length cc6) (rc (s_len M.length rfl ⟨_, un_38⟩ rfl (rc (s_neq false rfl rfl (ntrue t0) rfl (r_nil (g_false rfl (g_skip (g_seq (g_seq (g_region (Mv (.slice pp1 L.length cc2) (rc (s_len L.length rfl ⟨_, un_38⟩ rfl (Mv (.int .i64 0) (r_nil (g_block ?_))))))))))))))))))))))))))
 obtain ⟨pA10, cA11, gA12, oA13, kA14, eA15, zA16, he22, hn17, hp18, hx19, hs20, hml, H21⟩ := Im.open_ H9 (i := 3) rfl
 obtain ⟨rfl, rfl⟩ : pp1 = pA10 ∧ cc2 = cA11 := by injection he22 with a_ b_ c_; exact ⟨a_, c_⟩
 obtain ⟨pA23, cA24, gA25, oA26, kA27, eA28, zA29, he35, hn30, hp31, hx32, hs33, hml, H34⟩ := Im.open_ H21 (i := 3) rfl
 obtain ⟨rfl, rfl⟩ : pp5 = pA23 ∧ cc6 = cA24 := by injection he35 with a_ b_ c_; exact ⟨a_, c_⟩
 refine g_loop_inv (fun (j2 : Nat) => [(1, .slice pp5 M.length cc6), (2, .func (.func 13) #[] #[]), (6, .bool false), (15, .slice pp1 L.length cc2), (16, .int .i64 (L.length : Int)), (17, .int .i64 (j2 : Int))]) (fun j2 w => (j2 ≤ L.length) ∧ St W w (imi (0 < M.length) gA25 (.cells kA27 eA28 zA29) :: imi (0 < L.length) gA12 (.cells kA14 eA15 zA16) :: itsA M :: itsA L :: Im 6 (.slice pp5 M.length cc6) M.length (M.flatMap itCell) :: Im 6 (.slice pp1 L.length cc2) L.length (L.flatMap itCell) :: F)) (fun j2 => L.length - j2) (0) ?_ ?_ ?_
 ·exact t1
 ·exact ⟨t0, H34⟩
 rintro j2 ρ36 w37 ⟨hjn, H38⟩ nx39
 change Ends _ _ (upds ρ36 [(1, .slice pp5 M.length cc6), (2, .func (.func 13) #[] #[]), (6, .bool false), (15, .slice pp1 L.length cc2), (16, .int .i64 (L.length : Int)), (17, .int .i64 (j2 : Int))]) w37
 refine g_seq (g_region ?_)
 by_cases hc40 : (j2 : Int) < (L.length : Int)
 ·refine rc (s_lss true rfl rfl (dtrue hc40) rfl (r_nil (g_seq (g_true rfl (g_skip (g_seq (g_block (g_seq (g_region (Mv (.int .i64 (j2 : Int)) (rc (s_indexAddr gA12 (off := oA13) (j2 : Int) 6 (oA13 + j2 * 6) (by exact congrArg (fun z_ => Value.slice z_ L.length cc2) (hp18 t0)) rfl el_38 t0 rfl rfl (rc (s_loadAgg (itl (L.getD j2 default)) 6 ag_26 rfl (H38.imi_at (i := 1) rfl t0) (by have := elem_size (i := j2) (s := 6) (hs20 t0) t0; omega) (elem_take itCell_len (hx19 t0) t0 default) rfl (rc (s_alloc H38 26 ze_26 rfl (fun bk41 w42 H43 => Ag (.int .i64 (j2 : Int)) (Sa H43 0 rfl (itc (L.getD j2 default)) 6 sz_26 (itc (L.getD j2 default)) (fun w44 H45 => r_nil (g_seq (g_region (Mv (.slice pp5 M.length cc6) (Mv (.int .i64 (j2 : Int)) (rc (s_indexAddr gA25 (off := oA26) (j2 : Int) 6 (oA26 + j2 * 6) (by exact congrArg (fun z_ => Value.slice z_ M.length cc6) (hp31 t0)) rfl el_38 t0 rfl rfl (rc (s_loadAgg (itl (M.getD j2 default)) 6 ag_26 rfl (H45.imi_at (i := 1) rfl t0) (by have := elem_size (i := j2) (s := 6) (hs33 t0) t0; omega) (elem_take itCell_len (hx32 t0) t0 default) rfl (rc (s_alloc H45 26 ze_26 rfl (fun bk46 w47 H48 => Sa H48 0 rfl (itc (M.getD j2 default)) 6 sz_26 (itc (M.getD j2 default)) (fun w49 H50 => r_nil (g_seq (g_region ?_)))))))))))))))))))))))))))))))))
  have H51 : St W w49 (bndsA ((L.getD j2 default).bs) :: _ :: _ :: _ :: _ :: _ :: _ :: _ :: _ :: F) := itsA_at H50 (i := 5) rfl (j := j2) t0
  have H52 : St W w49 (Im 6 (.slice ((L.getD j2 default).p) ((L.getD j2 default).bs.length) ((L.getD j2 default).c)) ((L.getD j2 default).bs.length) ((L.getD j2 default).bs.flatMap bndCell) :: _ :: _ :: _ :: _ :: _ :: _ :: _ :: _ :: _ :: F) := itsA_bs H51 (i := 6) rfl (j := j2) t0
  have H53 : St W w49 (bndsA ((M.getD j2 default).bs) :: _ :: _ :: _ :: _ :: _ :: _ :: _ :: _ :: _ :: _ :: F) := itsA_at H52 (i := 6) rfl (j := j2) t0
  have H54 : St W w49 (Im 6 (.slice ((M.getD j2 default).p) ((M.getD j2 default).bs.length) ((M.getD j2 default).c)) ((M.getD j2 default).bs.length) ((M.getD j2 default).bs.flatMap bndCell) :: _ :: _ :: _ :: _ :: _ :: _ :: _ :: _ :: _ :: _ :: _ :: F) := itsA_bs H53 (i := 7) rfl (j := j2) t0
  have hsm : sameIt (L.getD j2 default) (M.getD j2 default) = true := sameIt_is.2 (its_at heq t0)
  refine Mv (.func (.func 13) #[] #[]) (La (itl (L.getD j2 default)) 6 ag_26 H54 5 (La (itl (M.getD j2 default)) 6 ag_26 H54 4 (rc (s_callv [] [.agg (itc (L.getD j2 default)), .agg (itc (M.getD j2 default))] rfl pl_13 rfl rfl (ref24_SameItem (L.getD j2 default) (M.getD j2 default) (ip := 2) rfl (iq := 3) rfl (ip2 := 0) rfl (iq2 := 1) rfl H54) ?_))))
  rintro _ w55 ⟨rfl, H56⟩
  refine rc (s_not (sameIt (L.getD j2 default) (M.getD j2 default)) rfl false (by rw [hsm]; rfl) rfl (r_nil (g_false rfl (g_skip (g_inBlock (g_region (rc (s_add ((j2 : Int) + 1) rfl rfl (wi64 t0) rfl (Mv (.int .i64 ((j2 : Int) + 1)) (r_nil ?_))))))))))
  have H57 : St W w55 (_ :: _ :: _ :: _ :: _ :: _ :: F) := (H56.mv [11, 11, 11, 11, 11, 11, 106, 106, 106, 106, 106, 106])
  exact nx39 (j2 + 1) _ _ ⟨t0, H57⟩ t7 t1
 refine rc (s_lss false rfl rfl (dfalse hc40) rfl (r_nil (g_seq (g_false rfl (g_exit t39 (g_seq (g_region (Ag (.bool true) (r_nil (Gr [.bool true] Tryz.func58 Tryz.results58 ?_))))))))))
 have H58 : St W w37 F := (H38.mv [100, 100, 100, 100, 100, 100])
 exact ⟨rfl, H58⟩
theorem items_ (L M : List ItemD) (u v : Value) (heq : L.map ItemD.v = M.map ItemD.v) {j k a b : Nat} (hj : F[j]? = some (Im 6 u L.length (L.flatMap itCell))) (hk : F[k]? = some (Im 6 v M.length (M.flatMap itCell))) (ha : F[a]? = some (itsA L)) (hb : F[b]? = some (itsA M)) (H : St W w F) : Calls Tryz.prog 18 #[u, v] w (Ret fun v w' => v = .bool true ∧ St W w' F) := by
 refine calls_of_go (n := 8) Tryz.func18 rfl Tryz.ntmps18 rfl ?_
 refine g_seq (g_region (Ag (.bool false) (r_nil (g_seq (g_region (Mv (u) (Mv (v) (rc (s_call [u, v, .func (.func 13) #[] #[]] pl_58 rfl rfl (EqualFunc_items L M u v heq hj hk ha hb H) ?_)))))))))
 rintro _ w1 ⟨rfl, H2⟩
 exact Ag (.bool true) (r_nil (Gr [.bool true] Tryz.func18 Tryz.results18 (⟨rfl, H2⟩)))
theorem GtA_Epoch (g : Nat) (e : Int) (L : List ItemD) {i : Nat} (hi : F[i]? = some (GtA g e L)) (H : St W w F) : Calls Tryz.prog 19 #[.pointer (pa g)] w (Ret fun v w' => v = .int .i64 e ∧ St W w' F) := by
 have H0 := H.front hi
 have H1 := H0.move 0 rfl
 obtain ⟨⟨pp2, cc3⟩, H4⟩ := St.open_ex H1
 have H5 := St.open_star H4
 have H6 : St W w (_ :: _ :: _ :: (F.set i emp)) := H5
 refine calls_of_go (n := 9) Tryz.func19 rfl Tryz.ntmps19 rfl ?_
 refine g_seq (g_region (Ag (.int .i64 0) (r_nil (g_seq (g_seq (g_region (Mv (.pointer (pa g)) (rc (s_call [.pointer (pa g)] pl_53 rfl rfl (Gate_none g (e : Int) (.slice pp2 L.length cc3) (i := 0) rfl H6) ?_)))))))))
 rintro _ w7 ⟨rfl, H8⟩
 refine r_nil (g_false rfl (g_skip (g_seq (g_region (Mv (.pointer (pa g)) (Nc (.pointer (pa g)) (Fa 1 fi_90_1 rfl (Lo (.int .i64 e) ag_2 H8 0 (Ag (.int .i64 e) (r_nil (Gr [.int .i64 e] Tryz.func19 Tryz.results19 ?_)))))))))))
 have H9 : St W w7 (GtA g e L :: (F.set i emp)) := St.shut_ex (pp2, cc3) (St.shut_star (ls := [_, _, _]) H8)
 have H10 : St W w7 (_ :: (F.set i emp)) := H9
 exact ⟨rfl, St.back_same hi H10⟩
theorem GtA_Waiting (g : Nat) (e : Int) (L : List ItemD) {i : Nat} (hi : F[i]? = some (GtA g e L)) (H : St W w F) : Calls Tryz.prog 20 #[.pointer (pa g)] w (Ret fun v w' => v = .int .i64 (L.length : Int) ∧ St W w' F) := by
 have H0 := H.front hi
 have H1 := H0.move 0 rfl
 obtain ⟨⟨pp2, cc3⟩, H4⟩ := St.open_ex H1
 have H5 := St.open_star H4
 have H6 : St W w (_ :: _ :: _ :: (F.set i emp)) := H5
 refine calls_of_go (n := 10) Tryz.func20 rfl Tryz.ntmps20 rfl ?_
 refine g_seq (g_region (Ag (.int .i64 0) (r_nil (g_seq (g_seq (g_region (Mv (.pointer (pa g)) (rc (s_call [.pointer (pa g)] pl_53 rfl rfl (Gate_none g (e : Int) (.slice pp2 L.length cc3) (i := 0) rfl H6) ?_)))))))))
 rintro _ w7 ⟨rfl, H8⟩
 refine r_nil (g_false rfl (g_skip (g_seq (g_region (Mv (.pointer (pa g)) (Nc (.pointer (pa g)) (Fa 2 fi_90_2 rfl (Lo (.slice pp2 L.length cc3) ag_38 H8 0 (rc (s_len L.length rfl ⟨_, un_38⟩ rfl (Ag (.int .i64 (L.length : Int)) (r_nil (Gr [.int .i64 (L.length : Int)] Tryz.func20 Tryz.results20 ?_)))))))))))))
 have H9 : St W w7 (GtA g e L :: (F.set i emp)) := St.shut_ex (pp2, cc3) (St.shut_star (ls := [_, _, _]) H8)
 have H10 : St W w7 (_ :: (F.set i emp)) := H9
 exact ⟨rfl, St.back_same hi H10⟩
/-- The document's gate: its epoch, what waits. -/
def GrA (g : Nat) (e : Int) (L : List ItemD) : Atom := ex fun q : Option Addr × Nat => star [blk g (.cells #[.int .i64 e, .slice q.1 L.length q.2] 44 (0, 0)), Im 6 (.slice q.1 L.length q.2) L.length (L.flatMap itCell), itsA L]
theorem Ref_of (g : Nat) (e ke : Int) (L : List ItemD) (hL : L.length ≤ 1099511627776) {i : Nat} (hi : F[i]? = some (GrA g e L)) (H : St W w F) : Calls Tryz.prog 57 #[.pointer (pa g), .int .i64 ke] w (Ret fun v w' => ∃ p c q d, v = .tuple #[.slice p ((trO epD kdD ke L).length) c, .bool (trE epD kdD ke L), .slice q ((trR epD ke L).length) d] ∧ St W w' (Row 26 6 (.slice p ((trO epD kdD ke L).length) c) ((trO epD kdD ke L).length) ((trO epD kdD ke L).flatMap itCell) :: itsA (trO epD kdD ke L) :: Im 6 (.slice q ((trR epD ke L).length) d) ((trR epD ke L).length) ((trR epD ke L).flatMap itCell) :: itsA (trR epD ke L) :: F)) := by
 have H0 := H.front hi
 have H1 := H0.move 0 rfl
 obtain ⟨⟨pp2, cc3⟩, H4⟩ := St.open_ex H1
 have H5 := St.open_star H4
 have H6 : St W w (_ :: _ :: _ :: (F.set i emp)) := H5
 refine calls_of_go (n := 50) Tryz.func57 rfl Tryz.ntmps57 rfl ?_
 refine g_seq (g_region (Ag (.slice none 0 0) (Ag (.bool false) (Ag (.slice none 0 0) (r_nil (g_seq (g_region (Ag (.slice none 0 0) (r_nil (g_seq (g_region (Ag (.slice none 0 0) (r_nil (g_seq (g_region (Ag (.bool false) (r_nil (g_seq (g_seq (g_region (Ag (.int .i64 0) (r_nil (g_block ?_)))))))))))))))))))))))
 obtain ⟨pA7, cA8, gA9, oA10, kA11, eA12, zA13, he19, hn14, hp15, hx16, hs17, hml, H18⟩ := Im.open_ H6 (i := 1) rfl
 obtain ⟨rfl, rfl⟩ : pp2 = pA7 ∧ cc3 = cA8 := by injection he19 with a_ b_ c_; exact ⟨a_, c_⟩
 have H20 := Row.nil_intro H18 26 6
 have H21 := Row.nil_intro H20 26 6
 refine g_loop_inv (fun ((j, p1, d1, p2, d2) : Nat × (Option Addr) × Nat × (Option Addr) × Nat) => [(0, .pointer (pa g)), (1, .int .i64 ke), (4, .slice none 0 0), (5, .bool false), (6, .slice none 0 0), (7, .slice p1 ((trO epD kdD ke (L.take j)).length) d1), (8, .slice p2 ((trR epD ke (L.take j)).length) d2), (9, .bool (trE epD kdD ke (L.take j))), (10, .int .i64 (j : Int))]) (fun (j, p1, d1, p2, d2) w => (j ≤ L.length) ∧ St W w (Row 26 6 (.slice p1 ((trO epD kdD ke (L.take j)).length) d1) ((trO epD kdD ke (L.take j)).length) ((trO epD kdD ke (L.take j)).flatMap itCell) :: Row 26 6 (.slice p2 ((trR epD ke (L.take j)).length) d2) ((trR epD ke (L.take j)).length) ((trR epD ke (L.take j)).flatMap itCell) :: imi (0 < L.length) gA9 (.cells kA11 eA12 zA13) :: blk g (.cells #[.int .i64 e, .slice pp2 L.length cc3] 44 (0, 0)) :: Im 6 (.slice pp2 L.length cc3) L.length (L.flatMap itCell) :: itsA L :: (F.set i emp))) (fun (j, p1, d1, p2, d2) => L.length - j) (0, none, 0, none, 0) ?_ ?_ ?_
 ·exact t1
 ·exact ⟨t0, H21⟩
 rintro ⟨j, p1, d1, p2, d2⟩ ρ22 w23 ⟨hjn, H24⟩ nx25
 change Ends _ _ (upds ρ22 [(0, .pointer (pa g)), (1, .int .i64 ke), (4, .slice none 0 0), (5, .bool false), (6, .slice none 0 0), (7, .slice p1 ((trO epD kdD ke (L.take j)).length) d1), (8, .slice p2 ((trR epD ke (L.take j)).length) d2), (9, .bool (trE epD kdD ke (L.take j))), (10, .int .i64 (j : Int))]) w23
 have hlr := trR_len (ep := epD) (e := ke) (L := L.take j)
 have hlo := trO_len (ep := epD) (kd := kdD) (e := ke) (L := L.take j)
 have hlt : (L.take j).length = j := by rw [List.length_take]; omega
 refine g_seq (g_seq (g_region (Mv (.int .i64 (j : Int)) (Mv (.pointer (pa g)) (Nc (.pointer (pa g)) (Fa 1 fi_44_1 rfl (Lo (.slice pp2 L.length cc3) ag_38 H24 3 (rc (s_len L.length rfl ⟨_, un_38⟩ rfl ?_)))))))))
 by_cases hc26 : (j : Int) < (L.length : Int)
 ·refine rc (s_lss true rfl rfl (dtrue hc26) rfl (r_nil (g_true rfl (g_skip (g_seq (g_block (g_seq (g_region (Mv (.pointer (pa g)) (Nc (.pointer (pa g)) (Fa 1 fi_44_1 rfl (Lo (.slice pp2 L.length cc3) ag_38 H24 3 (Mv (.int .i64 (j : Int)) (rc (s_indexAddr gA9 (off := oA10) (j : Int) 6 (oA10 + j * 6) (by exact congrArg (fun z_ => Value.slice z_ L.length cc3) (hp15 t0)) rfl el_38 t0 rfl rfl (rc (s_loadAgg (itl (L.getD j default)) 6 ag_26 rfl (H24.imi_at (i := 2) rfl t0) (by have := elem_size (i := j) (s := 6) (hs17 t0) t0; omega) (elem_take itCell_len (hx16 t0) t0 default) rfl (rc (s_alloc H24 26 ze_26 rfl (fun bk27 w28 H29 => Sa H29 0 rfl (itc (L.getD j default)) 6 sz_26 (itc (L.getD j default)) (fun w30 H31 => r_nil (g_block (g_seq (g_region (Fa 2 fi_26_2 rfl (Lo (.int .i64 ((L.getD j default).ep.v)) ag_2 H31 0 (Mv (.int .i64 ke) ?_)))))))))))))))))))))))))))
  by_cases hc32 : (L.getD j default).ep.v = ke
  ·refine rc (s_neq false rfl rfl (ntrue hc32) rfl (Ag (.bool false) (r_nil (g_false rfl (g_seq (g_region (Mv (.bool (trE epD kdD ke (L.take j))) (Ag (.bool (trE epD kdD ke (L.take j))) (r_nil ?_)))))))))
   by_cases hb33 : (trE epD kdD ke (L.take j)) = true
   ·refine g_true (congrArg Value.bool hb33) (g_skip (g_inBlock (g_inBlock (g_region (Mv (.int .i64 (j : Int)) (rc (s_add ((j : Int) + 1) rfl rfl (wi64 t0) rfl (Ag (.int .i64 ((j : Int) + 1)) (r_nil ?_)))))))))
    have ht9 := take_getD (L := L) (j := j) t0
    obtain ⟨h1, h2, h3⟩ := tr_past (L := L.take j) (x := (L.getD j default)) (ep := epD) (e := ke) hc32 hb33
    have H34 : St W w30 (blk bk27 (.cells #[.int .i64 ((L.getD j default).op.v), .int .i64 ((L.getD j default).inp.v), .int .i64 ((L.getD j default).ep.v), .int .i64 ((L.getD j default).kind.v), .slice ((L.getD j default).p) ((L.getD j default).bs.length) ((L.getD j default).c), .int .i64 ((L.getD j default).t.v)] 26 (0, 0)) :: Row 26 6 (.slice p1 ((trO epD kdD ke (L.take (j + 1))).length) d1) ((trO epD kdD ke (L.take (j + 1))).length) ((trO epD kdD ke (L.take (j + 1))).flatMap itCell) :: Row 26 6 (.slice p2 ((trR epD ke (L.take (j + 1))).length) d2) ((trR epD ke (L.take (j + 1))).length) ((trR epD ke (L.take (j + 1))).flatMap itCell) :: imi (0 < L.length) gA9 (.cells kA11 eA12 zA13) :: blk g (.cells #[.int .i64 e, .slice pp2 L.length cc3] 44 (0, 0)) :: Im 6 (.slice pp2 L.length cc3) L.length (L.flatMap itCell) :: itsA L :: (F.set i emp)) := by rw [ht9, h1, h2]; (try rw [List.flatMap_append, List.length_append]); exact H31
    have H35 : St W w30 (_ :: _ :: _ :: _ :: _ :: _ :: (F.set i emp)) := (H34.mv [6, 6, 6, 6, 6, 6, 106])
    exact nx25 (j + 1, p1, d1, p2, d2) _ _ ⟨t0, H35⟩ t7 ⟨by first | rfl | exact vint t0, by first | rfl | exact vint t0, by first | rfl | exact vint t0, by first | rfl | exact vint t0, by first | rfl | exact vint t0, by rw [ht9, h2]; first | rfl | (rw [List.length_append]; rfl), by rw [ht9, h1]; first | rfl | (rw [List.length_append]; rfl), by rw [ht9, h3]; first | rfl | exact congrArg Value.bool t11, by first | rfl | exact vint t0, trivial⟩
   have hb33 := eq_false_of_ne_true hb33
   refine g_false (congrArg Value.bool hb33) (g_seq (g_region (Fa 3 fi_26_3 rfl (Lo (.int .i64 ((L.getD j default).kind.v)) ag_3 H31 0 ?_))))
   by_cases hc36 : (L.getD j default).kind.v = 3
   ·refine rc (s_eql true rfl rfl (dtrue hc36) rfl (Ag (.bool true) (r_nil (g_true rfl (g_region (Ag (.bool true) (r_nil (g_inBlock (g_inBlock (g_region (Mv (.int .i64 (j : Int)) (rc (s_add ((j : Int) + 1) rfl rfl (wi64 t0) rfl (Ag (.int .i64 ((j : Int) + 1)) (r_nil ?_)))))))))))))))
    have ht9 := take_getD (L := L) (j := j) t0
    obtain ⟨h1, h2, h3⟩ := tr_end (L := L.take j) (x := (L.getD j default)) (ep := epD) (e := ke) hc32 hb33 hc36
    have H37 : St W w30 (blk bk27 (.cells #[.int .i64 ((L.getD j default).op.v), .int .i64 ((L.getD j default).inp.v), .int .i64 ((L.getD j default).ep.v), .int .i64 ((L.getD j default).kind.v), .slice ((L.getD j default).p) ((L.getD j default).bs.length) ((L.getD j default).c), .int .i64 ((L.getD j default).t.v)] 26 (0, 0)) :: Row 26 6 (.slice p1 ((trO epD kdD ke (L.take (j + 1))).length) d1) ((trO epD kdD ke (L.take (j + 1))).length) ((trO epD kdD ke (L.take (j + 1))).flatMap itCell) :: Row 26 6 (.slice p2 ((trR epD ke (L.take (j + 1))).length) d2) ((trR epD ke (L.take (j + 1))).length) ((trR epD ke (L.take (j + 1))).flatMap itCell) :: imi (0 < L.length) gA9 (.cells kA11 eA12 zA13) :: blk g (.cells #[.int .i64 e, .slice pp2 L.length cc3] 44 (0, 0)) :: Im 6 (.slice pp2 L.length cc3) L.length (L.flatMap itCell) :: itsA L :: (F.set i emp)) := by rw [ht9, h1, h2]; (try rw [List.flatMap_append, List.length_append]); exact H31
    have H38 : St W w30 (_ :: _ :: _ :: _ :: _ :: _ :: (F.set i emp)) := (H37.mv [6, 6, 6, 6, 6, 6, 106])
    exact nx25 (j + 1, p1, d1, p2, d2) _ _ ⟨t0, H38⟩ t7 ⟨by first | rfl | exact vint t0, by first | rfl | exact vint t0, by first | rfl | exact vint t0, by first | rfl | exact vint t0, by first | rfl | exact vint t0, by rw [ht9, h2]; first | rfl | (rw [List.length_append]; rfl), by rw [ht9, h1]; first | rfl | (rw [List.length_append]; rfl), by rw [ht9, h3]; first | rfl | exact congrArg Value.bool t11, by first | rfl | exact vint t0, trivial⟩
   refine rc (s_eql false rfl rfl (dfalse hc36) rfl (Ag (.bool false) (r_nil (g_false rfl (g_region (Mv (.slice p1 ((trO epD kdD ke (L.take j)).length) d1) (La (itl (L.getD j default)) 6 ag_26 H31 0 (rc (s_buildSlice H31 6 1 (cs := (itc (L.getD j default))) #[.int .i64 0, .int .i64 0, .int .i64 0, .int .i64 0, .slice none 0 0, .int .i64 0] el_38 ze_26 t9 t9 t5 rfl (fun bk39 w40 H41 => rc (s_append H41 2 rfl rfl rfl (rd_blk (H41.blk_at (i := 0) rfl) rfl (nbl rfl) t15) ap_38 t9 t12 t0 (n' := (trO epD kdD ke (L.take j)).length + 1) (xs' := (trO epD kdD ke (L.take j)).flatMap itCell ++ ((itl (L.getD j default)) : List Value)) t0 t16 rfl ?_))))))))))); intro vv42 w43 H44 hn45
   obtain ⟨pp46, cc47, rfl⟩ := Row.slice H44 (i := 2) rfl
   refine Ag (.slice pp46 ((trO epD kdD ke (L.take j)).length + 1) cc47) (r_nil (g_inBlock (g_inBlock (g_region (Mv (.int .i64 (j : Int)) (rc (s_add ((j : Int) + 1) rfl rfl (wi64 t0) rfl (Ag (.int .i64 ((j : Int) + 1)) (r_nil ?_)))))))))
   have ht9 := take_getD (L := L) (j := j) t0
   obtain ⟨h1, h2, h3⟩ := tr_pass (L := L.take j) (x := (L.getD j default)) (ep := epD) (e := ke) hc32 hb33 hc36
   have H48 : St W w43 (blk bk39 (.cells #[.int .i64 ((L.getD j default).op.v), .int .i64 ((L.getD j default).inp.v), .int .i64 ((L.getD j default).ep.v), .int .i64 ((L.getD j default).kind.v), .slice ((L.getD j default).p) ((L.getD j default).bs.length) ((L.getD j default).c), .int .i64 ((L.getD j default).t.v)] 26 (0, 0)) :: blk bk27 (.cells #[.int .i64 ((L.getD j default).op.v), .int .i64 ((L.getD j default).inp.v), .int .i64 ((L.getD j default).ep.v), .int .i64 ((L.getD j default).kind.v), .slice ((L.getD j default).p) ((L.getD j default).bs.length) ((L.getD j default).c), .int .i64 ((L.getD j default).t.v)] 26 (0, 0)) :: Row 26 6 (.slice pp46 ((trO epD kdD ke (L.take (j + 1))).length) cc47) ((trO epD kdD ke (L.take (j + 1))).length) ((trO epD kdD ke (L.take (j + 1))).flatMap itCell) :: Row 26 6 (.slice p2 ((trR epD ke (L.take (j + 1))).length) d2) ((trR epD ke (L.take (j + 1))).length) ((trR epD ke (L.take (j + 1))).flatMap itCell) :: imi (0 < L.length) gA9 (.cells kA11 eA12 zA13) :: blk g (.cells #[.int .i64 e, .slice pp2 L.length cc3] 44 (0, 0)) :: Im 6 (.slice pp2 L.length cc3) L.length (L.flatMap itCell) :: itsA L :: (F.set i emp)) := by rw [ht9, h1, h2]; (try rw [List.flatMap_append, List.length_append]); exact H44
   have H49 : St W w43 (_ :: _ :: _ :: _ :: _ :: _ :: (F.set i emp)) := (H48.mv [7, 7, 7, 7, 7, 7, 106, 106])
   exact nx25 (j + 1, pp46, cc47, p2, d2) _ _ ⟨t0, H49⟩ t7 ⟨by first | rfl | exact vint t0, by first | rfl | exact vint t0, by first | rfl | exact vint t0, by first | rfl | exact vint t0, by first | rfl | exact vint t0, by rw [ht9, h2]; first | rfl | (rw [List.length_append]; rfl), by rw [ht9, h1]; first | rfl | (rw [List.length_append]; rfl), by rw [ht9, h3]; first | rfl | exact congrArg Value.bool t11, by first | rfl | exact vint t0, trivial⟩
  refine rc (s_neq true rfl rfl (nfalse hc32) rfl (Ag (.bool true) (r_nil (g_true rfl (g_region (Mv (.slice p2 ((trR epD ke (L.take j)).length) d2) (La (itl (L.getD j default)) 6 ag_26 H31 0 (rc (s_buildSlice H31 6 1 (cs := (itc (L.getD j default))) #[.int .i64 0, .int .i64 0, .int .i64 0, .int .i64 0, .slice none 0 0, .int .i64 0] el_38 ze_26 t9 t9 t5 rfl (fun bk50 w51 H52 => rc (s_append H52 3 rfl rfl rfl (rd_blk (H52.blk_at (i := 0) rfl) rfl (nbl rfl) t15) ap_38 t9 t12 t0 (n' := (trR epD ke (L.take j)).length + 1) (xs' := (trR epD ke (L.take j)).flatMap itCell ++ ((itl (L.getD j default)) : List Value)) t0 t16 rfl ?_))))))))))); intro vv53 w54 H55 hn56
  obtain ⟨pp57, cc58, rfl⟩ := Row.slice H55 (i := 3) rfl
  refine Ag (.slice pp57 ((trR epD ke (L.take j)).length + 1) cc58) (r_nil (g_inBlock (g_inBlock (g_region (Mv (.int .i64 (j : Int)) (rc (s_add ((j : Int) + 1) rfl rfl (wi64 t0) rfl (Ag (.int .i64 ((j : Int) + 1)) (r_nil ?_)))))))))
  have ht9 := take_getD (L := L) (j := j) t0
  obtain ⟨h1, h2, h3⟩ := tr_other (L := L.take j) (x := (L.getD j default)) (ep := epD) (e := ke) (kd := kdD) hc32
  have H59 : St W w54 (blk bk50 (.cells #[.int .i64 ((L.getD j default).op.v), .int .i64 ((L.getD j default).inp.v), .int .i64 ((L.getD j default).ep.v), .int .i64 ((L.getD j default).kind.v), .slice ((L.getD j default).p) ((L.getD j default).bs.length) ((L.getD j default).c), .int .i64 ((L.getD j default).t.v)] 26 (0, 0)) :: blk bk27 (.cells #[.int .i64 ((L.getD j default).op.v), .int .i64 ((L.getD j default).inp.v), .int .i64 ((L.getD j default).ep.v), .int .i64 ((L.getD j default).kind.v), .slice ((L.getD j default).p) ((L.getD j default).bs.length) ((L.getD j default).c), .int .i64 ((L.getD j default).t.v)] 26 (0, 0)) :: Row 26 6 (.slice p1 ((trO epD kdD ke (L.take (j + 1))).length) d1) ((trO epD kdD ke (L.take (j + 1))).length) ((trO epD kdD ke (L.take (j + 1))).flatMap itCell) :: Row 26 6 (.slice pp57 ((trR epD ke (L.take (j + 1))).length) cc58) ((trR epD ke (L.take (j + 1))).length) ((trR epD ke (L.take (j + 1))).flatMap itCell) :: imi (0 < L.length) gA9 (.cells kA11 eA12 zA13) :: blk g (.cells #[.int .i64 e, .slice pp2 L.length cc3] 44 (0, 0)) :: Im 6 (.slice pp2 L.length cc3) L.length (L.flatMap itCell) :: itsA L :: (F.set i emp)) := by rw [ht9, h1, h2]; (try rw [List.flatMap_append, List.length_append]); exact H55
  have H60 : St W w54 (_ :: _ :: _ :: _ :: _ :: _ :: (F.set i emp)) := (H59.mv [7, 7, 7, 7, 7, 7, 106, 106])
  exact nx25 (j + 1, p1, d1, pp57, cc58) _ _ ⟨t0, H60⟩ t7 ⟨by first | rfl | exact vint t0, by first | rfl | exact vint t0, by first | rfl | exact vint t0, by first | rfl | exact vint t0, by first | rfl | exact vint t0, by rw [ht9, h2]; first | rfl | (rw [List.length_append]; rfl), by rw [ht9, h1]; first | rfl | (rw [List.length_append]; rfl), by rw [ht9, h3]; first | rfl | exact congrArg Value.bool t11, by first | rfl | exact vint t0, trivial⟩
 refine rc (s_lss false rfl rfl (dfalse hc26) rfl (r_nil (g_false rfl (g_exit t39 (g_seq (g_region (Mv (.slice p1 ((trO epD kdD ke (L.take j)).length) d1) (Mv (.bool (trE epD kdD ke (L.take j))) (Mv (.slice p2 ((trR epD ke (L.take j)).length) d2) (Ag (.slice p1 ((trO epD kdD ke (L.take j)).length) d1) (Ag (.bool (trE epD kdD ke (L.take j))) (Ag (.slice p2 ((trR epD ke (L.take j)).length) d2) (r_nil (Gr [.slice p1 ((trO epD kdD ke (L.take j)).length) d1, .bool (trE epD kdD ke (L.take j)), .slice p2 ((trR epD ke (L.take j)).length) d2] Tryz.func57 Tryz.results57 ?_))))))))))))))
 have hj9 : L.take j = L := by rw [show j = L.length from by omega, List.take_length]
 have H61 : St W w23 (Row 26 6 (.slice p1 ((trO epD kdD ke L).length) d1) ((trO epD kdD ke L).length) ((trO epD kdD ke L).flatMap itCell) :: Row 26 6 (.slice p2 ((trR epD ke L).length) d2) ((trR epD ke L).length) ((trR epD ke L).flatMap itCell) :: imi (0 < L.length) gA9 (.cells kA11 eA12 zA13) :: blk g (.cells #[.int .i64 e, .slice pp2 L.length cc3] 44 (0, 0)) :: Im 6 (.slice pp2 L.length cc3) L.length (L.flatMap itCell) :: itsA L :: (F.set i emp)) := by have hx := H24; rw [hj9] at hx; exact hx
 have H62 : St W w23 (_ :: _ :: _ :: _ :: _ :: _ :: (F.set i emp)) := Row.im H61 (i := 1) rfl
 have H63 := itsA_sub (M := (trR epD ke L)) H62 (i := 5) rfl (fun x hx => (trR_mem hx).1)
 have H64 := itsA_sub (M := (trO epD kdD ke L)) H63 (i := 6) rfl (fun x hx => trO_mem hx)
 have H65 : St W w23 (_ :: _ :: _ :: _ :: _ :: _ :: _ :: _ :: (F.set i emp)) := (H64.mv [7, 7, 7])
 have H66 : St W w23 (GrA g e L :: _ :: _ :: _ :: _ :: _ :: (F.set i emp)) := St.shut_ex (pp2, cc3) (St.shut_star (ls := [_, _, _]) H65)
 have H67 : St W w23 (_ :: _ :: _ :: _ :: _ :: (F.set i emp)) := (H66.mv [2, 4, 3, 4, 105])
 have H68 : St W w23 (_ :: (Row 26 6 (.slice p1 ((trO epD kdD ke L).length) d1) ((trO epD kdD ke L).length) ((trO epD kdD ke L).flatMap itCell) :: itsA (trO epD kdD ke L) :: Im 6 (.slice p2 ((trR epD ke L).length) d2) ((trR epD ke L).length) ((trR epD ke L).flatMap itCell) :: itsA (trR epD ke L) :: F).set (i + 4) emp) := (H67.move 4 rfl)
 exact ⟨_, _, _, _, by rw [hj9]; rfl, St.back_same (i := i + 4) t34 H68⟩
theorem Ref_Take (g : Nat) (e : Int) (L : List ItemD) (x : ItemD) (hok : bsOk x.bs) (hL : L.length ≤ 1099511627776) (he : e + L.length + 1 ≤ 4611686018427387904) (he0 : 0 ≤ e) {i : Nat} (hi : F[i]? = some (GrA g e L)) {ip : Nat} (hp : F[ip]? = some (Im 6 (.slice x.p x.bs.length x.c) x.bs.length (x.bs.flatMap bndCell))) {iq : Nat} (hq : F[iq]? = some (bndsA x.bs)) (H : St W w F) : Calls Tryz.prog 17 #[.pointer (pa g), .agg (itc x)] w (Ret fun v w' => ∃ (O L2 : List ItemD) (e2 : Int) (p : Option Addr) (c : Nat), v = .tuple #[.slice p O.length c, .int .i64 (gkE e L.length x)] ∧ gkV (gkE e L.length x) e (L.map ItemD.v) x.v = (O.map ItemD.v, e2, L2.map ItemD.v) ∧ St W w' (Row 26 6 (.slice p O.length c) O.length (O.flatMap itCell) :: itsA O :: F.set i (GrA g e2 L2))) := by
 have H0 := ((H.dup hp (Im_pers _ _ _ _)).dup (i := iq + 1) t51 (bndsA_pers _)).front (i := i + 2) t34
 have H1 : St W w (_ :: _ :: _ :: (F.set i emp)) := H0
 have H2 := H1.move 0 rfl
 obtain ⟨⟨pp3, cc4⟩, H5⟩ := St.open_ex H2
 have H6 := St.open_star H5
 have H7 : St W w (_ :: _ :: _ :: _ :: _ :: (F.set i emp)) := H6
 refine calls_of_go (n := 91) Tryz.func17 rfl Tryz.ntmps17 rfl ?_
 refine g_seq (g_region (Bx H7 26 (itc x) (fun bk8 w9 H10 => Ag (.slice none 0 0) (Ag (.int .i64 0) (r_nil (g_seq (g_seq (g_region (La (itl x) 6 ag_26 H10 0 (rc (s_call [.agg (itc x)] pl_11 rfl rfl (ref24_CheckItem x (ip := 5) rfl (iq := 4) rfl H10) ?_)))))))))))
 rintro _ w11 ⟨rfl, H12⟩
 refine Ag (.int .i64 (itE x)) (r_nil (g_seq (g_region (Mv (.int .i64 (itE x)) ?_))))
 by_cases hc13 : itE x = 0
 ·refine rc (s_neq false rfl rfl (ntrue hc13) rfl (r_nil (g_false rfl (g_skip (g_seq (g_block (g_seq ?_)))))))
  refine g_quiet (fun w' => St W w' (blk bk8 (.cells (itc x) 26 (0, 0)) :: blk g (.cells #[.int .i64 e, .slice pp3 L.length cc4] 44 (0, 0)) :: Im 6 (.slice pp3 L.length cc4) L.length (L.flatMap itCell) :: itsA L :: bndsA x.bs :: Im 6 (.slice x.p x.bs.length x.c) x.bs.length (x.bs.flatMap bndCell) :: (F.set i emp))) mixed t5 H12.drew ?_
  refine Qf 2 fi_26_2 rfl (Qv (fun w hw => x_load (.int .i64 x.ep.v) ag_2 rfl (hw.blk_at (i := 0) rfl) rfl) (Qm (.pointer (pa g)) (Qv (fun w hw => x_nilCheck (.pointer (pa g)) rfl ⟨_, rfl⟩ w) (Qf 0 fi_44_0 rfl (Qv (fun w hw => x_load (.int .i64 e) ag_2 rfl (hw.blk_at (i := 1) rfl) rfl) ?_)))))
  by_cases hc14 : x.ep.v < e
  ·refine Qv (fun w hw => x_lss true rfl rfl (dtrue hc14) w) (Qv (fun w hw => x_assign (.bool true) rfl w) (q_nil ?_))
   intro w15 H16
   refine g_true rfl (g_seq (g_region (Ag (.slice none 0 0) (Ag (.int .i64 240) (r_nil (Gr [.slice none 0 0, .int .i64 240] Tryz.func17 Tryz.results17 ?_))))))
   have H17 : St W w15 (_ :: _ :: _ :: _ :: _ :: _ :: (F.set i emp)) := (H16.mv [3, 3, 3])
   have H18 : St W w15 (GrA g e L :: _ :: _ :: _ :: (F.set i emp)) := St.shut_ex (pp3, cc4) (St.shut_star (ls := [_, _, _]) H17)
   have hE : gkE e L.length x = 240 := by first | exact gkE_it t11 | exact gkE_old t11 t0 | exact gkE_full t11 t0 t0
   have hE0 : ¬ gkE e L.length x = 0 := by rw [hE]; first | assumption | decide
   have H19 := Row.nil_intro H18 26 6
   have H20 := itsA_nil H19
   have H21 : St W w15 (_ :: _ :: _ :: (F.set i emp)) := (H20.mv [2, 1, 2, 103, 103, 103])
   have H22 : St W w15 (_ :: (Row 26 6 (.slice none 0 0) 0 [] :: itsA ([] : List ItemD) :: F).set (i + 2) emp) := (H21.move 2 rfl)
   exact ⟨[], L, e, none, 0, by rw [hE]; rfl, gk_no hE0, St.back (i := i + 2) t34 H22⟩
  refine Qv (fun w hw => x_lss false rfl rfl (dfalse hc14) w) (Qv (fun w hw => x_assign (.bool false) rfl w) (q_nil ?_))
  intro w23 H24
  refine g_false rfl (g_seq ?_)
  refine g_quiet (fun w' => St W w' (blk bk8 (.cells (itc x) 26 (0, 0)) :: blk g (.cells #[.int .i64 e, .slice pp3 L.length cc4] 44 (0, 0)) :: Im 6 (.slice pp3 L.length cc4) L.length (L.flatMap itCell) :: itsA L :: bndsA x.bs :: Im 6 (.slice x.p x.bs.length x.c) x.bs.length (x.bs.flatMap bndCell) :: (F.set i emp))) mixed t5 H24.drew ?_
  refine Qf 2 fi_26_2 rfl (Qv (fun w hw => x_load (.int .i64 x.ep.v) ag_2 rfl (hw.blk_at (i := 0) rfl) rfl) (Qm (.pointer (pa g)) (Qv (fun w hw => x_nilCheck (.pointer (pa g)) rfl ⟨_, rfl⟩ w) (Qf 0 fi_44_0 rfl (Qv (fun w hw => x_load (.int .i64 e) ag_2 rfl (hw.blk_at (i := 1) rfl) rfl) ?_)))))
  by_cases hc25 : e < x.ep.v
  ·refine Qv (fun w hw => x_gtr true rfl rfl (dtrue hc25) w) (Qm (.bool true) (Qt (Qn (.pointer (pa g)) (Qt (Qu (fun w hw => x_nilCheck (.pointer (pa g)) rfl ⟨_, rfl⟩ w) (Qt (Qu (fun w hw => x_fieldAddr 44 1 1 1 38 rfl fi_44_1 rfl w) (Qt (Qu (fun w hw => x_load (.slice pp3 L.length cc4) ag_38 rfl (hw.blk_at (i := 1) rfl) rfl) (Qt (Qu (fun w hw => x_len L.length rfl ⟨_, un_38⟩ w) (Qt ?_))))))))))))
   by_cases hc26 : (4096 : Int) ≤ (L.length : Int)
   ·refine Qu (fun w hw => x_geq true rfl rfl (dtrue hc26) w) (Qv (fun w hw => x_pick_t (.bool true) rfl rfl w) (Qv (fun w hw => x_assign (.bool true) rfl w) (q_nil ?_)))
    intro w27 H28
    refine g_true rfl (g_seq (g_region (Ag (.slice none 0 0) (Ag (.int .i64 6) (r_nil (Gr [.slice none 0 0, .int .i64 6] Tryz.func17 Tryz.results17 ?_))))))
    have H29 : St W w27 (_ :: _ :: _ :: _ :: _ :: _ :: (F.set i emp)) := (H28.mv [3, 3, 3])
    have H30 : St W w27 (GrA g e L :: _ :: _ :: _ :: (F.set i emp)) := St.shut_ex (pp3, cc4) (St.shut_star (ls := [_, _, _]) H29)
    have hE : gkE e L.length x = 6 := by first | exact gkE_it t11 | exact gkE_old t11 t0 | exact gkE_full t11 t0 t0
    have hE0 : ¬ gkE e L.length x = 0 := by rw [hE]; first | assumption | decide
    have H31 := Row.nil_intro H30 26 6
    have H32 := itsA_nil H31
    have H33 : St W w27 (_ :: _ :: _ :: (F.set i emp)) := (H32.mv [2, 1, 2, 103, 103, 103])
    have H34 : St W w27 (_ :: (Row 26 6 (.slice none 0 0) 0 [] :: itsA ([] : List ItemD) :: F).set (i + 2) emp) := (H33.move 2 rfl)
    exact ⟨[], L, e, none, 0, by rw [hE]; rfl, gk_no hE0, St.back (i := i + 2) t34 H34⟩
   refine Qu (fun w hw => x_geq false rfl rfl (dfalse hc26) w) (Qv (fun w hw => x_pick_t (.bool false) rfl rfl w) (Qv (fun w hw => x_assign (.bool false) rfl w) (q_nil ?_)))
   intro w35 H36
   refine g_false rfl (g_seq ?_)
   refine g_quiet (fun w' => St W w' (blk bk8 (.cells (itc x) 26 (0, 0)) :: blk g (.cells #[.int .i64 e, .slice pp3 L.length cc4] 44 (0, 0)) :: Im 6 (.slice pp3 L.length cc4) L.length (L.flatMap itCell) :: itsA L :: bndsA x.bs :: Im 6 (.slice x.p x.bs.length x.c) x.bs.length (x.bs.flatMap bndCell) :: (F.set i emp))) mixed t5 H36.drew ?_
   refine Qf 2 fi_26_2 rfl (Qv (fun w hw => x_load (.int .i64 x.ep.v) ag_2 rfl (hw.blk_at (i := 0) rfl) rfl) (Qm (.pointer (pa g)) (Qv (fun w hw => x_nilCheck (.pointer (pa g)) rfl ⟨_, rfl⟩ w) (Qf 0 fi_44_0 rfl (Qv (fun w hw => x_load (.int .i64 e) ag_2 rfl (hw.blk_at (i := 1) rfl) rfl) ?_)))))
   by_cases hc37 : e < x.ep.v
   ·refine Qv (fun w hw => x_gtr true rfl rfl (dtrue hc37) w) (Qv (fun w hw => x_assign (.bool true) rfl w) (q_nil ?_))
    intro w38 H39
    refine g_true rfl (g_seq ?_)
    have H40 : St W w38 (_ :: _ :: _ :: _ :: _ :: _ :: (F.set i emp)) := (H39.mv [1, 5, 5, 5, 5, 5])
    refine g_mix (fun t_ w => St W w (blk bk8 (.cells (itc x) 26 (0, 0)) :: Im 6 (.slice pp3 L.length cc4) L.length (L.flatMap itCell) :: itsA L :: bndsA x.bs :: Im 6 (.slice x.p x.bs.length x.c) x.bs.length (x.bs.flatMap bndCell) :: t_)) (blk g (.cells #[.int .i64 e, .slice pp3 L.length cc4] 44 (0, 0)) :: (F.set i emp)) mixed 13 rfl H40.drew ?_
    refine Fv 0 rfl (fun _ w _ => x_move (.pointer (pa g)) rfl w) (Fv 1 rfl (fun _ w _ => x_move (.pointer (pa g)) rfl w) (Fv 2 rfl (fun t_ w hw => x_nilCheck (.pointer (pa g)) rfl ⟨_, rfl⟩ w) (Fv 3 rfl (fun t_ w hw => x_fieldAddr 44 1 1 1 38 rfl fi_44_1 rfl w) (Fv 6 rfl (fun t_ w hw => x_loadAgg (itl x) 6 ag_26 rfl (hw.blk_at (i := 0) rfl) (nbl rfl) rfl) ?_))))
    refine f_all (rs := [4]) t5 t13 ?_
    refine a_cons ⟨_, rfl, ?_⟩ (fun x hx => absurd hx t13)
    intro w41 H42
    try dsimp only at H42
    refine s_load (.slice pp3 L.length cc4) ag_38 rfl (H42.blk_at (i := 5) rfl) rfl rfl ?_
    refine ⟨blk g (.cells #[.int .i64 e, .slice pp3 L.length cc4] 44 (0, 0)) :: (F.set i emp), ?_, H42⟩
    change FReg _ _ _ _ _ #[true, true, true, true, true, false, true, false, false, false, false, false, false] _ _
    refine f_all (rs := [5]) t5 t13 ?_
    refine a_cons ⟨_, rfl, ?_⟩ (fun x hx => absurd hx t13)
    intro w43 H44
    try dsimp only at H44
    have H45 := Row.nil_intro H44 26 6
    refine s_append H45 0 rfl rfl rfl (Im.rd H45 (i := 2) rfl) ap_38 t9 t12 t0 (n' := L.length) (xs' := L.flatMap itCell) t0 t16 rfl ?_; intro vv46 w47 H48 hn49
    obtain ⟨pp50, cc51, rfl⟩ := Row.slice H48 (i := 0) rfl
    have H52 : St W w47 (_ :: _ :: _ :: _ :: _ :: _ :: _ :: (F.set i emp)) := (H48.mv [6, 1, 6, 6, 6, 6, 6])
    refine ⟨Row 26 6 (.slice pp50 L.length cc51) L.length (L.flatMap itCell) :: blk g (.cells #[.int .i64 e, .slice pp3 L.length cc4] 44 (0, 0)) :: (F.set i emp), ?_, H52⟩
    change FReg _ _ _ _ _ #[true, true, true, true, true, true, true, false, false, false, false, false, false] _ _
    refine f_all (rs := [7]) t5 t13 ?_
    refine a_cons ⟨_, rfl, ?_⟩ (fun x hx => absurd hx t13)
    intro w53 H54
    try dsimp only at H54
    refine s_call [.agg (itc x)] pl_56 rfl rfl (ref24_Clone x hok (ip := 4) rfl (iq := 3) rfl H54) ?_
    rintro _ w57 ⟨it55, rfl, hy56, H58⟩
    have H59 : St W w57 (_ :: _ :: _ :: _ :: _ :: _ :: _ :: _ :: _ :: (F.set i emp)) := (H58.mv [8, 8, 3, 3, 8, 8, 8, 8, 8])
    refine ⟨Im 6 (.slice it55.p it55.bs.length it55.c) it55.bs.length (it55.bs.flatMap bndCell) :: bndsA it55.bs :: Row 26 6 (.slice pp50 L.length cc51) L.length (L.flatMap itCell) :: blk g (.cells #[.int .i64 e, .slice pp3 L.length cc4] 44 (0, 0)) :: (F.set i emp), ?_, H59⟩
    change FReg _ _ _ _ _ #[true, true, true, true, true, true, true, true, false, false, false, false, false] _ _
    refine f_all (rs := [8]) t5 t13 ?_
    refine a_cons ⟨_, rfl, ?_⟩ (fun x hx => absurd hx t13)
    intro w60 H61
    try dsimp only at H61
    refine s_buildSlice H61 6 1 (cs := (itc it55)) #[.int .i64 0, .int .i64 0, .int .i64 0, .int .i64 0, .slice none 0 0, .int .i64 0] el_38 ze_26 t9 t9 t5 rfl ?_; intro bk62 w63 H64
    have H65 : St W w63 (_ :: _ :: _ :: _ :: _ :: _ :: _ :: _ :: _ :: _ :: (F.set i emp)) := (H64.mv [9, 9, 9, 9, 4, 9, 9, 9, 9, 9])
    refine ⟨blk bk62 (.cells (itc it55) 26 (0, 0)) :: Im 6 (.slice it55.p it55.bs.length it55.c) it55.bs.length (it55.bs.flatMap bndCell) :: bndsA it55.bs :: Row 26 6 (.slice pp50 L.length cc51) L.length (L.flatMap itCell) :: blk g (.cells #[.int .i64 e, .slice pp3 L.length cc4] 44 (0, 0)) :: (F.set i emp), ?_, H65⟩
    change FReg _ _ _ _ _ #[true, true, true, true, true, true, true, true, true, false, false, false, false] _ _
    refine f_all (rs := [9]) t5 t13 ?_
    refine a_cons ⟨_, rfl, ?_⟩ (fun x hx => absurd hx t13)
    intro w66 H67
    try dsimp only at H67
    refine s_append H67 8 rfl rfl rfl (rd_blk (H67.blk_at (i := 5) rfl) rfl (nbl rfl) t15) ap_38 t9 t12 t0 (n' := L.length + 1) (xs' := L.flatMap itCell ++ ((itl it55) : List Value)) t0 t16 rfl ?_; intro vv68 w69 H70 hn71
    obtain ⟨pp72, cc73, rfl⟩ := Row.slice H70 (i := 8) rfl
    refine ⟨blk bk62 (.cells (itc it55) 26 (0, 0)) :: Im 6 (.slice it55.p it55.bs.length it55.c) it55.bs.length (it55.bs.flatMap bndCell) :: bndsA it55.bs :: Row 26 6 (.slice pp72 (L.length + 1) cc73) (L.length + 1) (L.flatMap itCell ++ ((itl it55) : List Value)) :: blk g (.cells #[.int .i64 e, .slice pp3 L.length cc4] 44 (0, 0)) :: (F.set i emp), ?_, H70⟩
    change FReg _ _ _ _ _ #[true, true, true, true, true, true, true, true, true, true, false, false, false] _ _
    refine Fv 10 rfl (fun t_ w hw => x_nilCheck (.pointer (pa g)) rfl ⟨_, rfl⟩ w) (Fv 11 rfl (fun t_ w hw => x_fieldAddr 44 1 1 1 38 rfl fi_44_1 rfl w) ?_)
    refine f_all (rs := [12]) t5 t13 ?_
    refine a_cons ⟨_, rfl, ?_⟩ (fun x hx => absurd hx t13)
    intro w74 H75
    try dsimp only at H75
    refine s_store H75 9 (.slice pp72 (L.length + 1) cc73) rfl rfl rfl sz_38 rfl (nbl rfl) rfl (cs' := #[.int .i64 e, .slice pp72 (L.length + 1) cc73]) rfl ?_; intro w76 H77
    refine ⟨blk bk62 (.cells (itc it55) 26 (0, 0)) :: Im 6 (.slice it55.p it55.bs.length it55.c) it55.bs.length (it55.bs.flatMap bndCell) :: bndsA it55.bs :: Row 26 6 (.slice pp72 (L.length + 1) cc73) (L.length + 1) (L.flatMap itCell ++ ((itl it55) : List Value)) :: blk g (.cells #[.int .i64 e, .slice pp72 (L.length + 1) cc73] 44 (0, 0)) :: (F.set i emp), ?_, H77⟩
    change FReg _ _ _ _ _ #[true, true, true, true, true, true, true, true, true, true, true, true, true] _ _
    refine f_done t5 ?_
    intro w78 H79
    refine g_seq (g_region (Ag (.slice none 0 0) (Ag (.int .i64 0) (r_nil (Gr [.slice none 0 0, .int .i64 0] Tryz.func17 Tryz.results17 ?_)))))
    have hE : gkE e L.length x = 0 := gkE_ok t11 t0 t0
    have H80 : St W w78 (blk bk8 (.cells #[.int .i64 x.op.v, .int .i64 x.inp.v, .int .i64 x.ep.v, .int .i64 x.kind.v, .slice x.p x.bs.length x.c, .int .i64 x.t.v] 26 (0, 0)) :: Im 6 (.slice pp3 L.length cc4) L.length (L.flatMap itCell) :: itsA L :: bndsA x.bs :: Im 6 (.slice x.p x.bs.length x.c) x.bs.length (x.bs.flatMap bndCell) :: blk bk62 (.cells #[.int .i64 it55.op.v, .int .i64 it55.inp.v, .int .i64 it55.ep.v, .int .i64 it55.kind.v, .slice it55.p it55.bs.length it55.c, .int .i64 it55.t.v] 26 (0, 0)) :: Im 6 (.slice it55.p it55.bs.length it55.c) it55.bs.length (it55.bs.flatMap bndCell) :: bndsA it55.bs :: Row 26 6 (.slice pp72 ((L ++ [it55]).length) cc73) ((L ++ [it55]).length) ((L ++ [it55]).flatMap itCell) :: blk g (.cells #[.int .i64 e, .slice pp72 ((L ++ [it55]).length) cc73] 44 (0, 0)) :: (F.set i emp)) := by rw [List.flatMap_append, List.length_append]; exact H79
    have H81 : St W w78 (_ :: _ :: _ :: _ :: _ :: _ :: _ :: _ :: _ :: _ :: (F.set i emp)) := Row.im H80 (i := 8) rfl
    have H82 : St W w78 (_ :: _ :: _ :: _ :: _ :: _ :: _ :: _ :: _ :: _ :: (F.set i emp)) := (H81.mv [2, 7, 7])
    have H83 : St W w78 (itsA (L ++ [it55]) :: _ :: _ :: _ :: _ :: _ :: _ :: _ :: (F.set i emp)) := itsA_snoc (x := it55) H82
    have H84 : St W w78 (_ :: _ :: _ :: _ :: _ :: _ :: _ :: _ :: (F.set i emp)) := (H83.mv [6, 7])
    have H85 : St W w78 (GrA g e (L ++ [it55]) :: _ :: _ :: _ :: _ :: _ :: (F.set i emp)) := St.shut_ex (pp72, cc73) (St.shut_star (ls := [_, _, _]) H84)
    have H86 := Row.nil_intro H85 26 6
    have H87 := itsA_nil H86
    have H88 : St W w78 (_ :: _ :: _ :: (F.set i emp)) := (H87.mv [2, 1, 2, 103, 103, 103, 103, 103])
    have H89 : St W w78 (_ :: (Row 26 6 (.slice none 0 0) 0 [] :: itsA ([] : List ItemD) :: F).set (i + 2) emp) := (H88.move 2 rfl)
    exact ⟨[], (L ++ [it55]), e, none, 0, by rw [hE]; rfl, gk_wait hE t0 hy56, St.back (i := i + 2) t34 H89⟩
   refine Qv (fun w hw => x_gtr false rfl rfl (dfalse hc37) w) (Qv (fun w hw => x_assign (.bool false) rfl w) (q_nil ?_))
   intro w90 H91
   refine g_false rfl (g_seq (g_region (Fa 3 fi_26_3 rfl (Lo (.int .i64 x.kind.v) ag_3 H91 0 ?_))))
   by_cases hc92 : x.kind.v = 3
   ·refine rc (s_neq false rfl rfl (ntrue hc92) rfl (Ag (.bool false) (r_nil (g_false rfl (g_skip (g_inBlock (g_seq (g_region (Ag (.slice none 0 0) (r_nil (g_seq (g_seq (g_region (Ag (.bool true) (r_nil (g_block ?_))))))))))))))))
    have H93 : St W w90 (_ :: _ :: _ :: _ :: _ :: _ :: (F.set i emp)) := (H91.mv [3, 3, 3])
    have H94 : St W w90 (GrA g e L :: _ :: _ :: _ :: (F.set i emp)) := St.shut_ex (pp3, cc4) (St.shut_star (ls := [_, _, _]) H93)
    have H95 := Row.nil_intro H94 26 6
    have H96 := itsA_nil H95
    have H97 : St W w90 (_ :: _ :: _ :: (F.set i emp)) := (H96.mv [2, 1, 2, 103, 103, 103])
    refine g_loop_inv (fun ((b, n, O, e2, L2, q, d) : Bool × Nat × (List ItemD) × Int × (List ItemD) × (Option Addr) × Nat) => [(0, .pointer (pa g)), (4, .slice none 0 0), (5, .int .i64 0), (7, .slice q O.length d), (8, .bool b)]) (fun (b, n, O, e2, L2, q, d) w => (goS epD kdD (goG epD kdD (L.length + 1) e L) b n O e2 L2) ∧ (O.length + L2.length ≤ L.length) ∧ (e ≤ e2) ∧ St W w (Row 26 6 (.slice q O.length d) O.length (O.flatMap itCell) :: itsA O :: GrA g e2 L2 :: (F.set i emp))) (fun (b, n, O, e2, L2, q, d) => n) (true, (L.length + 1), [], e, L, none, 0) ?_ ?_ ?_
    ·exact t1
    ·exact ⟨(goS_start he), t13, (Int.le_refl _), H97⟩
    rintro ⟨b, n, O, e2, L2, q, d⟩ ρ98 w99 ⟨hG, hsum, he9, H100⟩ nx101
    change Ends _ _ (upds ρ98 [(0, .pointer (pa g)), (4, .slice none 0 0), (5, .int .i64 0), (7, .slice q O.length d), (8, .bool b)]) w99
    refine g_seq (g_seq (g_region (Mv (.bool b) (r_nil ?_))))
    by_cases hb102 : (b) = true
    ·refine g_true (congrArg Value.bool hb102) (g_skip (g_block (g_seq (g_region ?_))))
     have hG1 := hG
     rw [hb102] at hG1
     obtain ⟨hn1, hn2⟩ := goS_n hG1
     have hts := tr_sum (ep := epD) (kd := kdD) (e := e2 + 1) (L := L2)
     refine Mv (.pointer (pa g)) (Nc (.pointer (pa g)) (Fa 0 fi_44_0 rfl ?_))
     have H103 := H100.move 2 rfl
     obtain ⟨⟨pp104, cc105⟩, H106⟩ := St.open_ex H103
     have H107 := St.open_star H106
     have H108 : St W w99 (_ :: _ :: _ :: _ :: _ :: (F.set i emp)) := H107
     refine Lo (.int .i64 e2) ag_2 H108 0 (rc (s_add (e2 + 1) rfl rfl (wi64 t0) rfl (Nc (.pointer (pa g)) (Fa 0 fi_44_0 rfl (rc (s_store H108 0 (.int .i64 (e2 + 1)) rfl rfl rfl sz_2 rfl (nbl rfl) rfl (cs' := #[.int .i64 (e2 + 1), .slice pp104 L2.length cc105]) rfl (fun w109 H110 => r_nil (g_seq (g_region (Ag (.slice none 0 0) (r_nil (g_seq (g_region (Mv (.pointer (pa g)) (Mv (.pointer (pa g)) (Mv (.pointer (pa g)) (Nc (.pointer (pa g)) (Fa 0 fi_44_0 rfl (Lo (.int .i64 (e2 + 1)) ag_2 H110 0 ?_)))))))))))))))))))
     have H111 : St W w109 (GrA g (e2 + 1) L2 :: _ :: _ :: (F.set i emp)) := St.shut_ex (pp104, cc105) (St.shut_star (ls := [_, _, _]) H110)
     refine rc (s_call [.pointer (pa g), .int .i64 (e2 + 1)] pl_57 rfl rfl (Ref_of g (e2 + 1) (e2 + 1) L2 t0 (i := 0) rfl H111) ?_)
     rintro _ w116 ⟨pp112, cc113, pp114, cc115, rfl, H117⟩
     refine Mv (.tuple #[.slice pp112 ((trO epD kdD (e2 + 1) L2).length) cc113, .bool (trE epD kdD (e2 + 1) L2), .slice pp114 ((trR epD (e2 + 1) L2).length) cc115]) (Ex (.slice pp112 ((trO epD kdD (e2 + 1) L2).length) cc113) (Ex (.bool (trE epD kdD (e2 + 1) L2)) (Ex (.slice pp114 ((trR epD (e2 + 1) L2).length) cc115) (Ag (.slice pp112 ((trO epD kdD (e2 + 1) L2).length) cc113) (Ag (.bool (trE epD kdD (e2 + 1) L2)) (Nc (.pointer (pa g)) (Fa 1 fi_44_1 rfl ?_)))))))
     have H118 := H117.move 4 rfl
     obtain ⟨⟨pp119, cc120⟩, H121⟩ := St.open_ex H118
     have H122 := St.open_star H121
     have H123 : St W w116 (_ :: _ :: _ :: _ :: _ :: _ :: _ :: _ :: _ :: (F.set i emp)) := H122
     refine rc (s_store H123 0 (.slice pp114 ((trR epD (e2 + 1) L2).length) cc115) rfl rfl rfl sz_38 rfl (nbl rfl) rfl (cs' := #[.int .i64 (e2 + 1), .slice pp114 ((trR epD (e2 + 1) L2).length) cc115]) rfl (fun w124 H125 => r_nil (g_region (Mv (.slice q O.length d) (Mv (.slice pp112 ((trO epD kdD (e2 + 1) L2).length) cc113) (rc (s_append H125 7 rfl rfl rfl (Row.rd H125 (i := 3) rfl) ap_38 t9 t12 t0 (n' := O.length + (trO epD kdD (e2 + 1) L2).length) (xs' := O.flatMap itCell ++ (trO epD kdD (e2 + 1) L2).flatMap itCell) t0 t16 rfl ?_))))))); intro vv126 w127 H128 hn129
     obtain ⟨pp130, cc131, rfl⟩ := Row.slice H128 (i := 7) rfl
     refine Ag (.slice pp130 (O.length + (trO epD kdD (e2 + 1) L2).length) cc131) (r_nil (g_inBlock ?_))
     have H132 : St W w127 (_ :: _ :: _ :: _ :: _ :: _ :: _ :: _ :: _ :: (F.set i emp)) := (H128.mv [6, 6, 2])
     have H133 : St W w127 (GrA g (e2 + 1) (trR epD (e2 + 1) L2) :: _ :: _ :: _ :: _ :: _ :: _ :: (F.set i emp)) := St.shut_ex (pp114, cc115) (St.shut_star (ls := [_, _, _]) H132)
     have H134 : St W w127 (GrA g (e2 + 1) (trR epD (e2 + 1) L2) :: Im 6 (.slice pp119 L2.length cc120) L2.length (L2.flatMap itCell) :: itsA L2 :: Row 26 6 (.slice pp112 ((trO epD kdD (e2 + 1) L2).length) cc113) ((trO epD kdD (e2 + 1) L2).length) ((trO epD kdD (e2 + 1) L2).flatMap itCell) :: itsA (trO epD kdD (e2 + 1) L2) :: Row 26 6 (.slice pp130 ((O ++ trO epD kdD (e2 + 1) L2).length) cc131) ((O ++ trO epD kdD (e2 + 1) L2).length) ((O ++ trO epD kdD (e2 + 1) L2).flatMap itCell) :: itsA O :: (F.set i emp)) := by rw [List.flatMap_append, List.length_append]; exact H133
     have H135 : St W w127 (_ :: _ :: _ :: _ :: _ :: _ :: _ :: (F.set i emp)) := (H134.mv [6, 5])
     have H136 : St W w127 (itsA (O ++ trO epD kdD (e2 + 1) L2) :: _ :: _ :: _ :: _ :: _ :: (F.set i emp)) := itsA_app H135
     have H137 : St W w127 (_ :: _ :: _ :: (F.set i emp)) := (H136.mv [1, 1, 5, 103, 103, 103])
     exact nx101 ((trE epD kdD (e2 + 1) L2), n - 1, (O ++ trO epD kdD (e2 + 1) L2), (e2 + 1), (trR epD (e2 + 1) L2), pp130, cc131) _ _ ⟨(goS_step hG1), t47, t0, H137⟩ t7 ⟨by first | rfl | exact vint t0, by first | rfl | exact vint t0, by first | rfl | exact vint t0, by first | rfl | (rw [List.length_append]; rfl), by first | rfl | exact vint t0, trivial⟩
    have hb102 := eq_false_of_ne_true hb102
    refine g_false (congrArg Value.bool hb102) (g_exit t39 (g_seq (g_region (Mv (.slice q O.length d) (Ag (.slice q O.length d) (Ag (.int .i64 0) (r_nil (Gr [.slice q O.length d, .int .i64 0] Tryz.func17 Tryz.results17 ?_))))))))
    have hE : gkE e L.length x = 0 := gkE_ok t11 t0 t0
    have hGd : goG epD kdD (L.length + 1) e L = (O, e2, L2) := goS_done (by have h9 := hG; rw [hb102] at h9; exact h9)
    have H138 : St W w99 (_ :: _ :: _ :: (F.set i emp)) := (H100.mv [2, 2, 2])
    have H139 : St W w99 (_ :: (Row 26 6 (.slice q O.length d) O.length (O.flatMap itCell) :: itsA O :: F).set (i + 2) emp) := (H138.move 2 rfl)
    exact ⟨O, L2, e2, _, _, by rw [hE]; rfl, gk_end hE t0 t0 hGd, St.back (i := i + 2) t34 H139⟩
   refine rc (s_neq true rfl rfl (nfalse hc92) rfl (Ag (.bool true) (r_nil (g_true rfl (g_seq (g_region (La (itl x) 6 ag_26 H91 0 (rc (s_call [.agg (itc x)] pl_56 rfl rfl (ref24_Clone x hok (ip := 5) rfl (iq := 4) rfl H91) ?_)))))))))
   rintro _ w142 ⟨it140, rfl, hy141, H143⟩
   refine rc (s_buildSlice H143 6 1 (cs := (itc it140)) #[.int .i64 0, .int .i64 0, .int .i64 0, .int .i64 0, .slice none 0 0, .int .i64 0] el_38 ze_26 t9 t9 t5 rfl (fun bk144 w145 H146 => Ag (.slice (pa bk144) 1 1) (Ag (.int .i64 0) (r_nil (Gr [.slice (pa bk144) 1 1, .int .i64 0] Tryz.func17 Tryz.results17 ?_)))))
   have hE : gkE e L.length x = 0 := gkE_ok t11 t0 t0
   have H147 : St W w145 (_ :: _ :: _ :: _ :: _ :: _ :: _ :: _ :: _ :: (F.set i emp)) := (H146.mv [6, 6, 6])
   have H148 : St W w145 (GrA g e L :: _ :: _ :: _ :: _ :: _ :: _ :: (F.set i emp)) := St.shut_ex (pp3, cc4) (St.shut_star (ls := [_, _, _]) H147)
   have H149 : St W w145 (GrA g e L :: _ :: _ :: _ :: _ :: _ :: _ :: (F.set i emp)) := Row.of_blk (n := 1) (size := 6) H148 (i := 1) rfl t12 rfl t15
   have H150 := itsA_nil H149
   have H151 : St W w145 (_ :: _ :: _ :: _ :: _ :: _ :: _ :: _ :: (F.set i emp)) := (H150.mv [4, 4])
   have H152 : St W w145 (itsA [it140] :: _ :: _ :: _ :: _ :: _ :: (F.set i emp)) := itsA_snoc (L := []) (x := it140) H151
   have H153 : St W w145 (_ :: _ :: _ :: (F.set i emp)) := (H152.mv [1, 1, 2, 103, 103, 103])
   have H154 : St W w145 (_ :: (Row 26 6 (.slice (pa bk144) ([it140].length) 1) ([it140].length) ([it140].flatMap itCell) :: itsA [it140] :: F).set (i + 2) emp) := (H153.move 2 rfl)
   exact ⟨[it140], L, e, _, _, by rw [hE]; rfl, gk_now hE t0 t0 hy141, St.back (i := i + 2) t34 H154⟩
  refine Qv (fun w hw => x_gtr false rfl rfl (dfalse hc25) w) (Qm (.bool false) (Qp (Qp (Qp (Qp (Qp (Qp (Qv (fun w hw => x_pick_f (.bool false) rfl rfl w) (Qv (fun w hw => x_assign (.bool false) rfl w) (q_nil ?_))))))))))
  intro w155 H156
  refine g_false rfl (g_seq ?_)
  refine g_quiet (fun w' => St W w' (blk bk8 (.cells (itc x) 26 (0, 0)) :: blk g (.cells #[.int .i64 e, .slice pp3 L.length cc4] 44 (0, 0)) :: Im 6 (.slice pp3 L.length cc4) L.length (L.flatMap itCell) :: itsA L :: bndsA x.bs :: Im 6 (.slice x.p x.bs.length x.c) x.bs.length (x.bs.flatMap bndCell) :: (F.set i emp))) mixed t5 H156.drew ?_
  refine Qf 2 fi_26_2 rfl (Qv (fun w hw => x_load (.int .i64 x.ep.v) ag_2 rfl (hw.blk_at (i := 0) rfl) rfl) (Qm (.pointer (pa g)) (Qv (fun w hw => x_nilCheck (.pointer (pa g)) rfl ⟨_, rfl⟩ w) (Qf 0 fi_44_0 rfl (Qv (fun w hw => x_load (.int .i64 e) ag_2 rfl (hw.blk_at (i := 1) rfl) rfl) ?_)))))
  by_cases hc157 : e < x.ep.v
  ·refine Qv (fun w hw => x_gtr true rfl rfl (dtrue hc157) w) (Qv (fun w hw => x_assign (.bool true) rfl w) (q_nil ?_))
   intro w158 H159
   refine g_true rfl (g_seq ?_)
   have H160 : St W w158 (_ :: _ :: _ :: _ :: _ :: _ :: (F.set i emp)) := (H159.mv [1, 5, 5, 5, 5, 5])
   refine g_mix (fun t_ w => St W w (blk bk8 (.cells (itc x) 26 (0, 0)) :: Im 6 (.slice pp3 L.length cc4) L.length (L.flatMap itCell) :: itsA L :: bndsA x.bs :: Im 6 (.slice x.p x.bs.length x.c) x.bs.length (x.bs.flatMap bndCell) :: t_)) (blk g (.cells #[.int .i64 e, .slice pp3 L.length cc4] 44 (0, 0)) :: (F.set i emp)) mixed 13 rfl H160.drew ?_
   refine Fv 0 rfl (fun _ w _ => x_move (.pointer (pa g)) rfl w) (Fv 1 rfl (fun _ w _ => x_move (.pointer (pa g)) rfl w) (Fv 2 rfl (fun t_ w hw => x_nilCheck (.pointer (pa g)) rfl ⟨_, rfl⟩ w) (Fv 3 rfl (fun t_ w hw => x_fieldAddr 44 1 1 1 38 rfl fi_44_1 rfl w) (Fv 6 rfl (fun t_ w hw => x_loadAgg (itl x) 6 ag_26 rfl (hw.blk_at (i := 0) rfl) (nbl rfl) rfl) ?_))))
   refine f_all (rs := [4]) t5 t13 ?_
   refine a_cons ⟨_, rfl, ?_⟩ (fun x hx => absurd hx t13)
   intro w161 H162
   try dsimp only at H162
   refine s_load (.slice pp3 L.length cc4) ag_38 rfl (H162.blk_at (i := 5) rfl) rfl rfl ?_
   refine ⟨blk g (.cells #[.int .i64 e, .slice pp3 L.length cc4] 44 (0, 0)) :: (F.set i emp), ?_, H162⟩
   change FReg _ _ _ _ _ #[true, true, true, true, true, false, true, false, false, false, false, false, false] _ _
   refine f_all (rs := [5]) t5 t13 ?_
   refine a_cons ⟨_, rfl, ?_⟩ (fun x hx => absurd hx t13)
   intro w163 H164
   try dsimp only at H164
   have H165 := Row.nil_intro H164 26 6
   refine s_append H165 0 rfl rfl rfl (Im.rd H165 (i := 2) rfl) ap_38 t9 t12 t0 (n' := L.length) (xs' := L.flatMap itCell) t0 t16 rfl ?_; intro vv166 w167 H168 hn169
   obtain ⟨pp170, cc171, rfl⟩ := Row.slice H168 (i := 0) rfl
   have H172 : St W w167 (_ :: _ :: _ :: _ :: _ :: _ :: _ :: (F.set i emp)) := (H168.mv [6, 1, 6, 6, 6, 6, 6])
   refine ⟨Row 26 6 (.slice pp170 L.length cc171) L.length (L.flatMap itCell) :: blk g (.cells #[.int .i64 e, .slice pp3 L.length cc4] 44 (0, 0)) :: (F.set i emp), ?_, H172⟩
   change FReg _ _ _ _ _ #[true, true, true, true, true, true, true, false, false, false, false, false, false] _ _
   refine f_all (rs := [7]) t5 t13 ?_
   refine a_cons ⟨_, rfl, ?_⟩ (fun x hx => absurd hx t13)
   intro w173 H174
   try dsimp only at H174
   refine s_call [.agg (itc x)] pl_56 rfl rfl (ref24_Clone x hok (ip := 4) rfl (iq := 3) rfl H174) ?_
   rintro _ w177 ⟨it175, rfl, hy176, H178⟩
   have H179 : St W w177 (_ :: _ :: _ :: _ :: _ :: _ :: _ :: _ :: _ :: (F.set i emp)) := (H178.mv [8, 8, 3, 3, 8, 8, 8, 8, 8])
   refine ⟨Im 6 (.slice it175.p it175.bs.length it175.c) it175.bs.length (it175.bs.flatMap bndCell) :: bndsA it175.bs :: Row 26 6 (.slice pp170 L.length cc171) L.length (L.flatMap itCell) :: blk g (.cells #[.int .i64 e, .slice pp3 L.length cc4] 44 (0, 0)) :: (F.set i emp), ?_, H179⟩
   change FReg _ _ _ _ _ #[true, true, true, true, true, true, true, true, false, false, false, false, false] _ _
   refine f_all (rs := [8]) t5 t13 ?_
   refine a_cons ⟨_, rfl, ?_⟩ (fun x hx => absurd hx t13)
   intro w180 H181
   try dsimp only at H181
   refine s_buildSlice H181 6 1 (cs := (itc it175)) #[.int .i64 0, .int .i64 0, .int .i64 0, .int .i64 0, .slice none 0 0, .int .i64 0] el_38 ze_26 t9 t9 t5 rfl ?_; intro bk182 w183 H184
   have H185 : St W w183 (_ :: _ :: _ :: _ :: _ :: _ :: _ :: _ :: _ :: _ :: (F.set i emp)) := (H184.mv [9, 9, 9, 9, 4, 9, 9, 9, 9, 9])
   refine ⟨blk bk182 (.cells (itc it175) 26 (0, 0)) :: Im 6 (.slice it175.p it175.bs.length it175.c) it175.bs.length (it175.bs.flatMap bndCell) :: bndsA it175.bs :: Row 26 6 (.slice pp170 L.length cc171) L.length (L.flatMap itCell) :: blk g (.cells #[.int .i64 e, .slice pp3 L.length cc4] 44 (0, 0)) :: (F.set i emp), ?_, H185⟩
   change FReg _ _ _ _ _ #[true, true, true, true, true, true, true, true, true, false, false, false, false] _ _
   refine f_all (rs := [9]) t5 t13 ?_
   refine a_cons ⟨_, rfl, ?_⟩ (fun x hx => absurd hx t13)
   intro w186 H187
   try dsimp only at H187
   refine s_append H187 8 rfl rfl rfl (rd_blk (H187.blk_at (i := 5) rfl) rfl (nbl rfl) t15) ap_38 t9 t12 t0 (n' := L.length + 1) (xs' := L.flatMap itCell ++ ((itl it175) : List Value)) t0 t16 rfl ?_; intro vv188 w189 H190 hn191
   obtain ⟨pp192, cc193, rfl⟩ := Row.slice H190 (i := 8) rfl
   refine ⟨blk bk182 (.cells (itc it175) 26 (0, 0)) :: Im 6 (.slice it175.p it175.bs.length it175.c) it175.bs.length (it175.bs.flatMap bndCell) :: bndsA it175.bs :: Row 26 6 (.slice pp192 (L.length + 1) cc193) (L.length + 1) (L.flatMap itCell ++ ((itl it175) : List Value)) :: blk g (.cells #[.int .i64 e, .slice pp3 L.length cc4] 44 (0, 0)) :: (F.set i emp), ?_, H190⟩
   change FReg _ _ _ _ _ #[true, true, true, true, true, true, true, true, true, true, false, false, false] _ _
   refine Fv 10 rfl (fun t_ w hw => x_nilCheck (.pointer (pa g)) rfl ⟨_, rfl⟩ w) (Fv 11 rfl (fun t_ w hw => x_fieldAddr 44 1 1 1 38 rfl fi_44_1 rfl w) ?_)
   refine f_all (rs := [12]) t5 t13 ?_
   refine a_cons ⟨_, rfl, ?_⟩ (fun x hx => absurd hx t13)
   intro w194 H195
   try dsimp only at H195
   refine s_store H195 9 (.slice pp192 (L.length + 1) cc193) rfl rfl rfl sz_38 rfl (nbl rfl) rfl (cs' := #[.int .i64 e, .slice pp192 (L.length + 1) cc193]) rfl ?_; intro w196 H197
   refine ⟨blk bk182 (.cells (itc it175) 26 (0, 0)) :: Im 6 (.slice it175.p it175.bs.length it175.c) it175.bs.length (it175.bs.flatMap bndCell) :: bndsA it175.bs :: Row 26 6 (.slice pp192 (L.length + 1) cc193) (L.length + 1) (L.flatMap itCell ++ ((itl it175) : List Value)) :: blk g (.cells #[.int .i64 e, .slice pp192 (L.length + 1) cc193] 44 (0, 0)) :: (F.set i emp), ?_, H197⟩
   change FReg _ _ _ _ _ #[true, true, true, true, true, true, true, true, true, true, true, true, true] _ _
   refine f_done t5 ?_
   intro w198 H199
   refine g_seq (g_region (Ag (.slice none 0 0) (Ag (.int .i64 0) (r_nil (Gr [.slice none 0 0, .int .i64 0] Tryz.func17 Tryz.results17 ?_)))))
   have hE : gkE e L.length x = 0 := gkE_ok t11 t0 t0
   have H200 : St W w198 (blk bk8 (.cells #[.int .i64 x.op.v, .int .i64 x.inp.v, .int .i64 x.ep.v, .int .i64 x.kind.v, .slice x.p x.bs.length x.c, .int .i64 x.t.v] 26 (0, 0)) :: Im 6 (.slice pp3 L.length cc4) L.length (L.flatMap itCell) :: itsA L :: bndsA x.bs :: Im 6 (.slice x.p x.bs.length x.c) x.bs.length (x.bs.flatMap bndCell) :: blk bk182 (.cells #[.int .i64 it175.op.v, .int .i64 it175.inp.v, .int .i64 it175.ep.v, .int .i64 it175.kind.v, .slice it175.p it175.bs.length it175.c, .int .i64 it175.t.v] 26 (0, 0)) :: Im 6 (.slice it175.p it175.bs.length it175.c) it175.bs.length (it175.bs.flatMap bndCell) :: bndsA it175.bs :: Row 26 6 (.slice pp192 ((L ++ [it175]).length) cc193) ((L ++ [it175]).length) ((L ++ [it175]).flatMap itCell) :: blk g (.cells #[.int .i64 e, .slice pp192 ((L ++ [it175]).length) cc193] 44 (0, 0)) :: (F.set i emp)) := by rw [List.flatMap_append, List.length_append]; exact H199
   have H201 : St W w198 (_ :: _ :: _ :: _ :: _ :: _ :: _ :: _ :: _ :: _ :: (F.set i emp)) := Row.im H200 (i := 8) rfl
   have H202 : St W w198 (_ :: _ :: _ :: _ :: _ :: _ :: _ :: _ :: _ :: _ :: (F.set i emp)) := (H201.mv [2, 7, 7])
   have H203 : St W w198 (itsA (L ++ [it175]) :: _ :: _ :: _ :: _ :: _ :: _ :: _ :: (F.set i emp)) := itsA_snoc (x := it175) H202
   have H204 : St W w198 (_ :: _ :: _ :: _ :: _ :: _ :: _ :: _ :: (F.set i emp)) := (H203.mv [6, 7])
   have H205 : St W w198 (GrA g e (L ++ [it175]) :: _ :: _ :: _ :: _ :: _ :: (F.set i emp)) := St.shut_ex (pp192, cc193) (St.shut_star (ls := [_, _, _]) H204)
   have H206 := Row.nil_intro H205 26 6
   have H207 := itsA_nil H206
   have H208 : St W w198 (_ :: _ :: _ :: (F.set i emp)) := (H207.mv [2, 1, 2, 103, 103, 103, 103, 103])
   have H209 : St W w198 (_ :: (Row 26 6 (.slice none 0 0) 0 [] :: itsA ([] : List ItemD) :: F).set (i + 2) emp) := (H208.move 2 rfl)
   exact ⟨[], (L ++ [it175]), e, none, 0, by rw [hE]; rfl, gk_wait hE t0 hy176, St.back (i := i + 2) t34 H209⟩
  refine Qv (fun w hw => x_gtr false rfl rfl (dfalse hc157) w) (Qv (fun w hw => x_assign (.bool false) rfl w) (q_nil ?_))
  intro w210 H211
  refine g_false rfl (g_seq (g_region (Fa 3 fi_26_3 rfl (Lo (.int .i64 x.kind.v) ag_3 H211 0 ?_))))
  by_cases hc212 : x.kind.v = 3
  ·refine rc (s_neq false rfl rfl (ntrue hc212) rfl (Ag (.bool false) (r_nil (g_false rfl (g_skip (g_inBlock (g_seq (g_region (Ag (.slice none 0 0) (r_nil (g_seq (g_seq (g_region (Ag (.bool true) (r_nil (g_block ?_))))))))))))))))
   have H213 : St W w210 (_ :: _ :: _ :: _ :: _ :: _ :: (F.set i emp)) := (H211.mv [3, 3, 3])
   have H214 : St W w210 (GrA g e L :: _ :: _ :: _ :: (F.set i emp)) := St.shut_ex (pp3, cc4) (St.shut_star (ls := [_, _, _]) H213)
   have H215 := Row.nil_intro H214 26 6
   have H216 := itsA_nil H215
   have H217 : St W w210 (_ :: _ :: _ :: (F.set i emp)) := (H216.mv [2, 1, 2, 103, 103, 103])
   refine g_loop_inv (fun ((b, n, O, e2, L2, q, d) : Bool × Nat × (List ItemD) × Int × (List ItemD) × (Option Addr) × Nat) => [(0, .pointer (pa g)), (4, .slice none 0 0), (5, .int .i64 0), (7, .slice q O.length d), (8, .bool b)]) (fun (b, n, O, e2, L2, q, d) w => (goS epD kdD (goG epD kdD (L.length + 1) e L) b n O e2 L2) ∧ (O.length + L2.length ≤ L.length) ∧ (e ≤ e2) ∧ St W w (Row 26 6 (.slice q O.length d) O.length (O.flatMap itCell) :: itsA O :: GrA g e2 L2 :: (F.set i emp))) (fun (b, n, O, e2, L2, q, d) => n) (true, (L.length + 1), [], e, L, none, 0) ?_ ?_ ?_
   ·exact t1
   ·exact ⟨(goS_start he), t13, (Int.le_refl _), H217⟩
   rintro ⟨b, n, O, e2, L2, q, d⟩ ρ218 w219 ⟨hG, hsum, he9, H220⟩ nx221
   change Ends _ _ (upds ρ218 [(0, .pointer (pa g)), (4, .slice none 0 0), (5, .int .i64 0), (7, .slice q O.length d), (8, .bool b)]) w219
   refine g_seq (g_seq (g_region (Mv (.bool b) (r_nil ?_))))
   by_cases hb222 : (b) = true
   ·refine g_true (congrArg Value.bool hb222) (g_skip (g_block (g_seq (g_region ?_))))
    have hG1 := hG
    rw [hb222] at hG1
    obtain ⟨hn1, hn2⟩ := goS_n hG1
    have hts := tr_sum (ep := epD) (kd := kdD) (e := e2 + 1) (L := L2)
    refine Mv (.pointer (pa g)) (Nc (.pointer (pa g)) (Fa 0 fi_44_0 rfl ?_))
    have H223 := H220.move 2 rfl
    obtain ⟨⟨pp224, cc225⟩, H226⟩ := St.open_ex H223
    have H227 := St.open_star H226
    have H228 : St W w219 (_ :: _ :: _ :: _ :: _ :: (F.set i emp)) := H227
    refine Lo (.int .i64 e2) ag_2 H228 0 (rc (s_add (e2 + 1) rfl rfl (wi64 t0) rfl (Nc (.pointer (pa g)) (Fa 0 fi_44_0 rfl (rc (s_store H228 0 (.int .i64 (e2 + 1)) rfl rfl rfl sz_2 rfl (nbl rfl) rfl (cs' := #[.int .i64 (e2 + 1), .slice pp224 L2.length cc225]) rfl (fun w229 H230 => r_nil (g_seq (g_region (Ag (.slice none 0 0) (r_nil (g_seq (g_region (Mv (.pointer (pa g)) (Mv (.pointer (pa g)) (Mv (.pointer (pa g)) (Nc (.pointer (pa g)) (Fa 0 fi_44_0 rfl (Lo (.int .i64 (e2 + 1)) ag_2 H230 0 ?_)))))))))))))))))))
    have H231 : St W w229 (GrA g (e2 + 1) L2 :: _ :: _ :: (F.set i emp)) := St.shut_ex (pp224, cc225) (St.shut_star (ls := [_, _, _]) H230)
    refine rc (s_call [.pointer (pa g), .int .i64 (e2 + 1)] pl_57 rfl rfl (Ref_of g (e2 + 1) (e2 + 1) L2 t0 (i := 0) rfl H231) ?_)
    rintro _ w236 ⟨pp232, cc233, pp234, cc235, rfl, H237⟩
    refine Mv (.tuple #[.slice pp232 ((trO epD kdD (e2 + 1) L2).length) cc233, .bool (trE epD kdD (e2 + 1) L2), .slice pp234 ((trR epD (e2 + 1) L2).length) cc235]) (Ex (.slice pp232 ((trO epD kdD (e2 + 1) L2).length) cc233) (Ex (.bool (trE epD kdD (e2 + 1) L2)) (Ex (.slice pp234 ((trR epD (e2 + 1) L2).length) cc235) (Ag (.slice pp232 ((trO epD kdD (e2 + 1) L2).length) cc233) (Ag (.bool (trE epD kdD (e2 + 1) L2)) (Nc (.pointer (pa g)) (Fa 1 fi_44_1 rfl ?_)))))))
    have H238 := H237.move 4 rfl
    obtain ⟨⟨pp239, cc240⟩, H241⟩ := St.open_ex H238
    have H242 := St.open_star H241
    have H243 : St W w236 (_ :: _ :: _ :: _ :: _ :: _ :: _ :: _ :: _ :: (F.set i emp)) := H242
    refine rc (s_store H243 0 (.slice pp234 ((trR epD (e2 + 1) L2).length) cc235) rfl rfl rfl sz_38 rfl (nbl rfl) rfl (cs' := #[.int .i64 (e2 + 1), .slice pp234 ((trR epD (e2 + 1) L2).length) cc235]) rfl (fun w244 H245 => r_nil (g_region (Mv (.slice q O.length d) (Mv (.slice pp232 ((trO epD kdD (e2 + 1) L2).length) cc233) (rc (s_append H245 7 rfl rfl rfl (Row.rd H245 (i := 3) rfl) ap_38 t9 t12 t0 (n' := O.length + (trO epD kdD (e2 + 1) L2).length) (xs' := O.flatMap itCell ++ (trO epD kdD (e2 + 1) L2).flatMap itCell) t0 t16 rfl ?_))))))); intro vv246 w247 H248 hn249
    obtain ⟨pp250, cc251, rfl⟩ := Row.slice H248 (i := 7) rfl
    refine Ag (.slice pp250 (O.length + (trO epD kdD (e2 + 1) L2).length) cc251) (r_nil (g_inBlock ?_))
    have H252 : St W w247 (_ :: _ :: _ :: _ :: _ :: _ :: _ :: _ :: _ :: (F.set i emp)) := (H248.mv [6, 6, 2])
    have H253 : St W w247 (GrA g (e2 + 1) (trR epD (e2 + 1) L2) :: _ :: _ :: _ :: _ :: _ :: _ :: (F.set i emp)) := St.shut_ex (pp234, cc235) (St.shut_star (ls := [_, _, _]) H252)
    have H254 : St W w247 (GrA g (e2 + 1) (trR epD (e2 + 1) L2) :: Im 6 (.slice pp239 L2.length cc240) L2.length (L2.flatMap itCell) :: itsA L2 :: Row 26 6 (.slice pp232 ((trO epD kdD (e2 + 1) L2).length) cc233) ((trO epD kdD (e2 + 1) L2).length) ((trO epD kdD (e2 + 1) L2).flatMap itCell) :: itsA (trO epD kdD (e2 + 1) L2) :: Row 26 6 (.slice pp250 ((O ++ trO epD kdD (e2 + 1) L2).length) cc251) ((O ++ trO epD kdD (e2 + 1) L2).length) ((O ++ trO epD kdD (e2 + 1) L2).flatMap itCell) :: itsA O :: (F.set i emp)) := by rw [List.flatMap_append, List.length_append]; exact H253
    have H255 : St W w247 (_ :: _ :: _ :: _ :: _ :: _ :: _ :: (F.set i emp)) := (H254.mv [6, 5])
    have H256 : St W w247 (itsA (O ++ trO epD kdD (e2 + 1) L2) :: _ :: _ :: _ :: _ :: _ :: (F.set i emp)) := itsA_app H255
    have H257 : St W w247 (_ :: _ :: _ :: (F.set i emp)) := (H256.mv [1, 1, 5, 103, 103, 103])
    exact nx221 ((trE epD kdD (e2 + 1) L2), n - 1, (O ++ trO epD kdD (e2 + 1) L2), (e2 + 1), (trR epD (e2 + 1) L2), pp250, cc251) _ _ ⟨(goS_step hG1), t47, t0, H257⟩ t7 ⟨by first | rfl | exact vint t0, by first | rfl | exact vint t0, by first | rfl | exact vint t0, by first | rfl | (rw [List.length_append]; rfl), by first | rfl | exact vint t0, trivial⟩
   have hb222 := eq_false_of_ne_true hb222
   refine g_false (congrArg Value.bool hb222) (g_exit t39 (g_seq (g_region (Mv (.slice q O.length d) (Ag (.slice q O.length d) (Ag (.int .i64 0) (r_nil (Gr [.slice q O.length d, .int .i64 0] Tryz.func17 Tryz.results17 ?_))))))))
   have hE : gkE e L.length x = 0 := gkE_ok t11 t0 t0
   have hGd : goG epD kdD (L.length + 1) e L = (O, e2, L2) := goS_done (by have h9 := hG; rw [hb222] at h9; exact h9)
   have H258 : St W w219 (_ :: _ :: _ :: (F.set i emp)) := (H220.mv [2, 2, 2])
   have H259 : St W w219 (_ :: (Row 26 6 (.slice q O.length d) O.length (O.flatMap itCell) :: itsA O :: F).set (i + 2) emp) := (H258.move 2 rfl)
   exact ⟨O, L2, e2, _, _, by rw [hE]; rfl, gk_end hE t0 t0 hGd, St.back (i := i + 2) t34 H259⟩
  refine rc (s_neq true rfl rfl (nfalse hc212) rfl (Ag (.bool true) (r_nil (g_true rfl (g_seq (g_region (La (itl x) 6 ag_26 H211 0 (rc (s_call [.agg (itc x)] pl_56 rfl rfl (ref24_Clone x hok (ip := 5) rfl (iq := 4) rfl H211) ?_)))))))))
  rintro _ w262 ⟨it260, rfl, hy261, H263⟩
  refine rc (s_buildSlice H263 6 1 (cs := (itc it260)) #[.int .i64 0, .int .i64 0, .int .i64 0, .int .i64 0, .slice none 0 0, .int .i64 0] el_38 ze_26 t9 t9 t5 rfl (fun bk264 w265 H266 => Ag (.slice (pa bk264) 1 1) (Ag (.int .i64 0) (r_nil (Gr [.slice (pa bk264) 1 1, .int .i64 0] Tryz.func17 Tryz.results17 ?_)))))
  have hE : gkE e L.length x = 0 := gkE_ok t11 t0 t0
  have H267 : St W w265 (_ :: _ :: _ :: _ :: _ :: _ :: _ :: _ :: _ :: (F.set i emp)) := (H266.mv [6, 6, 6])
  have H268 : St W w265 (GrA g e L :: _ :: _ :: _ :: _ :: _ :: _ :: (F.set i emp)) := St.shut_ex (pp3, cc4) (St.shut_star (ls := [_, _, _]) H267)
  have H269 : St W w265 (GrA g e L :: _ :: _ :: _ :: _ :: _ :: _ :: (F.set i emp)) := Row.of_blk (n := 1) (size := 6) H268 (i := 1) rfl t12 rfl t15
  have H270 := itsA_nil H269
  have H271 : St W w265 (_ :: _ :: _ :: _ :: _ :: _ :: _ :: _ :: (F.set i emp)) := (H270.mv [4, 4])
  have H272 : St W w265 (itsA [it260] :: _ :: _ :: _ :: _ :: _ :: (F.set i emp)) := itsA_snoc (L := []) (x := it260) H271
  have H273 : St W w265 (_ :: _ :: _ :: (F.set i emp)) := (H272.mv [1, 1, 2, 103, 103, 103])
  have H274 : St W w265 (_ :: (Row 26 6 (.slice (pa bk264) ([it260].length) 1) ([it260].length) ([it260].flatMap itCell) :: itsA [it260] :: F).set (i + 2) emp) := (H273.move 2 rfl)
  exact ⟨[it260], L, e, _, _, by rw [hE]; rfl, gk_now hE t0 t0 hy261, St.back (i := i + 2) t34 H274⟩
 refine rc (s_neq true rfl rfl (nfalse hc13) rfl (r_nil (g_true rfl (g_seq (g_region (Mv (.int .i64 (itE x)) (Ag (.slice none 0 0) (Ag (.int .i64 (itE x)) (r_nil (Gr [.slice none 0 0, .int .i64 (itE x)] Tryz.func17 Tryz.results17 ?_))))))))))
 have H275 : St W w11 (_ :: _ :: _ :: _ :: _ :: _ :: (F.set i emp)) := (H12.mv [3, 3, 3])
 have H276 : St W w11 (GrA g e L :: _ :: _ :: _ :: (F.set i emp)) := St.shut_ex (pp3, cc4) (St.shut_star (ls := [_, _, _]) H275)
 have hE : gkE e L.length x = itE x := by first | exact gkE_it t11 | exact gkE_old t11 t0 | exact gkE_full t11 t0 t0
 have hE0 : ¬ gkE e L.length x = 0 := by rw [hE]; first | assumption | decide
 have H277 := Row.nil_intro H276 26 6
 have H278 := itsA_nil H277
 have H279 : St W w11 (_ :: _ :: _ :: (F.set i emp)) := (H278.mv [2, 1, 2, 103, 103, 103])
 have H280 : St W w11 (_ :: (Row 26 6 (.slice none 0 0) 0 [] :: itsA ([] : List ItemD) :: F).set (i + 2) emp) := (H279.move 2 rfl)
 exact ⟨[], L, e, none, 0, by rw [hE]; rfl, gk_no hE0, St.back (i := i + 2) t34 H280⟩
theorem clone_items (A : Atom) (v0 : Value) (n : Nat) (xs : List Value) (hA : RdA A 6 v0 n xs) (hn : n ≤ 1099511627776) {j : Nat} (hj : F[j]? = some A) (H : St W w F) : Calls Tryz.prog 63 #[v0] w (Ret fun v w' => ∃ p c, v = .slice p n c ∧ St W w' (Row 26 6 (.slice p n c) n xs :: F)) := by
 have hml := (hA _ _ _ j H hj).2
 obtain ⟨pp1, cc2, rfl, hn3⟩ := Rd.shape (hA _ _ _ j H hj).1
 refine calls_of_go (n := 8) Tryz.func63 rfl Tryz.ntmps63 rfl ?_
 refine g_seq (g_region (Ag (.slice none 0 0) (r_nil (g_seq (g_seq (g_region (Mv (.slice pp1 n cc2) ?_)))))))
 by_cases hc4 : pp1 = none
 ·refine rc (s_sleql true un_38 rfl rfl (isNone_t hc4) rfl (r_nil (g_true rfl (g_seq (g_region (Ag (.slice none 0 0) (r_nil (Gr [.slice none 0 0] Tryz.func63 Tryz.results63 ?_))))))))
  have H5 : St W w F := H
  obtain ⟨h1, h2, h3⟩ := hn3 ‹_›
  subst h1 h3
  exact ⟨none, 0, rfl, Row.nil_intro H5 26 6⟩
 refine rc (s_sleql false un_38 rfl rfl (isNone_f hc4) rfl (r_nil (g_false rfl (g_skip (g_seq (g_region (rc (s_buildSlice0 H 6 el_38 rfl ?_)))))))); intro bk6 w7 H8
 have H9 := Row.of_blk (n := 0) (size := 6) H8 (i := 0) rfl t12 t13 t13
 refine Mv (.slice pp1 n cc2) (rc (s_append H9 0 rfl rfl rfl (hA _ _ _ (j + 1) H9 (by exact hj)).1 ap_38 t9 t12 t0 (n' := n) (xs' := xs) t0 t16 rfl ?_)); intro vv10 w11 H12 hn13
 obtain ⟨pp14, cc15, rfl⟩ := Row.slice H12 (i := 0) rfl
 refine Ag (.slice pp14 n cc15) (r_nil (Gr [.slice pp14 n cc15] Tryz.func63 Tryz.results63 ?_))
 have H16 : St W w11 (_ :: F) := H12
 exact ⟨_, _, rfl, H16⟩
theorem GtA_Clone (g : Nat) (e : Int) (L : List ItemD) (hL : L.length ≤ 1099511627776) {i : Nat} (hi : F[i]? = some (GtA g e L)) (H : St W w F) : Calls Tryz.prog 26 #[.pointer (pa g)] w (Ret fun v w' => ∃ o, v = .pointer (pa o) ∧ St W w' (GtA o e L :: F)) := by
 have H0 := H.front hi
 have H1 := H0.move 0 rfl
 obtain ⟨⟨pp2, cc3⟩, H4⟩ := St.open_ex H1
 have H5 := St.open_star H4
 have H6 : St W w (_ :: _ :: _ :: (F.set i emp)) := H5
 refine calls_of_go (n := 16) Tryz.func26 rfl Tryz.ntmps26 rfl ?_
 refine g_seq (g_region (Ag (.pointer none) (r_nil (g_seq (g_seq (g_region (Mv (.pointer (pa g)) (rc (s_call [.pointer (pa g)] pl_53 rfl rfl (Gate_none g (e : Int) (.slice pp2 L.length cc3) (i := 0) rfl H6) ?_)))))))))
 rintro _ w7 ⟨rfl, H8⟩
 refine r_nil (g_false rfl (g_skip (g_seq ?_)))
 refine g_mix (fun t_ w => St W w (blk g (.cells #[.bool true, .int .i64 e, .slice pp2 L.length cc3] 90 (0, 0)) :: Row 26 6 (.slice pp2 L.length cc3) L.length (L.flatMap itCell) :: itsA L :: t_)) (F.set i emp) mixed 12 rfl H8.drew ?_
 refine Fv 0 rfl (fun _ w _ => x_move (.pointer (pa g)) rfl w) (Fv 1 rfl (fun t_ w hw => x_nilCheck (.pointer (pa g)) rfl ⟨_, rfl⟩ w) (Fv 2 rfl (fun t_ w hw => x_fieldAddr 90 1 1 1 2 rfl fi_90_1 rfl w) (Fv 3 rfl (fun t_ w hw => x_load (.int .i64 e) ag_2 rfl (hw.blk_at (i := 0) rfl) rfl) (Fv 4 rfl (fun _ w _ => x_move (.pointer (pa g)) rfl w) (Fv 5 rfl (fun t_ w hw => x_nilCheck (.pointer (pa g)) rfl ⟨_, rfl⟩ w) (Fv 6 rfl (fun t_ w hw => x_fieldAddr 90 2 2 2 38 rfl fi_90_2 rfl w) (Fv 7 rfl (fun t_ w hw => x_load (.slice pp2 L.length cc3) ag_38 rfl (hw.blk_at (i := 0) rfl) rfl) ?_)))))))
 refine f_all (rs := [8]) t5 t13 ?_
 refine a_cons ⟨_, rfl, ?_⟩ (fun x hx => absurd hx t13)
 intro w9 H10
 try dsimp only at H10
 refine s_call [.slice pp2 L.length cc3] pl_63 rfl rfl (clone_items _ _ L.length (L.flatMap itCell) RdA.row t0 (j := 1) rfl H10) ?_
 rintro _ w13 ⟨pp11, cc12, rfl, H14⟩
 have H15 : St W w13 (_ :: _ :: _ :: _ :: (F.set i emp)) := (H14.mv [3, 3, 3])
 refine ⟨Row 26 6 (.slice pp11 L.length cc12) L.length (L.flatMap itCell) :: (F.set i emp), ?_, H15⟩
 change FReg _ _ _ _ _ #[true, true, true, true, true, true, true, true, true, false, false, false] _ _
 refine Fv 9 rfl (fun t_ w hw => x_build (cs := #[.bool true, .int .i64 e, .slice pp11 L.length cc12]) t5 w) ?_
 refine f_all (rs := [10]) t5 t13 ?_
 refine a_cons ⟨_, rfl, ?_⟩ (fun x hx => absurd hx t13)
 intro w16 H17
 try dsimp only at H17
 refine s_box H17 90 (.agg #[.bool true, .int .i64 e, .slice pp11 L.length cc12]) rfl (cs := #[.bool true, .int .i64 e, .slice pp11 L.length cc12]) rfl rfl ?_; intro bk18 w19 H20
 have H21 : St W w19 (_ :: _ :: _ :: _ :: _ :: (F.set i emp)) := (H20.mv [4, 1, 4, 4, 4])
 refine ⟨blk bk18 (.cells #[.bool true, .int .i64 e, .slice pp11 L.length cc12] 90 (0, 0)) :: Row 26 6 (.slice pp11 L.length cc12) L.length (L.flatMap itCell) :: (F.set i emp), ?_, H21⟩
 change FReg _ _ _ _ _ #[true, true, true, true, true, true, true, true, true, true, true, false] _ _
 refine Fv 11 rfl (fun t_ w hw => x_assign (.pointer (pa bk18)) rfl w) ?_
 refine f_done t5 ?_
 intro w22 H23
 refine Gr [.pointer (pa bk18)] Tryz.func26 Tryz.results26 ?_
 have H24 := H23.dup (i := 2) rfl (itsA_pers _)
 have H25 : St W w22 (_ :: _ :: _ :: _ :: _ :: _ :: (F.set i emp)) := (H24.mv [5, 5])
 have H26 : St W w22 (GtA bk18 e L :: _ :: _ :: _ :: (F.set i emp)) := St.shut_ex (pp11, cc12) (St.shut_star (ls := [_, _, _]) H25)
 have H27 : St W w22 (_ :: _ :: _ :: _ :: (F.set i emp)) := (H26.mv [3, 3, 3])
 have H28 : St W w22 (GtA g e L :: _ :: (F.set i emp)) := St.shut_ex (pp2, cc3) (St.shut_star (ls := [_, _, _]) H27)
 have H29 : St W w22 (_ :: _ :: (F.set i emp)) := (H28.move 1 rfl)
 have H30 : St W w22 (_ :: (GtA bk18 e L :: F).set (i + 1) emp) := (H29.move 1 rfl)
 exact ⟨bk18, rfl, St.back_same (i := i + 1) t34 H30⟩
end Sl
