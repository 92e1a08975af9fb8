/- Walks of the program's functions. Printed by a program of this claim's author. No condition. -/
import Derived.Test.YteogdknlofcpiaaGreatSlBA
import Derived.Test.YteogdknlofcpiaaGreatSlDB
import Derived.Test.YteogdknlofcpiaaGreatSlQ
import Derived.Test.YteogdknlofcpiaaGreatSlR
import Derived.Test.YteogdknlofcpiaaGreatSlP
import Derived.Test.YteogdknlofcpiaaGreatSlI
import Derived.Test.YteogdknlofcpiaaGreatSlAF
import Derived.Test.YteogdknlofcpiaaGreatSlDK
import Derived.Test.YteogdknlofcpiaaGreatSlDL
import Derived.Test.YteogdknlofcpiaaGreatSlDS
import Derived.Test.YteogdknlofcpiaaGreatSlZA
import Derived.Test.YteogdknlofcpiaaGreatProg
import Derived.Test.YteogdknlofcpiaaGreatWalkMigrateItems2
namespace Sl
open _root_.Go _root_.Go.RowKit _root_.Go.Proofs
set_option linter.all false
set_option maxHeartbeats 4000000 in
set_option maxRecDepth 100000 in
theorem ref24_SameItem {W w : World} {F : List Atom} (x y : ItemD) {ip : Nat} (hp : F[ip]? = some (Im 6 (.slice x.p x.bs.length x.c) x.bs.length (x.bs.flatMap bndCell))) {iq : Nat} (hq : F[iq]? = some (bndsA x.bs)) {ip2 : Nat} (hp2 : F[ip2]? = some (Im 6 (.slice y.p y.bs.length y.c) y.bs.length (y.bs.flatMap bndCell))) {iq2 : Nat} (hq2 : F[iq2]? = some (bndsA y.bs)) (H : St W w F) : Calls Tryz.prog 13 #[.agg #[.int .i64 x.op.v, .int .i64 x.inp.v, .int .i64 x.ep.v, .int .i64 x.kind.v, .slice x.p x.bs.length x.c, .int .i64 x.t.v], .agg #[.int .i64 y.op.v, .int .i64 y.inp.v, .int .i64 y.ep.v, .int .i64 y.kind.v, .slice y.p y.bs.length y.c, .int .i64 y.t.v]] w (Ret fun v w' => v = .bool (sameIt x y) ∧ St W w' F) := by
 have H1 := (H.dup (i := ip + 0) t56 (Im_pers _ _ _ _)).dup (i := iq + 1) t57 (bndsA_pers _)
 have H2 : St W w (_ :: _ :: F) := H1
 have H3 := (H2.dup (i := ip2 + 2) (by exact hp2) (Im_pers _ _ _ _)).dup (i := iq2 + 3) (by exact hq2) (bndsA_pers _)
 have H4 : St W w (_ :: _ :: _ :: _ :: F) := H3
 refine calls_of_go (n := 45) Tryz.func13 rfl Tryz.ntmps13 rfl ?_
 refine g_seq (g_region (Bx H4 26 #[.int .i64 x.op.v, .int .i64 x.inp.v, .int .i64 x.ep.v, .int .i64 x.kind.v, .slice x.p x.bs.length x.c, .int .i64 x.t.v] (fun bk5 w6 H7 => Bx H7 26 #[.int .i64 y.op.v, .int .i64 y.inp.v, .int .i64 y.ep.v, .int .i64 y.kind.v, .slice y.p y.bs.length y.c, .int .i64 y.t.v] (fun bk8 w9 H10 => Ag (.bool false) (r_nil (g_seq (g_region (Fa 0 fi_26_0 rfl (Lo (.int .i64 x.op.v) ag_3 H10 1 (Fa 0 fi_26_0 rfl (Lo (.int .i64 y.op.v) ag_3 H10 0 ?_)))))))))))
 by_cases hc11 : x.op.v = y.op.v
 ·refine rc (s_eql true rfl rfl (dtrue hc11) rfl (Mv (.bool true) (Rt (s_fieldAddr 26 1 1 1 3 rfl fi_26_1 rfl rfl (Rt (s_load (.int .i64 x.inp.v) ag_3 rfl (H10.blk_at (i := 1) rfl) rfl rfl (Rt (s_fieldAddr 26 1 1 1 3 rfl fi_26_1 rfl rfl (Rt (s_load (.int .i64 y.inp.v) ag_3 rfl (H10.blk_at (i := 0) rfl) rfl rfl (Rt ?_)))))))))))
  by_cases hc12 : x.inp.v = y.inp.v
  ·refine s_eql true rfl rfl (dtrue hc12) rfl (Pt (.bool true) (Mv (.bool true) (Rt (s_fieldAddr 26 2 2 2 2 rfl fi_26_2 rfl rfl (Rt (s_load (.int .i64 x.ep.v) ag_2 rfl (H10.blk_at (i := 1) rfl) rfl rfl (Rt (s_fieldAddr 26 2 2 2 2 rfl fi_26_2 rfl rfl (Rt (s_load (.int .i64 y.ep.v) ag_2 rfl (H10.blk_at (i := 0) rfl) rfl rfl (Rt ?_)))))))))))
   by_cases hc13 : x.ep.v = y.ep.v
   ·refine s_eql true rfl rfl (dtrue hc13) rfl (Pt (.bool true) (Mv (.bool true) (Rt (s_fieldAddr 26 3 3 3 3 rfl fi_26_3 rfl rfl (Rt (s_load (.int .i64 x.kind.v) ag_3 rfl (H10.blk_at (i := 1) rfl) rfl rfl (Rt (s_fieldAddr 26 3 3 3 3 rfl fi_26_3 rfl rfl (Rt (s_load (.int .i64 y.kind.v) ag_3 rfl (H10.blk_at (i := 0) rfl) rfl rfl (Rt ?_)))))))))))
    by_cases hc14 : x.kind.v = y.kind.v
    ·refine s_eql true rfl rfl (dtrue hc14) rfl (Pt (.bool true) (Mv (.bool true) (Rt (s_fieldAddr 26 5 5 5 2 rfl fi_26_5 rfl rfl (Rt (s_load (.int .i64 x.t.v) ag_2 rfl (H10.blk_at (i := 1) rfl) rfl rfl (Rt (s_fieldAddr 26 5 5 5 2 rfl fi_26_5 rfl rfl (Rt (s_load (.int .i64 y.t.v) ag_2 rfl (H10.blk_at (i := 0) rfl) rfl rfl (Rt ?_)))))))))))
     by_cases hc15 : x.t.v = y.t.v
     ·refine s_eql true rfl rfl (dtrue hc15) rfl (Pt (.bool true) (Mv (.bool true) (Rt (s_fieldAddr 26 4 4 4 24 rfl fi_26_4 rfl rfl (Rt (s_loadAgg [.slice x.p x.bs.length x.c] 1 ag_24 rfl (H10.blk_at (i := 1) rfl) (nbl rfl) rfl rfl (Rt (s_fieldAddr 26 4 4 4 24 rfl fi_26_4 rfl rfl (Rt (s_loadAgg [.slice y.p y.bs.length y.c] 1 ag_24 rfl (H10.blk_at (i := 0) rfl) (nbl rfl) rfl rfl (Rt (s_call [.agg #[.slice x.p x.bs.length x.c], .agg #[.slice y.p y.bs.length y.c]] pl_51 rfl rfl (ref10_Same x.bs y.bs _ _ (ip := 5) rfl (iq := 4) rfl (ip2 := 3) rfl (iq2 := 2) rfl H10) ?_))))))))))))
      rintro _ w16 ⟨rfl, H17⟩
      refine Pt (.bool (sameBs x.bs y.bs)) (Ag (.bool (sameBs x.bs y.bs)) (r_nil (Gr [.bool (sameBs x.bs y.bs)] Tryz.func13 Tryz.results13 ?_)))
      have H18 : St W w16 F := ((((((H17.drop 0 rfl).drop 0 rfl).drop 0 rfl).drop 0 rfl).drop 0 rfl).drop 0 rfl)
      exact ⟨congrArg Value.bool (by rw [sameIt_eq]; simp_all), H18⟩
     refine s_eql false rfl rfl (dfalse hc15) rfl (Pt (.bool false) (Mv (.bool false) (Rp (Rp (Rp (Rp (Rp (Pf (.bool false) (Ag (.bool false) (r_nil (Gr [.bool false] Tryz.func13 Tryz.results13 ?_)))))))))))
     have H19 : St W w9 F := ((((((H10.drop 0 rfl).drop 0 rfl).drop 0 rfl).drop 0 rfl).drop 0 rfl).drop 0 rfl)
     exact ⟨congrArg Value.bool t12, H19⟩
    refine s_eql false rfl rfl (dfalse hc14) rfl (Pt (.bool false) (Mv (.bool false) (Rp (Rp (Rp (Rp (Rp (Pf (.bool false) (Mv (.bool false) (Rp (Rp (Rp (Rp (Rp (Pf (.bool false) (Ag (.bool false) (r_nil (Gr [.bool false] Tryz.func13 Tryz.results13 ?_))))))))))))))))))
    have H20 : St W w9 F := ((((((H10.drop 0 rfl).drop 0 rfl).drop 0 rfl).drop 0 rfl).drop 0 rfl).drop 0 rfl)
    exact ⟨congrArg Value.bool t12, H20⟩
   refine s_eql false rfl rfl (dfalse hc13) rfl (Pt (.bool false) (Mv (.bool false) (Rp (Rp (Rp (Rp (Rp (Pf (.bool false) (Mv (.bool false) (Rp (Rp (Rp (Rp (Rp (Pf (.bool false) (Mv (.bool false) (Rp (Rp (Rp (Rp (Rp (Pf (.bool false) (Ag (.bool false) (r_nil (Gr [.bool false] Tryz.func13 Tryz.results13 ?_)))))))))))))))))))))))))
   have H21 : St W w9 F := ((((((H10.drop 0 rfl).drop 0 rfl).drop 0 rfl).drop 0 rfl).drop 0 rfl).drop 0 rfl)
   exact ⟨congrArg Value.bool t12, H21⟩
  refine s_eql false rfl rfl (dfalse hc12) rfl (Pt (.bool false) (Mv (.bool false) (Rp (Rp (Rp (Rp (Rp (Pf (.bool false) (Mv (.bool false) (Rp (Rp (Rp (Rp (Rp (Pf (.bool false) (Mv (.bool false) (Rp (Rp (Rp (Rp (Rp (Pf (.bool false) (Mv (.bool false) (Rp (Rp (Rp (Rp (Rp (Pf (.bool false) (Ag (.bool false) (r_nil (Gr [.bool false] Tryz.func13 Tryz.results13 ?_))))))))))))))))))))))))))))))))
  have H22 : St W w9 F := ((((((H10.drop 0 rfl).drop 0 rfl).drop 0 rfl).drop 0 rfl).drop 0 rfl).drop 0 rfl)
  exact ⟨congrArg Value.bool t12, H22⟩
 refine rc (s_eql false rfl rfl (dfalse hc11) rfl (Mv (.bool false) (Rp (Rp (Rp (Rp (Rp (Pf (.bool false) (Mv (.bool false) (Rp (Rp (Rp (Rp (Rp (Pf (.bool false) (Mv (.bool false) (Rp (Rp (Rp (Rp (Rp (Pf (.bool false) (Mv (.bool false) (Rp (Rp (Rp (Rp (Rp (Pf (.bool false) (Mv (.bool false) (Rp (Rp (Rp (Rp (Rp (Pf (.bool false) (Ag (.bool false) (r_nil (Gr [.bool false] Tryz.func13 Tryz.results13 ?_)))))))))))))))))))))))))))))))))))))))
 have H23 : St W w9 F := ((((((H10.drop 0 rfl).drop 0 rfl).drop 0 rfl).drop 0 rfl).drop 0 rfl).drop 0 rfl)
 exact ⟨congrArg Value.bool t12, H23⟩
set_option maxHeartbeats 4000000 in
set_option maxRecDepth 100000 in
theorem match_form {W w : World} {F : List Atom} (b : Nat) (L : List Bool) (bs : List BoundD) (bv : Value) (hpt : ptE bs = 0) (hroom : L.length + (ptB (bs.map BoundD.v)).length ≤ 1048576) {ip : Nat} (hp : F[ip]? = some (Im 6 bv bs.length (bs.flatMap bndCell))) {iq : Nat} (hq : F[iq]? = some (bndsA bs)) {i : Nat} (hi : F[i]? = some (SinkA b L)) (H : St W w F) : Calls Tryz.prog 69 #[.pointer (some ⟨b, 0, none⟩), .agg #[bv]] w (Ret fun v w' => v = .tuple #[] ∧ St W w' (F.set i (SinkA b (L ++ (ptB (bs.map BoundD.v)))))) := by
 obtain ⟨pp1, cc2, rfl, hn3⟩ := Rd.shape (Im.rd H (i := ip) hp)
 have H4 := H.dup (i := ip + 0) t56 (Im_pers _ _ _ _)
 have H5 : St W w (_ :: F) := H4
 have H6 := H5.dup (i := iq + 1) t57 (bndsA_pers _)
 have H7 : St W w (_ :: _ :: F) := H6
 have H8 := H7.front (i := i + 2) t44
 have H9 : St W w (_ :: _ :: _ :: (F.set i emp)) := H8
 have hbl := bd_len hpt
 have hbp := ptB_len_le hpt
 have hp4 := ptB_ge (bs := bs)
 refine calls_of_go (n := 28) Tryz.func69 rfl Tryz.ntmps69 rfl ?_
 refine g_seq (g_region (Bx H9 24 #[.slice pp1 bs.length cc2] (fun bk10 w11 H12 => r_nil (g_seq (g_region (Mv (.pointer (some ⟨b, 0, none⟩)) (Fa 0 fi_24_0 rfl (Lo (.slice pp1 bs.length cc2) ag_22 H12 0 (rc (s_len bs.length rfl ⟨_, un_22⟩ rfl (rc (s_conv ((bs.length : Nat) : Int) rfl us_3 ik_61 (wu64 t0) rfl (rc (s_call [.pointer (some ⟨b, 0, none⟩), .int .u64 ((bs.length : Nat) : Int), .int .i64 4] pl_29 rfl rfl (Sink_Bits b L bs.length 4 t0 t1 (i := 1) rfl H12) ?_))))))))))))))
 rintro _ w13 ⟨rfl, H14⟩
 have hk15 : bitsE L bs.length 4 = 0 ∧ bitsL L bs.length 4 = L ++ lowB bs.length 4 := (by have hh := bits_ok (L := L) (u := bs.length) (n := 4) (fits_small (k := 4) rfl t10 t0) t22; exact hh)
 have H17 : St W w13 (blk bk10 (.cells #[.slice pp1 bs.length cc2] 24 (0, 0)) :: SinkA b (L ++ lowB bs.length 4) :: bndsA bs :: Im 6 (.slice pp1 bs.length cc2) bs.length (bs.flatMap bndCell) :: (F.set i emp)) := by rw [← hk15.2]; exact H14
 refine r_nil (g_seq (g_region (Fa 0 fi_24_0 rfl (Lo (.slice pp1 bs.length cc2) ag_22 H17 0 (rc (s_len bs.length rfl ⟨_, un_22⟩ rfl (Mv (.int .i64 0) (r_nil (g_block ?_)))))))))
 have H18 : St W w13 (blk bk10 (.cells #[.slice pp1 bs.length cc2] 24 (0, 0)) :: SinkA b (L ++ lowB bs.length 4 ++ bdsB bs 0) :: bndsA bs :: Im 6 (.slice pp1 bs.length cc2) bs.length (bs.flatMap bndCell) :: (F.set i emp)) := by rw [bdsB_0, List.append_nil]; exact H17
 obtain ⟨pA19, cA20, gA21, oA22, kA23, eA24, zA25, he31, hn26, hp27, hx28, hs29, hml, H30⟩ := Im.open_ H18 (i := 3) rfl
 obtain ⟨rfl, rfl⟩ : pp1 = pA19 ∧ cc2 = cA20 := by injection he31 with a_ b_ c_; exact ⟨a_, c_⟩
 refine g_loop_inv (fun (x_ : Nat) => match x_ with | j => [(0, .pointer (some ⟨b, 0, none⟩)), (13, .slice pp1 bs.length cc2), (14, .int .i64 (bs.length : Int)), (15, .int .i64 (j : Int))]) (fun (x_ : Nat) w => match x_ with | j => (j ≤ bs.length) ∧ St W w (imi (0 < bs.length) gA21 (.cells kA23 eA24 zA25) :: blk bk10 (.cells #[.slice pp1 bs.length cc2] 24 (0, 0)) :: SinkA b (L ++ lowB bs.length 4 ++ bdsB bs j) :: bndsA bs :: Im 6 (.slice pp1 bs.length cc2) bs.length (bs.flatMap bndCell) :: (F.set i emp))) (fun (x_ : Nat) => match x_ with | j => bs.length - j) (0) ?_ ?_ ?_
 ·exact t2
 ·exact ⟨t0, H30⟩
 rintro j ρ32 w33 ⟨hjn, H34⟩ nx35
 change Ends _ _ (upds ρ32 [(0, .pointer (some ⟨b, 0, none⟩)), (13, .slice pp1 bs.length cc2), (14, .int .i64 (bs.length : Int)), (15, .int .i64 (j : Int))]) w33
 refine g_seq (g_region ?_)
 by_cases hc36 : (j : Int) < (bs.length : Int)
 ·refine rc (s_lss true rfl rfl (dtrue hc36) rfl (r_nil (g_seq (g_true rfl (g_skip (g_seq (g_block (g_seq (g_region (rc (s_indexAddr gA21 (off := oA22) (j : Int) 6 (oA22 + j * 6) (by exact congrArg (fun z_ => Value.slice z_ bs.length cc2) (hp27 t0)) rfl el_22 t0 rfl rfl (rc (s_loadAgg [.string ((bs.getD j default).var.v), .int .i64 ((bs.getD j default).ev.ev.src.v), .int .i64 ((bs.getD j default).ev.ev.seq.v), .int .i64 ((bs.getD j default).ev.ev.time.v), .string ((bs.getD j default).ev.ev.typ.v), .slice ((bs.getD j default).ev.p) ((bs.getD j default).ev.ev.attrs.length) ((bs.getD j default).ev.c)] 6 ag_121 rfl (H34.imi_at (i := 0) rfl t0) (by have := elem_size (i := j) (s := 6) (hs29 t0) t0; omega) (elem_take bndCell_len (hx28 t0) t0 default) rfl (rc (s_alloc H34 121 ze_121 rfl (fun bk37 w38 H39 => Sa H39 0 rfl #[.string ((bs.getD j default).var.v), .int .i64 ((bs.getD j default).ev.ev.src.v), .int .i64 ((bs.getD j default).ev.ev.seq.v), .int .i64 ((bs.getD j default).ev.ev.time.v), .string ((bs.getD j default).ev.ev.typ.v), .slice ((bs.getD j default).ev.p) ((bs.getD j default).ev.ev.attrs.length) ((bs.getD j default).ev.c)] 6 sz_121 #[.string ((bs.getD j default).var.v), .int .i64 ((bs.getD j default).ev.ev.src.v), .int .i64 ((bs.getD j default).ev.ev.seq.v), .int .i64 ((bs.getD j default).ev.ev.time.v), .string ((bs.getD j default).ev.ev.typ.v), .slice ((bs.getD j default).ev.p) ((bs.getD j default).ev.ev.attrs.length) ((bs.getD j default).ev.c)] (fun w40 H41 => r_nil (g_seq (g_region ?_)))))))))))))))))))
  obtain ⟨hv9, he9⟩ := bd_ok hpt (j := j) t0
  have hr9 := bdsB_room (bs := bs) (j := j) t0
  have hf9 := formB_le he9
  have ht9 := textB_le hv9 t0
  refine Mv (.pointer (some ⟨b, 0, none⟩)) (Fa 0 fi_121_0 rfl (Lo (.string ((bs.getD j default).var.v)) ag_9 H41 0 (rc (s_call [.pointer (some ⟨b, 0, none⟩), .string ((bs.getD j default).var.v)] pl_96 rfl rfl (Sink_Text b (L ++ lowB bs.length 4 ++ bdsB bs j) ((bs.getD j default).var.v) (bs.getD j default).var.ok t1 (i := 3) rfl H41) ?_))))
  rintro _ w42 ⟨rfl, H43⟩
  have hk44 : putE (L ++ lowB bs.length 4 ++ bdsB bs j) ((textB ((bs.getD j default).var.v)).length : Int) = 0 ∧ putL (L ++ lowB bs.length 4 ++ bdsB bs j) (textB ((bs.getD j default).var.v)) = L ++ lowB bs.length 4 ++ bdsB bs j ++ textB (bs.getD j default).var.v := put_ok (L := L ++ lowB bs.length 4 ++ bdsB bs j) rfl t22
  have H46 : St W w42 (blk bk37 (.cells #[.string ((bs.getD j default).var.v), .int .i64 ((bs.getD j default).ev.ev.src.v), .int .i64 ((bs.getD j default).ev.ev.seq.v), .int .i64 ((bs.getD j default).ev.ev.time.v), .string ((bs.getD j default).ev.ev.typ.v), .slice ((bs.getD j default).ev.p) ((bs.getD j default).ev.ev.attrs.length) ((bs.getD j default).ev.c)] 121 (0, 0)) :: imi (0 < bs.length) gA21 (.cells kA23 eA24 zA25) :: blk bk10 (.cells #[.slice pp1 bs.length cc2] 24 (0, 0)) :: SinkA b (L ++ lowB bs.length 4 ++ bdsB bs j ++ textB (bs.getD j default).var.v) :: bndsA bs :: Im 6 (.slice pp1 bs.length cc2) bs.length (bs.flatMap bndCell) :: (F.set i emp)) := by rw [← hk44.2]; exact H43
  refine r_nil (g_region ?_)
  have H47 := bndsA_at j H46 (i := 4) rfl
  refine Mv (.pointer (some ⟨b, 0, none⟩)) (Fa 1 fi_121_1 rfl (La [.int .i64 ((bs.getD j default).ev.ev.src.v), .int .i64 ((bs.getD j default).ev.ev.seq.v), .int .i64 ((bs.getD j default).ev.ev.time.v), .string ((bs.getD j default).ev.ev.typ.v), .slice ((bs.getD j default).ev.p) ((bs.getD j default).ev.ev.attrs.length) ((bs.getD j default).ev.c)] 5 ag_119 H47 1 (rc (s_call [.pointer (some ⟨b, 0, none⟩), .agg #[.int .i64 ((bs.getD j default).ev.ev.src.v), .int .i64 ((bs.getD j default).ev.ev.seq.v), .int .i64 ((bs.getD j default).ev.ev.time.v), .string ((bs.getD j default).ev.ev.typ.v), .slice ((bs.getD j default).ev.p) ((bs.getD j default).ev.ev.attrs.length) ((bs.getD j default).ev.c)]] pl_97 rfl rfl (event_Put b (L ++ lowB bs.length 4 ++ bdsB bs j ++ textB (bs.getD j default).var.v) ((bs.getD j default).ev.ev) (.slice ((bs.getD j default).ev.p) ((bs.getD j default).ev.ev.attrs.length) ((bs.getD j default).ev.c)) t1 (j := 0) rfl (i := 4) rfl H47) ?_))))
  rintro _ w48 ⟨rfl, H49⟩
  have hk50 : evPutE (L ++ lowB bs.length 4 ++ bdsB bs j ++ textB (bs.getD j default).var.v) ((bs.getD j default).ev.ev) = 0 ∧ evPutL (L ++ lowB bs.length 4 ++ bdsB bs j ++ textB (bs.getD j default).var.v) ((bs.getD j default).ev.ev) = L ++ lowB bs.length 4 ++ bdsB bs j ++ textB (bs.getD j default).var.v ++ formB (bs.getD j default).ev.ev := (evPut_ok (L := L ++ lowB bs.length 4 ++ bdsB bs j ++ textB (bs.getD j default).var.v) he9 t22)
  have H52 : St W w48 (Attrs (.slice ((bs.getD j default).ev.p) ((bs.getD j default).ev.ev.attrs.length) ((bs.getD j default).ev.c)) ((bs.getD j default).ev.ev.attrs) :: blk bk37 (.cells #[.string ((bs.getD j default).var.v), .int .i64 ((bs.getD j default).ev.ev.src.v), .int .i64 ((bs.getD j default).ev.ev.seq.v), .int .i64 ((bs.getD j default).ev.ev.time.v), .string ((bs.getD j default).ev.ev.typ.v), .slice ((bs.getD j default).ev.p) ((bs.getD j default).ev.ev.attrs.length) ((bs.getD j default).ev.c)] 121 (0, 0)) :: imi (0 < bs.length) gA21 (.cells kA23 eA24 zA25) :: blk bk10 (.cells #[.slice pp1 bs.length cc2] 24 (0, 0)) :: SinkA b (L ++ lowB bs.length 4 ++ bdsB bs j ++ textB (bs.getD j default).var.v ++ formB (bs.getD j default).ev.ev) :: bndsA bs :: Im 6 (.slice pp1 bs.length cc2) bs.length (bs.flatMap bndCell) :: (F.set i emp)) := by rw [← hk50.2]; exact H49
  refine r_nil (g_inBlock (g_region (rc (s_add ((j : Int) + 1) rfl rfl (wi64 t0) rfl (Mv (.int .i64 ((j : Int) + 1)) (r_nil ?_))))))
  have H53 : St W w48 (Attrs (.slice ((bs.getD j default).ev.p) ((bs.getD j default).ev.ev.attrs.length) ((bs.getD j default).ev.c)) ((bs.getD j default).ev.ev.attrs) :: blk bk37 (.cells #[.string ((bs.getD j default).var.v), .int .i64 ((bs.getD j default).ev.ev.src.v), .int .i64 ((bs.getD j default).ev.ev.seq.v), .int .i64 ((bs.getD j default).ev.ev.time.v), .string ((bs.getD j default).ev.ev.typ.v), .slice ((bs.getD j default).ev.p) ((bs.getD j default).ev.ev.attrs.length) ((bs.getD j default).ev.c)] 121 (0, 0)) :: imi (0 < bs.length) gA21 (.cells kA23 eA24 zA25) :: blk bk10 (.cells #[.slice pp1 bs.length cc2] 24 (0, 0)) :: SinkA b (L ++ lowB bs.length 4 ++ bdsB bs (j + 1)) :: bndsA bs :: Im 6 (.slice pp1 bs.length cc2) bs.length (bs.flatMap bndCell) :: (F.set i emp)) := by rw [bdsB_succ t0]; simp only [List.append_assoc] at H52 ⊢; exact H52
  have H54 : St W w48 (_ :: _ :: _ :: _ :: _ :: (F.set i emp)) := (((((((H53.move 6 rfl).move 6 rfl).move 6 rfl).move 6 rfl).move 6 rfl).drop 5 rfl).drop 5 rfl)
  exact nx35 (j + 1) _ _ ⟨t0, H54⟩ t9 t2
 refine rc (s_lss false rfl rfl (dfalse hc36) rfl (r_nil (g_seq (g_false rfl (g_exit t40 ?_)))))
 refine g_end' [] Tryz.func69 Tryz.results69 trivial ?_
 have H55 : St W w33 (_ :: (F.set i emp)) := (((((H34.move 2 rfl).drop 1 rfl).drop 1 rfl).drop 1 rfl).drop 1 rfl)
 obtain rfl : j = bs.length := by omega
 exact ⟨rfl, by rw [← bdsB_all, ← List.append_assoc]; exact St.back hi H55⟩
set_option maxHeartbeats 4000000 in
set_option maxRecDepth 100000 in
theorem match_Put {W w : World} {F : List Atom} (b : Nat) (L : List Bool) (bs : List BoundD) (bv : Value) (hpt : ptE bs = 0) (hroom : L.length ≤ 900000) {ip : Nat} (hp : F[ip]? = some (Im 6 bv bs.length (bs.flatMap bndCell))) {iq : Nat} (hq : F[iq]? = some (bndsA bs)) {i : Nat} (hi : F[i]? = some (SinkA b L)) (H : St W w F) : Calls Tryz.prog 30 #[.pointer (some ⟨b, 0, none⟩), .agg #[bv]] w (Ret fun v w' => v = .int .i64 0 ∧ St W w' (F.set i (SinkA b (L ++ (ptB (bs.map BoundD.v)))))) := by
 obtain ⟨pp1, cc2, rfl, hn3⟩ := Rd.shape (Im.rd H (i := ip) hp)
 have H4 := H.dup (i := ip + 0) t56 (Im_pers _ _ _ _)
 have H5 : St W w (_ :: F) := H4
 have H6 := H5.dup (i := iq + 1) t57 (bndsA_pers _)
 have H7 : St W w (_ :: _ :: F) := H6
 have H8 := H7.front (i := i + 2) t44
 have H9 : St W w (_ :: _ :: _ :: (F.set i emp)) := H8
 have hbl := bd_len hpt
 have hbp := ptB_len_le hpt
 have hp4 := ptB_ge (bs := bs)
 refine calls_of_go (n := 28) Tryz.func30 rfl Tryz.ntmps30 rfl ?_
 refine g_seq (g_region (Bx H9 24 #[.slice pp1 bs.length cc2] (fun bk10 w11 H12 => Ag (.int .i64 0) (r_nil (g_seq (g_seq (g_region (Mv (.pointer (some ⟨b, 0, none⟩)) ?_))))))))
 have H13 := Row.im (Row.nil_intro H12 4 1) (i := 0) rfl
 refine rc (s_call [.pointer (some ⟨b, 0, none⟩), .slice none 0 0] pl_68 rfl rfl (Sink_Flags b L [] (.slice none 0 0) t1 (j := 0) rfl (i := 2) rfl H13) ?_)
 rintro _ w14 ⟨rfl, H15⟩
 have hfl : putL L [] = L := (putL_0 rfl (putE_0 (by simp only [List.length_nil]; omega))).trans (List.append_nil L)
 have H16 : St W w14 (Im 1 (.slice none 0 0) 0 [] :: blk bk10 (.cells #[.slice pp1 bs.length cc2] 24 (0, 0)) :: SinkA b L :: bndsA bs :: Im 6 (.slice pp1 bs.length cc2) bs.length (bs.flatMap bndCell) :: (F.set i emp)) := by have hx := H15; rw [hfl] at hx; exact hx
 refine rc (s_neq false rfl rfl (ntrue (putE_0 (by simp only [List.length_nil]; omega))) rfl (r_nil (g_false rfl (g_skip (g_seq (g_seq (g_region (La [.slice pp1 bs.length cc2] 1 ag_24 H16 1 (rc (s_call [.agg #[.slice pp1 bs.length cc2]] pl_48 rfl rfl (match_Check bs _ (ip := 4) rfl (iq := 3) rfl H16) ?_))))))))))
 rintro _ w17 ⟨rfl, H18⟩
 refine Ag (.int .i64 (ptE bs)) (r_nil (g_seq (g_region (Mv (.int .i64 (ptE bs)) (rc (s_neq false rfl rfl (ntrue hpt) rfl (r_nil (g_false rfl (g_skip (g_seq (g_region (rc (s_call [] pl_27 rfl rfl (NewSink H18) ?_)))))))))))))
 rintro _ w20 ⟨bk19, rfl, H21⟩
 refine Ag (.pointer (some ⟨bk19, 0, none⟩)) (r_nil (g_seq (g_region (Mv (.pointer (some ⟨bk19, 0, none⟩)) (La [.slice pp1 bs.length cc2] 1 ag_24 H21 2 (rc (s_call [.pointer (some ⟨bk19, 0, none⟩), .agg #[.slice pp1 bs.length cc2]] pl_69 rfl rfl (match_form bk19 [] bs _ hpt (by (try simp only [List.length_append, List.length_nil]); omega) (ip := 5) rfl (iq := 4) rfl (i := 0) rfl H21) ?_)))))))
 rintro _ w22 ⟨rfl, H23⟩
 refine r_nil (g_seq (g_seq (g_region ?_)))
 have hol : (([] : List Bool) ++ (ptB (bs.map BoundD.v))).length = (ptB (bs.map BoundD.v)).length := by rw [List.nil_append]
 refine Mv (.pointer (some ⟨bk19, 0, none⟩)) (rc (s_call [.pointer (some ⟨bk19, 0, none⟩)] pl_70 rfl rfl (Sink_Len bk19 (([] : List Bool) ++ ptB (bs.map BoundD.v))   (i := 0) rfl H23) ?_))
 rintro _ w24 ⟨rfl, H25⟩
 refine Mv (.pointer (some ⟨b, 0, none⟩)) (rc (s_call [.pointer (some ⟨b, 0, none⟩)] pl_70 rfl rfl (Sink_Len b L   (i := 3) rfl H25) ?_))
 rintro _ w26 ⟨rfl, H27⟩
 refine rc (s_sub (1048576 - (L.length : Int)) rfl rfl (wi64 t0) rfl (rc (s_gtr false rfl rfl (dfalse t0) rfl (r_nil (g_false rfl (g_skip (g_seq (g_region (Mv (.pointer (some ⟨b, 0, none⟩)) (La [.slice pp1 bs.length cc2] 1 ag_24 H27 2 (rc (s_call [.pointer (some ⟨b, 0, none⟩), .agg #[.slice pp1 bs.length cc2]] pl_69 rfl rfl (match_form b L bs _ hpt (by (try simp only [List.length_append, List.length_nil]); omega) (ip := 5) rfl (iq := 4) rfl (i := 3) rfl H27) ?_))))))))))))
 rintro _ w28 ⟨rfl, H29⟩
 refine r_nil (g_seq (g_region (Ag (.int .i64 0) (r_nil (Gr [.int .i64 0] Tryz.func30 Tryz.results30 ?_)))))
 have H30 : St W w28 (_ :: (F.set i emp)) := ((((((H29.move 3 rfl).drop 1 rfl).drop 1 rfl).drop 1 rfl).drop 1 rfl).drop 1 rfl)
 exact ⟨rfl, St.back hi H30⟩
set_option maxHeartbeats 4000000 in
set_option maxRecDepth 100000 in
theorem ref10_Form {W w : World} {F : List Atom} (bs : List BoundD) (bv : Value) (hpt : ptE bs = 0) {ip : Nat} (hp : F[ip]? = some (Im 6 bv bs.length (bs.flatMap bndCell))) {iq : Nat} (hq : F[iq]? = some (bndsA bs)) (H : St W w F) : Calls Tryz.prog 34 #[.agg #[bv]] w (Ret fun v w' => ∃ p n c, v = .slice p n c ∧ n = (ptB (bs.map BoundD.v)).length ∧ St W w' (Row 4 1 (.slice p n c) n ((ptB (bs.map BoundD.v)).flatMap blc) :: F)) := by
 obtain ⟨pp1, cc2, rfl, hn3⟩ := Rd.shape (Im.rd H (i := ip) hp)
 have H4 := H.dup (i := ip + 0) t56 (Im_pers _ _ _ _)
 have H5 : St W w (_ :: F) := H4
 have H6 := H5.dup (i := iq + 1) t57 (bndsA_pers _)
 have H7 : St W w (_ :: _ :: F) := H6
 have hbl := bd_len hpt
 have hmlb := Im.len H7 (i := 1) rfl
 refine calls_of_go (n := 35) Tryz.func34 rfl Tryz.ntmps34 rfl ?_
 refine g_seq (g_region (Bx H7 24 #[.slice pp1 bs.length cc2] (fun bk8 w9 H10 => Ag (.slice none 0 0) (r_nil (g_seq (g_region (Fa 0 fi_24_0 rfl (Lo (.slice pp1 bs.length cc2) ag_22 H10 0 (rc (s_len bs.length rfl ⟨_, un_22⟩ rfl (rc (s_conv ((bs.length : Nat) : Int) rfl us_3 ik_61 (wu64 t0) rfl (rc (s_call [.int .u64 ((bs.length : Nat) : Int), .int .i64 4] pl_33 rfl rfl (ref01_Low bs.length 4 t0 t0 H10) ?_))))))))))))))
 rintro _ w13 ⟨pp11, cc12, rfl, H14⟩
 refine Ag (.slice pp11 4 cc12) (r_nil (g_seq (g_seq (g_region (Ag (.int .i64 0) (r_nil (g_block ?_)))))))
 have hn0 : (lowB bs.length 4 ++ bdsB bs 0).length = 4 := by rw [bdsB_0, List.append_nil]; first | rfl | rw [lowB_len]
 have H15 : St W w13 (Row 4 1 (.slice pp11 ((lowB bs.length 4 ++ bdsB bs 0).length) cc12) ((lowB bs.length 4 ++ bdsB bs 0).length) ((lowB bs.length 4 ++ bdsB bs 0).flatMap blc) :: blk bk8 (.cells #[.slice pp1 bs.length cc2] 24 (0, 0)) :: bndsA bs :: Im 6 (.slice pp1 bs.length cc2) bs.length (bs.flatMap bndCell) :: F) := by rw [hn0, bdsB_0, List.append_nil]; exact H14
 obtain ⟨pA16, cA17, gA18, oA19, kA20, eA21, zA22, he28, hn23, hp24, hx25, hs26, hml, H27⟩ := Im.open_ H15 (i := 3) rfl
 obtain ⟨rfl, rfl⟩ : pp1 = pA16 ∧ cc2 = cA17 := by injection he28 with a_ b_ c_; exact ⟨a_, c_⟩
 refine g_loop_inv (fun (x_ : Nat × (Option Addr) × Nat) => match x_ with | (j, pq, cq) => [(1, .pointer (some ⟨bk8, 0, none⟩)), (2, .slice none 0 0), (3, .slice pq ((lowB bs.length 4 ++ bdsB bs j).length) cq), (4, .int .i64 (j : Int))]) (fun (x_ : Nat × (Option Addr) × Nat) w => match x_ with | (j, pq, cq) => (j ≤ bs.length) ∧ St W w (imi (0 < bs.length) gA18 (.cells kA20 eA21 zA22) :: Row 4 1 (.slice pq ((lowB bs.length 4 ++ bdsB bs j).length) cq) ((lowB bs.length 4 ++ bdsB bs j).length) ((lowB bs.length 4 ++ bdsB bs j).flatMap blc) :: blk bk8 (.cells #[.slice pp1 bs.length cc2] 24 (0, 0)) :: bndsA bs :: Im 6 (.slice pp1 bs.length cc2) bs.length (bs.flatMap bndCell) :: F)) (fun (x_ : Nat × (Option Addr) × Nat) => match x_ with | (j, pq, cq) => bs.length - j) (0, pp11, cc12) ?_ ?_ ?_
 ·exact ⟨by first | rfl | exact vint t0, by first | rfl | exact vint t0, congrArg (fun z_ => Value.slice pp11 z_ cc12) hn0.symm, by first | rfl | exact vint t0, trivial⟩
 ·exact ⟨t0, H27⟩
 rintro ⟨j, pq, cq⟩ ρ29 w30 ⟨hjn, H31⟩ nx32
 change Ends _ _ (upds ρ29 [(1, .pointer (some ⟨bk8, 0, none⟩)), (2, .slice none 0 0), (3, .slice pq ((lowB bs.length 4 ++ bdsB bs j).length) cq), (4, .int .i64 (j : Int))]) w30
 have hbj := bdsB_le hpt hjn
 have hll : (lowB bs.length 4 ++ bdsB bs j).length = 4 + (bdsB bs j).length := by rw [List.length_append, lowB_len]
 refine g_seq (g_seq (g_region (Mv (.int .i64 (j : Int)) (Fa 0 fi_24_0 rfl (Lo (.slice pp1 bs.length cc2) ag_22 H31 2 (rc (s_len bs.length rfl ⟨_, un_22⟩ rfl ?_)))))))
 by_cases hc33 : (j : Int) < (bs.length : Int)
 ·refine rc (s_lss true rfl rfl (dtrue hc33) rfl (r_nil (g_true rfl (g_skip (g_seq (g_block ?_))))))
  obtain ⟨hv9, he9⟩ := bd_ok hpt (j := j) t0
  have hf9 := formB_le he9
  have ht9 := textB_le hv9 t0
  have hz9 := sizeU_le (u := (bs.getD j default).var.v.size) t0
  have H34 := bndsA_at j H31 (i := 3) rfl
  have H35 : St W w30 (_ :: _ :: _ :: _ :: _ :: _ :: F) := ((((((H34.move 2 rfl).move 5 rfl).move 5 rfl).move 5 rfl).move 5 rfl).move 5 rfl)
  refine g_mix (fun t_ w => St W w (Attrs (.slice ((bs.getD j default).ev.p) ((bs.getD j default).ev.ev.attrs.length) ((bs.getD j default).ev.c)) ((bs.getD j default).ev.ev.attrs) :: imi (0 < bs.length) gA18 (.cells kA20 eA21 zA22) :: blk bk8 (.cells #[.slice pp1 bs.length cc2] 24 (0, 0)) :: bndsA bs :: Im 6 (.slice pp1 bs.length cc2) bs.length (bs.flatMap bndCell) :: t_)) (Row 4 1 (.slice pq ((lowB bs.length 4 ++ bdsB bs j).length) cq) ((lowB bs.length 4 ++ bdsB bs j).length) ((lowB bs.length 4 ++ bdsB bs j).flatMap blc) :: F) mixed 18 rfl H35.drew ?_
  refine Fv 0 rfl (fun _ w _ => x_move (.slice pq ((lowB bs.length 4 ++ bdsB bs j).length) cq) rfl w) (Fv 1 rfl (fun t_ w hw => x_fieldAddr 24 0 0 0 22 rfl fi_24_0 rfl w) (Fv 2 rfl (fun t_ w hw => x_load (.slice pp1 bs.length cc2) ag_22 rfl (hw.blk_at (i := 2) rfl) rfl) (Fv 3 rfl (fun _ w _ => x_move (.int .i64 (j : Int)) rfl w) (Fv 4 rfl (fun t_ w hw => x_indexAddr gA18 (off := oA19) (j : Int) 6 (oA19 + j * 6) t59 rfl el_22 t0 rfl w) (Fv 5 rfl (fun t_ w hw => x_fieldAddr 121 0 0 (oA19 + j * 6) 9 rfl fi_121_0 rfl w) (Fv 6 rfl (fun t_ w hw => x_load (.string ((bs.getD j default).var.v)) ag_9 rfl (hw.imi_at (i := 1) rfl t0) (elem_cell (L := bs) (i := j) bndCell_len (hx25 t0) t0 default 0 t10 _ rfl)) (Fv 9 rfl (fun t_ w hw => x_fieldAddr 24 0 0 0 22 rfl fi_24_0 rfl w) (Fv 10 rfl (fun t_ w hw => x_load (.slice pp1 bs.length cc2) ag_22 rfl (hw.blk_at (i := 2) rfl) rfl) (Fv 11 rfl (fun _ w _ => x_move (.int .i64 (j : Int)) rfl w) (Fv 12 rfl (fun t_ w hw => x_indexAddr gA18 (off := oA19) (j : Int) 6 (oA19 + j * 6) t59 rfl el_22 t0 rfl w) (Fv 13 rfl (fun t_ w hw => x_fieldAddr 121 1 1 (oA19 + j * 6 + 1) 119 rfl fi_121_1 rfl w) (Fv 14 rfl (fun t_ w hw => x_loadAgg [.int .i64 ((bs.getD j default).ev.ev.src.v), .int .i64 ((bs.getD j default).ev.ev.seq.v), .int .i64 ((bs.getD j default).ev.ev.time.v), .string ((bs.getD j default).ev.ev.typ.v), .slice ((bs.getD j default).ev.p) ((bs.getD j default).ev.ev.attrs.length) ((bs.getD j default).ev.c)] 5 ag_119 rfl (hw.imi_at (i := 1) rfl t0) (by have := elem_size (i := j) (s := 6) (hs26 t0) t0; omega) (elem_sub bndCell_len (hx25 t0) t0 default 1 5 t10)) ?_))))))))))))
  refine f_all (rs := [7]) t7 t16 ?_
  refine a_cons ⟨_, rfl, ?_⟩ (fun x hx => absurd hx t16)
  intro w36 H37
  try dsimp only at H37
  refine s_call [.string ((bs.getD j default).var.v)] pl_73 rfl rfl (ref01_Text ((bs.getD j default).var.v) t0 H37) ?_
  rintro _ w40 ⟨pp38, cc39, rfl, H41⟩
  have H42 : St W w40 (_ :: _ :: _ :: _ :: _ :: _ :: _ :: F) := (((((((H41.move 6 rfl).move 1 rfl).move 6 rfl).move 6 rfl).move 6 rfl).move 6 rfl).move 6 rfl)
  refine ⟨Row 4 1 (.slice pp38 (sizeU ((bs.getD j default).var.v).size + 8 * ((bs.getD j default).var.v).size) cc39) (sizeU ((bs.getD j default).var.v).size + 8 * ((bs.getD j default).var.v).size) ((textB ((bs.getD j default).var.v)).flatMap blc) :: Row 4 1 (.slice pq ((lowB bs.length 4 ++ bdsB bs j).length) cq) ((lowB bs.length 4 ++ bdsB bs j).length) ((lowB bs.length 4 ++ bdsB bs j).flatMap blc) :: F, ?_, H42⟩
  change FReg _ _ _ _ _ #[true, true, true, true, true, true, true, true, false, true, true, true, true, true, true, false, false, false] _ _
  refine f_all (rs := [8]) t7 t16 ?_
  refine a_cons ⟨_, rfl, ?_⟩ (fun x hx => absurd hx t16)
  intro w43 H44
  try dsimp only at H44
  refine s_append H44 6 rfl rfl rfl (Row.rd H44 (i := 5) rfl) ap_39 t10 t15 t0 (n' := (lowB bs.length 4 ++ bdsB bs j).length + sizeU ((bs.getD j default).var.v).size + 8 * ((bs.getD j default).var.v).size) (xs' := (lowB bs.length 4 ++ bdsB bs j).flatMap blc ++ (textB ((bs.getD j default).var.v)).flatMap blc) t0 t31 rfl ?_; intro vv45 w46 H47 hn48
  obtain ⟨pp49, cc50, rfl⟩ := Row.slice H47 (i := 6) rfl
  refine ⟨Row 4 1 (.slice pp38 (sizeU ((bs.getD j default).var.v).size + 8 * ((bs.getD j default).var.v).size) cc39) (sizeU ((bs.getD j default).var.v).size + 8 * ((bs.getD j default).var.v).size) ((textB ((bs.getD j default).var.v)).flatMap blc) :: Row 4 1 (.slice pp49 ((lowB bs.length 4 ++ bdsB bs j).length + sizeU ((bs.getD j default).var.v).size + 8 * ((bs.getD j default).var.v).size) cc50) ((lowB bs.length 4 ++ bdsB bs j).length + sizeU ((bs.getD j default).var.v).size + 8 * ((bs.getD j default).var.v).size) ((lowB bs.length 4 ++ bdsB bs j).flatMap blc ++ (textB ((bs.getD j default).var.v)).flatMap blc) :: F, ?_, H47⟩
  change FReg _ _ _ _ _ #[true, true, true, true, true, true, true, true, true, true, true, true, true, true, true, false, false, false] _ _
  refine f_all (rs := [15]) t7 t16 ?_
  refine a_cons ⟨_, rfl, ?_⟩ (fun x hx => absurd hx t16)
  intro w51 H52
  try dsimp only at H52
  refine s_call [.agg #[.int .i64 ((bs.getD j default).ev.ev.src.v), .int .i64 ((bs.getD j default).ev.ev.seq.v), .int .i64 ((bs.getD j default).ev.ev.time.v), .string ((bs.getD j default).ev.ev.typ.v), .slice ((bs.getD j default).ev.p) ((bs.getD j default).ev.ev.attrs.length) ((bs.getD j default).ev.c)]] pl_74 rfl rfl (ref04_Form ((bs.getD j default).ev.ev) (.slice ((bs.getD j default).ev.p) ((bs.getD j default).ev.ev.attrs.length) ((bs.getD j default).ev.c)) t11 (j := 0) rfl H52) ?_
  rintro _ w55 ⟨pp53, _, cc54, rfl, rfl, H56⟩
  have H57 : St W w55 (_ :: _ :: _ :: _ :: _ :: _ :: _ :: _ :: F) := ((((((((H56.move 7 rfl).move 7 rfl).move 2 rfl).move 7 rfl).move 7 rfl).move 7 rfl).move 7 rfl).move 7 rfl)
  refine ⟨Row 4 1 (.slice pp53 ((formB ((bs.getD j default).ev.ev)).length) cc54) ((formB ((bs.getD j default).ev.ev)).length) ((formB ((bs.getD j default).ev.ev)).flatMap blc) :: Row 4 1 (.slice pp38 (sizeU ((bs.getD j default).var.v).size + 8 * ((bs.getD j default).var.v).size) cc39) (sizeU ((bs.getD j default).var.v).size + 8 * ((bs.getD j default).var.v).size) ((textB ((bs.getD j default).var.v)).flatMap blc) :: Row 4 1 (.slice pp49 ((lowB bs.length 4 ++ bdsB bs j).length + sizeU ((bs.getD j default).var.v).size + 8 * ((bs.getD j default).var.v).size) cc50) ((lowB bs.length 4 ++ bdsB bs j).length + sizeU ((bs.getD j default).var.v).size + 8 * ((bs.getD j default).var.v).size) ((lowB bs.length 4 ++ bdsB bs j).flatMap blc ++ (textB ((bs.getD j default).var.v)).flatMap blc) :: F, ?_, H57⟩
  change FReg _ _ _ _ _ #[true, true, true, true, true, true, true, true, true, true, true, true, true, true, true, true, false, false] _ _
  refine f_all (rs := [16]) t7 t16 ?_
  refine a_cons ⟨_, rfl, ?_⟩ (fun x hx => absurd hx t16)
  intro w58 H59
  try dsimp only at H59
  refine s_append H59 7 rfl rfl rfl (Row.rd H59 (i := 5) rfl) ap_39 t10 t15 t0 (n' := (lowB bs.length 4 ++ bdsB bs j).length + sizeU ((bs.getD j default).var.v).size + 8 * ((bs.getD j default).var.v).size + (formB ((bs.getD j default).ev.ev)).length) (xs' := (lowB bs.length 4 ++ bdsB bs j).flatMap blc ++ (textB ((bs.getD j default).var.v)).flatMap blc ++ (formB ((bs.getD j default).ev.ev)).flatMap blc) t0 t31 rfl ?_; intro vv60 w61 H62 hn63
  obtain ⟨pp64, cc65, rfl⟩ := Row.slice H62 (i := 7) rfl
  refine ⟨Row 4 1 (.slice pp53 ((formB ((bs.getD j default).ev.ev)).length) cc54) ((formB ((bs.getD j default).ev.ev)).length) ((formB ((bs.getD j default).ev.ev)).flatMap blc) :: Row 4 1 (.slice pp38 (sizeU ((bs.getD j default).var.v).size + 8 * ((bs.getD j default).var.v).size) cc39) (sizeU ((bs.getD j default).var.v).size + 8 * ((bs.getD j default).var.v).size) ((textB ((bs.getD j default).var.v)).flatMap blc) :: Row 4 1 (.slice pp64 ((lowB bs.length 4 ++ bdsB bs j).length + sizeU ((bs.getD j default).var.v).size + 8 * ((bs.getD j default).var.v).size + (formB ((bs.getD j default).ev.ev)).length) cc65) ((lowB bs.length 4 ++ bdsB bs j).length + sizeU ((bs.getD j default).var.v).size + 8 * ((bs.getD j default).var.v).size + (formB ((bs.getD j default).ev.ev)).length) ((lowB bs.length 4 ++ bdsB bs j).flatMap blc ++ (textB ((bs.getD j default).var.v)).flatMap blc ++ (formB ((bs.getD j default).ev.ev)).flatMap blc) :: F, ?_, H62⟩
  change FReg _ _ _ _ _ #[true, true, true, true, true, true, true, true, true, true, true, true, true, true, true, true, true, false] _ _
  refine Fv 17 rfl (fun t_ w hw => x_assign (.slice pp64 ((lowB bs.length 4 ++ bdsB bs j).length + sizeU ((bs.getD j default).var.v).size + 8 * ((bs.getD j default).var.v).size + (formB ((bs.getD j default).ev.ev)).length) cc65) rfl w) ?_
  refine f_done t7 ?_
  intro w66 H67
  refine g_inBlock (g_region (Mv (.int .i64 (j : Int)) (rc (s_add ((j : Int) + 1) rfl rfl (wi64 t0) rfl (Ag (.int .i64 ((j : Int) + 1)) (r_nil ?_))))))
  have hnj : (lowB bs.length 4 ++ bdsB bs (j + 1)).length = (lowB bs.length 4 ++ bdsB bs j).length + sizeU ((bs.getD j default).var.v).size + 8 * ((bs.getD j default).var.v).size + (formB ((bs.getD j default).ev.ev)).length := by rw [bdsB_succ t0]; simp only [List.length_append, textB_len]; omega
  have H68 : St W w66 (Attrs (.slice ((bs.getD j default).ev.p) ((bs.getD j default).ev.ev.attrs.length) ((bs.getD j default).ev.c)) ((bs.getD j default).ev.ev.attrs) :: imi (0 < bs.length) gA18 (.cells kA20 eA21 zA22) :: blk bk8 (.cells #[.slice pp1 bs.length cc2] 24 (0, 0)) :: bndsA bs :: Im 6 (.slice pp1 bs.length cc2) bs.length (bs.flatMap bndCell) :: Row 4 1 (.slice pp53 ((formB ((bs.getD j default).ev.ev)).length) cc54) ((formB ((bs.getD j default).ev.ev)).length) ((formB ((bs.getD j default).ev.ev)).flatMap blc) :: Row 4 1 (.slice pp38 (sizeU ((bs.getD j default).var.v).size + 8 * ((bs.getD j default).var.v).size) cc39) (sizeU ((bs.getD j default).var.v).size + 8 * ((bs.getD j default).var.v).size) ((textB ((bs.getD j default).var.v)).flatMap blc) :: Row 4 1 (.slice pp64 ((lowB bs.length 4 ++ bdsB bs (j + 1)).length) cc65) ((lowB bs.length 4 ++ bdsB bs (j + 1)).length) ((lowB bs.length 4 ++ bdsB bs (j + 1)).flatMap blc) :: F) := by rw [hnj, bdsB_succ t0]; simp only [List.flatMap_append, List.append_assoc] at H67 ⊢; exact H67
  have H69 : St W w66 (_ :: _ :: _ :: _ :: _ :: F) := ((((((((H68.move 4 rfl).move 4 rfl).move 4 rfl).move 7 rfl).move 5 rfl).drop 5 rfl).drop 5 rfl).drop 5 rfl)
  exact nx32 (j + 1, pp64, cc65) _ _ ⟨t0, H69⟩ t9 ⟨by first | rfl | exact vint t0, by first | rfl | exact vint t0, congrArg (fun z_ => Value.slice pp64 z_ cc65) hnj.symm, by first | rfl | exact vint t0, trivial⟩
 refine rc (s_lss false rfl rfl (dfalse hc33) rfl (r_nil (g_false rfl (g_exit t40 (g_seq (g_region (Mv (.slice pq ((lowB bs.length 4 ++ bdsB bs j).length) cq) (Ag (.slice pq ((lowB bs.length 4 ++ bdsB bs j).length) cq) (r_nil (Gr [.slice pq ((lowB bs.length 4 ++ bdsB bs j).length) cq] Tryz.func34 Tryz.results34 ?_))))))))))
 have H70 : St W w30 (_ :: F) := (((((H31.move 1 rfl).drop 1 rfl).drop 1 rfl).drop 1 rfl).drop 1 rfl)
 obtain rfl : j = bs.length := by omega
 exact ⟨_, _, _, rfl, by rw [bdsB_all], by rw [← bdsB_all]; exact H70⟩
set_option maxHeartbeats 4000000 in
set_option maxRecDepth 100000 in
theorem migrate_ItemBytes {W w : World} {F : List Atom} (x : ItemD) {ip : Nat} (hp : F[ip]? = some (Im 6 (.slice x.p x.bs.length x.c) x.bs.length (x.bs.flatMap bndCell))) {iq : Nat} (hq : F[iq]? = some (bndsA x.bs)) (H : St W w F) : Calls Tryz.prog 5 #[.agg #[.int .i64 x.op.v, .int .i64 x.inp.v, .int .i64 x.ep.v, .int .i64 x.kind.v, .slice x.p x.bs.length x.c, .int .i64 x.t.v]] w (Ret fun v w' => ∃ p n c, v = .tuple #[.slice p n c, .int .i64 (itE x)] ∧ n = (itBytes x.v).length ∧ St W w' (Row 5 1 (.slice p n c) n ((itBytes x.v).flatMap u8c) :: F)) := by
 have H1 := (H.dup (i := ip + 0) t56 (Im_pers _ _ _ _)).dup (i := iq + 1) t57 (bndsA_pers _)
 have H2 : St W w (_ :: _ :: F) := H1
 refine calls_of_go (n := 49) Tryz.func5 rfl Tryz.ntmps5 rfl ?_
 refine g_seq (g_region (Bx H2 26 #[.int .i64 x.op.v, .int .i64 x.inp.v, .int .i64 x.ep.v, .int .i64 x.kind.v, .slice x.p x.bs.length x.c, .int .i64 x.t.v] (fun bk3 w4 H5 => Ag (.slice none 0 0) (Ag (.int .i64 0) (r_nil (g_seq (g_seq (g_region (La [.int .i64 x.op.v, .int .i64 x.inp.v, .int .i64 x.ep.v, .int .i64 x.kind.v, .slice x.p x.bs.length x.c, .int .i64 x.t.v] 6 ag_26 H5 0 (rc (s_call [.agg #[.int .i64 x.op.v, .int .i64 x.inp.v, .int .i64 x.ep.v, .int .i64 x.kind.v, .slice x.p x.bs.length x.c, .int .i64 x.t.v]] pl_10 rfl rfl (migrate_CheckItem x (ip := 2) rfl (iq := 1) rfl H5) ?_)))))))))))
 rintro _ w6 ⟨rfl, H7⟩
 refine Ag (.int .i64 (itE x)) (r_nil (g_seq (g_region (Mv (.int .i64 (itE x)) ?_))))
 by_cases hc8 : itE x = 0
 ·refine rc (s_neq false rfl rfl (ntrue hc8) rfl (r_nil (g_false rfl (g_skip (g_seq (g_region ?_))))))
  have hok : itE x = 0 := by assumption
  obtain ⟨q1, q2, q3, q4⟩ := itD_is hok
  have hz_op := sizeU_le (u := x.op.v.toNat) t0
  have hz_inp := sizeU_le (u := x.inp.v.toNat) t0
  have hz_ep := sizeU_le (u := x.ep.v.toNat) t0
  refine rc (s_call [] pl_27 rfl rfl (NewSink H7) ?_)
  rintro _ w10 ⟨bk9, rfl, H11⟩
  refine Ag (.pointer (some ⟨bk9, 0, none⟩)) (r_nil (g_seq (g_region (Mv (.pointer (some ⟨bk9, 0, none⟩)) (Fa 0 fi_26_0 rfl (Lo (.int .i64 x.op.v) ag_3 H11 1 (rc (s_conv ((x.op.v.toNat : Nat) : Int) rfl us_3 ik_61 ((wu64 t0).trans t0) rfl (rc (s_call [.pointer (some ⟨bk9, 0, none⟩), .int .u64 ((x.op.v.toNat : Nat) : Int)] pl_28 rfl rfl (Sink_Nat bk9 [] x.op.v.toNat t0 t1 (i := 0) rfl H11) ?_))))))))))
  rintro _ w12 ⟨rfl, H13⟩
  have hk14 : putE [] (sizeU x.op.v.toNat : Int) = 0 ∧ putL [] (natB x.op.v.toNat) = natB x.op.v.toNat := by have hh_ := put_ok (L := ([] : List Bool)) (M := natB x.op.v.toNat) (n := (sizeU x.op.v.toNat : Int)) (by rw [natB_len]) t22; rw [List.nil_append] at hh_; exact hh_
  have H16 : St W w12 (SinkA bk9 (natB x.op.v.toNat) :: blk bk3 (.cells #[.int .i64 x.op.v, .int .i64 x.inp.v, .int .i64 x.ep.v, .int .i64 x.kind.v, .slice x.p x.bs.length x.c, .int .i64 x.t.v] 26 (0, 0)) :: bndsA x.bs :: Im 6 (.slice x.p x.bs.length x.c) x.bs.length (x.bs.flatMap bndCell) :: F) := by rw [← hk14.2]; exact H13
  refine r_nil (g_seq (g_region (Mv (.pointer (some ⟨bk9, 0, none⟩)) (Fa 1 fi_26_1 rfl (Lo (.int .i64 x.inp.v) ag_3 H16 1 (rc (s_conv ((x.inp.v.toNat : Nat) : Int) rfl us_3 ik_61 ((wu64 t0).trans t0) rfl (rc (s_call [.pointer (some ⟨bk9, 0, none⟩), .int .u64 ((x.inp.v.toNat : Nat) : Int)] pl_28 rfl rfl (Sink_Nat bk9 (natB x.op.v.toNat) x.inp.v.toNat t0 t1 (i := 0) rfl H16) ?_)))))))))
  rintro _ w17 ⟨rfl, H18⟩
  have hk19 : putE (natB x.op.v.toNat) (sizeU x.inp.v.toNat : Int) = 0 ∧ putL (natB x.op.v.toNat) (natB x.inp.v.toNat) = natB x.op.v.toNat ++ natB x.inp.v.toNat := put_ok (L := natB x.op.v.toNat) (M := natB x.inp.v.toNat) (n := (sizeU x.inp.v.toNat : Int)) (by rw [natB_len]) t22
  have H21 : St W w17 (SinkA bk9 (natB x.op.v.toNat ++ natB x.inp.v.toNat) :: blk bk3 (.cells #[.int .i64 x.op.v, .int .i64 x.inp.v, .int .i64 x.ep.v, .int .i64 x.kind.v, .slice x.p x.bs.length x.c, .int .i64 x.t.v] 26 (0, 0)) :: bndsA x.bs :: Im 6 (.slice x.p x.bs.length x.c) x.bs.length (x.bs.flatMap bndCell) :: F) := by rw [← hk19.2]; exact H18
  refine r_nil (g_seq (g_region (Mv (.pointer (some ⟨bk9, 0, none⟩)) (Fa 2 fi_26_2 rfl (Lo (.int .i64 x.ep.v) ag_2 H21 1 (rc (s_conv ((x.ep.v.toNat : Nat) : Int) rfl us_2 ik_61 ((wu64 t0).trans t0) rfl (rc (s_call [.pointer (some ⟨bk9, 0, none⟩), .int .u64 ((x.ep.v.toNat : Nat) : Int)] pl_28 rfl rfl (Sink_Nat bk9 (natB x.op.v.toNat ++ natB x.inp.v.toNat) x.ep.v.toNat t0 t1 (i := 0) rfl H21) ?_)))))))))
  rintro _ w22 ⟨rfl, H23⟩
  have hk24 : putE (natB x.op.v.toNat ++ natB x.inp.v.toNat) (sizeU x.ep.v.toNat : Int) = 0 ∧ putL (natB x.op.v.toNat ++ natB x.inp.v.toNat) (natB x.ep.v.toNat) = natB x.op.v.toNat ++ natB x.inp.v.toNat ++ natB x.ep.v.toNat := put_ok (L := natB x.op.v.toNat ++ natB x.inp.v.toNat) (M := natB x.ep.v.toNat) (n := (sizeU x.ep.v.toNat : Int)) (by rw [natB_len]) t22
  have H26 : St W w22 (SinkA bk9 (natB x.op.v.toNat ++ natB x.inp.v.toNat ++ natB x.ep.v.toNat) :: blk bk3 (.cells #[.int .i64 x.op.v, .int .i64 x.inp.v, .int .i64 x.ep.v, .int .i64 x.kind.v, .slice x.p x.bs.length x.c, .int .i64 x.t.v] 26 (0, 0)) :: bndsA x.bs :: Im 6 (.slice x.p x.bs.length x.c) x.bs.length (x.bs.flatMap bndCell) :: F) := by rw [← hk24.2]; exact H23
  refine r_nil (g_seq (g_region (Mv (.pointer (some ⟨bk9, 0, none⟩)) (Fa 3 fi_26_3 rfl (Lo (.int .i64 x.kind.v) ag_3 H26 1 (rc (s_conv ((x.kind.v.toNat : Nat) : Int) rfl us_3 ik_61 ((wu64 t0).trans t0) rfl (rc (s_call [.pointer (some ⟨bk9, 0, none⟩), .int .u64 ((x.kind.v.toNat : Nat) : Int), .int .i64 2] pl_29 rfl rfl (Sink_Bits bk9 (natB x.op.v.toNat ++ natB x.inp.v.toNat ++ natB x.ep.v.toNat) x.kind.v.toNat 2 t0 t1 (i := 0) rfl H26) ?_)))))))))
  rintro _ w27 ⟨rfl, H28⟩
  have hk29 : bitsE (natB x.op.v.toNat ++ natB x.inp.v.toNat ++ natB x.ep.v.toNat) x.kind.v.toNat 2 = 0 ∧ bitsL (natB x.op.v.toNat ++ natB x.inp.v.toNat ++ natB x.ep.v.toNat) x.kind.v.toNat 2 = natB x.op.v.toNat ++ natB x.inp.v.toNat ++ natB x.ep.v.toNat ++ lowB x.kind.v.toNat 2 := (by have hh := bits_ok (L := natB x.op.v.toNat ++ natB x.inp.v.toNat ++ natB x.ep.v.toNat) (u := x.kind.v.toNat) (n := 2) (fits_small (k := 2) rfl t10 t0) t22; exact hh)
  have H31 : St W w27 (SinkA bk9 (natB x.op.v.toNat ++ natB x.inp.v.toNat ++ natB x.ep.v.toNat ++ lowB x.kind.v.toNat 2) :: blk bk3 (.cells #[.int .i64 x.op.v, .int .i64 x.inp.v, .int .i64 x.ep.v, .int .i64 x.kind.v, .slice x.p x.bs.length x.c, .int .i64 x.t.v] 26 (0, 0)) :: bndsA x.bs :: Im 6 (.slice x.p x.bs.length x.c) x.bs.length (x.bs.flatMap bndCell) :: F) := by rw [← hk29.2]; exact H28
  refine r_nil (g_seq (g_seq (g_region (Fa 3 fi_26_3 rfl (Lo (.int .i64 x.kind.v) ag_3 H31 1 (r_nil (g_block (g_seq (g_region ?_)))))))))
  by_cases hc32 : x.kind.v = 1
  ·refine rc (s_eql true rfl rfl (dtrue hc32) rfl (Ag (.bool true) (r_nil (g_true rfl (g_region (Mv (.pointer (some ⟨bk9, 0, none⟩)) (Fa 4 fi_26_4 rfl (La [.slice x.p x.bs.length x.c] 1 ag_24 H31 1 ?_))))))))
   have hpt : ptE x.bs = 0 := by rcases q4 with h | h | h <;> omega
   have hbp := ptB_len_le hpt
   refine rc (s_call [.pointer (some ⟨bk9, 0, none⟩), .agg #[.slice x.p x.bs.length x.c]] pl_30 rfl rfl (match_Put bk9 (natB x.op.v.toNat ++ natB x.inp.v.toNat ++ natB x.ep.v.toNat ++ lowB x.kind.v.toNat 2) x.bs _ hpt t22 (ip := 3) rfl (iq := 2) rfl (i := 0) rfl H31) ?_)
   rintro _ w33 ⟨rfl, H34⟩
   refine r_nil (g_inBlock (g_seq (g_region (Mv (.pointer (some ⟨bk9, 0, none⟩)) (rc (s_call [.pointer (some ⟨bk9, 0, none⟩)] pl_31 rfl rfl (Sink_Out bk9 (natB x.op.v.toNat ++ natB x.inp.v.toNat ++ natB x.ep.v.toNat ++ lowB x.kind.v.toNat 2 ++ ptB (x.bs.map BoundD.v)) t1 (i := 0) rfl H34) ?_))))))
   rintro _ w37 ⟨pp35, cc36, rfl, H38⟩
   refine Ag (.slice pp35 (((natB x.op.v.toNat ++ natB x.inp.v.toNat ++ natB x.ep.v.toNat ++ lowB x.kind.v.toNat 2 ++ ptB (x.bs.map BoundD.v)).length + 7) / 8) cc36) (Ag (.int .i64 0) (r_nil (Gr [.slice pp35 (((natB x.op.v.toNat ++ natB x.inp.v.toNat ++ natB x.ep.v.toNat ++ lowB x.kind.v.toNat 2 ++ ptB (x.bs.map BoundD.v)).length + 7) / 8) cc36, .int .i64 0] Tryz.func5 Tryz.results5 ?_)))
   have H39 : St W w37 (_ :: F) := ((((H38.drop 1 rfl).drop 1 rfl).drop 1 rfl).drop 1 rfl)
   have hdg : itB x.v = (natB x.op.v.toNat ++ natB x.inp.v.toNat ++ natB x.ep.v.toNat ++ lowB x.kind.v.toNat 2 ++ ptB (x.bs.map BoundD.v)) := by rw [itB_0]; show _ ++ itTail x.v = _; rw [itD_tail (k := x.kind.v) rfl]; rw [if_pos hc32]; simp only [List.nil_append, List.append_nil, List.append_assoc]; (try rfl)
   refine ⟨_, _, _, by rw [hok]; rfl, ?_, ?_⟩
   ·rw [itD_yes hok, hdg, pk_len]
   rw [itD_yes hok, hdg]
   exact H39
  refine rc (s_eql false rfl rfl (dfalse hc32) rfl (Ag (.bool false) (r_nil (g_false rfl (g_seq (g_region ?_))))))
  by_cases hc40 : x.kind.v = 2
  ·refine rc (s_eql true rfl rfl (dtrue hc40) rfl (Ag (.bool true) (r_nil (g_true rfl (g_region (Mv (.pointer (some ⟨bk9, 0, none⟩)) ?_))))))
   have hz_t := sizeU_le (u := x.t.v.toNat) t0
   refine Fa 5 fi_26_5 rfl (Lo (.int .i64 x.t.v) ag_2 H31 1 (rc (s_conv ((x.t.v.toNat : Nat) : Int) rfl us_2 ik_61 ((wu64 t0).trans t0) rfl (rc (s_call [.pointer (some ⟨bk9, 0, none⟩), .int .u64 ((x.t.v.toNat : Nat) : Int)] pl_28 rfl rfl (Sink_Nat bk9 (natB x.op.v.toNat ++ natB x.inp.v.toNat ++ natB x.ep.v.toNat ++ lowB x.kind.v.toNat 2) x.t.v.toNat t0 t1 (i := 0) rfl H31) ?_)))))
   rintro _ w41 ⟨rfl, H42⟩
   have hk43 : putE (natB x.op.v.toNat ++ natB x.inp.v.toNat ++ natB x.ep.v.toNat ++ lowB x.kind.v.toNat 2) (sizeU x.t.v.toNat : Int) = 0 ∧ putL (natB x.op.v.toNat ++ natB x.inp.v.toNat ++ natB x.ep.v.toNat ++ lowB x.kind.v.toNat 2) (natB x.t.v.toNat) = natB x.op.v.toNat ++ natB x.inp.v.toNat ++ natB x.ep.v.toNat ++ lowB x.kind.v.toNat 2 ++ natB x.t.v.toNat := put_ok (L := natB x.op.v.toNat ++ natB x.inp.v.toNat ++ natB x.ep.v.toNat ++ lowB x.kind.v.toNat 2) (M := natB x.t.v.toNat) (n := (sizeU x.t.v.toNat : Int)) (by rw [natB_len]) t22
   have H45 : St W w41 (SinkA bk9 (natB x.op.v.toNat ++ natB x.inp.v.toNat ++ natB x.ep.v.toNat ++ lowB x.kind.v.toNat 2 ++ natB x.t.v.toNat) :: blk bk3 (.cells #[.int .i64 x.op.v, .int .i64 x.inp.v, .int .i64 x.ep.v, .int .i64 x.kind.v, .slice x.p x.bs.length x.c, .int .i64 x.t.v] 26 (0, 0)) :: bndsA x.bs :: Im 6 (.slice x.p x.bs.length x.c) x.bs.length (x.bs.flatMap bndCell) :: F) := by rw [← hk43.2]; exact H42
   refine r_nil (g_inBlock (g_seq (g_region (Mv (.pointer (some ⟨bk9, 0, none⟩)) (rc (s_call [.pointer (some ⟨bk9, 0, none⟩)] pl_31 rfl rfl (Sink_Out bk9 (natB x.op.v.toNat ++ natB x.inp.v.toNat ++ natB x.ep.v.toNat ++ lowB x.kind.v.toNat 2 ++ natB x.t.v.toNat) t1 (i := 0) rfl H45) ?_))))))
   rintro _ w48 ⟨pp46, cc47, rfl, H49⟩
   refine Ag (.slice pp46 (((natB x.op.v.toNat ++ natB x.inp.v.toNat ++ natB x.ep.v.toNat ++ lowB x.kind.v.toNat 2 ++ natB x.t.v.toNat).length + 7) / 8) cc47) (Ag (.int .i64 0) (r_nil (Gr [.slice pp46 (((natB x.op.v.toNat ++ natB x.inp.v.toNat ++ natB x.ep.v.toNat ++ lowB x.kind.v.toNat 2 ++ natB x.t.v.toNat).length + 7) / 8) cc47, .int .i64 0] Tryz.func5 Tryz.results5 ?_)))
   have H50 : St W w48 (_ :: F) := ((((H49.drop 1 rfl).drop 1 rfl).drop 1 rfl).drop 1 rfl)
   have hdg : itB x.v = (natB x.op.v.toNat ++ natB x.inp.v.toNat ++ natB x.ep.v.toNat ++ lowB x.kind.v.toNat 2 ++ natB x.t.v.toNat) := by rw [itB_0]; show _ ++ itTail x.v = _; rw [itD_tail (k := x.kind.v) rfl]; rw [if_neg hc32]; rw [if_pos hc40]; simp only [List.nil_append, List.append_nil, List.append_assoc]; (try rfl)
   refine ⟨_, _, _, by rw [hok]; rfl, ?_, ?_⟩
   ·rw [itD_yes hok, hdg, pk_len]
   rw [itD_yes hok, hdg]
   exact H50
  refine rc (s_eql false rfl rfl (dfalse hc40) rfl (Ag (.bool false) (r_nil (g_false rfl (g_skip (g_inBlock (g_seq (g_region (Mv (.pointer (some ⟨bk9, 0, none⟩)) (rc (s_call [.pointer (some ⟨bk9, 0, none⟩)] pl_31 rfl rfl (Sink_Out bk9 (natB x.op.v.toNat ++ natB x.inp.v.toNat ++ natB x.ep.v.toNat ++ lowB x.kind.v.toNat 2) t1 (i := 0) rfl H31) ?_)))))))))))
  rintro _ w53 ⟨pp51, cc52, rfl, H54⟩
  refine Ag (.slice pp51 (((natB x.op.v.toNat ++ natB x.inp.v.toNat ++ natB x.ep.v.toNat ++ lowB x.kind.v.toNat 2).length + 7) / 8) cc52) (Ag (.int .i64 0) (r_nil (Gr [.slice pp51 (((natB x.op.v.toNat ++ natB x.inp.v.toNat ++ natB x.ep.v.toNat ++ lowB x.kind.v.toNat 2).length + 7) / 8) cc52, .int .i64 0] Tryz.func5 Tryz.results5 ?_)))
  have H55 : St W w53 (_ :: F) := ((((H54.drop 1 rfl).drop 1 rfl).drop 1 rfl).drop 1 rfl)
  have hdg : itB x.v = (natB x.op.v.toNat ++ natB x.inp.v.toNat ++ natB x.ep.v.toNat ++ lowB x.kind.v.toNat 2) := by rw [itB_0]; show _ ++ itTail x.v = _; rw [itD_tail (k := x.kind.v) rfl]; rw [if_neg hc32]; rw [if_neg hc40]; simp only [List.nil_append, List.append_nil, List.append_assoc]; (try rfl)
  refine ⟨_, _, _, by rw [hok]; rfl, ?_, ?_⟩
  ·rw [itD_yes hok, hdg, pk_len]
  rw [itD_yes hok, hdg]
  exact H55
 refine rc (s_neq true rfl rfl (nfalse hc8) rfl (r_nil (g_true rfl (g_seq (g_region (Mv (.int .i64 (itE x)) (Ag (.slice none 0 0) (Ag (.int .i64 (itE x)) (r_nil (Gr [.slice none 0 0, .int .i64 (itE x)] Tryz.func5 Tryz.results5 ?_))))))))))
 have H56 := Row.nil_intro H7 5 1
 have H57 : St W w6 (_ :: F) := (((H56.drop 1 rfl).drop 1 rfl).drop 1 rfl)
 have hno : ¬ itE x = 0 := by assumption
 exact ⟨none, 0, 0, rfl, by rw [itD_no hno]; rfl, by rw [itD_no hno]; exact H57⟩
set_option maxHeartbeats 4000000 in
set_option maxRecDepth 100000 in
theorem ref24_ItemBytes {W w : World} {F : List Atom} (x : ItemD) {ip : Nat} (hp : F[ip]? = some (Im 6 (.slice x.p x.bs.length x.c) x.bs.length (x.bs.flatMap bndCell))) {iq : Nat} (hq : F[iq]? = some (bndsA x.bs)) (H : St W w F) : Calls Tryz.prog 6 #[.agg #[.int .i64 x.op.v, .int .i64 x.inp.v, .int .i64 x.ep.v, .int .i64 x.kind.v, .slice x.p x.bs.length x.c, .int .i64 x.t.v]] w (Ret fun v w' => ∃ p n c, v = .tuple #[.slice p n c, .int .i64 (itE x)] ∧ n = (itBytes x.v).length ∧ St W w' (Row 5 1 (.slice p n c) n ((itBytes x.v).flatMap u8c) :: F)) := by
 have H1 := (H.dup (i := ip + 0) t56 (Im_pers _ _ _ _)).dup (i := iq + 1) t57 (bndsA_pers _)
 have H2 : St W w (_ :: _ :: F) := H1
 refine calls_of_go (n := 50) Tryz.func6 rfl Tryz.ntmps6 rfl ?_
 refine g_seq (g_region (Bx H2 26 #[.int .i64 x.op.v, .int .i64 x.inp.v, .int .i64 x.ep.v, .int .i64 x.kind.v, .slice x.p x.bs.length x.c, .int .i64 x.t.v] (fun bk3 w4 H5 => Ag (.slice none 0 0) (Ag (.int .i64 0) (r_nil (g_seq (g_seq (g_region (La [.int .i64 x.op.v, .int .i64 x.inp.v, .int .i64 x.ep.v, .int .i64 x.kind.v, .slice x.p x.bs.length x.c, .int .i64 x.t.v] 6 ag_26 H5 0 (rc (s_call [.agg #[.int .i64 x.op.v, .int .i64 x.inp.v, .int .i64 x.ep.v, .int .i64 x.kind.v, .slice x.p x.bs.length x.c, .int .i64 x.t.v]] pl_11 rfl rfl (ref24_CheckItem x (ip := 2) rfl (iq := 1) rfl H5) ?_)))))))))))
 rintro _ w6 ⟨rfl, H7⟩
 refine Ag (.int .i64 (itE x)) (r_nil (g_seq (g_region (Mv (.int .i64 (itE x)) ?_))))
 by_cases hc8 : itE x = 0
 ·refine rc (s_neq false rfl rfl (ntrue hc8) rfl (r_nil (g_false rfl (g_skip (g_seq ?_)))))
  have hok : itE x = 0 := by assumption
  obtain ⟨q1, q2, q3, q4⟩ := itD_is hok
  have hz_op := sizeU_le (u := x.op.v.toNat) t0
  have hz_inp := sizeU_le (u := x.inp.v.toNat) t0
  have hz_ep := sizeU_le (u := x.ep.v.toNat) t0
  refine g_mix (fun t_ w => St W w (blk bk3 (.cells #[.int .i64 x.op.v, .int .i64 x.inp.v, .int .i64 x.ep.v, .int .i64 x.kind.v, .slice x.p x.bs.length x.c, .int .i64 x.t.v] 26 (0, 0)) :: bndsA x.bs :: Im 6 (.slice x.p x.bs.length x.c) x.bs.length (x.bs.flatMap bndCell) :: t_)) F mixed 10 rfl H7.drew ?_
  refine Fv 0 rfl (fun t_ w hw => x_fieldAddr 26 0 0 0 3 rfl fi_26_0 rfl w) (Fv 1 rfl (fun t_ w hw => x_load (.int .i64 x.op.v) ag_3 rfl (hw.blk_at (i := 0) rfl) rfl) (Fv 2 rfl (fun t_ w hw => x_conv ((x.op.v.toNat : Nat) : Int) rfl us_3 ik_61 ((wu64 t0).trans t0) w) (Fv 4 rfl (fun t_ w hw => x_fieldAddr 26 1 1 1 3 rfl fi_26_1 rfl w) (Fv 5 rfl (fun t_ w hw => x_load (.int .i64 x.inp.v) ag_3 rfl (hw.blk_at (i := 0) rfl) rfl) (Fv 6 rfl (fun t_ w hw => x_conv ((x.inp.v.toNat : Nat) : Int) rfl us_3 ik_61 ((wu64 t0).trans t0) w) ?_)))))
  refine f_all (rs := [3]) t7 t16 ?_
  refine a_cons ⟨_, rfl, ?_⟩ (fun x hx => absurd hx t16)
  intro w9 H10
  try dsimp only at H10
  refine s_call [.int .u64 ((x.op.v.toNat : Nat) : Int)] pl_32 rfl rfl (ref01_Nat x.op.v.toNat t0 H10) ?_
  rintro _ w13 ⟨pp11, cc12, rfl, H14⟩
  have H15 : St W w13 (_ :: _ :: _ :: _ :: F) := (((H14.move 3 rfl).move 3 rfl).move 3 rfl)
  refine ⟨Row 4 1 (.slice pp11 (sizeU x.op.v.toNat) cc12) (sizeU x.op.v.toNat) ((natB x.op.v.toNat).flatMap blc) :: F, ?_, H15⟩
  change FReg _ _ _ _ _ #[true, true, true, true, true, true, true, false, false, false] _ _
  refine f_all (rs := [7]) t7 t16 ?_
  refine a_cons ⟨_, rfl, ?_⟩ (fun x hx => absurd hx t16)
  intro w16 H17
  try dsimp only at H17
  refine s_call [.int .u64 ((x.inp.v.toNat : Nat) : Int)] pl_32 rfl rfl (ref01_Nat x.inp.v.toNat t0 H17) ?_
  rintro _ w20 ⟨pp18, cc19, rfl, H21⟩
  have H22 : St W w20 (_ :: _ :: _ :: _ :: _ :: F) := (((((H21.move 4 rfl).move 1 rfl).move 4 rfl).move 4 rfl).move 4 rfl)
  refine ⟨Row 4 1 (.slice pp18 (sizeU x.inp.v.toNat) cc19) (sizeU x.inp.v.toNat) ((natB x.inp.v.toNat).flatMap blc) :: Row 4 1 (.slice pp11 (sizeU x.op.v.toNat) cc12) (sizeU x.op.v.toNat) ((natB x.op.v.toNat).flatMap blc) :: F, ?_, H22⟩
  change FReg _ _ _ _ _ #[true, true, true, true, true, true, true, true, false, false] _ _
  refine f_all (rs := [8]) t7 t16 ?_
  refine a_cons ⟨_, rfl, ?_⟩ (fun x hx => absurd hx t16)
  intro w23 H24
  try dsimp only at H24
  refine s_append H24 4 rfl rfl rfl (Row.rd H24 (i := 3) rfl) ap_39 t10 t15 t0 (n' := sizeU x.op.v.toNat + sizeU x.inp.v.toNat) (xs' := (natB x.op.v.toNat ++ (natB x.inp.v.toNat)).flatMap blc) t0 (by simp only [List.flatMap_append]) rfl ?_; intro vv25 w26 H27 hn28
  obtain ⟨pp29, cc30, rfl⟩ := Row.slice H27 (i := 4) rfl
  refine ⟨Row 4 1 (.slice pp18 (sizeU x.inp.v.toNat) cc19) (sizeU x.inp.v.toNat) ((natB x.inp.v.toNat).flatMap blc) :: Row 4 1 (.slice pp29 (sizeU x.op.v.toNat + sizeU x.inp.v.toNat) cc30) (sizeU x.op.v.toNat + sizeU x.inp.v.toNat) ((natB x.op.v.toNat ++ (natB x.inp.v.toNat)).flatMap blc) :: F, ?_, H27⟩
  change FReg _ _ _ _ _ #[true, true, true, true, true, true, true, true, true, false] _ _
  refine Fv 9 rfl (fun t_ w hw => x_assign (.slice pp29 (sizeU x.op.v.toNat + sizeU x.inp.v.toNat) cc30) rfl w) ?_
  refine f_done t7 ?_
  intro w31 H32
  refine g_seq ?_
  refine g_mix (fun t_ w => St W w (blk bk3 (.cells #[.int .i64 x.op.v, .int .i64 x.inp.v, .int .i64 x.ep.v, .int .i64 x.kind.v, .slice x.p x.bs.length x.c, .int .i64 x.t.v] 26 (0, 0)) :: bndsA x.bs :: Im 6 (.slice x.p x.bs.length x.c) x.bs.length (x.bs.flatMap bndCell) :: Row 4 1 (.slice pp18 (sizeU x.inp.v.toNat) cc19) (sizeU x.inp.v.toNat) ((natB x.inp.v.toNat).flatMap blc) :: t_)) (Row 4 1 (.slice pp29 (sizeU x.op.v.toNat + sizeU x.inp.v.toNat) cc30) (sizeU x.op.v.toNat + sizeU x.inp.v.toNat) ((natB x.op.v.toNat ++ (natB x.inp.v.toNat)).flatMap blc) :: F) mixed 12 rfl H32.drew ?_
  refine Fv 0 rfl (fun _ w _ => x_move (.slice pp29 (sizeU x.op.v.toNat + sizeU x.inp.v.toNat) cc30) rfl w) (Fv 1 rfl (fun t_ w hw => x_fieldAddr 26 2 2 2 2 rfl fi_26_2 rfl w) (Fv 2 rfl (fun t_ w hw => x_load (.int .i64 x.ep.v) ag_2 rfl (hw.blk_at (i := 0) rfl) rfl) (Fv 3 rfl (fun t_ w hw => x_conv ((x.ep.v.toNat : Nat) : Int) rfl us_2 ik_61 ((wu64 t0).trans t0) w) (Fv 6 rfl (fun t_ w hw => x_fieldAddr 26 3 3 3 3 rfl fi_26_3 rfl w) (Fv 7 rfl (fun t_ w hw => x_load (.int .i64 x.kind.v) ag_3 rfl (hw.blk_at (i := 0) rfl) rfl) (Fv 8 rfl (fun t_ w hw => x_conv ((x.kind.v.toNat : Nat) : Int) rfl us_3 ik_61 ((wu64 t0).trans t0) w) ?_))))))
  refine f_all (rs := [4]) t7 t16 ?_
  refine a_cons ⟨_, rfl, ?_⟩ (fun x hx => absurd hx t16)
  intro w33 H34
  try dsimp only at H34
  refine s_call [.int .u64 ((x.ep.v.toNat : Nat) : Int)] pl_32 rfl rfl (ref01_Nat x.ep.v.toNat t0 H34) ?_
  rintro _ w37 ⟨pp35, cc36, rfl, H38⟩
  have H39 : St W w37 (_ :: _ :: _ :: _ :: _ :: _ :: F) := ((((((H38.move 5 rfl).move 1 rfl).move 5 rfl).move 5 rfl).move 5 rfl).move 5 rfl)
  refine ⟨Row 4 1 (.slice pp35 (sizeU x.ep.v.toNat) cc36) (sizeU x.ep.v.toNat) ((natB x.ep.v.toNat).flatMap blc) :: Row 4 1 (.slice pp29 (sizeU x.op.v.toNat + sizeU x.inp.v.toNat) cc30) (sizeU x.op.v.toNat + sizeU x.inp.v.toNat) ((natB x.op.v.toNat ++ (natB x.inp.v.toNat)).flatMap blc) :: F, ?_, H39⟩
  change FReg _ _ _ _ _ #[true, true, true, true, true, false, true, true, true, false, false, false] _ _
  refine f_all (rs := [5]) t7 t16 ?_
  refine a_cons ⟨_, rfl, ?_⟩ (fun x hx => absurd hx t16)
  intro w40 H41
  try dsimp only at H41
  refine s_append H41 5 rfl rfl rfl (Row.rd H41 (i := 4) rfl) ap_39 t10 t15 t0 (n' := sizeU x.op.v.toNat + sizeU x.inp.v.toNat + sizeU x.ep.v.toNat) (xs' := (natB x.op.v.toNat ++ (natB x.inp.v.toNat) ++ (natB x.ep.v.toNat)).flatMap blc) t0 (by simp only [List.flatMap_append]) rfl ?_; intro vv42 w43 H44 hn45
  obtain ⟨pp46, cc47, rfl⟩ := Row.slice H44 (i := 5) rfl
  refine ⟨Row 4 1 (.slice pp35 (sizeU x.ep.v.toNat) cc36) (sizeU x.ep.v.toNat) ((natB x.ep.v.toNat).flatMap blc) :: Row 4 1 (.slice pp46 (sizeU x.op.v.toNat + sizeU x.inp.v.toNat + sizeU x.ep.v.toNat) cc47) (sizeU x.op.v.toNat + sizeU x.inp.v.toNat + sizeU x.ep.v.toNat) ((natB x.op.v.toNat ++ (natB x.inp.v.toNat) ++ (natB x.ep.v.toNat)).flatMap blc) :: F, ?_, H44⟩
  change FReg _ _ _ _ _ #[true, true, true, true, true, true, true, true, true, false, false, false] _ _
  refine f_all (rs := [9]) t7 t16 ?_
  refine a_cons ⟨_, rfl, ?_⟩ (fun x hx => absurd hx t16)
  intro w48 H49
  try dsimp only at H49
  refine s_call [.int .u64 ((x.kind.v.toNat : Nat) : Int), .int .i64 2] pl_33 rfl rfl (ref01_Low x.kind.v.toNat 2 t0 t0 H49) ?_
  rintro _ w52 ⟨pp50, cc51, rfl, H53⟩
  have H54 : St W w52 (_ :: _ :: _ :: _ :: _ :: _ :: _ :: F) := (((((((H53.move 6 rfl).move 6 rfl).move 2 rfl).move 6 rfl).move 6 rfl).move 6 rfl).move 6 rfl)
  refine ⟨Row 4 1 (.slice pp50 2 cc51) 2 ((lowB x.kind.v.toNat 2).flatMap blc) :: Row 4 1 (.slice pp35 (sizeU x.ep.v.toNat) cc36) (sizeU x.ep.v.toNat) ((natB x.ep.v.toNat).flatMap blc) :: Row 4 1 (.slice pp46 (sizeU x.op.v.toNat + sizeU x.inp.v.toNat + sizeU x.ep.v.toNat) cc47) (sizeU x.op.v.toNat + sizeU x.inp.v.toNat + sizeU x.ep.v.toNat) ((natB x.op.v.toNat ++ (natB x.inp.v.toNat) ++ (natB x.ep.v.toNat)).flatMap blc) :: F, ?_, H54⟩
  change FReg _ _ _ _ _ #[true, true, true, true, true, true, true, true, true, true, false, false] _ _
  refine f_all (rs := [10]) t7 t16 ?_
  refine a_cons ⟨_, rfl, ?_⟩ (fun x hx => absurd hx t16)
  intro w55 H56
  try dsimp only at H56
  refine s_append H56 6 rfl rfl rfl (Row.rd H56 (i := 4) rfl) ap_39 t10 t15 t0 (n' := sizeU x.op.v.toNat + sizeU x.inp.v.toNat + sizeU x.ep.v.toNat + 2) (xs' := (natB x.op.v.toNat ++ (natB x.inp.v.toNat) ++ (natB x.ep.v.toNat) ++ (lowB x.kind.v.toNat 2)).flatMap blc) t0 (by simp only [List.flatMap_append]) rfl ?_; intro vv57 w58 H59 hn60
  obtain ⟨pp61, cc62, rfl⟩ := Row.slice H59 (i := 6) rfl
  refine ⟨Row 4 1 (.slice pp50 2 cc51) 2 ((lowB x.kind.v.toNat 2).flatMap blc) :: Row 4 1 (.slice pp35 (sizeU x.ep.v.toNat) cc36) (sizeU x.ep.v.toNat) ((natB x.ep.v.toNat).flatMap blc) :: Row 4 1 (.slice pp61 (sizeU x.op.v.toNat + sizeU x.inp.v.toNat + sizeU x.ep.v.toNat + 2) cc62) (sizeU x.op.v.toNat + sizeU x.inp.v.toNat + sizeU x.ep.v.toNat + 2) ((natB x.op.v.toNat ++ (natB x.inp.v.toNat) ++ (natB x.ep.v.toNat) ++ (lowB x.kind.v.toNat 2)).flatMap blc) :: F, ?_, H59⟩
  change FReg _ _ _ _ _ #[true, true, true, true, true, true, true, true, true, true, true, false] _ _
  refine Fv 11 rfl (fun t_ w hw => x_assign (.slice pp61 (sizeU x.op.v.toNat + sizeU x.inp.v.toNat + sizeU x.ep.v.toNat + 2) cc62) rfl w) ?_
  refine f_done t7 ?_
  intro w63 H64
  refine g_seq (g_seq (g_region (Fa 3 fi_26_3 rfl (Lo (.int .i64 x.kind.v) ag_3 H64 0 (r_nil (g_block (g_seq (g_region ?_))))))))
  by_cases hc65 : x.kind.v = 1
  ·refine rc (s_eql true rfl rfl (dtrue hc65) rfl (Ag (.bool true) (r_nil (g_true rfl (g_region (Mv (.slice pp61 (sizeU x.op.v.toNat + sizeU x.inp.v.toNat + sizeU x.ep.v.toNat + 2) cc62) (Fa 4 fi_26_4 rfl (La [.slice x.p x.bs.length x.c] 1 ag_24 H64 0 ?_))))))))
   have hpt : ptE x.bs = 0 := by rcases q4 with h | h | h <;> omega
   have hbp := ptB_len_le hpt
   refine rc (s_call [.agg #[.slice x.p x.bs.length x.c]] pl_34 rfl rfl (ref10_Form x.bs _ hpt (ip := 2) rfl (iq := 1) rfl H64) ?_)
   rintro _ w68 ⟨pp66, _, cc67, rfl, rfl, H69⟩
   refine rc (s_append H69 7 rfl rfl rfl (Row.rd H69 (i := 0) rfl) ap_39 t10 t15 t0 (n' := sizeU x.op.v.toNat + sizeU x.inp.v.toNat + sizeU x.ep.v.toNat + 2 + (ptB (x.bs.map BoundD.v)).length) (xs' := (natB x.op.v.toNat ++ (natB x.inp.v.toNat) ++ (natB x.ep.v.toNat) ++ (lowB x.kind.v.toNat 2) ++ (ptB (x.bs.map BoundD.v))).flatMap blc) t0 (by simp only [List.flatMap_append]) rfl ?_); intro vv70 w71 H72 hn73
   obtain ⟨pp74, cc75, rfl⟩ := Row.slice H72 (i := 7) rfl
   refine Ag (.slice pp74 (sizeU x.op.v.toNat + sizeU x.inp.v.toNat + sizeU x.ep.v.toNat + 2 + (ptB (x.bs.map BoundD.v)).length) cc75) (r_nil (g_inBlock (g_seq (g_region (Mv (.slice pp74 (sizeU x.op.v.toNat + sizeU x.inp.v.toNat + sizeU x.ep.v.toNat + 2 + (ptB (x.bs.map BoundD.v)).length) cc75) ?_)))))
   have H76 : St W w71 (Row 4 1 (.slice pp66 ((ptB (x.bs.map BoundD.v)).length) cc67) ((ptB (x.bs.map BoundD.v)).length) ((ptB (x.bs.map BoundD.v)).flatMap blc) :: blk bk3 (.cells #[.int .i64 x.op.v, .int .i64 x.inp.v, .int .i64 x.ep.v, .int .i64 x.kind.v, .slice x.p x.bs.length x.c, .int .i64 x.t.v] 26 (0, 0)) :: bndsA x.bs :: Im 6 (.slice x.p x.bs.length x.c) x.bs.length (x.bs.flatMap bndCell) :: Row 4 1 (.slice pp18 (sizeU x.inp.v.toNat) cc19) (sizeU x.inp.v.toNat) ((natB x.inp.v.toNat).flatMap blc) :: Row 4 1 (.slice pp50 2 cc51) 2 ((lowB x.kind.v.toNat 2).flatMap blc) :: Row 4 1 (.slice pp35 (sizeU x.ep.v.toNat) cc36) (sizeU x.ep.v.toNat) ((natB x.ep.v.toNat).flatMap blc) :: Im 1 (.slice pp74 (sizeU x.op.v.toNat + sizeU x.inp.v.toNat + sizeU x.ep.v.toNat + 2 + (ptB (x.bs.map BoundD.v)).length) cc75) (sizeU x.op.v.toNat + sizeU x.inp.v.toNat + sizeU x.ep.v.toNat + 2 + (ptB (x.bs.map BoundD.v)).length) ((natB x.op.v.toNat ++ (natB x.inp.v.toNat) ++ (natB x.ep.v.toNat) ++ (lowB x.kind.v.toNat 2) ++ (ptB (x.bs.map BoundD.v))).flatMap blc) :: F) := Row.im H72 (i := 7) rfl
   refine rc (s_call [.slice pp74 (sizeU x.op.v.toNat + sizeU x.inp.v.toNat + sizeU x.ep.v.toNat + 2 + (ptB (x.bs.map BoundD.v)).length) cc75] pl_35 rfl rfl (ref01_Pack (natB x.op.v.toNat ++ (natB x.inp.v.toNat) ++ (natB x.ep.v.toNat) ++ (lowB x.kind.v.toNat 2) ++ (ptB (x.bs.map BoundD.v))) (sizeU x.op.v.toNat + sizeU x.inp.v.toNat + sizeU x.ep.v.toNat + 2 + (ptB (x.bs.map BoundD.v)).length) _ t35 t0 (j := 7) rfl H76) ?_)
   rintro _ w79 ⟨pp77, cc78, rfl, H80⟩
   refine Ag (.slice pp77 (((natB x.op.v.toNat ++ (natB x.inp.v.toNat) ++ (natB x.ep.v.toNat) ++ (lowB x.kind.v.toNat 2) ++ (ptB (x.bs.map BoundD.v))).length + 7) / 8) cc78) (Ag (.int .i64 0) (r_nil (Gr [.slice pp77 (((natB x.op.v.toNat ++ (natB x.inp.v.toNat) ++ (natB x.ep.v.toNat) ++ (lowB x.kind.v.toNat 2) ++ (ptB (x.bs.map BoundD.v))).length + 7) / 8) cc78, .int .i64 0] Tryz.func6 Tryz.results6 ?_)))
   have H81 : St W w79 (_ :: F) := ((((((((H80.drop 1 rfl).drop 1 rfl).drop 1 rfl).drop 1 rfl).drop 1 rfl).drop 1 rfl).drop 1 rfl).drop 1 rfl)
   have hdg : itB x.v = (natB x.op.v.toNat ++ (natB x.inp.v.toNat) ++ (natB x.ep.v.toNat) ++ (lowB x.kind.v.toNat 2) ++ (ptB (x.bs.map BoundD.v))) := by rw [itB_0]; show _ ++ itTail x.v = _; rw [itD_tail (k := x.kind.v) rfl]; rw [if_pos hc65]; simp only [List.nil_append, List.append_nil, List.append_assoc]; (try rfl)
   refine ⟨_, _, _, by rw [hok]; rfl, ?_, ?_⟩
   ·rw [itD_yes hok, hdg, pk_len]
   rw [itD_yes hok, hdg]
   exact H81
  refine rc (s_eql false rfl rfl (dfalse hc65) rfl (Ag (.bool false) (r_nil (g_false rfl (g_seq (g_region ?_))))))
  by_cases hc82 : x.kind.v = 2
  ·refine rc (s_eql true rfl rfl (dtrue hc82) rfl (Ag (.bool true) (r_nil (g_true rfl (g_region (Mv (.slice pp61 (sizeU x.op.v.toNat + sizeU x.inp.v.toNat + sizeU x.ep.v.toNat + 2) cc62) ?_))))))
   have hz_t := sizeU_le (u := x.t.v.toNat) t0
   refine Fa 5 fi_26_5 rfl (Lo (.int .i64 x.t.v) ag_2 H64 0 (rc (s_conv ((x.t.v.toNat : Nat) : Int) rfl us_2 ik_61 ((wu64 t0).trans t0) rfl (rc (s_call [.int .u64 ((x.t.v.toNat : Nat) : Int)] pl_32 rfl rfl (ref01_Nat x.t.v.toNat t0 H64) ?_)))))
   rintro _ w85 ⟨pp83, cc84, rfl, H86⟩
   refine rc (s_append H86 7 rfl rfl rfl (Row.rd H86 (i := 0) rfl) ap_39 t10 t15 t0 (n' := sizeU x.op.v.toNat + sizeU x.inp.v.toNat + sizeU x.ep.v.toNat + 2 + sizeU x.t.v.toNat) (xs' := (natB x.op.v.toNat ++ (natB x.inp.v.toNat) ++ (natB x.ep.v.toNat) ++ (lowB x.kind.v.toNat 2) ++ (natB x.t.v.toNat)).flatMap blc) t0 (by simp only [List.flatMap_append]) rfl ?_); intro vv87 w88 H89 hn90
   obtain ⟨pp91, cc92, rfl⟩ := Row.slice H89 (i := 7) rfl
   refine Ag (.slice pp91 (sizeU x.op.v.toNat + sizeU x.inp.v.toNat + sizeU x.ep.v.toNat + 2 + sizeU x.t.v.toNat) cc92) (r_nil (g_inBlock (g_seq (g_region (Mv (.slice pp91 (sizeU x.op.v.toNat + sizeU x.inp.v.toNat + sizeU x.ep.v.toNat + 2 + sizeU x.t.v.toNat) cc92) ?_)))))
   have H93 : St W w88 (Row 4 1 (.slice pp83 (sizeU x.t.v.toNat) cc84) (sizeU x.t.v.toNat) ((natB x.t.v.toNat).flatMap blc) :: blk bk3 (.cells #[.int .i64 x.op.v, .int .i64 x.inp.v, .int .i64 x.ep.v, .int .i64 x.kind.v, .slice x.p x.bs.length x.c, .int .i64 x.t.v] 26 (0, 0)) :: bndsA x.bs :: Im 6 (.slice x.p x.bs.length x.c) x.bs.length (x.bs.flatMap bndCell) :: Row 4 1 (.slice pp18 (sizeU x.inp.v.toNat) cc19) (sizeU x.inp.v.toNat) ((natB x.inp.v.toNat).flatMap blc) :: Row 4 1 (.slice pp50 2 cc51) 2 ((lowB x.kind.v.toNat 2).flatMap blc) :: Row 4 1 (.slice pp35 (sizeU x.ep.v.toNat) cc36) (sizeU x.ep.v.toNat) ((natB x.ep.v.toNat).flatMap blc) :: Im 1 (.slice pp91 (sizeU x.op.v.toNat + sizeU x.inp.v.toNat + sizeU x.ep.v.toNat + 2 + sizeU x.t.v.toNat) cc92) (sizeU x.op.v.toNat + sizeU x.inp.v.toNat + sizeU x.ep.v.toNat + 2 + sizeU x.t.v.toNat) ((natB x.op.v.toNat ++ (natB x.inp.v.toNat) ++ (natB x.ep.v.toNat) ++ (lowB x.kind.v.toNat 2) ++ (natB x.t.v.toNat)).flatMap blc) :: F) := Row.im H89 (i := 7) rfl
   refine rc (s_call [.slice pp91 (sizeU x.op.v.toNat + sizeU x.inp.v.toNat + sizeU x.ep.v.toNat + 2 + sizeU x.t.v.toNat) cc92] pl_35 rfl rfl (ref01_Pack (natB x.op.v.toNat ++ (natB x.inp.v.toNat) ++ (natB x.ep.v.toNat) ++ (lowB x.kind.v.toNat 2) ++ (natB x.t.v.toNat)) (sizeU x.op.v.toNat + sizeU x.inp.v.toNat + sizeU x.ep.v.toNat + 2 + sizeU x.t.v.toNat) _ t35 t0 (j := 7) rfl H93) ?_)
   rintro _ w96 ⟨pp94, cc95, rfl, H97⟩
   refine Ag (.slice pp94 (((natB x.op.v.toNat ++ (natB x.inp.v.toNat) ++ (natB x.ep.v.toNat) ++ (lowB x.kind.v.toNat 2) ++ (natB x.t.v.toNat)).length + 7) / 8) cc95) (Ag (.int .i64 0) (r_nil (Gr [.slice pp94 (((natB x.op.v.toNat ++ (natB x.inp.v.toNat) ++ (natB x.ep.v.toNat) ++ (lowB x.kind.v.toNat 2) ++ (natB x.t.v.toNat)).length + 7) / 8) cc95, .int .i64 0] Tryz.func6 Tryz.results6 ?_)))
   have H98 : St W w96 (_ :: F) := ((((((((H97.drop 1 rfl).drop 1 rfl).drop 1 rfl).drop 1 rfl).drop 1 rfl).drop 1 rfl).drop 1 rfl).drop 1 rfl)
   have hdg : itB x.v = (natB x.op.v.toNat ++ (natB x.inp.v.toNat) ++ (natB x.ep.v.toNat) ++ (lowB x.kind.v.toNat 2) ++ (natB x.t.v.toNat)) := by rw [itB_0]; show _ ++ itTail x.v = _; rw [itD_tail (k := x.kind.v) rfl]; rw [if_neg hc65]; rw [if_pos hc82]; simp only [List.nil_append, List.append_nil, List.append_assoc]; (try rfl)
   refine ⟨_, _, _, by rw [hok]; rfl, ?_, ?_⟩
   ·rw [itD_yes hok, hdg, pk_len]
   rw [itD_yes hok, hdg]
   exact H98
  refine rc (s_eql false rfl rfl (dfalse hc82) rfl (Ag (.bool false) (r_nil (g_false rfl (g_skip (g_inBlock (g_seq (g_region (Mv (.slice pp61 (sizeU x.op.v.toNat + sizeU x.inp.v.toNat + sizeU x.ep.v.toNat + 2) cc62) ?_)))))))))
  have H99 : St W w63 (blk bk3 (.cells #[.int .i64 x.op.v, .int .i64 x.inp.v, .int .i64 x.ep.v, .int .i64 x.kind.v, .slice x.p x.bs.length x.c, .int .i64 x.t.v] 26 (0, 0)) :: bndsA x.bs :: Im 6 (.slice x.p x.bs.length x.c) x.bs.length (x.bs.flatMap bndCell) :: Row 4 1 (.slice pp18 (sizeU x.inp.v.toNat) cc19) (sizeU x.inp.v.toNat) ((natB x.inp.v.toNat).flatMap blc) :: Row 4 1 (.slice pp50 2 cc51) 2 ((lowB x.kind.v.toNat 2).flatMap blc) :: Row 4 1 (.slice pp35 (sizeU x.ep.v.toNat) cc36) (sizeU x.ep.v.toNat) ((natB x.ep.v.toNat).flatMap blc) :: Im 1 (.slice pp61 (sizeU x.op.v.toNat + sizeU x.inp.v.toNat + sizeU x.ep.v.toNat + 2) cc62) (sizeU x.op.v.toNat + sizeU x.inp.v.toNat + sizeU x.ep.v.toNat + 2) ((natB x.op.v.toNat ++ (natB x.inp.v.toNat) ++ (natB x.ep.v.toNat) ++ (lowB x.kind.v.toNat 2)).flatMap blc) :: F) := Row.im H64 (i := 6) rfl
  refine rc (s_call [.slice pp61 (sizeU x.op.v.toNat + sizeU x.inp.v.toNat + sizeU x.ep.v.toNat + 2) cc62] pl_35 rfl rfl (ref01_Pack (natB x.op.v.toNat ++ (natB x.inp.v.toNat) ++ (natB x.ep.v.toNat) ++ (lowB x.kind.v.toNat 2)) (sizeU x.op.v.toNat + sizeU x.inp.v.toNat + sizeU x.ep.v.toNat + 2) _ t35 t0 (j := 6) rfl H99) ?_)
  rintro _ w102 ⟨pp100, cc101, rfl, H103⟩
  refine Ag (.slice pp100 (((natB x.op.v.toNat ++ (natB x.inp.v.toNat) ++ (natB x.ep.v.toNat) ++ (lowB x.kind.v.toNat 2)).length + 7) / 8) cc101) (Ag (.int .i64 0) (r_nil (Gr [.slice pp100 (((natB x.op.v.toNat ++ (natB x.inp.v.toNat) ++ (natB x.ep.v.toNat) ++ (lowB x.kind.v.toNat 2)).length + 7) / 8) cc101, .int .i64 0] Tryz.func6 Tryz.results6 ?_)))
  have H104 : St W w102 (_ :: F) := (((((((H103.drop 1 rfl).drop 1 rfl).drop 1 rfl).drop 1 rfl).drop 1 rfl).drop 1 rfl).drop 1 rfl)
  have hdg : itB x.v = (natB x.op.v.toNat ++ (natB x.inp.v.toNat) ++ (natB x.ep.v.toNat) ++ (lowB x.kind.v.toNat 2)) := by rw [itB_0]; show _ ++ itTail x.v = _; rw [itD_tail (k := x.kind.v) rfl]; rw [if_neg hc65]; rw [if_neg hc82]; simp only [List.nil_append, List.append_nil, List.append_assoc]; (try rfl)
  refine ⟨_, _, _, by rw [hok]; rfl, ?_, ?_⟩
  ·rw [itD_yes hok, hdg, pk_len]
  rw [itD_yes hok, hdg]
  exact H104
 refine rc (s_neq true rfl rfl (nfalse hc8) rfl (r_nil (g_true rfl (g_seq (g_region (Mv (.int .i64 (itE x)) (Ag (.slice none 0 0) (Ag (.int .i64 (itE x)) (r_nil (Gr [.slice none 0 0, .int .i64 (itE x)] Tryz.func6 Tryz.results6 ?_))))))))))
 have H105 := Row.nil_intro H7 5 1
 have H106 : St W w6 (_ :: F) := (((H105.drop 1 rfl).drop 1 rfl).drop 1 rfl)
 have hno : ¬ itE x = 0 := by assumption
 exact ⟨none, 0, 0, rfl, by rw [itD_no hno]; rfl, by rw [itD_no hno]; exact H106⟩
set_option maxHeartbeats 4000000 in
set_option maxRecDepth 100000 in
theorem match_bounds {W w : World} {F : List Atom} (b : Nat) (bs : List UInt8) (p : Nat) (hp : p ≤ 8 * bs.length) (hb : bs.length ≤ 140737488355328) {i : Nat} (hi : F[i]? = some (SrcA b bs p)) (H : St W w F) : Calls Tryz.prog 77 #[.pointer (some ⟨b, 0, none⟩)] w (Ret fun v w' => (qtE (remB bs p) = 0 ∧ ∃ (L : List BoundD) (q : Option Addr) (c p' : Nat), v = .tuple #[.agg #[.slice q L.length c], .int .i64 0] ∧ L.map BoundD.v = qtV (remB bs p) ∧ remB bs p' = qtR (remB bs p) ∧ p' ≤ 8 * bs.length ∧ St W w' (Im 6 (.slice q L.length c) L.length (L.flatMap bndCell) :: bndsA L :: F.set i (SrcA b bs p'))) ∨ (¬ qtE (remB bs p) = 0 ∧ ∃ q n c p', v = .tuple #[.agg #[.slice q n c], .int .i64 (qtE (remB bs p))] ∧ St W w' (F.set i (SrcA b bs p')))) := by
 have H0 := H.front hi
 refine calls_of_go (n := 55) Tryz.func77 rfl Tryz.ntmps77 rfl ?_
 refine g_seq (g_region (rc (s_alloc H0 24 ze_24 rfl (fun bk1 w2 H3 => Ag (.int .i64 0) (r_nil (g_seq (g_region (rc (s_alloc H3 24 ze_24 rfl (fun bk4 w5 H6 => r_nil (g_seq (g_region (Mv (.pointer (some ⟨b, 0, none⟩)) (rc (s_call [.pointer (some ⟨b, 0, none⟩), .int .i64 4] pl_76 rfl rfl (Src_Bits b bs p t4 t18 4  (i := 2) rfl H6) ?_)))))))))))))))
 rintro _ w7 ⟨rfl, H8⟩
 refine Mv (.tuple #[.int .u64 (srcU (remB bs p) 4 : Int), .int .i64 (srcE (remB bs p) 4)]) (Ex (.int .u64 (srcU (remB bs p) 4 : Int)) (Ex (.int .i64 (srcE (remB bs p) 4)) (Ag (.int .u64 (srcU (remB bs p) 4 : Int)) (Ag (.int .i64 (srcE (remB bs p) 4)) (r_nil (g_seq (g_seq (g_region (Mv (.int .i64 (srcE (remB bs p) 4)) ?_)))))))))
 by_cases hc9 : srcE (remB bs p) 4 = 0
 ·refine rc (s_neq false rfl rfl (ntrue hc9) rfl (r_nil (g_false rfl (g_skip (g_seq (g_seq (g_region (Mv (.int .u64 (srcU (remB bs p) 4 : Int)) ?_))))))))
  by_cases hc10 : (12 : Int) < (srcU (remB bs p) 4 : Int)
  ·refine rc (s_gtr true rfl rfl (dtrue hc10) rfl (r_nil (g_true rfl (g_seq (g_region (La [.slice none 0 0] 1 ag_24 H8 0 (Sa H8 1 rfl #[.slice none 0 0] 1 sz_24 #[.slice none 0 0] (fun w11 H12 => Ag (.int .i64 100) (r_nil ?_)))))))))
   refine g_ret' [.agg #[.slice none 0 0], .int .i64 100] Tryz.func77 Tryz.results77 ⟨(res_cellN rfl ag_24 (H12.blk_at (i := 1) rfl) (nbl rfl) rfl), rfl, trivial⟩ ?_
   have H13 : St W w11 (_ :: (F.set i emp)) := (((H12.move 2 rfl).drop 1 rfl).drop 1 rfl)
   have hE : qtE (remB bs p) = 100 := qt_2 hc9 t0
   have hE0 : ¬ qtE (remB bs p) = 0 := by rw [hE]; first | assumption | decide
   exact .inr ⟨hE0, _, _, _, _, by rw [hE]; rfl, St.back hi H13⟩
  refine rc (s_gtr false rfl rfl (dfalse hc10) rfl (r_nil (g_false rfl (g_skip (g_seq (g_seq (g_region (Mv (.int .u64 (srcU (remB bs p) 4 : Int)) (Mv (.int .u64 0) (r_nil (g_block ?_)))))))))))
  have g1 : remB bs (p + srcN (remB bs p) 4) = (remB bs p).drop (srcN (remB bs p) 4) := (remB_drop bs p _).symm
  have hs4 : srcE (remB bs p) 4 = 0 := hc9
  have hp1 : p + srcN (remB bs p) 4 ≤ 8 * bs.length := t4
  have H14 := Row.nil_intro H8 121 6
  have H15 := bndsA_nil H14
  have H16 : St W w7 (_ :: _ :: _ :: _ :: _ :: (F.set i emp)) := (((((H15.move 3 rfl).move 3 rfl).move 4 rfl).move 3 rfl).move 4 rfl)
  refine g_loop_inv (fun (x_ : Nat × (List BoundD) × Nat × (Option Addr) × Nat) => match x_ with | (j, pre, pj, q, d) => [(0, .pointer (some ⟨b, 0, none⟩)), (2, .pointer (some ⟨bk1, 0, none⟩)), (3, .int .i64 0), (4, .pointer (some ⟨bk4, 0, none⟩)), (22, .int .u64 (srcU (remB bs p) 4 : Int)), (23, .int .u64 (j : Int))]) (fun (x_ : Nat × (List BoundD) × Nat × (Option Addr) × Nat) w => match x_ with | (j, pre, pj, q, d) => (j ≤ srcU (remB bs p) 4) ∧ ((rbs j (remB bs (p + srcN (remB bs p) 4))).1 = 0) ∧ (pre.map BoundD.v = (rbs j (remB bs (p + srcN (remB bs p) 4))).2.1) ∧ (remB bs pj = (rbs j (remB bs (p + srcN (remB bs p) 4))).2.2) ∧ (pj ≤ 8 * bs.length) ∧ St W w (Row 121 6 (.slice q pre.length d) pre.length (pre.flatMap bndCell) :: bndsA pre :: SrcA b bs pj :: blk bk4 (.cells #[.slice q pre.length d] 24 (0, 0)) :: blk bk1 (.cells #[.slice none 0 0] 24 (0, 0)) :: (F.set i emp))) (fun (x_ : Nat × (List BoundD) × Nat × (Option Addr) × Nat) => match x_ with | (j, pre, pj, q, d) => srcU (remB bs p) 4 - j) (0, [], p + srcN (remB bs p) 4, none, 0) ?_ ?_ ?_
  ·exact t2
  ·exact ⟨t0, rfl, rfl, rfl, hp1, H16⟩
  rintro ⟨j, pre, pj, q, d⟩ ρ17 w18 ⟨hjn, hrj, hVj, hRj, hpj, H19⟩ nx20
  change Ends _ _ (upds ρ17 [(0, .pointer (some ⟨b, 0, none⟩)), (2, .pointer (some ⟨bk1, 0, none⟩)), (3, .int .i64 0), (4, .pointer (some ⟨bk4, 0, none⟩)), (22, .int .u64 (srcU (remB bs p) 4 : Int)), (23, .int .u64 (j : Int))]) w18
  have hpl := bv_len2 hVj
  have hrl := (rbs_len (R := remB bs (p + srcN (remB bs p) 4)) j).1
  have hlt4 : srcU (remB bs p) 4 < 16 := srcU_lt_pow (k := 4)
  refine g_seq (g_region ?_)
  by_cases hc21 : (j : Int) < (srcU (remB bs p) 4 : Int)
  ·refine rc (s_lss true rfl rfl (dtrue hc21) rfl (r_nil (g_seq (g_true rfl (g_skip (g_seq (g_block (g_seq (g_region (Mv (.pointer (some ⟨b, 0, none⟩)) (rc (s_call [.pointer (some ⟨b, 0, none⟩)] pl_102 rfl rfl (Src_Text b bs pj t4 t18 (i := 2) rfl H19) ?_))))))))))))
   rintro _ w22 ⟨rfl, H23⟩
   refine Mv (.tuple #[.string (textS (remB bs pj)), .int .i64 (textE (remB bs pj))]) (Ex (.string (textS (remB bs pj))) (Ex (.int .i64 (textE (remB bs pj))) (Ag (.string (textS (remB bs pj))) (Ag (.int .i64 (textE (remB bs pj))) (r_nil (g_seq (g_seq (g_region (Mv (.int .i64 (textE (remB bs pj))) ?_)))))))))
   by_cases hc24 : textE (remB bs pj) = 0
   ·refine rc (s_neq false rfl rfl (ntrue hc24) rfl (r_nil (g_false rfl (g_skip (g_seq (g_region (Mv (.pointer (some ⟨b, 0, none⟩)) (rc (s_call [.pointer (some ⟨b, 0, none⟩)] pl_103 rfl rfl (event_Take b bs (pj + textN (remB bs pj)) t4 t0 (i := 2) rfl H23) ?_)))))))))
    rintro _ w30 ⟨pp25, _, cc26, q27, rfl, rfl, hR28, hp29, H31⟩
    refine Mv (.tuple #[.agg #[.int .i64 ((tkV (remB bs (pj + textN (remB bs pj)))).src.v), .int .i64 ((tkV (remB bs (pj + textN (remB bs pj)))).seq.v), .int .i64 ((tkV (remB bs (pj + textN (remB bs pj)))).time.v), .string ((tkV (remB bs (pj + textN (remB bs pj)))).typ.v), .slice pp25 ((tkV (remB bs (pj + textN (remB bs pj)))).attrs.length) cc26], .int .i64 (tkE (remB bs (pj + textN (remB bs pj))))]) (Ex (.agg #[.int .i64 ((tkV (remB bs (pj + textN (remB bs pj)))).src.v), .int .i64 ((tkV (remB bs (pj + textN (remB bs pj)))).seq.v), .int .i64 ((tkV (remB bs (pj + textN (remB bs pj)))).time.v), .string ((tkV (remB bs (pj + textN (remB bs pj)))).typ.v), .slice pp25 ((tkV (remB bs (pj + textN (remB bs pj)))).attrs.length) cc26]) (Ex (.int .i64 (tkE (remB bs (pj + textN (remB bs pj))))) (rc (s_alloc H31 119 ze_119 rfl (fun bk32 w33 H34 => Sa H34 0 rfl #[.int .i64 ((tkV (remB bs (pj + textN (remB bs pj)))).src.v), .int .i64 ((tkV (remB bs (pj + textN (remB bs pj)))).seq.v), .int .i64 ((tkV (remB bs (pj + textN (remB bs pj)))).time.v), .string ((tkV (remB bs (pj + textN (remB bs pj)))).typ.v), .slice pp25 ((tkV (remB bs (pj + textN (remB bs pj)))).attrs.length) cc26] 5 sz_119 #[.int .i64 ((tkV (remB bs (pj + textN (remB bs pj)))).src.v), .int .i64 ((tkV (remB bs (pj + textN (remB bs pj)))).seq.v), .int .i64 ((tkV (remB bs (pj + textN (remB bs pj)))).time.v), .string ((tkV (remB bs (pj + textN (remB bs pj)))).typ.v), .slice pp25 ((tkV (remB bs (pj + textN (remB bs pj)))).attrs.length) cc26] (fun w35 H36 => Ag (.int .i64 (tkE (remB bs (pj + textN (remB bs pj))))) (r_nil (g_seq (g_seq (g_region (Mv (.int .i64 (tkE (remB bs (pj + textN (remB bs pj))))) ?_)))))))))))
    by_cases hc37 : tkE (remB bs (pj + textN (remB bs pj))) = 0
    ·refine rc (s_neq false rfl rfl (ntrue hc37) rfl (r_nil (g_false rfl (g_skip (g_region (Fa 0 fi_24_0 rfl (Lo (.slice q pre.length d) ag_22 H36 5 (Mv (.string (textS (remB bs pj))) (La [.int .i64 ((tkV (remB bs (pj + textN (remB bs pj)))).src.v), .int .i64 ((tkV (remB bs (pj + textN (remB bs pj)))).seq.v), .int .i64 ((tkV (remB bs (pj + textN (remB bs pj)))).time.v), .string ((tkV (remB bs (pj + textN (remB bs pj)))).typ.v), .slice pp25 ((tkV (remB bs (pj + textN (remB bs pj)))).attrs.length) cc26] 5 ag_119 H36 0 (rc (s_build (cs := #[.string (textS (remB bs pj)), .int .i64 ((tkV (remB bs (pj + textN (remB bs pj)))).src.v), .int .i64 ((tkV (remB bs (pj + textN (remB bs pj)))).seq.v), .int .i64 ((tkV (remB bs (pj + textN (remB bs pj)))).time.v), .string ((tkV (remB bs (pj + textN (remB bs pj)))).typ.v), .slice pp25 ((tkV (remB bs (pj + textN (remB bs pj)))).attrs.length) cc26]) t7 rfl (rc (s_buildSlice H36 6 1 (cs := #[.string (textS (remB bs pj)), .int .i64 ((tkV (remB bs (pj + textN (remB bs pj)))).src.v), .int .i64 ((tkV (remB bs (pj + textN (remB bs pj)))).seq.v), .int .i64 ((tkV (remB bs (pj + textN (remB bs pj)))).time.v), .string ((tkV (remB bs (pj + textN (remB bs pj)))).typ.v), .slice pp25 ((tkV (remB bs (pj + textN (remB bs pj)))).attrs.length) cc26]) #[.string ByteArray.empty, .int .i64 0, .int .i64 0, .int .i64 0, .string ByteArray.empty, .slice none 0 0] el_22 ze_121 t10 t10 t7 rfl (fun bk38 w39 H40 => rc (s_append H40 3 rfl rfl rfl (rd_blk (H40.blk_at (i := 0) rfl) rfl (nbl rfl) t26) ap_22 t10 t15 t0 (n' := pre.length + 1) (xs' := pre.flatMap bndCell ++ ([.string (textS (remB bs pj)), .int .i64 ((tkV (remB bs (pj + textN (remB bs pj)))).src.v), .int .i64 ((tkV (remB bs (pj + textN (remB bs pj)))).seq.v), .int .i64 ((tkV (remB bs (pj + textN (remB bs pj)))).time.v), .string ((tkV (remB bs (pj + textN (remB bs pj)))).typ.v), .slice pp25 ((tkV (remB bs (pj + textN (remB bs pj)))).attrs.length) cc26] : List Value)) t0 t31 rfl ?_))))))))))))))); intro vv41 w42 H43 hn44
     obtain ⟨pp45, cc46, rfl⟩ := Row.slice H43 (i := 3) rfl
     refine Fa 0 fi_24_0 rfl (rc (s_store H43 6 (.slice pp45 (pre.length + 1) cc46) rfl rfl rfl sz_22 rfl (nbl rfl) rfl (cs' := #[.slice pp45 (pre.length + 1) cc46]) rfl (fun w47 H48 => r_nil (g_inBlock (g_region (rc (s_add ((j : Int) + 1) rfl rfl (wu64 t0) rfl (Mv (.int .u64 ((j : Int) + 1)) (r_nil ?_)))))))))
     have H49 : St W w47 (_ :: _ :: _ :: _ :: _ :: _ :: _ :: _ :: (F.set i emp)) := ((H48.move 4 rfl).move 3 rfl)
     have H50 : St W w47 (bndsA (pre ++ [(⟨str' (textS (remB bs pj)), ⟨tkV (remB bs (pj + textN (remB bs pj))), pp25, cc26⟩⟩ : BoundD)]) :: blk bk38 (.cells #[.string (textS (remB bs pj)), .int .i64 ((tkV (remB bs (pj + textN (remB bs pj)))).src.v), .int .i64 ((tkV (remB bs (pj + textN (remB bs pj)))).seq.v), .int .i64 ((tkV (remB bs (pj + textN (remB bs pj)))).time.v), .string ((tkV (remB bs (pj + textN (remB bs pj)))).typ.v), .slice pp25 ((tkV (remB bs (pj + textN (remB bs pj)))).attrs.length) cc26] 121 (0, 0)) :: blk bk32 (.cells #[.int .i64 ((tkV (remB bs (pj + textN (remB bs pj)))).src.v), .int .i64 ((tkV (remB bs (pj + textN (remB bs pj)))).seq.v), .int .i64 ((tkV (remB bs (pj + textN (remB bs pj)))).time.v), .string ((tkV (remB bs (pj + textN (remB bs pj)))).typ.v), .slice pp25 ((tkV (remB bs (pj + textN (remB bs pj)))).attrs.length) cc26] 119 (0, 0)) :: Row 121 6 (.slice pp45 (pre.length + 1) cc46) (pre.length + 1) (pre.flatMap bndCell ++ ([.string (textS (remB bs pj)), .int .i64 ((tkV (remB bs (pj + textN (remB bs pj)))).src.v), .int .i64 ((tkV (remB bs (pj + textN (remB bs pj)))).seq.v), .int .i64 ((tkV (remB bs (pj + textN (remB bs pj)))).time.v), .string ((tkV (remB bs (pj + textN (remB bs pj)))).typ.v), .slice pp25 ((tkV (remB bs (pj + textN (remB bs pj)))).attrs.length) cc26] : List Value)) :: SrcA b bs q27 :: blk bk4 (.cells #[.slice pp45 (pre.length + 1) cc46] 24 (0, 0)) :: blk bk1 (.cells #[.slice none 0 0] 24 (0, 0)) :: (F.set i emp)) := bndsA_snoc (x := (⟨str' (textS (remB bs pj)), ⟨tkV (remB bs (pj + textN (remB bs pj))), pp25, cc26⟩⟩ : BoundD)) H49
     obtain ⟨s1, s2, s3⟩ := rb_step hrj hVj hRj (remB_drop bs pj _).symm hc24 hc37
     have hso : (str' (textS (remB bs pj))).v = textS (remB bs pj) := textS_ok (by rw [remB_len]; omega)
     have H51 : St W w47 (bndsA (pre ++ [(⟨str' (textS (remB bs pj)), ⟨tkV (remB bs (pj + textN (remB bs pj))), pp25, cc26⟩⟩ : BoundD)]) :: blk bk38 (.cells #[.string (textS (remB bs pj)), .int .i64 ((tkV (remB bs (pj + textN (remB bs pj)))).src.v), .int .i64 ((tkV (remB bs (pj + textN (remB bs pj)))).seq.v), .int .i64 ((tkV (remB bs (pj + textN (remB bs pj)))).time.v), .string ((tkV (remB bs (pj + textN (remB bs pj)))).typ.v), .slice pp25 ((tkV (remB bs (pj + textN (remB bs pj)))).attrs.length) cc26] 121 (0, 0)) :: blk bk32 (.cells #[.int .i64 ((tkV (remB bs (pj + textN (remB bs pj)))).src.v), .int .i64 ((tkV (remB bs (pj + textN (remB bs pj)))).seq.v), .int .i64 ((tkV (remB bs (pj + textN (remB bs pj)))).time.v), .string ((tkV (remB bs (pj + textN (remB bs pj)))).typ.v), .slice pp25 ((tkV (remB bs (pj + textN (remB bs pj)))).attrs.length) cc26] 119 (0, 0)) :: Row 121 6 (.slice pp45 ((pre ++ [(⟨str' (textS (remB bs pj)), ⟨tkV (remB bs (pj + textN (remB bs pj))), pp25, cc26⟩⟩ : BoundD)]).length) cc46) ((pre ++ [(⟨str' (textS (remB bs pj)), ⟨tkV (remB bs (pj + textN (remB bs pj))), pp25, cc26⟩⟩ : BoundD)]).length) ((pre ++ [(⟨str' (textS (remB bs pj)), ⟨tkV (remB bs (pj + textN (remB bs pj))), pp25, cc26⟩⟩ : BoundD)]).flatMap bndCell) :: SrcA b bs q27 :: blk bk4 (.cells #[.slice pp45 ((pre ++ [(⟨str' (textS (remB bs pj)), ⟨tkV (remB bs (pj + textN (remB bs pj))), pp25, cc26⟩⟩ : BoundD)]).length) cc46] 24 (0, 0)) :: blk bk1 (.cells #[.slice none 0 0] 24 (0, 0)) :: (F.set i emp)) := by rw [List.flatMap_append, List.length_append, show ([(⟨str' (textS (remB bs pj)), ⟨tkV (remB bs (pj + textN (remB bs pj))), pp25, cc26⟩⟩ : BoundD)] : List BoundD).flatMap bndCell = bndCell (⟨str' (textS (remB bs pj)), ⟨tkV (remB bs (pj + textN (remB bs pj))), pp25, cc26⟩⟩ : BoundD) from by simp]; unfold bndCell; rw [hso]; exact H50
     have H52 : St W w47 (_ :: _ :: _ :: _ :: _ :: (F.set i emp)) := (((((((H51.move 6 rfl).move 6 rfl).move 6 rfl).move 3 rfl).move 6 rfl).drop 5 rfl).drop 5 rfl)
     exact nx20 (j + 1, (pre ++ [(⟨str' (textS (remB bs pj)), ⟨tkV (remB bs (pj + textN (remB bs pj))), pp25, cc26⟩⟩ : BoundD)]), q27, pp45, cc46) _ _ ⟨t0, s1, (by rw [List.map_append, List.map_singleton, ← s2]; rfl), (hR28.trans s3), hp29, H52⟩ t9 t2
    refine rc (s_neq true rfl rfl (nfalse hc37) rfl (r_nil (g_true rfl (g_seq (g_region (La [.slice q pre.length d] 1 ag_24 H36 5 (Mv (.int .i64 (tkE (remB bs (pj + textN (remB bs pj))))) (Sa H36 6 rfl #[.slice q pre.length d] 1 sz_24 #[.slice q pre.length d] (fun w53 H54 => Ag (.int .i64 (tkE (remB bs (pj + textN (remB bs pj))))) (r_nil ?_))))))))))
    refine g_ret' [.agg #[.slice q pre.length d], .int .i64 (tkE (remB bs (pj + textN (remB bs pj))))] Tryz.func77 Tryz.results77 ⟨(res_cellN rfl ag_24 (H54.blk_at (i := 6) rfl) (nbl rfl) rfl), rfl, trivial⟩ ?_
    have ht9 := rb_tk hrj hRj (remB_drop bs pj _).symm hc24
    have H55 : St W w53 (_ :: (F.set i emp)) := (((((((H54.move 4 rfl).drop 1 rfl).drop 1 rfl).drop 1 rfl).drop 1 rfl).drop 1 rfl).drop 1 rfl)
    have hE : qtE (remB bs p) = tkE (remB bs (pj + textN (remB bs pj))) := (qt_3 hs4 t0 g1 (j := j + 1) t0 (by rw [ht9]; exact hc37)).trans ht9
    have hE0 : ¬ qtE (remB bs p) = 0 := by rw [hE]; first | assumption | decide
    exact .inr ⟨hE0, _, _, _, _, by rw [hE]; rfl, St.back hi H55⟩
   refine rc (s_neq true rfl rfl (nfalse hc24) rfl (r_nil (g_true rfl (g_seq (g_region (La [.slice q pre.length d] 1 ag_24 H23 3 (Mv (.int .i64 (textE (remB bs pj))) (Sa H23 4 rfl #[.slice q pre.length d] 1 sz_24 #[.slice q pre.length d] (fun w56 H57 => Ag (.int .i64 (textE (remB bs pj))) (r_nil ?_))))))))))
   refine g_ret' [.agg #[.slice q pre.length d], .int .i64 (textE (remB bs pj))] Tryz.func77 Tryz.results77 ⟨(res_cellN rfl ag_24 (H57.blk_at (i := 4) rfl) (nbl rfl) rfl), rfl, trivial⟩ ?_
   have ht9 := rb_text hrj hRj hc24
   have H58 : St W w56 (_ :: (F.set i emp)) := (((((H57.move 2 rfl).drop 1 rfl).drop 1 rfl).drop 1 rfl).drop 1 rfl)
   have hE : qtE (remB bs p) = textE (remB bs pj) := (qt_3 hs4 t0 g1 (j := j + 1) t0 (by rw [ht9]; exact hc24)).trans ht9
   have hE0 : ¬ qtE (remB bs p) = 0 := by rw [hE]; first | assumption | decide
   exact .inr ⟨hE0, _, _, _, _, by rw [hE]; rfl, St.back hi H58⟩
  refine rc (s_lss false rfl rfl (dfalse hc21) rfl (r_nil (g_seq (g_false rfl (g_exit t40 (g_seq ?_))))))
  have H59 : St W w18 (Im 6 (.slice q pre.length d) pre.length (pre.flatMap bndCell) :: bndsA pre :: SrcA b bs pj :: blk bk4 (.cells #[.slice q pre.length d] 24 (0, 0)) :: blk bk1 (.cells #[.slice none 0 0] 24 (0, 0)) :: (F.set i emp)) := Row.im H19 (i := 0) rfl
  refine g_mix (fun t_ w => St W w (Im 6 (.slice q pre.length d) pre.length (pre.flatMap bndCell) :: bndsA pre :: SrcA b bs pj :: blk bk4 (.cells #[.slice q pre.length d] 24 (0, 0)) :: t_)) (blk bk1 (.cells #[.slice none 0 0] 24 (0, 0)) :: (F.set i emp)) mixed 5 rfl H59.drew ?_
  refine Fv 0 rfl (fun t_ w hw => x_loadAgg [.slice q pre.length d] 1 ag_24 rfl (hw.blk_at (i := 3) rfl) (nbl rfl) rfl) (Fv 1 rfl (fun t_ w hw => x_loadAgg [.slice q pre.length d] 1 ag_24 rfl (hw.blk_at (i := 3) rfl) (nbl rfl) rfl) (Ff 2 rfl ?_))
  refine f_enter (args := #[.agg #[.slice q pre.length d]]) (v := .int .i64 (ptE pre)) rfl rfl rfl (x_call pl_48 [.agg #[.slice q pre.length d]] rfl) (fun t_ w hw => match_Check pre _ (ip := 0) rfl (iq := 1) rfl hw) ?_
  refine f_all (rs := [3]) t7 t16 ?_
  refine a_cons ⟨_, rfl, ?_⟩ (fun x hx => absurd hx t16)
  intro w60 H61
  try dsimp only at H61
  refine s_storeAgg H61 4 #[.slice q pre.length d] 1 rfl rfl rfl sz_24 rfl t26 (nbl rfl) (fun o h1 h2 => by first | (simp; done) | (simp; omega)) (cs' := #[.slice q pre.length d]) rfl ?_; intro w62 H63
  refine ⟨blk bk1 (.cells #[.slice q pre.length d] 24 (0, 0)) :: (F.set i emp), ?_, H63⟩
  change FReg _ _ _ _ _ #[true, true, true, true, false] _ _
  refine Fv 4 rfl (fun t_ w hw => x_assign (.int .i64 (ptE pre)) rfl w) ?_
  refine f_done t7 ?_
  intro w64 H65
  refine g_ret' [.agg #[.slice q pre.length d], .int .i64 (ptE pre)] Tryz.func77 Tryz.results77 ⟨(res_cellN rfl ag_24 (H65.blk_at (i := 4) rfl) (nbl rfl) rfl), rfl, trivial⟩ ?_
  have hjj : j = srcU (remB bs p) 4 := by omega
  have hE : qtE (remB bs p) = ptE pre := by rw [ptE_of hVj, hjj]; exact qt_4 hs4 t0 g1 (by rw [← hjj]; exact hrj)
  have H66 : St W w64 (_ :: _ :: _ :: (F.set i emp)) := (((((H65.move 2 rfl).move 2 rfl).move 2 rfl).drop 3 rfl).drop 3 rfl)
  have H67 : St W w64 (_ :: (Im 6 (.slice q pre.length d) pre.length (pre.flatMap bndCell) :: bndsA pre :: F).set (i + 2) emp) := H66.move 2 rfl
  rcases Decidable.em (qtE (remB bs p) = 0) with h0 | h0
  ·exact .inl ⟨h0, pre, _, _, _, by rw [← hE, h0]; rfl, by rw [hVj, qtV_yes h0 g1, hjj], by rw [hRj, qtR_yes h0 g1, hjj], hpj, St.back (i := i + 2) t44 H67⟩
  exact .inr ⟨h0, _, _, _, _, by rw [hE]; rfl, St.back hi ((H67.drop 1 rfl).drop 1 rfl)⟩
 refine rc (s_neq true rfl rfl (nfalse hc9) rfl (r_nil (g_true rfl (g_seq (g_region (La [.slice none 0 0] 1 ag_24 H8 0 (Mv (.int .i64 (srcE (remB bs p) 4)) (Sa H8 1 rfl #[.slice none 0 0] 1 sz_24 #[.slice none 0 0] (fun w68 H69 => Ag (.int .i64 (srcE (remB bs p) 4)) (r_nil ?_))))))))))
 refine g_ret' [.agg #[.slice none 0 0], .int .i64 (srcE (remB bs p) 4)] Tryz.func77 Tryz.results77 ⟨(res_cellN rfl ag_24 (H69.blk_at (i := 1) rfl) (nbl rfl) rfl), rfl, trivial⟩ ?_
 have H70 : St W w68 (_ :: (F.set i emp)) := (((H69.move 2 rfl).drop 1 rfl).drop 1 rfl)
 have hE : qtE (remB bs p) = srcE (remB bs p) 4 := qt_1 hc9
 have hE0 : ¬ qtE (remB bs p) = 0 := by rw [hE]; first | assumption | decide
 exact .inr ⟨hE0, _, _, _, _, by rw [hE]; rfl, St.back hi H70⟩
set_option maxHeartbeats 4000000 in
set_option maxRecDepth 100000 in
theorem match_Take {W w : World} {F : List Atom} (b : Nat) (bs : List UInt8) (p : Nat) (hp : p ≤ 8 * bs.length) (hb : bs.length ≤ 140737488355328) {i : Nat} (hi : F[i]? = some (SrcA b bs p)) (H : St W w F) : Calls Tryz.prog 41 #[.pointer (some ⟨b, 0, none⟩)] w (Ret fun v w' => ∃ (L : List BoundD) (q : Option Addr) (c p' : Nat), v = .tuple #[.agg #[.slice q L.length c], .int .i64 (qtE (remB bs p))] ∧ L.map BoundD.v = qtV (remB bs p) ∧ remB bs p' = qtR (remB bs p) ∧ p' ≤ 8 * bs.length ∧ St W w' (Im 6 (.slice q L.length c) L.length (L.flatMap bndCell) :: bndsA L :: F.set i (SrcA b bs p'))) := by
 have H0 := H.front hi
 refine calls_of_go (n := 33) Tryz.func41 rfl Tryz.ntmps41 rfl ?_
 refine g_seq (g_region (rc (s_alloc H0 24 ze_24 rfl (fun bk1 w2 H3 => Ag (.int .i64 0) (r_nil (g_seq (g_seq (g_region (Mv (.pointer (some ⟨b, 0, none⟩)) (rc (s_call [.pointer (some ⟨b, 0, none⟩), .int .i64 0] pl_76 rfl rfl (Src_Bits b bs p t4 t18 0  (i := 1) rfl H3) ?_)))))))))))
 rintro _ w4 ⟨rfl, H5⟩
 refine Mv (.tuple #[.int .u64 (srcU (remB bs p) 0 : Int), .int .i64 (srcE (remB bs p) 0)]) (Ex (.int .u64 (srcU (remB bs p) 0 : Int)) (Ex (.int .i64 (srcE (remB bs p) 0)) (Ag (.int .u64 (srcU (remB bs p) 0 : Int)) (Ag (.int .i64 (srcE (remB bs p) 0)) (r_nil (g_seq (g_region (Mv (.int .i64 (srcE (remB bs p) 0)) (rc (s_eql false rfl rfl (dfalse (by rw [srcE_0 t0 t0]; decide)) rfl (r_nil (g_false rfl (g_skip (g_seq (g_region ?_)))))))))))))))
 have hz : p + srcN (remB bs p) 0 = p := by rw [srcN_0 (srcE_0 t0 t0)]; rfl
 have H6 : St W w4 (blk bk1 (.cells #[.slice none 0 0] 24 (0, 0)) :: SrcA b bs p :: (F.set i emp)) := by have hx := H5; rw [hz] at hx; exact hx
 refine Mv (.pointer (some ⟨b, 0, none⟩)) (Nc (.pointer (some ⟨b, 0, none⟩)) ?_)
 have H7 := H6.move 1 rfl
 obtain ⟨vv8, H9⟩ := St.open_ex H7
 have H10 := St.open_star H9
 obtain ⟨pp11, cc12, gA13, oA14, kA15, eA16, zA17, rfl, hn18, hp19, hx20, hs21, hml, H22⟩ := Im.open_ H10 (i := 1) rfl
 have H23 : St W w4 (_ :: _ :: _ :: _ :: (F.set i emp)) := H22
 refine La [.bool true, .slice pp11 bs.length cc12, .int .i64 ((p : Nat) : Int)] 3 ag_124 H23 1 (rc (s_alloc H23 124 ze_124 rfl (fun bk24 w25 H26 => Sa H26 0 rfl #[.bool true, .slice pp11 bs.length cc12, .int .i64 ((p : Nat) : Int)] 3 sz_124 #[.bool true, .slice pp11 bs.length cc12, .int .i64 ((p : Nat) : Int)] (fun w27 H28 => r_nil (g_seq (g_region ?_))))))
 have H29 := H28.dup (i := 3) rfl (Im_pers _ _ _ _)
 refine Mv (.pointer (some ⟨b, 0, none⟩)) ?_
 have H30 : St W w27 (_ :: _ :: _ :: _ :: _ :: (F.set i emp)) := ((((((H29.move 5 rfl).move 5 rfl).move 3 rfl).move 3 rfl).move 5 rfl).drop 5 rfl)
 have H31 : St W w27 (SrcA b bs p :: blk bk24 (.cells #[.bool true, .slice pp11 bs.length cc12, .int .i64 ((p : Nat) : Int)] 124 (0, 0)) :: Im 1 (.slice pp11 bs.length cc12) bs.length (bs.flatMap u8c) :: blk bk1 (.cells #[.slice none 0 0] 24 (0, 0)) :: (F.set i emp)) := St.shut_ex (.slice pp11 bs.length cc12) (St.shut_star (ls := [blk b (.cells #[.bool true, .slice pp11 bs.length cc12, .int .i64 ((p : Nat) : Int)] 124 (0, 0)), Im 1 (.slice pp11 bs.length cc12) bs.length (bs.flatMap u8c)]) H30)
 refine rc (s_call [.pointer (some ⟨b, 0, none⟩)] pl_77 rfl rfl (match_bounds b bs p t4 t0 (i := 0) rfl H31) ?_)
 rintro _ w42 (⟨he36, L32, pp33, cc34, q35, rfl, hL37, hR38, hp39, H40⟩ | ⟨he36, pp33, NN41, cc34, q35, rfl, H40⟩)
 ·refine Mv (.tuple #[.agg #[.slice pp33 L32.length cc34], .int .i64 0]) (Ex (.agg #[.slice pp33 L32.length cc34]) (Ex (.int .i64 0) (rc (s_alloc H40 24 ze_24 rfl (fun bk43 w44 H45 => Sa H45 0 rfl #[.slice pp33 L32.length cc34] 1 sz_24 #[.slice pp33 L32.length cc34] (fun w46 H47 => Ag (.int .i64 0) (r_nil (g_seq (g_seq (g_region (Mv (.int .i64 0) (rc (s_neq false rfl rfl (ntrue t10) rfl (r_nil (g_false rfl (g_skip (g_seq (g_region (La [.slice pp33 L32.length cc34] 1 ag_24 H47 0 (Sa H47 6 rfl #[.slice pp33 L32.length cc34] 1 sz_24 #[.slice pp33 L32.length cc34] (fun w48 H49 => Ag (.int .i64 0) (r_nil ?_))))))))))))))))))))))
  refine g_ret' [.agg #[.slice pp33 L32.length cc34], .int .i64 0] Tryz.func41 Tryz.results41 ⟨(res_cellN rfl ag_24 (H49.blk_at (i := 6) rfl) (nbl rfl) rfl), rfl, trivial⟩ ?_
  have H50 : St W w48 (_ :: _ :: _ :: (F.set i emp)) := (((((((H49.move 2 rfl).move 2 rfl).move 3 rfl).drop 3 rfl).drop 3 rfl).drop 3 rfl).drop 3 rfl)
  have H51 : St W w48 (_ :: (Im 6 (.slice pp33 L32.length cc34) L32.length (L32.flatMap bndCell) :: bndsA L32 :: F).set (i + 2) emp) := H50
  exact ⟨L32, _, _, _, by rw [he36]; rfl, hL37, hR38, hp39, St.back (i := i + 2) t44 H51⟩
 refine Mv (.tuple #[.agg #[.slice pp33 NN41 cc34], .int .i64 (qtE (remB bs p))]) (Ex (.agg #[.slice pp33 NN41 cc34]) (Ex (.int .i64 (qtE (remB bs p))) (rc (s_alloc H40 24 ze_24 rfl (fun bk52 w53 H54 => Sa H54 0 rfl #[.slice pp33 NN41 cc34] 1 sz_24 #[.slice pp33 NN41 cc34] (fun w55 H56 => Ag (.int .i64 (qtE (remB bs p))) (r_nil (g_seq (g_seq (g_region (Mv (.int .i64 (qtE (remB bs p))) (rc (s_neq true rfl rfl (nfalse t0) rfl (r_nil (g_true rfl (g_seq (g_region (Mv (.pointer (some ⟨b, 0, none⟩)) (La [.bool true, .slice pp11 bs.length cc12, .int .i64 ((p : Nat) : Int)] 3 ag_124 H56 2 (Nc (.pointer (some ⟨b, 0, none⟩)) ?_))))))))))))))))))))
 have H57 := H56.move 1 rfl
 obtain ⟨vv58, H59⟩ := St.open_ex H57
 have H60 := St.open_star H59
 obtain ⟨pp61, cc62, gA63, oA64, kA65, eA66, zA67, rfl, hn68, hp69, hx70, hs71, hml, H72⟩ := Im.open_ H60 (i := 1) rfl
 have H73 : St W w55 (_ :: _ :: _ :: _ :: _ :: _ :: _ :: (F.set i emp)) := H72
 refine Sa H73 1 rfl #[.bool true, .slice pp11 bs.length cc12, .int .i64 ((p : Nat) : Int)] 3 sz_124 #[.bool true, .slice pp11 bs.length cc12, .int .i64 ((p : Nat) : Int)] (fun w74 H75 => r_nil (g_seq (g_region (rc (s_build (cs := #[.slice none 0 0]) t7 rfl (Mv (.int .i64 (qtE (remB bs p))) (Sa H75 6 rfl #[.slice none 0 0] 1 sz_24 #[.slice none 0 0] (fun w76 H77 => Ag (.int .i64 (qtE (remB bs p))) (r_nil ?_)))))))))
 refine g_ret' [.agg #[.slice none 0 0], .int .i64 (qtE (remB bs p))] Tryz.func41 Tryz.results41 ⟨(res_cellN rfl ag_24 (H77.blk_at (i := 6) rfl) (nbl rfl) rfl), rfl, trivial⟩ ?_
 have H78 : St W w76 (_ :: _ :: _ :: _ :: _ :: _ :: (F.set i emp)) := (((((((H77.move 6 rfl).move 5 rfl).move 5 rfl).move 5 rfl).move 6 rfl).move 6 rfl).drop 6 rfl)
 have H79 : St W w76 (SrcA b bs p :: Im 1 (.slice pp61 bs.length cc62) bs.length (bs.flatMap u8c) :: blk bk52 (.cells #[.slice pp33 NN41 cc34] 24 (0, 0)) :: blk bk24 (.cells #[.bool true, .slice pp11 bs.length cc12, .int .i64 ((p : Nat) : Int)] 124 (0, 0)) :: blk bk1 (.cells #[.slice none 0 0] 24 (0, 0)) :: (F.set i emp)) := St.shut_ex (.slice pp11 bs.length cc12) (St.shut_star (ls := [blk b (.cells #[.bool true, .slice pp11 bs.length cc12, .int .i64 ((p : Nat) : Int)] 124 (0, 0)), Im 1 (.slice pp11 bs.length cc12) bs.length (bs.flatMap u8c)]) H78)
 have H80 := bndsA_nil H79
 have H81 := Row.im (Row.nil_intro H80 121 6) (i := 0) rfl
 have H82 : St W w76 (_ :: _ :: _ :: (F.set i emp)) := (((((((H81.move 1 rfl).move 1 rfl).move 2 rfl).drop 3 rfl).drop 3 rfl).drop 3 rfl).drop 3 rfl)
 have H83 : St W w76 (_ :: (Im 6 (.slice none 0 0) 0 [] :: bndsA ([] : List BoundD) :: F).set (i + 2) emp) := H82
 exact ⟨[], none, 0, p, rfl, by rw [qtV_no he36]; rfl, by rw [qtR_no he36], hp, St.back (i := i + 2) t44 H83⟩
set_option maxHeartbeats 4000000 in
set_option maxRecDepth 100000 in
theorem ir_nat {W w : World} {F : List Atom} (r b : Nat) (bs : List UInt8) (p : Nat) (X : RX) (hR : remB bs p = X.R) (hp : p ≤ 8 * bs.length) (hb : bs.length ≤ 140737488355328) (H : St W w (blk r (.cells #[.pointer (some ⟨b, 0, none⟩), .int .i64 X.e] 73 (0, 0)) :: SrcA b bs p :: F)) : Calls Tryz.prog 37 #[.pointer (some ⟨r, 0, none⟩)] w (Ret fun v w' => v = .int .u64 ((stN X).1 : Int) ∧ ∃ p', remB bs p' = ((stN X).2).R ∧ p' ≤ 8 * bs.length ∧ St W w' (blk r (.cells #[.pointer (some ⟨b, 0, none⟩), .int .i64 (((stN X).2).e)] 73 (0, 0)) :: SrcA b bs p' :: F)) := by
 refine calls_of_go (n := 23) Tryz.func37 rfl Tryz.ntmps37 rfl ?_
 refine g_seq (g_region (Ag (.int .u64 0) (r_nil (g_seq (g_seq (g_region (Mv (.pointer (some ⟨r, 0, none⟩)) (Nc (.pointer (some ⟨r, 0, none⟩)) (Fa 1 fi_73_1 rfl (Lo (.int .i64 X.e) ag_28 H 0 ?_))))))))))
 by_cases hc1 : X.e = 0
 ·refine rc (s_neq false rfl rfl (ntrue hc1) rfl (r_nil (g_false rfl (g_skip (g_seq (g_region (Mv (.pointer (some ⟨r, 0, none⟩)) (Nc (.pointer (some ⟨r, 0, none⟩)) (Fa 0 fi_73_0 rfl (Lo (.pointer (some ⟨b, 0, none⟩)) ag_70 H 0 (rc (s_call [.pointer (some ⟨b, 0, none⟩)] pl_75 rfl rfl (Src_Nat b bs p t4 t18   (i := 1) rfl H) ?_))))))))))))
  rintro _ w2 ⟨rfl, H3⟩
  refine Mv (.tuple #[.int .u64 (natU (remB bs p) : Int), .int .i64 (natE (remB bs p))]) (Ex (.int .u64 (natU (remB bs p) : Int)) (Ex (.int .i64 (natE (remB bs p))) (Ag (.int .u64 (natU (remB bs p) : Int)) (Ag (.int .i64 (natE (remB bs p))) (r_nil (g_seq (g_region (Mv (.pointer (some ⟨r, 0, none⟩)) (Mv (.int .i64 (natE (remB bs p))) (Nc (.pointer (some ⟨r, 0, none⟩)) (Fa 1 fi_73_1 rfl (rc (s_store H3 0 (.int .i64 (natE (remB bs p))) rfl rfl rfl sz_28 rfl (nbl rfl) rfl (cs' := #[.pointer (some ⟨b, 0, none⟩), .int .i64 (natE (remB bs p))]) rfl (fun w4 H5 => r_nil (g_seq (g_region (Mv (.int .u64 (natU (remB bs p) : Int)) (Ag (.int .u64 (natU (remB bs p) : Int)) (r_nil (Gr [.int .u64 (natU (remB bs p) : Int)] Tryz.func37 Tryz.results37 ?_))))))))))))))))))))
  have H6 : St W w4 (_ :: _ :: F) := ((H5.move 1 rfl).move 1 rfl)
  rw [stN_yes hc1, ← hR]
  exact ⟨rfl, p + natN (remB bs p), (remB_drop bs p _).symm, natN_pos hp, H6⟩
 refine rc (s_neq true rfl rfl (nfalse hc1) rfl (r_nil (g_true rfl (g_seq (g_region (Ag (.int .u64 0) (r_nil (Gr [.int .u64 0] Tryz.func37 Tryz.results37 ?_))))))))
 have H7 : St W w (_ :: _ :: F) := ((H.move 1 rfl).move 1 rfl)
 rw [stN_no hc1]
 exact ⟨rfl, p, hR, hp, H7⟩
set_option maxHeartbeats 4000000 in
set_option maxRecDepth 100000 in
theorem ir_bits {W w : World} {F : List Atom} (r b : Nat) (bs : List UInt8) (p : Nat) (X : RX) (hR : remB bs p = X.R) (hp : p ≤ 8 * bs.length) (hb : bs.length ≤ 140737488355328) (H : St W w (blk r (.cells #[.pointer (some ⟨b, 0, none⟩), .int .i64 X.e] 73 (0, 0)) :: SrcA b bs p :: F)) : Calls Tryz.prog 40 #[.pointer (some ⟨r, 0, none⟩), .int .i64 2] w (Ret fun v w' => v = .int .i64 ((stB 2 X).1 : Int) ∧ ∃ p', remB bs p' = ((stB 2 X).2).R ∧ p' ≤ 8 * bs.length ∧ St W w' (blk r (.cells #[.pointer (some ⟨b, 0, none⟩), .int .i64 (((stB 2 X).2).e)] 73 (0, 0)) :: SrcA b bs p' :: F)) := by
 refine calls_of_go (n := 27) Tryz.func40 rfl Tryz.ntmps40 rfl ?_
 refine g_seq (g_region (Ag (.int .i64 0) (r_nil (g_seq (g_seq (g_region (Mv (.pointer (some ⟨r, 0, none⟩)) (Nc (.pointer (some ⟨r, 0, none⟩)) (Fa 1 fi_73_1 rfl (Lo (.int .i64 X.e) ag_28 H 0 ?_))))))))))
 by_cases hc1 : X.e = 0
 ·refine rc (s_neq false rfl rfl (ntrue hc1) rfl (r_nil (g_false rfl (g_skip (g_seq (g_region (Mv (.pointer (some ⟨r, 0, none⟩)) (Nc (.pointer (some ⟨r, 0, none⟩)) (Fa 0 fi_73_0 rfl (Lo (.pointer (some ⟨b, 0, none⟩)) ag_70 H 0 (Mv (.int .i64 2) (rc (s_call [.pointer (some ⟨b, 0, none⟩), .int .i64 2] pl_76 rfl rfl (Src_Bits b bs p t4 t18 2  (i := 1) rfl H) ?_)))))))))))))
  rintro _ w2 ⟨rfl, H3⟩
  refine Mv (.tuple #[.int .u64 (srcU (remB bs p) 2 : Int), .int .i64 (srcE (remB bs p) 2)]) (Ex (.int .u64 (srcU (remB bs p) 2 : Int)) (Ex (.int .i64 (srcE (remB bs p) 2)) (Ag (.int .u64 (srcU (remB bs p) 2 : Int)) (Ag (.int .i64 (srcE (remB bs p) 2)) (r_nil (g_seq (g_region (Mv (.pointer (some ⟨r, 0, none⟩)) (Mv (.int .i64 (srcE (remB bs p) 2)) (Nc (.pointer (some ⟨r, 0, none⟩)) (Fa 1 fi_73_1 rfl (rc (s_store H3 0 (.int .i64 (srcE (remB bs p) 2)) rfl rfl rfl sz_28 rfl (nbl rfl) rfl (cs' := #[.pointer (some ⟨b, 0, none⟩), .int .i64 (srcE (remB bs p) 2)]) rfl (fun w4 H5 => r_nil (g_seq (g_region (Mv (.int .u64 (srcU (remB bs p) 2 : Int)) ?_)))))))))))))))))
  have hlt : srcU (remB bs p) 2 < 4 := srcU_lt_pow (k := 2)
  refine rc (s_conv (srcU (remB bs p) 2 : Int) rfl us_61 ik_3 (wi64 t0) rfl (Ag (.int .i64 (srcU (remB bs p) 2 : Int)) (r_nil (Gr [.int .i64 (srcU (remB bs p) 2 : Int)] Tryz.func40 Tryz.results40 ?_))))
  have H6 : St W w4 (_ :: _ :: F) := ((H5.move 1 rfl).move 1 rfl)
  rw [stB_yes hc1, ← hR]
  exact ⟨rfl, p + srcN (remB bs p) 2, (remB_drop bs p _).symm, srcN_pos hp, H6⟩
 refine rc (s_neq true rfl rfl (nfalse hc1) rfl (r_nil (g_true rfl (g_seq (g_region (Ag (.int .i64 0) (r_nil (Gr [.int .i64 0] Tryz.func40 Tryz.results40 ?_))))))))
 have H7 : St W w (_ :: _ :: F) := ((H.move 1 rfl).move 1 rfl)
 rw [stB_no hc1]
 exact ⟨rfl, p, hR, hp, H7⟩
set_option maxHeartbeats 4000000 in
set_option maxRecDepth 100000 in
theorem ir_wrong {W w : World} {F : List Atom} (r b : Nat) (X : RX) (x : Bool) (k : Int) {i : Nat} (hi : F[i]? = some (blk r (.cells #[.pointer (some ⟨b, 0, none⟩), .int .i64 X.e] 73 (0, 0)))) (H : St W w F) : Calls Tryz.prog 38 #[.pointer (some ⟨r, 0, none⟩), .bool x, .int .i64 k] w (Ret fun v w' => v = .tuple #[] ∧ St W w' (F.set i (blk r (.cells #[.pointer (some ⟨b, 0, none⟩), .int .i64 ((stW x k X).e)] 73 (0, 0))))) := by
 have H0 := H.front hi
 refine calls_of_go (n := 18) Tryz.func38 rfl Tryz.ntmps38 rfl ?_
 refine g_seq (g_region (Mv (.pointer (some ⟨r, 0, none⟩)) (Nc (.pointer (some ⟨r, 0, none⟩)) (Fa 1 fi_73_1 rfl (Lo (.int .i64 X.e) ag_28 H0 0 ?_)))))
 by_cases hc1 : X.e = 0
 ·refine rc (s_eql true rfl rfl (dtrue hc1) rfl (Mv (.bool true) (Rt (Mw (.bool x) (Pt (.bool x) (r_nil ?_))))))
  by_cases hb2 : (x) = true
  ·refine g_true (congrArg Value.bool hb2) (g_region (Mv (.pointer (some ⟨r, 0, none⟩)) (Mv (.int .i64 k) (Nc (.pointer (some ⟨r, 0, none⟩)) (Fa 1 fi_73_1 rfl (rc (s_store H0 0 (.int .i64 k) rfl rfl rfl sz_28 rfl (nbl rfl) rfl (cs' := #[.pointer (some ⟨b, 0, none⟩), .int .i64 k]) rfl (fun w3 H4 => r_nil ?_))))))))
   refine g_end' [] Tryz.func38 Tryz.results38 trivial ?_
   have H5 : St W w3 (_ :: (F.set i emp)) := H4
   exact ⟨rfl, by rw [stW_t hc1 hb2]; exact St.back hi H5⟩
  have hb2 := eq_false_of_ne_true hb2
  refine g_false (congrArg Value.bool hb2) (g_skip ?_)
  refine g_end' [] Tryz.func38 Tryz.results38 trivial ?_
  have H6 : St W w (_ :: (F.set i emp)) := H0
  exact ⟨rfl, by rw [stW_f hb2]; exact St.back hi H6⟩
 refine rc (s_eql false rfl rfl (dfalse hc1) rfl (Mv (.bool false) (Rp (Pf (.bool false) (r_nil (g_false rfl (g_skip ?_)))))))
 refine g_end' [] Tryz.func38 Tryz.results38 trivial ?_
 have H7 : St W w (_ :: (F.set i emp)) := H0
 exact ⟨rfl, by rw [stW_no hc1]; exact St.back hi H7⟩
set_option maxHeartbeats 4000000 in
set_option maxRecDepth 100000 in
theorem ir_end {W w : World} {F : List Atom} (r b : Nat) (bs : List UInt8) (p : Nat) (X : RX) (hR : remB bs p = X.R) (hp : p ≤ 8 * bs.length) (hb : bs.length ≤ 140737488355328) (H : St W w (blk r (.cells #[.pointer (some ⟨b, 0, none⟩), .int .i64 X.e] 73 (0, 0)) :: SrcA b bs p :: F)) : Calls Tryz.prog 42 #[.pointer (some ⟨r, 0, none⟩)] w (Ret fun v w' => v = .tuple #[] ∧ St W w' (blk r (.cells #[.pointer (some ⟨b, 0, none⟩), .int .i64 (if X.e = 0 then endE X.R else X.e)] 73 (0, 0)) :: SrcA b bs p :: F)) := by
 refine calls_of_go (n := 15) Tryz.func42 rfl Tryz.ntmps42 rfl ?_
 refine g_seq (g_region (Mv (.pointer (some ⟨r, 0, none⟩)) (Nc (.pointer (some ⟨r, 0, none⟩)) (Fa 1 fi_73_1 rfl (Lo (.int .i64 X.e) ag_28 H 0 ?_)))))
 by_cases hc1 : X.e = 0
 ·refine rc (s_eql true rfl rfl (dtrue hc1) rfl (r_nil (g_true rfl (g_region (Mv (.pointer (some ⟨r, 0, none⟩)) (Mv (.pointer (some ⟨r, 0, none⟩)) (Nc (.pointer (some ⟨r, 0, none⟩)) (Fa 0 fi_73_0 rfl (Lo (.pointer (some ⟨b, 0, none⟩)) ag_70 H 0 (rc (s_call [.pointer (some ⟨b, 0, none⟩)] pl_78 rfl rfl (Src_End b bs p t4 t18   (i := 1) rfl H) ?_)))))))))))
  rintro _ w2 ⟨rfl, H3⟩
  refine Nc (.pointer (some ⟨r, 0, none⟩)) (Fa 1 fi_73_1 rfl (rc (s_store H3 0 (.int .i64 (endE (remB bs p))) rfl rfl rfl sz_28 rfl (nbl rfl) rfl (cs' := #[.pointer (some ⟨b, 0, none⟩), .int .i64 (endE (remB bs p))]) rfl (fun w4 H5 => r_nil ?_))))
  refine g_end' [] Tryz.func42 Tryz.results42 trivial ?_
  have H6 : St W w4 (_ :: _ :: F) := ((H5.move 1 rfl).move 1 rfl)
  exact ⟨rfl, by rw [if_pos hc1, ← hR]; exact H6⟩
 refine rc (s_eql false rfl rfl (dfalse hc1) rfl (r_nil (g_false rfl (g_skip ?_))))
 refine g_end' [] Tryz.func42 Tryz.results42 trivial ?_
 have H7 : St W w (_ :: _ :: F) := ((H.move 1 rfl).move 1 rfl)
 exact ⟨rfl, by rw [if_neg hc1]; exact H7⟩
set_option maxHeartbeats 4000000 in
set_option maxRecDepth 100000 in
theorem migrate_clip {W w : World} {F : List Atom} (u : Nat) (hu : u < 18446744073709551616) (H : St W w F) : Calls Tryz.prog 39 #[.int .u64 (u : Int)] w (Ret fun v w' => v = .int .i64 (clipN u) ∧ St W w' F) := by
 refine calls_of_go (n := 7) Tryz.func39 rfl Tryz.ntmps39 rfl ?_
 refine g_seq (g_region (Ag (.int .i64 0) (r_nil (g_seq (g_seq (g_region (Mv (.int .u64 (u : Int)) ?_)))))))
 by_cases hc1 : (1099511627777 : Int) < (u : Int)
 ·refine rc (s_gtr true rfl rfl (dtrue hc1) rfl (r_nil (g_true rfl (g_seq (g_region (Ag (.int .i64 (-1)) (r_nil (Gr [.int .i64 (-1)] Tryz.func39 Tryz.results39 ?_))))))))
  have H2 : St W w F := H
  exact ⟨vint (by unfold clipN; first | (rw [if_pos t0]; done) | (rw [if_neg t0]; done)), H2⟩
 refine rc (s_gtr false rfl rfl (dfalse hc1) rfl (r_nil (g_false rfl (g_skip (g_seq (g_region (Mv (.int .u64 (u : Int)) (rc (s_conv (u : Int) rfl us_61 ik_2 (wi64 t0) rfl (Ag (.int .i64 (u : Int)) (r_nil (Gr [.int .i64 (u : Int)] Tryz.func39 Tryz.results39 ?_))))))))))))
 have H3 : St W w F := H
 exact ⟨vint (by unfold clipN; first | (rw [if_pos t0]; done) | (rw [if_neg t0]; done)), H3⟩
set_option maxHeartbeats 4000000 in
set_option maxRecDepth 100000 in
theorem migrate_ParseItem {W w : World} {F : List Atom} (A : Atom) (v0 : Value) (bs : List UInt8) (hA : RdA A 1 v0 bs.length (bs.flatMap u8c)) (hb : bs.length ≤ 140737488355328) {j : Nat} (hj : F[j]? = some A) (H : St W w F) : Calls Tryz.prog 7 #[v0] w (Ret fun v w' => ∃ x : ItemD, v = .tuple #[.agg #[.int .i64 x.op.v, .int .i64 x.inp.v, .int .i64 x.ep.v, .int .i64 x.kind.v, .slice x.p x.bs.length x.c, .int .i64 x.t.v], .int .i64 (ipE (remB bs 0))] ∧ x.v = ipV (remB bs 0) ∧ St W w' (BsA x :: bndsA x.bs :: F)) := by
 have hml := (hA _ _ _ j H hj).2
 obtain ⟨pp1, cc2, rfl, hn3⟩ := Rd.shape (hA _ _ _ j H hj).1
 obtain ⟨X0, hX0⟩ : ∃ X, X = (⟨0, (remB bs 0)⟩ : RX) := ⟨_, rfl⟩
 have hX0e : X0.e = 0 := by rw [hX0]
 have hR0 : (remB bs 0) = X0.R := by rw [hX0]
 refine calls_of_go (n := 93) Tryz.func7 rfl Tryz.ntmps7 rfl ?_
 refine g_seq (g_region (rc (s_alloc H 26 ze_26 rfl (fun bk4 w5 H6 => Ag (.int .i64 0) (r_nil (g_seq (g_region (Mv (.slice pp1 bs.length cc2) (rc (s_call [.slice pp1 bs.length cc2] pl_36 rfl rfl (NewSource _ _ bs (hA) (by first | omega | decide) (j := j + 1) (by exact hj) H6) ?_))))))))))
 rintro _ w8 ⟨bk7, rfl, H9⟩
 refine rc (s_build (cs := #[.pointer (some ⟨bk7, 0, none⟩), .int .i64 0]) t7 rfl (Bx H9 73 #[.pointer (some ⟨bk7, 0, none⟩), .int .i64 0] (fun bk10 w11 H12 => Ag (.pointer (some ⟨bk10, 0, none⟩)) (r_nil (g_seq (g_region ?_))))))
 have H13 : St W w11 (blk bk10 (.cells #[.pointer (some ⟨bk7, 0, none⟩), .int .i64 X0.e] 73 (0, 0)) :: SrcA bk7 bs 0 :: blk bk4 (.cells #[.int .i64 0, .int .i64 0, .int .i64 0, .int .i64 0, .slice none 0 0, .int .i64 0] 26 (0, 0)) :: F) := by rw [hX0e]; exact H12
 refine Mv (.pointer (some ⟨bk10, 0, none⟩)) (rc (s_call [.pointer (some ⟨bk10, 0, none⟩)] pl_37 rfl rfl (ir_nat bk10 bk7 bs 0 X0 hR0 (Nat.zero_le _) t0 H13) ?_))
 rintro _ w17 ⟨rfl, q14, hR15, hp16, H18⟩
 have H19 : St W w17 (_ :: _ :: _ :: F) := H18
 refine Ag (.int .u64 ((n1 X0).1 : Int)) (r_nil (g_seq (g_region (Mv (.pointer (some ⟨bk10, 0, none⟩)) (Mv (.int .u64 ((n1 X0).1 : Int)) (rc (s_gtr (big (n1 X0).1) rfl rfl ((by unfold big; exact decide_eq_decide.2 t0)) rfl (rc (s_call [.pointer (some ⟨bk10, 0, none⟩), .bool (big (n1 X0).1), .int .i64 243] pl_38 rfl rfl (ir_wrong bk10 bk7 ((n1 X0).2) (big (n1 X0).1) 243 (i := 0) rfl H19) ?_)))))))))
 rintro _ w20 ⟨rfl, H21⟩
 have H22 : St W w20 (_ :: _ :: _ :: F) := H21
 have hR23 : remB bs q14 = (j1 X0).R := hR15.trans (stW_R _ _ _).symm
 refine r_nil (g_seq (g_region (Mv (.pointer (some ⟨bk10, 0, none⟩)) (rc (s_call [.pointer (some ⟨bk10, 0, none⟩)] pl_37 rfl rfl (ir_nat bk10 bk7 bs q14 (j1 X0) hR23 hp16 t0 H22) ?_)))))
 rintro _ w27 ⟨rfl, q24, hR25, hp26, H28⟩
 have H29 : St W w27 (_ :: _ :: _ :: F) := H28
 refine Ag (.int .u64 ((n2 X0).1 : Int)) (r_nil (g_seq (g_region (Mv (.pointer (some ⟨bk10, 0, none⟩)) (Mv (.int .u64 ((n2 X0).1 : Int)) (rc (s_gtr (big (n2 X0).1) rfl rfl ((by unfold big; exact decide_eq_decide.2 t0)) rfl (rc (s_call [.pointer (some ⟨bk10, 0, none⟩), .bool (big (n2 X0).1), .int .i64 243] pl_38 rfl rfl (ir_wrong bk10 bk7 ((n2 X0).2) (big (n2 X0).1) 243 (i := 0) rfl H29) ?_)))))))))
 rintro _ w30 ⟨rfl, H31⟩
 have H32 : St W w30 (_ :: _ :: _ :: F) := H31
 have hR33 : remB bs q24 = (j2 X0).R := hR25.trans (stW_R _ _ _).symm
 refine r_nil (g_seq (g_region (Mv (.int .u64 ((n1 X0).1 : Int)) (rc (s_call [.int .u64 ((n1 X0).1 : Int)] pl_39 rfl rfl (migrate_clip ((n1 X0).1) stN_lt H32) ?_)))))
 rintro _ w34 ⟨rfl, H35⟩
 refine Mv (.int .u64 ((n2 X0).1 : Int)) (rc (s_call [.int .u64 ((n2 X0).1 : Int)] pl_39 rfl rfl (migrate_clip ((n2 X0).1) stN_lt H35) ?_))
 rintro _ w36 ⟨rfl, H37⟩
 refine Mv (.pointer (some ⟨bk10, 0, none⟩)) (rc (s_call [.pointer (some ⟨bk10, 0, none⟩)] pl_37 rfl rfl (ir_nat bk10 bk7 bs q24 (j2 X0) hR33 hp26 t0 H37) ?_))
 rintro _ w41 ⟨rfl, q38, hR39, hp40, H42⟩
 have H43 : St W w41 (_ :: _ :: _ :: F) := H42
 refine rc (s_call [.int .u64 ((n3 X0).1 : Int)] pl_39 rfl rfl (migrate_clip ((n3 X0).1) stN_lt H43) ?_)
 rintro _ w44 ⟨rfl, H45⟩
 refine rc (s_build (cs := #[.int .i64 (clipN ((n1 X0).1)), .int .i64 (clipN ((n2 X0).1)), .int .i64 (clipN ((n3 X0).1)), .int .i64 0, .slice none 0 0, .int .i64 0]) t7 rfl (rc (s_alloc H45 26 ze_26 rfl (fun bk46 w47 H48 => Sa H48 0 rfl #[.int .i64 (clipN ((n1 X0).1)), .int .i64 (clipN ((n2 X0).1)), .int .i64 (clipN ((n3 X0).1)), .int .i64 0, .slice none 0 0, .int .i64 0] 6 sz_26 #[.int .i64 (clipN ((n1 X0).1)), .int .i64 (clipN ((n2 X0).1)), .int .i64 (clipN ((n3 X0).1)), .int .i64 0, .slice none 0 0, .int .i64 0] (fun w49 H50 => r_nil (g_seq (g_region (Mv (.pointer (some ⟨bk10, 0, none⟩)) ?_))))))))
 have H51 : St W w49 (_ :: _ :: _ :: _ :: F) := ((H50.move 2 rfl).move 2 rfl)
 refine rc (s_call [.pointer (some ⟨bk10, 0, none⟩), .int .i64 2] pl_40 rfl rfl (ir_bits bk10 bk7 bs q38 ((n3 X0).2) hR39 hp40 t0 H51) ?_)
 rintro _ w55 ⟨rfl, q52, hR53, hp54, H56⟩
 have H57 : St W w55 (_ :: _ :: _ :: _ :: F) := H56
 refine Fa 3 fi_26_3 rfl (rc (s_store H57 2 (.int .i64 ((n4 X0).1 : Int)) rfl rfl rfl sz_3 rfl (nbl rfl) rfl (cs' := #[.int .i64 (clipN ((n1 X0).1)), .int .i64 (clipN ((n2 X0).1)), .int .i64 (clipN ((n3 X0).1)), .int .i64 ((n4 X0).1 : Int), .slice none 0 0, .int .i64 0]) rfl (fun w58 H59 => r_nil (g_seq (g_region (Mv (.pointer (some ⟨bk10, 0, none⟩)) (Fa 3 fi_26_3 rfl (Lo (.int .i64 ((n4 X0).1 : Int)) ag_3 H59 2 (rc (s_eql (decide ((n4 X0).1 = 0)) rfl rfl ((decide_eq_decide.2 t0)) rfl (rc (s_call [.pointer (some ⟨bk10, 0, none⟩), .bool (decide ((n4 X0).1 = 0)), .int .i64 243] pl_38 rfl rfl (ir_wrong bk10 bk7 ((n4 X0).2) (decide ((n4 X0).1 = 0)) 243 (i := 0) rfl H59) ?_))))))))))))
 rintro _ w60 ⟨rfl, H61⟩
 have H62 : St W w60 (_ :: _ :: _ :: _ :: F) := H61
 have hR63 : remB bs q52 = (j4 X0).R := hR53.trans (stW_R _ _ _).symm
 refine r_nil (g_seq ?_)
 refine g_cut (fun (x_ : Nat × (List BoundD) × (Option Addr) × Nat × Int) => match x_ with | (pM, LM, qM, cM, tM) => [(2, .pointer (some ⟨bk4, 0, none⟩)), (3, .int .i64 0), (4, .pointer (some ⟨bk10, 0, none⟩)), (7, .pointer (some ⟨bk46, 0, none⟩))]) (fun (x_ : Nat × (List BoundD) × (Option Addr) × Nat × Int) w => match x_ with | (pM, LM, qM, cM, tM) => (remB bs pM = (j5 X0).R) ∧ (pM ≤ 8 * bs.length) ∧ ((j5 X0).e = 0 → LM.map BoundD.v = (ival clipN X0).bs) ∧ ((j5 X0).e = 0 → tM = (ival clipN X0).t.v) ∧ St W w (blk bk10 (.cells #[.pointer (some ⟨bk7, 0, none⟩), .int .i64 ((j5 X0).e)] 73 (0, 0)) :: SrcA bk7 bs pM :: blk bk46 (.cells #[.int .i64 (clipN ((n1 X0).1)), .int .i64 (clipN ((n2 X0).1)), .int .i64 (clipN ((n3 X0).1)), .int .i64 ((n4 X0).1 : Int), .slice qM LM.length cM, .int .i64 tM] 26 (0, 0)) :: blk bk4 (.cells #[.int .i64 0, .int .i64 0, .int .i64 0, .int .i64 0, .slice none 0 0, .int .i64 0] 26 (0, 0)) :: Im 6 (.slice qM LM.length cM) LM.length (LM.flatMap bndCell) :: bndsA LM :: F)) ?_ ?_
 ·rintro ⟨pM, LM, qM, cM, tM⟩ ρ67 w65 ⟨hRM, hpM, hLM, htM, H66⟩
  change Ends _ _ (upds ρ67 [(2, .pointer (some ⟨bk4, 0, none⟩)), (3, .int .i64 0), (4, .pointer (some ⟨bk10, 0, none⟩)), (7, .pointer (some ⟨bk46, 0, none⟩))]) w65
  refine g_seq (g_region (Mv (.pointer (some ⟨bk10, 0, none⟩)) (rc (s_call [.pointer (some ⟨bk10, 0, none⟩)] pl_42 rfl rfl (ir_end bk10 bk7 bs pM (j5 X0) hRM hpM t0 H66) ?_))))
  rintro _ w68 ⟨rfl, H69⟩
  have H70 : St W w68 (_ :: _ :: _ :: _ :: _ :: _ :: F) := H69
  refine r_nil (g_seq (g_seq (g_region (Mv (.pointer (some ⟨bk10, 0, none⟩)) (Nc (.pointer (some ⟨bk10, 0, none⟩)) (Fa 1 fi_73_1 rfl (Lo (.int .i64 (j6 X0)) ag_28 H70 0 ?_)))))))
  by_cases hc71 : (j6 X0) = 0
  ·refine rc (s_eql true rfl rfl (dtrue hc71) rfl (r_nil (g_true rfl (g_region ?_))))
   have h5 : (j5 X0).e = 0 := Decidable.byContradiction fun hn => hn ((j6_no hn).symm.trans hc71)
   obtain ⟨x9, xv, x1, x2, x3, x4, x5, x6, x7, x8⟩ := it_made h5 (hLM h5) qM cM
   have xt := htM h5
   have H72 : St W w68 (blk bk10 (.cells #[.pointer (some ⟨bk7, 0, none⟩), .int .i64 (j6 X0)] 73 (0, 0)) :: SrcA bk7 bs pM :: blk bk46 (.cells #[.int .i64 x9.op.v, .int .i64 x9.inp.v, .int .i64 x9.ep.v, .int .i64 x9.kind.v, .slice x9.p x9.bs.length x9.c, .int .i64 x9.t.v] 26 (0, 0)) :: blk bk4 (.cells #[.int .i64 0, .int .i64 0, .int .i64 0, .int .i64 0, .slice none 0 0, .int .i64 0] 26 (0, 0)) :: Im 6 (.slice x9.p x9.bs.length x9.c) x9.bs.length (x9.bs.flatMap bndCell) :: bndsA x9.bs :: F) := by rw [x1, x2, x3, x4, x5, x6, x7, x8, ← xt]; exact H70
   refine Mv (.pointer (some ⟨bk10, 0, none⟩)) (La [.int .i64 x9.op.v, .int .i64 x9.inp.v, .int .i64 x9.ep.v, .int .i64 x9.kind.v, .slice x9.p x9.bs.length x9.c, .int .i64 x9.t.v] 6 ag_26 H72 2 (rc (s_call [.agg #[.int .i64 x9.op.v, .int .i64 x9.inp.v, .int .i64 x9.ep.v, .int .i64 x9.kind.v, .slice x9.p x9.bs.length x9.c, .int .i64 x9.t.v]] pl_10 rfl rfl (migrate_CheckItem x9 (ip := 4) rfl (iq := 5) rfl H72) ?_)))
   rintro _ w73 ⟨rfl, H74⟩
   refine Nc (.pointer (some ⟨bk10, 0, none⟩)) (Fa 1 fi_73_1 rfl (rc (s_store H74 0 (.int .i64 (itE x9)) rfl rfl rfl sz_28 rfl (nbl rfl) rfl (cs' := #[.pointer (some ⟨bk7, 0, none⟩), .int .i64 (itE x9)]) rfl (fun w75 H76 => r_nil (g_seq (g_seq (g_region (Mv (.pointer (some ⟨bk10, 0, none⟩)) (Nc (.pointer (some ⟨bk10, 0, none⟩)) (Fa 1 fi_73_1 rfl (Lo (.int .i64 (itE x9)) ag_28 H76 0 ?_)))))))))))
   by_cases hc77 : itE x9 = 0
   ·refine rc (s_neq false rfl rfl (ntrue hc77) rfl (r_nil (g_false rfl (g_skip (g_seq (g_region (La [.int .i64 x9.op.v, .int .i64 x9.inp.v, .int .i64 x9.ep.v, .int .i64 x9.kind.v, .slice x9.p x9.bs.length x9.c, .int .i64 x9.t.v] 6 ag_26 H76 2 (Sa H76 3 rfl #[.int .i64 x9.op.v, .int .i64 x9.inp.v, .int .i64 x9.ep.v, .int .i64 x9.kind.v, .slice x9.p x9.bs.length x9.c, .int .i64 x9.t.v] 6 sz_26 #[.int .i64 x9.op.v, .int .i64 x9.inp.v, .int .i64 x9.ep.v, .int .i64 x9.kind.v, .slice x9.p x9.bs.length x9.c, .int .i64 x9.t.v] (fun w78 H79 => Ag (.int .i64 0) (r_nil ?_))))))))))
    refine g_ret' [.agg #[.int .i64 x9.op.v, .int .i64 x9.inp.v, .int .i64 x9.ep.v, .int .i64 x9.kind.v, .slice x9.p x9.bs.length x9.c, .int .i64 x9.t.v], .int .i64 0] Tryz.func7 Tryz.results7 ⟨(res_cellN rfl ag_26 (H79.blk_at (i := 3) rfl) (nbl rfl) rfl), rfl, trivial⟩ ?_
    have hE : ipE (remB bs 0) = 0 := by rw [ip_yes (by rw [← hX0]; exact hc71), ← hX0, ← itE_of xv]; assumption
    have H80 : St W w78 (_ :: _ :: F) := ((((((H79.move 5 rfl).move 5 rfl).drop 2 rfl).drop 2 rfl).drop 2 rfl).drop 2 rfl)
    exact ⟨x9, by rw [hE]; rfl, by rw [ipV_yes hE, ← hX0]; exact xv, H80⟩
   refine rc (s_neq true rfl rfl (nfalse hc77) rfl (r_nil (g_true rfl (g_seq ?_))))
   have H81 : St W w75 (_ :: _ :: _ :: _ :: _ :: _ :: F) := ((((((H76.move 3 rfl).move 5 rfl).move 5 rfl).move 5 rfl).move 5 rfl).move 5 rfl)
   refine g_mix (fun t_ w => St W w (blk bk10 (.cells #[.pointer (some ⟨bk7, 0, none⟩), .int .i64 (itE x9)] 73 (0, 0)) :: SrcA bk7 bs pM :: blk bk46 (.cells #[.int .i64 x9.op.v, .int .i64 x9.inp.v, .int .i64 x9.ep.v, .int .i64 x9.kind.v, .slice x9.p x9.bs.length x9.c, .int .i64 x9.t.v] 26 (0, 0)) :: Im 6 (.slice x9.p x9.bs.length x9.c) x9.bs.length (x9.bs.flatMap bndCell) :: bndsA x9.bs :: t_)) (blk bk4 (.cells #[.int .i64 0, .int .i64 0, .int .i64 0, .int .i64 0, .slice none 0 0, .int .i64 0] 26 (0, 0)) :: F) mixed 7 rfl H81.drew ?_
   refine Fv 0 rfl (fun t_ w hw => x_build (cs := #[.int .i64 0, .int .i64 0, .int .i64 0, .int .i64 0, .slice none 0 0, .int .i64 0]) t7 w) (Fv 1 rfl (fun _ w _ => x_move (.pointer (some ⟨bk10, 0, none⟩)) rfl w) (Fv 2 rfl (fun t_ w hw => x_nilCheck (.pointer (some ⟨bk10, 0, none⟩)) rfl ⟨_, rfl⟩ w) (Fv 3 rfl (fun t_ w hw => x_fieldAddr 73 1 1 1 28 rfl fi_73_1 rfl w) (Fv 4 rfl (fun t_ w hw => x_load (.int .i64 (itE x9)) ag_28 rfl (hw.blk_at (i := 0) rfl) rfl) ?_))))
   refine f_all (rs := [5]) t7 t16 ?_
   refine a_cons ⟨_, rfl, ?_⟩ (fun x hx => absurd hx t16)
   intro w82 H83
   try dsimp only at H83
   refine s_storeAgg H83 5 #[.int .i64 0, .int .i64 0, .int .i64 0, .int .i64 0, .slice none 0 0, .int .i64 0] 6 rfl rfl rfl sz_26 rfl t26 (nbl rfl) (fun o h1 h2 => by first | (simp; done) | (simp; omega)) (cs' := #[.int .i64 0, .int .i64 0, .int .i64 0, .int .i64 0, .slice none 0 0, .int .i64 0]) rfl ?_; intro w84 H85
   refine ⟨blk bk4 (.cells #[.int .i64 0, .int .i64 0, .int .i64 0, .int .i64 0, .slice none 0 0, .int .i64 0] 26 (0, 0)) :: F, ?_, H85⟩
   change FReg _ _ _ _ _ #[true, true, true, true, true, true, false] _ _
   refine Fv 6 rfl (fun t_ w hw => x_assign (.int .i64 (itE x9)) rfl w) ?_
   refine f_done t7 ?_
   intro w86 H87
   refine g_ret' [.agg #[.int .i64 0, .int .i64 0, .int .i64 0, .int .i64 0, .slice none 0 0, .int .i64 0], .int .i64 (itE x9)] Tryz.func7 Tryz.results7 ⟨(res_cellN rfl ag_26 (H87.blk_at (i := 5) rfl) (nbl rfl) rfl), rfl, trivial⟩ ?_
   have hE : ipE (remB bs 0) = itE x9 := by rw [ip_yes (by rw [← hX0]; exact hc71), ← hX0, ← itE_of xv]
   have hE0 : ¬ ipE (remB bs 0) = 0 := by rw [hE]; assumption
   have H88 := bndsA_nil H87
   have H89 := Row.im (Row.nil_intro H88 121 6) (i := 0) rfl
   have H90 : St W w86 (_ :: _ :: F) := ((((((((H89.move 1 rfl).move 1 rfl).drop 2 rfl).drop 2 rfl).drop 2 rfl).drop 2 rfl).drop 2 rfl).drop 2 rfl)
   exact ⟨zeroD, by rw [hE]; rfl, by rw [ipV_no hE0]; rfl, H90⟩
  refine rc (s_eql false rfl rfl (dfalse hc71) rfl (r_nil (g_false rfl (g_skip (g_seq (g_seq (g_region (Mv (.pointer (some ⟨bk10, 0, none⟩)) (Nc (.pointer (some ⟨bk10, 0, none⟩)) (Fa 1 fi_73_1 rfl (Lo (.int .i64 (j6 X0)) ag_28 H70 0 (rc (s_neq true rfl rfl (nfalse t0) rfl (r_nil (g_true rfl (g_seq ?_))))))))))))))))
  have H91 : St W w68 (_ :: _ :: _ :: _ :: _ :: _ :: F) := ((((((H70.move 3 rfl).move 5 rfl).move 5 rfl).move 5 rfl).move 5 rfl).move 5 rfl)
  refine g_mix (fun t_ w => St W w (blk bk10 (.cells #[.pointer (some ⟨bk7, 0, none⟩), .int .i64 (j6 X0)] 73 (0, 0)) :: SrcA bk7 bs pM :: blk bk46 (.cells #[.int .i64 (clipN ((n1 X0).1)), .int .i64 (clipN ((n2 X0).1)), .int .i64 (clipN ((n3 X0).1)), .int .i64 ((n4 X0).1 : Int), .slice qM LM.length cM, .int .i64 tM] 26 (0, 0)) :: Im 6 (.slice qM LM.length cM) LM.length (LM.flatMap bndCell) :: bndsA LM :: t_)) (blk bk4 (.cells #[.int .i64 0, .int .i64 0, .int .i64 0, .int .i64 0, .slice none 0 0, .int .i64 0] 26 (0, 0)) :: F) mixed 7 rfl H91.drew ?_
  refine Fv 0 rfl (fun t_ w hw => x_build (cs := #[.int .i64 0, .int .i64 0, .int .i64 0, .int .i64 0, .slice none 0 0, .int .i64 0]) t7 w) (Fv 1 rfl (fun _ w _ => x_move (.pointer (some ⟨bk10, 0, none⟩)) rfl w) (Fv 2 rfl (fun t_ w hw => x_nilCheck (.pointer (some ⟨bk10, 0, none⟩)) rfl ⟨_, rfl⟩ w) (Fv 3 rfl (fun t_ w hw => x_fieldAddr 73 1 1 1 28 rfl fi_73_1 rfl w) (Fv 4 rfl (fun t_ w hw => x_load (.int .i64 (j6 X0)) ag_28 rfl (hw.blk_at (i := 0) rfl) rfl) ?_))))
  refine f_all (rs := [5]) t7 t16 ?_
  refine a_cons ⟨_, rfl, ?_⟩ (fun x hx => absurd hx t16)
  intro w92 H93
  try dsimp only at H93
  refine s_storeAgg H93 5 #[.int .i64 0, .int .i64 0, .int .i64 0, .int .i64 0, .slice none 0 0, .int .i64 0] 6 rfl rfl rfl sz_26 rfl t26 (nbl rfl) (fun o h1 h2 => by first | (simp; done) | (simp; omega)) (cs' := #[.int .i64 0, .int .i64 0, .int .i64 0, .int .i64 0, .slice none 0 0, .int .i64 0]) rfl ?_; intro w94 H95
  refine ⟨blk bk4 (.cells #[.int .i64 0, .int .i64 0, .int .i64 0, .int .i64 0, .slice none 0 0, .int .i64 0] 26 (0, 0)) :: F, ?_, H95⟩
  change FReg _ _ _ _ _ #[true, true, true, true, true, true, false] _ _
  refine Fv 6 rfl (fun t_ w hw => x_assign (.int .i64 (j6 X0)) rfl w) ?_
  refine f_done t7 ?_
  intro w96 H97
  refine g_ret' [.agg #[.int .i64 0, .int .i64 0, .int .i64 0, .int .i64 0, .slice none 0 0, .int .i64 0], .int .i64 (j6 X0)] Tryz.func7 Tryz.results7 ⟨(res_cellN rfl ag_26 (H97.blk_at (i := 5) rfl) (nbl rfl) rfl), rfl, trivial⟩ ?_
  have hE : ipE (remB bs 0) = (j6 X0) := by rw [ip_no (by rw [← hX0]; exact hc71), ← hX0]
  have hE0 : ¬ ipE (remB bs 0) = 0 := by rw [hE]; assumption
  have H98 := bndsA_nil H97
  have H99 := Row.im (Row.nil_intro H98 121 6) (i := 0) rfl
  have H100 : St W w96 (_ :: _ :: F) := ((((((((H99.move 1 rfl).move 1 rfl).drop 2 rfl).drop 2 rfl).drop 2 rfl).drop 2 rfl).drop 2 rfl).drop 2 rfl)
  exact ⟨zeroD, by rw [hE]; rfl, by rw [ipV_no hE0]; rfl, H100⟩
 intro join64
 refine g_block (g_seq (g_region (Mv (.pointer (some ⟨bk10, 0, none⟩)) (Nc (.pointer (some ⟨bk10, 0, none⟩)) (Fa 1 fi_73_1 rfl (Lo (.int .i64 ((j4 X0).e)) ag_28 H62 0 ?_))))))
 by_cases hc101 : (j4 X0).e = 0
 ·refine rc (s_neq false rfl rfl (ntrue hc101) rfl (Ag (.bool false) (r_nil (g_false rfl (g_seq (g_region (Fa 3 fi_26_3 rfl (Lo (.int .i64 ((n4 X0).1 : Int)) ag_3 H62 2 ?_))))))))
  by_cases hc102 : ((n4 X0).1 : Int) = 1
  ·refine rc (s_eql true rfl rfl (dtrue hc102) rfl (Ag (.bool true) (r_nil (g_true rfl (g_region (Mv (.pointer (some ⟨bk10, 0, none⟩)) (Mv (.pointer (some ⟨bk10, 0, none⟩)) (Nc (.pointer (some ⟨bk10, 0, none⟩)) (Fa 0 fi_73_0 rfl (Lo (.pointer (some ⟨bk7, 0, none⟩)) ag_70 H62 0 (rc (s_call [.pointer (some ⟨bk7, 0, none⟩)] pl_41 rfl rfl (match_Take bk7 bs q52 t4 t0 (i := 1) rfl H62) ?_))))))))))))
   rintro _ w110 ⟨L103, pp104, cc105, q106, rfl, hL107, hR108, hp109, H111⟩
   refine Mv (.tuple #[.agg #[.slice pp104 L103.length cc105], .int .i64 (qtE (remB bs q52))]) (Ex (.agg #[.slice pp104 L103.length cc105]) (Ex (.int .i64 (qtE (remB bs q52))) (Fa 4 fi_26_4 rfl (Sa H111 4 rfl #[.slice pp104 L103.length cc105] 1 sz_24 #[.int .i64 (clipN ((n1 X0).1)), .int .i64 (clipN ((n2 X0).1)), .int .i64 (clipN ((n3 X0).1)), .int .i64 ((n4 X0).1 : Int), .slice pp104 L103.length cc105, .int .i64 0] (fun w112 H113 => Nc (.pointer (some ⟨bk10, 0, none⟩)) (Fa 1 fi_73_1 rfl (rc (s_store H113 2 (.int .i64 (qtE (remB bs q52))) rfl rfl rfl sz_28 rfl (nbl rfl) rfl (cs' := #[.pointer (some ⟨bk7, 0, none⟩), .int .i64 (qtE (remB bs q52))]) rfl (fun w114 H115 => r_nil (g_inBlock ?_))))))))))
   have hk9 : (n4 X0).1 = 1 := by omega
   have h59 := j5_1 hc101 hk9
   have H116 : St W w114 (Im 6 (.slice pp104 L103.length cc105) L103.length (L103.flatMap bndCell) :: bndsA L103 :: blk bk10 (.cells #[.pointer (some ⟨bk7, 0, none⟩), .int .i64 ((j5 X0).e)] 73 (0, 0)) :: SrcA bk7 bs q106 :: blk bk46 (.cells #[.int .i64 (clipN ((n1 X0).1)), .int .i64 (clipN ((n2 X0).1)), .int .i64 (clipN ((n3 X0).1)), .int .i64 ((n4 X0).1 : Int), .slice pp104 L103.length cc105, .int .i64 0] 26 (0, 0)) :: blk bk4 (.cells #[.int .i64 0, .int .i64 0, .int .i64 0, .int .i64 0, .slice none 0 0, .int .i64 0] 26 (0, 0)) :: F) := by rw [h59, ← hR63]; exact H115
   have H117 : St W w114 (_ :: _ :: _ :: _ :: _ :: _ :: F) := ((((((H116.move 1 rfl).move 1 rfl).move 5 rfl).move 5 rfl).move 5 rfl).move 5 rfl)
   exact join64 (q106, L103, pp104, cc105, 0) _ _ ⟨(by rw [h59]; show remB bs _ = qtR (j4 X0).R; rw [hR108, hR63]), hp109, (fun _ => by rw [ival_bs1 hk9, hL107, hR63]), (fun _ => by rw [ival_t0 t0]), H117⟩ t2
  refine rc (s_eql false rfl rfl (dfalse hc102) rfl (Ag (.bool false) (r_nil (g_false rfl (g_seq (g_region (Fa 3 fi_26_3 rfl (Lo (.int .i64 ((n4 X0).1 : Int)) ag_3 H62 2 ?_))))))))
  by_cases hc118 : ((n4 X0).1 : Int) = 2
  ·refine rc (s_eql true rfl rfl (dtrue hc118) rfl (Ag (.bool true) (r_nil (g_true rfl (g_region (Mv (.pointer (some ⟨bk10, 0, none⟩)) (rc (s_call [.pointer (some ⟨bk10, 0, none⟩)] pl_37 rfl rfl (ir_nat bk10 bk7 bs q52 (j4 X0) hR63 hp54 t0 H62) ?_))))))))
   rintro _ w122 ⟨rfl, q119, hR120, hp121, H123⟩
   have H124 : St W w122 (_ :: _ :: _ :: _ :: F) := H123
   refine rc (s_call [.int .u64 ((stN (j4 X0)).1 : Int)] pl_39 rfl rfl (migrate_clip ((stN (j4 X0)).1) stN_lt H124) ?_)
   rintro _ w125 ⟨rfl, H126⟩
   refine Fa 5 fi_26_5 rfl (rc (s_store H126 2 (.int .i64 (clipN ((stN (j4 X0)).1))) rfl rfl rfl sz_2 rfl (nbl rfl) rfl (cs' := #[.int .i64 (clipN ((n1 X0).1)), .int .i64 (clipN ((n2 X0).1)), .int .i64 (clipN ((n3 X0).1)), .int .i64 ((n4 X0).1 : Int), .slice none 0 0, .int .i64 (clipN ((stN (j4 X0)).1))]) rfl (fun w127 H128 => r_nil (g_inBlock ?_))))
   have hk9 : (n4 X0).1 = 2 := by omega
   have h59 := j5_2 hc101 hk9
   have H129 : St W w127 (blk bk10 (.cells #[.pointer (some ⟨bk7, 0, none⟩), .int .i64 ((j5 X0).e)] 73 (0, 0)) :: SrcA bk7 bs q119 :: blk bk46 (.cells #[.int .i64 (clipN ((n1 X0).1)), .int .i64 (clipN ((n2 X0).1)), .int .i64 (clipN ((n3 X0).1)), .int .i64 ((n4 X0).1 : Int), .slice none 0 0, .int .i64 (clipN ((stN (j4 X0)).1))] 26 (0, 0)) :: blk bk4 (.cells #[.int .i64 0, .int .i64 0, .int .i64 0, .int .i64 0, .slice none 0 0, .int .i64 0] 26 (0, 0)) :: F) := by rw [h59]; exact H128
   have H130 := bndsA_nil H129
   have H131 := Row.im (Row.nil_intro H130 121 6) (i := 0) rfl
   have H132 : St W w127 (_ :: _ :: _ :: _ :: _ :: _ :: F) := ((((((H131.move 1 rfl).move 1 rfl).move 5 rfl).move 5 rfl).move 5 rfl).move 5 rfl)
   exact join64 (q119, ([] : List BoundD), none, 0, clipN ((stN (j4 X0)).1)) _ _ ⟨(by rw [h59]; exact hR120), hp121, (fun _ => by rw [ival_bs0 t0]; rfl), (fun _ => by rw [ival_t2c hk9]), H132⟩ t2
  refine rc (s_eql false rfl rfl (dfalse hc118) rfl (Ag (.bool false) (r_nil (g_false rfl (g_skip (g_inBlock ?_))))))
  have h59 := j5_3 (X := X0) t0 t0
  have H133 : St W w60 (blk bk10 (.cells #[.pointer (some ⟨bk7, 0, none⟩), .int .i64 ((j5 X0).e)] 73 (0, 0)) :: SrcA bk7 bs q52 :: blk bk46 (.cells #[.int .i64 (clipN ((n1 X0).1)), .int .i64 (clipN ((n2 X0).1)), .int .i64 (clipN ((n3 X0).1)), .int .i64 ((n4 X0).1 : Int), .slice none 0 0, .int .i64 0] 26 (0, 0)) :: blk bk4 (.cells #[.int .i64 0, .int .i64 0, .int .i64 0, .int .i64 0, .slice none 0 0, .int .i64 0] 26 (0, 0)) :: F) := by rw [h59]; exact H62
  have H134 := bndsA_nil H133
  have H135 := Row.im (Row.nil_intro H134 121 6) (i := 0) rfl
  have H136 : St W w60 (_ :: _ :: _ :: _ :: _ :: _ :: F) := ((((((H135.move 1 rfl).move 1 rfl).move 5 rfl).move 5 rfl).move 5 rfl).move 5 rfl)
  exact join64 (q52, ([] : List BoundD), none, 0, 0) _ _ ⟨(by rw [h59]; exact hR63), hp54, (fun _ => by rw [ival_bs0 t0]; rfl), (fun _ => by rw [ival_t0 t0]), H136⟩ t2
 refine rc (s_neq true rfl rfl (nfalse hc101) rfl (Ag (.bool true) (r_nil (g_true rfl (g_skip (g_inBlock ?_))))))
 have H137 : St W w60 (blk bk10 (.cells #[.pointer (some ⟨bk7, 0, none⟩), .int .i64 ((j5 X0).e)] 73 (0, 0)) :: SrcA bk7 bs q52 :: blk bk46 (.cells #[.int .i64 (clipN ((n1 X0).1)), .int .i64 (clipN ((n2 X0).1)), .int .i64 (clipN ((n3 X0).1)), .int .i64 ((n4 X0).1 : Int), .slice none 0 0, .int .i64 0] 26 (0, 0)) :: blk bk4 (.cells #[.int .i64 0, .int .i64 0, .int .i64 0, .int .i64 0, .slice none 0 0, .int .i64 0] 26 (0, 0)) :: F) := by rw [j5_no hc101]; exact H62
 have H138 := bndsA_nil H137
 have H139 := Row.im (Row.nil_intro H138 121 6) (i := 0) rfl
 have H140 : St W w60 (_ :: _ :: _ :: _ :: _ :: _ :: F) := ((((((H139.move 1 rfl).move 1 rfl).move 5 rfl).move 5 rfl).move 5 rfl).move 5 rfl)
 exact join64 (q52, ([] : List BoundD), none, 0, 0) _ _ ⟨(by rw [j5_no hc101]; exact hR63), hp54, (fun h_ => absurd (by rw [j5_no hc101] at h_; exact h_) hc101), (fun h_ => absurd (by rw [j5_no hc101] at h_; exact h_) hc101), H140⟩ t2
set_option maxHeartbeats 4000000 in
set_option maxRecDepth 100000 in
theorem ref10_take {W w : World} {F : List Atom} (b : Nat) (R : List Bool) (hRl : R.length ≤ 1125899906842624) {i : Nat} (hi : F[i]? = some (RSrc b R)) (H : St W w F) : Calls Tryz.prog 105 #[.pointer (some ⟨b, 0, none⟩)] w (Ret fun v w' => ((srcE R 4 = 0 ∧ ¬ 12 < srcU R 4 ∧ (rbs (srcU R 4) (R.drop (srcN R 4))).1 = 0) ∧ ∃ (L : List BoundD) (q : Option Addr) (c : Nat), v = .tuple #[.agg #[.slice q L.length c], .int .i64 0] ∧ L.map BoundD.v = (rbs (srcU R 4) (R.drop (srcN R 4))).2.1 ∧ St W w' (Im 6 (.slice q L.length c) L.length (L.flatMap bndCell) :: bndsA L :: F.set i (RSrc b (rbs (srcU R 4) (R.drop (srcN R 4))).2.2))) ∨ (∃ e : Int, ¬ e = 0 ∧ qtE R = e ∧ ∃ q n c R', v = .tuple #[.agg #[.slice q n c], .int .i64 e] ∧ St W w' (F.set i (RSrc b R')))) := by
 have H0 := H.front hi
 refine calls_of_go (n := 55) Tryz.func105 rfl Tryz.ntmps105 rfl ?_
 refine g_seq (g_region (rc (s_alloc H0 24 ze_24 rfl (fun bk1 w2 H3 => Ag (.int .i64 0) (r_nil (g_seq (g_region (rc (s_alloc H3 24 ze_24 rfl (fun bk4 w5 H6 => r_nil (g_seq (g_region (Mv (.pointer (some ⟨b, 0, none⟩)) (rc (s_call [.pointer (some ⟨b, 0, none⟩), .int .i64 4] pl_81 rfl rfl (RSrc_Bits b R 4  (i := 2) rfl H6) ?_)))))))))))))))
 rintro _ w7 ⟨rfl, H8⟩
 refine Mv (.tuple #[.int .u64 (srcU R 4 : Int), .int .i64 (srcE R 4)]) (Ex (.int .u64 (srcU R 4 : Int)) (Ex (.int .i64 (srcE R 4)) (Ag (.int .u64 (srcU R 4 : Int)) (Ag (.int .i64 (srcE R 4)) (r_nil (g_seq (g_seq (g_region (Mv (.int .i64 (srcE R 4)) ?_)))))))))
 by_cases hc9 : srcE R 4 = 0
 ·refine rc (s_neq false rfl rfl (ntrue hc9) rfl (r_nil (g_false rfl (g_skip (g_seq (g_seq (g_region (Mv (.int .u64 (srcU R 4 : Int)) ?_))))))))
  by_cases hc10 : (12 : Int) < (srcU R 4 : Int)
  ·refine rc (s_gtr true rfl rfl (dtrue hc10) rfl (r_nil (g_true rfl (g_seq (g_region (La [.slice none 0 0] 1 ag_24 H8 0 (Sa H8 1 rfl #[.slice none 0 0] 1 sz_24 #[.slice none 0 0] (fun w11 H12 => Ag (.int .i64 100) (r_nil ?_)))))))))
   refine g_ret' [.agg #[.slice none 0 0], .int .i64 100] Tryz.func105 Tryz.results105 ⟨(res_cellN rfl ag_24 (H12.blk_at (i := 1) rfl) (nbl rfl) rfl), rfl, trivial⟩ ?_
   have H13 : St W w11 (_ :: (F.set i emp)) := (((H12.move 2 rfl).drop 1 rfl).drop 1 rfl)
   exact .inr ⟨100, t10, qt_2 hc9 t0, _, _, _, _, rfl, St.back hi H13⟩
  refine rc (s_gtr false rfl rfl (dfalse hc10) rfl (r_nil (g_false rfl (g_skip (g_seq (g_seq (g_region (Ag (.int .u64 0) (r_nil (g_block ?_))))))))))
  have hs4 : srcE R 4 = 0 := hc9
  have H14 := Row.nil_intro H8 121 6
  have H15 := bndsA_nil H14
  have H16 : St W w7 (_ :: _ :: _ :: _ :: _ :: (F.set i emp)) := (((((H15.move 3 rfl).move 3 rfl).move 4 rfl).move 3 rfl).move 4 rfl)
  refine g_loop_inv (fun (x_ : Nat × (List BoundD) × (Option Addr) × Nat) => match x_ with | (j, pre, q, d) => [(0, .pointer (some ⟨b, 0, none⟩)), (2, .pointer (some ⟨bk1, 0, none⟩)), (3, .int .i64 0), (4, .pointer (some ⟨bk4, 0, none⟩)), (5, .int .u64 (srcU R 4 : Int)), (7, .int .u64 (j : Int))]) (fun (x_ : Nat × (List BoundD) × (Option Addr) × Nat) w => match x_ with | (j, pre, q, d) => (j ≤ srcU R 4) ∧ ((rbs j (R.drop (srcN R 4))).1 = 0) ∧ (pre.map BoundD.v = (rbs j (R.drop (srcN R 4))).2.1) ∧ St W w (Row 121 6 (.slice q pre.length d) pre.length (pre.flatMap bndCell) :: bndsA pre :: RSrc b ((rbs j (R.drop (srcN R 4))).2.2) :: blk bk4 (.cells #[.slice q pre.length d] 24 (0, 0)) :: blk bk1 (.cells #[.slice none 0 0] 24 (0, 0)) :: (F.set i emp))) (fun (x_ : Nat × (List BoundD) × (Option Addr) × Nat) => match x_ with | (j, pre, q, d) => srcU R 4 - j) (0, [], none, 0) ?_ ?_ ?_
  ·exact t2
  ·exact ⟨t0, rfl, rfl, H16⟩
  rintro ⟨j, pre, q, d⟩ ρ17 w18 ⟨hjn, hrj, hVj, H19⟩ nx20
  change Ends _ _ (upds ρ17 [(0, .pointer (some ⟨b, 0, none⟩)), (2, .pointer (some ⟨bk1, 0, none⟩)), (3, .int .i64 0), (4, .pointer (some ⟨bk4, 0, none⟩)), (5, .int .u64 (srcU R 4 : Int)), (7, .int .u64 (j : Int))]) w18
  have hpl := bv_len2 hVj
  have hrl := (rbs_len (R := R.drop (srcN R 4)) j).1
  have hlt4 : srcU R 4 < 16 := srcU_lt_pow (k := 4)
  have hl2 : (rbs j (R.drop (srcN R 4))).2.2.length ≤ 1125899906842624 := Nat.le_trans (rbs_len2 j) (by rw [List.length_drop]; omega)
  refine g_seq (g_seq (g_region (Mv (.int .u64 (j : Int)) (Mv (.int .u64 (srcU R 4 : Int)) ?_))))
  by_cases hc21 : (j : Int) < (srcU R 4 : Int)
  ·refine rc (s_lss true rfl rfl (dtrue hc21) rfl (r_nil (g_true rfl (g_skip (g_seq (g_block (g_seq (g_region (Mv (.pointer (some ⟨b, 0, none⟩)) (rc (s_call [.pointer (some ⟨b, 0, none⟩)] pl_118 rfl rfl (RSrc_Text b ((rbs j (R.drop (srcN R 4))).2.2)  t33 (i := 2) rfl H19) ?_)))))))))))
   rintro _ w22 ⟨rfl, H23⟩
   refine Mv (.tuple #[.string (textS ((rbs j (R.drop (srcN R 4))).2.2)), .int .i64 (textE ((rbs j (R.drop (srcN R 4))).2.2))]) (Ex (.string (textS ((rbs j (R.drop (srcN R 4))).2.2))) (Ex (.int .i64 (textE ((rbs j (R.drop (srcN R 4))).2.2))) (Ag (.string (textS ((rbs j (R.drop (srcN R 4))).2.2))) (Ag (.int .i64 (textE ((rbs j (R.drop (srcN R 4))).2.2))) (r_nil (g_seq (g_seq (g_region (Mv (.int .i64 (textE ((rbs j (R.drop (srcN R 4))).2.2))) ?_)))))))))
   by_cases hc24 : textE ((rbs j (R.drop (srcN R 4))).2.2) = 0
   ·refine rc (s_neq false rfl rfl (ntrue hc24) rfl (r_nil (g_false rfl (g_skip (g_seq (g_region (Mv (.pointer (some ⟨b, 0, none⟩)) (rc (s_call [.pointer (some ⟨b, 0, none⟩)] pl_119 rfl rfl (ref04_Take b (((rbs j (R.drop (srcN R 4))).2.2).drop (textN ((rbs j (R.drop (srcN R 4))).2.2))) (by first | assumption | omega | (simp only [List.length_drop, remB_len]; omega)) (i := 2) rfl H23) ?_)))))))))
    rintro _ w27 ⟨pp25, _, cc26, rfl, rfl, H28⟩
    refine Mv (.tuple #[.agg #[.int .i64 ((tkV (((rbs j (R.drop (srcN R 4))).2.2).drop (textN ((rbs j (R.drop (srcN R 4))).2.2)))).src.v), .int .i64 ((tkV (((rbs j (R.drop (srcN R 4))).2.2).drop (textN ((rbs j (R.drop (srcN R 4))).2.2)))).seq.v), .int .i64 ((tkV (((rbs j (R.drop (srcN R 4))).2.2).drop (textN ((rbs j (R.drop (srcN R 4))).2.2)))).time.v), .string ((tkV (((rbs j (R.drop (srcN R 4))).2.2).drop (textN ((rbs j (R.drop (srcN R 4))).2.2)))).typ.v), .slice pp25 ((tkV (((rbs j (R.drop (srcN R 4))).2.2).drop (textN ((rbs j (R.drop (srcN R 4))).2.2)))).attrs.length) cc26], .int .i64 (tkE (((rbs j (R.drop (srcN R 4))).2.2).drop (textN ((rbs j (R.drop (srcN R 4))).2.2))))]) (Ex (.agg #[.int .i64 ((tkV (((rbs j (R.drop (srcN R 4))).2.2).drop (textN ((rbs j (R.drop (srcN R 4))).2.2)))).src.v), .int .i64 ((tkV (((rbs j (R.drop (srcN R 4))).2.2).drop (textN ((rbs j (R.drop (srcN R 4))).2.2)))).seq.v), .int .i64 ((tkV (((rbs j (R.drop (srcN R 4))).2.2).drop (textN ((rbs j (R.drop (srcN R 4))).2.2)))).time.v), .string ((tkV (((rbs j (R.drop (srcN R 4))).2.2).drop (textN ((rbs j (R.drop (srcN R 4))).2.2)))).typ.v), .slice pp25 ((tkV (((rbs j (R.drop (srcN R 4))).2.2).drop (textN ((rbs j (R.drop (srcN R 4))).2.2)))).attrs.length) cc26]) (Ex (.int .i64 (tkE (((rbs j (R.drop (srcN R 4))).2.2).drop (textN ((rbs j (R.drop (srcN R 4))).2.2))))) (rc (s_alloc H28 119 ze_119 rfl (fun bk29 w30 H31 => Sa H31 0 rfl #[.int .i64 ((tkV (((rbs j (R.drop (srcN R 4))).2.2).drop (textN ((rbs j (R.drop (srcN R 4))).2.2)))).src.v), .int .i64 ((tkV (((rbs j (R.drop (srcN R 4))).2.2).drop (textN ((rbs j (R.drop (srcN R 4))).2.2)))).seq.v), .int .i64 ((tkV (((rbs j (R.drop (srcN R 4))).2.2).drop (textN ((rbs j (R.drop (srcN R 4))).2.2)))).time.v), .string ((tkV (((rbs j (R.drop (srcN R 4))).2.2).drop (textN ((rbs j (R.drop (srcN R 4))).2.2)))).typ.v), .slice pp25 ((tkV (((rbs j (R.drop (srcN R 4))).2.2).drop (textN ((rbs j (R.drop (srcN R 4))).2.2)))).attrs.length) cc26] 5 sz_119 #[.int .i64 ((tkV (((rbs j (R.drop (srcN R 4))).2.2).drop (textN ((rbs j (R.drop (srcN R 4))).2.2)))).src.v), .int .i64 ((tkV (((rbs j (R.drop (srcN R 4))).2.2).drop (textN ((rbs j (R.drop (srcN R 4))).2.2)))).seq.v), .int .i64 ((tkV (((rbs j (R.drop (srcN R 4))).2.2).drop (textN ((rbs j (R.drop (srcN R 4))).2.2)))).time.v), .string ((tkV (((rbs j (R.drop (srcN R 4))).2.2).drop (textN ((rbs j (R.drop (srcN R 4))).2.2)))).typ.v), .slice pp25 ((tkV (((rbs j (R.drop (srcN R 4))).2.2).drop (textN ((rbs j (R.drop (srcN R 4))).2.2)))).attrs.length) cc26] (fun w32 H33 => Ag (.int .i64 (tkE (((rbs j (R.drop (srcN R 4))).2.2).drop (textN ((rbs j (R.drop (srcN R 4))).2.2))))) (r_nil (g_seq (g_seq (g_region (Mv (.int .i64 (tkE (((rbs j (R.drop (srcN R 4))).2.2).drop (textN ((rbs j (R.drop (srcN R 4))).2.2))))) ?_)))))))))))
    by_cases hc34 : tkE (((rbs j (R.drop (srcN R 4))).2.2).drop (textN ((rbs j (R.drop (srcN R 4))).2.2))) = 0
    ·refine rc (s_neq false rfl rfl (ntrue hc34) rfl (r_nil (g_false rfl (g_skip (g_region (Fa 0 fi_24_0 rfl (Lo (.slice q pre.length d) ag_22 H33 5 (Mv (.string (textS ((rbs j (R.drop (srcN R 4))).2.2))) (La [.int .i64 ((tkV (((rbs j (R.drop (srcN R 4))).2.2).drop (textN ((rbs j (R.drop (srcN R 4))).2.2)))).src.v), .int .i64 ((tkV (((rbs j (R.drop (srcN R 4))).2.2).drop (textN ((rbs j (R.drop (srcN R 4))).2.2)))).seq.v), .int .i64 ((tkV (((rbs j (R.drop (srcN R 4))).2.2).drop (textN ((rbs j (R.drop (srcN R 4))).2.2)))).time.v), .string ((tkV (((rbs j (R.drop (srcN R 4))).2.2).drop (textN ((rbs j (R.drop (srcN R 4))).2.2)))).typ.v), .slice pp25 ((tkV (((rbs j (R.drop (srcN R 4))).2.2).drop (textN ((rbs j (R.drop (srcN R 4))).2.2)))).attrs.length) cc26] 5 ag_119 H33 0 (rc (s_build (cs := #[.string (textS ((rbs j (R.drop (srcN R 4))).2.2)), .int .i64 ((tkV (((rbs j (R.drop (srcN R 4))).2.2).drop (textN ((rbs j (R.drop (srcN R 4))).2.2)))).src.v), .int .i64 ((tkV (((rbs j (R.drop (srcN R 4))).2.2).drop (textN ((rbs j (R.drop (srcN R 4))).2.2)))).seq.v), .int .i64 ((tkV (((rbs j (R.drop (srcN R 4))).2.2).drop (textN ((rbs j (R.drop (srcN R 4))).2.2)))).time.v), .string ((tkV (((rbs j (R.drop (srcN R 4))).2.2).drop (textN ((rbs j (R.drop (srcN R 4))).2.2)))).typ.v), .slice pp25 ((tkV (((rbs j (R.drop (srcN R 4))).2.2).drop (textN ((rbs j (R.drop (srcN R 4))).2.2)))).attrs.length) cc26]) t7 rfl (rc (s_buildSlice H33 6 1 (cs := #[.string (textS ((rbs j (R.drop (srcN R 4))).2.2)), .int .i64 ((tkV (((rbs j (R.drop (srcN R 4))).2.2).drop (textN ((rbs j (R.drop (srcN R 4))).2.2)))).src.v), .int .i64 ((tkV (((rbs j (R.drop (srcN R 4))).2.2).drop (textN ((rbs j (R.drop (srcN R 4))).2.2)))).seq.v), .int .i64 ((tkV (((rbs j (R.drop (srcN R 4))).2.2).drop (textN ((rbs j (R.drop (srcN R 4))).2.2)))).time.v), .string ((tkV (((rbs j (R.drop (srcN R 4))).2.2).drop (textN ((rbs j (R.drop (srcN R 4))).2.2)))).typ.v), .slice pp25 ((tkV (((rbs j (R.drop (srcN R 4))).2.2).drop (textN ((rbs j (R.drop (srcN R 4))).2.2)))).attrs.length) cc26]) #[.string ByteArray.empty, .int .i64 0, .int .i64 0, .int .i64 0, .string ByteArray.empty, .slice none 0 0] el_22 ze_121 t10 t10 t7 rfl (fun bk35 w36 H37 => rc (s_append H37 3 rfl rfl rfl (rd_blk (H37.blk_at (i := 0) rfl) rfl (nbl rfl) t26) ap_22 t10 t15 t0 (n' := pre.length + 1) (xs' := pre.flatMap bndCell ++ ([.string (textS ((rbs j (R.drop (srcN R 4))).2.2)), .int .i64 ((tkV (((rbs j (R.drop (srcN R 4))).2.2).drop (textN ((rbs j (R.drop (srcN R 4))).2.2)))).src.v), .int .i64 ((tkV (((rbs j (R.drop (srcN R 4))).2.2).drop (textN ((rbs j (R.drop (srcN R 4))).2.2)))).seq.v), .int .i64 ((tkV (((rbs j (R.drop (srcN R 4))).2.2).drop (textN ((rbs j (R.drop (srcN R 4))).2.2)))).time.v), .string ((tkV (((rbs j (R.drop (srcN R 4))).2.2).drop (textN ((rbs j (R.drop (srcN R 4))).2.2)))).typ.v), .slice pp25 ((tkV (((rbs j (R.drop (srcN R 4))).2.2).drop (textN ((rbs j (R.drop (srcN R 4))).2.2)))).attrs.length) cc26] : List Value)) t0 t31 rfl ?_))))))))))))))); intro vv38 w39 H40 hn41
     obtain ⟨pp42, cc43, rfl⟩ := Row.slice H40 (i := 3) rfl
     refine Fa 0 fi_24_0 rfl (rc (s_store H40 6 (.slice pp42 (pre.length + 1) cc43) rfl rfl rfl sz_22 rfl (nbl rfl) rfl (cs' := #[.slice pp42 (pre.length + 1) cc43]) rfl (fun w44 H45 => r_nil (g_inBlock (g_region (Mv (.int .u64 (j : Int)) (rc (s_add ((j : Int) + 1) rfl rfl (wu64 t0) rfl (Ag (.int .u64 ((j : Int) + 1)) (r_nil ?_))))))))))
     have H46 : St W w44 (_ :: _ :: _ :: _ :: _ :: _ :: _ :: _ :: (F.set i emp)) := ((H45.move 4 rfl).move 3 rfl)
     have H47 : St W w44 (bndsA (pre ++ [(⟨str' (textS ((rbs j (R.drop (srcN R 4))).2.2)), ⟨tkV ((rbs j (R.drop (srcN R 4))).2.2.drop (textN (rbs j (R.drop (srcN R 4))).2.2)), pp25, cc26⟩⟩ : BoundD)]) :: blk bk35 (.cells #[.string (textS ((rbs j (R.drop (srcN R 4))).2.2)), .int .i64 ((tkV (((rbs j (R.drop (srcN R 4))).2.2).drop (textN ((rbs j (R.drop (srcN R 4))).2.2)))).src.v), .int .i64 ((tkV (((rbs j (R.drop (srcN R 4))).2.2).drop (textN ((rbs j (R.drop (srcN R 4))).2.2)))).seq.v), .int .i64 ((tkV (((rbs j (R.drop (srcN R 4))).2.2).drop (textN ((rbs j (R.drop (srcN R 4))).2.2)))).time.v), .string ((tkV (((rbs j (R.drop (srcN R 4))).2.2).drop (textN ((rbs j (R.drop (srcN R 4))).2.2)))).typ.v), .slice pp25 ((tkV (((rbs j (R.drop (srcN R 4))).2.2).drop (textN ((rbs j (R.drop (srcN R 4))).2.2)))).attrs.length) cc26] 121 (0, 0)) :: blk bk29 (.cells #[.int .i64 ((tkV (((rbs j (R.drop (srcN R 4))).2.2).drop (textN ((rbs j (R.drop (srcN R 4))).2.2)))).src.v), .int .i64 ((tkV (((rbs j (R.drop (srcN R 4))).2.2).drop (textN ((rbs j (R.drop (srcN R 4))).2.2)))).seq.v), .int .i64 ((tkV (((rbs j (R.drop (srcN R 4))).2.2).drop (textN ((rbs j (R.drop (srcN R 4))).2.2)))).time.v), .string ((tkV (((rbs j (R.drop (srcN R 4))).2.2).drop (textN ((rbs j (R.drop (srcN R 4))).2.2)))).typ.v), .slice pp25 ((tkV (((rbs j (R.drop (srcN R 4))).2.2).drop (textN ((rbs j (R.drop (srcN R 4))).2.2)))).attrs.length) cc26] 119 (0, 0)) :: Row 121 6 (.slice pp42 (pre.length + 1) cc43) (pre.length + 1) (pre.flatMap bndCell ++ ([.string (textS ((rbs j (R.drop (srcN R 4))).2.2)), .int .i64 ((tkV (((rbs j (R.drop (srcN R 4))).2.2).drop (textN ((rbs j (R.drop (srcN R 4))).2.2)))).src.v), .int .i64 ((tkV (((rbs j (R.drop (srcN R 4))).2.2).drop (textN ((rbs j (R.drop (srcN R 4))).2.2)))).seq.v), .int .i64 ((tkV (((rbs j (R.drop (srcN R 4))).2.2).drop (textN ((rbs j (R.drop (srcN R 4))).2.2)))).time.v), .string ((tkV (((rbs j (R.drop (srcN R 4))).2.2).drop (textN ((rbs j (R.drop (srcN R 4))).2.2)))).typ.v), .slice pp25 ((tkV (((rbs j (R.drop (srcN R 4))).2.2).drop (textN ((rbs j (R.drop (srcN R 4))).2.2)))).attrs.length) cc26] : List Value)) :: RSrc b (tkR (((rbs j (R.drop (srcN R 4))).2.2).drop (textN ((rbs j (R.drop (srcN R 4))).2.2)))) :: blk bk4 (.cells #[.slice pp42 (pre.length + 1) cc43] 24 (0, 0)) :: blk bk1 (.cells #[.slice none 0 0] 24 (0, 0)) :: (F.set i emp)) := bndsA_snoc (x := (⟨str' (textS ((rbs j (R.drop (srcN R 4))).2.2)), ⟨tkV ((rbs j (R.drop (srcN R 4))).2.2.drop (textN (rbs j (R.drop (srcN R 4))).2.2)), pp25, cc26⟩⟩ : BoundD)) H46
     obtain ⟨s1, s2, s3⟩ := rb_step hrj hVj rfl rfl hc24 hc34
     have hso : (str' (textS (rbs j (R.drop (srcN R 4))).2.2)).v = textS (rbs j (R.drop (srcN R 4))).2.2 := textS_ok hl2
     have H48 : St W w44 (bndsA (pre ++ [(⟨str' (textS ((rbs j (R.drop (srcN R 4))).2.2)), ⟨tkV ((rbs j (R.drop (srcN R 4))).2.2.drop (textN (rbs j (R.drop (srcN R 4))).2.2)), pp25, cc26⟩⟩ : BoundD)]) :: blk bk35 (.cells #[.string (textS ((rbs j (R.drop (srcN R 4))).2.2)), .int .i64 ((tkV (((rbs j (R.drop (srcN R 4))).2.2).drop (textN ((rbs j (R.drop (srcN R 4))).2.2)))).src.v), .int .i64 ((tkV (((rbs j (R.drop (srcN R 4))).2.2).drop (textN ((rbs j (R.drop (srcN R 4))).2.2)))).seq.v), .int .i64 ((tkV (((rbs j (R.drop (srcN R 4))).2.2).drop (textN ((rbs j (R.drop (srcN R 4))).2.2)))).time.v), .string ((tkV (((rbs j (R.drop (srcN R 4))).2.2).drop (textN ((rbs j (R.drop (srcN R 4))).2.2)))).typ.v), .slice pp25 ((tkV (((rbs j (R.drop (srcN R 4))).2.2).drop (textN ((rbs j (R.drop (srcN R 4))).2.2)))).attrs.length) cc26] 121 (0, 0)) :: blk bk29 (.cells #[.int .i64 ((tkV (((rbs j (R.drop (srcN R 4))).2.2).drop (textN ((rbs j (R.drop (srcN R 4))).2.2)))).src.v), .int .i64 ((tkV (((rbs j (R.drop (srcN R 4))).2.2).drop (textN ((rbs j (R.drop (srcN R 4))).2.2)))).seq.v), .int .i64 ((tkV (((rbs j (R.drop (srcN R 4))).2.2).drop (textN ((rbs j (R.drop (srcN R 4))).2.2)))).time.v), .string ((tkV (((rbs j (R.drop (srcN R 4))).2.2).drop (textN ((rbs j (R.drop (srcN R 4))).2.2)))).typ.v), .slice pp25 ((tkV (((rbs j (R.drop (srcN R 4))).2.2).drop (textN ((rbs j (R.drop (srcN R 4))).2.2)))).attrs.length) cc26] 119 (0, 0)) :: Row 121 6 (.slice pp42 ((pre ++ [(⟨str' (textS ((rbs j (R.drop (srcN R 4))).2.2)), ⟨tkV ((rbs j (R.drop (srcN R 4))).2.2.drop (textN (rbs j (R.drop (srcN R 4))).2.2)), pp25, cc26⟩⟩ : BoundD)]).length) cc43) ((pre ++ [(⟨str' (textS ((rbs j (R.drop (srcN R 4))).2.2)), ⟨tkV ((rbs j (R.drop (srcN R 4))).2.2.drop (textN (rbs j (R.drop (srcN R 4))).2.2)), pp25, cc26⟩⟩ : BoundD)]).length) ((pre ++ [(⟨str' (textS ((rbs j (R.drop (srcN R 4))).2.2)), ⟨tkV ((rbs j (R.drop (srcN R 4))).2.2.drop (textN (rbs j (R.drop (srcN R 4))).2.2)), pp25, cc26⟩⟩ : BoundD)]).flatMap bndCell) :: RSrc b ((rbs (j + 1) (R.drop (srcN R 4))).2.2) :: blk bk4 (.cells #[.slice pp42 ((pre ++ [(⟨str' (textS ((rbs j (R.drop (srcN R 4))).2.2)), ⟨tkV ((rbs j (R.drop (srcN R 4))).2.2.drop (textN (rbs j (R.drop (srcN R 4))).2.2)), pp25, cc26⟩⟩ : BoundD)]).length) cc43] 24 (0, 0)) :: blk bk1 (.cells #[.slice none 0 0] 24 (0, 0)) :: (F.set i emp)) := by rw [List.flatMap_append, List.length_append, ← s3, show ([(⟨str' (textS ((rbs j (R.drop (srcN R 4))).2.2)), ⟨tkV ((rbs j (R.drop (srcN R 4))).2.2.drop (textN (rbs j (R.drop (srcN R 4))).2.2)), pp25, cc26⟩⟩ : BoundD)] : List BoundD).flatMap bndCell = bndCell (⟨str' (textS ((rbs j (R.drop (srcN R 4))).2.2)), ⟨tkV ((rbs j (R.drop (srcN R 4))).2.2.drop (textN (rbs j (R.drop (srcN R 4))).2.2)), pp25, cc26⟩⟩ : BoundD) from by simp]; unfold bndCell; rw [hso]; exact H47
     have H49 : St W w44 (_ :: _ :: _ :: _ :: _ :: (F.set i emp)) := (((((((H48.move 6 rfl).move 6 rfl).move 6 rfl).move 3 rfl).move 6 rfl).drop 5 rfl).drop 5 rfl)
     exact nx20 (j + 1, (pre ++ [(⟨str' (textS ((rbs j (R.drop (srcN R 4))).2.2)), ⟨tkV ((rbs j (R.drop (srcN R 4))).2.2.drop (textN (rbs j (R.drop (srcN R 4))).2.2)), pp25, cc26⟩⟩ : BoundD)]), pp42, cc43) _ _ ⟨t0, s1, (by rw [List.map_append, List.map_singleton, ← s2]; rfl), H49⟩ t9 t2
    refine rc (s_neq true rfl rfl (nfalse hc34) rfl (r_nil (g_true rfl (g_seq (g_region (La [.slice q pre.length d] 1 ag_24 H33 5 (Mv (.int .i64 (tkE (((rbs j (R.drop (srcN R 4))).2.2).drop (textN ((rbs j (R.drop (srcN R 4))).2.2))))) (Sa H33 6 rfl #[.slice q pre.length d] 1 sz_24 #[.slice q pre.length d] (fun w50 H51 => Ag (.int .i64 (tkE (((rbs j (R.drop (srcN R 4))).2.2).drop (textN ((rbs j (R.drop (srcN R 4))).2.2))))) (r_nil ?_))))))))))
    refine g_ret' [.agg #[.slice q pre.length d], .int .i64 (tkE (((rbs j (R.drop (srcN R 4))).2.2).drop (textN ((rbs j (R.drop (srcN R 4))).2.2))))] Tryz.func105 Tryz.results105 ⟨(res_cellN rfl ag_24 (H51.blk_at (i := 6) rfl) (nbl rfl) rfl), rfl, trivial⟩ ?_
    have ht9 := rb_tk hrj rfl rfl hc24
    have H52 : St W w50 (_ :: (F.set i emp)) := (((((((H51.move 4 rfl).drop 1 rfl).drop 1 rfl).drop 1 rfl).drop 1 rfl).drop 1 rfl).drop 1 rfl)
    exact .inr ⟨tkE (((rbs j (R.drop (srcN R 4))).2.2).drop (textN ((rbs j (R.drop (srcN R 4))).2.2))), hc34, (qt_3 hs4 t0 rfl (j := j + 1) t0 (by rw [ht9]; exact hc34)).trans ht9, _, _, _, _, rfl, St.back hi H52⟩
   refine rc (s_neq true rfl rfl (nfalse hc24) rfl (r_nil (g_true rfl (g_seq (g_region (La [.slice q pre.length d] 1 ag_24 H23 3 (Mv (.int .i64 (textE ((rbs j (R.drop (srcN R 4))).2.2))) (Sa H23 4 rfl #[.slice q pre.length d] 1 sz_24 #[.slice q pre.length d] (fun w53 H54 => Ag (.int .i64 (textE ((rbs j (R.drop (srcN R 4))).2.2))) (r_nil ?_))))))))))
   refine g_ret' [.agg #[.slice q pre.length d], .int .i64 (textE ((rbs j (R.drop (srcN R 4))).2.2))] Tryz.func105 Tryz.results105 ⟨(res_cellN rfl ag_24 (H54.blk_at (i := 4) rfl) (nbl rfl) rfl), rfl, trivial⟩ ?_
   have ht9 := rb_text hrj rfl hc24
   have H55 : St W w53 (_ :: (F.set i emp)) := (((((H54.move 2 rfl).drop 1 rfl).drop 1 rfl).drop 1 rfl).drop 1 rfl)
   exact .inr ⟨textE ((rbs j (R.drop (srcN R 4))).2.2), hc24, (qt_3 hs4 t0 rfl (j := j + 1) t0 (by rw [ht9]; exact hc24)).trans ht9, _, _, _, _, rfl, St.back hi H55⟩
  refine rc (s_lss false rfl rfl (dfalse hc21) rfl (r_nil (g_false rfl (g_exit t40 (g_seq (g_region (La [.slice q pre.length d] 1 ag_24 H19 3 (Sa H19 4 rfl #[.slice q pre.length d] 1 sz_24 #[.slice q pre.length d] (fun w56 H57 => Ag (.int .i64 0) (r_nil ?_))))))))))
  refine g_ret' [.agg #[.slice q pre.length d], .int .i64 0] Tryz.func105 Tryz.results105 ⟨(res_cellN rfl ag_24 (H57.blk_at (i := 4) rfl) (nbl rfl) rfl), rfl, trivial⟩ ?_
  have hjj : j = srcU R 4 := by omega
  have H58 : St W w56 (Im 6 (.slice q pre.length d) pre.length (pre.flatMap bndCell) :: bndsA pre :: RSrc b ((rbs j (R.drop (srcN R 4))).2.2) :: blk bk4 (.cells #[.slice q pre.length d] 24 (0, 0)) :: blk bk1 (.cells #[.slice q pre.length d] 24 (0, 0)) :: (F.set i emp)) := Row.im H57 (i := 0) rfl
  have H59 : St W w56 (_ :: _ :: _ :: (F.set i emp)) := (((((H58.move 1 rfl).move 1 rfl).move 2 rfl).drop 3 rfl).drop 3 rfl)
  have H60 : St W w56 (_ :: (Im 6 (.slice q pre.length d) pre.length (pre.flatMap bndCell) :: bndsA pre :: F).set (i + 2) emp) := H59
  exact .inl ⟨⟨hs4, by omega, by rw [← hjj]; exact hrj⟩, pre, _, _, rfl, by rw [hVj, hjj], by have hx := St.back (i := i + 2) t44 H60; rw [hjj] at hx; exact hx⟩
 refine rc (s_neq true rfl rfl (nfalse hc9) rfl (r_nil (g_true rfl (g_seq (g_region (La [.slice none 0 0] 1 ag_24 H8 0 (Mv (.int .i64 (srcE R 4)) (Sa H8 1 rfl #[.slice none 0 0] 1 sz_24 #[.slice none 0 0] (fun w61 H62 => Ag (.int .i64 (srcE R 4)) (r_nil ?_))))))))))
 refine g_ret' [.agg #[.slice none 0 0], .int .i64 (srcE R 4)] Tryz.func105 Tryz.results105 ⟨(res_cellN rfl ag_24 (H62.blk_at (i := 1) rfl) (nbl rfl) rfl), rfl, trivial⟩ ?_
 have H63 : St W w61 (_ :: (F.set i emp)) := (((H62.move 2 rfl).drop 1 rfl).drop 1 rfl)
 exact .inr ⟨srcE R 4, hc9, qt_1 hc9, _, _, _, _, rfl, St.back hi H63⟩
set_option maxHeartbeats 4000000 in
set_option maxRecDepth 100000 in
theorem ref10_Take {W w : World} {F : List Atom} (b : Nat) (R : List Bool) (hRl : R.length ≤ 1125899906842624) {i : Nat} (hi : F[i]? = some (RSrc b R)) (H : St W w F) : Calls Tryz.prog 82 #[.pointer (some ⟨b, 0, none⟩)] w (Ret fun v w' => ∃ (L : List BoundD) (q : Option Addr) (c : Nat), v = .tuple #[.agg #[.slice q L.length c], .int .i64 (qtE R)] ∧ L.map BoundD.v = qtV R ∧ St W w' (Im 6 (.slice q L.length c) L.length (L.flatMap bndCell) :: bndsA L :: F.set i (RSrc b (qtR R)))) := by
 have H0 := H.front hi
 refine calls_of_go (n := 27) Tryz.func82 rfl Tryz.ntmps82 rfl ?_
 refine g_seq (g_region (rc (s_alloc H0 24 ze_24 rfl (fun bk1 w2 H3 => Ag (.int .i64 0) (r_nil (g_seq (g_region (Mv (.pointer (some ⟨b, 0, none⟩)) (Nc (.pointer (some ⟨b, 0, none⟩)) ?_)))))))))
 have H4 := H3.move 1 rfl
 obtain ⟨vv5, H6⟩ := St.open_ex H4
 have H7 := St.open_star H6
 obtain ⟨pp8, cc9, gA10, oA11, kA12, eA13, zA14, rfl, hn15, hp16, hx17, hs18, hml, H19⟩ := Im.open_ H7 (i := 1) rfl
 have H20 : St W w2 (_ :: _ :: _ :: _ :: (F.set i emp)) := H19
 refine La [.slice pp8 R.length cc9] 1 ag_129 H20 1 (rc (s_alloc H20 129 ze_129 rfl (fun bk21 w22 H23 => Sa H23 0 rfl #[.slice pp8 R.length cc9] 1 sz_129 #[.slice pp8 R.length cc9] (fun w24 H25 => r_nil (g_seq (g_region ?_))))))
 have H26 := H25.dup (i := 3) rfl (Im_pers _ _ _ _)
 refine Mv (.pointer (some ⟨b, 0, none⟩)) ?_
 have H27 : St W w24 (_ :: _ :: _ :: _ :: _ :: (F.set i emp)) := ((((((H26.move 5 rfl).move 5 rfl).move 3 rfl).move 3 rfl).move 5 rfl).drop 5 rfl)
 have H28 : St W w24 (RSrc b R :: blk bk21 (.cells #[.slice pp8 R.length cc9] 129 (0, 0)) :: Im 1 (.slice pp8 R.length cc9) R.length (R.flatMap blc) :: blk bk1 (.cells #[.slice none 0 0] 24 (0, 0)) :: (F.set i emp)) := St.shut_ex (.slice pp8 R.length cc9) (St.shut_star (ls := [blk b (.cells #[.slice pp8 R.length cc9] 129 (0, 0)), Im 1 (.slice pp8 R.length cc9) R.length (R.flatMap blc)]) H27)
 refine rc (s_call [.pointer (some ⟨b, 0, none⟩)] pl_105 rfl rfl (ref10_take b R t33 (i := 0) rfl H28) ?_)
 rintro _ w40 (⟨hs32, L29, pp30, cc31, rfl, hL33, H34⟩ | ⟨sx35, he36, hq37, pp30, NN38, cc31, RR39, rfl, H34⟩)
 ·refine Mv (.tuple #[.agg #[.slice pp30 L29.length cc31], .int .i64 0]) (Ex (.agg #[.slice pp30 L29.length cc31]) (Ex (.int .i64 0) (rc (s_alloc H34 24 ze_24 rfl (fun bk41 w42 H43 => Sa H43 0 rfl #[.slice pp30 L29.length cc31] 1 sz_24 #[.slice pp30 L29.length cc31] (fun w44 H45 => Ag (.int .i64 0) (r_nil (g_seq (g_seq (g_region (Mv (.int .i64 0) (rc (s_eql true rfl rfl (dtrue t10) rfl (r_nil (g_true rfl (g_region (La [.slice pp30 L29.length cc31] 1 ag_24 H45 0 (rc (s_call [.agg #[.slice pp30 L29.length cc31]] pl_50 rfl rfl (ref10_Check L29 _ (ip := 1) rfl (iq := 2) rfl H45) ?_)))))))))))))))))))
  rintro _ w46 ⟨rfl, H47⟩
  refine Ag (.int .i64 (ptE L29)) (r_nil (g_seq (g_seq (g_region (Mv (.int .i64 (ptE L29)) ?_)))))
  by_cases hc48 : ptE L29 = 0
  ·refine rc (s_neq false rfl rfl (ntrue hc48) rfl (r_nil (g_false rfl (g_skip (g_seq (g_region (La [.slice pp30 L29.length cc31] 1 ag_24 H47 0 (Sa H47 6 rfl #[.slice pp30 L29.length cc31] 1 sz_24 #[.slice pp30 L29.length cc31] (fun w49 H50 => Ag (.int .i64 0) (r_nil ?_))))))))))
   refine g_ret' [.agg #[.slice pp30 L29.length cc31], .int .i64 0] Tryz.func82 Tryz.results82 ⟨(res_cellN rfl ag_24 (H50.blk_at (i := 6) rfl) (nbl rfl) rfl), rfl, trivial⟩ ?_
   have hE : qtE R = ptE L29 := by rw [ptE_of hL33]; exact qt_4 hs32.1 hs32.2.1 rfl hs32.2.2
   have h0 : qtE R = 0 := by rw [hE]; exact hc48
   have H51 : St W w49 (_ :: _ :: _ :: (F.set i emp)) := (((((((H50.move 2 rfl).move 2 rfl).move 3 rfl).drop 3 rfl).drop 3 rfl).drop 3 rfl).drop 3 rfl)
   have H52 : St W w49 (_ :: (Im 6 (.slice pp30 L29.length cc31) L29.length (L29.flatMap bndCell) :: bndsA L29 :: F).set (i + 2) emp) := H51
   exact ⟨L29, _, _, by rw [h0]; rfl, by rw [hL33, qtV_yes h0 rfl], by rw [qtR_yes h0 rfl]; exact St.back (i := i + 2) t44 H52⟩
  refine rc (s_neq true rfl rfl (nfalse hc48) rfl (r_nil (g_true rfl (g_seq (g_region (Mv (.pointer (some ⟨b, 0, none⟩)) (La [.slice pp8 R.length cc9] 1 ag_129 H47 4 (Nc (.pointer (some ⟨b, 0, none⟩)) ?_))))))))
  have H53 := H47.move 3 rfl
  obtain ⟨vv54, H55⟩ := St.open_ex H53
  have H56 := St.open_star H55
  obtain ⟨pp57, cc58, gA59, oA60, kA61, eA62, zA63, rfl, hn64, hp65, hx66, hs67, hml, H68⟩ := Im.open_ H56 (i := 1) rfl
  have H69 : St W w46 (_ :: _ :: _ :: _ :: _ :: _ :: _ :: _ :: _ :: (F.set i emp)) := H68
  refine Sa H69 1 rfl #[.slice pp8 R.length cc9] 1 sz_129 #[.slice pp8 R.length cc9] (fun w70 H71 => r_nil (g_seq (g_region (rc (s_build (cs := #[.slice none 0 0]) t7 rfl (Mv (.int .i64 (ptE L29)) (Sa H71 8 rfl #[.slice none 0 0] 1 sz_24 #[.slice none 0 0] (fun w72 H73 => Ag (.int .i64 (ptE L29)) (r_nil ?_)))))))))
  refine g_ret' [.agg #[.slice none 0 0], .int .i64 (ptE L29)] Tryz.func82 Tryz.results82 ⟨(res_cellN rfl ag_24 (H73.blk_at (i := 8) rfl) (nbl rfl) rfl), rfl, trivial⟩ ?_
  have H74 : St W w72 (_ :: _ :: _ :: _ :: _ :: _ :: _ :: _ :: (F.set i emp)) := (((((((((H73.move 8 rfl).move 7 rfl).move 7 rfl).move 7 rfl).move 7 rfl).move 7 rfl).move 8 rfl).move 8 rfl).drop 8 rfl)
  have H75 : St W w72 (RSrc b R :: Im 1 (.slice pp57 (((rbs (srcU R 4) (R.drop (srcN R 4))).2.2).length) cc58) (((rbs (srcU R 4) (R.drop (srcN R 4))).2.2).length) (((rbs (srcU R 4) (R.drop (srcN R 4))).2.2).flatMap blc) :: blk bk41 (.cells #[.slice pp30 L29.length cc31] 24 (0, 0)) :: Im 6 (.slice pp30 L29.length cc31) L29.length (L29.flatMap bndCell) :: bndsA L29 :: blk bk21 (.cells #[.slice pp8 R.length cc9] 129 (0, 0)) :: blk bk1 (.cells #[.slice none 0 0] 24 (0, 0)) :: (F.set i emp)) := St.shut_ex (.slice pp8 R.length cc9) (St.shut_star (ls := [blk b (.cells #[.slice pp8 R.length cc9] 129 (0, 0)), Im 1 (.slice pp8 R.length cc9) R.length (R.flatMap blc)]) H74)
  have hE : qtE R = ptE L29 := by rw [ptE_of hL33]; exact qt_4 hs32.1 hs32.2.1 rfl hs32.2.2
  have h0 : ¬ qtE R = 0 := by rw [hE]; exact hc48
  have H76 := bndsA_nil H75
  have H77 := Row.im (Row.nil_intro H76 121 6) (i := 0) rfl
  have H78 : St W w72 (_ :: _ :: _ :: (F.set i emp)) := (((((((((H77.move 1 rfl).move 1 rfl).move 2 rfl).drop 3 rfl).drop 3 rfl).drop 3 rfl).drop 3 rfl).drop 3 rfl).drop 3 rfl)
  have H79 : St W w72 (_ :: (Im 6 (.slice none 0 0) 0 [] :: bndsA ([] : List BoundD) :: F).set (i + 2) emp) := H78
  exact ⟨[], none, 0, by rw [hE]; rfl, by rw [qtV_no h0]; rfl, by rw [qtR_no h0]; exact St.back (i := i + 2) t44 H79⟩
 refine Mv (.tuple #[.agg #[.slice pp30 NN38 cc31], .int .i64 sx35]) (Ex (.agg #[.slice pp30 NN38 cc31]) (Ex (.int .i64 sx35) (rc (s_alloc H34 24 ze_24 rfl (fun bk80 w81 H82 => Sa H82 0 rfl #[.slice pp30 NN38 cc31] 1 sz_24 #[.slice pp30 NN38 cc31] (fun w83 H84 => Ag (.int .i64 sx35) (r_nil (g_seq (g_seq (g_region (Mv (.int .i64 sx35) (rc (s_eql false rfl rfl (dfalse t0) rfl (r_nil (g_false rfl (g_skip (g_seq (g_seq (g_region (Mv (.int .i64 sx35) (rc (s_neq true rfl rfl (nfalse t0) rfl (r_nil (g_true rfl (g_seq (g_region (Mv (.pointer (some ⟨b, 0, none⟩)) (La [.slice pp8 R.length cc9] 1 ag_129 H84 2 (Nc (.pointer (some ⟨b, 0, none⟩)) ?_)))))))))))))))))))))))))))))
 have H85 := H84.move 1 rfl
 obtain ⟨vv86, H87⟩ := St.open_ex H85
 have H88 := St.open_star H87
 obtain ⟨pp89, cc90, gA91, oA92, kA93, eA94, zA95, rfl, hn96, hp97, hx98, hs99, hml, H100⟩ := Im.open_ H88 (i := 1) rfl
 have H101 : St W w83 (_ :: _ :: _ :: _ :: _ :: _ :: _ :: (F.set i emp)) := H100
 refine Sa H101 1 rfl #[.slice pp8 R.length cc9] 1 sz_129 #[.slice pp8 R.length cc9] (fun w102 H103 => r_nil (g_seq (g_region (rc (s_build (cs := #[.slice none 0 0]) t7 rfl (Mv (.int .i64 sx35) (Sa H103 6 rfl #[.slice none 0 0] 1 sz_24 #[.slice none 0 0] (fun w104 H105 => Ag (.int .i64 sx35) (r_nil ?_)))))))))
 refine g_ret' [.agg #[.slice none 0 0], .int .i64 sx35] Tryz.func82 Tryz.results82 ⟨(res_cellN rfl ag_24 (H105.blk_at (i := 6) rfl) (nbl rfl) rfl), rfl, trivial⟩ ?_
 have H106 : St W w104 (_ :: _ :: _ :: _ :: _ :: _ :: (F.set i emp)) := (((((((H105.move 6 rfl).move 5 rfl).move 5 rfl).move 5 rfl).move 6 rfl).move 6 rfl).drop 6 rfl)
 have H107 : St W w104 (RSrc b R :: Im 1 (.slice pp89 RR39.length cc90) RR39.length (RR39.flatMap blc) :: blk bk80 (.cells #[.slice pp30 NN38 cc31] 24 (0, 0)) :: blk bk21 (.cells #[.slice pp8 R.length cc9] 129 (0, 0)) :: blk bk1 (.cells #[.slice none 0 0] 24 (0, 0)) :: (F.set i emp)) := St.shut_ex (.slice pp8 R.length cc9) (St.shut_star (ls := [blk b (.cells #[.slice pp8 R.length cc9] 129 (0, 0)), Im 1 (.slice pp8 R.length cc9) R.length (R.flatMap blc)]) H106)
 have h0 : ¬ qtE R = 0 := by rw [hq37]; exact he36
 have H108 := bndsA_nil H107
 have H109 := Row.im (Row.nil_intro H108 121 6) (i := 0) rfl
 have H110 : St W w104 (_ :: _ :: _ :: (F.set i emp)) := (((((((H109.move 1 rfl).move 1 rfl).move 2 rfl).drop 3 rfl).drop 3 rfl).drop 3 rfl).drop 3 rfl)
 have H111 : St W w104 (_ :: (Im 6 (.slice none 0 0) 0 [] :: bndsA ([] : List BoundD) :: F).set (i + 2) emp) := H110
 exact ⟨[], none, 0, by rw [hq37]; rfl, by rw [qtV_no h0]; rfl, by rw [qtR_no h0]; exact St.back (i := i + 2) t44 H111⟩
set_option maxHeartbeats 4000000 in
set_option maxRecDepth 100000 in
theorem ref24_nats {W w : World} {F : List Atom} (b : Nat) (R : List Bool) (hRl : R.length ≤ 1125899906842624) {i : Nat} (hi : F[i]? = some (RSrc b R)) (H : St W w F) : Calls Tryz.prog 79 #[.pointer (some ⟨b, 0, none⟩), .int .i64 2, .int .u64 1099511627776, .int .i64 243] w (Ret fun v w' => ((j2 (⟨0, R⟩ : RX)).e = 0 ∧ ∃ p c, v = .tuple #[.slice p (natsL (⟨0, R⟩ : RX)).length c, .int .i64 0] ∧ St W w' (Im 1 (.slice p (natsL (⟨0, R⟩ : RX)).length c) (natsL (⟨0, R⟩ : RX)).length ((natsL (⟨0, R⟩ : RX)).flatMap n64c) :: F.set i (RSrc b (j2 (⟨0, R⟩ : RX)).R))) ∨ (¬ (j2 (⟨0, R⟩ : RX)).e = 0 ∧ ∃ p n c R', v = .tuple #[.slice p n c, .int .i64 (j2 (⟨0, R⟩ : RX)).e] ∧ St W w' (F.set i (RSrc b R')))) := by
 have H0 := H.front hi
 refine calls_of_go (n := 37) Tryz.func79 rfl Tryz.ntmps79 rfl ?_
 refine g_seq (g_region (Ag (.slice none 0 0) (Ag (.int .i64 0) (r_nil (g_seq (g_region (Ag (.slice none 0 0) (r_nil (g_seq (g_seq (g_region (Ag (.int .i64 0) (r_nil (g_block ?_))))))))))))))
 refine g_loop ?_
 refine g_seq (g_seq (g_region (Mv (.int .i64 0) (Mv (.int .i64 2) (rc (s_lss true rfl rfl (dtrue t10) rfl (r_nil (g_true rfl (g_skip (g_seq (g_block (g_seq (g_region (Mv (.pointer (some ⟨b, 0, none⟩)) (rc (s_call [.pointer (some ⟨b, 0, none⟩)] pl_80 rfl rfl (RSrc_Nat b R   (i := 0) rfl H0) ?_))))))))))))))))
 rintro _ w1 ⟨rfl, H2⟩
 refine Mv (.tuple #[.int .u64 (natU R : Int), .int .i64 (natE R)]) (Ex (.int .u64 (natU R : Int)) (Ex (.int .i64 (natE R)) (Ag (.int .u64 (natU R : Int)) (Ag (.int .i64 (natE R)) (r_nil (g_seq (g_seq (g_region (Mv (.int .i64 (natE R)) ?_)))))))))
 by_cases hc3 : natE R = 0
 ·refine rc (s_neq false rfl rfl (ntrue hc3) rfl (r_nil (g_false rfl (g_skip (g_seq (g_seq (g_region (Mv (.int .u64 (natU R : Int)) (Mv (.int .u64 1099511627776) ?_)))))))))
  by_cases hc4 : (1099511627776 : Int) < (natU R : Int)
  ·refine rc (s_gtr true rfl rfl (dtrue hc4) rfl (r_nil (g_true rfl (g_seq (g_region (Mv (.int .i64 243) (Ag (.slice none 0 0) (Ag (.int .i64 243) (r_nil (Gr [.slice none 0 0, .int .i64 243] Tryz.func79 Tryz.results79 ?_))))))))))
   have H5 : St W w1 (_ :: (F.set i emp)) := H2
   have hE : (j2 (⟨0, R⟩ : RX)).e = 243 := ns_2 hc3 t0
   exact .inr ⟨by rw [hE]; first | assumption | decide, _, _, _, _, by rw [hE]; rfl, St.back hi H5⟩
  refine rc (s_gtr false rfl rfl (dfalse hc4) rfl (r_nil (g_false rfl (g_skip (g_region (Mv (.slice none 0 0) (Mv (.int .u64 (natU R : Int)) (rc (s_conv (natU R : Int) rfl us_61 ik_2 (wi64 t0) rfl (rc (s_buildSlice H2 1 1 (cs := #[.int .i64 (natU R : Int)]) #[.int .i64 0] el_130 ze_2 t10 t10 t7 rfl ?_))))))))))); intro bk6 w7 H8
  have H9 := Row.nil_intro H8 2 1
  refine rc (s_append H9 0 rfl rfl rfl (rd_blk (H9.blk_at (i := 1) rfl) rfl (nbl rfl) t26) ap_130 t10 t15 t0 (n' := 1) (xs' := [.int .i64 (natU R : Int)]) t0 t31 rfl ?_); intro vv10 w11 H12 hn13
  obtain ⟨pp14, cc15, rfl⟩ := Row.slice H12 (i := 0) rfl
  refine Ag (.slice pp14 1 cc15) (r_nil (g_inBlock (g_region (Mv (.int .i64 0) (rc (s_add 1 rfl rfl (wi64 t0) rfl (Ag (.int .i64 1) (r_nil (g_inLoop (g_seq (g_seq (g_region (Mv (.int .i64 1) (Mv (.int .i64 2) (rc (s_lss true rfl rfl (dtrue t10) rfl (r_nil (g_true rfl (g_skip (g_seq (g_block (g_seq (g_region (Mv (.pointer (some ⟨b, 0, none⟩)) (rc (s_call [.pointer (some ⟨b, 0, none⟩)] pl_80 rfl rfl (RSrc_Nat b (R.drop (natN R))   (i := 2) rfl H12) ?_))))))))))))))))))))))))))
  rintro _ w16 ⟨rfl, H17⟩
  refine Mv (.tuple #[.int .u64 (natU (R.drop (natN R)) : Int), .int .i64 (natE (R.drop (natN R)))]) (Ex (.int .u64 (natU (R.drop (natN R)) : Int)) (Ex (.int .i64 (natE (R.drop (natN R)))) (Ag (.int .u64 (natU (R.drop (natN R)) : Int)) (Ag (.int .i64 (natE (R.drop (natN R)))) (r_nil (g_seq (g_seq (g_region (Mv (.int .i64 (natE (R.drop (natN R)))) ?_)))))))))
  by_cases hc18 : natE (R.drop (natN R)) = 0
  ·refine rc (s_neq false rfl rfl (ntrue hc18) rfl (r_nil (g_false rfl (g_skip (g_seq (g_seq (g_region (Mv (.int .u64 (natU (R.drop (natN R)) : Int)) (Mv (.int .u64 1099511627776) ?_)))))))))
   by_cases hc19 : (1099511627776 : Int) < (natU (R.drop (natN R)) : Int)
   ·refine rc (s_gtr true rfl rfl (dtrue hc19) rfl (r_nil (g_true rfl (g_seq (g_region (Mv (.int .i64 243) (Ag (.slice none 0 0) (Ag (.int .i64 243) (r_nil (Gr [.slice none 0 0, .int .i64 243] Tryz.func79 Tryz.results79 ?_))))))))))
    have H20 : St W w16 (_ :: (F.set i emp)) := (((H17.move 2 rfl).drop 1 rfl).drop 1 rfl)
    have hE : (j2 (⟨0, R⟩ : RX)).e = 243 := ns_4 hc3 t0 rfl hc18 t0
    exact .inr ⟨by rw [hE]; first | assumption | decide, _, _, _, _, by rw [hE]; rfl, St.back hi H20⟩
   refine rc (s_gtr false rfl rfl (dfalse hc19) rfl (r_nil (g_false rfl (g_skip (g_region (Mv (.slice pp14 1 cc15) (Mv (.int .u64 (natU (R.drop (natN R)) : Int)) (rc (s_conv (natU (R.drop (natN R)) : Int) rfl us_61 ik_2 (wi64 t0) rfl (rc (s_buildSlice H17 1 1 (cs := #[.int .i64 (natU (R.drop (natN R)) : Int)]) #[.int .i64 0] el_130 ze_2 t10 t10 t7 rfl (fun bk21 w22 H23 => rc (s_append H23 1 rfl rfl rfl (rd_blk (H23.blk_at (i := 0) rfl) rfl (nbl rfl) t26) ap_130 t10 t15 t0 (n' := 2) (xs' := [.int .i64 (natU R : Int)] ++ ([.int .i64 (natU (R.drop (natN R)) : Int)] : List Value)) t0 t31 rfl ?_))))))))))))); intro vv24 w25 H26 hn27
   obtain ⟨pp28, cc29, rfl⟩ := Row.slice H26 (i := 1) rfl
   refine Ag (.slice pp28 2 cc29) (r_nil (g_inBlock (g_region (Mv (.int .i64 1) (rc (s_add 2 rfl rfl (wi64 t0) rfl (Ag (.int .i64 2) (r_nil (g_inLoop (g_seq (g_seq (g_region (Mv (.int .i64 2) (Mv (.int .i64 2) (rc (s_lss false rfl rfl (dfalse t10) rfl (r_nil (g_false rfl (g_exit t40 (g_seq (g_region (Mv (.slice pp28 2 cc29) (Ag (.slice pp28 2 cc29) (Ag (.int .i64 0) (r_nil (Gr [.slice pp28 2 cc29, .int .i64 0] Tryz.func79 Tryz.results79 ?_))))))))))))))))))))))))))
   obtain ⟨k1, k2, k3⟩ := ns_0 hc3 t0 rfl hc18 t0
   have H30 : St W w25 (blk bk21 (.cells #[.int .i64 (natU (R.drop (natN R)) : Int)] 2 (0, 0)) :: Row 2 1 (.slice pp28 ((natsL (⟨0, R⟩ : RX)).length) cc29) ((natsL (⟨0, R⟩ : RX)).length) ((natsL (⟨0, R⟩ : RX)).flatMap n64c) :: blk bk6 (.cells #[.int .i64 (natU R : Int)] 2 (0, 0)) :: RSrc b ((j2 (⟨0, R⟩ : RX)).R) :: (F.set i emp)) := by rw [k2, k3]; exact H26
   have H31 : St W w25 (blk bk21 (.cells #[.int .i64 (natU (R.drop (natN R)) : Int)] 2 (0, 0)) :: Im 1 (.slice pp28 ((natsL (⟨0, R⟩ : RX)).length) cc29) ((natsL (⟨0, R⟩ : RX)).length) ((natsL (⟨0, R⟩ : RX)).flatMap n64c) :: blk bk6 (.cells #[.int .i64 (natU R : Int)] 2 (0, 0)) :: RSrc b ((j2 (⟨0, R⟩ : RX)).R) :: (F.set i emp)) := Row.im H30 (i := 1) rfl
   have H32 : St W w25 (_ :: _ :: (F.set i emp)) := ((((H31.move 1 rfl).move 3 rfl).drop 2 rfl).drop 2 rfl)
   have H33 : St W w25 (_ :: (Im 1 (.slice pp28 ((natsL (⟨0, R⟩ : RX)).length) cc29) ((natsL (⟨0, R⟩ : RX)).length) ((natsL (⟨0, R⟩ : RX)).flatMap n64c) :: F).set (i + 1) emp) := H32
   exact .inl ⟨k1, _, _, rfl, St.back (i := i + 1) t44 H33⟩
  refine rc (s_neq true rfl rfl (nfalse hc18) rfl (r_nil (g_true rfl (g_seq (g_region (Mv (.int .i64 (natE (R.drop (natN R)))) (Ag (.slice none 0 0) (Ag (.int .i64 (natE (R.drop (natN R)))) (r_nil (Gr [.slice none 0 0, .int .i64 (natE (R.drop (natN R)))] Tryz.func79 Tryz.results79 ?_))))))))))
  have H34 : St W w16 (_ :: (F.set i emp)) := (((H17.move 2 rfl).drop 1 rfl).drop 1 rfl)
  have hE : (j2 (⟨0, R⟩ : RX)).e = natE (R.drop (natN R)) := ns_3 hc3 t0 rfl hc18
  exact .inr ⟨by rw [hE]; first | assumption | decide, _, _, _, _, by rw [hE]; rfl, St.back hi H34⟩
 refine rc (s_neq true rfl rfl (nfalse hc3) rfl (r_nil (g_true rfl (g_seq (g_region (Mv (.int .i64 (natE R)) (Ag (.slice none 0 0) (Ag (.int .i64 (natE R)) (r_nil (Gr [.slice none 0 0, .int .i64 (natE R)] Tryz.func79 Tryz.results79 ?_))))))))))
 have H35 : St W w1 (_ :: (F.set i emp)) := H2
 have hE : (j2 (⟨0, R⟩ : RX)).e = natE R := ns_1 hc3
 exact .inr ⟨by rw [hE]; first | assumption | decide, _, _, _, _, by rw [hE]; rfl, St.back hi H35⟩
set_option maxHeartbeats 4000000 in
set_option maxRecDepth 100000 in
theorem ref24_item {W w : World} {F : List Atom} (b : Nat) (R : List Bool) (hRl : R.length ≤ 1125899906842624) {i : Nat} (hi : F[i]? = some (RSrc b R)) (H : St W w F) : Calls Tryz.prog 44 #[.pointer (some ⟨b, 0, none⟩)] w (Ret fun v w' => ((j5 (⟨0, R⟩ : RX)).e = 0 ∧ ∃ x : ItemD, v = .tuple #[.agg #[.int .i64 x.op.v, .int .i64 x.inp.v, .int .i64 x.ep.v, .int .i64 x.kind.v, .slice x.p x.bs.length x.c, .int .i64 x.t.v], .int .i64 0] ∧ x.v = ival s64 (⟨0, R⟩ : RX) ∧ St W w' (BsA x :: bndsA x.bs :: F.set i (RSrc b (j5 (⟨0, R⟩ : RX)).R))) ∨ (¬ (j5 (⟨0, R⟩ : RX)).e = 0 ∧ ∃ (a1 a2 a3 a4 : Int) (p : Option Addr) (n c : Nat) (a5 : Int) (R' : List Bool), v = .tuple #[.agg #[.int .i64 a1, .int .i64 a2, .int .i64 a3, .int .i64 a4, .slice p n c, .int .i64 a5], .int .i64 (j5 (⟨0, R⟩ : RX)).e] ∧ St W w' (F.set i (RSrc b R')))) := by
 have H0 := H.front hi
 obtain ⟨X0, hX0⟩ : ∃ X, X = (⟨0, R⟩ : RX) := ⟨_, rfl⟩
 rw [← hX0]
 refine calls_of_go (n := 80) Tryz.func44 rfl Tryz.ntmps44 rfl ?_
 refine g_seq (g_region (rc (s_alloc H0 26 ze_26 rfl (fun bk1 w2 H3 => Ag (.int .i64 0) (r_nil (g_seq (g_region (rc (s_alloc H3 26 ze_26 rfl (fun bk4 w5 H6 => r_nil (g_seq (g_region (Mv (.pointer (some ⟨b, 0, none⟩)) (rc (s_call [.pointer (some ⟨b, 0, none⟩), .int .i64 2, .int .u64 1099511627776, .int .i64 243] pl_79 rfl rfl (ref24_nats b R t11 (i := 2) rfl H6) ?_)))))))))))))))
 rintro _ w13 (⟨he7, pp8, cc9, rfl, H10⟩ | ⟨he7, pp8, NN11, cc9, RR12, rfl, H10⟩)
 ·have H14 : St W w13 (_ :: _ :: _ :: _ :: (F.set i emp)) := H10
  refine Mv (.tuple #[.slice pp8 ((natsL (⟨0, R⟩ : RX)).length) cc9, .int .i64 0]) (Ex (.slice pp8 ((natsL (⟨0, R⟩ : RX)).length) cc9) (Ex (.int .i64 0) (Ag (.slice pp8 ((natsL (⟨0, R⟩ : RX)).length) cc9) (Ag (.int .i64 0) (r_nil (g_seq (g_seq (g_region (Mv (.int .i64 0) (rc (s_neq false rfl rfl (ntrue t10) rfl (r_nil (g_false rfl (g_skip (g_seq (g_region ?_))))))))))))))))
  have H15 : St W w13 (Im 1 (.slice pp8 ((natsL X0).length) cc9) ((natsL X0).length) ((natsL X0).flatMap n64c) :: blk bk4 (.cells #[.int .i64 0, .int .i64 0, .int .i64 0, .int .i64 0, .slice none 0 0, .int .i64 0] 26 (0, 0)) :: blk bk1 (.cells #[.int .i64 0, .int .i64 0, .int .i64 0, .int .i64 0, .slice none 0 0, .int .i64 0] 26 (0, 0)) :: RSrc b ((j2 X0).R) :: (F.set i emp)) := by rw [hX0]; exact H14
  have h2 : (j2 X0).e = 0 := by rw [hX0]; exact he7
  have hnl : (natsL X0).length = 2 := rfl
  have hnl0 : (natsL (⟨0, R⟩ : RX)).length = 2 := rfl
  have hl2 : (j2 X0).R.length ≤ 1125899906842624 := Nat.le_trans j2_len (by rw [hX0]; exact hRl)
  obtain ⟨pA16, cA17, gA18, oA19, kA20, eA21, zA22, he28, hn23, hp24, hx25, hs26, hml, H27⟩ := Im.open_ H15 (i := 0) rfl
  obtain ⟨rfl, rfl⟩ : pp8 = pA16 ∧ cc9 = cA17 := by injection he28 with a_ b_ c_; exact ⟨a_, c_⟩
  refine Mv (.slice pp8 ((natsL (⟨0, R⟩ : RX)).length) cc9) (rc (s_indexAddr gA18 (off := oA19) 0 1 (oA19 + 0 * 1) (by exact congrArg (fun z_ => Value.slice z_ ((natsL (⟨0, R⟩ : RX)).length) cc9) (hp24 t0)) rfl el_130 t0 rfl rfl (rc (s_load (.int .i64 (((natsL X0).getD 0 default).v)) ag_2 rfl (H27.imi_at (i := 0) rfl t0) (elem_cell (L := (natsL X0)) (i := 0) n64c_len (hx25 t0) t0 default 0 t10 _ rfl) rfl (Fa 0 fi_26_0 rfl (rc (s_store H27 2 (.int .i64 (((natsL X0).getD 0 default).v)) rfl rfl rfl sz_3 rfl (nbl rfl) rfl (cs' := #[.int .i64 (((natsL X0).getD 0 default).v), .int .i64 0, .int .i64 0, .int .i64 0, .slice none 0 0, .int .i64 0]) rfl (fun w29 H30 => r_nil (g_seq (g_region (Mv (.slice pp8 ((natsL (⟨0, R⟩ : RX)).length) cc9) (rc (s_indexAddr gA18 (off := oA19) 1 1 (oA19 + 1 * 1) (by exact congrArg (fun z_ => Value.slice z_ ((natsL (⟨0, R⟩ : RX)).length) cc9) (hp24 t0)) rfl el_130 t0 rfl rfl (rc (s_load (.int .i64 (((natsL X0).getD 1 default).v)) ag_2 rfl (H30.imi_at (i := 0) rfl t0) (elem_cell (L := (natsL X0)) (i := 1) n64c_len (hx25 t0) t0 default 0 t10 _ rfl) rfl (Fa 1 fi_26_1 rfl (rc (s_store H30 2 (.int .i64 (((natsL X0).getD 1 default).v)) rfl rfl rfl sz_3 rfl (nbl rfl) rfl (cs' := #[.int .i64 (((natsL X0).getD 0 default).v), .int .i64 (((natsL X0).getD 1 default).v), .int .i64 0, .int .i64 0, .slice none 0 0, .int .i64 0]) rfl (fun w31 H32 => r_nil (g_seq (g_region (Mv (.pointer (some ⟨b, 0, none⟩)) (rc (s_call [.pointer (some ⟨b, 0, none⟩)] pl_80 rfl rfl (RSrc_Nat b ((j2 X0).R)   (i := 4) rfl H32) ?_))))))))))))))))))))))))
  rintro _ w33 ⟨rfl, H34⟩
  refine Mv (.tuple #[.int .u64 (natU ((j2 X0).R) : Int), .int .i64 (natE ((j2 X0).R))]) (Ex (.int .u64 (natU ((j2 X0).R) : Int)) (Ex (.int .i64 (natE ((j2 X0).R))) (Ag (.int .u64 (natU ((j2 X0).R) : Int)) (Ag (.int .i64 (natE ((j2 X0).R))) (r_nil (g_seq (g_seq (g_region (Mv (.int .i64 (natE ((j2 X0).R))) ?_)))))))))
  by_cases hc35 : natE ((j2 X0).R) = 0
  ·refine rc (s_neq false rfl rfl (ntrue hc35) rfl (r_nil (g_false rfl (g_skip (g_seq (g_region (Mv (.int .u64 (natU ((j2 X0).R) : Int)) (rc (s_conv (s64 (natU ((j2 X0).R))) rfl us_61 ik_2 (rfl) rfl (Fa 2 fi_26_2 rfl (rc (s_store H34 2 (.int .i64 (s64 (natU ((j2 X0).R)))) rfl rfl rfl sz_2 rfl (nbl rfl) rfl (cs' := #[.int .i64 (((natsL X0).getD 0 default).v), .int .i64 (((natsL X0).getD 1 default).v), .int .i64 (s64 (natU ((j2 X0).R))), .int .i64 0, .slice none 0 0, .int .i64 0]) rfl (fun w36 H37 => r_nil (g_seq (g_region (Mv (.pointer (some ⟨b, 0, none⟩)) (rc (s_call [.pointer (some ⟨b, 0, none⟩), .int .i64 2] pl_81 rfl rfl (RSrc_Bits b (((j2 X0).R).drop (natN ((j2 X0).R))) 2  (i := 4) rfl H37) ?_))))))))))))))))))
   rintro _ w38 ⟨rfl, H39⟩
   refine Mv (.tuple #[.int .u64 (srcU (((j2 X0).R).drop (natN ((j2 X0).R))) 2 : Int), .int .i64 (srcE (((j2 X0).R).drop (natN ((j2 X0).R))) 2)]) (Ex (.int .u64 (srcU (((j2 X0).R).drop (natN ((j2 X0).R))) 2 : Int)) (Ex (.int .i64 (srcE (((j2 X0).R).drop (natN ((j2 X0).R))) 2)) (Ag (.int .u64 (srcU (((j2 X0).R).drop (natN ((j2 X0).R))) 2 : Int)) (Ag (.int .i64 (srcE (((j2 X0).R).drop (natN ((j2 X0).R))) 2)) (r_nil (g_seq (g_seq (g_region (Mv (.int .i64 (srcE (((j2 X0).R).drop (natN ((j2 X0).R))) 2)) ?_)))))))))
   by_cases hc40 : srcE (((j2 X0).R).drop (natN ((j2 X0).R))) 2 = 0
   ·refine rc (s_neq false rfl rfl (ntrue hc40) rfl (r_nil (g_false rfl (g_skip (g_seq (g_region (Mv (.int .u64 (srcU (((j2 X0).R).drop (natN ((j2 X0).R))) 2 : Int)) ?_)))))))
    have hlt : srcU ((j2 X0).R.drop (natN (j2 X0).R)) 2 < 4 := srcU_lt_pow (k := 2)
    refine rc (s_conv (srcU (((j2 X0).R).drop (natN ((j2 X0).R))) 2 : Int) rfl us_61 ik_3 (wi64 t0) rfl (Fa 3 fi_26_3 rfl (rc (s_store H39 2 (.int .i64 (srcU (((j2 X0).R).drop (natN ((j2 X0).R))) 2 : Int)) rfl rfl rfl sz_3 rfl (nbl rfl) rfl (cs' := #[.int .i64 (((natsL X0).getD 0 default).v), .int .i64 (((natsL X0).getD 1 default).v), .int .i64 (s64 (natU ((j2 X0).R))), .int .i64 (srcU (((j2 X0).R).drop (natN ((j2 X0).R))) 2 : Int), .slice none 0 0, .int .i64 0]) rfl (fun w41 H42 => r_nil (g_seq (g_seq (g_region (Fa 3 fi_26_3 rfl (Lo (.int .i64 (srcU (((j2 X0).R).drop (natN ((j2 X0).R))) 2 : Int)) ag_3 H42 2 (r_nil (g_block (g_seq (g_region ?_))))))))))))))
    by_cases hc43 : (srcU (((j2 X0).R).drop (natN ((j2 X0).R))) 2 : Int) = 1
    ·refine rc (s_eql true rfl rfl (dtrue hc43) rfl (Ag (.bool true) (r_nil (g_true rfl (g_seq (g_region (Mv (.pointer (some ⟨b, 0, none⟩)) (rc (s_call [.pointer (some ⟨b, 0, none⟩)] pl_82 rfl rfl (ref10_Take b ((((j2 X0).R).drop (natN ((j2 X0).R))).drop (srcN (((j2 X0).R).drop (natN ((j2 X0).R))) 2)) t33 (i := 4) rfl H42) ?_)))))))))
     rintro _ w48 ⟨L44, pp45, cc46, rfl, hL47, H49⟩
     refine Mv (.tuple #[.agg #[.slice pp45 L44.length cc46], .int .i64 (qtE ((((j2 X0).R).drop (natN ((j2 X0).R))).drop (srcN (((j2 X0).R).drop (natN ((j2 X0).R))) 2)))]) (Ex (.agg #[.slice pp45 L44.length cc46]) (Ex (.int .i64 (qtE ((((j2 X0).R).drop (natN ((j2 X0).R))).drop (srcN (((j2 X0).R).drop (natN ((j2 X0).R))) 2)))) (Fa 4 fi_26_4 rfl (Sa H49 4 rfl #[.slice pp45 L44.length cc46] 1 sz_24 #[.int .i64 (((natsL X0).getD 0 default).v), .int .i64 (((natsL X0).getD 1 default).v), .int .i64 (s64 (natU ((j2 X0).R))), .int .i64 (srcU (((j2 X0).R).drop (natN ((j2 X0).R))) 2 : Int), .slice pp45 L44.length cc46, .int .i64 0] (fun w50 H51 => Ag (.int .i64 (qtE ((((j2 X0).R).drop (natN ((j2 X0).R))).drop (srcN (((j2 X0).R).drop (natN ((j2 X0).R))) 2)))) (r_nil (g_seq (g_region (La [.int .i64 (((natsL X0).getD 0 default).v), .int .i64 (((natsL X0).getD 1 default).v), .int .i64 (s64 (natU ((j2 X0).R))), .int .i64 (srcU (((j2 X0).R).drop (natN ((j2 X0).R))) 2 : Int), .slice pp45 L44.length cc46, .int .i64 0] 6 ag_26 H51 4 (Mv (.int .i64 (qtE ((((j2 X0).R).drop (natN ((j2 X0).R))).drop (srcN (((j2 X0).R).drop (natN ((j2 X0).R))) 2)))) (Sa H51 5 rfl #[.int .i64 (((natsL X0).getD 0 default).v), .int .i64 (((natsL X0).getD 1 default).v), .int .i64 (s64 (natU ((j2 X0).R))), .int .i64 (srcU (((j2 X0).R).drop (natN ((j2 X0).R))) 2 : Int), .slice pp45 L44.length cc46, .int .i64 0] 6 sz_26 #[.int .i64 (((natsL X0).getD 0 default).v), .int .i64 (((natsL X0).getD 1 default).v), .int .i64 (s64 (natU ((j2 X0).R))), .int .i64 (srcU (((j2 X0).R).drop (natN ((j2 X0).R))) 2 : Int), .slice pp45 L44.length cc46, .int .i64 0] (fun w52 H53 => Ag (.int .i64 (qtE ((((j2 X0).R).drop (natN ((j2 X0).R))).drop (srcN (((j2 X0).R).drop (natN ((j2 X0).R))) 2)))) (r_nil ?_)))))))))))))
     refine g_ret' [.agg #[.int .i64 (((natsL X0).getD 0 default).v), .int .i64 (((natsL X0).getD 1 default).v), .int .i64 (s64 (natU ((j2 X0).R))), .int .i64 (srcU (((j2 X0).R).drop (natN ((j2 X0).R))) 2 : Int), .slice pp45 L44.length cc46, .int .i64 0], .int .i64 (qtE ((((j2 X0).R).drop (natN ((j2 X0).R))).drop (srcN (((j2 X0).R).drop (natN ((j2 X0).R))) 2)))] Tryz.func44 Tryz.results44 ⟨(res_cellN rfl ag_26 (H53.blk_at (i := 5) rfl) (nbl rfl) rfl), rfl, trivial⟩ ?_
     obtain ⟨h4, hk4, hn3⟩ := it_j4 h2 hc35 rfl hc40 t0 rfl
     obtain ⟨h5, hb5, ht5⟩ := it_5a h4 t0
     have he5 : (j5 X0).e = (qtE ((((j2 X0).R).drop (natN ((j2 X0).R))).drop (srcN (((j2 X0).R).drop (natN ((j2 X0).R))) 2))) := by rw [h5]
     rcases Decidable.em ((j5 X0).e = 0) with h50 | h50
     ·obtain ⟨x9, xv, x1, x2, x3, x4, x5, x6, x7, x8⟩ := it_mades h50 (L := L44) (by rw [hb5]; exact hL47) pp45 cc46
      have H54 : St W w52 (Im 6 (.slice x9.p x9.bs.length x9.c) x9.bs.length (x9.bs.flatMap bndCell) :: bndsA x9.bs :: imi (0 < (natsL X0).length) gA18 (.cells kA20 eA21 zA22) :: Im 1 (.slice pp8 ((natsL X0).length) cc9) ((natsL X0).length) ((natsL X0).flatMap n64c) :: blk bk4 (.cells #[.int .i64 (((natsL X0).getD 0 default).v), .int .i64 (((natsL X0).getD 1 default).v), .int .i64 (s64 (natU ((j2 X0).R))), .int .i64 (srcU (((j2 X0).R).drop (natN ((j2 X0).R))) 2 : Int), .slice pp45 L44.length cc46, .int .i64 0] 26 (0, 0)) :: blk bk1 (.cells #[.int .i64 (((natsL X0).getD 0 default).v), .int .i64 (((natsL X0).getD 1 default).v), .int .i64 (s64 (natU ((j2 X0).R))), .int .i64 (srcU (((j2 X0).R).drop (natN ((j2 X0).R))) 2 : Int), .slice pp45 L44.length cc46, .int .i64 0] 26 (0, 0)) :: RSrc b ((j5 X0).R) :: (F.set i emp)) := by rw [x5, x6, x7, h5]; exact H53
      have H55 : St W w52 (_ :: _ :: _ :: (F.set i emp)) := (((((((H54.move 1 rfl).move 1 rfl).move 6 rfl).drop 3 rfl).drop 3 rfl).drop 3 rfl).drop 3 rfl)
      have H56 : St W w52 (_ :: (Im 6 (.slice x9.p x9.bs.length x9.c) x9.bs.length (x9.bs.flatMap bndCell) :: bndsA x9.bs :: F).set (i + 2) emp) := H55
      exact .inl ⟨h50, x9, by rw [x1, x2, x3, x4, x5, x6, x7, x8, ht5, hk4, hn3, ← he5, h50]; rfl, xv, St.back (i := i + 2) t44 H56⟩
     have H57 : St W w52 (_ :: (F.set i emp)) := (((((((H53.move 6 rfl).drop 1 rfl).drop 1 rfl).drop 1 rfl).drop 1 rfl).drop 1 rfl).drop 1 rfl)
     exact .inr ⟨h50, _, _, _, _, _, _, _, _, _, by rw [he5]; rfl, St.back hi H57⟩
    refine rc (s_eql false rfl rfl (dfalse hc43) rfl (Ag (.bool false) (r_nil (g_false rfl (g_seq (g_region ?_))))))
    by_cases hc58 : (srcU (((j2 X0).R).drop (natN ((j2 X0).R))) 2 : Int) = 2
    ·refine rc (s_eql true rfl rfl (dtrue hc58) rfl (Ag (.bool true) (r_nil (g_true rfl (g_seq (g_region (Mv (.pointer (some ⟨b, 0, none⟩)) (rc (s_call [.pointer (some ⟨b, 0, none⟩)] pl_80 rfl rfl (RSrc_Nat b ((((j2 X0).R).drop (natN ((j2 X0).R))).drop (srcN (((j2 X0).R).drop (natN ((j2 X0).R))) 2))   (i := 4) rfl H42) ?_)))))))))
     rintro _ w59 ⟨rfl, H60⟩
     refine Mv (.tuple #[.int .u64 (natU ((((j2 X0).R).drop (natN ((j2 X0).R))).drop (srcN (((j2 X0).R).drop (natN ((j2 X0).R))) 2)) : Int), .int .i64 (natE ((((j2 X0).R).drop (natN ((j2 X0).R))).drop (srcN (((j2 X0).R).drop (natN ((j2 X0).R))) 2)))]) (Ex (.int .u64 (natU ((((j2 X0).R).drop (natN ((j2 X0).R))).drop (srcN (((j2 X0).R).drop (natN ((j2 X0).R))) 2)) : Int)) (Ex (.int .i64 (natE ((((j2 X0).R).drop (natN ((j2 X0).R))).drop (srcN (((j2 X0).R).drop (natN ((j2 X0).R))) 2)))) (Ag (.int .u64 (natU ((((j2 X0).R).drop (natN ((j2 X0).R))).drop (srcN (((j2 X0).R).drop (natN ((j2 X0).R))) 2)) : Int)) (Ag (.int .i64 (natE ((((j2 X0).R).drop (natN ((j2 X0).R))).drop (srcN (((j2 X0).R).drop (natN ((j2 X0).R))) 2)))) (r_nil (g_seq (g_region (Mv (.int .u64 (natU ((((j2 X0).R).drop (natN ((j2 X0).R))).drop (srcN (((j2 X0).R).drop (natN ((j2 X0).R))) 2)) : Int)) (rc (s_conv (s64 (natU ((((j2 X0).R).drop (natN ((j2 X0).R))).drop (srcN (((j2 X0).R).drop (natN ((j2 X0).R))) 2)))) rfl us_61 ik_2 (rfl) rfl (Fa 5 fi_26_5 rfl (rc (s_store H60 2 (.int .i64 (s64 (natU ((((j2 X0).R).drop (natN ((j2 X0).R))).drop (srcN (((j2 X0).R).drop (natN ((j2 X0).R))) 2))))) rfl rfl rfl sz_2 rfl (nbl rfl) rfl (cs' := #[.int .i64 (((natsL X0).getD 0 default).v), .int .i64 (((natsL X0).getD 1 default).v), .int .i64 (s64 (natU ((j2 X0).R))), .int .i64 (srcU (((j2 X0).R).drop (natN ((j2 X0).R))) 2 : Int), .slice none 0 0, .int .i64 (s64 (natU ((((j2 X0).R).drop (natN ((j2 X0).R))).drop (srcN (((j2 X0).R).drop (natN ((j2 X0).R))) 2))))]) rfl (fun w61 H62 => r_nil (g_seq (g_region (La [.int .i64 (((natsL X0).getD 0 default).v), .int .i64 (((natsL X0).getD 1 default).v), .int .i64 (s64 (natU ((j2 X0).R))), .int .i64 (srcU (((j2 X0).R).drop (natN ((j2 X0).R))) 2 : Int), .slice none 0 0, .int .i64 (s64 (natU ((((j2 X0).R).drop (natN ((j2 X0).R))).drop (srcN (((j2 X0).R).drop (natN ((j2 X0).R))) 2))))] 6 ag_26 H62 2 (Mv (.int .i64 (natE ((((j2 X0).R).drop (natN ((j2 X0).R))).drop (srcN (((j2 X0).R).drop (natN ((j2 X0).R))) 2)))) (Sa H62 3 rfl #[.int .i64 (((natsL X0).getD 0 default).v), .int .i64 (((natsL X0).getD 1 default).v), .int .i64 (s64 (natU ((j2 X0).R))), .int .i64 (srcU (((j2 X0).R).drop (natN ((j2 X0).R))) 2 : Int), .slice none 0 0, .int .i64 (s64 (natU ((((j2 X0).R).drop (natN ((j2 X0).R))).drop (srcN (((j2 X0).R).drop (natN ((j2 X0).R))) 2))))] 6 sz_26 #[.int .i64 (((natsL X0).getD 0 default).v), .int .i64 (((natsL X0).getD 1 default).v), .int .i64 (s64 (natU ((j2 X0).R))), .int .i64 (srcU (((j2 X0).R).drop (natN ((j2 X0).R))) 2 : Int), .slice none 0 0, .int .i64 (s64 (natU ((((j2 X0).R).drop (natN ((j2 X0).R))).drop (srcN (((j2 X0).R).drop (natN ((j2 X0).R))) 2))))] (fun w63 H64 => Ag (.int .i64 (natE ((((j2 X0).R).drop (natN ((j2 X0).R))).drop (srcN (((j2 X0).R).drop (natN ((j2 X0).R))) 2)))) (r_nil ?_)))))))))))))))))))))
     refine g_ret' [.agg #[.int .i64 (((natsL X0).getD 0 default).v), .int .i64 (((natsL X0).getD 1 default).v), .int .i64 (s64 (natU ((j2 X0).R))), .int .i64 (srcU (((j2 X0).R).drop (natN ((j2 X0).R))) 2 : Int), .slice none 0 0, .int .i64 (s64 (natU ((((j2 X0).R).drop (natN ((j2 X0).R))).drop (srcN (((j2 X0).R).drop (natN ((j2 X0).R))) 2))))], .int .i64 (natE ((((j2 X0).R).drop (natN ((j2 X0).R))).drop (srcN (((j2 X0).R).drop (natN ((j2 X0).R))) 2)))] Tryz.func44 Tryz.results44 ⟨(res_cellN rfl ag_26 (H64.blk_at (i := 3) rfl) (nbl rfl) rfl), rfl, trivial⟩ ?_
     obtain ⟨h4, hk4, hn3⟩ := it_j4 h2 hc35 rfl hc40 t0 rfl
     obtain ⟨h5, hb5, ht5⟩ := it_5b h4 t0
     have he5 : (j5 X0).e = natE ((((j2 X0).R).drop (natN ((j2 X0).R))).drop (srcN (((j2 X0).R).drop (natN ((j2 X0).R))) 2)) := by rw [h5]
     rcases Decidable.em ((j5 X0).e = 0) with h50 | h50
     ·have H65 := bndsA_nil H64
      have H66 := Row.im (Row.nil_intro H65 121 6) (i := 0) rfl
      obtain ⟨x9, xv, x1, x2, x3, x4, x5, x6, x7, x8⟩ := it_mades h50 (L := ([] : List BoundD)) (by rw [hb5]; exact rfl) none 0
      have H67 : St W w63 (Im 6 (.slice x9.p x9.bs.length x9.c) x9.bs.length (x9.bs.flatMap bndCell) :: bndsA x9.bs :: imi (0 < (natsL X0).length) gA18 (.cells kA20 eA21 zA22) :: Im 1 (.slice pp8 ((natsL X0).length) cc9) ((natsL X0).length) ((natsL X0).flatMap n64c) :: blk bk4 (.cells #[.int .i64 (((natsL X0).getD 0 default).v), .int .i64 (((natsL X0).getD 1 default).v), .int .i64 (s64 (natU ((j2 X0).R))), .int .i64 (srcU (((j2 X0).R).drop (natN ((j2 X0).R))) 2 : Int), .slice none 0 0, .int .i64 (s64 (natU ((((j2 X0).R).drop (natN ((j2 X0).R))).drop (srcN (((j2 X0).R).drop (natN ((j2 X0).R))) 2))))] 26 (0, 0)) :: blk bk1 (.cells #[.int .i64 (((natsL X0).getD 0 default).v), .int .i64 (((natsL X0).getD 1 default).v), .int .i64 (s64 (natU ((j2 X0).R))), .int .i64 (srcU (((j2 X0).R).drop (natN ((j2 X0).R))) 2 : Int), .slice none 0 0, .int .i64 (s64 (natU ((((j2 X0).R).drop (natN ((j2 X0).R))).drop (srcN (((j2 X0).R).drop (natN ((j2 X0).R))) 2))))] 26 (0, 0)) :: RSrc b ((j5 X0).R) :: (F.set i emp)) := by rw [x5, x6, x7, h5]; exact H66
      have H68 : St W w63 (_ :: _ :: _ :: (F.set i emp)) := (((((((H67.move 1 rfl).move 1 rfl).move 6 rfl).drop 3 rfl).drop 3 rfl).drop 3 rfl).drop 3 rfl)
      have H69 : St W w63 (_ :: (Im 6 (.slice x9.p x9.bs.length x9.c) x9.bs.length (x9.bs.flatMap bndCell) :: bndsA x9.bs :: F).set (i + 2) emp) := H68
      exact .inl ⟨h50, x9, by rw [x1, x2, x3, x4, x5, x6, x7, x8, ht5, hk4, hn3, ← he5, h50]; rfl, xv, St.back (i := i + 2) t44 H69⟩
     have H70 : St W w63 (_ :: (F.set i emp)) := (((((H64.move 4 rfl).drop 1 rfl).drop 1 rfl).drop 1 rfl).drop 1 rfl)
     exact .inr ⟨h50, _, _, _, _, _, _, _, _, _, by rw [he5]; rfl, St.back hi H70⟩
    refine rc (s_eql false rfl rfl (dfalse hc58) rfl (Ag (.bool false) (r_nil (g_false rfl (g_seq (g_region ?_))))))
    by_cases hc71 : (srcU (((j2 X0).R).drop (natN ((j2 X0).R))) 2 : Int) = 3
    ·refine rc (s_eql true rfl rfl (dtrue hc71) rfl (Ag (.bool true) (r_nil (g_true rfl (g_seq (g_region (La [.int .i64 (((natsL X0).getD 0 default).v), .int .i64 (((natsL X0).getD 1 default).v), .int .i64 (s64 (natU ((j2 X0).R))), .int .i64 (srcU (((j2 X0).R).drop (natN ((j2 X0).R))) 2 : Int), .slice none 0 0, .int .i64 0] 6 ag_26 H42 2 (Sa H42 3 rfl #[.int .i64 (((natsL X0).getD 0 default).v), .int .i64 (((natsL X0).getD 1 default).v), .int .i64 (s64 (natU ((j2 X0).R))), .int .i64 (srcU (((j2 X0).R).drop (natN ((j2 X0).R))) 2 : Int), .slice none 0 0, .int .i64 0] 6 sz_26 #[.int .i64 (((natsL X0).getD 0 default).v), .int .i64 (((natsL X0).getD 1 default).v), .int .i64 (s64 (natU ((j2 X0).R))), .int .i64 (srcU (((j2 X0).R).drop (natN ((j2 X0).R))) 2 : Int), .slice none 0 0, .int .i64 0] (fun w72 H73 => Ag (.int .i64 0) (r_nil ?_))))))))))
     refine g_ret' [.agg #[.int .i64 (((natsL X0).getD 0 default).v), .int .i64 (((natsL X0).getD 1 default).v), .int .i64 (s64 (natU ((j2 X0).R))), .int .i64 (srcU (((j2 X0).R).drop (natN ((j2 X0).R))) 2 : Int), .slice none 0 0, .int .i64 0], .int .i64 0] Tryz.func44 Tryz.results44 ⟨(res_cellN rfl ag_26 (H73.blk_at (i := 3) rfl) (nbl rfl) rfl), rfl, trivial⟩ ?_
     obtain ⟨h4, hk4, hn3⟩ := it_j4 h2 hc35 rfl hc40 t0 rfl
     obtain ⟨h5, hb5, ht5⟩ := it_5c h4 t0 t0
     have he5 : (j5 X0).e = 0 := by rw [h5]
     rcases Decidable.em ((j5 X0).e = 0) with h50 | h50
     ·have H74 := bndsA_nil H73
      have H75 := Row.im (Row.nil_intro H74 121 6) (i := 0) rfl
      obtain ⟨x9, xv, x1, x2, x3, x4, x5, x6, x7, x8⟩ := it_mades h50 (L := ([] : List BoundD)) (by rw [hb5]; exact rfl) none 0
      have H76 : St W w72 (Im 6 (.slice x9.p x9.bs.length x9.c) x9.bs.length (x9.bs.flatMap bndCell) :: bndsA x9.bs :: imi (0 < (natsL X0).length) gA18 (.cells kA20 eA21 zA22) :: Im 1 (.slice pp8 ((natsL X0).length) cc9) ((natsL X0).length) ((natsL X0).flatMap n64c) :: blk bk4 (.cells #[.int .i64 (((natsL X0).getD 0 default).v), .int .i64 (((natsL X0).getD 1 default).v), .int .i64 (s64 (natU ((j2 X0).R))), .int .i64 (srcU (((j2 X0).R).drop (natN ((j2 X0).R))) 2 : Int), .slice none 0 0, .int .i64 0] 26 (0, 0)) :: blk bk1 (.cells #[.int .i64 (((natsL X0).getD 0 default).v), .int .i64 (((natsL X0).getD 1 default).v), .int .i64 (s64 (natU ((j2 X0).R))), .int .i64 (srcU (((j2 X0).R).drop (natN ((j2 X0).R))) 2 : Int), .slice none 0 0, .int .i64 0] 26 (0, 0)) :: RSrc b ((j5 X0).R) :: (F.set i emp)) := by rw [x5, x6, x7, h5]; exact H75
      have H77 : St W w72 (_ :: _ :: _ :: (F.set i emp)) := (((((((H76.move 1 rfl).move 1 rfl).move 6 rfl).drop 3 rfl).drop 3 rfl).drop 3 rfl).drop 3 rfl)
      have H78 : St W w72 (_ :: (Im 6 (.slice x9.p x9.bs.length x9.c) x9.bs.length (x9.bs.flatMap bndCell) :: bndsA x9.bs :: F).set (i + 2) emp) := H77
      exact .inl ⟨h50, x9, by rw [x1, x2, x3, x4, x5, x6, x7, x8, ht5, hk4, hn3, ← he5, h50]; rfl, xv, St.back (i := i + 2) t44 H78⟩
     have H79 : St W w72 (_ :: (F.set i emp)) := (((((H73.move 4 rfl).drop 1 rfl).drop 1 rfl).drop 1 rfl).drop 1 rfl)
     exact .inr ⟨h50, _, _, _, _, _, _, _, _, _, by rw [he5]; rfl, St.back hi H79⟩
    refine rc (s_eql false rfl rfl (dfalse hc71) rfl (Ag (.bool false) (r_nil (g_false rfl (g_skip (g_inBlock (g_seq (g_region (La [.int .i64 (((natsL X0).getD 0 default).v), .int .i64 (((natsL X0).getD 1 default).v), .int .i64 (s64 (natU ((j2 X0).R))), .int .i64 (srcU (((j2 X0).R).drop (natN ((j2 X0).R))) 2 : Int), .slice none 0 0, .int .i64 0] 6 ag_26 H42 2 (Sa H42 3 rfl #[.int .i64 (((natsL X0).getD 0 default).v), .int .i64 (((natsL X0).getD 1 default).v), .int .i64 (s64 (natU ((j2 X0).R))), .int .i64 (srcU (((j2 X0).R).drop (natN ((j2 X0).R))) 2 : Int), .slice none 0 0, .int .i64 0] 6 sz_26 #[.int .i64 (((natsL X0).getD 0 default).v), .int .i64 (((natsL X0).getD 1 default).v), .int .i64 (s64 (natU ((j2 X0).R))), .int .i64 (srcU (((j2 X0).R).drop (natN ((j2 X0).R))) 2 : Int), .slice none 0 0, .int .i64 0] (fun w80 H81 => Ag (.int .i64 243) (r_nil ?_))))))))))))
    refine g_ret' [.agg #[.int .i64 (((natsL X0).getD 0 default).v), .int .i64 (((natsL X0).getD 1 default).v), .int .i64 (s64 (natU ((j2 X0).R))), .int .i64 (srcU (((j2 X0).R).drop (natN ((j2 X0).R))) 2 : Int), .slice none 0 0, .int .i64 0], .int .i64 243] Tryz.func44 Tryz.results44 ⟨(res_cellN rfl ag_26 (H81.blk_at (i := 3) rfl) (nbl rfl) rfl), rfl, trivial⟩ ?_
    have H82 : St W w80 (_ :: (F.set i emp)) := (((((H81.move 4 rfl).drop 1 rfl).drop 1 rfl).drop 1 rfl).drop 1 rfl)
    have hE : (j5 X0).e = 243 := it_k0 h2 hc35 rfl hc40 t0
    exact .inr ⟨by rw [hE]; first | assumption | decide, _, _, _, _, _, _, _, _, _, by rw [hE]; rfl, St.back hi H82⟩
   refine rc (s_neq true rfl rfl (nfalse hc40) rfl (r_nil (g_true rfl (g_seq (g_region (La [.int .i64 (((natsL X0).getD 0 default).v), .int .i64 (((natsL X0).getD 1 default).v), .int .i64 (s64 (natU ((j2 X0).R))), .int .i64 0, .slice none 0 0, .int .i64 0] 6 ag_26 H39 2 (Mv (.int .i64 (srcE (((j2 X0).R).drop (natN ((j2 X0).R))) 2)) (Sa H39 3 rfl #[.int .i64 (((natsL X0).getD 0 default).v), .int .i64 (((natsL X0).getD 1 default).v), .int .i64 (s64 (natU ((j2 X0).R))), .int .i64 0, .slice none 0 0, .int .i64 0] 6 sz_26 #[.int .i64 (((natsL X0).getD 0 default).v), .int .i64 (((natsL X0).getD 1 default).v), .int .i64 (s64 (natU ((j2 X0).R))), .int .i64 0, .slice none 0 0, .int .i64 0] (fun w83 H84 => Ag (.int .i64 (srcE (((j2 X0).R).drop (natN ((j2 X0).R))) 2)) (r_nil ?_))))))))))
   refine g_ret' [.agg #[.int .i64 (((natsL X0).getD 0 default).v), .int .i64 (((natsL X0).getD 1 default).v), .int .i64 (s64 (natU ((j2 X0).R))), .int .i64 0, .slice none 0 0, .int .i64 0], .int .i64 (srcE (((j2 X0).R).drop (natN ((j2 X0).R))) 2)] Tryz.func44 Tryz.results44 ⟨(res_cellN rfl ag_26 (H84.blk_at (i := 3) rfl) (nbl rfl) rfl), rfl, trivial⟩ ?_
   have H85 : St W w83 (_ :: (F.set i emp)) := (((((H84.move 4 rfl).drop 1 rfl).drop 1 rfl).drop 1 rfl).drop 1 rfl)
   have hE : (j5 X0).e = srcE (((j2 X0).R).drop (natN ((j2 X0).R))) 2 := it_4 h2 hc35 rfl hc40
   exact .inr ⟨by rw [hE]; first | assumption | decide, _, _, _, _, _, _, _, _, _, by rw [hE]; rfl, St.back hi H85⟩
  refine rc (s_neq true rfl rfl (nfalse hc35) rfl (r_nil (g_true rfl (g_seq (g_region (La [.int .i64 (((natsL X0).getD 0 default).v), .int .i64 (((natsL X0).getD 1 default).v), .int .i64 0, .int .i64 0, .slice none 0 0, .int .i64 0] 6 ag_26 H34 2 (Mv (.int .i64 (natE ((j2 X0).R))) (Sa H34 3 rfl #[.int .i64 (((natsL X0).getD 0 default).v), .int .i64 (((natsL X0).getD 1 default).v), .int .i64 0, .int .i64 0, .slice none 0 0, .int .i64 0] 6 sz_26 #[.int .i64 (((natsL X0).getD 0 default).v), .int .i64 (((natsL X0).getD 1 default).v), .int .i64 0, .int .i64 0, .slice none 0 0, .int .i64 0] (fun w86 H87 => Ag (.int .i64 (natE ((j2 X0).R))) (r_nil ?_))))))))))
  refine g_ret' [.agg #[.int .i64 (((natsL X0).getD 0 default).v), .int .i64 (((natsL X0).getD 1 default).v), .int .i64 0, .int .i64 0, .slice none 0 0, .int .i64 0], .int .i64 (natE ((j2 X0).R))] Tryz.func44 Tryz.results44 ⟨(res_cellN rfl ag_26 (H87.blk_at (i := 3) rfl) (nbl rfl) rfl), rfl, trivial⟩ ?_
  have H88 : St W w86 (_ :: (F.set i emp)) := (((((H87.move 4 rfl).drop 1 rfl).drop 1 rfl).drop 1 rfl).drop 1 rfl)
  have hE : (j5 X0).e = natE ((j2 X0).R) := it_3 h2 hc35
  exact .inr ⟨by rw [hE]; first | assumption | decide, _, _, _, _, _, _, _, _, _, by rw [hE]; rfl, St.back hi H88⟩
 refine Mv (.tuple #[.slice pp8 NN11 cc9, .int .i64 ((j2 (⟨0, R⟩ : RX)).e)]) (Ex (.slice pp8 NN11 cc9) (Ex (.int .i64 ((j2 (⟨0, R⟩ : RX)).e)) (Ag (.slice pp8 NN11 cc9) (Ag (.int .i64 ((j2 (⟨0, R⟩ : RX)).e)) (r_nil (g_seq (g_seq (g_region (Mv (.int .i64 ((j2 (⟨0, R⟩ : RX)).e)) (rc (s_neq true rfl rfl (nfalse t0) rfl (r_nil (g_true rfl (g_seq (g_region (La [.int .i64 0, .int .i64 0, .int .i64 0, .int .i64 0, .slice none 0 0, .int .i64 0] 6 ag_26 H10 0 (Mv (.int .i64 ((j2 (⟨0, R⟩ : RX)).e)) (Sa H10 1 rfl #[.int .i64 0, .int .i64 0, .int .i64 0, .int .i64 0, .slice none 0 0, .int .i64 0] 6 sz_26 #[.int .i64 0, .int .i64 0, .int .i64 0, .int .i64 0, .slice none 0 0, .int .i64 0] (fun w89 H90 => Ag (.int .i64 ((j2 (⟨0, R⟩ : RX)).e)) (r_nil ?_))))))))))))))))))))
 refine g_ret' [.agg #[.int .i64 0, .int .i64 0, .int .i64 0, .int .i64 0, .slice none 0 0, .int .i64 0], .int .i64 ((j2 (⟨0, R⟩ : RX)).e)] Tryz.func44 Tryz.results44 ⟨(res_cellN rfl ag_26 (H90.blk_at (i := 1) rfl) (nbl rfl) rfl), rfl, trivial⟩ ?_
 have H91 : St W w89 (_ :: (F.set i emp)) := (((H90.move 2 rfl).drop 1 rfl).drop 1 rfl)
 have hE := it_2 (X := X0) (by rw [hX0]; exact he7)
 rw [show (j2 X0).e = (j2 (⟨0, R⟩ : RX)).e from by rw [hX0]] at hE
 exact .inr ⟨by rw [hE]; exact he7, _, _, _, _, _, _, _, _, _, by rw [hE]; rfl, St.back hi H91⟩
set_option maxHeartbeats 4000000 in
set_option maxRecDepth 100000 in
theorem ref24_ParseItem {W w : World} {F : List Atom} (bs : List UInt8) (bv : Value) (hb : bs.length ≤ 17592186044416) {j : Nat} (hj : F[j]? = some (Im 1 bv bs.length (bs.flatMap u8c))) (H : St W w F) : Calls Tryz.prog 8 #[bv] w (Ret fun v w' => ∃ x : ItemD, v = .tuple #[.agg #[.int .i64 x.op.v, .int .i64 x.inp.v, .int .i64 x.ep.v, .int .i64 x.kind.v, .slice x.p x.bs.length x.c, .int .i64 x.t.v], .int .i64 (ipE (remB bs 0))] ∧ x.v = ipV (remB bs 0) ∧ St W w' (BsA x :: bndsA x.bs :: F)) := by
 have H1 := H.dup hj (Im_pers _ _ _ _)
 obtain ⟨pp2, cc3, rfl, hn4⟩ := Rd.shape (Im.rd H1 (i := 0) rfl)
 refine calls_of_go (n := 27) Tryz.func8 rfl Tryz.ntmps8 rfl ?_
 refine g_seq (g_region (rc (s_alloc H1 26 ze_26 rfl (fun bk5 w6 H7 => Ag (.int .i64 0) (r_nil (g_seq (g_region (Mv (.slice pp2 bs.length cc3) (rc (s_call [.slice pp2 bs.length cc3] pl_43 rfl rfl (RSrc_New bs _ t0 (j := 1) rfl H7) ?_))))))))))
 rintro _ w9 ⟨bk8, rfl, H10⟩
 refine Ag (.pointer (some ⟨bk8, 0, none⟩)) (r_nil (g_seq (g_region ?_)))
 have H11 : St W w9 (_ :: _ :: _ :: F) := H10
 have hrl : (remB bs 0).length ≤ 1125899906842624 := by rw [remB_len]; omega
 refine Mv (.pointer (some ⟨bk8, 0, none⟩)) (rc (s_call [.pointer (some ⟨bk8, 0, none⟩)] pl_44 rfl rfl (ref24_item bk8 (remB bs 0) t11 (i := 0) rfl H11) ?_))
 rintro _ w25 (⟨he12, it13, rfl, hx14, H15⟩ | ⟨he12, sx20, sx21, sx22, sx23, pp17, NN18, cc19, sx24, RR16, rfl, H15⟩)
 ·refine Mv (.tuple #[.agg #[.int .i64 it13.op.v, .int .i64 it13.inp.v, .int .i64 it13.ep.v, .int .i64 it13.kind.v, .slice it13.p it13.bs.length it13.c, .int .i64 it13.t.v], .int .i64 0]) (Ex (.agg #[.int .i64 it13.op.v, .int .i64 it13.inp.v, .int .i64 it13.ep.v, .int .i64 it13.kind.v, .slice it13.p it13.bs.length it13.c, .int .i64 it13.t.v]) (Ex (.int .i64 0) (rc (s_alloc H15 26 ze_26 rfl (fun bk26 w27 H28 => Sa H28 0 rfl #[.int .i64 it13.op.v, .int .i64 it13.inp.v, .int .i64 it13.ep.v, .int .i64 it13.kind.v, .slice it13.p it13.bs.length it13.c, .int .i64 it13.t.v] 6 sz_26 #[.int .i64 it13.op.v, .int .i64 it13.inp.v, .int .i64 it13.ep.v, .int .i64 it13.kind.v, .slice it13.p it13.bs.length it13.c, .int .i64 it13.t.v] (fun w29 H30 => Ag (.int .i64 0) (r_nil (g_seq (g_seq (g_region (Mv (.int .i64 0) (rc (s_eql true rfl rfl (dtrue t10) rfl (r_nil (g_true rfl (g_region (Mv (.pointer (some ⟨bk8, 0, none⟩)) (rc (s_call [.pointer (some ⟨bk8, 0, none⟩)] pl_45 rfl rfl (RSrc_End bk8 ((j5 (⟨0, remB bs 0⟩ : RX)).R)   (i := 3) rfl H30) ?_)))))))))))))))))))
  rintro _ w31 ⟨rfl, H32⟩
  refine Ag (.int .i64 (endE ((j5 (⟨0, remB bs 0⟩ : RX)).R))) (r_nil (g_seq (g_seq (g_region (Mv (.int .i64 (endE ((j5 (⟨0, remB bs 0⟩ : RX)).R))) ?_)))))
  by_cases hc33 : endE ((j5 (⟨0, remB bs 0⟩ : RX)).R) = 0
  ·refine rc (s_eql true rfl rfl (dtrue hc33) rfl (r_nil (g_true rfl (g_region (La [.int .i64 it13.op.v, .int .i64 it13.inp.v, .int .i64 it13.ep.v, .int .i64 it13.kind.v, .slice it13.p it13.bs.length it13.c, .int .i64 it13.t.v] 6 ag_26 H32 0 (rc (s_call [.agg #[.int .i64 it13.op.v, .int .i64 it13.inp.v, .int .i64 it13.ep.v, .int .i64 it13.kind.v, .slice it13.p it13.bs.length it13.c, .int .i64 it13.t.v]] pl_11 rfl rfl (ref24_CheckItem it13 (ip := 1) rfl (iq := 2) rfl H32) ?_)))))))
   rintro _ w34 ⟨rfl, H35⟩
   refine Ag (.int .i64 (itE it13)) (r_nil (g_seq (g_seq (g_region (Mv (.int .i64 (itE it13)) ?_)))))
   by_cases hc36 : itE it13 = 0
   ·refine rc (s_neq false rfl rfl (ntrue hc36) rfl (r_nil (g_false rfl (g_skip (g_seq (g_region (La [.int .i64 it13.op.v, .int .i64 it13.inp.v, .int .i64 it13.ep.v, .int .i64 it13.kind.v, .slice it13.p it13.bs.length it13.c, .int .i64 it13.t.v] 6 ag_26 H35 0 (Sa H35 4 rfl #[.int .i64 it13.op.v, .int .i64 it13.inp.v, .int .i64 it13.ep.v, .int .i64 it13.kind.v, .slice it13.p it13.bs.length it13.c, .int .i64 it13.t.v] 6 sz_26 #[.int .i64 it13.op.v, .int .i64 it13.inp.v, .int .i64 it13.ep.v, .int .i64 it13.kind.v, .slice it13.p it13.bs.length it13.c, .int .i64 it13.t.v] (fun w37 H38 => Ag (.int .i64 0) (r_nil ?_))))))))))
    refine g_ret' [.agg #[.int .i64 it13.op.v, .int .i64 it13.inp.v, .int .i64 it13.ep.v, .int .i64 it13.kind.v, .slice it13.p it13.bs.length it13.c, .int .i64 it13.t.v], .int .i64 0] Tryz.func8 Tryz.results8 ⟨(res_cellN rfl ag_26 (H38.blk_at (i := 4) rfl) (nbl rfl) rfl), rfl, trivial⟩ ?_
    have h6 := j6_yes he12
    have hI : ipE (remB bs 0) = itE it13 := (ip_yes_s (h6.trans hc33)).trans (itE_of hx14).symm
    have hE0 : ipE (remB bs 0) = 0 := hI.trans hc36
    have H39 : St W w37 (_ :: _ :: F) := ((((((H38.move 2 rfl).move 2 rfl).drop 2 rfl).drop 2 rfl).drop 2 rfl).drop 2 rfl)
    exact ⟨it13, by rw [hE0]; rfl, by rw [ipV_yes_s hE0]; exact hx14, H39⟩
   refine rc (s_neq true rfl rfl (nfalse hc36) rfl (r_nil (g_true rfl (g_seq (g_region (rc (s_build (cs := #[.int .i64 0, .int .i64 0, .int .i64 0, .int .i64 0, .slice none 0 0, .int .i64 0]) t7 rfl (Mv (.int .i64 (itE it13)) (Sa H35 4 rfl #[.int .i64 0, .int .i64 0, .int .i64 0, .int .i64 0, .slice none 0 0, .int .i64 0] 6 sz_26 #[.int .i64 0, .int .i64 0, .int .i64 0, .int .i64 0, .slice none 0 0, .int .i64 0] (fun w40 H41 => Ag (.int .i64 (itE it13)) (r_nil ?_)))))))))))
   refine g_ret' [.agg #[.int .i64 0, .int .i64 0, .int .i64 0, .int .i64 0, .slice none 0 0, .int .i64 0], .int .i64 (itE it13)] Tryz.func8 Tryz.results8 ⟨(res_cellN rfl ag_26 (H41.blk_at (i := 4) rfl) (nbl rfl) rfl), rfl, trivial⟩ ?_
   have h6 := j6_yes he12
   have hI : ipE (remB bs 0) = itE it13 := (ip_yes_s (h6.trans hc33)).trans (itE_of hx14).symm
   have hE : ipE (remB bs 0) = itE it13 := hI
   have hE0 : ¬ ipE (remB bs 0) = 0 := by rw [hE]; assumption
   have H42 := bndsA_nil H41
   have H43 := Row.im (Row.nil_intro H42 121 6) (i := 0) rfl
   have H44 : St W w40 (_ :: _ :: F) := ((((((((H43.move 1 rfl).move 1 rfl).drop 2 rfl).drop 2 rfl).drop 2 rfl).drop 2 rfl).drop 2 rfl).drop 2 rfl)
   exact ⟨zeroD, by rw [hE]; rfl, by rw [ipV_no hE0]; rfl, H44⟩
  refine rc (s_eql false rfl rfl (dfalse hc33) rfl (r_nil (g_false rfl (g_skip (g_seq (g_seq (g_region (Mv (.int .i64 (endE ((j5 (⟨0, remB bs 0⟩ : RX)).R))) (rc (s_neq true rfl rfl (nfalse t0) rfl (r_nil (g_true rfl (g_seq (g_region (rc (s_build (cs := #[.int .i64 0, .int .i64 0, .int .i64 0, .int .i64 0, .slice none 0 0, .int .i64 0]) t7 rfl (Mv (.int .i64 (endE ((j5 (⟨0, remB bs 0⟩ : RX)).R))) (Sa H32 4 rfl #[.int .i64 0, .int .i64 0, .int .i64 0, .int .i64 0, .slice none 0 0, .int .i64 0] 6 sz_26 #[.int .i64 0, .int .i64 0, .int .i64 0, .int .i64 0, .slice none 0 0, .int .i64 0] (fun w45 H46 => Ag (.int .i64 (endE ((j5 (⟨0, remB bs 0⟩ : RX)).R))) (r_nil ?_))))))))))))))))))))
  refine g_ret' [.agg #[.int .i64 0, .int .i64 0, .int .i64 0, .int .i64 0, .slice none 0 0, .int .i64 0], .int .i64 (endE ((j5 (⟨0, remB bs 0⟩ : RX)).R))] Tryz.func8 Tryz.results8 ⟨(res_cellN rfl ag_26 (H46.blk_at (i := 4) rfl) (nbl rfl) rfl), rfl, trivial⟩ ?_
  have h6 := j6_yes he12
  have hE : ipE (remB bs 0) = endE ((j5 (⟨0, remB bs 0⟩ : RX)).R) := (ip_no (by rw [h6]; exact hc33)).trans h6
  have hE0 : ¬ ipE (remB bs 0) = 0 := by rw [hE]; assumption
  have H47 := bndsA_nil H46
  have H48 := Row.im (Row.nil_intro H47 121 6) (i := 0) rfl
  have H49 : St W w45 (_ :: _ :: F) := ((((((((H48.move 1 rfl).move 1 rfl).drop 2 rfl).drop 2 rfl).drop 2 rfl).drop 2 rfl).drop 2 rfl).drop 2 rfl)
  exact ⟨zeroD, by rw [hE]; rfl, by rw [ipV_no hE0]; rfl, H49⟩
 refine Mv (.tuple #[.agg #[.int .i64 sx20, .int .i64 sx21, .int .i64 sx22, .int .i64 sx23, .slice pp17 NN18 cc19, .int .i64 sx24], .int .i64 ((j5 (⟨0, remB bs 0⟩ : RX)).e)]) (Ex (.agg #[.int .i64 sx20, .int .i64 sx21, .int .i64 sx22, .int .i64 sx23, .slice pp17 NN18 cc19, .int .i64 sx24]) (Ex (.int .i64 ((j5 (⟨0, remB bs 0⟩ : RX)).e)) (rc (s_alloc H15 26 ze_26 rfl (fun bk50 w51 H52 => Sa H52 0 rfl #[.int .i64 sx20, .int .i64 sx21, .int .i64 sx22, .int .i64 sx23, .slice pp17 NN18 cc19, .int .i64 sx24] 6 sz_26 #[.int .i64 sx20, .int .i64 sx21, .int .i64 sx22, .int .i64 sx23, .slice pp17 NN18 cc19, .int .i64 sx24] (fun w53 H54 => Ag (.int .i64 ((j5 (⟨0, remB bs 0⟩ : RX)).e)) (r_nil (g_seq (g_seq (g_region (Mv (.int .i64 ((j5 (⟨0, remB bs 0⟩ : RX)).e)) (rc (s_eql false rfl rfl (dfalse t0) rfl (r_nil (g_false rfl (g_skip (g_seq (g_seq (g_region (Mv (.int .i64 ((j5 (⟨0, remB bs 0⟩ : RX)).e)) (rc (s_eql false rfl rfl (dfalse t0) rfl (r_nil (g_false rfl (g_skip (g_seq (g_seq (g_region (Mv (.int .i64 ((j5 (⟨0, remB bs 0⟩ : RX)).e)) (rc (s_neq true rfl rfl (nfalse t0) rfl (r_nil (g_true rfl (g_seq (g_region (rc (s_build (cs := #[.int .i64 0, .int .i64 0, .int .i64 0, .int .i64 0, .slice none 0 0, .int .i64 0]) t7 rfl (Mv (.int .i64 ((j5 (⟨0, remB bs 0⟩ : RX)).e)) (Sa H54 2 rfl #[.int .i64 0, .int .i64 0, .int .i64 0, .int .i64 0, .slice none 0 0, .int .i64 0] 6 sz_26 #[.int .i64 0, .int .i64 0, .int .i64 0, .int .i64 0, .slice none 0 0, .int .i64 0] (fun w55 H56 => Ag (.int .i64 ((j5 (⟨0, remB bs 0⟩ : RX)).e)) (r_nil ?_)))))))))))))))))))))))))))))))))))))))))
 refine g_ret' [.agg #[.int .i64 0, .int .i64 0, .int .i64 0, .int .i64 0, .slice none 0 0, .int .i64 0], .int .i64 ((j5 (⟨0, remB bs 0⟩ : RX)).e)] Tryz.func8 Tryz.results8 ⟨(res_cellN rfl ag_26 (H56.blk_at (i := 2) rfl) (nbl rfl) rfl), rfl, trivial⟩ ?_
 have h6 := j6_no he12
 have hE : ipE (remB bs 0) = (j5 (⟨0, remB bs 0⟩ : RX)).e := (ip_no (by rw [h6]; exact he12)).trans h6
 have hE0 : ¬ ipE (remB bs 0) = 0 := by rw [hE]; assumption
 have H57 := bndsA_nil H56
 have H58 := Row.im (Row.nil_intro H57 121 6) (i := 0) rfl
 have H59 : St W w55 (_ :: _ :: F) := ((((((H58.move 1 rfl).move 1 rfl).drop 2 rfl).drop 2 rfl).drop 2 rfl).drop 2 rfl)
 exact ⟨zeroD, by rw [hE]; rfl, by rw [ipV_no hE0]; rfl, H59⟩
set_option maxHeartbeats 4000000 in
set_option maxRecDepth 100000 in
theorem match_Same1 {W w : World} {F : List Atom} (x y : BoundD) {j k : Nat} (hj : F[j]? = some (Attrs (.slice x.ev.p x.ev.ev.attrs.length x.ev.c) x.ev.ev.attrs)) (hk : F[k]? = some (Attrs (.slice y.ev.p y.ev.ev.attrs.length y.ev.c) y.ev.ev.attrs)) (H : St W w F) : Calls Tryz.prog 89 #[.agg #[.string x.var.v, .int .i64 x.ev.ev.src.v, .int .i64 x.ev.ev.seq.v, .int .i64 x.ev.ev.time.v, .string x.ev.ev.typ.v, .slice x.ev.p x.ev.ev.attrs.length x.ev.c], .agg #[.string y.var.v, .int .i64 y.ev.ev.src.v, .int .i64 y.ev.ev.seq.v, .int .i64 y.ev.ev.time.v, .string y.ev.ev.typ.v, .slice y.ev.p y.ev.ev.attrs.length y.ev.c]] w (Ret fun v w' => v = .bool (decide (x.var.v = y.var.v) && sameEv x.ev.ev y.ev.ev) ∧ St W w' F) := by
 have H0 := (H.dup hj (Attrs_pers _ _)).dup (i := k + 1) (by exact hk) (Attrs_pers _ _)
 have H1 : St W w (_ :: _ :: F) := H0
 refine calls_of_go (n := 17) Tryz.func89 rfl Tryz.ntmps89 rfl ?_
 refine g_seq (g_region (Bx H1 121 #[.string x.var.v, .int .i64 x.ev.ev.src.v, .int .i64 x.ev.ev.seq.v, .int .i64 x.ev.ev.time.v, .string x.ev.ev.typ.v, .slice x.ev.p x.ev.ev.attrs.length x.ev.c] (fun bk2 w3 H4 => Bx H4 121 #[.string y.var.v, .int .i64 y.ev.ev.src.v, .int .i64 y.ev.ev.seq.v, .int .i64 y.ev.ev.time.v, .string y.ev.ev.typ.v, .slice y.ev.p y.ev.ev.attrs.length y.ev.c] (fun bk5 w6 H7 => Ag (.bool false) (r_nil (g_seq (g_region (Fa 0 fi_121_0 rfl (Lo (.string x.var.v) ag_9 H7 1 (Fa 0 fi_121_0 rfl (Lo (.string y.var.v) ag_9 H7 0 ?_)))))))))))
 by_cases hc8 : x.var.v = y.var.v
 ·refine rc (s_seql true rfl rfl (dtrue hc8) rfl (Mv (.bool true) (Rt (s_fieldAddr 121 1 1 1 119 rfl fi_121_1 rfl rfl (Rt (s_loadAgg [.int .i64 x.ev.ev.src.v, .int .i64 x.ev.ev.seq.v, .int .i64 x.ev.ev.time.v, .string x.ev.ev.typ.v, .slice x.ev.p x.ev.ev.attrs.length x.ev.c] 5 ag_119 rfl (H7.blk_at (i := 1) rfl) (nbl rfl) rfl rfl (Rt (s_fieldAddr 121 1 1 1 119 rfl fi_121_1 rfl rfl (Rt (s_loadAgg [.int .i64 y.ev.ev.src.v, .int .i64 y.ev.ev.seq.v, .int .i64 y.ev.ev.time.v, .string y.ev.ev.typ.v, .slice y.ev.p y.ev.ev.attrs.length y.ev.c] 5 ag_119 rfl (H7.blk_at (i := 0) rfl) (nbl rfl) rfl rfl (Rt (s_call [.agg #[.int .i64 x.ev.ev.src.v, .int .i64 x.ev.ev.seq.v, .int .i64 x.ev.ev.time.v, .string x.ev.ev.typ.v, .slice x.ev.p x.ev.ev.attrs.length x.ev.c], .agg #[.int .i64 y.ev.ev.src.v, .int .i64 y.ev.ev.seq.v, .int .i64 y.ev.ev.time.v, .string y.ev.ev.typ.v, .slice y.ev.p y.ev.ev.attrs.length y.ev.c]] pl_90 rfl rfl (event_Same x.ev.ev y.ev.ev (.slice x.ev.p x.ev.ev.attrs.length x.ev.c) (.slice y.ev.p y.ev.ev.attrs.length y.ev.c) (j := 3) (k := 2) rfl rfl H7) ?_))))))))))))
  rintro _ w9 ⟨rfl, H10⟩
  refine Pt (.bool (sameEv x.ev.ev y.ev.ev)) (Ag (.bool (sameEv x.ev.ev y.ev.ev)) (r_nil (Gr [.bool (sameEv x.ev.ev y.ev.ev)] Tryz.func89 Tryz.results89 ?_)))
  have H11 : St W w9 F := ((((H10.drop 0 rfl).drop 0 rfl).drop 0 rfl).drop 0 rfl)
  exact ⟨congrArg Value.bool (by rw [decide_eq_true hc8]; rfl), H11⟩
 refine rc (s_seql false rfl rfl (dfalse hc8) rfl (Mv (.bool false) (Rp (Rp (Rp (Rp (Rp (Pf (.bool false) (Ag (.bool false) (r_nil (Gr [.bool false] Tryz.func89 Tryz.results89 ?_)))))))))))
 have H12 : St W w6 F := ((((H7.drop 0 rfl).drop 0 rfl).drop 0 rfl).drop 0 rfl)
 exact ⟨congrArg Value.bool (by rw [decide_eq_false hc8]; rfl), H12⟩
set_option maxHeartbeats 4000000 in
set_option maxRecDepth 100000 in
theorem EqualFunc_bounds {W w : World} {F : List Atom} (bs ms : List BoundD) (bv cv : Value) {ip : Nat} (hp : F[ip]? = some (Im 6 bv bs.length (bs.flatMap bndCell))) {iq : Nat} (hq : F[iq]? = some (bndsA bs)) {ip2 : Nat} (hp2 : F[ip2]? = some (Im 6 cv ms.length (ms.flatMap bndCell))) {iq2 : Nat} (hq2 : F[iq2]? = some (bndsA ms)) (H : St W w F) : Calls Tryz.prog 88 #[bv, cv, .func (.func 89) #[] #[]] w (Ret fun v w' => v = .bool (sameBs bs ms) ∧ St W w' F) := by
 obtain ⟨pp1, cc2, rfl, hn3⟩ := Rd.shape (Im.rd H (i := ip) hp)
 have H4 := H.dup (i := ip + 0) t56 (Im_pers _ _ _ _)
 have H5 : St W w (_ :: F) := H4
 have H6 := H5.dup (i := iq + 1) t57 (bndsA_pers _)
 have H7 : St W w (_ :: _ :: F) := H6
 obtain ⟨pp8, cc9, rfl, hn10⟩ := Rd.shape (Im.rd H (i := ip2) hp2)
 have H11 := H7.dup (i := ip2 + 2) (by exact hp2) (Im_pers _ _ _ _)
 have H12 : St W w (_ :: _ :: _ :: F) := H11
 have H13 := H12.dup (i := iq2 + 3) (by exact hq2) (bndsA_pers _)
 have H14 : St W w (_ :: _ :: _ :: _ :: F) := H13
 have hmlb := Im.len H14 (i := 3) rfl
 have hmlm := Im.len H14 (i := 1) rfl
 refine calls_of_go (n := 32) Tryz.func88 rfl Tryz.ntmps88 rfl ?_
 refine g_seq (g_region (Ag (.bool false) (r_nil (g_seq (g_seq (g_region (Mv (.slice pp1 bs.length cc2) (rc (s_len bs.length rfl ⟨_, un_22⟩ rfl (Mv (.slice pp8 ms.length cc9) (rc (s_len ms.length rfl ⟨_, un_22⟩ rfl ?_))))))))))))
 by_cases hc15 : (bs.length : Int) = (ms.length : Int)
 ·refine rc (s_neq false rfl rfl (ntrue hc15) rfl (r_nil (g_false rfl (g_skip (g_seq (g_seq (g_region (Mv (.slice pp1 bs.length cc2) (rc (s_len bs.length rfl ⟨_, un_22⟩ rfl (Mv (.int .i64 0) (r_nil (g_block ?_)))))))))))))
  have hll : bs.length = ms.length := by omega
  obtain ⟨pA16, cA17, gA18, oA19, kA20, eA21, zA22, he28, hn23, hp24, hx25, hs26, hml, H27⟩ := Im.open_ H14 (i := 3) rfl
  obtain ⟨rfl, rfl⟩ : pp1 = pA16 ∧ cc2 = cA17 := by injection he28 with a_ b_ c_; exact ⟨a_, c_⟩
  obtain ⟨pA29, cA30, gA31, oA32, kA33, eA34, zA35, he41, hn36, hp37, hx38, hs39, hml, H40⟩ := Im.open_ H27 (i := 2) rfl
  obtain ⟨rfl, rfl⟩ : pp8 = pA29 ∧ cc9 = cA30 := by injection he41 with a_ b_ c_; exact ⟨a_, c_⟩
  refine g_loop_inv (fun (x_ : Nat) => match x_ with | j => [(1, .slice pp8 ms.length cc9), (2, .func (.func 89) #[] #[]), (6, .bool false), (15, .slice pp1 bs.length cc2), (16, .int .i64 (bs.length : Int)), (17, .int .i64 (j : Int))]) (fun (x_ : Nat) w => match x_ with | j => (j ≤ bs.length) ∧ (∀ q, q < j → (bs.getD q default).v = (ms.getD q default).v) ∧ St W w (imi (0 < ms.length) gA31 (.cells kA33 eA34 zA35) :: imi (0 < bs.length) gA18 (.cells kA20 eA21 zA22) :: bndsA ms :: Im 6 (.slice pp8 ms.length cc9) ms.length (ms.flatMap bndCell) :: bndsA bs :: Im 6 (.slice pp1 bs.length cc2) bs.length (bs.flatMap bndCell) :: F)) (fun (x_ : Nat) => match x_ with | j => bs.length - j) (0) ?_ ?_ ?_
  ·exact t2
  ·exact ⟨t0, (fun q hq => by omega), H40⟩
  rintro j ρ42 w43 ⟨hjn, hz, H44⟩ nx45
  change Ends _ _ (upds ρ42 [(1, .slice pp8 ms.length cc9), (2, .func (.func 89) #[] #[]), (6, .bool false), (15, .slice pp1 bs.length cc2), (16, .int .i64 (bs.length : Int)), (17, .int .i64 (j : Int))]) w43
  refine g_seq (g_region ?_)
  by_cases hc46 : (j : Int) < (bs.length : Int)
  ·refine rc (s_lss true rfl rfl (dtrue hc46) rfl (r_nil (g_seq (g_true rfl (g_skip (g_seq (g_block (g_seq (g_region (Mv (.int .i64 (j : Int)) (rc (s_indexAddr gA18 (off := oA19) (j : Int) 6 (oA19 + j * 6) t59 rfl el_22 t0 rfl rfl (rc (s_loadAgg [.string ((bs.getD j default).var.v), .int .i64 ((bs.getD j default).ev.ev.src.v), .int .i64 ((bs.getD j default).ev.ev.seq.v), .int .i64 ((bs.getD j default).ev.ev.time.v), .string ((bs.getD j default).ev.ev.typ.v), .slice ((bs.getD j default).ev.p) ((bs.getD j default).ev.ev.attrs.length) ((bs.getD j default).ev.c)] 6 ag_121 rfl (H44.imi_at (i := 1) rfl t0) (by have := elem_size (i := j) (s := 6) (hs26 t0) t0; omega) (elem_take bndCell_len (hx25 t0) t0 default) rfl (rc (s_alloc H44 121 ze_121 rfl (fun bk47 w48 H49 => Ag (.int .i64 (j : Int)) (Sa H49 0 rfl #[.string ((bs.getD j default).var.v), .int .i64 ((bs.getD j default).ev.ev.src.v), .int .i64 ((bs.getD j default).ev.ev.seq.v), .int .i64 ((bs.getD j default).ev.ev.time.v), .string ((bs.getD j default).ev.ev.typ.v), .slice ((bs.getD j default).ev.p) ((bs.getD j default).ev.ev.attrs.length) ((bs.getD j default).ev.c)] 6 sz_121 #[.string ((bs.getD j default).var.v), .int .i64 ((bs.getD j default).ev.ev.src.v), .int .i64 ((bs.getD j default).ev.ev.seq.v), .int .i64 ((bs.getD j default).ev.ev.time.v), .string ((bs.getD j default).ev.ev.typ.v), .slice ((bs.getD j default).ev.p) ((bs.getD j default).ev.ev.attrs.length) ((bs.getD j default).ev.c)] (fun w50 H51 => r_nil (g_seq (g_region (Mv (.slice pp8 ms.length cc9) (Mv (.int .i64 (j : Int)) (rc (s_indexAddr gA31 (off := oA32) (j : Int) 6 (oA32 + j * 6) (by exact congrArg (fun z_ => Value.slice z_ ms.length cc9) (hp37 t0)) rfl el_22 t0 rfl rfl (rc (s_loadAgg [.string ((ms.getD j default).var.v), .int .i64 ((ms.getD j default).ev.ev.src.v), .int .i64 ((ms.getD j default).ev.ev.seq.v), .int .i64 ((ms.getD j default).ev.ev.time.v), .string ((ms.getD j default).ev.ev.typ.v), .slice ((ms.getD j default).ev.p) ((ms.getD j default).ev.ev.attrs.length) ((ms.getD j default).ev.c)] 6 ag_121 rfl (H51.imi_at (i := 1) rfl t0) (by have := elem_size (i := j) (s := 6) (hs39 t0) t0; omega) (elem_take bndCell_len (hx38 t0) t0 default) rfl (rc (s_alloc H51 121 ze_121 rfl (fun bk52 w53 H54 => Sa H54 0 rfl #[.string ((ms.getD j default).var.v), .int .i64 ((ms.getD j default).ev.ev.src.v), .int .i64 ((ms.getD j default).ev.ev.seq.v), .int .i64 ((ms.getD j default).ev.ev.time.v), .string ((ms.getD j default).ev.ev.typ.v), .slice ((ms.getD j default).ev.p) ((ms.getD j default).ev.ev.attrs.length) ((ms.getD j default).ev.c)] 6 sz_121 #[.string ((ms.getD j default).var.v), .int .i64 ((ms.getD j default).ev.ev.src.v), .int .i64 ((ms.getD j default).ev.ev.seq.v), .int .i64 ((ms.getD j default).ev.ev.time.v), .string ((ms.getD j default).ev.ev.typ.v), .slice ((ms.getD j default).ev.p) ((ms.getD j default).ev.ev.attrs.length) ((ms.getD j default).ev.c)] (fun w55 H56 => r_nil (g_seq (g_region ?_)))))))))))))))))))))))))))))))))
   have H57 := bndsA_at j H56 (i := 6) rfl
   have H58 := bndsA_at j H57 (i := 5) rfl
   refine Mv (.func (.func 89) #[] #[]) (La [.string ((bs.getD j default).var.v), .int .i64 ((bs.getD j default).ev.ev.src.v), .int .i64 ((bs.getD j default).ev.ev.seq.v), .int .i64 ((bs.getD j default).ev.ev.time.v), .string ((bs.getD j default).ev.ev.typ.v), .slice ((bs.getD j default).ev.p) ((bs.getD j default).ev.ev.attrs.length) ((bs.getD j default).ev.c)] 6 ag_121 H58 3 (La [.string ((ms.getD j default).var.v), .int .i64 ((ms.getD j default).ev.ev.src.v), .int .i64 ((ms.getD j default).ev.ev.seq.v), .int .i64 ((ms.getD j default).ev.ev.time.v), .string ((ms.getD j default).ev.ev.typ.v), .slice ((ms.getD j default).ev.p) ((ms.getD j default).ev.ev.attrs.length) ((ms.getD j default).ev.c)] 6 ag_121 H58 2 (rc (s_callv [] [.agg #[.string ((bs.getD j default).var.v), .int .i64 ((bs.getD j default).ev.ev.src.v), .int .i64 ((bs.getD j default).ev.ev.seq.v), .int .i64 ((bs.getD j default).ev.ev.time.v), .string ((bs.getD j default).ev.ev.typ.v), .slice ((bs.getD j default).ev.p) ((bs.getD j default).ev.ev.attrs.length) ((bs.getD j default).ev.c)], .agg #[.string ((ms.getD j default).var.v), .int .i64 ((ms.getD j default).ev.ev.src.v), .int .i64 ((ms.getD j default).ev.ev.seq.v), .int .i64 ((ms.getD j default).ev.ev.time.v), .string ((ms.getD j default).ev.ev.typ.v), .slice ((ms.getD j default).ev.p) ((ms.getD j default).ev.ev.attrs.length) ((ms.getD j default).ev.c)]] rfl pl_89 rfl rfl (match_Same1 (bs.getD j default) (ms.getD j default) (j := 1) (k := 0) rfl rfl H58) ?_))))
   rintro _ w59 ⟨rfl, H60⟩
   refine rc (s_not (decide ((bs.getD j default).var.v = (ms.getD j default).var.v) && sameEv (bs.getD j default).ev.ev (ms.getD j default).ev.ev) rfl (!(decide ((bs.getD j default).var.v = (ms.getD j default).var.v) && sameEv (bs.getD j default).ev.ev (ms.getD j default).ev.ev)) rfl rfl (r_nil ?_))
   by_cases hb61 : (!(decide ((bs.getD j default).var.v = (ms.getD j default).var.v) && sameEv (bs.getD j default).ev.ev (ms.getD j default).ev.ev)) = true
   ·refine g_true (congrArg Value.bool hb61) (g_seq (g_region (Ag (.bool false) (r_nil (Gr [.bool false] Tryz.func88 Tryz.results88 ?_)))))
    have H62 : St W w59 (_ :: _ :: _ :: _ :: _ :: _ :: F) := ((((H60.drop 0 rfl).drop 0 rfl).drop 0 rfl).drop 0 rfl)
    have H63 : St W w59 (_ :: _ :: F) := ((((H62.drop 0 rfl).drop 0 rfl).drop 0 rfl).drop 0 rfl)
    have H64 : St W w59 F := ((H63.drop 0 rfl).drop 0 rfl)
    exact ⟨congrArg Value.bool (show sameBs bs ms = false from bd_diff (j := j) (nottrue hb61)).symm, H64⟩
   have hb61 := eq_false_of_ne_true hb61
   refine g_false (congrArg Value.bool hb61) (g_skip (g_inBlock (g_region (rc (s_add ((j : Int) + 1) rfl rfl (wi64 t0) rfl (Mv (.int .i64 ((j : Int) + 1)) (r_nil ?_)))))))
   have H65 : St W w59 (_ :: _ :: _ :: _ :: _ :: _ :: F) := ((((((((((H60.move 9 rfl).move 9 rfl).move 9 rfl).move 9 rfl).move 9 rfl).move 9 rfl).drop 6 rfl).drop 6 rfl).drop 6 rfl).drop 6 rfl)
   exact nx45 (j + 1) _ _ ⟨t0, (fun q hq => (Nat.lt_or_ge q j).elim (hz q) (fun h => by rw [show q = j from by omega]; exact bd_same (notfalse hb61))), H65⟩ t9 t2
  refine rc (s_lss false rfl rfl (dfalse hc46) rfl (r_nil (g_seq (g_false rfl (g_exit t40 (g_seq (g_region (Ag (.bool true) (r_nil (Gr [.bool true] Tryz.func88 Tryz.results88 ?_))))))))))
  have H66 : St W w43 F := ((((((H44.drop 0 rfl).drop 0 rfl).drop 0 rfl).drop 0 rfl).drop 0 rfl).drop 0 rfl)
  exact ⟨congrArg Value.bool (sameBs_yes t0 (fun q hq => hz q t0)).symm, H66⟩
 refine rc (s_neq true rfl rfl (nfalse hc15) rfl (r_nil (g_true rfl (g_seq (g_region (Ag (.bool false) (r_nil (Gr [.bool false] Tryz.func88 Tryz.results88 ?_))))))))
 have H67 : St W w F := ((((H14.drop 0 rfl).drop 0 rfl).drop 0 rfl).drop 0 rfl)
 exact ⟨congrArg Value.bool (show sameBs bs ms = false from sameBs_len t0).symm, H67⟩
set_option maxHeartbeats 4000000 in
set_option maxRecDepth 100000 in
theorem match_Same {W w : World} {F : List Atom} (bs ms : List BoundD) (bv cv : Value) {ip : Nat} (hp : F[ip]? = some (Im 6 bv bs.length (bs.flatMap bndCell))) {iq : Nat} (hq : F[iq]? = some (bndsA bs)) {ip2 : Nat} (hp2 : F[ip2]? = some (Im 6 cv ms.length (ms.flatMap bndCell))) {iq2 : Nat} (hq2 : F[iq2]? = some (bndsA ms)) (H : St W w F) : Calls Tryz.prog 52 #[.agg #[bv], .agg #[cv]] w (Ret fun v w' => v = .bool (sameBs bs ms) ∧ St W w' F) := by
 obtain ⟨pp1, cc2, rfl, hn3⟩ := Rd.shape (Im.rd H (i := ip) hp)
 have H4 := H.dup (i := ip + 0) t56 (Im_pers _ _ _ _)
 have H5 : St W w (_ :: F) := H4
 have H6 := H5.dup (i := iq + 1) t57 (bndsA_pers _)
 have H7 : St W w (_ :: _ :: F) := H6
 obtain ⟨pp8, cc9, rfl, hn10⟩ := Rd.shape (Im.rd H (i := ip2) hp2)
 have H11 := H7.dup (i := ip2 + 2) (by exact hp2) (Im_pers _ _ _ _)
 have H12 : St W w (_ :: _ :: _ :: F) := H11
 have H13 := H12.dup (i := iq2 + 3) (by exact hq2) (bndsA_pers _)
 have H14 : St W w (_ :: _ :: _ :: _ :: F) := H13
 have hmlb := Im.len H14 (i := 3) rfl
 have hmlm := Im.len H14 (i := 1) rfl
 refine calls_of_go (n := 10) Tryz.func52 rfl Tryz.ntmps52 rfl ?_
 refine g_seq (g_region (Bx H14 24 #[.slice pp1 bs.length cc2] (fun bk15 w16 H17 => Bx H17 24 #[.slice pp8 ms.length cc9] (fun bk18 w19 H20 => Ag (.bool false) (r_nil (g_seq (g_region (Fa 0 fi_24_0 rfl (Lo (.slice pp1 bs.length cc2) ag_22 H20 1 (Fa 0 fi_24_0 rfl (Lo (.slice pp8 ms.length cc9) ag_22 H20 0 (rc (s_call [.slice pp1 bs.length cc2, .slice pp8 ms.length cc9, .func (.func 89) #[] #[]] pl_88 rfl rfl (EqualFunc_bounds bs ms _ _ (ip := 5) rfl (iq := 4) rfl (ip2 := 3) rfl (iq2 := 2) rfl H20) ?_)))))))))))))
 rintro _ w21 ⟨rfl, H22⟩
 refine Ag (.bool (sameBs bs ms)) (r_nil (Gr [.bool (sameBs bs ms)] Tryz.func52 Tryz.results52 ?_))
 have H23 : St W w21 F := ((((((H22.drop 0 rfl).drop 0 rfl).drop 0 rfl).drop 0 rfl).drop 0 rfl).drop 0 rfl)
 exact ⟨rfl, H23⟩
set_option maxHeartbeats 4000000 in
set_option maxRecDepth 100000 in
theorem migrate_SameItem {W w : World} {F : List Atom} (x y : ItemD) {ip : Nat} (hp : F[ip]? = some (Im 6 (.slice x.p x.bs.length x.c) x.bs.length (x.bs.flatMap bndCell))) {iq : Nat} (hq : F[iq]? = some (bndsA x.bs)) {ip2 : Nat} (hp2 : F[ip2]? = some (Im 6 (.slice y.p y.bs.length y.c) y.bs.length (y.bs.flatMap bndCell))) {iq2 : Nat} (hq2 : F[iq2]? = some (bndsA y.bs)) (H : St W w F) : Calls Tryz.prog 14 #[.agg #[.int .i64 x.op.v, .int .i64 x.inp.v, .int .i64 x.ep.v, .int .i64 x.kind.v, .slice x.p x.bs.length x.c, .int .i64 x.t.v], .agg #[.int .i64 y.op.v, .int .i64 y.inp.v, .int .i64 y.ep.v, .int .i64 y.kind.v, .slice y.p y.bs.length y.c, .int .i64 y.t.v]] w (Ret fun v w' => v = .bool (sameIt x y) ∧ St W w' F) := by
 have H1 := (H.dup (i := ip + 0) t56 (Im_pers _ _ _ _)).dup (i := iq + 1) t57 (bndsA_pers _)
 have H2 : St W w (_ :: _ :: F) := H1
 have H3 := (H2.dup (i := ip2 + 2) (by exact hp2) (Im_pers _ _ _ _)).dup (i := iq2 + 3) (by exact hq2) (bndsA_pers _)
 have H4 : St W w (_ :: _ :: _ :: _ :: F) := H3
 refine calls_of_go (n := 45) Tryz.func14 rfl Tryz.ntmps14 rfl ?_
 refine g_seq (g_region (Bx H4 26 #[.int .i64 x.op.v, .int .i64 x.inp.v, .int .i64 x.ep.v, .int .i64 x.kind.v, .slice x.p x.bs.length x.c, .int .i64 x.t.v] (fun bk5 w6 H7 => Bx H7 26 #[.int .i64 y.op.v, .int .i64 y.inp.v, .int .i64 y.ep.v, .int .i64 y.kind.v, .slice y.p y.bs.length y.c, .int .i64 y.t.v] (fun bk8 w9 H10 => Ag (.bool false) (r_nil (g_seq (g_region (Fa 0 fi_26_0 rfl (Lo (.int .i64 x.op.v) ag_3 H10 1 (Fa 0 fi_26_0 rfl (Lo (.int .i64 y.op.v) ag_3 H10 0 ?_)))))))))))
 by_cases hc11 : x.op.v = y.op.v
 ·refine rc (s_eql true rfl rfl (dtrue hc11) rfl (Mv (.bool true) (Rt (s_fieldAddr 26 1 1 1 3 rfl fi_26_1 rfl rfl (Rt (s_load (.int .i64 x.inp.v) ag_3 rfl (H10.blk_at (i := 1) rfl) rfl rfl (Rt (s_fieldAddr 26 1 1 1 3 rfl fi_26_1 rfl rfl (Rt (s_load (.int .i64 y.inp.v) ag_3 rfl (H10.blk_at (i := 0) rfl) rfl rfl (Rt ?_)))))))))))
  by_cases hc12 : x.inp.v = y.inp.v
  ·refine s_eql true rfl rfl (dtrue hc12) rfl (Pt (.bool true) (Mv (.bool true) (Rt (s_fieldAddr 26 2 2 2 2 rfl fi_26_2 rfl rfl (Rt (s_load (.int .i64 x.ep.v) ag_2 rfl (H10.blk_at (i := 1) rfl) rfl rfl (Rt (s_fieldAddr 26 2 2 2 2 rfl fi_26_2 rfl rfl (Rt (s_load (.int .i64 y.ep.v) ag_2 rfl (H10.blk_at (i := 0) rfl) rfl rfl (Rt ?_)))))))))))
   by_cases hc13 : x.ep.v = y.ep.v
   ·refine s_eql true rfl rfl (dtrue hc13) rfl (Pt (.bool true) (Mv (.bool true) (Rt (s_fieldAddr 26 3 3 3 3 rfl fi_26_3 rfl rfl (Rt (s_load (.int .i64 x.kind.v) ag_3 rfl (H10.blk_at (i := 1) rfl) rfl rfl (Rt (s_fieldAddr 26 3 3 3 3 rfl fi_26_3 rfl rfl (Rt (s_load (.int .i64 y.kind.v) ag_3 rfl (H10.blk_at (i := 0) rfl) rfl rfl (Rt ?_)))))))))))
    by_cases hc14 : x.kind.v = y.kind.v
    ·refine s_eql true rfl rfl (dtrue hc14) rfl (Pt (.bool true) (Mv (.bool true) (Rt (s_fieldAddr 26 5 5 5 2 rfl fi_26_5 rfl rfl (Rt (s_load (.int .i64 x.t.v) ag_2 rfl (H10.blk_at (i := 1) rfl) rfl rfl (Rt (s_fieldAddr 26 5 5 5 2 rfl fi_26_5 rfl rfl (Rt (s_load (.int .i64 y.t.v) ag_2 rfl (H10.blk_at (i := 0) rfl) rfl rfl (Rt ?_)))))))))))
     by_cases hc15 : x.t.v = y.t.v
     ·refine s_eql true rfl rfl (dtrue hc15) rfl (Pt (.bool true) (Mv (.bool true) (Rt (s_fieldAddr 26 4 4 4 24 rfl fi_26_4 rfl rfl (Rt (s_loadAgg [.slice x.p x.bs.length x.c] 1 ag_24 rfl (H10.blk_at (i := 1) rfl) (nbl rfl) rfl rfl (Rt (s_fieldAddr 26 4 4 4 24 rfl fi_26_4 rfl rfl (Rt (s_loadAgg [.slice y.p y.bs.length y.c] 1 ag_24 rfl (H10.blk_at (i := 0) rfl) (nbl rfl) rfl rfl (Rt (s_call [.agg #[.slice x.p x.bs.length x.c], .agg #[.slice y.p y.bs.length y.c]] pl_52 rfl rfl (match_Same x.bs y.bs _ _ (ip := 5) rfl (iq := 4) rfl (ip2 := 3) rfl (iq2 := 2) rfl H10) ?_))))))))))))
      rintro _ w16 ⟨rfl, H17⟩
      refine Pt (.bool (sameBs x.bs y.bs)) (Ag (.bool (sameBs x.bs y.bs)) (r_nil (Gr [.bool (sameBs x.bs y.bs)] Tryz.func14 Tryz.results14 ?_)))
      have H18 : St W w16 F := ((((((H17.drop 0 rfl).drop 0 rfl).drop 0 rfl).drop 0 rfl).drop 0 rfl).drop 0 rfl)
      exact ⟨congrArg Value.bool (by rw [sameIt_eq]; simp_all), H18⟩
     refine s_eql false rfl rfl (dfalse hc15) rfl (Pt (.bool false) (Mv (.bool false) (Rp (Rp (Rp (Rp (Rp (Pf (.bool false) (Ag (.bool false) (r_nil (Gr [.bool false] Tryz.func14 Tryz.results14 ?_)))))))))))
     have H19 : St W w9 F := ((((((H10.drop 0 rfl).drop 0 rfl).drop 0 rfl).drop 0 rfl).drop 0 rfl).drop 0 rfl)
     exact ⟨congrArg Value.bool t12, H19⟩
    refine s_eql false rfl rfl (dfalse hc14) rfl (Pt (.bool false) (Mv (.bool false) (Rp (Rp (Rp (Rp (Rp (Pf (.bool false) (Mv (.bool false) (Rp (Rp (Rp (Rp (Rp (Pf (.bool false) (Ag (.bool false) (r_nil (Gr [.bool false] Tryz.func14 Tryz.results14 ?_))))))))))))))))))
    have H20 : St W w9 F := ((((((H10.drop 0 rfl).drop 0 rfl).drop 0 rfl).drop 0 rfl).drop 0 rfl).drop 0 rfl)
    exact ⟨congrArg Value.bool t12, H20⟩
   refine s_eql false rfl rfl (dfalse hc13) rfl (Pt (.bool false) (Mv (.bool false) (Rp (Rp (Rp (Rp (Rp (Pf (.bool false) (Mv (.bool false) (Rp (Rp (Rp (Rp (Rp (Pf (.bool false) (Mv (.bool false) (Rp (Rp (Rp (Rp (Rp (Pf (.bool false) (Ag (.bool false) (r_nil (Gr [.bool false] Tryz.func14 Tryz.results14 ?_)))))))))))))))))))))))))
   have H21 : St W w9 F := ((((((H10.drop 0 rfl).drop 0 rfl).drop 0 rfl).drop 0 rfl).drop 0 rfl).drop 0 rfl)
   exact ⟨congrArg Value.bool t12, H21⟩
  refine s_eql false rfl rfl (dfalse hc12) rfl (Pt (.bool false) (Mv (.bool false) (Rp (Rp (Rp (Rp (Rp (Pf (.bool false) (Mv (.bool false) (Rp (Rp (Rp (Rp (Rp (Pf (.bool false) (Mv (.bool false) (Rp (Rp (Rp (Rp (Rp (Pf (.bool false) (Mv (.bool false) (Rp (Rp (Rp (Rp (Rp (Pf (.bool false) (Ag (.bool false) (r_nil (Gr [.bool false] Tryz.func14 Tryz.results14 ?_))))))))))))))))))))))))))))))))
  have H22 : St W w9 F := ((((((H10.drop 0 rfl).drop 0 rfl).drop 0 rfl).drop 0 rfl).drop 0 rfl).drop 0 rfl)
  exact ⟨congrArg Value.bool t12, H22⟩
 refine rc (s_eql false rfl rfl (dfalse hc11) rfl (Mv (.bool false) (Rp (Rp (Rp (Rp (Rp (Pf (.bool false) (Mv (.bool false) (Rp (Rp (Rp (Rp (Rp (Pf (.bool false) (Mv (.bool false) (Rp (Rp (Rp (Rp (Rp (Pf (.bool false) (Mv (.bool false) (Rp (Rp (Rp (Rp (Rp (Pf (.bool false) (Mv (.bool false) (Rp (Rp (Rp (Rp (Rp (Pf (.bool false) (Ag (.bool false) (r_nil (Gr [.bool false] Tryz.func14 Tryz.results14 ?_)))))))))))))))))))))))))))))))))))))))
 have H23 : St W w9 F := ((((((H10.drop 0 rfl).drop 0 rfl).drop 0 rfl).drop 0 rfl).drop 0 rfl).drop 0 rfl)
 exact ⟨congrArg Value.bool t12, H23⟩
set_option maxHeartbeats 4000000 in
set_option maxRecDepth 100000 in
theorem MigrateItems_ {W w : World} {F : List Atom} (x y : ItemD) (bs : List UInt8) (bv : Value) (hb : bs.length ≤ 17592186044416) {j : Nat} (hj : F[j]? = some (Im 1 bv bs.length (bs.flatMap u8c))) {ip : Nat} (hp : F[ip]? = some (Im 6 (.slice x.p x.bs.length x.c) x.bs.length (x.bs.flatMap bndCell))) {iq : Nat} (hq : F[iq]? = some (bndsA x.bs)) {ip2 : Nat} (hp2 : F[ip2]? = some (Im 6 (.slice y.p y.bs.length y.c) y.bs.length (y.bs.flatMap bndCell))) {iq2 : Nat} (hq2 : F[iq2]? = some (bndsA y.bs)) (H : St W w F) : Calls Tryz.prog 3 #[.agg #[.int .i64 x.op.v, .int .i64 x.inp.v, .int .i64 x.ep.v, .int .i64 x.kind.v, .slice x.p x.bs.length x.c, .int .i64 x.t.v], .agg #[.int .i64 y.op.v, .int .i64 y.inp.v, .int .i64 y.ep.v, .int .i64 y.kind.v, .slice y.p y.bs.length y.c, .int .i64 y.t.v], bv] w (Ret fun v w' => v = .bool true ∧ St W w' F) := by
 have H1 := (H.dup (i := ip + 0) t56 (Im_pers _ _ _ _)).dup (i := iq + 1) t57 (bndsA_pers _)
 have H2 : St W w (_ :: _ :: F) := H1
 have H3 := (H2.dup (i := ip2 + 2) (by exact hp2) (Im_pers _ _ _ _)).dup (i := iq2 + 3) (by exact hq2) (bndsA_pers _)
 have H4 : St W w (_ :: _ :: _ :: _ :: F) := H3
 obtain ⟨pp5, cc6, rfl, hsh7⟩ := Rd.shape (Im.rd H (i := j) hj)
 have H8 := H4.dup (i := j + 4) (by exact hj) (Im_pers _ _ _ _)
 have H9 : St W w (_ :: _ :: _ :: _ :: _ :: F) := H8
 have hxe := itE_V x
 refine calls_of_go (n := 108) Tryz.func3 rfl Tryz.ntmps3 rfl ?_
 refine g_seq (g_region (Bx H9 26 #[.int .i64 x.op.v, .int .i64 x.inp.v, .int .i64 x.ep.v, .int .i64 x.kind.v, .slice x.p x.bs.length x.c, .int .i64 x.t.v] (fun bk10 w11 H12 => Bx H12 26 #[.int .i64 y.op.v, .int .i64 y.inp.v, .int .i64 y.ep.v, .int .i64 y.kind.v, .slice y.p y.bs.length y.c, .int .i64 y.t.v] (fun bk13 w14 H15 => Ag (.bool false) (r_nil (g_seq (g_region (La [.int .i64 x.op.v, .int .i64 x.inp.v, .int .i64 x.ep.v, .int .i64 x.kind.v, .slice x.p x.bs.length x.c, .int .i64 x.t.v] 6 ag_26 H15 1 (rc (s_call [.agg #[.int .i64 x.op.v, .int .i64 x.inp.v, .int .i64 x.ep.v, .int .i64 x.kind.v, .slice x.p x.bs.length x.c, .int .i64 x.t.v]] pl_5 rfl rfl (migrate_ItemBytes x (ip := 6) rfl (iq := 5) rfl H15) ?_))))))))))
 rintro _ w18 ⟨pp16, _, cc17, rfl, rfl, H19⟩
 refine Mv (.tuple #[.slice pp16 ((itBytes x.v).length) cc17, .int .i64 (itE x)]) (Ex (.slice pp16 ((itBytes x.v).length) cc17) (Ex (.int .i64 (itE x)) (Ag (.slice pp16 ((itBytes x.v).length) cc17) (Ag (.int .i64 (itE x)) (r_nil (g_seq (g_region (La [.int .i64 x.op.v, .int .i64 x.inp.v, .int .i64 x.ep.v, .int .i64 x.kind.v, .slice x.p x.bs.length x.c, .int .i64 x.t.v] 6 ag_26 H19 2 (rc (s_call [.agg #[.int .i64 x.op.v, .int .i64 x.inp.v, .int .i64 x.ep.v, .int .i64 x.kind.v, .slice x.p x.bs.length x.c, .int .i64 x.t.v]] pl_6 rfl rfl (ref24_ItemBytes x (ip := 7) rfl (iq := 6) rfl H19) ?_))))))))))
 rintro _ w22 ⟨pp20, _, cc21, rfl, rfl, H23⟩
 refine Mv (.tuple #[.slice pp20 ((itBytes x.v).length) cc21, .int .i64 (itE x)]) (Ex (.slice pp20 ((itBytes x.v).length) cc21) (Ex (.int .i64 (itE x)) (Ag (.slice pp20 ((itBytes x.v).length) cc21) (Ag (.int .i64 (itE x)) (r_nil (g_seq (g_region (Mv (.slice pp5 bs.length cc6) (rc (s_call [.slice pp5 bs.length cc6] pl_7 rfl rfl (migrate_ParseItem _ _ bs RdA.im t0 (j := 4) rfl H23) ?_))))))))))
 rintro _ w26 ⟨it24, rfl, hx25, H27⟩
 refine Mv (.tuple #[.agg #[.int .i64 it24.op.v, .int .i64 it24.inp.v, .int .i64 it24.ep.v, .int .i64 it24.kind.v, .slice it24.p it24.bs.length it24.c, .int .i64 it24.t.v], .int .i64 (ipE (remB bs 0))]) (Ex (.agg #[.int .i64 it24.op.v, .int .i64 it24.inp.v, .int .i64 it24.ep.v, .int .i64 it24.kind.v, .slice it24.p it24.bs.length it24.c, .int .i64 it24.t.v]) (Ex (.int .i64 (ipE (remB bs 0))) (rc (s_alloc H27 26 ze_26 rfl (fun bk28 w29 H30 => Sa H30 0 rfl #[.int .i64 it24.op.v, .int .i64 it24.inp.v, .int .i64 it24.ep.v, .int .i64 it24.kind.v, .slice it24.p it24.bs.length it24.c, .int .i64 it24.t.v] 6 sz_26 #[.int .i64 it24.op.v, .int .i64 it24.inp.v, .int .i64 it24.ep.v, .int .i64 it24.kind.v, .slice it24.p it24.bs.length it24.c, .int .i64 it24.t.v] (fun w31 H32 => Ag (.int .i64 (ipE (remB bs 0))) (r_nil (g_seq (g_region (Mv (.slice pp5 bs.length cc6) (rc (s_call [.slice pp5 bs.length cc6] pl_8 rfl rfl (ref24_ParseItem bs _ t0 (j := 7) rfl H32) ?_))))))))))))
 rintro _ w35 ⟨it33, rfl, hx34, H36⟩
 refine Mv (.tuple #[.agg #[.int .i64 it33.op.v, .int .i64 it33.inp.v, .int .i64 it33.ep.v, .int .i64 it33.kind.v, .slice it33.p it33.bs.length it33.c, .int .i64 it33.t.v], .int .i64 (ipE (remB bs 0))]) (Ex (.agg #[.int .i64 it33.op.v, .int .i64 it33.inp.v, .int .i64 it33.ep.v, .int .i64 it33.kind.v, .slice it33.p it33.bs.length it33.c, .int .i64 it33.t.v]) (Ex (.int .i64 (ipE (remB bs 0))) (rc (s_alloc H36 26 ze_26 rfl (fun bk37 w38 H39 => Sa H39 0 rfl #[.int .i64 it33.op.v, .int .i64 it33.inp.v, .int .i64 it33.ep.v, .int .i64 it33.kind.v, .slice it33.p it33.bs.length it33.c, .int .i64 it33.t.v] 6 sz_26 #[.int .i64 it33.op.v, .int .i64 it33.inp.v, .int .i64 it33.ep.v, .int .i64 it33.kind.v, .slice it33.p it33.bs.length it33.c, .int .i64 it33.t.v] (fun w40 H41 => Ag (.int .i64 (ipE (remB bs 0))) (r_nil (g_seq (g_seq ?_)))))))))
 refine g_quiet (fun w' => St W w' (blk bk37 (.cells #[.int .i64 it33.op.v, .int .i64 it33.inp.v, .int .i64 it33.ep.v, .int .i64 it33.kind.v, .slice it33.p it33.bs.length it33.c, .int .i64 it33.t.v] 26 (0, 0)) :: Im 6 (.slice it33.p it33.bs.length it33.c) it33.bs.length (it33.bs.flatMap bndCell) :: bndsA it33.bs :: blk bk28 (.cells #[.int .i64 it24.op.v, .int .i64 it24.inp.v, .int .i64 it24.ep.v, .int .i64 it24.kind.v, .slice it24.p it24.bs.length it24.c, .int .i64 it24.t.v] 26 (0, 0)) :: Im 6 (.slice it24.p it24.bs.length it24.c) it24.bs.length (it24.bs.flatMap bndCell) :: bndsA it24.bs :: Row 5 1 (.slice pp20 ((itBytes x.v).length) cc21) ((itBytes x.v).length) ((itBytes x.v).flatMap u8c) :: Row 5 1 (.slice pp16 ((itBytes x.v).length) cc17) ((itBytes x.v).length) ((itBytes x.v).flatMap u8c) :: blk bk13 (.cells #[.int .i64 y.op.v, .int .i64 y.inp.v, .int .i64 y.ep.v, .int .i64 y.kind.v, .slice y.p y.bs.length y.c, .int .i64 y.t.v] 26 (0, 0)) :: blk bk10 (.cells #[.int .i64 x.op.v, .int .i64 x.inp.v, .int .i64 x.ep.v, .int .i64 x.kind.v, .slice x.p x.bs.length x.c, .int .i64 x.t.v] 26 (0, 0)) :: Im 1 (.slice pp5 bs.length cc6) bs.length (bs.flatMap u8c) :: bndsA y.bs :: Im 6 (.slice y.p y.bs.length y.c) y.bs.length (y.bs.flatMap bndCell) :: bndsA x.bs :: Im 6 (.slice x.p x.bs.length x.c) x.bs.length (x.bs.flatMap bndCell) :: F)) mixed t7 H41.drew ?_
 refine q_cons (q_enter (args := #[]) (v := .bool true) rfl rfl rfl (x_call pl_9 [] rfl) (fun w hw => begun_ hw) (Qv (fun w hw => x_not true rfl false rfl w) (Qm (.bool false) (Qt (Qu (fun w hw => x_loadAgg [.int .i64 x.op.v, .int .i64 x.inp.v, .int .i64 x.ep.v, .int .i64 x.kind.v, .slice x.p x.bs.length x.c, .int .i64 x.t.v] 6 ag_26 rfl (hw.blk_at (i := 9) rfl) (nbl rfl) rfl) (Qt ?_))))))
 refine q_enter (args := #[.agg #[.int .i64 x.op.v, .int .i64 x.inp.v, .int .i64 x.ep.v, .int .i64 x.kind.v, .slice x.p x.bs.length x.c, .int .i64 x.t.v]]) (v := .int .i64 (itE x)) rfl rfl rfl (x_call pl_10 [.agg #[.int .i64 x.op.v, .int .i64 x.inp.v, .int .i64 x.ep.v, .int .i64 x.kind.v, .slice x.p x.bs.length x.c, .int .i64 x.t.v]] rfl) (fun w hw => migrate_CheckItem x (ip := 14) rfl (iq := 13) rfl hw) ?_
 refine Qt (Qu (fun w hw => x_loadAgg [.int .i64 x.op.v, .int .i64 x.inp.v, .int .i64 x.ep.v, .int .i64 x.kind.v, .slice x.p x.bs.length x.c, .int .i64 x.t.v] 6 ag_26 rfl (hw.blk_at (i := 9) rfl) (nbl rfl) rfl) (Qt ?_))
 refine q_enter (args := #[.agg #[.int .i64 x.op.v, .int .i64 x.inp.v, .int .i64 x.ep.v, .int .i64 x.kind.v, .slice x.p x.bs.length x.c, .int .i64 x.t.v]]) (v := .int .i64 (itE x)) rfl rfl rfl (x_call pl_11 [.agg #[.int .i64 x.op.v, .int .i64 x.inp.v, .int .i64 x.ep.v, .int .i64 x.kind.v, .slice x.p x.bs.length x.c, .int .i64 x.t.v]] rfl) (fun w hw => ref24_CheckItem x (ip := 14) rfl (iq := 13) rfl hw) ?_
 refine Qt (Qu (fun w hw => x_neq false rfl rfl (ntrue rfl) w) (Qv (fun w hw => x_pick_f (.bool false) rfl rfl w) (Qm (.bool false) (Qt (Qn (.slice pp16 ((itBytes x.v).length) cc17) (Qt (Qn (.slice pp20 ((itBytes x.v).length) cc21) (Qt ?_))))))))
 refine q_enter (args := #[.slice pp16 ((itBytes x.v).length) cc17, .slice pp20 ((itBytes x.v).length) cc21]) (v := .bool (decide ((itBytes x.v) = (itBytes x.v)))) rfl rfl rfl (x_call pl_12 [.slice pp16 ((itBytes x.v).length) cc17, .slice pp20 ((itBytes x.v).length) cc21] rfl) (fun w hw => bytes_Equal _ _ _ _ _ _ (itBytes x.v) (itBytes x.v) RdA.row RdA.row (j := 7) rfl (k := 6) rfl hw) ?_
 refine Qt (Qu (fun w hw => x_not (decide ((itBytes x.v) = (itBytes x.v))) rfl false (by rw [(decide_eq_true rfl)]; rfl) w) (Qv (fun w hw => x_pick_f (.bool false) rfl rfl w) (Qm (.bool false) (Qt (Qn (.int .i64 (itE x)) (Qt (Qn (.int .i64 (itE x)) (Qt (Qu (fun w hw => x_neq false rfl rfl (ntrue rfl) w) (Qv (fun w hw => x_pick_f (.bool false) rfl rfl w) (Qm (.bool false) (Qt (Qu (fun w hw => x_loadAgg [.int .i64 it24.op.v, .int .i64 it24.inp.v, .int .i64 it24.ep.v, .int .i64 it24.kind.v, .slice it24.p it24.bs.length it24.c, .int .i64 it24.t.v] 6 ag_26 rfl (hw.blk_at (i := 3) rfl) (nbl rfl) rfl) (Qt (Qu (fun w hw => x_loadAgg [.int .i64 it33.op.v, .int .i64 it33.inp.v, .int .i64 it33.ep.v, .int .i64 it33.kind.v, .slice it33.p it33.bs.length it33.c, .int .i64 it33.t.v] 6 ag_26 rfl (hw.blk_at (i := 0) rfl) (nbl rfl) rfl) (Qt ?_))))))))))))))))
 refine q_enter (args := #[.agg #[.int .i64 it24.op.v, .int .i64 it24.inp.v, .int .i64 it24.ep.v, .int .i64 it24.kind.v, .slice it24.p it24.bs.length it24.c, .int .i64 it24.t.v], .agg #[.int .i64 it33.op.v, .int .i64 it33.inp.v, .int .i64 it33.ep.v, .int .i64 it33.kind.v, .slice it33.p it33.bs.length it33.c, .int .i64 it33.t.v]]) (v := .bool (sameIt it24 it33)) rfl rfl rfl (x_call pl_13 [.agg #[.int .i64 it24.op.v, .int .i64 it24.inp.v, .int .i64 it24.ep.v, .int .i64 it24.kind.v, .slice it24.p it24.bs.length it24.c, .int .i64 it24.t.v], .agg #[.int .i64 it33.op.v, .int .i64 it33.inp.v, .int .i64 it33.ep.v, .int .i64 it33.kind.v, .slice it33.p it33.bs.length it33.c, .int .i64 it33.t.v]] rfl) (fun w hw => ref24_SameItem it24 it33 (ip := 4) rfl (iq := 5) rfl (ip2 := 1) rfl (iq2 := 2) rfl hw) ?_
 refine Qt (Qu (fun w hw => x_not (sameIt it24 it33) rfl false (by rw [(sameIt_is.2 (hx25.trans hx34.symm))]; rfl) w) (Qv (fun w hw => x_pick_f (.bool false) rfl rfl w) (Qm (.bool false) (Qt (Qn (.int .i64 (ipE (remB bs 0))) (Qt (Qn (.int .i64 (ipE (remB bs 0))) (Qt (Qu (fun w hw => x_neq false rfl rfl (ntrue rfl) w) (Qv (fun w hw => x_pick_f (.bool false) rfl rfl w) (Qm (.bool false) (Qt (Qu (fun w hw => x_loadAgg [.int .i64 x.op.v, .int .i64 x.inp.v, .int .i64 x.ep.v, .int .i64 x.kind.v, .slice x.p x.bs.length x.c, .int .i64 x.t.v] 6 ag_26 rfl (hw.blk_at (i := 9) rfl) (nbl rfl) rfl) (Qt (Qu (fun w hw => x_loadAgg [.int .i64 y.op.v, .int .i64 y.inp.v, .int .i64 y.ep.v, .int .i64 y.kind.v, .slice y.p y.bs.length y.c, .int .i64 y.t.v] 6 ag_26 rfl (hw.blk_at (i := 8) rfl) (nbl rfl) rfl) (Qt ?_))))))))))))))))
 refine q_enter (args := #[.agg #[.int .i64 x.op.v, .int .i64 x.inp.v, .int .i64 x.ep.v, .int .i64 x.kind.v, .slice x.p x.bs.length x.c, .int .i64 x.t.v], .agg #[.int .i64 y.op.v, .int .i64 y.inp.v, .int .i64 y.ep.v, .int .i64 y.kind.v, .slice y.p y.bs.length y.c, .int .i64 y.t.v]]) (v := .bool (sameIt x y)) rfl rfl rfl (x_call pl_14 [.agg #[.int .i64 x.op.v, .int .i64 x.inp.v, .int .i64 x.ep.v, .int .i64 x.kind.v, .slice x.p x.bs.length x.c, .int .i64 x.t.v], .agg #[.int .i64 y.op.v, .int .i64 y.inp.v, .int .i64 y.ep.v, .int .i64 y.kind.v, .slice y.p y.bs.length y.c, .int .i64 y.t.v]] rfl) (fun w hw => migrate_SameItem x y (ip := 14) rfl (iq := 13) rfl (ip2 := 12) rfl (iq2 := 11) rfl hw) ?_
 refine Qt (Qu (fun w hw => x_loadAgg [.int .i64 x.op.v, .int .i64 x.inp.v, .int .i64 x.ep.v, .int .i64 x.kind.v, .slice x.p x.bs.length x.c, .int .i64 x.t.v] 6 ag_26 rfl (hw.blk_at (i := 9) rfl) (nbl rfl) rfl) (Qt (Qu (fun w hw => x_loadAgg [.int .i64 y.op.v, .int .i64 y.inp.v, .int .i64 y.ep.v, .int .i64 y.kind.v, .slice y.p y.bs.length y.c, .int .i64 y.t.v] 6 ag_26 rfl (hw.blk_at (i := 8) rfl) (nbl rfl) rfl) (Qt ?_))))
 refine q_enter (args := #[.agg #[.int .i64 x.op.v, .int .i64 x.inp.v, .int .i64 x.ep.v, .int .i64 x.kind.v, .slice x.p x.bs.length x.c, .int .i64 x.t.v], .agg #[.int .i64 y.op.v, .int .i64 y.inp.v, .int .i64 y.ep.v, .int .i64 y.kind.v, .slice y.p y.bs.length y.c, .int .i64 y.t.v]]) (v := .bool (sameIt x y)) rfl rfl rfl (x_call pl_13 [.agg #[.int .i64 x.op.v, .int .i64 x.inp.v, .int .i64 x.ep.v, .int .i64 x.kind.v, .slice x.p x.bs.length x.c, .int .i64 x.t.v], .agg #[.int .i64 y.op.v, .int .i64 y.inp.v, .int .i64 y.ep.v, .int .i64 y.kind.v, .slice y.p y.bs.length y.c, .int .i64 y.t.v]] rfl) (fun w hw => ref24_SameItem x y (ip := 14) rfl (iq := 13) rfl (ip2 := 12) rfl (iq2 := 11) rfl hw) ?_
 refine Qt (Qu (fun w hw => x_bneq false un_4 rfl rfl (ntrue rfl) w) (Qv (fun w hw => x_pick_f (.bool false) rfl rfl w) (q_nil ?_)))
 intro w42 H43
 refine g_false rfl (g_skip (g_seq (g_seq (g_region (Mv (.int .i64 (ipE (remB bs 0))) ?_)))))
 by_cases hc44 : ipE (remB bs 0) = 0
 ·refine rc (s_eql true rfl rfl (dtrue hc44) rfl (r_nil (g_true rfl (g_seq (g_region ?_)))))
  have hdc := it_dec (bs := bs) t0 hc44
  have hz1 : itE it24 = 0 := (itE_of hx25).trans hdc.1
  refine La [.int .i64 it24.op.v, .int .i64 it24.inp.v, .int .i64 it24.ep.v, .int .i64 it24.kind.v, .slice it24.p it24.bs.length it24.c, .int .i64 it24.t.v] 6 ag_26 H43 3 (rc (s_call [.agg #[.int .i64 it24.op.v, .int .i64 it24.inp.v, .int .i64 it24.ep.v, .int .i64 it24.kind.v, .slice it24.p it24.bs.length it24.c, .int .i64 it24.t.v]] pl_5 rfl rfl (migrate_ItemBytes it24 (ip := 4) rfl (iq := 5) rfl H43) ?_))
  rintro _ w47 ⟨pp45, _, cc46, rfl, rfl, H48⟩
  refine Mv (.tuple #[.slice pp45 ((itBytes it24.v).length) cc46, .int .i64 (itE it24)]) (Ex (.slice pp45 ((itBytes it24.v).length) cc46) (Ex (.int .i64 (itE it24)) (Ag (.slice pp45 ((itBytes it24.v).length) cc46) (Ag (.int .i64 (itE it24)) (r_nil (g_seq (g_region (Mv (.int .i64 (itE it24)) (rc (s_neq false rfl rfl (ntrue hz1) rfl (Mv (.bool false) (Rt (Mw (.slice pp5 bs.length cc6) (Rt (Mw (.slice pp45 ((itBytes it24.v).length) cc46) (Rt (s_call [.slice pp5 bs.length cc6, .slice pp45 ((itBytes it24.v).length) cc46] pl_12 rfl rfl (bytes_Equal _ _ _ _ _ _ bs (itBytes it24.v) RdA.im RdA.row (j := 11) rfl (k := 0) rfl H48) ?_)))))))))))))))))
  rintro _ w49 ⟨rfl, H50⟩
  refine Rt (s_not (decide (bs = (itBytes it24.v))) rfl false (by rw [(decide_eq_true (by rw [hx25]; exact hdc.2.symm))]; rfl) rfl (Pf (.bool false) (r_nil (g_false rfl (g_skip (g_seq (g_seq (g_region (Mv (.int .i64 (itE x)) ?_)))))))))
  by_cases hc51 : itE x = 0
  ·refine rc (s_eql true rfl rfl (dtrue hc51) rfl (r_nil (g_true rfl (g_seq (g_region ?_)))))
   have hen := it_enc (x := x.v) (by rw [← hxe]; exact hc51)
   refine Mv (.slice pp16 ((itBytes x.v).length) cc17) (rc (s_call [.slice pp16 ((itBytes x.v).length) cc17] pl_7 rfl rfl (migrate_ParseItem _ _ (itBytes x.v) RdA.row (Nat.le_trans (itBytes_le _) t10) (j := 8) rfl H50) ?_))
   rintro _ w54 ⟨it52, rfl, hx53, H55⟩
   refine Mv (.tuple #[.agg #[.int .i64 it52.op.v, .int .i64 it52.inp.v, .int .i64 it52.ep.v, .int .i64 it52.kind.v, .slice it52.p it52.bs.length it52.c, .int .i64 it52.t.v], .int .i64 (ipE (remB (itBytes x.v) 0))]) (Ex (.agg #[.int .i64 it52.op.v, .int .i64 it52.inp.v, .int .i64 it52.ep.v, .int .i64 it52.kind.v, .slice it52.p it52.bs.length it52.c, .int .i64 it52.t.v]) (Ex (.int .i64 (ipE (remB (itBytes x.v) 0))) (rc (s_alloc H55 26 ze_26 rfl (fun bk56 w57 H58 => Sa H58 0 rfl #[.int .i64 it52.op.v, .int .i64 it52.inp.v, .int .i64 it52.ep.v, .int .i64 it52.kind.v, .slice it52.p it52.bs.length it52.c, .int .i64 it52.t.v] 6 sz_26 #[.int .i64 it52.op.v, .int .i64 it52.inp.v, .int .i64 it52.ep.v, .int .i64 it52.kind.v, .slice it52.p it52.bs.length it52.c, .int .i64 it52.t.v] (fun w59 H60 => Ag (.int .i64 (ipE (remB (itBytes x.v) 0))) (r_nil (g_seq (g_region (Mv (.int .i64 (ipE (remB (itBytes x.v) 0))) (rc (s_eql true rfl rfl (dtrue hen.1) rfl (Mv (.bool true) (Rt (s_loadAgg [.int .i64 it52.op.v, .int .i64 it52.inp.v, .int .i64 it52.ep.v, .int .i64 it52.kind.v, .slice it52.p it52.bs.length it52.c, .int .i64 it52.t.v] 6 ag_26 rfl (H60.blk_at (i := 0) rfl) (nbl rfl) rfl rfl (Rt (s_loadAgg [.int .i64 x.op.v, .int .i64 x.inp.v, .int .i64 x.ep.v, .int .i64 x.kind.v, .slice x.p x.bs.length x.c, .int .i64 x.t.v] 6 ag_26 rfl (H60.blk_at (i := 13) rfl) (nbl rfl) rfl rfl (Rt (s_call [.agg #[.int .i64 it52.op.v, .int .i64 it52.inp.v, .int .i64 it52.ep.v, .int .i64 it52.kind.v, .slice it52.p it52.bs.length it52.c, .int .i64 it52.t.v], .agg #[.int .i64 x.op.v, .int .i64 x.inp.v, .int .i64 x.ep.v, .int .i64 x.kind.v, .slice x.p x.bs.length x.c, .int .i64 x.t.v]] pl_14 rfl rfl (migrate_SameItem it52 x (ip := 1) rfl (iq := 2) rfl (ip2 := 18) rfl (iq2 := 17) rfl H60) ?_)))))))))))))))))))
   rintro _ w61 ⟨rfl, H62⟩
   refine Pt (.bool (sameIt it52 x)) (Ag (.bool (sameIt it52 x)) (r_nil (Gr [.bool (sameIt it52 x)] Tryz.func3 Tryz.results3 ?_)))
   have H63 : St W w61 (_ :: _ :: _ :: _ :: _ :: _ :: _ :: _ :: _ :: _ :: _ :: _ :: _ :: _ :: _ :: F) := ((((H62.drop 0 rfl).drop 0 rfl).drop 0 rfl).drop 0 rfl)
   have H64 : St W w61 (_ :: _ :: _ :: _ :: _ :: _ :: _ :: _ :: _ :: _ :: _ :: F) := ((((H63.drop 0 rfl).drop 0 rfl).drop 0 rfl).drop 0 rfl)
   have H65 : St W w61 (_ :: _ :: _ :: _ :: _ :: _ :: _ :: F) := ((((H64.drop 0 rfl).drop 0 rfl).drop 0 rfl).drop 0 rfl)
   have H66 : St W w61 (_ :: _ :: _ :: F) := ((((H65.drop 0 rfl).drop 0 rfl).drop 0 rfl).drop 0 rfl)
   have H67 : St W w61 F := (((H66.drop 0 rfl).drop 0 rfl).drop 0 rfl)
   exact ⟨congrArg Value.bool (sameIt_is.2 (hx53.trans hen.2)), H67⟩
  refine rc (s_eql false rfl rfl (dfalse hc51) rfl (r_nil (g_false rfl (g_skip (g_seq (g_region (Ag (.bool true) (r_nil (Gr [.bool true] Tryz.func3 Tryz.results3 ?_)))))))))
  have H68 : St W w49 (_ :: _ :: _ :: _ :: _ :: _ :: _ :: _ :: _ :: _ :: _ :: _ :: F) := ((((H50.drop 0 rfl).drop 0 rfl).drop 0 rfl).drop 0 rfl)
  have H69 : St W w49 (_ :: _ :: _ :: _ :: _ :: _ :: _ :: _ :: F) := ((((H68.drop 0 rfl).drop 0 rfl).drop 0 rfl).drop 0 rfl)
  have H70 : St W w49 (_ :: _ :: _ :: _ :: F) := ((((H69.drop 0 rfl).drop 0 rfl).drop 0 rfl).drop 0 rfl)
  have H71 : St W w49 F := ((((H70.drop 0 rfl).drop 0 rfl).drop 0 rfl).drop 0 rfl)
  exact ⟨rfl, H71⟩
 refine rc (s_eql false rfl rfl (dfalse hc44) rfl (r_nil (g_false rfl (g_skip (g_seq (g_seq (g_region (Mv (.int .i64 (itE x)) ?_))))))))
 by_cases hc72 : itE x = 0
 ·refine rc (s_eql true rfl rfl (dtrue hc72) rfl (r_nil (g_true rfl (g_seq (g_region ?_)))))
  have hen := it_enc (x := x.v) (by rw [← hxe]; exact hc72)
  refine Mv (.slice pp16 ((itBytes x.v).length) cc17) (rc (s_call [.slice pp16 ((itBytes x.v).length) cc17] pl_7 rfl rfl (migrate_ParseItem _ _ (itBytes x.v) RdA.row (Nat.le_trans (itBytes_le _) t10) (j := 7) rfl H43) ?_))
  rintro _ w75 ⟨it73, rfl, hx74, H76⟩
  refine Mv (.tuple #[.agg #[.int .i64 it73.op.v, .int .i64 it73.inp.v, .int .i64 it73.ep.v, .int .i64 it73.kind.v, .slice it73.p it73.bs.length it73.c, .int .i64 it73.t.v], .int .i64 (ipE (remB (itBytes x.v) 0))]) (Ex (.agg #[.int .i64 it73.op.v, .int .i64 it73.inp.v, .int .i64 it73.ep.v, .int .i64 it73.kind.v, .slice it73.p it73.bs.length it73.c, .int .i64 it73.t.v]) (Ex (.int .i64 (ipE (remB (itBytes x.v) 0))) (rc (s_alloc H76 26 ze_26 rfl (fun bk77 w78 H79 => Sa H79 0 rfl #[.int .i64 it73.op.v, .int .i64 it73.inp.v, .int .i64 it73.ep.v, .int .i64 it73.kind.v, .slice it73.p it73.bs.length it73.c, .int .i64 it73.t.v] 6 sz_26 #[.int .i64 it73.op.v, .int .i64 it73.inp.v, .int .i64 it73.ep.v, .int .i64 it73.kind.v, .slice it73.p it73.bs.length it73.c, .int .i64 it73.t.v] (fun w80 H81 => Ag (.int .i64 (ipE (remB (itBytes x.v) 0))) (r_nil (g_seq (g_region (Mv (.int .i64 (ipE (remB (itBytes x.v) 0))) (rc (s_eql true rfl rfl (dtrue hen.1) rfl (Mv (.bool true) (Rt (s_loadAgg [.int .i64 it73.op.v, .int .i64 it73.inp.v, .int .i64 it73.ep.v, .int .i64 it73.kind.v, .slice it73.p it73.bs.length it73.c, .int .i64 it73.t.v] 6 ag_26 rfl (H81.blk_at (i := 0) rfl) (nbl rfl) rfl rfl (Rt (s_loadAgg [.int .i64 x.op.v, .int .i64 x.inp.v, .int .i64 x.ep.v, .int .i64 x.kind.v, .slice x.p x.bs.length x.c, .int .i64 x.t.v] 6 ag_26 rfl (H81.blk_at (i := 12) rfl) (nbl rfl) rfl rfl (Rt (s_call [.agg #[.int .i64 it73.op.v, .int .i64 it73.inp.v, .int .i64 it73.ep.v, .int .i64 it73.kind.v, .slice it73.p it73.bs.length it73.c, .int .i64 it73.t.v], .agg #[.int .i64 x.op.v, .int .i64 x.inp.v, .int .i64 x.ep.v, .int .i64 x.kind.v, .slice x.p x.bs.length x.c, .int .i64 x.t.v]] pl_14 rfl rfl (migrate_SameItem it73 x (ip := 1) rfl (iq := 2) rfl (ip2 := 17) rfl (iq2 := 16) rfl H81) ?_)))))))))))))))))))
  rintro _ w82 ⟨rfl, H83⟩
  refine Pt (.bool (sameIt it73 x)) (Ag (.bool (sameIt it73 x)) (r_nil (Gr [.bool (sameIt it73 x)] Tryz.func3 Tryz.results3 ?_)))
  have H84 : St W w82 (_ :: _ :: _ :: _ :: _ :: _ :: _ :: _ :: _ :: _ :: _ :: _ :: _ :: _ :: F) := ((((H83.drop 0 rfl).drop 0 rfl).drop 0 rfl).drop 0 rfl)
  have H85 : St W w82 (_ :: _ :: _ :: _ :: _ :: _ :: _ :: _ :: _ :: _ :: F) := ((((H84.drop 0 rfl).drop 0 rfl).drop 0 rfl).drop 0 rfl)
  have H86 : St W w82 (_ :: _ :: _ :: _ :: _ :: _ :: F) := ((((H85.drop 0 rfl).drop 0 rfl).drop 0 rfl).drop 0 rfl)
  have H87 : St W w82 (_ :: _ :: F) := ((((H86.drop 0 rfl).drop 0 rfl).drop 0 rfl).drop 0 rfl)
  have H88 : St W w82 F := ((H87.drop 0 rfl).drop 0 rfl)
  exact ⟨congrArg Value.bool (sameIt_is.2 (hx74.trans hen.2)), H88⟩
 refine rc (s_eql false rfl rfl (dfalse hc72) rfl (r_nil (g_false rfl (g_skip (g_seq (g_region (Ag (.bool true) (r_nil (Gr [.bool true] Tryz.func3 Tryz.results3 ?_)))))))))
 have H89 : St W w42 (_ :: _ :: _ :: _ :: _ :: _ :: _ :: _ :: _ :: _ :: _ :: F) := ((((H43.drop 0 rfl).drop 0 rfl).drop 0 rfl).drop 0 rfl)
 have H90 : St W w42 (_ :: _ :: _ :: _ :: _ :: _ :: _ :: F) := ((((H89.drop 0 rfl).drop 0 rfl).drop 0 rfl).drop 0 rfl)
 have H91 : St W w42 (_ :: _ :: _ :: F) := ((((H90.drop 0 rfl).drop 0 rfl).drop 0 rfl).drop 0 rfl)
 have H92 : St W w42 F := (((H91.drop 0 rfl).drop 0 rfl).drop 0 rfl)
 exact ⟨rfl, H92⟩
end Sl
