/- Walks of the program's functions. Printed by a program of this claim's author. No condition. -/
import Derived.Test.YteogdknlofcpiaaGreatSlBA
import Derived.Test.YteogdknlofcpiaaGreatSlDB
import Derived.Test.YteogdknlofcpiaaGreatSlQ
import Derived.Test.YteogdknlofcpiaaGreatSlR
import Derived.Test.YteogdknlofcpiaaGreatSlP
import Derived.Test.YteogdknlofcpiaaGreatSlI
import Derived.Test.YteogdknlofcpiaaGreatSlAF
import Derived.Test.YteogdknlofcpiaaGreatSlDK
import Derived.Test.YteogdknlofcpiaaGreatSlDL
import Derived.Test.YteogdknlofcpiaaGreatSlDS
import Derived.Test.YteogdknlofcpiaaGreatSlZA
import Derived.Test.YteogdknlofcpiaaGreatProg
import Derived.Test.YteogdknlofcpiaaGreatWalkMigrateItems1
namespace Sl
open _root_.Go _root_.Go.RowKit _root_.Go.Proofs
set_option linter.all false
set_option maxHeartbeats 4000000 in
set_option maxRecDepth 100000 in
theorem ev_event {W w : World} {F : List Atom} (r b : Nat) (bs : List UInt8) (p : Nat) (X : RX) (hR : remB bs p = X.R) (hp : p ≤ 8 * bs.length) (hb : bs.length ≤ 140737488355328) (H : St W w (blk r (.cells #[.pointer (some ⟨b, 0, none⟩), .int .i64 X.e] 164 (0, 0)) :: SrcA b bs p :: F)) : Calls Tryz.prog 117 #[.pointer (some ⟨r, 0, none⟩)] w (Ret fun v w' => (evC tmN X = 0 ∧ ∃ q c p', v = .agg #[.int .i64 ((evS tmN X).src.v), .int .i64 ((evS tmN X).seq.v), .int .i64 ((evS tmN X).time.v), .string ((evS tmN X).typ.v), .slice q ((evS tmN X).attrs.length) c] ∧ remB bs p' = (v7 X).R ∧ p' ≤ 8 * bs.length ∧ St W w' (Attrs (.slice q ((evS tmN X).attrs.length) c) (evS tmN X).attrs :: blk r (.cells #[.pointer (some ⟨b, 0, none⟩), .int .i64 0] 164 (0, 0)) :: SrcA b bs p' :: F)) ∨ (¬ evC tmN X = 0 ∧ ∃ s1 s2 s3 s4 q n c p', v = .agg #[.int .i64 s1, .int .i64 s2, .int .i64 s3, .string s4, .slice q n c] ∧ St W w' (blk r (.cells #[.pointer (some ⟨b, 0, none⟩), .int .i64 (evC tmN X)] 164 (0, 0)) :: SrcA b bs p' :: F))) := by
 have hxl : X.R.length ≤ 1125899906842624 := by rw [← hR, remB_len]; omega
 refine calls_of_go (n := 50) Tryz.func117 rfl Tryz.ntmps117 rfl ?_
 refine g_seq (g_region (rc (s_alloc H 119 ze_119 rfl (fun bk1 w2 H3 => r_nil (g_seq (g_region (Mv (.pointer (some ⟨r, 0, none⟩)) ?_)))))))
 have H4 : St W w2 (_ :: _ :: _ :: F) := ((H3.move 2 rfl).move 2 rfl)
 refine rc (s_call [.pointer (some ⟨r, 0, none⟩), .int .i64 4] pl_126 rfl rfl (ev_bits r b bs p X hR hp t0 4 t10 H4) ?_)
 rintro _ w8 ⟨rfl, q5, hR6, hp7, H9⟩
 refine Mv (.pointer (some ⟨r, 0, none⟩)) ?_
 have H10 : St W w8 (_ :: _ :: _ :: F) := (((H9.move 2 rfl).move 2 rfl).move 2 rfl)
 refine rc (s_call [.pointer (some ⟨r, 0, none⟩)] pl_127 rfl rfl (ev_nat r b bs q5 ((stB 4 X).2) hR6 hp7 t0  H10) ?_)
 rintro _ w14 ⟨rfl, q11, hR12, hp13, H15⟩
 refine rc (s_build (cs := #[.int .i64 ((stB 4 X).1 : Int), .int .i64 (tmN (stN ((stB 4 X).2)).1)]) t7 rfl (rc (s_build (cs := #[.int .i64 ((stB 4 X).1 : Int), .int .i64 (tmN (stN ((stB 4 X).2)).1), .int .i64 0, .string ByteArray.empty, .slice none 0 0]) t7 rfl (rc (s_alloc H15 119 ze_119 rfl (fun bk16 w17 H18 => Sa H18 0 rfl #[.int .i64 ((stB 4 X).1 : Int), .int .i64 (tmN (stN ((stB 4 X).2)).1), .int .i64 0, .string ByteArray.empty, .slice none 0 0] 5 sz_119 #[.int .i64 ((stB 4 X).1 : Int), .int .i64 (tmN (stN ((stB 4 X).2)).1), .int .i64 0, .string ByteArray.empty, .slice none 0 0] (fun w19 H20 => r_nil (g_seq (g_region (Mv (.pointer (some ⟨r, 0, none⟩)) ?_))))))))))
 have H21 : St W w19 (_ :: _ :: _ :: _ :: F) := ((((H20.move 3 rfl).move 1 rfl).move 3 rfl).move 3 rfl)
 refine rc (s_call [.pointer (some ⟨r, 0, none⟩)] pl_127 rfl rfl (ev_nat r b bs q11 ((stN ((stB 4 X).2)).2) hR12 hp13 t0  H21) ?_)
 rintro _ w25 ⟨rfl, q22, hR23, hp24, H26⟩
 refine Fa 2 fi_119_1 rfl (rc (s_store H26 2 (.int .i64 (tmN (stN ((stN ((stB 4 X).2)).2)).1)) rfl rfl rfl sz_2 rfl (nbl rfl) rfl (cs' := #[.int .i64 ((stB 4 X).1 : Int), .int .i64 (tmN (stN ((stB 4 X).2)).1), .int .i64 (tmN (stN ((stN ((stB 4 X).2)).2)).1), .string ByteArray.empty, .slice none 0 0]) rfl (fun w27 H28 => r_nil (g_seq (g_region (Mv (.pointer (some ⟨r, 0, none⟩)) ?_))))))
 have H29 : St W w27 (_ :: _ :: _ :: _ :: F) := ((((H28.move 3 rfl).move 3 rfl).move 3 rfl).move 3 rfl)
 refine rc (s_call [.pointer (some ⟨r, 0, none⟩)] pl_128 rfl rfl (ev_text r b bs q22 ((stN ((stN ((stB 4 X).2)).2)).2) hR23 hp24 t0  H29) ?_)
 rintro _ w33 ⟨rfl, q30, hR31, hp32, H34⟩
 refine Fa 3 fi_119_2 rfl (rc (s_store H34 2 (.string ((stT ((stN ((stN ((stB 4 X).2)).2)).2)).1)) rfl rfl rfl sz_9 rfl (nbl rfl) rfl (cs' := #[.int .i64 ((stB 4 X).1 : Int), .int .i64 (tmN (stN ((stB 4 X).2)).1), .int .i64 (tmN (stN ((stN ((stB 4 X).2)).2)).1), .string ((stT ((stN ((stN ((stB 4 X).2)).2)).2)).1), .slice none 0 0]) rfl (fun w35 H36 => r_nil (g_seq (g_region (Mv (.pointer (some ⟨r, 0, none⟩)) ?_))))))
 have H37 : St W w35 (_ :: _ :: _ :: _ :: F) := ((((H36.move 3 rfl).move 3 rfl).move 3 rfl).move 3 rfl)
 refine rc (s_call [.pointer (some ⟨r, 0, none⟩), .int .i64 4] pl_126 rfl rfl (ev_bits r b bs q30 ((stT ((stN ((stN ((stB 4 X).2)).2)).2)).2) hR31 hp32 t0 4 t10 H37) ?_)
 rintro _ w41 ⟨rfl, q38, hR39, hp40, H42⟩
 refine Ag (.int .i64 ((stB 4 ((stT ((stN ((stN ((stB 4 X).2)).2)).2)).2)).1 : Int)) (r_nil (g_seq (g_seq (g_region (Mv (.int .i64 ((stB 4 ((stT ((stN ((stN ((stB 4 X).2)).2)).2)).2)).1 : Int)) ?_)))))
 by_cases hc43 : (8 : Int) < ((stB 4 ((stT ((stN ((stN ((stB 4 X).2)).2)).2)).2)).1 : Int)
 ·refine rc (s_gtr true rfl rfl (dtrue hc43) rfl (r_nil (g_true rfl (g_region (Mv (.pointer (some ⟨r, 0, none⟩)) (rc (s_call [.pointer (some ⟨r, 0, none⟩), .int .i64 40] pl_129 rfl rfl (ev_keep r b ((stB 4 ((stT ((stN ((stN ((stB 4 X).2)).2)).2)).2)).2.e) 40 (i := 0) rfl H42) ?_)))))))
  rintro _ w44 ⟨rfl, H45⟩
  refine r_nil (g_seq (g_seq (g_region (Mv (.int .i64 ((stB 4 ((stT ((stN ((stN ((stB 4 X).2)).2)).2)).2)).1 : Int)) (Mv (.int .i64 0) (r_nil (g_block ?_)))))))
  have H46 : St W w44 (_ :: _ :: _ :: _ :: F) := ((((H45.move 3 rfl).move 3 rfl).move 3 rfl).move 3 rfl)
  have H47 : St W w44 (_ :: _ :: _ :: _ :: F) := H46
  have h6 : v6 X = (stK 40 ((stB 4 ((stT ((stN ((stN ((stB 4 X).2)).2)).2)).2)).2)) := by
   have hh : 8 < (stB 4 ((stT ((stN ((stN ((stB 4 X).2)).2)).2)).2)).1 := by omega
   show (if 8 < vn X then stK 40 (v5 X) else v5 X) = _
   exact if_pos hh
  have H48 := Row.nil_intro H47 147 4
  have H49 : St W w44 (_ :: _ :: _ :: _ :: _ :: F) := (((((H48.move 4 rfl).move 4 rfl).move 4 rfl).move 4 rfl).move 4 rfl)
  refine g_loop_inv (fun (x_ : Nat × Nat × (Option Addr) × Nat) => match x_ with | (j, pj, qa, ca) => [(0, .pointer (some ⟨r, 0, none⟩)), (2, .pointer (some ⟨bk1, 0, none⟩)), (3, .pointer (some ⟨bk16, 0, none⟩)), (23, .int .i64 ((stB 4 ((stT ((stN ((stN ((stB 4 X).2)).2)).2)).2)).1 : Int)), (24, .int .i64 (j : Int))]) (fun (x_ : Nat × Nat × (Option Addr) × Nat) w => match x_ with | (j, pj, qa, ca) => (j ≤ (stB 4 ((stT ((stN ((stN ((stB 4 X).2)).2)).2)).2)).1) ∧ (remB bs pj = (ats j (stK 40 ((stB 4 ((stT ((stN ((stN ((stB 4 X).2)).2)).2)).2)).2))).2.R) ∧ (pj ≤ 8 * bs.length) ∧ St W w (Row 147 4 (.slice qa ((ats j (stK 40 ((stB 4 ((stT ((stN ((stN ((stB 4 X).2)).2)).2)).2)).2))).1.length) ca) ((ats j (stK 40 ((stB 4 ((stT ((stN ((stN ((stB 4 X).2)).2)).2)).2)).2))).1.length) (((ats j (stK 40 ((stB 4 ((stT ((stN ((stN ((stB 4 X).2)).2)).2)).2)).2))).1).flatMap attrCell) :: blk r (.cells #[.pointer (some ⟨b, 0, none⟩), .int .i64 ((ats j (stK 40 ((stB 4 ((stT ((stN ((stN ((stB 4 X).2)).2)).2)).2)).2))).2.e)] 164 (0, 0)) :: SrcA b bs pj :: blk bk16 (.cells #[.int .i64 ((stB 4 X).1 : Int), .int .i64 (tmN (stN ((stB 4 X).2)).1), .int .i64 (tmN (stN ((stN ((stB 4 X).2)).2)).1), .string ((stT ((stN ((stN ((stB 4 X).2)).2)).2)).1), .slice qa ((ats j (stK 40 ((stB 4 ((stT ((stN ((stN ((stB 4 X).2)).2)).2)).2)).2))).1.length) ca] 119 (0, 0)) :: blk bk1 (.cells #[.int .i64 0, .int .i64 0, .int .i64 0, .string ByteArray.empty, .slice none 0 0] 119 (0, 0)) :: F)) (fun (x_ : Nat × Nat × (Option Addr) × Nat) => match x_ with | (j, pj, qa, ca) => (stB 4 ((stT ((stN ((stN ((stB 4 X).2)).2)).2)).2)).1 - j) (0, q38, none, 0) ?_ ?_ ?_
  ·exact t2
  ·exact ⟨t0, hR39, hp40, H49⟩
  rintro ⟨j, pj, qa, ca⟩ ρ50 w51 ⟨hjn, hRj, hpj, H52⟩ nx53
  change Ends _ _ (upds ρ50 [(0, .pointer (some ⟨r, 0, none⟩)), (2, .pointer (some ⟨bk1, 0, none⟩)), (3, .pointer (some ⟨bk16, 0, none⟩)), (23, .int .i64 ((stB 4 ((stT ((stN ((stN ((stB 4 X).2)).2)).2)).2)).1 : Int)), (24, .int .i64 (j : Int))]) w51
  have hln := ats_le (X := (stK 40 ((stB 4 ((stT ((stN ((stN ((stB 4 X).2)).2)).2)).2)).2))) j
  have hvn : (stB 4 ((stT ((stN ((stN ((stB 4 X).2)).2)).2)).2)).1 < 16 := stB_lt (k := 4)
  refine g_seq (g_region ?_)
  by_cases hc54 : (j : Int) < ((stB 4 ((stT ((stN ((stN ((stB 4 X).2)).2)).2)).2)).1 : Int)
  ·refine rc (s_lss true rfl rfl (dtrue hc54) rfl (r_nil (g_seq (g_true rfl (g_skip (g_seq (g_block (g_seq (g_seq (g_region (Mv (.pointer (some ⟨r, 0, none⟩)) (Nc (.pointer (some ⟨r, 0, none⟩)) (Fa 1 fi_164_1 rfl (Lo (.int .i64 ((ats j (stK 40 ((stB 4 ((stT ((stN ((stN ((stB 4 X).2)).2)).2)).2)).2))).2.e)) ag_28 H52 1 ?_))))))))))))))
   by_cases hc55 : (ats j (stK 40 ((stB 4 ((stT ((stN ((stN ((stB 4 X).2)).2)).2)).2)).2))).2.e = 0
   ·refine rc (s_neq false rfl rfl (ntrue hc55) rfl (r_nil (g_false rfl (g_skip ?_))))
    have H56 : St W w51 (_ :: _ :: _ :: _ :: _ :: F) := (((((H52.move 3 rfl).move 3 rfl).move 3 rfl).move 3 rfl).move 4 rfl)
    refine g_mix (fun t_ w => St W w (blk bk1 (.cells #[.int .i64 0, .int .i64 0, .int .i64 0, .string ByteArray.empty, .slice none 0 0] 119 (0, 0)) :: t_)) (Row 147 4 (.slice qa ((ats j (stK 40 ((stB 4 ((stT ((stN ((stN ((stB 4 X).2)).2)).2)).2)).2))).1.length) ca) ((ats j (stK 40 ((stB 4 ((stT ((stN ((stN ((stB 4 X).2)).2)).2)).2)).2))).1.length) (((ats j (stK 40 ((stB 4 ((stT ((stN ((stN ((stB 4 X).2)).2)).2)).2)).2))).1).flatMap attrCell) :: blk r (.cells #[.pointer (some ⟨b, 0, none⟩), .int .i64 ((ats j (stK 40 ((stB 4 ((stT ((stN ((stN ((stB 4 X).2)).2)).2)).2)).2))).2.e)] 164 (0, 0)) :: SrcA b bs pj :: blk bk16 (.cells #[.int .i64 ((stB 4 X).1 : Int), .int .i64 (tmN (stN ((stB 4 X).2)).1), .int .i64 (tmN (stN ((stN ((stB 4 X).2)).2)).1), .string ((stT ((stN ((stN ((stB 4 X).2)).2)).2)).1), .slice qa ((ats j (stK 40 ((stB 4 ((stT ((stN ((stN ((stB 4 X).2)).2)).2)).2)).2))).1.length) ca] 119 (0, 0)) :: F) mixed 8 rfl H56.drew ?_
    refine Fv 0 rfl (fun t_ w hw => x_fieldAddr 119 3 4 4 117 rfl fi_119_3 rfl w) (Fv 2 rfl (fun _ w _ => x_move (.pointer (some ⟨r, 0, none⟩)) rfl w) ?_)
    refine f_all (rs := [1, 3]) t7 t16 ?_
    refine a_cons ⟨_, rfl, ?_⟩ (a_cons ⟨_, rfl, ?_⟩ (fun x hx => absurd hx t16))
    ·intro w57 H58
     try dsimp only at H58
     refine s_load (.slice qa ((ats j (stK 40 ((stB 4 ((stT ((stN ((stN ((stB 4 X).2)).2)).2)).2)).2))).1.length) ca) ag_117 rfl (H58.blk_at (i := 4) rfl) rfl rfl ?_
     refine ⟨Row 147 4 (.slice qa ((ats j (stK 40 ((stB 4 ((stT ((stN ((stN ((stB 4 X).2)).2)).2)).2)).2))).1.length) ca) ((ats j (stK 40 ((stB 4 ((stT ((stN ((stN ((stB 4 X).2)).2)).2)).2)).2))).1.length) (((ats j (stK 40 ((stB 4 ((stT ((stN ((stN ((stB 4 X).2)).2)).2)).2)).2))).1).flatMap attrCell) :: blk r (.cells #[.pointer (some ⟨b, 0, none⟩), .int .i64 ((ats j (stK 40 ((stB 4 ((stT ((stN ((stN ((stB 4 X).2)).2)).2)).2)).2))).2.e)] 164 (0, 0)) :: SrcA b bs pj :: blk bk16 (.cells #[.int .i64 ((stB 4 X).1 : Int), .int .i64 (tmN (stN ((stB 4 X).2)).1), .int .i64 (tmN (stN ((stN ((stB 4 X).2)).2)).1), .string ((stT ((stN ((stN ((stB 4 X).2)).2)).2)).1), .slice qa ((ats j (stK 40 ((stB 4 ((stT ((stN ((stN ((stB 4 X).2)).2)).2)).2)).2))).1.length) ca] 119 (0, 0)) :: F, ?_, H58⟩
     change FReg _ _ _ _ _ #[true, true, true, false, false, false, false, false] _ _
     refine f_all (rs := [3]) t7 t16 ?_
     refine a_cons ⟨_, rfl, ?_⟩ (fun x hx => absurd hx t16)
     intro w59 H60
     try dsimp only at H60
     have H61 : St W w59 (_ :: _ :: _ :: _ :: _ :: F) := (((((H60.move 4 rfl).move 2 rfl).move 2 rfl).move 4 rfl).move 4 rfl)
     refine s_call [.pointer (some ⟨r, 0, none⟩)] pl_130 rfl rfl (ev_attr r b bs pj ((ats j (stK 40 ((stB 4 ((stT ((stN ((stN ((stB 4 X).2)).2)).2)).2)).2))).2) hRj hpj t0  H61) ?_
     rintro _ w65 ⟨rfl, q62, hR63, hp64, H66⟩
     have H67 : St W w65 (_ :: _ :: _ :: _ :: _ :: F) := (((((H66.move 4 rfl).move 4 rfl).move 3 rfl).move 3 rfl).move 4 rfl)
     refine ⟨blk r (.cells #[.pointer (some ⟨b, 0, none⟩), .int .i64 ((stA ((ats j (stK 40 ((stB 4 ((stT ((stN ((stN ((stB 4 X).2)).2)).2)).2)).2))).2)).2.e)] 164 (0, 0)) :: SrcA b bs q62 :: Row 147 4 (.slice qa ((ats j (stK 40 ((stB 4 ((stT ((stN ((stN ((stB 4 X).2)).2)).2)).2)).2))).1.length) ca) ((ats j (stK 40 ((stB 4 ((stT ((stN ((stN ((stB 4 X).2)).2)).2)).2)).2))).1.length) (((ats j (stK 40 ((stB 4 ((stT ((stN ((stN ((stB 4 X).2)).2)).2)).2)).2))).1).flatMap attrCell) :: blk bk16 (.cells #[.int .i64 ((stB 4 X).1 : Int), .int .i64 (tmN (stN ((stB 4 X).2)).1), .int .i64 (tmN (stN ((stN ((stB 4 X).2)).2)).1), .string ((stT ((stN ((stN ((stB 4 X).2)).2)).2)).1), .slice qa ((ats j (stK 40 ((stB 4 ((stT ((stN ((stN ((stB 4 X).2)).2)).2)).2)).2))).1.length) ca] 119 (0, 0)) :: F, ?_, H67⟩
     change FReg _ _ _ _ _ #[true, true, true, true, false, false, false, false] _ _
     refine f_all (rs := [4]) t7 t16 ?_
     refine a_cons ⟨_, rfl, ?_⟩ (fun x hx => absurd hx t16)
     intro w68 H69
     try dsimp only at H69
     refine s_buildSlice H69 4 1 (cs := #[.string ((stA ((ats j (stK 40 ((stB 4 ((stT ((stN ((stN ((stB 4 X).2)).2)).2)).2)).2))).2)).1.name.v), .int .i64 ((stA ((ats j (stK 40 ((stB 4 ((stT ((stN ((stN ((stB 4 X).2)).2)).2)).2)).2))).2)).1.kind.v), .int .i64 ((stA ((ats j (stK 40 ((stB 4 ((stT ((stN ((stN ((stB 4 X).2)).2)).2)).2)).2))).2)).1.n.v), .string ((stA ((ats j (stK 40 ((stB 4 ((stT ((stN ((stN ((stB 4 X).2)).2)).2)).2)).2))).2)).1.s.v)]) #[.string ByteArray.empty, .int .i64 0, .int .i64 0, .string ByteArray.empty] el_117 ze_147 t10 t10 t7 rfl ?_; intro bk70 w71 H72
     have H73 : St W w71 (_ :: _ :: _ :: _ :: _ :: _ :: F) := ((((((H72.move 5 rfl).move 5 rfl).move 5 rfl).move 5 rfl).move 4 rfl).move 5 rfl)
     refine ⟨blk bk70 (.cells #[.string ((stA ((ats j (stK 40 ((stB 4 ((stT ((stN ((stN ((stB 4 X).2)).2)).2)).2)).2))).2)).1.name.v), .int .i64 ((stA ((ats j (stK 40 ((stB 4 ((stT ((stN ((stN ((stB 4 X).2)).2)).2)).2)).2))).2)).1.kind.v), .int .i64 ((stA ((ats j (stK 40 ((stB 4 ((stT ((stN ((stN ((stB 4 X).2)).2)).2)).2)).2))).2)).1.n.v), .string ((stA ((ats j (stK 40 ((stB 4 ((stT ((stN ((stN ((stB 4 X).2)).2)).2)).2)).2))).2)).1.s.v)] 147 (0, 0)) :: blk r (.cells #[.pointer (some ⟨b, 0, none⟩), .int .i64 ((stA ((ats j (stK 40 ((stB 4 ((stT ((stN ((stN ((stB 4 X).2)).2)).2)).2)).2))).2)).2.e)] 164 (0, 0)) :: SrcA b bs q62 :: Row 147 4 (.slice qa ((ats j (stK 40 ((stB 4 ((stT ((stN ((stN ((stB 4 X).2)).2)).2)).2)).2))).1.length) ca) ((ats j (stK 40 ((stB 4 ((stT ((stN ((stN ((stB 4 X).2)).2)).2)).2)).2))).1.length) (((ats j (stK 40 ((stB 4 ((stT ((stN ((stN ((stB 4 X).2)).2)).2)).2)).2))).1).flatMap attrCell) :: blk bk16 (.cells #[.int .i64 ((stB 4 X).1 : Int), .int .i64 (tmN (stN ((stB 4 X).2)).1), .int .i64 (tmN (stN ((stN ((stB 4 X).2)).2)).1), .string ((stT ((stN ((stN ((stB 4 X).2)).2)).2)).1), .slice qa ((ats j (stK 40 ((stB 4 ((stT ((stN ((stN ((stB 4 X).2)).2)).2)).2)).2))).1.length) ca] 119 (0, 0)) :: F, ?_, H73⟩
     change FReg _ _ _ _ _ #[true, true, true, true, true, false, false, false] _ _
     refine f_all (rs := [5]) t7 t16 ?_
     refine a_cons ⟨_, rfl, ?_⟩ (fun x hx => absurd hx t16)
     intro w74 H75
     try dsimp only at H75
     refine s_append H75 4 rfl rfl rfl (rd_blk (H75.blk_at (i := 1) rfl) rfl (nbl rfl) t26) ap_117 t10 t15 t0 (n' := (ats j (stK 40 ((stB 4 ((stT ((stN ((stN ((stB 4 X).2)).2)).2)).2)).2))).1.length + 1) (xs' := ((ats j (stK 40 ((stB 4 ((stT ((stN ((stN ((stB 4 X).2)).2)).2)).2)).2))).1 ++ [(stA (ats j (stK 40 ((stB 4 ((stT ((stN ((stN ((stB 4 X).2)).2)).2)).2)).2))).2).1]).flatMap attrCell) t0 t54 rfl ?_; intro vv76 w77 H78 hn79
     obtain ⟨pp80, cc81, rfl⟩ := Row.slice H78 (i := 4) rfl
     refine ⟨blk bk70 (.cells #[.string ((stA ((ats j (stK 40 ((stB 4 ((stT ((stN ((stN ((stB 4 X).2)).2)).2)).2)).2))).2)).1.name.v), .int .i64 ((stA ((ats j (stK 40 ((stB 4 ((stT ((stN ((stN ((stB 4 X).2)).2)).2)).2)).2))).2)).1.kind.v), .int .i64 ((stA ((ats j (stK 40 ((stB 4 ((stT ((stN ((stN ((stB 4 X).2)).2)).2)).2)).2))).2)).1.n.v), .string ((stA ((ats j (stK 40 ((stB 4 ((stT ((stN ((stN ((stB 4 X).2)).2)).2)).2)).2))).2)).1.s.v)] 147 (0, 0)) :: blk r (.cells #[.pointer (some ⟨b, 0, none⟩), .int .i64 ((stA ((ats j (stK 40 ((stB 4 ((stT ((stN ((stN ((stB 4 X).2)).2)).2)).2)).2))).2)).2.e)] 164 (0, 0)) :: SrcA b bs q62 :: Row 147 4 (.slice pp80 ((ats j (stK 40 ((stB 4 ((stT ((stN ((stN ((stB 4 X).2)).2)).2)).2)).2))).1.length + 1) cc81) ((ats j (stK 40 ((stB 4 ((stT ((stN ((stN ((stB 4 X).2)).2)).2)).2)).2))).1.length + 1) (((ats j (stK 40 ((stB 4 ((stT ((stN ((stN ((stB 4 X).2)).2)).2)).2)).2))).1 ++ [(stA (ats j (stK 40 ((stB 4 ((stT ((stN ((stN ((stB 4 X).2)).2)).2)).2)).2))).2).1]).flatMap attrCell) :: blk bk16 (.cells #[.int .i64 ((stB 4 X).1 : Int), .int .i64 (tmN (stN ((stB 4 X).2)).1), .int .i64 (tmN (stN ((stN ((stB 4 X).2)).2)).1), .string ((stT ((stN ((stN ((stB 4 X).2)).2)).2)).1), .slice qa ((ats j (stK 40 ((stB 4 ((stT ((stN ((stN ((stB 4 X).2)).2)).2)).2)).2))).1.length) ca] 119 (0, 0)) :: F, ?_, H78⟩
     change FReg _ _ _ _ _ #[true, true, true, true, true, true, false, false] _ _
     refine Fv 6 rfl (fun t_ w hw => x_fieldAddr 119 3 4 4 117 rfl fi_119_3 rfl w) ?_
     refine f_all (rs := [7]) t7 t16 ?_
     refine a_cons ⟨_, rfl, ?_⟩ (fun x hx => absurd hx t16)
     intro w82 H83
     try dsimp only at H83
     refine s_store H83 5 (.slice pp80 ((ats j (stK 40 ((stB 4 ((stT ((stN ((stN ((stB 4 X).2)).2)).2)).2)).2))).1.length + 1) cc81) rfl rfl rfl sz_117 rfl (nbl rfl) rfl (cs' := #[.int .i64 ((stB 4 X).1 : Int), .int .i64 (tmN (stN ((stB 4 X).2)).1), .int .i64 (tmN (stN ((stN ((stB 4 X).2)).2)).1), .string ((stT ((stN ((stN ((stB 4 X).2)).2)).2)).1), .slice pp80 ((ats j (stK 40 ((stB 4 ((stT ((stN ((stN ((stB 4 X).2)).2)).2)).2)).2))).1.length + 1) cc81]) rfl ?_; intro w84 H85
     refine ⟨blk bk70 (.cells #[.string ((stA ((ats j (stK 40 ((stB 4 ((stT ((stN ((stN ((stB 4 X).2)).2)).2)).2)).2))).2)).1.name.v), .int .i64 ((stA ((ats j (stK 40 ((stB 4 ((stT ((stN ((stN ((stB 4 X).2)).2)).2)).2)).2))).2)).1.kind.v), .int .i64 ((stA ((ats j (stK 40 ((stB 4 ((stT ((stN ((stN ((stB 4 X).2)).2)).2)).2)).2))).2)).1.n.v), .string ((stA ((ats j (stK 40 ((stB 4 ((stT ((stN ((stN ((stB 4 X).2)).2)).2)).2)).2))).2)).1.s.v)] 147 (0, 0)) :: blk r (.cells #[.pointer (some ⟨b, 0, none⟩), .int .i64 ((stA ((ats j (stK 40 ((stB 4 ((stT ((stN ((stN ((stB 4 X).2)).2)).2)).2)).2))).2)).2.e)] 164 (0, 0)) :: SrcA b bs q62 :: Row 147 4 (.slice pp80 ((ats j (stK 40 ((stB 4 ((stT ((stN ((stN ((stB 4 X).2)).2)).2)).2)).2))).1.length + 1) cc81) ((ats j (stK 40 ((stB 4 ((stT ((stN ((stN ((stB 4 X).2)).2)).2)).2)).2))).1.length + 1) (((ats j (stK 40 ((stB 4 ((stT ((stN ((stN ((stB 4 X).2)).2)).2)).2)).2))).1 ++ [(stA (ats j (stK 40 ((stB 4 ((stT ((stN ((stN ((stB 4 X).2)).2)).2)).2)).2))).2).1]).flatMap attrCell) :: blk bk16 (.cells #[.int .i64 ((stB 4 X).1 : Int), .int .i64 (tmN (stN ((stB 4 X).2)).1), .int .i64 (tmN (stN ((stN ((stB 4 X).2)).2)).1), .string ((stT ((stN ((stN ((stB 4 X).2)).2)).2)).1), .slice pp80 ((ats j (stK 40 ((stB 4 ((stT ((stN ((stN ((stB 4 X).2)).2)).2)).2)).2))).1.length + 1) cc81] 119 (0, 0)) :: F, ?_, H85⟩
     change FReg _ _ _ _ _ #[true, true, true, true, true, true, true, true] _ _
     refine f_done t7 ?_
     intro w86 H87
     refine g_inBlock (g_region (rc (s_add ((j : Int) + 1) rfl rfl (wi64 t0) rfl (Mv (.int .i64 ((j : Int) + 1)) (r_nil ?_)))))
     have H88 : St W w86 (_ :: _ :: _ :: _ :: _ :: F) := (((((H87.move 5 rfl).move 4 rfl).move 4 rfl).move 5 rfl).drop 5 rfl)
     have H89 : St W w86 (Row 147 4 (.slice pp80 ((ats (j + 1) (stK 40 ((stB 4 ((stT ((stN ((stN ((stB 4 X).2)).2)).2)).2)).2))).1.length) cc81) ((ats (j + 1) (stK 40 ((stB 4 ((stT ((stN ((stN ((stB 4 X).2)).2)).2)).2)).2))).1.length) (((ats (j + 1) (stK 40 ((stB 4 ((stT ((stN ((stN ((stB 4 X).2)).2)).2)).2)).2))).1).flatMap attrCell) :: blk r (.cells #[.pointer (some ⟨b, 0, none⟩), .int .i64 ((ats (j + 1) (stK 40 ((stB 4 ((stT ((stN ((stN ((stB 4 X).2)).2)).2)).2)).2))).2.e)] 164 (0, 0)) :: SrcA b bs q62 :: blk bk16 (.cells #[.int .i64 ((stB 4 X).1 : Int), .int .i64 (tmN (stN ((stB 4 X).2)).1), .int .i64 (tmN (stN ((stN ((stB 4 X).2)).2)).1), .string ((stT ((stN ((stN ((stB 4 X).2)).2)).2)).1), .slice pp80 ((ats (j + 1) (stK 40 ((stB 4 ((stT ((stN ((stN ((stB 4 X).2)).2)).2)).2)).2))).1.length) cc81] 119 (0, 0)) :: blk bk1 (.cells #[.int .i64 0, .int .i64 0, .int .i64 0, .string ByteArray.empty, .slice none 0 0] 119 (0, 0)) :: F) := by rw [ats_yes hc55, List.length_append]; exact H88
     exact nx53 (j + 1, q62, pp80, cc81) _ _ ⟨t0, (by rw [ats_yes hc55]; exact hR63), hp64, H89⟩ t9 t2
    intro w90 H91
    try dsimp only at H91
    have H92 : St W w90 (_ :: _ :: _ :: _ :: _ :: F) := (((((H91.move 4 rfl).move 2 rfl).move 2 rfl).move 4 rfl).move 4 rfl)
    refine s_call [.pointer (some ⟨r, 0, none⟩)] pl_130 rfl rfl (ev_attr r b bs pj ((ats j (stK 40 ((stB 4 ((stT ((stN ((stN ((stB 4 X).2)).2)).2)).2)).2))).2) hRj hpj t0  H92) ?_
    rintro _ w96 ⟨rfl, q93, hR94, hp95, H97⟩
    have H98 : St W w96 (_ :: _ :: _ :: _ :: _ :: F) := (((((H97.move 4 rfl).move 4 rfl).move 3 rfl).move 3 rfl).move 4 rfl)
    refine ⟨blk r (.cells #[.pointer (some ⟨b, 0, none⟩), .int .i64 ((stA ((ats j (stK 40 ((stB 4 ((stT ((stN ((stN ((stB 4 X).2)).2)).2)).2)).2))).2)).2.e)] 164 (0, 0)) :: SrcA b bs q93 :: Row 147 4 (.slice qa ((ats j (stK 40 ((stB 4 ((stT ((stN ((stN ((stB 4 X).2)).2)).2)).2)).2))).1.length) ca) ((ats j (stK 40 ((stB 4 ((stT ((stN ((stN ((stB 4 X).2)).2)).2)).2)).2))).1.length) (((ats j (stK 40 ((stB 4 ((stT ((stN ((stN ((stB 4 X).2)).2)).2)).2)).2))).1).flatMap attrCell) :: blk bk16 (.cells #[.int .i64 ((stB 4 X).1 : Int), .int .i64 (tmN (stN ((stB 4 X).2)).1), .int .i64 (tmN (stN ((stN ((stB 4 X).2)).2)).1), .string ((stT ((stN ((stN ((stB 4 X).2)).2)).2)).1), .slice qa ((ats j (stK 40 ((stB 4 ((stT ((stN ((stN ((stB 4 X).2)).2)).2)).2)).2))).1.length) ca] 119 (0, 0)) :: F, ?_, H98⟩
    change FReg _ _ _ _ _ #[true, false, true, true, false, false, false, false] _ _
    refine f_all (rs := [1, 4]) t7 t16 ?_
    refine a_cons ⟨_, rfl, ?_⟩ (a_cons ⟨_, rfl, ?_⟩ (fun x hx => absurd hx t16))
    ·intro w99 H100
     try dsimp only at H100
     refine s_load (.slice qa ((ats j (stK 40 ((stB 4 ((stT ((stN ((stN ((stB 4 X).2)).2)).2)).2)).2))).1.length) ca) ag_117 rfl (H100.blk_at (i := 4) rfl) rfl rfl ?_
     refine ⟨blk r (.cells #[.pointer (some ⟨b, 0, none⟩), .int .i64 ((stA ((ats j (stK 40 ((stB 4 ((stT ((stN ((stN ((stB 4 X).2)).2)).2)).2)).2))).2)).2.e)] 164 (0, 0)) :: SrcA b bs q93 :: Row 147 4 (.slice qa ((ats j (stK 40 ((stB 4 ((stT ((stN ((stN ((stB 4 X).2)).2)).2)).2)).2))).1.length) ca) ((ats j (stK 40 ((stB 4 ((stT ((stN ((stN ((stB 4 X).2)).2)).2)).2)).2))).1.length) (((ats j (stK 40 ((stB 4 ((stT ((stN ((stN ((stB 4 X).2)).2)).2)).2)).2))).1).flatMap attrCell) :: blk bk16 (.cells #[.int .i64 ((stB 4 X).1 : Int), .int .i64 (tmN (stN ((stB 4 X).2)).1), .int .i64 (tmN (stN ((stN ((stB 4 X).2)).2)).1), .string ((stT ((stN ((stN ((stB 4 X).2)).2)).2)).1), .slice qa ((ats j (stK 40 ((stB 4 ((stT ((stN ((stN ((stB 4 X).2)).2)).2)).2)).2))).1.length) ca] 119 (0, 0)) :: F, ?_, H100⟩
     change FReg _ _ _ _ _ #[true, true, true, true, false, false, false, false] _ _
     refine f_all (rs := [4]) t7 t16 ?_
     refine a_cons ⟨_, rfl, ?_⟩ (fun x hx => absurd hx t16)
     intro w101 H102
     try dsimp only at H102
     refine s_buildSlice H102 4 1 (cs := #[.string ((stA ((ats j (stK 40 ((stB 4 ((stT ((stN ((stN ((stB 4 X).2)).2)).2)).2)).2))).2)).1.name.v), .int .i64 ((stA ((ats j (stK 40 ((stB 4 ((stT ((stN ((stN ((stB 4 X).2)).2)).2)).2)).2))).2)).1.kind.v), .int .i64 ((stA ((ats j (stK 40 ((stB 4 ((stT ((stN ((stN ((stB 4 X).2)).2)).2)).2)).2))).2)).1.n.v), .string ((stA ((ats j (stK 40 ((stB 4 ((stT ((stN ((stN ((stB 4 X).2)).2)).2)).2)).2))).2)).1.s.v)]) #[.string ByteArray.empty, .int .i64 0, .int .i64 0, .string ByteArray.empty] el_117 ze_147 t10 t10 t7 rfl ?_; intro bk103 w104 H105
     have H106 : St W w104 (_ :: _ :: _ :: _ :: _ :: _ :: F) := ((((((H105.move 5 rfl).move 5 rfl).move 5 rfl).move 5 rfl).move 4 rfl).move 5 rfl)
     refine ⟨blk bk103 (.cells #[.string ((stA ((ats j (stK 40 ((stB 4 ((stT ((stN ((stN ((stB 4 X).2)).2)).2)).2)).2))).2)).1.name.v), .int .i64 ((stA ((ats j (stK 40 ((stB 4 ((stT ((stN ((stN ((stB 4 X).2)).2)).2)).2)).2))).2)).1.kind.v), .int .i64 ((stA ((ats j (stK 40 ((stB 4 ((stT ((stN ((stN ((stB 4 X).2)).2)).2)).2)).2))).2)).1.n.v), .string ((stA ((ats j (stK 40 ((stB 4 ((stT ((stN ((stN ((stB 4 X).2)).2)).2)).2)).2))).2)).1.s.v)] 147 (0, 0)) :: blk r (.cells #[.pointer (some ⟨b, 0, none⟩), .int .i64 ((stA ((ats j (stK 40 ((stB 4 ((stT ((stN ((stN ((stB 4 X).2)).2)).2)).2)).2))).2)).2.e)] 164 (0, 0)) :: SrcA b bs q93 :: Row 147 4 (.slice qa ((ats j (stK 40 ((stB 4 ((stT ((stN ((stN ((stB 4 X).2)).2)).2)).2)).2))).1.length) ca) ((ats j (stK 40 ((stB 4 ((stT ((stN ((stN ((stB 4 X).2)).2)).2)).2)).2))).1.length) (((ats j (stK 40 ((stB 4 ((stT ((stN ((stN ((stB 4 X).2)).2)).2)).2)).2))).1).flatMap attrCell) :: blk bk16 (.cells #[.int .i64 ((stB 4 X).1 : Int), .int .i64 (tmN (stN ((stB 4 X).2)).1), .int .i64 (tmN (stN ((stN ((stB 4 X).2)).2)).1), .string ((stT ((stN ((stN ((stB 4 X).2)).2)).2)).1), .slice qa ((ats j (stK 40 ((stB 4 ((stT ((stN ((stN ((stB 4 X).2)).2)).2)).2)).2))).1.length) ca] 119 (0, 0)) :: F, ?_, H106⟩
     change FReg _ _ _ _ _ #[true, true, true, true, true, false, false, false] _ _
     refine f_all (rs := [5]) t7 t16 ?_
     refine a_cons ⟨_, rfl, ?_⟩ (fun x hx => absurd hx t16)
     intro w107 H108
     try dsimp only at H108
     refine s_append H108 4 rfl rfl rfl (rd_blk (H108.blk_at (i := 1) rfl) rfl (nbl rfl) t26) ap_117 t10 t15 t0 (n' := (ats j (stK 40 ((stB 4 ((stT ((stN ((stN ((stB 4 X).2)).2)).2)).2)).2))).1.length + 1) (xs' := ((ats j (stK 40 ((stB 4 ((stT ((stN ((stN ((stB 4 X).2)).2)).2)).2)).2))).1 ++ [(stA (ats j (stK 40 ((stB 4 ((stT ((stN ((stN ((stB 4 X).2)).2)).2)).2)).2))).2).1]).flatMap attrCell) t0 t54 rfl ?_; intro vv109 w110 H111 hn112
     obtain ⟨pp113, cc114, rfl⟩ := Row.slice H111 (i := 4) rfl
     refine ⟨blk bk103 (.cells #[.string ((stA ((ats j (stK 40 ((stB 4 ((stT ((stN ((stN ((stB 4 X).2)).2)).2)).2)).2))).2)).1.name.v), .int .i64 ((stA ((ats j (stK 40 ((stB 4 ((stT ((stN ((stN ((stB 4 X).2)).2)).2)).2)).2))).2)).1.kind.v), .int .i64 ((stA ((ats j (stK 40 ((stB 4 ((stT ((stN ((stN ((stB 4 X).2)).2)).2)).2)).2))).2)).1.n.v), .string ((stA ((ats j (stK 40 ((stB 4 ((stT ((stN ((stN ((stB 4 X).2)).2)).2)).2)).2))).2)).1.s.v)] 147 (0, 0)) :: blk r (.cells #[.pointer (some ⟨b, 0, none⟩), .int .i64 ((stA ((ats j (stK 40 ((stB 4 ((stT ((stN ((stN ((stB 4 X).2)).2)).2)).2)).2))).2)).2.e)] 164 (0, 0)) :: SrcA b bs q93 :: Row 147 4 (.slice pp113 ((ats j (stK 40 ((stB 4 ((stT ((stN ((stN ((stB 4 X).2)).2)).2)).2)).2))).1.length + 1) cc114) ((ats j (stK 40 ((stB 4 ((stT ((stN ((stN ((stB 4 X).2)).2)).2)).2)).2))).1.length + 1) (((ats j (stK 40 ((stB 4 ((stT ((stN ((stN ((stB 4 X).2)).2)).2)).2)).2))).1 ++ [(stA (ats j (stK 40 ((stB 4 ((stT ((stN ((stN ((stB 4 X).2)).2)).2)).2)).2))).2).1]).flatMap attrCell) :: blk bk16 (.cells #[.int .i64 ((stB 4 X).1 : Int), .int .i64 (tmN (stN ((stB 4 X).2)).1), .int .i64 (tmN (stN ((stN ((stB 4 X).2)).2)).1), .string ((stT ((stN ((stN ((stB 4 X).2)).2)).2)).1), .slice qa ((ats j (stK 40 ((stB 4 ((stT ((stN ((stN ((stB 4 X).2)).2)).2)).2)).2))).1.length) ca] 119 (0, 0)) :: F, ?_, H111⟩
     change FReg _ _ _ _ _ #[true, true, true, true, true, true, false, false] _ _
     refine Fv 6 rfl (fun t_ w hw => x_fieldAddr 119 3 4 4 117 rfl fi_119_3 rfl w) ?_
     refine f_all (rs := [7]) t7 t16 ?_
     refine a_cons ⟨_, rfl, ?_⟩ (fun x hx => absurd hx t16)
     intro w115 H116
     try dsimp only at H116
     refine s_store H116 5 (.slice pp113 ((ats j (stK 40 ((stB 4 ((stT ((stN ((stN ((stB 4 X).2)).2)).2)).2)).2))).1.length + 1) cc114) rfl rfl rfl sz_117 rfl (nbl rfl) rfl (cs' := #[.int .i64 ((stB 4 X).1 : Int), .int .i64 (tmN (stN ((stB 4 X).2)).1), .int .i64 (tmN (stN ((stN ((stB 4 X).2)).2)).1), .string ((stT ((stN ((stN ((stB 4 X).2)).2)).2)).1), .slice pp113 ((ats j (stK 40 ((stB 4 ((stT ((stN ((stN ((stB 4 X).2)).2)).2)).2)).2))).1.length + 1) cc114]) rfl ?_; intro w117 H118
     refine ⟨blk bk103 (.cells #[.string ((stA ((ats j (stK 40 ((stB 4 ((stT ((stN ((stN ((stB 4 X).2)).2)).2)).2)).2))).2)).1.name.v), .int .i64 ((stA ((ats j (stK 40 ((stB 4 ((stT ((stN ((stN ((stB 4 X).2)).2)).2)).2)).2))).2)).1.kind.v), .int .i64 ((stA ((ats j (stK 40 ((stB 4 ((stT ((stN ((stN ((stB 4 X).2)).2)).2)).2)).2))).2)).1.n.v), .string ((stA ((ats j (stK 40 ((stB 4 ((stT ((stN ((stN ((stB 4 X).2)).2)).2)).2)).2))).2)).1.s.v)] 147 (0, 0)) :: blk r (.cells #[.pointer (some ⟨b, 0, none⟩), .int .i64 ((stA ((ats j (stK 40 ((stB 4 ((stT ((stN ((stN ((stB 4 X).2)).2)).2)).2)).2))).2)).2.e)] 164 (0, 0)) :: SrcA b bs q93 :: Row 147 4 (.slice pp113 ((ats j (stK 40 ((stB 4 ((stT ((stN ((stN ((stB 4 X).2)).2)).2)).2)).2))).1.length + 1) cc114) ((ats j (stK 40 ((stB 4 ((stT ((stN ((stN ((stB 4 X).2)).2)).2)).2)).2))).1.length + 1) (((ats j (stK 40 ((stB 4 ((stT ((stN ((stN ((stB 4 X).2)).2)).2)).2)).2))).1 ++ [(stA (ats j (stK 40 ((stB 4 ((stT ((stN ((stN ((stB 4 X).2)).2)).2)).2)).2))).2).1]).flatMap attrCell) :: blk bk16 (.cells #[.int .i64 ((stB 4 X).1 : Int), .int .i64 (tmN (stN ((stB 4 X).2)).1), .int .i64 (tmN (stN ((stN ((stB 4 X).2)).2)).1), .string ((stT ((stN ((stN ((stB 4 X).2)).2)).2)).1), .slice pp113 ((ats j (stK 40 ((stB 4 ((stT ((stN ((stN ((stB 4 X).2)).2)).2)).2)).2))).1.length + 1) cc114] 119 (0, 0)) :: F, ?_, H118⟩
     change FReg _ _ _ _ _ #[true, true, true, true, true, true, true, true] _ _
     refine f_done t7 ?_
     intro w119 H120
     refine g_inBlock (g_region (rc (s_add ((j : Int) + 1) rfl rfl (wi64 t0) rfl (Mv (.int .i64 ((j : Int) + 1)) (r_nil ?_)))))
     have H121 : St W w119 (_ :: _ :: _ :: _ :: _ :: F) := (((((H120.move 5 rfl).move 4 rfl).move 4 rfl).move 5 rfl).drop 5 rfl)
     have H122 : St W w119 (Row 147 4 (.slice pp113 ((ats (j + 1) (stK 40 ((stB 4 ((stT ((stN ((stN ((stB 4 X).2)).2)).2)).2)).2))).1.length) cc114) ((ats (j + 1) (stK 40 ((stB 4 ((stT ((stN ((stN ((stB 4 X).2)).2)).2)).2)).2))).1.length) (((ats (j + 1) (stK 40 ((stB 4 ((stT ((stN ((stN ((stB 4 X).2)).2)).2)).2)).2))).1).flatMap attrCell) :: blk r (.cells #[.pointer (some ⟨b, 0, none⟩), .int .i64 ((ats (j + 1) (stK 40 ((stB 4 ((stT ((stN ((stN ((stB 4 X).2)).2)).2)).2)).2))).2.e)] 164 (0, 0)) :: SrcA b bs q93 :: blk bk16 (.cells #[.int .i64 ((stB 4 X).1 : Int), .int .i64 (tmN (stN ((stB 4 X).2)).1), .int .i64 (tmN (stN ((stN ((stB 4 X).2)).2)).1), .string ((stT ((stN ((stN ((stB 4 X).2)).2)).2)).1), .slice pp113 ((ats (j + 1) (stK 40 ((stB 4 ((stT ((stN ((stN ((stB 4 X).2)).2)).2)).2)).2))).1.length) cc114] 119 (0, 0)) :: blk bk1 (.cells #[.int .i64 0, .int .i64 0, .int .i64 0, .string ByteArray.empty, .slice none 0 0] 119 (0, 0)) :: F) := by rw [ats_yes hc55, List.length_append]; exact H121
     exact nx53 (j + 1, q93, pp113, cc114) _ _ ⟨t0, (by rw [ats_yes hc55]; exact hR94), hp95, H122⟩ t9 t2
    intro w123 H124
    try dsimp only at H124
    refine s_buildSlice H124 4 1 (cs := #[.string ((stA ((ats j (stK 40 ((stB 4 ((stT ((stN ((stN ((stB 4 X).2)).2)).2)).2)).2))).2)).1.name.v), .int .i64 ((stA ((ats j (stK 40 ((stB 4 ((stT ((stN ((stN ((stB 4 X).2)).2)).2)).2)).2))).2)).1.kind.v), .int .i64 ((stA ((ats j (stK 40 ((stB 4 ((stT ((stN ((stN ((stB 4 X).2)).2)).2)).2)).2))).2)).1.n.v), .string ((stA ((ats j (stK 40 ((stB 4 ((stT ((stN ((stN ((stB 4 X).2)).2)).2)).2)).2))).2)).1.s.v)]) #[.string ByteArray.empty, .int .i64 0, .int .i64 0, .string ByteArray.empty] el_117 ze_147 t10 t10 t7 rfl ?_; intro bk125 w126 H127
    have H128 : St W w126 (_ :: _ :: _ :: _ :: _ :: _ :: F) := ((((((H127.move 5 rfl).move 5 rfl).move 5 rfl).move 5 rfl).move 4 rfl).move 5 rfl)
    refine ⟨blk bk125 (.cells #[.string ((stA ((ats j (stK 40 ((stB 4 ((stT ((stN ((stN ((stB 4 X).2)).2)).2)).2)).2))).2)).1.name.v), .int .i64 ((stA ((ats j (stK 40 ((stB 4 ((stT ((stN ((stN ((stB 4 X).2)).2)).2)).2)).2))).2)).1.kind.v), .int .i64 ((stA ((ats j (stK 40 ((stB 4 ((stT ((stN ((stN ((stB 4 X).2)).2)).2)).2)).2))).2)).1.n.v), .string ((stA ((ats j (stK 40 ((stB 4 ((stT ((stN ((stN ((stB 4 X).2)).2)).2)).2)).2))).2)).1.s.v)] 147 (0, 0)) :: blk r (.cells #[.pointer (some ⟨b, 0, none⟩), .int .i64 ((stA ((ats j (stK 40 ((stB 4 ((stT ((stN ((stN ((stB 4 X).2)).2)).2)).2)).2))).2)).2.e)] 164 (0, 0)) :: SrcA b bs q93 :: Row 147 4 (.slice qa ((ats j (stK 40 ((stB 4 ((stT ((stN ((stN ((stB 4 X).2)).2)).2)).2)).2))).1.length) ca) ((ats j (stK 40 ((stB 4 ((stT ((stN ((stN ((stB 4 X).2)).2)).2)).2)).2))).1.length) (((ats j (stK 40 ((stB 4 ((stT ((stN ((stN ((stB 4 X).2)).2)).2)).2)).2))).1).flatMap attrCell) :: blk bk16 (.cells #[.int .i64 ((stB 4 X).1 : Int), .int .i64 (tmN (stN ((stB 4 X).2)).1), .int .i64 (tmN (stN ((stN ((stB 4 X).2)).2)).1), .string ((stT ((stN ((stN ((stB 4 X).2)).2)).2)).1), .slice qa ((ats j (stK 40 ((stB 4 ((stT ((stN ((stN ((stB 4 X).2)).2)).2)).2)).2))).1.length) ca] 119 (0, 0)) :: F, ?_, H128⟩
    change FReg _ _ _ _ _ #[true, false, true, true, true, false, false, false] _ _
    refine f_all (rs := [1]) t7 t16 ?_
    refine a_cons ⟨_, rfl, ?_⟩ (fun x hx => absurd hx t16)
    intro w129 H130
    try dsimp only at H130
    refine s_load (.slice qa ((ats j (stK 40 ((stB 4 ((stT ((stN ((stN ((stB 4 X).2)).2)).2)).2)).2))).1.length) ca) ag_117 rfl (H130.blk_at (i := 5) rfl) rfl rfl ?_
    refine ⟨blk bk125 (.cells #[.string ((stA ((ats j (stK 40 ((stB 4 ((stT ((stN ((stN ((stB 4 X).2)).2)).2)).2)).2))).2)).1.name.v), .int .i64 ((stA ((ats j (stK 40 ((stB 4 ((stT ((stN ((stN ((stB 4 X).2)).2)).2)).2)).2))).2)).1.kind.v), .int .i64 ((stA ((ats j (stK 40 ((stB 4 ((stT ((stN ((stN ((stB 4 X).2)).2)).2)).2)).2))).2)).1.n.v), .string ((stA ((ats j (stK 40 ((stB 4 ((stT ((stN ((stN ((stB 4 X).2)).2)).2)).2)).2))).2)).1.s.v)] 147 (0, 0)) :: blk r (.cells #[.pointer (some ⟨b, 0, none⟩), .int .i64 ((stA ((ats j (stK 40 ((stB 4 ((stT ((stN ((stN ((stB 4 X).2)).2)).2)).2)).2))).2)).2.e)] 164 (0, 0)) :: SrcA b bs q93 :: Row 147 4 (.slice qa ((ats j (stK 40 ((stB 4 ((stT ((stN ((stN ((stB 4 X).2)).2)).2)).2)).2))).1.length) ca) ((ats j (stK 40 ((stB 4 ((stT ((stN ((stN ((stB 4 X).2)).2)).2)).2)).2))).1.length) (((ats j (stK 40 ((stB 4 ((stT ((stN ((stN ((stB 4 X).2)).2)).2)).2)).2))).1).flatMap attrCell) :: blk bk16 (.cells #[.int .i64 ((stB 4 X).1 : Int), .int .i64 (tmN (stN ((stB 4 X).2)).1), .int .i64 (tmN (stN ((stN ((stB 4 X).2)).2)).1), .string ((stT ((stN ((stN ((stB 4 X).2)).2)).2)).1), .slice qa ((ats j (stK 40 ((stB 4 ((stT ((stN ((stN ((stB 4 X).2)).2)).2)).2)).2))).1.length) ca] 119 (0, 0)) :: F, ?_, H130⟩
    change FReg _ _ _ _ _ #[true, true, true, true, true, false, false, false] _ _
    refine f_all (rs := [5]) t7 t16 ?_
    refine a_cons ⟨_, rfl, ?_⟩ (fun x hx => absurd hx t16)
    intro w131 H132
    try dsimp only at H132
    refine s_append H132 4 rfl rfl rfl (rd_blk (H132.blk_at (i := 1) rfl) rfl (nbl rfl) t26) ap_117 t10 t15 t0 (n' := (ats j (stK 40 ((stB 4 ((stT ((stN ((stN ((stB 4 X).2)).2)).2)).2)).2))).1.length + 1) (xs' := ((ats j (stK 40 ((stB 4 ((stT ((stN ((stN ((stB 4 X).2)).2)).2)).2)).2))).1 ++ [(stA (ats j (stK 40 ((stB 4 ((stT ((stN ((stN ((stB 4 X).2)).2)).2)).2)).2))).2).1]).flatMap attrCell) t0 t54 rfl ?_; intro vv133 w134 H135 hn136
    obtain ⟨pp137, cc138, rfl⟩ := Row.slice H135 (i := 4) rfl
    refine ⟨blk bk125 (.cells #[.string ((stA ((ats j (stK 40 ((stB 4 ((stT ((stN ((stN ((stB 4 X).2)).2)).2)).2)).2))).2)).1.name.v), .int .i64 ((stA ((ats j (stK 40 ((stB 4 ((stT ((stN ((stN ((stB 4 X).2)).2)).2)).2)).2))).2)).1.kind.v), .int .i64 ((stA ((ats j (stK 40 ((stB 4 ((stT ((stN ((stN ((stB 4 X).2)).2)).2)).2)).2))).2)).1.n.v), .string ((stA ((ats j (stK 40 ((stB 4 ((stT ((stN ((stN ((stB 4 X).2)).2)).2)).2)).2))).2)).1.s.v)] 147 (0, 0)) :: blk r (.cells #[.pointer (some ⟨b, 0, none⟩), .int .i64 ((stA ((ats j (stK 40 ((stB 4 ((stT ((stN ((stN ((stB 4 X).2)).2)).2)).2)).2))).2)).2.e)] 164 (0, 0)) :: SrcA b bs q93 :: Row 147 4 (.slice pp137 ((ats j (stK 40 ((stB 4 ((stT ((stN ((stN ((stB 4 X).2)).2)).2)).2)).2))).1.length + 1) cc138) ((ats j (stK 40 ((stB 4 ((stT ((stN ((stN ((stB 4 X).2)).2)).2)).2)).2))).1.length + 1) (((ats j (stK 40 ((stB 4 ((stT ((stN ((stN ((stB 4 X).2)).2)).2)).2)).2))).1 ++ [(stA (ats j (stK 40 ((stB 4 ((stT ((stN ((stN ((stB 4 X).2)).2)).2)).2)).2))).2).1]).flatMap attrCell) :: blk bk16 (.cells #[.int .i64 ((stB 4 X).1 : Int), .int .i64 (tmN (stN ((stB 4 X).2)).1), .int .i64 (tmN (stN ((stN ((stB 4 X).2)).2)).1), .string ((stT ((stN ((stN ((stB 4 X).2)).2)).2)).1), .slice qa ((ats j (stK 40 ((stB 4 ((stT ((stN ((stN ((stB 4 X).2)).2)).2)).2)).2))).1.length) ca] 119 (0, 0)) :: F, ?_, H135⟩
    change FReg _ _ _ _ _ #[true, true, true, true, true, true, false, false] _ _
    refine Fv 6 rfl (fun t_ w hw => x_fieldAddr 119 3 4 4 117 rfl fi_119_3 rfl w) ?_
    refine f_all (rs := [7]) t7 t16 ?_
    refine a_cons ⟨_, rfl, ?_⟩ (fun x hx => absurd hx t16)
    intro w139 H140
    try dsimp only at H140
    refine s_store H140 5 (.slice pp137 ((ats j (stK 40 ((stB 4 ((stT ((stN ((stN ((stB 4 X).2)).2)).2)).2)).2))).1.length + 1) cc138) rfl rfl rfl sz_117 rfl (nbl rfl) rfl (cs' := #[.int .i64 ((stB 4 X).1 : Int), .int .i64 (tmN (stN ((stB 4 X).2)).1), .int .i64 (tmN (stN ((stN ((stB 4 X).2)).2)).1), .string ((stT ((stN ((stN ((stB 4 X).2)).2)).2)).1), .slice pp137 ((ats j (stK 40 ((stB 4 ((stT ((stN ((stN ((stB 4 X).2)).2)).2)).2)).2))).1.length + 1) cc138]) rfl ?_; intro w141 H142
    refine ⟨blk bk125 (.cells #[.string ((stA ((ats j (stK 40 ((stB 4 ((stT ((stN ((stN ((stB 4 X).2)).2)).2)).2)).2))).2)).1.name.v), .int .i64 ((stA ((ats j (stK 40 ((stB 4 ((stT ((stN ((stN ((stB 4 X).2)).2)).2)).2)).2))).2)).1.kind.v), .int .i64 ((stA ((ats j (stK 40 ((stB 4 ((stT ((stN ((stN ((stB 4 X).2)).2)).2)).2)).2))).2)).1.n.v), .string ((stA ((ats j (stK 40 ((stB 4 ((stT ((stN ((stN ((stB 4 X).2)).2)).2)).2)).2))).2)).1.s.v)] 147 (0, 0)) :: blk r (.cells #[.pointer (some ⟨b, 0, none⟩), .int .i64 ((stA ((ats j (stK 40 ((stB 4 ((stT ((stN ((stN ((stB 4 X).2)).2)).2)).2)).2))).2)).2.e)] 164 (0, 0)) :: SrcA b bs q93 :: Row 147 4 (.slice pp137 ((ats j (stK 40 ((stB 4 ((stT ((stN ((stN ((stB 4 X).2)).2)).2)).2)).2))).1.length + 1) cc138) ((ats j (stK 40 ((stB 4 ((stT ((stN ((stN ((stB 4 X).2)).2)).2)).2)).2))).1.length + 1) (((ats j (stK 40 ((stB 4 ((stT ((stN ((stN ((stB 4 X).2)).2)).2)).2)).2))).1 ++ [(stA (ats j (stK 40 ((stB 4 ((stT ((stN ((stN ((stB 4 X).2)).2)).2)).2)).2))).2).1]).flatMap attrCell) :: blk bk16 (.cells #[.int .i64 ((stB 4 X).1 : Int), .int .i64 (tmN (stN ((stB 4 X).2)).1), .int .i64 (tmN (stN ((stN ((stB 4 X).2)).2)).1), .string ((stT ((stN ((stN ((stB 4 X).2)).2)).2)).1), .slice pp137 ((ats j (stK 40 ((stB 4 ((stT ((stN ((stN ((stB 4 X).2)).2)).2)).2)).2))).1.length + 1) cc138] 119 (0, 0)) :: F, ?_, H142⟩
    change FReg _ _ _ _ _ #[true, true, true, true, true, true, true, true] _ _
    refine f_done t7 ?_
    intro w143 H144
    refine g_inBlock (g_region (rc (s_add ((j : Int) + 1) rfl rfl (wi64 t0) rfl (Mv (.int .i64 ((j : Int) + 1)) (r_nil ?_)))))
    have H145 : St W w143 (_ :: _ :: _ :: _ :: _ :: F) := (((((H144.move 5 rfl).move 4 rfl).move 4 rfl).move 5 rfl).drop 5 rfl)
    have H146 : St W w143 (Row 147 4 (.slice pp137 ((ats (j + 1) (stK 40 ((stB 4 ((stT ((stN ((stN ((stB 4 X).2)).2)).2)).2)).2))).1.length) cc138) ((ats (j + 1) (stK 40 ((stB 4 ((stT ((stN ((stN ((stB 4 X).2)).2)).2)).2)).2))).1.length) (((ats (j + 1) (stK 40 ((stB 4 ((stT ((stN ((stN ((stB 4 X).2)).2)).2)).2)).2))).1).flatMap attrCell) :: blk r (.cells #[.pointer (some ⟨b, 0, none⟩), .int .i64 ((ats (j + 1) (stK 40 ((stB 4 ((stT ((stN ((stN ((stB 4 X).2)).2)).2)).2)).2))).2.e)] 164 (0, 0)) :: SrcA b bs q93 :: blk bk16 (.cells #[.int .i64 ((stB 4 X).1 : Int), .int .i64 (tmN (stN ((stB 4 X).2)).1), .int .i64 (tmN (stN ((stN ((stB 4 X).2)).2)).1), .string ((stT ((stN ((stN ((stB 4 X).2)).2)).2)).1), .slice pp137 ((ats (j + 1) (stK 40 ((stB 4 ((stT ((stN ((stN ((stB 4 X).2)).2)).2)).2)).2))).1.length) cc138] 119 (0, 0)) :: blk bk1 (.cells #[.int .i64 0, .int .i64 0, .int .i64 0, .string ByteArray.empty, .slice none 0 0] 119 (0, 0)) :: F) := by rw [ats_yes hc55, List.length_append]; exact H145
    exact nx53 (j + 1, q93, pp137, cc138) _ _ ⟨t0, (by rw [ats_yes hc55]; exact hR94), hp95, H146⟩ t9 t2
   refine rc (s_neq true rfl rfl (nfalse hc55) rfl (r_nil (g_true rfl (g_exit t40 (g_seq (g_seq (g_region (Mv (.pointer (some ⟨r, 0, none⟩)) (Nc (.pointer (some ⟨r, 0, none⟩)) (Fa 1 fi_164_1 rfl (Lo (.int .i64 ((ats j (stK 40 ((stB 4 ((stT ((stN ((stN ((stB 4 X).2)).2)).2)).2)).2))).2.e)) ag_28 H52 1 (rc (s_eql false rfl rfl (dfalse t0) rfl (r_nil (g_false rfl (g_skip (g_seq (g_region (La [.int .i64 ((stB 4 X).1 : Int), .int .i64 (tmN (stN ((stB 4 X).2)).1), .int .i64 (tmN (stN ((stN ((stB 4 X).2)).2)).1), .string ((stT ((stN ((stN ((stB 4 X).2)).2)).2)).1), .slice qa ((ats j (stK 40 ((stB 4 ((stT ((stN ((stN ((stB 4 X).2)).2)).2)).2)).2))).1.length) ca] 5 ag_119 H52 3 (Sa H52 4 rfl #[.int .i64 ((stB 4 X).1 : Int), .int .i64 (tmN (stN ((stB 4 X).2)).1), .int .i64 (tmN (stN ((stN ((stB 4 X).2)).2)).1), .string ((stT ((stN ((stN ((stB 4 X).2)).2)).2)).1), .slice qa ((ats j (stK 40 ((stB 4 ((stT ((stN ((stN ((stB 4 X).2)).2)).2)).2)).2))).1.length) ca] 5 sz_119 #[.int .i64 ((stB 4 X).1 : Int), .int .i64 (tmN (stN ((stB 4 X).2)).1), .int .i64 (tmN (stN ((stN ((stB 4 X).2)).2)).1), .string ((stT ((stN ((stN ((stB 4 X).2)).2)).2)).1), .slice qa ((ats j (stK 40 ((stB 4 ((stT ((stN ((stN ((stB 4 X).2)).2)).2)).2)).2))).1.length) ca] (fun w147 H148 => r_nil ?_)))))))))))))))))))))
   refine g_ret' [.agg #[.int .i64 ((stB 4 X).1 : Int), .int .i64 (tmN (stN ((stB 4 X).2)).1), .int .i64 (tmN (stN ((stN ((stB 4 X).2)).2)).1), .string ((stT ((stN ((stN ((stB 4 X).2)).2)).2)).1), .slice qa ((ats j (stK 40 ((stB 4 ((stT ((stN ((stN ((stB 4 X).2)).2)).2)).2)).2))).1.length) ca]] Tryz.func117 Tryz.results117 ⟨(res_cellN rfl ag_119 (H148.blk_at (i := 4) rfl) (nbl rfl) rfl), trivial⟩ ?_
   have H149 : St W w147 (_ :: _ :: F) := (((((H148.move 2 rfl).move 2 rfl).drop 2 rfl).drop 2 rfl).drop 2 rfl)
   have hv7 : (v7 X).e = (ats j (stK 40 ((stB 4 ((stT ((stN ((stN ((stB 4 X).2)).2)).2)).2)).2))).2.e := by have hh := v7_at (X := X) (j := j) hjn (by rw [h6]; exact hc55); rw [h6] at hh; exact hh
   have hC : evC tmN X = (ats j (stK 40 ((stB 4 ((stT ((stN ((stN ((stB 4 X).2)).2)).2)).2)).2))).2.e := by rw [evC_no (by rw [hv7]; exact hc55), hv7]
   exact .inr ⟨by rw [hC]; exact hc55, _, _, _, _, _, _, _, pj, rfl, by rw [hC]; exact H149⟩
  refine rc (s_lss false rfl rfl (dfalse hc54) rfl (r_nil (g_seq (g_false rfl (g_exit t40 (g_seq (g_seq (g_region (Mv (.pointer (some ⟨r, 0, none⟩)) (Nc (.pointer (some ⟨r, 0, none⟩)) (Fa 1 fi_164_1 rfl (Lo (.int .i64 ((ats j (stK 40 ((stB 4 ((stT ((stN ((stN ((stB 4 X).2)).2)).2)).2)).2))).2.e)) ag_28 H52 1 ?_))))))))))))
  by_cases hc150 : (ats j (stK 40 ((stB 4 ((stT ((stN ((stN ((stB 4 X).2)).2)).2)).2)).2))).2.e = 0
  ·refine rc (s_eql true rfl rfl (dtrue hc150) rfl (r_nil (g_true rfl (g_region (Mv (.pointer (some ⟨r, 0, none⟩)) ?_)))))
   have hL : (ats j (stK 40 ((stB 4 ((stT ((stN ((stN ((stB 4 X).2)).2)).2)).2)).2))) = ats (vn X) (v6 X) := by rw [h6, show j = vn X from (by omega : j = (stB 4 ((stT ((stN ((stN ((stB 4 X).2)).2)).2)).2)).1)]
   have hat : (evS tmN X).attrs = (ats j (stK 40 ((stB 4 ((stT ((stN ((stN ((stB 4 X).2)).2)).2)).2)).2))).1 := by rw [hL]; rfl
   have H151 : St W w51 (Row 147 4 (.slice qa ((evS tmN X).attrs.length) ca) ((evS tmN X).attrs.length) (((evS tmN X).attrs).flatMap attrCell) :: blk r (.cells #[.pointer (some ⟨b, 0, none⟩), .int .i64 ((ats j (stK 40 ((stB 4 ((stT ((stN ((stN ((stB 4 X).2)).2)).2)).2)).2))).2.e)] 164 (0, 0)) :: SrcA b bs pj :: blk bk16 (.cells #[.int .i64 ((evS tmN X).src.v), .int .i64 ((evS tmN X).seq.v), .int .i64 ((evS tmN X).time.v), .string ((evS tmN X).typ.v), .slice qa ((evS tmN X).attrs.length) ca] 119 (0, 0)) :: blk bk1 (.cells #[.int .i64 0, .int .i64 0, .int .i64 0, .string ByteArray.empty, .slice none 0 0] 119 (0, 0)) :: F) := by rw [evS_src, evS_seq tm_ok, evS_time tm_ok, evS_typ hxl, hat]; exact H52
   have H152 : St W w51 (Attrs (.slice qa ((evS tmN X).attrs.length) ca) ((evS tmN X).attrs) :: blk r (.cells #[.pointer (some ⟨b, 0, none⟩), .int .i64 ((ats j (stK 40 ((stB 4 ((stT ((stN ((stN ((stB 4 X).2)).2)).2)).2)).2))).2.e)] 164 (0, 0)) :: SrcA b bs pj :: blk bk16 (.cells #[.int .i64 ((evS tmN X).src.v), .int .i64 ((evS tmN X).seq.v), .int .i64 ((evS tmN X).time.v), .string ((evS tmN X).typ.v), .slice qa ((evS tmN X).attrs.length) ca] 119 (0, 0)) :: blk bk1 (.cells #[.int .i64 0, .int .i64 0, .int .i64 0, .string ByteArray.empty, .slice none 0 0] 119 (0, 0)) :: F) := Row.im H151 (i := 0) rfl
   refine La [.int .i64 ((evS tmN X).src.v), .int .i64 ((evS tmN X).seq.v), .int .i64 ((evS tmN X).time.v), .string ((evS tmN X).typ.v), .slice qa ((evS tmN X).attrs.length) ca] 5 ag_119 H152 3 (rc (s_call [.agg #[.int .i64 ((evS tmN X).src.v), .int .i64 ((evS tmN X).seq.v), .int .i64 ((evS tmN X).time.v), .string ((evS tmN X).typ.v), .slice qa ((evS tmN X).attrs.length) ca]] pl_84 rfl rfl (event_Check (evS tmN X) (.slice qa ((evS tmN X).attrs.length) ca) (j := 0) rfl H152) ?_))
   rintro _ w153 ⟨rfl, H154⟩
   refine Nc (.pointer (some ⟨r, 0, none⟩)) (Fa 1 fi_164_1 rfl (rc (s_store H154 1 (.int .i64 (evE (evS tmN X))) rfl rfl rfl sz_28 rfl (nbl rfl) rfl (cs' := #[.pointer (some ⟨b, 0, none⟩), .int .i64 (evE (evS tmN X))]) rfl (fun w155 H156 => r_nil (g_seq (g_region (La [.int .i64 ((evS tmN X).src.v), .int .i64 ((evS tmN X).seq.v), .int .i64 ((evS tmN X).time.v), .string ((evS tmN X).typ.v), .slice qa ((evS tmN X).attrs.length) ca] 5 ag_119 H156 3 (Sa H156 4 rfl #[.int .i64 ((evS tmN X).src.v), .int .i64 ((evS tmN X).seq.v), .int .i64 ((evS tmN X).time.v), .string ((evS tmN X).typ.v), .slice qa ((evS tmN X).attrs.length) ca] 5 sz_119 #[.int .i64 ((evS tmN X).src.v), .int .i64 ((evS tmN X).seq.v), .int .i64 ((evS tmN X).time.v), .string ((evS tmN X).typ.v), .slice qa ((evS tmN X).attrs.length) ca] (fun w157 H158 => r_nil ?_)))))))))
   refine g_ret' [.agg #[.int .i64 ((evS tmN X).src.v), .int .i64 ((evS tmN X).seq.v), .int .i64 ((evS tmN X).time.v), .string ((evS tmN X).typ.v), .slice qa ((evS tmN X).attrs.length) ca]] Tryz.func117 Tryz.results117 ⟨(res_cellN rfl ag_119 (H158.blk_at (i := 4) rfl) (nbl rfl) rfl), trivial⟩ ?_
   have H159 : St W w157 (_ :: _ :: _ :: F) := (((((H158.move 2 rfl).move 2 rfl).move 2 rfl).drop 3 rfl).drop 3 rfl)
   have h70 : (v7 X).e = 0 := by show (ats (vn X) (v6 X)).2.e = 0; rw [← hL]; exact hc150
   have hC : evC tmN X = evE (evS tmN X) := evC_yes h70
   rcases Decidable.em (evC tmN X = 0) with h0 | h0
   ·exact .inl ⟨h0, _, _, pj, rfl, by show _ = (ats (vn X) (v6 X)).2.R; rw [← hL]; exact hRj, hpj, by have hx := H159; rw [← hC, h0] at hx; exact hx⟩
   exact .inr ⟨h0, _, _, _, _, _, _, _, pj, rfl, by rw [hC]; exact H159.drop 0 rfl⟩
  refine rc (s_eql false rfl rfl (dfalse hc150) rfl (r_nil (g_false rfl (g_skip (g_seq (g_region (La [.int .i64 ((stB 4 X).1 : Int), .int .i64 (tmN (stN ((stB 4 X).2)).1), .int .i64 (tmN (stN ((stN ((stB 4 X).2)).2)).1), .string ((stT ((stN ((stN ((stB 4 X).2)).2)).2)).1), .slice qa ((ats j (stK 40 ((stB 4 ((stT ((stN ((stN ((stB 4 X).2)).2)).2)).2)).2))).1.length) ca] 5 ag_119 H52 3 (Sa H52 4 rfl #[.int .i64 ((stB 4 X).1 : Int), .int .i64 (tmN (stN ((stB 4 X).2)).1), .int .i64 (tmN (stN ((stN ((stB 4 X).2)).2)).1), .string ((stT ((stN ((stN ((stB 4 X).2)).2)).2)).1), .slice qa ((ats j (stK 40 ((stB 4 ((stT ((stN ((stN ((stB 4 X).2)).2)).2)).2)).2))).1.length) ca] 5 sz_119 #[.int .i64 ((stB 4 X).1 : Int), .int .i64 (tmN (stN ((stB 4 X).2)).1), .int .i64 (tmN (stN ((stN ((stB 4 X).2)).2)).1), .string ((stT ((stN ((stN ((stB 4 X).2)).2)).2)).1), .slice qa ((ats j (stK 40 ((stB 4 ((stT ((stN ((stN ((stB 4 X).2)).2)).2)).2)).2))).1.length) ca] (fun w160 H161 => r_nil ?_)))))))))
  refine g_ret' [.agg #[.int .i64 ((stB 4 X).1 : Int), .int .i64 (tmN (stN ((stB 4 X).2)).1), .int .i64 (tmN (stN ((stN ((stB 4 X).2)).2)).1), .string ((stT ((stN ((stN ((stB 4 X).2)).2)).2)).1), .slice qa ((ats j (stK 40 ((stB 4 ((stT ((stN ((stN ((stB 4 X).2)).2)).2)).2)).2))).1.length) ca]] Tryz.func117 Tryz.results117 ⟨(res_cellN rfl ag_119 (H161.blk_at (i := 4) rfl) (nbl rfl) rfl), trivial⟩ ?_
  have H162 : St W w160 (_ :: _ :: F) := (((((H161.move 2 rfl).move 2 rfl).drop 2 rfl).drop 2 rfl).drop 2 rfl)
  have hv7 : (v7 X).e = (ats j (stK 40 ((stB 4 ((stT ((stN ((stN ((stB 4 X).2)).2)).2)).2)).2))).2.e := by have hh := v7_at (X := X) (j := j) hjn (by rw [h6]; exact hc150); rw [h6] at hh; exact hh
  have hC : evC tmN X = (ats j (stK 40 ((stB 4 ((stT ((stN ((stN ((stB 4 X).2)).2)).2)).2)).2))).2.e := by rw [evC_no (by rw [hv7]; exact hc150), hv7]
  exact .inr ⟨by rw [hC]; exact hc150, _, _, _, _, _, _, _, pj, rfl, by rw [hC]; exact H162⟩
 refine rc (s_gtr false rfl rfl (dfalse hc43) rfl (r_nil (g_false rfl (g_skip (g_seq (g_seq (g_region (Mv (.int .i64 ((stB 4 ((stT ((stN ((stN ((stB 4 X).2)).2)).2)).2)).1 : Int)) (Mv (.int .i64 0) (r_nil (g_block ?_)))))))))))
 have H163 : St W w41 (_ :: _ :: _ :: _ :: F) := ((((H42.move 3 rfl).move 3 rfl).move 3 rfl).move 3 rfl)
 have h6 : v6 X = (stB 4 ((stT ((stN ((stN ((stB 4 X).2)).2)).2)).2)).2 := by
  have hh : ¬ 8 < (stB 4 ((stT ((stN ((stN ((stB 4 X).2)).2)).2)).2)).1 := by omega
  show (if 8 < vn X then stK 40 (v5 X) else v5 X) = _
  exact if_neg hh
 have H164 := Row.nil_intro H163 147 4
 have H165 : St W w41 (_ :: _ :: _ :: _ :: _ :: F) := (((((H164.move 4 rfl).move 4 rfl).move 4 rfl).move 4 rfl).move 4 rfl)
 refine g_loop_inv (fun (x_ : Nat × Nat × (Option Addr) × Nat) => match x_ with | (j, pj, qa, ca) => [(0, .pointer (some ⟨r, 0, none⟩)), (2, .pointer (some ⟨bk1, 0, none⟩)), (3, .pointer (some ⟨bk16, 0, none⟩)), (23, .int .i64 ((stB 4 ((stT ((stN ((stN ((stB 4 X).2)).2)).2)).2)).1 : Int)), (24, .int .i64 (j : Int))]) (fun (x_ : Nat × Nat × (Option Addr) × Nat) w => match x_ with | (j, pj, qa, ca) => (j ≤ (stB 4 ((stT ((stN ((stN ((stB 4 X).2)).2)).2)).2)).1) ∧ (remB bs pj = (ats j ((stB 4 ((stT ((stN ((stN ((stB 4 X).2)).2)).2)).2)).2)).2.R) ∧ (pj ≤ 8 * bs.length) ∧ St W w (Row 147 4 (.slice qa ((ats j ((stB 4 ((stT ((stN ((stN ((stB 4 X).2)).2)).2)).2)).2)).1.length) ca) ((ats j ((stB 4 ((stT ((stN ((stN ((stB 4 X).2)).2)).2)).2)).2)).1.length) (((ats j ((stB 4 ((stT ((stN ((stN ((stB 4 X).2)).2)).2)).2)).2)).1).flatMap attrCell) :: blk r (.cells #[.pointer (some ⟨b, 0, none⟩), .int .i64 ((ats j ((stB 4 ((stT ((stN ((stN ((stB 4 X).2)).2)).2)).2)).2)).2.e)] 164 (0, 0)) :: SrcA b bs pj :: blk bk16 (.cells #[.int .i64 ((stB 4 X).1 : Int), .int .i64 (tmN (stN ((stB 4 X).2)).1), .int .i64 (tmN (stN ((stN ((stB 4 X).2)).2)).1), .string ((stT ((stN ((stN ((stB 4 X).2)).2)).2)).1), .slice qa ((ats j ((stB 4 ((stT ((stN ((stN ((stB 4 X).2)).2)).2)).2)).2)).1.length) ca] 119 (0, 0)) :: blk bk1 (.cells #[.int .i64 0, .int .i64 0, .int .i64 0, .string ByteArray.empty, .slice none 0 0] 119 (0, 0)) :: F)) (fun (x_ : Nat × Nat × (Option Addr) × Nat) => match x_ with | (j, pj, qa, ca) => (stB 4 ((stT ((stN ((stN ((stB 4 X).2)).2)).2)).2)).1 - j) (0, q38, none, 0) ?_ ?_ ?_
 ·exact t2
 ·exact ⟨t0, hR39, hp40, H165⟩
 rintro ⟨j, pj, qa, ca⟩ ρ166 w167 ⟨hjn, hRj, hpj, H168⟩ nx169
 change Ends _ _ (upds ρ166 [(0, .pointer (some ⟨r, 0, none⟩)), (2, .pointer (some ⟨bk1, 0, none⟩)), (3, .pointer (some ⟨bk16, 0, none⟩)), (23, .int .i64 ((stB 4 ((stT ((stN ((stN ((stB 4 X).2)).2)).2)).2)).1 : Int)), (24, .int .i64 (j : Int))]) w167
 have hln := ats_le (X := (stB 4 ((stT ((stN ((stN ((stB 4 X).2)).2)).2)).2)).2) j
 have hvn : (stB 4 ((stT ((stN ((stN ((stB 4 X).2)).2)).2)).2)).1 < 16 := stB_lt (k := 4)
 refine g_seq (g_region ?_)
 by_cases hc170 : (j : Int) < ((stB 4 ((stT ((stN ((stN ((stB 4 X).2)).2)).2)).2)).1 : Int)
 ·refine rc (s_lss true rfl rfl (dtrue hc170) rfl (r_nil (g_seq (g_true rfl (g_skip (g_seq (g_block (g_seq (g_seq (g_region (Mv (.pointer (some ⟨r, 0, none⟩)) (Nc (.pointer (some ⟨r, 0, none⟩)) (Fa 1 fi_164_1 rfl (Lo (.int .i64 ((ats j ((stB 4 ((stT ((stN ((stN ((stB 4 X).2)).2)).2)).2)).2)).2.e)) ag_28 H168 1 ?_))))))))))))))
  by_cases hc171 : (ats j ((stB 4 ((stT ((stN ((stN ((stB 4 X).2)).2)).2)).2)).2)).2.e = 0
  ·refine rc (s_neq false rfl rfl (ntrue hc171) rfl (r_nil (g_false rfl (g_skip ?_))))
   have H172 : St W w167 (_ :: _ :: _ :: _ :: _ :: F) := (((((H168.move 3 rfl).move 3 rfl).move 3 rfl).move 3 rfl).move 4 rfl)
   refine g_mix (fun t_ w => St W w (blk bk1 (.cells #[.int .i64 0, .int .i64 0, .int .i64 0, .string ByteArray.empty, .slice none 0 0] 119 (0, 0)) :: t_)) (Row 147 4 (.slice qa ((ats j ((stB 4 ((stT ((stN ((stN ((stB 4 X).2)).2)).2)).2)).2)).1.length) ca) ((ats j ((stB 4 ((stT ((stN ((stN ((stB 4 X).2)).2)).2)).2)).2)).1.length) (((ats j ((stB 4 ((stT ((stN ((stN ((stB 4 X).2)).2)).2)).2)).2)).1).flatMap attrCell) :: blk r (.cells #[.pointer (some ⟨b, 0, none⟩), .int .i64 ((ats j ((stB 4 ((stT ((stN ((stN ((stB 4 X).2)).2)).2)).2)).2)).2.e)] 164 (0, 0)) :: SrcA b bs pj :: blk bk16 (.cells #[.int .i64 ((stB 4 X).1 : Int), .int .i64 (tmN (stN ((stB 4 X).2)).1), .int .i64 (tmN (stN ((stN ((stB 4 X).2)).2)).1), .string ((stT ((stN ((stN ((stB 4 X).2)).2)).2)).1), .slice qa ((ats j ((stB 4 ((stT ((stN ((stN ((stB 4 X).2)).2)).2)).2)).2)).1.length) ca] 119 (0, 0)) :: F) mixed 8 rfl H172.drew ?_
   refine Fv 0 rfl (fun t_ w hw => x_fieldAddr 119 3 4 4 117 rfl fi_119_3 rfl w) (Fv 2 rfl (fun _ w _ => x_move (.pointer (some ⟨r, 0, none⟩)) rfl w) ?_)
   refine f_all (rs := [1, 3]) t7 t16 ?_
   refine a_cons ⟨_, rfl, ?_⟩ (a_cons ⟨_, rfl, ?_⟩ (fun x hx => absurd hx t16))
   ·intro w173 H174
    try dsimp only at H174
    refine s_load (.slice qa ((ats j ((stB 4 ((stT ((stN ((stN ((stB 4 X).2)).2)).2)).2)).2)).1.length) ca) ag_117 rfl (H174.blk_at (i := 4) rfl) rfl rfl ?_
    refine ⟨Row 147 4 (.slice qa ((ats j ((stB 4 ((stT ((stN ((stN ((stB 4 X).2)).2)).2)).2)).2)).1.length) ca) ((ats j ((stB 4 ((stT ((stN ((stN ((stB 4 X).2)).2)).2)).2)).2)).1.length) (((ats j ((stB 4 ((stT ((stN ((stN ((stB 4 X).2)).2)).2)).2)).2)).1).flatMap attrCell) :: blk r (.cells #[.pointer (some ⟨b, 0, none⟩), .int .i64 ((ats j ((stB 4 ((stT ((stN ((stN ((stB 4 X).2)).2)).2)).2)).2)).2.e)] 164 (0, 0)) :: SrcA b bs pj :: blk bk16 (.cells #[.int .i64 ((stB 4 X).1 : Int), .int .i64 (tmN (stN ((stB 4 X).2)).1), .int .i64 (tmN (stN ((stN ((stB 4 X).2)).2)).1), .string ((stT ((stN ((stN ((stB 4 X).2)).2)).2)).1), .slice qa ((ats j ((stB 4 ((stT ((stN ((stN ((stB 4 X).2)).2)).2)).2)).2)).1.length) ca] 119 (0, 0)) :: F, ?_, H174⟩
    change FReg _ _ _ _ _ #[true, true, true, false, false, false, false, false] _ _
    refine f_all (rs := [3]) t7 t16 ?_
    refine a_cons ⟨_, rfl, ?_⟩ (fun x hx => absurd hx t16)
    intro w175 H176
    try dsimp only at H176
    have H177 : St W w175 (_ :: _ :: _ :: _ :: _ :: F) := (((((H176.move 4 rfl).move 2 rfl).move 2 rfl).move 4 rfl).move 4 rfl)
    refine s_call [.pointer (some ⟨r, 0, none⟩)] pl_130 rfl rfl (ev_attr r b bs pj ((ats j ((stB 4 ((stT ((stN ((stN ((stB 4 X).2)).2)).2)).2)).2)).2) hRj hpj t0  H177) ?_
    rintro _ w181 ⟨rfl, q178, hR179, hp180, H182⟩
    have H183 : St W w181 (_ :: _ :: _ :: _ :: _ :: F) := (((((H182.move 4 rfl).move 4 rfl).move 3 rfl).move 3 rfl).move 4 rfl)
    refine ⟨blk r (.cells #[.pointer (some ⟨b, 0, none⟩), .int .i64 ((stA ((ats j ((stB 4 ((stT ((stN ((stN ((stB 4 X).2)).2)).2)).2)).2)).2)).2.e)] 164 (0, 0)) :: SrcA b bs q178 :: Row 147 4 (.slice qa ((ats j ((stB 4 ((stT ((stN ((stN ((stB 4 X).2)).2)).2)).2)).2)).1.length) ca) ((ats j ((stB 4 ((stT ((stN ((stN ((stB 4 X).2)).2)).2)).2)).2)).1.length) (((ats j ((stB 4 ((stT ((stN ((stN ((stB 4 X).2)).2)).2)).2)).2)).1).flatMap attrCell) :: blk bk16 (.cells #[.int .i64 ((stB 4 X).1 : Int), .int .i64 (tmN (stN ((stB 4 X).2)).1), .int .i64 (tmN (stN ((stN ((stB 4 X).2)).2)).1), .string ((stT ((stN ((stN ((stB 4 X).2)).2)).2)).1), .slice qa ((ats j ((stB 4 ((stT ((stN ((stN ((stB 4 X).2)).2)).2)).2)).2)).1.length) ca] 119 (0, 0)) :: F, ?_, H183⟩
    change FReg _ _ _ _ _ #[true, true, true, true, false, false, false, false] _ _
    refine f_all (rs := [4]) t7 t16 ?_
    refine a_cons ⟨_, rfl, ?_⟩ (fun x hx => absurd hx t16)
    intro w184 H185
    try dsimp only at H185
    refine s_buildSlice H185 4 1 (cs := #[.string ((stA ((ats j ((stB 4 ((stT ((stN ((stN ((stB 4 X).2)).2)).2)).2)).2)).2)).1.name.v), .int .i64 ((stA ((ats j ((stB 4 ((stT ((stN ((stN ((stB 4 X).2)).2)).2)).2)).2)).2)).1.kind.v), .int .i64 ((stA ((ats j ((stB 4 ((stT ((stN ((stN ((stB 4 X).2)).2)).2)).2)).2)).2)).1.n.v), .string ((stA ((ats j ((stB 4 ((stT ((stN ((stN ((stB 4 X).2)).2)).2)).2)).2)).2)).1.s.v)]) #[.string ByteArray.empty, .int .i64 0, .int .i64 0, .string ByteArray.empty] el_117 ze_147 t10 t10 t7 rfl ?_; intro bk186 w187 H188
    have H189 : St W w187 (_ :: _ :: _ :: _ :: _ :: _ :: F) := ((((((H188.move 5 rfl).move 5 rfl).move 5 rfl).move 5 rfl).move 4 rfl).move 5 rfl)
    refine ⟨blk bk186 (.cells #[.string ((stA ((ats j ((stB 4 ((stT ((stN ((stN ((stB 4 X).2)).2)).2)).2)).2)).2)).1.name.v), .int .i64 ((stA ((ats j ((stB 4 ((stT ((stN ((stN ((stB 4 X).2)).2)).2)).2)).2)).2)).1.kind.v), .int .i64 ((stA ((ats j ((stB 4 ((stT ((stN ((stN ((stB 4 X).2)).2)).2)).2)).2)).2)).1.n.v), .string ((stA ((ats j ((stB 4 ((stT ((stN ((stN ((stB 4 X).2)).2)).2)).2)).2)).2)).1.s.v)] 147 (0, 0)) :: blk r (.cells #[.pointer (some ⟨b, 0, none⟩), .int .i64 ((stA ((ats j ((stB 4 ((stT ((stN ((stN ((stB 4 X).2)).2)).2)).2)).2)).2)).2.e)] 164 (0, 0)) :: SrcA b bs q178 :: Row 147 4 (.slice qa ((ats j ((stB 4 ((stT ((stN ((stN ((stB 4 X).2)).2)).2)).2)).2)).1.length) ca) ((ats j ((stB 4 ((stT ((stN ((stN ((stB 4 X).2)).2)).2)).2)).2)).1.length) (((ats j ((stB 4 ((stT ((stN ((stN ((stB 4 X).2)).2)).2)).2)).2)).1).flatMap attrCell) :: blk bk16 (.cells #[.int .i64 ((stB 4 X).1 : Int), .int .i64 (tmN (stN ((stB 4 X).2)).1), .int .i64 (tmN (stN ((stN ((stB 4 X).2)).2)).1), .string ((stT ((stN ((stN ((stB 4 X).2)).2)).2)).1), .slice qa ((ats j ((stB 4 ((stT ((stN ((stN ((stB 4 X).2)).2)).2)).2)).2)).1.length) ca] 119 (0, 0)) :: F, ?_, H189⟩
    change FReg _ _ _ _ _ #[true, true, true, true, true, false, false, false] _ _
    refine f_all (rs := [5]) t7 t16 ?_
    refine a_cons ⟨_, rfl, ?_⟩ (fun x hx => absurd hx t16)
    intro w190 H191
    try dsimp only at H191
    refine s_append H191 4 rfl rfl rfl (rd_blk (H191.blk_at (i := 1) rfl) rfl (nbl rfl) t26) ap_117 t10 t15 t0 (n' := (ats j ((stB 4 ((stT ((stN ((stN ((stB 4 X).2)).2)).2)).2)).2)).1.length + 1) (xs' := ((ats j ((stB 4 ((stT ((stN ((stN ((stB 4 X).2)).2)).2)).2)).2)).1 ++ [(stA (ats j ((stB 4 ((stT ((stN ((stN ((stB 4 X).2)).2)).2)).2)).2)).2).1]).flatMap attrCell) t0 t54 rfl ?_; intro vv192 w193 H194 hn195
    obtain ⟨pp196, cc197, rfl⟩ := Row.slice H194 (i := 4) rfl
    refine ⟨blk bk186 (.cells #[.string ((stA ((ats j ((stB 4 ((stT ((stN ((stN ((stB 4 X).2)).2)).2)).2)).2)).2)).1.name.v), .int .i64 ((stA ((ats j ((stB 4 ((stT ((stN ((stN ((stB 4 X).2)).2)).2)).2)).2)).2)).1.kind.v), .int .i64 ((stA ((ats j ((stB 4 ((stT ((stN ((stN ((stB 4 X).2)).2)).2)).2)).2)).2)).1.n.v), .string ((stA ((ats j ((stB 4 ((stT ((stN ((stN ((stB 4 X).2)).2)).2)).2)).2)).2)).1.s.v)] 147 (0, 0)) :: blk r (.cells #[.pointer (some ⟨b, 0, none⟩), .int .i64 ((stA ((ats j ((stB 4 ((stT ((stN ((stN ((stB 4 X).2)).2)).2)).2)).2)).2)).2.e)] 164 (0, 0)) :: SrcA b bs q178 :: Row 147 4 (.slice pp196 ((ats j ((stB 4 ((stT ((stN ((stN ((stB 4 X).2)).2)).2)).2)).2)).1.length + 1) cc197) ((ats j ((stB 4 ((stT ((stN ((stN ((stB 4 X).2)).2)).2)).2)).2)).1.length + 1) (((ats j ((stB 4 ((stT ((stN ((stN ((stB 4 X).2)).2)).2)).2)).2)).1 ++ [(stA (ats j ((stB 4 ((stT ((stN ((stN ((stB 4 X).2)).2)).2)).2)).2)).2).1]).flatMap attrCell) :: blk bk16 (.cells #[.int .i64 ((stB 4 X).1 : Int), .int .i64 (tmN (stN ((stB 4 X).2)).1), .int .i64 (tmN (stN ((stN ((stB 4 X).2)).2)).1), .string ((stT ((stN ((stN ((stB 4 X).2)).2)).2)).1), .slice qa ((ats j ((stB 4 ((stT ((stN ((stN ((stB 4 X).2)).2)).2)).2)).2)).1.length) ca] 119 (0, 0)) :: F, ?_, H194⟩
    change FReg _ _ _ _ _ #[true, true, true, true, true, true, false, false] _ _
    refine Fv 6 rfl (fun t_ w hw => x_fieldAddr 119 3 4 4 117 rfl fi_119_3 rfl w) ?_
    refine f_all (rs := [7]) t7 t16 ?_
    refine a_cons ⟨_, rfl, ?_⟩ (fun x hx => absurd hx t16)
    intro w198 H199
    try dsimp only at H199
    refine s_store H199 5 (.slice pp196 ((ats j ((stB 4 ((stT ((stN ((stN ((stB 4 X).2)).2)).2)).2)).2)).1.length + 1) cc197) rfl rfl rfl sz_117 rfl (nbl rfl) rfl (cs' := #[.int .i64 ((stB 4 X).1 : Int), .int .i64 (tmN (stN ((stB 4 X).2)).1), .int .i64 (tmN (stN ((stN ((stB 4 X).2)).2)).1), .string ((stT ((stN ((stN ((stB 4 X).2)).2)).2)).1), .slice pp196 ((ats j ((stB 4 ((stT ((stN ((stN ((stB 4 X).2)).2)).2)).2)).2)).1.length + 1) cc197]) rfl ?_; intro w200 H201
    refine ⟨blk bk186 (.cells #[.string ((stA ((ats j ((stB 4 ((stT ((stN ((stN ((stB 4 X).2)).2)).2)).2)).2)).2)).1.name.v), .int .i64 ((stA ((ats j ((stB 4 ((stT ((stN ((stN ((stB 4 X).2)).2)).2)).2)).2)).2)).1.kind.v), .int .i64 ((stA ((ats j ((stB 4 ((stT ((stN ((stN ((stB 4 X).2)).2)).2)).2)).2)).2)).1.n.v), .string ((stA ((ats j ((stB 4 ((stT ((stN ((stN ((stB 4 X).2)).2)).2)).2)).2)).2)).1.s.v)] 147 (0, 0)) :: blk r (.cells #[.pointer (some ⟨b, 0, none⟩), .int .i64 ((stA ((ats j ((stB 4 ((stT ((stN ((stN ((stB 4 X).2)).2)).2)).2)).2)).2)).2.e)] 164 (0, 0)) :: SrcA b bs q178 :: Row 147 4 (.slice pp196 ((ats j ((stB 4 ((stT ((stN ((stN ((stB 4 X).2)).2)).2)).2)).2)).1.length + 1) cc197) ((ats j ((stB 4 ((stT ((stN ((stN ((stB 4 X).2)).2)).2)).2)).2)).1.length + 1) (((ats j ((stB 4 ((stT ((stN ((stN ((stB 4 X).2)).2)).2)).2)).2)).1 ++ [(stA (ats j ((stB 4 ((stT ((stN ((stN ((stB 4 X).2)).2)).2)).2)).2)).2).1]).flatMap attrCell) :: blk bk16 (.cells #[.int .i64 ((stB 4 X).1 : Int), .int .i64 (tmN (stN ((stB 4 X).2)).1), .int .i64 (tmN (stN ((stN ((stB 4 X).2)).2)).1), .string ((stT ((stN ((stN ((stB 4 X).2)).2)).2)).1), .slice pp196 ((ats j ((stB 4 ((stT ((stN ((stN ((stB 4 X).2)).2)).2)).2)).2)).1.length + 1) cc197] 119 (0, 0)) :: F, ?_, H201⟩
    change FReg _ _ _ _ _ #[true, true, true, true, true, true, true, true] _ _
    refine f_done t7 ?_
    intro w202 H203
    refine g_inBlock (g_region (rc (s_add ((j : Int) + 1) rfl rfl (wi64 t0) rfl (Mv (.int .i64 ((j : Int) + 1)) (r_nil ?_)))))
    have H204 : St W w202 (_ :: _ :: _ :: _ :: _ :: F) := (((((H203.move 5 rfl).move 4 rfl).move 4 rfl).move 5 rfl).drop 5 rfl)
    have H205 : St W w202 (Row 147 4 (.slice pp196 ((ats (j + 1) ((stB 4 ((stT ((stN ((stN ((stB 4 X).2)).2)).2)).2)).2)).1.length) cc197) ((ats (j + 1) ((stB 4 ((stT ((stN ((stN ((stB 4 X).2)).2)).2)).2)).2)).1.length) (((ats (j + 1) ((stB 4 ((stT ((stN ((stN ((stB 4 X).2)).2)).2)).2)).2)).1).flatMap attrCell) :: blk r (.cells #[.pointer (some ⟨b, 0, none⟩), .int .i64 ((ats (j + 1) ((stB 4 ((stT ((stN ((stN ((stB 4 X).2)).2)).2)).2)).2)).2.e)] 164 (0, 0)) :: SrcA b bs q178 :: blk bk16 (.cells #[.int .i64 ((stB 4 X).1 : Int), .int .i64 (tmN (stN ((stB 4 X).2)).1), .int .i64 (tmN (stN ((stN ((stB 4 X).2)).2)).1), .string ((stT ((stN ((stN ((stB 4 X).2)).2)).2)).1), .slice pp196 ((ats (j + 1) ((stB 4 ((stT ((stN ((stN ((stB 4 X).2)).2)).2)).2)).2)).1.length) cc197] 119 (0, 0)) :: blk bk1 (.cells #[.int .i64 0, .int .i64 0, .int .i64 0, .string ByteArray.empty, .slice none 0 0] 119 (0, 0)) :: F) := by rw [ats_yes hc171, List.length_append]; exact H204
    exact nx169 (j + 1, q178, pp196, cc197) _ _ ⟨t0, (by rw [ats_yes hc171]; exact hR179), hp180, H205⟩ t9 t2
   intro w206 H207
   try dsimp only at H207
   have H208 : St W w206 (_ :: _ :: _ :: _ :: _ :: F) := (((((H207.move 4 rfl).move 2 rfl).move 2 rfl).move 4 rfl).move 4 rfl)
   refine s_call [.pointer (some ⟨r, 0, none⟩)] pl_130 rfl rfl (ev_attr r b bs pj ((ats j ((stB 4 ((stT ((stN ((stN ((stB 4 X).2)).2)).2)).2)).2)).2) hRj hpj t0  H208) ?_
   rintro _ w212 ⟨rfl, q209, hR210, hp211, H213⟩
   have H214 : St W w212 (_ :: _ :: _ :: _ :: _ :: F) := (((((H213.move 4 rfl).move 4 rfl).move 3 rfl).move 3 rfl).move 4 rfl)
   refine ⟨blk r (.cells #[.pointer (some ⟨b, 0, none⟩), .int .i64 ((stA ((ats j ((stB 4 ((stT ((stN ((stN ((stB 4 X).2)).2)).2)).2)).2)).2)).2.e)] 164 (0, 0)) :: SrcA b bs q209 :: Row 147 4 (.slice qa ((ats j ((stB 4 ((stT ((stN ((stN ((stB 4 X).2)).2)).2)).2)).2)).1.length) ca) ((ats j ((stB 4 ((stT ((stN ((stN ((stB 4 X).2)).2)).2)).2)).2)).1.length) (((ats j ((stB 4 ((stT ((stN ((stN ((stB 4 X).2)).2)).2)).2)).2)).1).flatMap attrCell) :: blk bk16 (.cells #[.int .i64 ((stB 4 X).1 : Int), .int .i64 (tmN (stN ((stB 4 X).2)).1), .int .i64 (tmN (stN ((stN ((stB 4 X).2)).2)).1), .string ((stT ((stN ((stN ((stB 4 X).2)).2)).2)).1), .slice qa ((ats j ((stB 4 ((stT ((stN ((stN ((stB 4 X).2)).2)).2)).2)).2)).1.length) ca] 119 (0, 0)) :: F, ?_, H214⟩
   change FReg _ _ _ _ _ #[true, false, true, true, false, false, false, false] _ _
   refine f_all (rs := [1, 4]) t7 t16 ?_
   refine a_cons ⟨_, rfl, ?_⟩ (a_cons ⟨_, rfl, ?_⟩ (fun x hx => absurd hx t16))
   ·intro w215 H216
    try dsimp only at H216
    refine s_load (.slice qa ((ats j ((stB 4 ((stT ((stN ((stN ((stB 4 X).2)).2)).2)).2)).2)).1.length) ca) ag_117 rfl (H216.blk_at (i := 4) rfl) rfl rfl ?_
    refine ⟨blk r (.cells #[.pointer (some ⟨b, 0, none⟩), .int .i64 ((stA ((ats j ((stB 4 ((stT ((stN ((stN ((stB 4 X).2)).2)).2)).2)).2)).2)).2.e)] 164 (0, 0)) :: SrcA b bs q209 :: Row 147 4 (.slice qa ((ats j ((stB 4 ((stT ((stN ((stN ((stB 4 X).2)).2)).2)).2)).2)).1.length) ca) ((ats j ((stB 4 ((stT ((stN ((stN ((stB 4 X).2)).2)).2)).2)).2)).1.length) (((ats j ((stB 4 ((stT ((stN ((stN ((stB 4 X).2)).2)).2)).2)).2)).1).flatMap attrCell) :: blk bk16 (.cells #[.int .i64 ((stB 4 X).1 : Int), .int .i64 (tmN (stN ((stB 4 X).2)).1), .int .i64 (tmN (stN ((stN ((stB 4 X).2)).2)).1), .string ((stT ((stN ((stN ((stB 4 X).2)).2)).2)).1), .slice qa ((ats j ((stB 4 ((stT ((stN ((stN ((stB 4 X).2)).2)).2)).2)).2)).1.length) ca] 119 (0, 0)) :: F, ?_, H216⟩
    change FReg _ _ _ _ _ #[true, true, true, true, false, false, false, false] _ _
    refine f_all (rs := [4]) t7 t16 ?_
    refine a_cons ⟨_, rfl, ?_⟩ (fun x hx => absurd hx t16)
    intro w217 H218
    try dsimp only at H218
    refine s_buildSlice H218 4 1 (cs := #[.string ((stA ((ats j ((stB 4 ((stT ((stN ((stN ((stB 4 X).2)).2)).2)).2)).2)).2)).1.name.v), .int .i64 ((stA ((ats j ((stB 4 ((stT ((stN ((stN ((stB 4 X).2)).2)).2)).2)).2)).2)).1.kind.v), .int .i64 ((stA ((ats j ((stB 4 ((stT ((stN ((stN ((stB 4 X).2)).2)).2)).2)).2)).2)).1.n.v), .string ((stA ((ats j ((stB 4 ((stT ((stN ((stN ((stB 4 X).2)).2)).2)).2)).2)).2)).1.s.v)]) #[.string ByteArray.empty, .int .i64 0, .int .i64 0, .string ByteArray.empty] el_117 ze_147 t10 t10 t7 rfl ?_; intro bk219 w220 H221
    have H222 : St W w220 (_ :: _ :: _ :: _ :: _ :: _ :: F) := ((((((H221.move 5 rfl).move 5 rfl).move 5 rfl).move 5 rfl).move 4 rfl).move 5 rfl)
    refine ⟨blk bk219 (.cells #[.string ((stA ((ats j ((stB 4 ((stT ((stN ((stN ((stB 4 X).2)).2)).2)).2)).2)).2)).1.name.v), .int .i64 ((stA ((ats j ((stB 4 ((stT ((stN ((stN ((stB 4 X).2)).2)).2)).2)).2)).2)).1.kind.v), .int .i64 ((stA ((ats j ((stB 4 ((stT ((stN ((stN ((stB 4 X).2)).2)).2)).2)).2)).2)).1.n.v), .string ((stA ((ats j ((stB 4 ((stT ((stN ((stN ((stB 4 X).2)).2)).2)).2)).2)).2)).1.s.v)] 147 (0, 0)) :: blk r (.cells #[.pointer (some ⟨b, 0, none⟩), .int .i64 ((stA ((ats j ((stB 4 ((stT ((stN ((stN ((stB 4 X).2)).2)).2)).2)).2)).2)).2.e)] 164 (0, 0)) :: SrcA b bs q209 :: Row 147 4 (.slice qa ((ats j ((stB 4 ((stT ((stN ((stN ((stB 4 X).2)).2)).2)).2)).2)).1.length) ca) ((ats j ((stB 4 ((stT ((stN ((stN ((stB 4 X).2)).2)).2)).2)).2)).1.length) (((ats j ((stB 4 ((stT ((stN ((stN ((stB 4 X).2)).2)).2)).2)).2)).1).flatMap attrCell) :: blk bk16 (.cells #[.int .i64 ((stB 4 X).1 : Int), .int .i64 (tmN (stN ((stB 4 X).2)).1), .int .i64 (tmN (stN ((stN ((stB 4 X).2)).2)).1), .string ((stT ((stN ((stN ((stB 4 X).2)).2)).2)).1), .slice qa ((ats j ((stB 4 ((stT ((stN ((stN ((stB 4 X).2)).2)).2)).2)).2)).1.length) ca] 119 (0, 0)) :: F, ?_, H222⟩
    change FReg _ _ _ _ _ #[true, true, true, true, true, false, false, false] _ _
    refine f_all (rs := [5]) t7 t16 ?_
    refine a_cons ⟨_, rfl, ?_⟩ (fun x hx => absurd hx t16)
    intro w223 H224
    try dsimp only at H224
    refine s_append H224 4 rfl rfl rfl (rd_blk (H224.blk_at (i := 1) rfl) rfl (nbl rfl) t26) ap_117 t10 t15 t0 (n' := (ats j ((stB 4 ((stT ((stN ((stN ((stB 4 X).2)).2)).2)).2)).2)).1.length + 1) (xs' := ((ats j ((stB 4 ((stT ((stN ((stN ((stB 4 X).2)).2)).2)).2)).2)).1 ++ [(stA (ats j ((stB 4 ((stT ((stN ((stN ((stB 4 X).2)).2)).2)).2)).2)).2).1]).flatMap attrCell) t0 t54 rfl ?_; intro vv225 w226 H227 hn228
    obtain ⟨pp229, cc230, rfl⟩ := Row.slice H227 (i := 4) rfl
    refine ⟨blk bk219 (.cells #[.string ((stA ((ats j ((stB 4 ((stT ((stN ((stN ((stB 4 X).2)).2)).2)).2)).2)).2)).1.name.v), .int .i64 ((stA ((ats j ((stB 4 ((stT ((stN ((stN ((stB 4 X).2)).2)).2)).2)).2)).2)).1.kind.v), .int .i64 ((stA ((ats j ((stB 4 ((stT ((stN ((stN ((stB 4 X).2)).2)).2)).2)).2)).2)).1.n.v), .string ((stA ((ats j ((stB 4 ((stT ((stN ((stN ((stB 4 X).2)).2)).2)).2)).2)).2)).1.s.v)] 147 (0, 0)) :: blk r (.cells #[.pointer (some ⟨b, 0, none⟩), .int .i64 ((stA ((ats j ((stB 4 ((stT ((stN ((stN ((stB 4 X).2)).2)).2)).2)).2)).2)).2.e)] 164 (0, 0)) :: SrcA b bs q209 :: Row 147 4 (.slice pp229 ((ats j ((stB 4 ((stT ((stN ((stN ((stB 4 X).2)).2)).2)).2)).2)).1.length + 1) cc230) ((ats j ((stB 4 ((stT ((stN ((stN ((stB 4 X).2)).2)).2)).2)).2)).1.length + 1) (((ats j ((stB 4 ((stT ((stN ((stN ((stB 4 X).2)).2)).2)).2)).2)).1 ++ [(stA (ats j ((stB 4 ((stT ((stN ((stN ((stB 4 X).2)).2)).2)).2)).2)).2).1]).flatMap attrCell) :: blk bk16 (.cells #[.int .i64 ((stB 4 X).1 : Int), .int .i64 (tmN (stN ((stB 4 X).2)).1), .int .i64 (tmN (stN ((stN ((stB 4 X).2)).2)).1), .string ((stT ((stN ((stN ((stB 4 X).2)).2)).2)).1), .slice qa ((ats j ((stB 4 ((stT ((stN ((stN ((stB 4 X).2)).2)).2)).2)).2)).1.length) ca] 119 (0, 0)) :: F, ?_, H227⟩
    change FReg _ _ _ _ _ #[true, true, true, true, true, true, false, false] _ _
    refine Fv 6 rfl (fun t_ w hw => x_fieldAddr 119 3 4 4 117 rfl fi_119_3 rfl w) ?_
    refine f_all (rs := [7]) t7 t16 ?_
    refine a_cons ⟨_, rfl, ?_⟩ (fun x hx => absurd hx t16)
    intro w231 H232
    try dsimp only at H232
    refine s_store H232 5 (.slice pp229 ((ats j ((stB 4 ((stT ((stN ((stN ((stB 4 X).2)).2)).2)).2)).2)).1.length + 1) cc230) rfl rfl rfl sz_117 rfl (nbl rfl) rfl (cs' := #[.int .i64 ((stB 4 X).1 : Int), .int .i64 (tmN (stN ((stB 4 X).2)).1), .int .i64 (tmN (stN ((stN ((stB 4 X).2)).2)).1), .string ((stT ((stN ((stN ((stB 4 X).2)).2)).2)).1), .slice pp229 ((ats j ((stB 4 ((stT ((stN ((stN ((stB 4 X).2)).2)).2)).2)).2)).1.length + 1) cc230]) rfl ?_; intro w233 H234
    refine ⟨blk bk219 (.cells #[.string ((stA ((ats j ((stB 4 ((stT ((stN ((stN ((stB 4 X).2)).2)).2)).2)).2)).2)).1.name.v), .int .i64 ((stA ((ats j ((stB 4 ((stT ((stN ((stN ((stB 4 X).2)).2)).2)).2)).2)).2)).1.kind.v), .int .i64 ((stA ((ats j ((stB 4 ((stT ((stN ((stN ((stB 4 X).2)).2)).2)).2)).2)).2)).1.n.v), .string ((stA ((ats j ((stB 4 ((stT ((stN ((stN ((stB 4 X).2)).2)).2)).2)).2)).2)).1.s.v)] 147 (0, 0)) :: blk r (.cells #[.pointer (some ⟨b, 0, none⟩), .int .i64 ((stA ((ats j ((stB 4 ((stT ((stN ((stN ((stB 4 X).2)).2)).2)).2)).2)).2)).2.e)] 164 (0, 0)) :: SrcA b bs q209 :: Row 147 4 (.slice pp229 ((ats j ((stB 4 ((stT ((stN ((stN ((stB 4 X).2)).2)).2)).2)).2)).1.length + 1) cc230) ((ats j ((stB 4 ((stT ((stN ((stN ((stB 4 X).2)).2)).2)).2)).2)).1.length + 1) (((ats j ((stB 4 ((stT ((stN ((stN ((stB 4 X).2)).2)).2)).2)).2)).1 ++ [(stA (ats j ((stB 4 ((stT ((stN ((stN ((stB 4 X).2)).2)).2)).2)).2)).2).1]).flatMap attrCell) :: blk bk16 (.cells #[.int .i64 ((stB 4 X).1 : Int), .int .i64 (tmN (stN ((stB 4 X).2)).1), .int .i64 (tmN (stN ((stN ((stB 4 X).2)).2)).1), .string ((stT ((stN ((stN ((stB 4 X).2)).2)).2)).1), .slice pp229 ((ats j ((stB 4 ((stT ((stN ((stN ((stB 4 X).2)).2)).2)).2)).2)).1.length + 1) cc230] 119 (0, 0)) :: F, ?_, H234⟩
    change FReg _ _ _ _ _ #[true, true, true, true, true, true, true, true] _ _
    refine f_done t7 ?_
    intro w235 H236
    refine g_inBlock (g_region (rc (s_add ((j : Int) + 1) rfl rfl (wi64 t0) rfl (Mv (.int .i64 ((j : Int) + 1)) (r_nil ?_)))))
    have H237 : St W w235 (_ :: _ :: _ :: _ :: _ :: F) := (((((H236.move 5 rfl).move 4 rfl).move 4 rfl).move 5 rfl).drop 5 rfl)
    have H238 : St W w235 (Row 147 4 (.slice pp229 ((ats (j + 1) ((stB 4 ((stT ((stN ((stN ((stB 4 X).2)).2)).2)).2)).2)).1.length) cc230) ((ats (j + 1) ((stB 4 ((stT ((stN ((stN ((stB 4 X).2)).2)).2)).2)).2)).1.length) (((ats (j + 1) ((stB 4 ((stT ((stN ((stN ((stB 4 X).2)).2)).2)).2)).2)).1).flatMap attrCell) :: blk r (.cells #[.pointer (some ⟨b, 0, none⟩), .int .i64 ((ats (j + 1) ((stB 4 ((stT ((stN ((stN ((stB 4 X).2)).2)).2)).2)).2)).2.e)] 164 (0, 0)) :: SrcA b bs q209 :: blk bk16 (.cells #[.int .i64 ((stB 4 X).1 : Int), .int .i64 (tmN (stN ((stB 4 X).2)).1), .int .i64 (tmN (stN ((stN ((stB 4 X).2)).2)).1), .string ((stT ((stN ((stN ((stB 4 X).2)).2)).2)).1), .slice pp229 ((ats (j + 1) ((stB 4 ((stT ((stN ((stN ((stB 4 X).2)).2)).2)).2)).2)).1.length) cc230] 119 (0, 0)) :: blk bk1 (.cells #[.int .i64 0, .int .i64 0, .int .i64 0, .string ByteArray.empty, .slice none 0 0] 119 (0, 0)) :: F) := by rw [ats_yes hc171, List.length_append]; exact H237
    exact nx169 (j + 1, q209, pp229, cc230) _ _ ⟨t0, (by rw [ats_yes hc171]; exact hR210), hp211, H238⟩ t9 t2
   intro w239 H240
   try dsimp only at H240
   refine s_buildSlice H240 4 1 (cs := #[.string ((stA ((ats j ((stB 4 ((stT ((stN ((stN ((stB 4 X).2)).2)).2)).2)).2)).2)).1.name.v), .int .i64 ((stA ((ats j ((stB 4 ((stT ((stN ((stN ((stB 4 X).2)).2)).2)).2)).2)).2)).1.kind.v), .int .i64 ((stA ((ats j ((stB 4 ((stT ((stN ((stN ((stB 4 X).2)).2)).2)).2)).2)).2)).1.n.v), .string ((stA ((ats j ((stB 4 ((stT ((stN ((stN ((stB 4 X).2)).2)).2)).2)).2)).2)).1.s.v)]) #[.string ByteArray.empty, .int .i64 0, .int .i64 0, .string ByteArray.empty] el_117 ze_147 t10 t10 t7 rfl ?_; intro bk241 w242 H243
   have H244 : St W w242 (_ :: _ :: _ :: _ :: _ :: _ :: F) := ((((((H243.move 5 rfl).move 5 rfl).move 5 rfl).move 5 rfl).move 4 rfl).move 5 rfl)
   refine ⟨blk bk241 (.cells #[.string ((stA ((ats j ((stB 4 ((stT ((stN ((stN ((stB 4 X).2)).2)).2)).2)).2)).2)).1.name.v), .int .i64 ((stA ((ats j ((stB 4 ((stT ((stN ((stN ((stB 4 X).2)).2)).2)).2)).2)).2)).1.kind.v), .int .i64 ((stA ((ats j ((stB 4 ((stT ((stN ((stN ((stB 4 X).2)).2)).2)).2)).2)).2)).1.n.v), .string ((stA ((ats j ((stB 4 ((stT ((stN ((stN ((stB 4 X).2)).2)).2)).2)).2)).2)).1.s.v)] 147 (0, 0)) :: blk r (.cells #[.pointer (some ⟨b, 0, none⟩), .int .i64 ((stA ((ats j ((stB 4 ((stT ((stN ((stN ((stB 4 X).2)).2)).2)).2)).2)).2)).2.e)] 164 (0, 0)) :: SrcA b bs q209 :: Row 147 4 (.slice qa ((ats j ((stB 4 ((stT ((stN ((stN ((stB 4 X).2)).2)).2)).2)).2)).1.length) ca) ((ats j ((stB 4 ((stT ((stN ((stN ((stB 4 X).2)).2)).2)).2)).2)).1.length) (((ats j ((stB 4 ((stT ((stN ((stN ((stB 4 X).2)).2)).2)).2)).2)).1).flatMap attrCell) :: blk bk16 (.cells #[.int .i64 ((stB 4 X).1 : Int), .int .i64 (tmN (stN ((stB 4 X).2)).1), .int .i64 (tmN (stN ((stN ((stB 4 X).2)).2)).1), .string ((stT ((stN ((stN ((stB 4 X).2)).2)).2)).1), .slice qa ((ats j ((stB 4 ((stT ((stN ((stN ((stB 4 X).2)).2)).2)).2)).2)).1.length) ca] 119 (0, 0)) :: F, ?_, H244⟩
   change FReg _ _ _ _ _ #[true, false, true, true, true, false, false, false] _ _
   refine f_all (rs := [1]) t7 t16 ?_
   refine a_cons ⟨_, rfl, ?_⟩ (fun x hx => absurd hx t16)
   intro w245 H246
   try dsimp only at H246
   refine s_load (.slice qa ((ats j ((stB 4 ((stT ((stN ((stN ((stB 4 X).2)).2)).2)).2)).2)).1.length) ca) ag_117 rfl (H246.blk_at (i := 5) rfl) rfl rfl ?_
   refine ⟨blk bk241 (.cells #[.string ((stA ((ats j ((stB 4 ((stT ((stN ((stN ((stB 4 X).2)).2)).2)).2)).2)).2)).1.name.v), .int .i64 ((stA ((ats j ((stB 4 ((stT ((stN ((stN ((stB 4 X).2)).2)).2)).2)).2)).2)).1.kind.v), .int .i64 ((stA ((ats j ((stB 4 ((stT ((stN ((stN ((stB 4 X).2)).2)).2)).2)).2)).2)).1.n.v), .string ((stA ((ats j ((stB 4 ((stT ((stN ((stN ((stB 4 X).2)).2)).2)).2)).2)).2)).1.s.v)] 147 (0, 0)) :: blk r (.cells #[.pointer (some ⟨b, 0, none⟩), .int .i64 ((stA ((ats j ((stB 4 ((stT ((stN ((stN ((stB 4 X).2)).2)).2)).2)).2)).2)).2.e)] 164 (0, 0)) :: SrcA b bs q209 :: Row 147 4 (.slice qa ((ats j ((stB 4 ((stT ((stN ((stN ((stB 4 X).2)).2)).2)).2)).2)).1.length) ca) ((ats j ((stB 4 ((stT ((stN ((stN ((stB 4 X).2)).2)).2)).2)).2)).1.length) (((ats j ((stB 4 ((stT ((stN ((stN ((stB 4 X).2)).2)).2)).2)).2)).1).flatMap attrCell) :: blk bk16 (.cells #[.int .i64 ((stB 4 X).1 : Int), .int .i64 (tmN (stN ((stB 4 X).2)).1), .int .i64 (tmN (stN ((stN ((stB 4 X).2)).2)).1), .string ((stT ((stN ((stN ((stB 4 X).2)).2)).2)).1), .slice qa ((ats j ((stB 4 ((stT ((stN ((stN ((stB 4 X).2)).2)).2)).2)).2)).1.length) ca] 119 (0, 0)) :: F, ?_, H246⟩
   change FReg _ _ _ _ _ #[true, true, true, true, true, false, false, false] _ _
   refine f_all (rs := [5]) t7 t16 ?_
   refine a_cons ⟨_, rfl, ?_⟩ (fun x hx => absurd hx t16)
   intro w247 H248
   try dsimp only at H248
   refine s_append H248 4 rfl rfl rfl (rd_blk (H248.blk_at (i := 1) rfl) rfl (nbl rfl) t26) ap_117 t10 t15 t0 (n' := (ats j ((stB 4 ((stT ((stN ((stN ((stB 4 X).2)).2)).2)).2)).2)).1.length + 1) (xs' := ((ats j ((stB 4 ((stT ((stN ((stN ((stB 4 X).2)).2)).2)).2)).2)).1 ++ [(stA (ats j ((stB 4 ((stT ((stN ((stN ((stB 4 X).2)).2)).2)).2)).2)).2).1]).flatMap attrCell) t0 t54 rfl ?_; intro vv249 w250 H251 hn252
   obtain ⟨pp253, cc254, rfl⟩ := Row.slice H251 (i := 4) rfl
   refine ⟨blk bk241 (.cells #[.string ((stA ((ats j ((stB 4 ((stT ((stN ((stN ((stB 4 X).2)).2)).2)).2)).2)).2)).1.name.v), .int .i64 ((stA ((ats j ((stB 4 ((stT ((stN ((stN ((stB 4 X).2)).2)).2)).2)).2)).2)).1.kind.v), .int .i64 ((stA ((ats j ((stB 4 ((stT ((stN ((stN ((stB 4 X).2)).2)).2)).2)).2)).2)).1.n.v), .string ((stA ((ats j ((stB 4 ((stT ((stN ((stN ((stB 4 X).2)).2)).2)).2)).2)).2)).1.s.v)] 147 (0, 0)) :: blk r (.cells #[.pointer (some ⟨b, 0, none⟩), .int .i64 ((stA ((ats j ((stB 4 ((stT ((stN ((stN ((stB 4 X).2)).2)).2)).2)).2)).2)).2.e)] 164 (0, 0)) :: SrcA b bs q209 :: Row 147 4 (.slice pp253 ((ats j ((stB 4 ((stT ((stN ((stN ((stB 4 X).2)).2)).2)).2)).2)).1.length + 1) cc254) ((ats j ((stB 4 ((stT ((stN ((stN ((stB 4 X).2)).2)).2)).2)).2)).1.length + 1) (((ats j ((stB 4 ((stT ((stN ((stN ((stB 4 X).2)).2)).2)).2)).2)).1 ++ [(stA (ats j ((stB 4 ((stT ((stN ((stN ((stB 4 X).2)).2)).2)).2)).2)).2).1]).flatMap attrCell) :: blk bk16 (.cells #[.int .i64 ((stB 4 X).1 : Int), .int .i64 (tmN (stN ((stB 4 X).2)).1), .int .i64 (tmN (stN ((stN ((stB 4 X).2)).2)).1), .string ((stT ((stN ((stN ((stB 4 X).2)).2)).2)).1), .slice qa ((ats j ((stB 4 ((stT ((stN ((stN ((stB 4 X).2)).2)).2)).2)).2)).1.length) ca] 119 (0, 0)) :: F, ?_, H251⟩
   change FReg _ _ _ _ _ #[true, true, true, true, true, true, false, false] _ _
   refine Fv 6 rfl (fun t_ w hw => x_fieldAddr 119 3 4 4 117 rfl fi_119_3 rfl w) ?_
   refine f_all (rs := [7]) t7 t16 ?_
   refine a_cons ⟨_, rfl, ?_⟩ (fun x hx => absurd hx t16)
   intro w255 H256
   try dsimp only at H256
   refine s_store H256 5 (.slice pp253 ((ats j ((stB 4 ((stT ((stN ((stN ((stB 4 X).2)).2)).2)).2)).2)).1.length + 1) cc254) rfl rfl rfl sz_117 rfl (nbl rfl) rfl (cs' := #[.int .i64 ((stB 4 X).1 : Int), .int .i64 (tmN (stN ((stB 4 X).2)).1), .int .i64 (tmN (stN ((stN ((stB 4 X).2)).2)).1), .string ((stT ((stN ((stN ((stB 4 X).2)).2)).2)).1), .slice pp253 ((ats j ((stB 4 ((stT ((stN ((stN ((stB 4 X).2)).2)).2)).2)).2)).1.length + 1) cc254]) rfl ?_; intro w257 H258
   refine ⟨blk bk241 (.cells #[.string ((stA ((ats j ((stB 4 ((stT ((stN ((stN ((stB 4 X).2)).2)).2)).2)).2)).2)).1.name.v), .int .i64 ((stA ((ats j ((stB 4 ((stT ((stN ((stN ((stB 4 X).2)).2)).2)).2)).2)).2)).1.kind.v), .int .i64 ((stA ((ats j ((stB 4 ((stT ((stN ((stN ((stB 4 X).2)).2)).2)).2)).2)).2)).1.n.v), .string ((stA ((ats j ((stB 4 ((stT ((stN ((stN ((stB 4 X).2)).2)).2)).2)).2)).2)).1.s.v)] 147 (0, 0)) :: blk r (.cells #[.pointer (some ⟨b, 0, none⟩), .int .i64 ((stA ((ats j ((stB 4 ((stT ((stN ((stN ((stB 4 X).2)).2)).2)).2)).2)).2)).2.e)] 164 (0, 0)) :: SrcA b bs q209 :: Row 147 4 (.slice pp253 ((ats j ((stB 4 ((stT ((stN ((stN ((stB 4 X).2)).2)).2)).2)).2)).1.length + 1) cc254) ((ats j ((stB 4 ((stT ((stN ((stN ((stB 4 X).2)).2)).2)).2)).2)).1.length + 1) (((ats j ((stB 4 ((stT ((stN ((stN ((stB 4 X).2)).2)).2)).2)).2)).1 ++ [(stA (ats j ((stB 4 ((stT ((stN ((stN ((stB 4 X).2)).2)).2)).2)).2)).2).1]).flatMap attrCell) :: blk bk16 (.cells #[.int .i64 ((stB 4 X).1 : Int), .int .i64 (tmN (stN ((stB 4 X).2)).1), .int .i64 (tmN (stN ((stN ((stB 4 X).2)).2)).1), .string ((stT ((stN ((stN ((stB 4 X).2)).2)).2)).1), .slice pp253 ((ats j ((stB 4 ((stT ((stN ((stN ((stB 4 X).2)).2)).2)).2)).2)).1.length + 1) cc254] 119 (0, 0)) :: F, ?_, H258⟩
   change FReg _ _ _ _ _ #[true, true, true, true, true, true, true, true] _ _
   refine f_done t7 ?_
   intro w259 H260
   refine g_inBlock (g_region (rc (s_add ((j : Int) + 1) rfl rfl (wi64 t0) rfl (Mv (.int .i64 ((j : Int) + 1)) (r_nil ?_)))))
   have H261 : St W w259 (_ :: _ :: _ :: _ :: _ :: F) := (((((H260.move 5 rfl).move 4 rfl).move 4 rfl).move 5 rfl).drop 5 rfl)
   have H262 : St W w259 (Row 147 4 (.slice pp253 ((ats (j + 1) ((stB 4 ((stT ((stN ((stN ((stB 4 X).2)).2)).2)).2)).2)).1.length) cc254) ((ats (j + 1) ((stB 4 ((stT ((stN ((stN ((stB 4 X).2)).2)).2)).2)).2)).1.length) (((ats (j + 1) ((stB 4 ((stT ((stN ((stN ((stB 4 X).2)).2)).2)).2)).2)).1).flatMap attrCell) :: blk r (.cells #[.pointer (some ⟨b, 0, none⟩), .int .i64 ((ats (j + 1) ((stB 4 ((stT ((stN ((stN ((stB 4 X).2)).2)).2)).2)).2)).2.e)] 164 (0, 0)) :: SrcA b bs q209 :: blk bk16 (.cells #[.int .i64 ((stB 4 X).1 : Int), .int .i64 (tmN (stN ((stB 4 X).2)).1), .int .i64 (tmN (stN ((stN ((stB 4 X).2)).2)).1), .string ((stT ((stN ((stN ((stB 4 X).2)).2)).2)).1), .slice pp253 ((ats (j + 1) ((stB 4 ((stT ((stN ((stN ((stB 4 X).2)).2)).2)).2)).2)).1.length) cc254] 119 (0, 0)) :: blk bk1 (.cells #[.int .i64 0, .int .i64 0, .int .i64 0, .string ByteArray.empty, .slice none 0 0] 119 (0, 0)) :: F) := by rw [ats_yes hc171, List.length_append]; exact H261
   exact nx169 (j + 1, q209, pp253, cc254) _ _ ⟨t0, (by rw [ats_yes hc171]; exact hR210), hp211, H262⟩ t9 t2
  refine rc (s_neq true rfl rfl (nfalse hc171) rfl (r_nil (g_true rfl (g_exit t40 (g_seq (g_seq (g_region (Mv (.pointer (some ⟨r, 0, none⟩)) (Nc (.pointer (some ⟨r, 0, none⟩)) (Fa 1 fi_164_1 rfl (Lo (.int .i64 ((ats j ((stB 4 ((stT ((stN ((stN ((stB 4 X).2)).2)).2)).2)).2)).2.e)) ag_28 H168 1 (rc (s_eql false rfl rfl (dfalse t0) rfl (r_nil (g_false rfl (g_skip (g_seq (g_region (La [.int .i64 ((stB 4 X).1 : Int), .int .i64 (tmN (stN ((stB 4 X).2)).1), .int .i64 (tmN (stN ((stN ((stB 4 X).2)).2)).1), .string ((stT ((stN ((stN ((stB 4 X).2)).2)).2)).1), .slice qa ((ats j ((stB 4 ((stT ((stN ((stN ((stB 4 X).2)).2)).2)).2)).2)).1.length) ca] 5 ag_119 H168 3 (Sa H168 4 rfl #[.int .i64 ((stB 4 X).1 : Int), .int .i64 (tmN (stN ((stB 4 X).2)).1), .int .i64 (tmN (stN ((stN ((stB 4 X).2)).2)).1), .string ((stT ((stN ((stN ((stB 4 X).2)).2)).2)).1), .slice qa ((ats j ((stB 4 ((stT ((stN ((stN ((stB 4 X).2)).2)).2)).2)).2)).1.length) ca] 5 sz_119 #[.int .i64 ((stB 4 X).1 : Int), .int .i64 (tmN (stN ((stB 4 X).2)).1), .int .i64 (tmN (stN ((stN ((stB 4 X).2)).2)).1), .string ((stT ((stN ((stN ((stB 4 X).2)).2)).2)).1), .slice qa ((ats j ((stB 4 ((stT ((stN ((stN ((stB 4 X).2)).2)).2)).2)).2)).1.length) ca] (fun w263 H264 => r_nil ?_)))))))))))))))))))))
  refine g_ret' [.agg #[.int .i64 ((stB 4 X).1 : Int), .int .i64 (tmN (stN ((stB 4 X).2)).1), .int .i64 (tmN (stN ((stN ((stB 4 X).2)).2)).1), .string ((stT ((stN ((stN ((stB 4 X).2)).2)).2)).1), .slice qa ((ats j ((stB 4 ((stT ((stN ((stN ((stB 4 X).2)).2)).2)).2)).2)).1.length) ca]] Tryz.func117 Tryz.results117 ⟨(res_cellN rfl ag_119 (H264.blk_at (i := 4) rfl) (nbl rfl) rfl), trivial⟩ ?_
  have H265 : St W w263 (_ :: _ :: F) := (((((H264.move 2 rfl).move 2 rfl).drop 2 rfl).drop 2 rfl).drop 2 rfl)
  have hv7 : (v7 X).e = (ats j ((stB 4 ((stT ((stN ((stN ((stB 4 X).2)).2)).2)).2)).2)).2.e := by have hh := v7_at (X := X) (j := j) hjn (by rw [h6]; exact hc171); rw [h6] at hh; exact hh
  have hC : evC tmN X = (ats j ((stB 4 ((stT ((stN ((stN ((stB 4 X).2)).2)).2)).2)).2)).2.e := by rw [evC_no (by rw [hv7]; exact hc171), hv7]
  exact .inr ⟨by rw [hC]; exact hc171, _, _, _, _, _, _, _, pj, rfl, by rw [hC]; exact H265⟩
 refine rc (s_lss false rfl rfl (dfalse hc170) rfl (r_nil (g_seq (g_false rfl (g_exit t40 (g_seq (g_seq (g_region (Mv (.pointer (some ⟨r, 0, none⟩)) (Nc (.pointer (some ⟨r, 0, none⟩)) (Fa 1 fi_164_1 rfl (Lo (.int .i64 ((ats j ((stB 4 ((stT ((stN ((stN ((stB 4 X).2)).2)).2)).2)).2)).2.e)) ag_28 H168 1 ?_))))))))))))
 by_cases hc266 : (ats j ((stB 4 ((stT ((stN ((stN ((stB 4 X).2)).2)).2)).2)).2)).2.e = 0
 ·refine rc (s_eql true rfl rfl (dtrue hc266) rfl (r_nil (g_true rfl (g_region (Mv (.pointer (some ⟨r, 0, none⟩)) ?_)))))
  have hL : (ats j ((stB 4 ((stT ((stN ((stN ((stB 4 X).2)).2)).2)).2)).2)) = ats (vn X) (v6 X) := by rw [h6, show j = vn X from (by omega : j = (stB 4 ((stT ((stN ((stN ((stB 4 X).2)).2)).2)).2)).1)]
  have hat : (evS tmN X).attrs = (ats j ((stB 4 ((stT ((stN ((stN ((stB 4 X).2)).2)).2)).2)).2)).1 := by rw [hL]; rfl
  have H267 : St W w167 (Row 147 4 (.slice qa ((evS tmN X).attrs.length) ca) ((evS tmN X).attrs.length) (((evS tmN X).attrs).flatMap attrCell) :: blk r (.cells #[.pointer (some ⟨b, 0, none⟩), .int .i64 ((ats j ((stB 4 ((stT ((stN ((stN ((stB 4 X).2)).2)).2)).2)).2)).2.e)] 164 (0, 0)) :: SrcA b bs pj :: blk bk16 (.cells #[.int .i64 ((evS tmN X).src.v), .int .i64 ((evS tmN X).seq.v), .int .i64 ((evS tmN X).time.v), .string ((evS tmN X).typ.v), .slice qa ((evS tmN X).attrs.length) ca] 119 (0, 0)) :: blk bk1 (.cells #[.int .i64 0, .int .i64 0, .int .i64 0, .string ByteArray.empty, .slice none 0 0] 119 (0, 0)) :: F) := by rw [evS_src, evS_seq tm_ok, evS_time tm_ok, evS_typ hxl, hat]; exact H168
  have H268 : St W w167 (Attrs (.slice qa ((evS tmN X).attrs.length) ca) ((evS tmN X).attrs) :: blk r (.cells #[.pointer (some ⟨b, 0, none⟩), .int .i64 ((ats j ((stB 4 ((stT ((stN ((stN ((stB 4 X).2)).2)).2)).2)).2)).2.e)] 164 (0, 0)) :: SrcA b bs pj :: blk bk16 (.cells #[.int .i64 ((evS tmN X).src.v), .int .i64 ((evS tmN X).seq.v), .int .i64 ((evS tmN X).time.v), .string ((evS tmN X).typ.v), .slice qa ((evS tmN X).attrs.length) ca] 119 (0, 0)) :: blk bk1 (.cells #[.int .i64 0, .int .i64 0, .int .i64 0, .string ByteArray.empty, .slice none 0 0] 119 (0, 0)) :: F) := Row.im H267 (i := 0) rfl
  refine La [.int .i64 ((evS tmN X).src.v), .int .i64 ((evS tmN X).seq.v), .int .i64 ((evS tmN X).time.v), .string ((evS tmN X).typ.v), .slice qa ((evS tmN X).attrs.length) ca] 5 ag_119 H268 3 (rc (s_call [.agg #[.int .i64 ((evS tmN X).src.v), .int .i64 ((evS tmN X).seq.v), .int .i64 ((evS tmN X).time.v), .string ((evS tmN X).typ.v), .slice qa ((evS tmN X).attrs.length) ca]] pl_84 rfl rfl (event_Check (evS tmN X) (.slice qa ((evS tmN X).attrs.length) ca) (j := 0) rfl H268) ?_))
  rintro _ w269 ⟨rfl, H270⟩
  refine Nc (.pointer (some ⟨r, 0, none⟩)) (Fa 1 fi_164_1 rfl (rc (s_store H270 1 (.int .i64 (evE (evS tmN X))) rfl rfl rfl sz_28 rfl (nbl rfl) rfl (cs' := #[.pointer (some ⟨b, 0, none⟩), .int .i64 (evE (evS tmN X))]) rfl (fun w271 H272 => r_nil (g_seq (g_region (La [.int .i64 ((evS tmN X).src.v), .int .i64 ((evS tmN X).seq.v), .int .i64 ((evS tmN X).time.v), .string ((evS tmN X).typ.v), .slice qa ((evS tmN X).attrs.length) ca] 5 ag_119 H272 3 (Sa H272 4 rfl #[.int .i64 ((evS tmN X).src.v), .int .i64 ((evS tmN X).seq.v), .int .i64 ((evS tmN X).time.v), .string ((evS tmN X).typ.v), .slice qa ((evS tmN X).attrs.length) ca] 5 sz_119 #[.int .i64 ((evS tmN X).src.v), .int .i64 ((evS tmN X).seq.v), .int .i64 ((evS tmN X).time.v), .string ((evS tmN X).typ.v), .slice qa ((evS tmN X).attrs.length) ca] (fun w273 H274 => r_nil ?_)))))))))
  refine g_ret' [.agg #[.int .i64 ((evS tmN X).src.v), .int .i64 ((evS tmN X).seq.v), .int .i64 ((evS tmN X).time.v), .string ((evS tmN X).typ.v), .slice qa ((evS tmN X).attrs.length) ca]] Tryz.func117 Tryz.results117 ⟨(res_cellN rfl ag_119 (H274.blk_at (i := 4) rfl) (nbl rfl) rfl), trivial⟩ ?_
  have H275 : St W w273 (_ :: _ :: _ :: F) := (((((H274.move 2 rfl).move 2 rfl).move 2 rfl).drop 3 rfl).drop 3 rfl)
  have h70 : (v7 X).e = 0 := by show (ats (vn X) (v6 X)).2.e = 0; rw [← hL]; exact hc266
  have hC : evC tmN X = evE (evS tmN X) := evC_yes h70
  rcases Decidable.em (evC tmN X = 0) with h0 | h0
  ·exact .inl ⟨h0, _, _, pj, rfl, by show _ = (ats (vn X) (v6 X)).2.R; rw [← hL]; exact hRj, hpj, by have hx := H275; rw [← hC, h0] at hx; exact hx⟩
  exact .inr ⟨h0, _, _, _, _, _, _, _, pj, rfl, by rw [hC]; exact H275.drop 0 rfl⟩
 refine rc (s_eql false rfl rfl (dfalse hc266) rfl (r_nil (g_false rfl (g_skip (g_seq (g_region (La [.int .i64 ((stB 4 X).1 : Int), .int .i64 (tmN (stN ((stB 4 X).2)).1), .int .i64 (tmN (stN ((stN ((stB 4 X).2)).2)).1), .string ((stT ((stN ((stN ((stB 4 X).2)).2)).2)).1), .slice qa ((ats j ((stB 4 ((stT ((stN ((stN ((stB 4 X).2)).2)).2)).2)).2)).1.length) ca] 5 ag_119 H168 3 (Sa H168 4 rfl #[.int .i64 ((stB 4 X).1 : Int), .int .i64 (tmN (stN ((stB 4 X).2)).1), .int .i64 (tmN (stN ((stN ((stB 4 X).2)).2)).1), .string ((stT ((stN ((stN ((stB 4 X).2)).2)).2)).1), .slice qa ((ats j ((stB 4 ((stT ((stN ((stN ((stB 4 X).2)).2)).2)).2)).2)).1.length) ca] 5 sz_119 #[.int .i64 ((stB 4 X).1 : Int), .int .i64 (tmN (stN ((stB 4 X).2)).1), .int .i64 (tmN (stN ((stN ((stB 4 X).2)).2)).1), .string ((stT ((stN ((stN ((stB 4 X).2)).2)).2)).1), .slice qa ((ats j ((stB 4 ((stT ((stN ((stN ((stB 4 X).2)).2)).2)).2)).2)).1.length) ca] (fun w276 H277 => r_nil ?_)))))))))
 refine g_ret' [.agg #[.int .i64 ((stB 4 X).1 : Int), .int .i64 (tmN (stN ((stB 4 X).2)).1), .int .i64 (tmN (stN ((stN ((stB 4 X).2)).2)).1), .string ((stT ((stN ((stN ((stB 4 X).2)).2)).2)).1), .slice qa ((ats j ((stB 4 ((stT ((stN ((stN ((stB 4 X).2)).2)).2)).2)).2)).1.length) ca]] Tryz.func117 Tryz.results117 ⟨(res_cellN rfl ag_119 (H277.blk_at (i := 4) rfl) (nbl rfl) rfl), trivial⟩ ?_
 have H278 : St W w276 (_ :: _ :: F) := (((((H277.move 2 rfl).move 2 rfl).drop 2 rfl).drop 2 rfl).drop 2 rfl)
 have hv7 : (v7 X).e = (ats j ((stB 4 ((stT ((stN ((stN ((stB 4 X).2)).2)).2)).2)).2)).2.e := by have hh := v7_at (X := X) (j := j) hjn (by rw [h6]; exact hc266); rw [h6] at hh; exact hh
 have hC : evC tmN X = (ats j ((stB 4 ((stT ((stN ((stN ((stB 4 X).2)).2)).2)).2)).2)).2.e := by rw [evC_no (by rw [hv7]; exact hc266), hv7]
 exact .inr ⟨by rw [hC]; exact hc266, _, _, _, _, _, _, _, pj, rfl, by rw [hC]; exact H278⟩
set_option maxHeartbeats 4000000 in
set_option maxRecDepth 100000 in
theorem event_Take {W w : World} {F : List Atom} (b : Nat) (bs : List UInt8) (p : Nat) (hp : p ≤ 8 * bs.length) (hb : bs.length ≤ 140737488355328) {i : Nat} (hi : F[i]? = some (SrcA b bs p)) (H : St W w F) : Calls Tryz.prog 103 #[.pointer (some ⟨b, 0, none⟩)] w (Ret fun v w' => ∃ q n c p', v = .tuple #[.agg #[.int .i64 ((tkV (remB bs p)).src.v), .int .i64 ((tkV (remB bs p)).seq.v), .int .i64 ((tkV (remB bs p)).time.v), .string ((tkV (remB bs p)).typ.v), .slice q n c], .int .i64 (tkE (remB bs p))] ∧ n = (tkV (remB bs p)).attrs.length ∧ remB bs p' = tkR (remB bs p) ∧ p' ≤ 8 * bs.length ∧ St W w' (Attrs (.slice q n c) (tkV (remB bs p)).attrs :: F.set i (SrcA b bs p'))) := by
 have H0 := H.front hi
 refine calls_of_go (n := 39) Tryz.func103 rfl Tryz.ntmps103 rfl ?_
 refine g_seq (g_region (rc (s_alloc H0 119 ze_119 rfl (fun bk1 w2 H3 => Ag (.int .i64 0) (r_nil (g_seq (g_seq (g_region (Mv (.pointer (some ⟨b, 0, none⟩)) (rc (s_call [.pointer (some ⟨b, 0, none⟩), .int .i64 0] pl_76 rfl rfl (Src_Bits b bs p t4 t18 0  (i := 1) rfl H3) ?_)))))))))))
 rintro _ w4 ⟨rfl, H5⟩
 refine Mv (.tuple #[.int .u64 (srcU (remB bs p) 0 : Int), .int .i64 (srcE (remB bs p) 0)]) (Ex (.int .u64 (srcU (remB bs p) 0 : Int)) (Ex (.int .i64 (srcE (remB bs p) 0)) (Ag (.int .u64 (srcU (remB bs p) 0 : Int)) (Ag (.int .i64 (srcE (remB bs p) 0)) (r_nil (g_seq (g_region (Mv (.int .i64 (srcE (remB bs p) 0)) (rc (s_eql false rfl rfl (dfalse (by rw [srcE_0 t0 t0]; decide)) rfl (r_nil (g_false rfl (g_skip (g_seq (g_region ?_)))))))))))))))
 have hz : p + srcN (remB bs p) 0 = p := by rw [srcN_0 (srcE_0 t0 t0)]; rfl
 have H6 : St W w4 (blk bk1 (.cells #[.int .i64 0, .int .i64 0, .int .i64 0, .string ByteArray.empty, .slice none 0 0] 119 (0, 0)) :: SrcA b bs p :: (F.set i emp)) := by have hx := H5; rw [hz] at hx; exact hx
 refine Mv (.pointer (some ⟨b, 0, none⟩)) (Nc (.pointer (some ⟨b, 0, none⟩)) ?_)
 have H7 := H6.move 1 rfl
 obtain ⟨vv8, H9⟩ := St.open_ex H7
 have H10 := St.open_star H9
 obtain ⟨pp11, cc12, gA13, oA14, kA15, eA16, zA17, rfl, hn18, hp19, hx20, hs21, hml, H22⟩ := Im.open_ H10 (i := 1) rfl
 have H23 : St W w4 (_ :: _ :: _ :: _ :: (F.set i emp)) := H22
 refine La [.bool true, .slice pp11 bs.length cc12, .int .i64 ((p : Nat) : Int)] 3 ag_124 H23 1 (rc (s_alloc H23 124 ze_124 rfl (fun bk24 w25 H26 => Sa H26 0 rfl #[.bool true, .slice pp11 bs.length cc12, .int .i64 ((p : Nat) : Int)] 3 sz_124 #[.bool true, .slice pp11 bs.length cc12, .int .i64 ((p : Nat) : Int)] (fun w27 H28 => r_nil (g_seq (g_region ?_))))))
 have H29 := H28.dup (i := 3) rfl (Im_pers _ _ _ _)
 refine Mv (.pointer (some ⟨b, 0, none⟩)) (rc (s_build (cs := #[.pointer (some ⟨b, 0, none⟩), .int .i64 0]) t7 rfl (Bx H29 164 #[.pointer (some ⟨b, 0, none⟩), .int .i64 0] (fun bk30 w31 H32 => Ag (.pointer (some ⟨bk30, 0, none⟩)) (r_nil (g_seq (g_region (Mv (.pointer (some ⟨bk30, 0, none⟩)) ?_))))))))
 have H33 : St W w31 (_ :: _ :: _ :: _ :: _ :: _ :: (F.set i emp)) := (((((((H32.move 6 rfl).move 6 rfl).move 4 rfl).move 3 rfl).move 4 rfl).move 6 rfl).drop 6 rfl)
 have H34 : St W w31 (SrcA b bs p :: blk bk30 (.cells #[.pointer (some ⟨b, 0, none⟩), .int .i64 0] 164 (0, 0)) :: blk bk24 (.cells #[.bool true, .slice pp11 bs.length cc12, .int .i64 ((p : Nat) : Int)] 124 (0, 0)) :: Im 1 (.slice pp11 bs.length cc12) bs.length (bs.flatMap u8c) :: blk bk1 (.cells #[.int .i64 0, .int .i64 0, .int .i64 0, .string ByteArray.empty, .slice none 0 0] 119 (0, 0)) :: (F.set i emp)) := St.shut_ex (.slice pp11 bs.length cc12) (St.shut_star (ls := [blk b (.cells #[.bool true, .slice pp11 bs.length cc12, .int .i64 ((p : Nat) : Int)] 124 (0, 0)), Im 1 (.slice pp11 bs.length cc12) bs.length (bs.flatMap u8c)]) H33)
 have H35 : St W w31 (_ :: _ :: _ :: _ :: _ :: (F.set i emp)) := (((((H34.move 4 rfl).move 4 rfl).move 4 rfl).move 3 rfl).move 4 rfl)
 have H36 : St W w31 (_ :: _ :: _ :: _ :: _ :: (F.set i emp)) := H35
 refine rc (s_call [.pointer (some ⟨bk30, 0, none⟩)] pl_117 rfl rfl (ev_event bk30 b bs p (⟨0, remB bs p⟩ : RX) rfl t4 t0 H36) ?_)
 rintro _ w49 (⟨he40, pp42, cc43, q37, rfl, hR38, hp39, H41⟩ | ⟨he40, sx45, sx46, sx47, sx48, pp42, NN44, cc43, q37, rfl, H41⟩)
 ·refine rc (s_alloc H41 119 ze_119 rfl (fun bk50 w51 H52 => Sa H52 0 rfl #[.int .i64 ((evS tmN (⟨0, remB bs p⟩ : RX)).src.v), .int .i64 ((evS tmN (⟨0, remB bs p⟩ : RX)).seq.v), .int .i64 ((evS tmN (⟨0, remB bs p⟩ : RX)).time.v), .string ((evS tmN (⟨0, remB bs p⟩ : RX)).typ.v), .slice pp42 ((evS tmN (⟨0, remB bs p⟩ : RX)).attrs.length) cc43] 5 sz_119 #[.int .i64 ((evS tmN (⟨0, remB bs p⟩ : RX)).src.v), .int .i64 ((evS tmN (⟨0, remB bs p⟩ : RX)).seq.v), .int .i64 ((evS tmN (⟨0, remB bs p⟩ : RX)).time.v), .string ((evS tmN (⟨0, remB bs p⟩ : RX)).typ.v), .slice pp42 ((evS tmN (⟨0, remB bs p⟩ : RX)).attrs.length) cc43] (fun w53 H54 => r_nil (g_seq (g_seq (g_region (Mv (.pointer (some ⟨bk30, 0, none⟩)) (Nc (.pointer (some ⟨bk30, 0, none⟩)) (Fa 1 fi_164_1 rfl (Lo (.int .i64 0) ag_28 H54 2 (rc (s_neq false rfl rfl (ntrue t10) rfl (r_nil (g_false rfl (g_skip (g_seq (g_region (La [.int .i64 ((evS tmN (⟨0, remB bs p⟩ : RX)).src.v), .int .i64 ((evS tmN (⟨0, remB bs p⟩ : RX)).seq.v), .int .i64 ((evS tmN (⟨0, remB bs p⟩ : RX)).time.v), .string ((evS tmN (⟨0, remB bs p⟩ : RX)).typ.v), .slice pp42 ((evS tmN (⟨0, remB bs p⟩ : RX)).attrs.length) cc43] 5 ag_119 H54 0 (Sa H54 6 rfl #[.int .i64 ((evS tmN (⟨0, remB bs p⟩ : RX)).src.v), .int .i64 ((evS tmN (⟨0, remB bs p⟩ : RX)).seq.v), .int .i64 ((evS tmN (⟨0, remB bs p⟩ : RX)).time.v), .string ((evS tmN (⟨0, remB bs p⟩ : RX)).typ.v), .slice pp42 ((evS tmN (⟨0, remB bs p⟩ : RX)).attrs.length) cc43] 5 sz_119 #[.int .i64 ((evS tmN (⟨0, remB bs p⟩ : RX)).src.v), .int .i64 ((evS tmN (⟨0, remB bs p⟩ : RX)).seq.v), .int .i64 ((evS tmN (⟨0, remB bs p⟩ : RX)).time.v), .string ((evS tmN (⟨0, remB bs p⟩ : RX)).typ.v), .slice pp42 ((evS tmN (⟨0, remB bs p⟩ : RX)).attrs.length) cc43] (fun w55 H56 => Ag (.int .i64 0) (r_nil ?_)))))))))))))))))))))
  refine g_ret' [.agg #[.int .i64 ((evS tmN (⟨0, remB bs p⟩ : RX)).src.v), .int .i64 ((evS tmN (⟨0, remB bs p⟩ : RX)).seq.v), .int .i64 ((evS tmN (⟨0, remB bs p⟩ : RX)).time.v), .string ((evS tmN (⟨0, remB bs p⟩ : RX)).typ.v), .slice pp42 ((evS tmN (⟨0, remB bs p⟩ : RX)).attrs.length) cc43], .int .i64 0] Tryz.func103 Tryz.results103 ⟨(res_cellN rfl ag_119 (H56.blk_at (i := 6) rfl) (nbl rfl) rfl), rfl, trivial⟩ ?_
  have hE : tkE (remB bs p) = 0 := he40
  have H57 : St W w55 (_ :: _ :: (F.set i emp)) := (((((((H56.move 1 rfl).move 3 rfl).drop 2 rfl).drop 2 rfl).drop 2 rfl).drop 2 rfl).drop 2 rfl)
  have H58 : St W w55 (_ :: (Attrs (.slice pp42 ((evS tmN (⟨0, remB bs p⟩ : RX)).attrs.length) cc43) ((evS tmN (⟨0, remB bs p⟩ : RX)).attrs) :: F).set (i + 1) emp) := H57
  exact ⟨_, _, _, _, by rw [tkV_yes hE, hE]; rfl, by rw [tkV_yes hE], by rw [tkR_yes hE]; exact hR38, hp39, by rw [tkV_yes hE]; exact St.back (i := i + 1) t44 H58⟩
 refine rc (s_alloc H41 119 ze_119 rfl (fun bk59 w60 H61 => Sa H61 0 rfl #[.int .i64 sx45, .int .i64 sx46, .int .i64 sx47, .string sx48, .slice pp42 NN44 cc43] 5 sz_119 #[.int .i64 sx45, .int .i64 sx46, .int .i64 sx47, .string sx48, .slice pp42 NN44 cc43] (fun w62 H63 => r_nil (g_seq (g_seq (g_region (Mv (.pointer (some ⟨bk30, 0, none⟩)) (Nc (.pointer (some ⟨bk30, 0, none⟩)) (Fa 1 fi_164_1 rfl (Lo (.int .i64 (evC tmN (⟨0, remB bs p⟩ : RX))) ag_28 H63 1 (rc (s_neq true rfl rfl (nfalse t0) rfl (r_nil (g_true rfl (g_seq (g_region (Mv (.pointer (some ⟨b, 0, none⟩)) (La [.bool true, .slice pp11 bs.length cc12, .int .i64 ((p : Nat) : Int)] 3 ag_124 H63 3 (Nc (.pointer (some ⟨b, 0, none⟩)) ?_)))))))))))))))))))
 have H64 := H63.move 2 rfl
 obtain ⟨vv65, H66⟩ := St.open_ex H64
 have H67 := St.open_star H66
 obtain ⟨pp68, cc69, gA70, oA71, kA72, eA73, zA74, rfl, hn75, hp76, hx77, hs78, hml, H79⟩ := Im.open_ H67 (i := 1) rfl
 have H80 : St W w62 (_ :: _ :: _ :: _ :: _ :: _ :: _ :: _ :: (F.set i emp)) := H79
 refine Sa H80 1 rfl #[.bool true, .slice pp11 bs.length cc12, .int .i64 ((p : Nat) : Int)] 3 sz_124 #[.bool true, .slice pp11 bs.length cc12, .int .i64 ((p : Nat) : Int)] (fun w81 H82 => r_nil (g_seq ?_))
 refine g_mix (fun t_ w => St W w (imi (0 < bs.length) gA70 (.cells kA72 eA73 zA74) :: blk b (.cells #[.bool true, .slice pp11 bs.length cc12, .int .i64 ((p : Nat) : Int)] 124 (0, 0)) :: Im 1 (.slice pp68 bs.length cc69) bs.length (bs.flatMap u8c) :: blk bk59 (.cells #[.int .i64 sx45, .int .i64 sx46, .int .i64 sx47, .string sx48, .slice pp42 NN44 cc43] 119 (0, 0)) :: blk bk30 (.cells #[.pointer (some ⟨b, 0, none⟩), .int .i64 (evC tmN (⟨0, remB bs p⟩ : RX))] 164 (0, 0)) :: blk bk24 (.cells #[.bool true, .slice pp11 bs.length cc12, .int .i64 ((p : Nat) : Int)] 124 (0, 0)) :: Im 1 (.slice pp11 bs.length cc12) bs.length (bs.flatMap u8c) :: t_)) (blk bk1 (.cells #[.int .i64 0, .int .i64 0, .int .i64 0, .string ByteArray.empty, .slice none 0 0] 119 (0, 0)) :: (F.set i emp)) mixed 7 rfl H82.drew ?_
 refine Fv 0 rfl (fun t_ w hw => x_build (cs := #[.int .i64 0, .int .i64 0, .int .i64 0, .string ByteArray.empty, .slice none 0 0]) t7 w) (Fv 1 rfl (fun _ w _ => x_move (.pointer (some ⟨bk30, 0, none⟩)) rfl w) (Fv 2 rfl (fun t_ w hw => x_nilCheck (.pointer (some ⟨bk30, 0, none⟩)) rfl ⟨_, rfl⟩ w) (Fv 3 rfl (fun t_ w hw => x_fieldAddr 164 1 1 1 28 rfl fi_164_1 rfl w) (Fv 4 rfl (fun t_ w hw => x_load (.int .i64 (evC tmN (⟨0, remB bs p⟩ : RX))) ag_28 rfl (hw.blk_at (i := 4) rfl) rfl) ?_))))
 refine f_all (rs := [5]) t7 t16 ?_
 refine a_cons ⟨_, rfl, ?_⟩ (fun x hx => absurd hx t16)
 intro w83 H84
 try dsimp only at H84
 refine s_storeAgg H84 7 #[.int .i64 0, .int .i64 0, .int .i64 0, .string ByteArray.empty, .slice none 0 0] 5 rfl rfl rfl sz_119 rfl t26 (nbl rfl) (fun o h1 h2 => by first | (simp; done) | (simp; omega)) (cs' := #[.int .i64 0, .int .i64 0, .int .i64 0, .string ByteArray.empty, .slice none 0 0]) rfl ?_; intro w85 H86
 refine ⟨blk bk1 (.cells #[.int .i64 0, .int .i64 0, .int .i64 0, .string ByteArray.empty, .slice none 0 0] 119 (0, 0)) :: (F.set i emp), ?_, H86⟩
 change FReg _ _ _ _ _ #[true, true, true, true, true, true, false] _ _
 refine Fv 6 rfl (fun t_ w hw => x_assign (.int .i64 (evC tmN (⟨0, remB bs p⟩ : RX))) rfl w) ?_
 refine f_done t7 ?_
 intro w87 H88
 refine g_ret' [.agg #[.int .i64 0, .int .i64 0, .int .i64 0, .string ByteArray.empty, .slice none 0 0], .int .i64 (evC tmN (⟨0, remB bs p⟩ : RX))] Tryz.func103 Tryz.results103 ⟨(res_cellN rfl ag_119 (H88.blk_at (i := 7) rfl) (nbl rfl) rfl), rfl, trivial⟩ ?_
 have H89 : St W w87 (_ :: _ :: _ :: _ :: _ :: _ :: _ :: (F.set i emp)) := ((((((((H88.move 7 rfl).move 6 rfl).move 6 rfl).move 6 rfl).move 6 rfl).move 7 rfl).move 7 rfl).drop 7 rfl)
 have H90 : St W w87 (SrcA b bs p :: Im 1 (.slice pp68 bs.length cc69) bs.length (bs.flatMap u8c) :: blk bk59 (.cells #[.int .i64 sx45, .int .i64 sx46, .int .i64 sx47, .string sx48, .slice pp42 NN44 cc43] 119 (0, 0)) :: blk bk30 (.cells #[.pointer (some ⟨b, 0, none⟩), .int .i64 (evC tmN (⟨0, remB bs p⟩ : RX))] 164 (0, 0)) :: blk bk24 (.cells #[.bool true, .slice pp11 bs.length cc12, .int .i64 ((p : Nat) : Int)] 124 (0, 0)) :: blk bk1 (.cells #[.int .i64 0, .int .i64 0, .int .i64 0, .string ByteArray.empty, .slice none 0 0] 119 (0, 0)) :: (F.set i emp)) := St.shut_ex (.slice pp11 bs.length cc12) (St.shut_star (ls := [blk b (.cells #[.bool true, .slice pp11 bs.length cc12, .int .i64 ((p : Nat) : Int)] 124 (0, 0)), Im 1 (.slice pp11 bs.length cc12) bs.length (bs.flatMap u8c)]) H89)
 have hE : ¬ tkE (remB bs p) = 0 := he40
 have H91 : St W w87 (Attrs (.slice none 0 0) [] :: SrcA b bs p :: Im 1 (.slice pp68 bs.length cc69) bs.length (bs.flatMap u8c) :: blk bk59 (.cells #[.int .i64 sx45, .int .i64 sx46, .int .i64 sx47, .string sx48, .slice pp42 NN44 cc43] 119 (0, 0)) :: blk bk30 (.cells #[.pointer (some ⟨b, 0, none⟩), .int .i64 (evC tmN (⟨0, remB bs p⟩ : RX))] 164 (0, 0)) :: blk bk24 (.cells #[.bool true, .slice pp11 bs.length cc12, .int .i64 ((p : Nat) : Int)] 124 (0, 0)) :: blk bk1 (.cells #[.int .i64 0, .int .i64 0, .int .i64 0, .string ByteArray.empty, .slice none 0 0] 119 (0, 0)) :: (F.set i emp)) := Row.im (Row.nil_intro H90 147 4) (i := 0) rfl
 have H92 : St W w87 (_ :: _ :: (F.set i emp)) := ((((((H91.move 1 rfl).drop 2 rfl).drop 2 rfl).drop 2 rfl).drop 2 rfl).drop 2 rfl)
 have H93 : St W w87 (_ :: (Attrs (.slice none 0 0) [] :: F).set (i + 1) emp) := H92
 exact ⟨none, 0, 0, p, by rw [tkV_no hE]; rfl, by rw [tkV_no hE]; rfl, by rw [tkR_no hE], hp, by rw [tkV_no hE]; exact St.back (i := i + 1) t44 H93⟩
set_option maxHeartbeats 4000000 in
set_option maxRecDepth 100000 in
theorem ref04_value {W w : World} {F : List Atom} (b : Nat) (X : RX) (hX : X.e = 0) (hRl : X.R.length ≤ 1125899906842624) {i : Nat} (hi : F[i]? = some (RSrc b X.R)) (H : St W w F) : Calls Tryz.prog 133 #[.pointer (some ⟨b, 0, none⟩)] w (Ret fun v w' => ((stV X).2.e = 0 ∧ v = .tuple #[.agg #[.int .i64 (stV X).1.1, .int .i64 (stV X).1.2.1, .string (stV X).1.2.2], .int .i64 0] ∧ St W w' (F.set i (RSrc b (stV X).2.R))) ∨ (¬ (stV X).2.e = 0 ∧ ∃ k n s R', v = .tuple #[.agg #[.int .i64 k, .int .i64 n, .string s], .int .i64 (stV X).2.e] ∧ St W w' (F.set i (RSrc b R')))) := by
 have H0 := H.front hi
 refine calls_of_go (n := 41) Tryz.func133 rfl Tryz.ntmps133 rfl ?_
 refine g_seq (g_region (rc (s_alloc H0 145 ze_145 rfl (fun bk1 w2 H3 => Ag (.int .i64 0) (r_nil (g_seq (g_region (Mv (.pointer (some ⟨b, 0, none⟩)) (rc (s_call [.pointer (some ⟨b, 0, none⟩), .int .i64 2] pl_81 rfl rfl (RSrc_Bits b X.R 2  (i := 1) rfl H3) ?_))))))))))
 rintro _ w4 ⟨rfl, H5⟩
 refine Mv (.tuple #[.int .u64 (srcU X.R 2 : Int), .int .i64 (srcE X.R 2)]) (Ex (.int .u64 (srcU X.R 2 : Int)) (Ex (.int .i64 (srcE X.R 2)) (Ag (.int .u64 (srcU X.R 2 : Int)) (Ag (.int .i64 (srcE X.R 2)) (r_nil (g_seq (g_seq (g_region (Mv (.int .i64 (srcE X.R 2)) ?_)))))))))
 by_cases hc6 : srcE X.R 2 = 0
 ·refine rc (s_neq false rfl rfl (ntrue hc6) rfl (r_nil (g_false rfl (g_skip (g_seq (g_seq (g_region (Mv (.int .u64 (srcU X.R 2 : Int)) (r_nil (g_block (g_seq (g_region ?_))))))))))))
  by_cases hc7 : (srcU X.R 2 : Int) = 1
  ·refine rc (s_eql true rfl rfl (dtrue hc7) rfl (Ag (.bool true) (r_nil (g_true rfl (g_seq (g_region (Mv (.pointer (some ⟨b, 0, none⟩)) (rc (s_call [.pointer (some ⟨b, 0, none⟩)] pl_135 rfl rfl (RSrc_Num b (X.R.drop (srcN X.R 2))   (i := 1) rfl H5) ?_)))))))))
   rintro _ w8 ⟨rfl, H9⟩
   refine Mv (.tuple #[.int .i64 (zagN (natU (X.R.drop (srcN X.R 2)))), .int .i64 (natE (X.R.drop (srcN X.R 2)))]) (Ex (.int .i64 (zagN (natU (X.R.drop (srcN X.R 2))))) (Ex (.int .i64 (natE (X.R.drop (srcN X.R 2)))) (Ag (.int .i64 (zagN (natU (X.R.drop (srcN X.R 2))))) (Ag (.int .i64 (natE (X.R.drop (srcN X.R 2)))) (r_nil (g_seq (g_region (Mv (.int .i64 (zagN (natU (X.R.drop (srcN X.R 2))))) (rc (s_build (cs := #[.int .i64 1, .int .i64 (zagN (natU (X.R.drop (srcN X.R 2)))), .string ByteArray.empty]) t7 rfl (Mv (.int .i64 (natE (X.R.drop (srcN X.R 2)))) (Sa H9 0 rfl #[.int .i64 1, .int .i64 (zagN (natU (X.R.drop (srcN X.R 2)))), .string ByteArray.empty] 3 sz_145 #[.int .i64 1, .int .i64 (zagN (natU (X.R.drop (srcN X.R 2)))), .string ByteArray.empty] (fun w10 H11 => Ag (.int .i64 (natE (X.R.drop (srcN X.R 2)))) (r_nil ?_))))))))))))))
   refine g_ret' [.agg #[.int .i64 1, .int .i64 (zagN (natU (X.R.drop (srcN X.R 2)))), .string ByteArray.empty], .int .i64 (natE (X.R.drop (srcN X.R 2)))] Tryz.func133 Tryz.results133 ⟨(res_cellN rfl ag_145 (H11.blk_at (i := 0) rfl) (nbl rfl) rfl), rfl, trivial⟩ ?_
   have H12 : St W w10 (_ :: (F.set i emp)) := ((H11.move 1 rfl).drop 1 rfl)
   have hV := stV_n hX hc6 (show srcU X.R 2 = 1 by omega)
   rcases Decidable.em (natE (X.R.drop (srcN X.R 2)) = 0) with he | he
   ·exact .inl ⟨by rw [hV]; exact he, by rw [hV, he]; rfl, by rw [hV]; exact St.back hi H12⟩
   exact .inr ⟨by rw [hV]; exact he, _, _, _, _, by rw [hV]; rfl, St.back hi H12⟩
  refine rc (s_eql false rfl rfl (dfalse hc7) rfl (Ag (.bool false) (r_nil (g_false rfl (g_seq (g_region ?_))))))
  by_cases hc13 : (srcU X.R 2 : Int) = 2
  ·refine rc (s_eql true rfl rfl (dtrue hc13) rfl (Ag (.bool true) (r_nil (g_true rfl (g_seq (g_region (Mv (.pointer (some ⟨b, 0, none⟩)) (rc (s_call [.pointer (some ⟨b, 0, none⟩)] pl_118 rfl rfl (RSrc_Text b (X.R.drop (srcN X.R 2))  t33 (i := 1) rfl H5) ?_)))))))))
   rintro _ w14 ⟨rfl, H15⟩
   refine Mv (.tuple #[.string (textS (X.R.drop (srcN X.R 2))), .int .i64 (textE (X.R.drop (srcN X.R 2)))]) (Ex (.string (textS (X.R.drop (srcN X.R 2)))) (Ex (.int .i64 (textE (X.R.drop (srcN X.R 2)))) (Ag (.string (textS (X.R.drop (srcN X.R 2)))) (Ag (.int .i64 (textE (X.R.drop (srcN X.R 2)))) (r_nil (g_seq (g_region (Mv (.string (textS (X.R.drop (srcN X.R 2)))) (rc (s_build (cs := #[.int .i64 2, .int .i64 0, .string (textS (X.R.drop (srcN X.R 2)))]) t7 rfl (Mv (.int .i64 (textE (X.R.drop (srcN X.R 2)))) (Sa H15 0 rfl #[.int .i64 2, .int .i64 0, .string (textS (X.R.drop (srcN X.R 2)))] 3 sz_145 #[.int .i64 2, .int .i64 0, .string (textS (X.R.drop (srcN X.R 2)))] (fun w16 H17 => Ag (.int .i64 (textE (X.R.drop (srcN X.R 2)))) (r_nil ?_))))))))))))))
   refine g_ret' [.agg #[.int .i64 2, .int .i64 0, .string (textS (X.R.drop (srcN X.R 2)))], .int .i64 (textE (X.R.drop (srcN X.R 2)))] Tryz.func133 Tryz.results133 ⟨(res_cellN rfl ag_145 (H17.blk_at (i := 0) rfl) (nbl rfl) rfl), rfl, trivial⟩ ?_
   have H18 : St W w16 (_ :: (F.set i emp)) := ((H17.move 1 rfl).drop 1 rfl)
   have hV := stV_t hX hc6 (show srcU X.R 2 = 2 by omega)
   rcases Decidable.em (textE (X.R.drop (srcN X.R 2)) = 0) with he | he
   ·exact .inl ⟨by rw [hV]; exact he, by rw [hV, he]; rfl, by rw [hV]; exact St.back hi H18⟩
   exact .inr ⟨by rw [hV]; exact he, _, _, _, _, by rw [hV]; rfl, St.back hi H18⟩
  refine rc (s_eql false rfl rfl (dfalse hc13) rfl (Ag (.bool false) (r_nil (g_false rfl (g_skip (g_inBlock (g_seq (g_region (rc (s_build (cs := #[.int .i64 0, .int .i64 0, .string ByteArray.empty]) t7 rfl (Sa H5 0 rfl #[.int .i64 0, .int .i64 0, .string ByteArray.empty] 3 sz_145 #[.int .i64 0, .int .i64 0, .string ByteArray.empty] (fun w19 H20 => Ag (.int .i64 40) (r_nil ?_)))))))))))))
  refine g_ret' [.agg #[.int .i64 0, .int .i64 0, .string ByteArray.empty], .int .i64 40] Tryz.func133 Tryz.results133 ⟨(res_cellN rfl ag_145 (H20.blk_at (i := 0) rfl) (nbl rfl) rfl), rfl, trivial⟩ ?_
  have H21 : St W w19 (_ :: (F.set i emp)) := ((H20.move 1 rfl).drop 1 rfl)
  have hV := stV_o hX hc6 (show ¬ srcU X.R 2 = 1 by omega) (show ¬ srcU X.R 2 = 2 by omega)
  exact .inr ⟨by rw [hV]; decide, _, _, _, _, by rw [hV]; rfl, St.back hi H21⟩
 refine rc (s_neq true rfl rfl (nfalse hc6) rfl (r_nil (g_true rfl (g_seq (g_region (rc (s_build (cs := #[.int .i64 0, .int .i64 0, .string ByteArray.empty]) t7 rfl (Mv (.int .i64 (srcE X.R 2)) (Sa H5 0 rfl #[.int .i64 0, .int .i64 0, .string ByteArray.empty] 3 sz_145 #[.int .i64 0, .int .i64 0, .string ByteArray.empty] (fun w22 H23 => Ag (.int .i64 (srcE X.R 2)) (r_nil ?_)))))))))))
 refine g_ret' [.agg #[.int .i64 0, .int .i64 0, .string ByteArray.empty], .int .i64 (srcE X.R 2)] Tryz.func133 Tryz.results133 ⟨(res_cellN rfl ag_145 (H23.blk_at (i := 0) rfl) (nbl rfl) rfl), rfl, trivial⟩ ?_
 have H24 : St W w22 (_ :: (F.set i emp)) := ((H23.move 1 rfl).drop 1 rfl)
 have hV := stV_b hX hc6
 exact .inr ⟨by rw [hV]; exact hc6, _, _, _, _, by rw [hV]; rfl, St.back hi H24⟩
set_option maxHeartbeats 4000000 in
set_option maxRecDepth 100000 in
theorem ref04_take {W w : World} {F : List Atom} (b : Nat) (X : RX) (hX : X.e = 0) (hRl : X.R.length ≤ 1125899906842624) {i : Nat} (hi : F[i]? = some (RSrc b X.R)) (H : St W w F) : Calls Tryz.prog 131 #[.pointer (some ⟨b, 0, none⟩)] w (Ret fun v w' => ((v7 X).e = 0 ∧ ∃ q c, v = .tuple #[.agg #[.int .i64 ((evS s64 X).src.v), .int .i64 ((evS s64 X).seq.v), .int .i64 ((evS s64 X).time.v), .string ((evS s64 X).typ.v), .slice q ((evS s64 X).attrs.length) c], .int .i64 0] ∧ St W w' (Attrs (.slice q ((evS s64 X).attrs.length) c) (evS s64 X).attrs :: F.set i (RSrc b (v7 X).R))) ∨ (¬ (v7 X).e = 0 ∧ ∃ s1 s2 s3 s4 q n c R', v = .tuple #[.agg #[.int .i64 s1, .int .i64 s2, .int .i64 s3, .string s4, .slice q n c], .int .i64 (v7 X).e] ∧ St W w' (F.set i (RSrc b R')))) := by
 have H0 := H.front hi
 have hl1 := Nat.le_trans (v1_len (X := X)) hRl
 have hl2 := Nat.le_trans (v2_len (X := X)) hRl
 have hl3 := Nat.le_trans (v3_len (X := X)) hRl
 have hl4 := Nat.le_trans (v4_len (X := X)) hRl
 have hs4 : srcU X.R 4 < 16 := srcU_lt_pow (k := 4)
 have hs5 : srcU (v4 X).R 4 < 16 := srcU_lt_pow (k := 4)
 refine calls_of_go (n := 102) Tryz.func131 rfl Tryz.ntmps131 rfl ?_
 refine g_seq (g_region (rc (s_alloc H0 119 ze_119 rfl (fun bk1 w2 H3 => Ag (.int .i64 0) (r_nil (g_seq (g_region (rc (s_alloc H3 119 ze_119 rfl (fun bk4 w5 H6 => r_nil (g_seq (g_region (Mv (.pointer (some ⟨b, 0, none⟩)) (rc (s_call [.pointer (some ⟨b, 0, none⟩), .int .i64 4] pl_81 rfl rfl (RSrc_Bits b X.R 4  (i := 2) rfl H6) ?_)))))))))))))))
 rintro _ w7 ⟨rfl, H8⟩
 refine Mv (.tuple #[.int .u64 (srcU X.R 4 : Int), .int .i64 (srcE X.R 4)]) (Ex (.int .u64 (srcU X.R 4 : Int)) (Ex (.int .i64 (srcE X.R 4)) (Ag (.int .u64 (srcU X.R 4 : Int)) (Ag (.int .i64 (srcE X.R 4)) (r_nil (g_seq (g_seq (g_region (Mv (.int .i64 (srcE X.R 4)) ?_)))))))))
 by_cases hc9 : srcE X.R 4 = 0
 ·have q1 : stB 4 X = (srcU X.R 4, ⟨srcE X.R 4, X.R.drop (srcN X.R 4)⟩) := stB_yes hX
  have e1 : (v1 X).e = 0 := by show (stB 4 X).2.e = 0; rw [q1]; exact hc9
  have r1 : (v1 X).R = X.R.drop (srcN X.R 4) := by show (stB 4 X).2.R = _; rw [q1]
  have H10 : St W w7 (blk bk4 (.cells #[.int .i64 0, .int .i64 0, .int .i64 0, .string ByteArray.empty, .slice none 0 0] 119 (0, 0)) :: blk bk1 (.cells #[.int .i64 0, .int .i64 0, .int .i64 0, .string ByteArray.empty, .slice none 0 0] 119 (0, 0)) :: RSrc b ((v1 X).R) :: (F.set i emp)) := by rw [r1]; exact H8
  refine rc (s_neq false rfl rfl (ntrue hc9) rfl (r_nil (g_false rfl (g_skip (g_seq (g_region (Mv (.pointer (some ⟨b, 0, none⟩)) (rc (s_call [.pointer (some ⟨b, 0, none⟩)] pl_80 rfl rfl (RSrc_Nat b ((v1 X).R)   (i := 2) rfl H10) ?_)))))))))
  rintro _ w11 ⟨rfl, H12⟩
  refine Mv (.tuple #[.int .u64 (natU ((v1 X).R) : Int), .int .i64 (natE ((v1 X).R))]) (Ex (.int .u64 (natU ((v1 X).R) : Int)) (Ex (.int .i64 (natE ((v1 X).R))) (Ag (.int .u64 (natU ((v1 X).R) : Int)) (Ag (.int .i64 (natE ((v1 X).R))) (r_nil (g_seq (g_seq (g_region (Mv (.int .i64 (natE ((v1 X).R))) ?_)))))))))
  by_cases hc13 : natE ((v1 X).R) = 0
  ·have q2 : stN (v1 X) = (natU (v1 X).R, ⟨natE (v1 X).R, (v1 X).R.drop (natN (v1 X).R)⟩) := stN_yes e1
   have e2 : (v2 X).e = 0 := by show (stN (v1 X)).2.e = 0; rw [q2]; exact hc13
   have r2 : (v2 X).R = (v1 X).R.drop (natN (v1 X).R) := by show (stN (v1 X)).2.R = _; rw [q2]
   have H14 : St W w11 (blk bk4 (.cells #[.int .i64 0, .int .i64 0, .int .i64 0, .string ByteArray.empty, .slice none 0 0] 119 (0, 0)) :: blk bk1 (.cells #[.int .i64 0, .int .i64 0, .int .i64 0, .string ByteArray.empty, .slice none 0 0] 119 (0, 0)) :: RSrc b ((v2 X).R) :: (F.set i emp)) := by rw [r2]; exact H12
   refine rc (s_neq false rfl rfl (ntrue hc13) rfl (r_nil (g_false rfl (g_skip (g_seq (g_region (Mv (.pointer (some ⟨b, 0, none⟩)) (rc (s_call [.pointer (some ⟨b, 0, none⟩)] pl_80 rfl rfl (RSrc_Nat b ((v2 X).R)   (i := 2) rfl H14) ?_)))))))))
   rintro _ w15 ⟨rfl, H16⟩
   refine Mv (.tuple #[.int .u64 (natU ((v2 X).R) : Int), .int .i64 (natE ((v2 X).R))]) (Ex (.int .u64 (natU ((v2 X).R) : Int)) (Ex (.int .i64 (natE ((v2 X).R))) (Ag (.int .u64 (natU ((v2 X).R) : Int)) (Ag (.int .i64 (natE ((v2 X).R))) (r_nil (g_seq (g_seq (g_region (Mv (.int .i64 (natE ((v2 X).R))) ?_)))))))))
   by_cases hc17 : natE ((v2 X).R) = 0
   ·have q3 : stN (v2 X) = (natU (v2 X).R, ⟨natE (v2 X).R, (v2 X).R.drop (natN (v2 X).R)⟩) := stN_yes e2
    have e3 : (v3 X).e = 0 := by show (stN (v2 X)).2.e = 0; rw [q3]; exact hc17
    have r3 : (v3 X).R = (v2 X).R.drop (natN (v2 X).R) := by show (stN (v2 X)).2.R = _; rw [q3]
    have H18 : St W w15 (blk bk4 (.cells #[.int .i64 0, .int .i64 0, .int .i64 0, .string ByteArray.empty, .slice none 0 0] 119 (0, 0)) :: blk bk1 (.cells #[.int .i64 0, .int .i64 0, .int .i64 0, .string ByteArray.empty, .slice none 0 0] 119 (0, 0)) :: RSrc b ((v3 X).R) :: (F.set i emp)) := by rw [r3]; exact H16
    refine rc (s_neq false rfl rfl (ntrue hc17) rfl (r_nil (g_false rfl (g_skip (g_seq (g_region (Mv (.int .u64 (srcU X.R 4 : Int)) (rc (s_conv (srcU X.R 4 : Int) rfl us_61 ik_3 (wi64 t0) rfl (Mv (.int .u64 (natU ((v1 X).R) : Int)) (rc (s_conv (s64 (natU ((v1 X).R))) rfl us_61 ik_2 (rfl) rfl (rc (s_build (cs := #[.int .i64 (srcU X.R 4 : Int), .int .i64 (s64 (natU ((v1 X).R)))]) t7 rfl (Fa 0 fi_119_0 rfl (Sa H18 0 rfl #[.int .i64 (srcU X.R 4 : Int), .int .i64 (s64 (natU ((v1 X).R)))] 2 sz_116 #[.int .i64 (srcU X.R 4 : Int), .int .i64 (s64 (natU ((v1 X).R))), .int .i64 0, .string ByteArray.empty, .slice none 0 0] (fun w19 H20 => r_nil (g_seq (g_region (Mv (.int .u64 (natU ((v2 X).R) : Int)) (rc (s_conv (s64 (natU ((v2 X).R))) rfl us_61 ik_2 (rfl) rfl (Fa 2 fi_119_1 rfl (rc (s_store H20 0 (.int .i64 (s64 (natU ((v2 X).R)))) rfl rfl rfl sz_2 rfl (nbl rfl) rfl (cs' := #[.int .i64 (srcU X.R 4 : Int), .int .i64 (s64 (natU ((v1 X).R))), .int .i64 (s64 (natU ((v2 X).R))), .string ByteArray.empty, .slice none 0 0]) rfl (fun w21 H22 => r_nil (g_seq (g_region (Mv (.pointer (some ⟨b, 0, none⟩)) (rc (s_call [.pointer (some ⟨b, 0, none⟩)] pl_118 rfl rfl (RSrc_Text b ((v3 X).R)  t33 (i := 2) rfl H22) ?_)))))))))))))))))))))))))))))))
    rintro _ w23 ⟨rfl, H24⟩
    refine Mv (.tuple #[.string (textS ((v3 X).R)), .int .i64 (textE ((v3 X).R))]) (Ex (.string (textS ((v3 X).R))) (Ex (.int .i64 (textE ((v3 X).R))) (Fa 3 fi_119_2 rfl (rc (s_store H24 0 (.string (textS ((v3 X).R))) rfl rfl rfl sz_9 rfl (nbl rfl) rfl (cs' := #[.int .i64 (srcU X.R 4 : Int), .int .i64 (s64 (natU ((v1 X).R))), .int .i64 (s64 (natU ((v2 X).R))), .string (textS ((v3 X).R)), .slice none 0 0]) rfl (fun w25 H26 => Ag (.int .i64 (textE ((v3 X).R))) (r_nil (g_seq (g_seq (g_region (Mv (.int .i64 (textE ((v3 X).R))) ?_)))))))))))
    by_cases hc27 : textE ((v3 X).R) = 0
    ·have q4 : stT (v3 X) = (textS (v3 X).R, ⟨textE (v3 X).R, (v3 X).R.drop (textN (v3 X).R)⟩) := stT_yes e3
     have e4 : (v4 X).e = 0 := by show (stT (v3 X)).2.e = 0; rw [q4]; exact hc27
     have r4 : (v4 X).R = (v3 X).R.drop (textN (v3 X).R) := by show (stT (v3 X)).2.R = _; rw [q4]
     have H28 : St W w25 (blk bk4 (.cells #[.int .i64 (srcU X.R 4 : Int), .int .i64 (s64 (natU ((v1 X).R))), .int .i64 (s64 (natU ((v2 X).R))), .string (textS ((v3 X).R)), .slice none 0 0] 119 (0, 0)) :: blk bk1 (.cells #[.int .i64 0, .int .i64 0, .int .i64 0, .string ByteArray.empty, .slice none 0 0] 119 (0, 0)) :: RSrc b ((v4 X).R) :: (F.set i emp)) := by rw [r4]; exact H26
     refine rc (s_neq false rfl rfl (ntrue hc27) rfl (r_nil (g_false rfl (g_skip (g_seq (g_region (Mv (.pointer (some ⟨b, 0, none⟩)) (rc (s_call [.pointer (some ⟨b, 0, none⟩), .int .i64 4] pl_81 rfl rfl (RSrc_Bits b ((v4 X).R) 4  (i := 2) rfl H28) ?_)))))))))
     rintro _ w29 ⟨rfl, H30⟩
     refine Mv (.tuple #[.int .u64 (srcU ((v4 X).R) 4 : Int), .int .i64 (srcE ((v4 X).R) 4)]) (Ex (.int .u64 (srcU ((v4 X).R) 4 : Int)) (Ex (.int .i64 (srcE ((v4 X).R) 4)) (Ag (.int .u64 (srcU ((v4 X).R) 4 : Int)) (Ag (.int .i64 (srcE ((v4 X).R) 4)) (r_nil (g_seq (g_seq (g_region (Mv (.int .i64 (srcE ((v4 X).R) 4)) ?_)))))))))
     by_cases hc31 : srcE ((v4 X).R) 4 = 0
     ·have q5 : stB 4 (v4 X) = (srcU (v4 X).R 4, ⟨srcE (v4 X).R 4, (v4 X).R.drop (srcN (v4 X).R 4)⟩) := stB_yes e4
      have e5 : (v5 X).e = 0 := by show (stB 4 (v4 X)).2.e = 0; rw [q5]; exact hc31
      have r5 : (v5 X).R = (v4 X).R.drop (srcN (v4 X).R 4) := by show (stB 4 (v4 X)).2.R = _; rw [q5]
      have H32 : St W w29 (blk bk4 (.cells #[.int .i64 (srcU X.R 4 : Int), .int .i64 (s64 (natU ((v1 X).R))), .int .i64 (s64 (natU ((v2 X).R))), .string (textS ((v3 X).R)), .slice none 0 0] 119 (0, 0)) :: blk bk1 (.cells #[.int .i64 0, .int .i64 0, .int .i64 0, .string ByteArray.empty, .slice none 0 0] 119 (0, 0)) :: RSrc b ((v5 X).R) :: (F.set i emp)) := by rw [r5]; exact H30
      refine rc (s_neq false rfl rfl (ntrue hc31) rfl (r_nil (g_false rfl (g_skip (g_seq (g_seq (g_region (Mv (.int .u64 (srcU ((v4 X).R) 4 : Int)) ?_))))))))
      by_cases hc33 : (8 : Int) < (srcU ((v4 X).R) 4 : Int)
      ·have e6 : (v6 X).e = 40 := by
        show (if 8 < vn X then stK 40 (v5 X) else v5 X).e = 40
        rw [if_pos (show 8 < vn X by show 8 < (stB 4 (v4 X)).1; rw [q5]; show 8 < srcU (v4 X).R 4; omega), stK_yes e5]
       have e7 : (v7 X).e = 40 := (v7_6 (by rw [e6]; decide)).trans e6
       have en7 : ¬ (v7 X).e = 0 := by rw [e7]; decide
       refine rc (s_gtr true rfl rfl (dtrue hc33) rfl (r_nil (g_true rfl (g_seq (g_region (La [.int .i64 (srcU X.R 4 : Int), .int .i64 (s64 (natU ((v1 X).R))), .int .i64 (s64 (natU ((v2 X).R))), .string (textS ((v3 X).R)), .slice none 0 0] 5 ag_119 H32 0 (Sa H32 1 rfl #[.int .i64 (srcU X.R 4 : Int), .int .i64 (s64 (natU ((v1 X).R))), .int .i64 (s64 (natU ((v2 X).R))), .string (textS ((v3 X).R)), .slice none 0 0] 5 sz_119 #[.int .i64 (srcU X.R 4 : Int), .int .i64 (s64 (natU ((v1 X).R))), .int .i64 (s64 (natU ((v2 X).R))), .string (textS ((v3 X).R)), .slice none 0 0] (fun w34 H35 => Ag (.int .i64 40) (r_nil ?_)))))))))
       refine g_ret' [.agg #[.int .i64 (srcU X.R 4 : Int), .int .i64 (s64 (natU ((v1 X).R))), .int .i64 (s64 (natU ((v2 X).R))), .string (textS ((v3 X).R)), .slice none 0 0], .int .i64 40] Tryz.func131 Tryz.results131 ⟨(res_cellN rfl ag_119 (H35.blk_at (i := 1) rfl) (nbl rfl) rfl), rfl, trivial⟩ ?_
       have H36 : St W w34 (_ :: (F.set i emp)) := (((H35.move 2 rfl).drop 1 rfl).drop 1 rfl)
       exact .inr ⟨en7, _, _, _, _, _, _, _, _, by rw [e7]; rfl, St.back hi H36⟩
      have h6 : v6 X = v5 X := if_neg (show ¬ 8 < vn X by show ¬ 8 < (stB 4 (v4 X)).1; rw [q5]; show ¬ 8 < srcU (v4 X).R 4; omega)
      have e6 : (v6 X).e = 0 := by rw [h6]; exact e5
      refine rc (s_gtr false rfl rfl (dfalse hc33) rfl (r_nil (g_false rfl (g_skip (g_seq (g_seq (g_region (Ag (.int .u64 0) (r_nil (g_block ?_))))))))))
      have H37 : St W w29 (blk bk4 (.cells #[.int .i64 (srcU X.R 4 : Int), .int .i64 (s64 (natU ((v1 X).R))), .int .i64 (s64 (natU ((v2 X).R))), .string (textS ((v3 X).R)), .slice none 0 0] 119 (0, 0)) :: blk bk1 (.cells #[.int .i64 0, .int .i64 0, .int .i64 0, .string ByteArray.empty, .slice none 0 0] 119 (0, 0)) :: RSrc b ((v6 X).R) :: (F.set i emp)) := by rw [h6]; exact H32
      have H38 := Row.nil_intro H37 147 4
      have H39 : St W w29 (_ :: _ :: _ :: _ :: (F.set i emp)) := ((((H38.move 2 rfl).move 2 rfl).move 3 rfl).move 3 rfl)
      refine g_loop_inv (fun (x_ : Nat × (Option Addr) × Nat) => match x_ with | (j, qa, ca) => [(0, .pointer (some ⟨b, 0, none⟩)), (2, .pointer (some ⟨bk1, 0, none⟩)), (3, .int .i64 0), (4, .pointer (some ⟨bk4, 0, none⟩)), (9, .int .u64 (srcU ((v4 X).R) 4 : Int)), (10, .int .u64 (j : Int))]) (fun (x_ : Nat × (Option Addr) × Nat) w => match x_ with | (j, qa, ca) => (j ≤ srcU (v4 X).R 4) ∧ ((ats j (v6 X)).2.e = 0) ∧ St W w (Row 147 4 (.slice qa ((ats j (v6 X)).1.length) ca) ((ats j (v6 X)).1.length) (((ats j (v6 X)).1).flatMap attrCell) :: RSrc b ((ats j (v6 X)).2.R) :: blk bk4 (.cells #[.int .i64 (srcU X.R 4 : Int), .int .i64 (s64 (natU ((v1 X).R))), .int .i64 (s64 (natU ((v2 X).R))), .string (textS ((v3 X).R)), .slice qa ((ats j (v6 X)).1.length) ca] 119 (0, 0)) :: blk bk1 (.cells #[.int .i64 0, .int .i64 0, .int .i64 0, .string ByteArray.empty, .slice none 0 0] 119 (0, 0)) :: (F.set i emp))) (fun (x_ : Nat × (Option Addr) × Nat) => match x_ with | (j, qa, ca) => srcU (v4 X).R 4 - j) (0, none, 0) ?_ ?_ ?_
      ·exact t2
      ·exact ⟨t0, e6, H39⟩
      rintro ⟨j, qa, ca⟩ ρ40 w41 ⟨hjn, hej, H42⟩ nx43
      change Ends _ _ (upds ρ40 [(0, .pointer (some ⟨b, 0, none⟩)), (2, .pointer (some ⟨bk1, 0, none⟩)), (3, .int .i64 0), (4, .pointer (some ⟨bk4, 0, none⟩)), (9, .int .u64 (srcU ((v4 X).R) 4 : Int)), (10, .int .u64 (j : Int))]) w41
      have hln := ats_le (X := v6 X) j
      have hvn : srcU (v4 X).R 4 < 16 := srcU_lt_pow (k := 4)
      have hlj : (ats j (v6 X)).2.R.length ≤ 1125899906842624 := Nat.le_trans (ats_len2 j) (Nat.le_trans v6_len hRl)
      obtain ⟨c1, c2, c3, c4⟩ := stA_cells hlj
      have c0 : (stT (ats j (v6 X)).2).1 = textS (ats j (v6 X)).2.R := by rw [stT_yes hej]
      have hlt : (stT (ats j (v6 X)).2).2.R.length ≤ 1125899906842624 := Nat.le_trans stT_len hlj
      refine g_seq (g_seq (g_region (Mv (.int .u64 (j : Int)) (Mv (.int .u64 (srcU ((v4 X).R) 4 : Int)) ?_))))
      by_cases hc44 : (j : Int) < (srcU ((v4 X).R) 4 : Int)
      ·refine rc (s_lss true rfl rfl (dtrue hc44) rfl (r_nil (g_true rfl (g_skip (g_seq (g_block (g_seq (g_region (rc (s_alloc H42 147 ze_147 rfl (fun bk45 w46 H47 => r_nil (g_seq (g_region (Mv (.pointer (some ⟨b, 0, none⟩)) (rc (s_call [.pointer (some ⟨b, 0, none⟩)] pl_118 rfl rfl (RSrc_Text b ((ats j (v6 X)).2.R)  t33 (i := 2) rfl H47) ?_))))))))))))))))
       rintro _ w48 ⟨rfl, H49⟩
       refine Mv (.tuple #[.string (textS ((ats j (v6 X)).2.R)), .int .i64 (textE ((ats j (v6 X)).2.R))]) (Ex (.string (textS ((ats j (v6 X)).2.R))) (Ex (.int .i64 (textE ((ats j (v6 X)).2.R))) (Fa 0 fi_147_0 rfl (rc (s_store H49 0 (.string (textS ((ats j (v6 X)).2.R))) rfl rfl rfl sz_9 rfl (nbl rfl) rfl (cs' := #[.string (textS ((ats j (v6 X)).2.R)), .int .i64 0, .int .i64 0, .string ByteArray.empty]) rfl (fun w50 H51 => Ag (.int .i64 (textE ((ats j (v6 X)).2.R))) (r_nil (g_seq (g_seq (g_region (Mv (.int .i64 (textE ((ats j (v6 X)).2.R))) ?_)))))))))))
       by_cases hc52 : textE ((ats j (v6 X)).2.R) = 0
       ·have qaa : stT (ats j (v6 X)).2 = (textS (ats j (v6 X)).2.R, ⟨textE (ats j (v6 X)).2.R, (ats j (v6 X)).2.R.drop (textN (ats j (v6 X)).2.R)⟩) := stT_yes hej
        have eaa : (stT (ats j (v6 X)).2).2.e = 0 := by show (stT (ats j (v6 X)).2).2.e = 0; rw [qaa]; exact hc52
        have raa : (stT (ats j (v6 X)).2).2.R = (ats j (v6 X)).2.R.drop (textN (ats j (v6 X)).2.R) := by show (stT (ats j (v6 X)).2).2.R = _; rw [qaa]
        have H53 : St W w50 (blk bk45 (.cells #[.string (textS ((ats j (v6 X)).2.R)), .int .i64 0, .int .i64 0, .string ByteArray.empty] 147 (0, 0)) :: Row 147 4 (.slice qa ((ats j (v6 X)).1.length) ca) ((ats j (v6 X)).1.length) (((ats j (v6 X)).1).flatMap attrCell) :: RSrc b ((stT (ats j (v6 X)).2).2.R) :: blk bk4 (.cells #[.int .i64 (srcU X.R 4 : Int), .int .i64 (s64 (natU ((v1 X).R))), .int .i64 (s64 (natU ((v2 X).R))), .string (textS ((v3 X).R)), .slice qa ((ats j (v6 X)).1.length) ca] 119 (0, 0)) :: blk bk1 (.cells #[.int .i64 0, .int .i64 0, .int .i64 0, .string ByteArray.empty, .slice none 0 0] 119 (0, 0)) :: (F.set i emp)) := by rw [raa]; exact H51
        refine rc (s_neq false rfl rfl (ntrue hc52) rfl (r_nil (g_false rfl (g_skip (g_seq (g_region (Mv (.pointer (some ⟨b, 0, none⟩)) (rc (s_call [.pointer (some ⟨b, 0, none⟩)] pl_133 rfl rfl (ref04_value b ((stT (ats j (v6 X)).2).2) eaa (by first | assumption | omega) (i := 2) rfl H53) ?_)))))))))
        rintro _ w60 (⟨he54, rfl, H55⟩ | ⟨he54, sx56, sx57, sx58, RR59, rfl, H55⟩)
        ·refine Mv (.tuple #[.agg #[.int .i64 ((stV ((stT (ats j (v6 X)).2).2)).1.1), .int .i64 ((stV ((stT (ats j (v6 X)).2).2)).1.2.1), .string ((stV ((stT (ats j (v6 X)).2).2)).1.2.2)], .int .i64 0]) (Ex (.agg #[.int .i64 ((stV ((stT (ats j (v6 X)).2).2)).1.1), .int .i64 ((stV ((stT (ats j (v6 X)).2).2)).1.2.1), .string ((stV ((stT (ats j (v6 X)).2).2)).1.2.2)]) (Ex (.int .i64 0) (Fa 1 fi_147_1 rfl (Sa H55 0 rfl #[.int .i64 ((stV ((stT (ats j (v6 X)).2).2)).1.1), .int .i64 ((stV ((stT (ats j (v6 X)).2).2)).1.2.1), .string ((stV ((stT (ats j (v6 X)).2).2)).1.2.2)] 3 sz_145 #[.string (textS ((ats j (v6 X)).2.R)), .int .i64 ((stV ((stT (ats j (v6 X)).2).2)).1.1), .int .i64 ((stV ((stT (ats j (v6 X)).2).2)).1.2.1), .string ((stV ((stT (ats j (v6 X)).2).2)).1.2.2)] (fun w61 H62 => Ag (.int .i64 0) (r_nil (g_seq (g_seq (g_region (Mv (.int .i64 0) (rc (s_neq false rfl rfl (ntrue t10) rfl (r_nil (g_false rfl (g_skip (g_region (Fa 4 fi_119_3 rfl (Lo (.slice qa ((ats j (v6 X)).1.length) ca) ag_117 H62 3 (La [.string (textS ((ats j (v6 X)).2.R)), .int .i64 ((stV ((stT (ats j (v6 X)).2).2)).1.1), .int .i64 ((stV ((stT (ats j (v6 X)).2).2)).1.2.1), .string ((stV ((stT (ats j (v6 X)).2).2)).1.2.2)] 4 ag_147 H62 0 (rc (s_buildSlice H62 4 1 (cs := #[.string (textS ((ats j (v6 X)).2.R)), .int .i64 ((stV ((stT (ats j (v6 X)).2).2)).1.1), .int .i64 ((stV ((stT (ats j (v6 X)).2).2)).1.2.1), .string ((stV ((stT (ats j (v6 X)).2).2)).1.2.2)]) #[.string ByteArray.empty, .int .i64 0, .int .i64 0, .string ByteArray.empty] el_117 ze_147 t10 t10 t7 rfl (fun bk63 w64 H65 => rc (s_append H65 2 rfl rfl rfl (rd_blk (H65.blk_at (i := 0) rfl) rfl (nbl rfl) t26) ap_117 t10 t15 t0 (n' := (ats j (v6 X)).1.length + 1) (xs' := ((ats j (v6 X)).1 ++ [(stA (ats j (v6 X)).2).1]).flatMap attrCell) t0 (by rw [List.flatMap_append, ← c0, ← c1, ← c2, ← c3, ← c4]; rfl) rfl ?_))))))))))))))))))))))); intro vv66 w67 H68 hn69
         obtain ⟨pp70, cc71, rfl⟩ := Row.slice H68 (i := 2) rfl
         refine Fa 4 fi_119_3 rfl (rc (s_store H68 4 (.slice pp70 ((ats j (v6 X)).1.length + 1) cc71) rfl rfl rfl sz_117 rfl (nbl rfl) rfl (cs' := #[.int .i64 (srcU X.R 4 : Int), .int .i64 (s64 (natU ((v1 X).R))), .int .i64 (s64 (natU ((v2 X).R))), .string (textS ((v3 X).R)), .slice pp70 ((ats j (v6 X)).1.length + 1) cc71]) rfl (fun w72 H73 => r_nil (g_inBlock (g_region (Mv (.int .u64 (j : Int)) (rc (s_add ((j : Int) + 1) rfl rfl (wu64 t0) rfl (Ag (.int .u64 ((j : Int) + 1)) (r_nil ?_))))))))))
         have H74 : St W w72 (_ :: _ :: _ :: _ :: (F.set i emp)) := ((((((H73.move 5 rfl).move 5 rfl).move 5 rfl).move 5 rfl).drop 4 rfl).drop 4 rfl)
         have H75 : St W w72 (Row 147 4 (.slice pp70 ((ats (j + 1) (v6 X)).1.length) cc71) ((ats (j + 1) (v6 X)).1.length) (((ats (j + 1) (v6 X)).1).flatMap attrCell) :: RSrc b ((ats (j + 1) (v6 X)).2.R) :: blk bk4 (.cells #[.int .i64 (srcU X.R 4 : Int), .int .i64 (s64 (natU ((v1 X).R))), .int .i64 (s64 (natU ((v2 X).R))), .string (textS ((v3 X).R)), .slice pp70 ((ats (j + 1) (v6 X)).1.length) cc71] 119 (0, 0)) :: blk bk1 (.cells #[.int .i64 0, .int .i64 0, .int .i64 0, .string ByteArray.empty, .slice none 0 0] 119 (0, 0)) :: (F.set i emp)) := by rw [ats_yes hej, List.length_append]; exact H74
         exact nx43 (j + 1, pp70, cc71) _ _ ⟨t0, (by rw [ats_yes hej]; exact he54), H75⟩ t9 t2
        have ea : (ats (j + 1) (v6 X)).2.e = (stV ((stT (ats j (v6 X)).2).2)).2.e := by rw [ats_yes hej]; rfl
        have e7 : (v7 X).e = (stV ((stT (ats j (v6 X)).2).2)).2.e := (v7_at (j := j + 1) (by show j + 1 ≤ (stB 4 (v4 X)).1; rw [q5]; show j + 1 ≤ srcU (v4 X).R 4; omega) (by rw [ea]; exact he54)).trans ea
        have en7 : ¬ (v7 X).e = 0 := by rw [e7]; exact he54
        refine Mv (.tuple #[.agg #[.int .i64 sx56, .int .i64 sx57, .string sx58], .int .i64 ((stV ((stT (ats j (v6 X)).2).2)).2.e)]) (Ex (.agg #[.int .i64 sx56, .int .i64 sx57, .string sx58]) (Ex (.int .i64 ((stV ((stT (ats j (v6 X)).2).2)).2.e)) (Fa 1 fi_147_1 rfl (Sa H55 0 rfl #[.int .i64 sx56, .int .i64 sx57, .string sx58] 3 sz_145 #[.string (textS ((ats j (v6 X)).2.R)), .int .i64 sx56, .int .i64 sx57, .string sx58] (fun w76 H77 => Ag (.int .i64 ((stV ((stT (ats j (v6 X)).2).2)).2.e)) (r_nil (g_seq (g_seq (g_region (Mv (.int .i64 ((stV ((stT (ats j (v6 X)).2).2)).2.e)) (rc (s_neq true rfl rfl (nfalse t0) rfl (r_nil (g_true rfl (g_seq (g_region (La [.int .i64 (srcU X.R 4 : Int), .int .i64 (s64 (natU ((v1 X).R))), .int .i64 (s64 (natU ((v2 X).R))), .string (textS ((v3 X).R)), .slice qa ((ats j (v6 X)).1.length) ca] 5 ag_119 H77 3 (Mv (.int .i64 ((stV ((stT (ats j (v6 X)).2).2)).2.e)) (Sa H77 4 rfl #[.int .i64 (srcU X.R 4 : Int), .int .i64 (s64 (natU ((v1 X).R))), .int .i64 (s64 (natU ((v2 X).R))), .string (textS ((v3 X).R)), .slice qa ((ats j (v6 X)).1.length) ca] 5 sz_119 #[.int .i64 (srcU X.R 4 : Int), .int .i64 (s64 (natU ((v1 X).R))), .int .i64 (s64 (natU ((v2 X).R))), .string (textS ((v3 X).R)), .slice qa ((ats j (v6 X)).1.length) ca] (fun w78 H79 => Ag (.int .i64 ((stV ((stT (ats j (v6 X)).2).2)).2.e)) (r_nil ?_)))))))))))))))))))))
        refine g_ret' [.agg #[.int .i64 (srcU X.R 4 : Int), .int .i64 (s64 (natU ((v1 X).R))), .int .i64 (s64 (natU ((v2 X).R))), .string (textS ((v3 X).R)), .slice qa ((ats j (v6 X)).1.length) ca], .int .i64 ((stV ((stT (ats j (v6 X)).2).2)).2.e)] Tryz.func131 Tryz.results131 ⟨(res_cellN rfl ag_119 (H79.blk_at (i := 4) rfl) (nbl rfl) rfl), rfl, trivial⟩ ?_
        have H80 : St W w78 (_ :: (F.set i emp)) := (((((H79.move 2 rfl).drop 1 rfl).drop 1 rfl).drop 1 rfl).drop 1 rfl)
        exact .inr ⟨en7, _, _, _, _, _, _, _, _, by rw [e7]; rfl, St.back hi H80⟩
       have ee : (stT (ats j (v6 X)).2).2.e = textE (ats j (v6 X)).2.R := by show (stT (ats j (v6 X)).2).2.e = _; rw [stT_yes hej]
       have en : ¬ (stT (ats j (v6 X)).2).2.e = 0 := by rw [ee]; exact hc52
       have ea : (ats (j + 1) (v6 X)).2.e = textE (ats j (v6 X)).2.R := by rw [ats_yes hej]; exact (stA_stop en).trans ee
       have e7 : (v7 X).e = textE (ats j (v6 X)).2.R := (v7_at (j := j + 1) (by show j + 1 ≤ (stB 4 (v4 X)).1; rw [q5]; show j + 1 ≤ srcU (v4 X).R 4; omega) (by rw [ea]; exact hc52)).trans ea
       have en7 : ¬ (v7 X).e = 0 := by rw [e7]; exact hc52
       refine rc (s_neq true rfl rfl (nfalse hc52) rfl (r_nil (g_true rfl (g_seq (g_region (La [.int .i64 (srcU X.R 4 : Int), .int .i64 (s64 (natU ((v1 X).R))), .int .i64 (s64 (natU ((v2 X).R))), .string (textS ((v3 X).R)), .slice qa ((ats j (v6 X)).1.length) ca] 5 ag_119 H51 3 (Mv (.int .i64 (textE ((ats j (v6 X)).2.R))) (Sa H51 4 rfl #[.int .i64 (srcU X.R 4 : Int), .int .i64 (s64 (natU ((v1 X).R))), .int .i64 (s64 (natU ((v2 X).R))), .string (textS ((v3 X).R)), .slice qa ((ats j (v6 X)).1.length) ca] 5 sz_119 #[.int .i64 (srcU X.R 4 : Int), .int .i64 (s64 (natU ((v1 X).R))), .int .i64 (s64 (natU ((v2 X).R))), .string (textS ((v3 X).R)), .slice qa ((ats j (v6 X)).1.length) ca] (fun w81 H82 => Ag (.int .i64 (textE ((ats j (v6 X)).2.R))) (r_nil ?_))))))))))
       refine g_ret' [.agg #[.int .i64 (srcU X.R 4 : Int), .int .i64 (s64 (natU ((v1 X).R))), .int .i64 (s64 (natU ((v2 X).R))), .string (textS ((v3 X).R)), .slice qa ((ats j (v6 X)).1.length) ca], .int .i64 (textE ((ats j (v6 X)).2.R))] Tryz.func131 Tryz.results131 ⟨(res_cellN rfl ag_119 (H82.blk_at (i := 4) rfl) (nbl rfl) rfl), rfl, trivial⟩ ?_
       have H83 : St W w81 (_ :: (F.set i emp)) := (((((H82.move 2 rfl).drop 1 rfl).drop 1 rfl).drop 1 rfl).drop 1 rfl)
       exact .inr ⟨en7, _, _, _, _, _, _, _, _, by rw [e7]; rfl, St.back hi H83⟩
      refine rc (s_lss false rfl rfl (dfalse hc44) rfl (r_nil (g_false rfl (g_exit t40 (g_seq (g_region ?_))))))
      have hvj : j = vn X := by show j = (stB 4 (v4 X)).1; rw [q5]; show j = srcU (v4 X).R 4; omega
      have hL : ats j (v6 X) = ats (vn X) (v6 X) := by rw [← hvj]
      have hat : (evS s64 X).attrs = (ats j (v6 X)).1 := by rw [hL]; rfl
      have H84 : St W w41 (Row 147 4 (.slice qa ((evS s64 X).attrs.length) ca) ((evS s64 X).attrs.length) (((evS s64 X).attrs).flatMap attrCell) :: RSrc b ((ats j (v6 X)).2.R) :: blk bk4 (.cells #[.int .i64 ((evS s64 X).src.v), .int .i64 ((evS s64 X).seq.v), .int .i64 ((evS s64 X).time.v), .string ((evS s64 X).typ.v), .slice qa ((evS s64 X).attrs.length) ca] 119 (0, 0)) :: blk bk1 (.cells #[.int .i64 0, .int .i64 0, .int .i64 0, .string ByteArray.empty, .slice none 0 0] 119 (0, 0)) :: (F.set i emp)) := by rw [evS_src, evS_seq s64_ok, evS_time s64_ok, evS_typ hRl, hat, q1, q2, q3, q4]; exact H42
      have H85 : St W w41 (Attrs (.slice qa ((evS s64 X).attrs.length) ca) ((evS s64 X).attrs) :: RSrc b ((ats j (v6 X)).2.R) :: blk bk4 (.cells #[.int .i64 ((evS s64 X).src.v), .int .i64 ((evS s64 X).seq.v), .int .i64 ((evS s64 X).time.v), .string ((evS s64 X).typ.v), .slice qa ((evS s64 X).attrs.length) ca] 119 (0, 0)) :: blk bk1 (.cells #[.int .i64 0, .int .i64 0, .int .i64 0, .string ByteArray.empty, .slice none 0 0] 119 (0, 0)) :: (F.set i emp)) := Row.im H84 (i := 0) rfl
      have hr7 : (v7 X).R = (ats j (v6 X)).2.R := by show (ats (vn X) (v6 X)).2.R = _; rw [← hL]
      have H86 : St W w41 (Attrs (.slice qa ((evS s64 X).attrs.length) ca) ((evS s64 X).attrs) :: RSrc b ((v7 X).R) :: blk bk4 (.cells #[.int .i64 ((evS s64 X).src.v), .int .i64 ((evS s64 X).seq.v), .int .i64 ((evS s64 X).time.v), .string ((evS s64 X).typ.v), .slice qa ((evS s64 X).attrs.length) ca] 119 (0, 0)) :: blk bk1 (.cells #[.int .i64 0, .int .i64 0, .int .i64 0, .string ByteArray.empty, .slice none 0 0] 119 (0, 0)) :: (F.set i emp)) := by rw [hr7]; exact H85
      have h70 : (v7 X).e = 0 := by show (ats (vn X) (v6 X)).2.e = 0; rw [← hL]; exact hej
      refine La [.int .i64 ((evS s64 X).src.v), .int .i64 ((evS s64 X).seq.v), .int .i64 ((evS s64 X).time.v), .string ((evS s64 X).typ.v), .slice qa ((evS s64 X).attrs.length) ca] 5 ag_119 H86 2 (Sa H86 3 rfl #[.int .i64 ((evS s64 X).src.v), .int .i64 ((evS s64 X).seq.v), .int .i64 ((evS s64 X).time.v), .string ((evS s64 X).typ.v), .slice qa ((evS s64 X).attrs.length) ca] 5 sz_119 #[.int .i64 ((evS s64 X).src.v), .int .i64 ((evS s64 X).seq.v), .int .i64 ((evS s64 X).time.v), .string ((evS s64 X).typ.v), .slice qa ((evS s64 X).attrs.length) ca] (fun w87 H88 => Ag (.int .i64 0) (r_nil ?_)))
      refine g_ret' [.agg #[.int .i64 ((evS s64 X).src.v), .int .i64 ((evS s64 X).seq.v), .int .i64 ((evS s64 X).time.v), .string ((evS s64 X).typ.v), .slice qa ((evS s64 X).attrs.length) ca], .int .i64 0] Tryz.func131 Tryz.results131 ⟨(res_cellN rfl ag_119 (H88.blk_at (i := 3) rfl) (nbl rfl) rfl), rfl, trivial⟩ ?_
      have H89 : St W w87 (_ :: _ :: (F.set i emp)) := (((H88.move 1 rfl).drop 2 rfl).drop 2 rfl)
      have H90 : St W w87 (_ :: (Attrs (.slice qa ((evS s64 X).attrs.length) ca) ((evS s64 X).attrs) :: F).set (i + 1) emp) := H89
      exact .inl ⟨h70, _, _, rfl, St.back (i := i + 1) t44 H90⟩
     have ee : (v5 X).e = srcE (v4 X).R 4 := by show (stB 4 (v4 X)).2.e = _; rw [stB_yes e4]
     have en : ¬ (v5 X).e = 0 := by rw [ee]; exact hc31
     have e7 : (v7 X).e = srcE (v4 X).R 4 := (v7_5 en).trans ee
     have en7 : ¬ (v7 X).e = 0 := by rw [e7]; exact hc31
     refine rc (s_neq true rfl rfl (nfalse hc31) rfl (r_nil (g_true rfl (g_seq (g_region (La [.int .i64 (srcU X.R 4 : Int), .int .i64 (s64 (natU ((v1 X).R))), .int .i64 (s64 (natU ((v2 X).R))), .string (textS ((v3 X).R)), .slice none 0 0] 5 ag_119 H30 0 (Mv (.int .i64 (srcE ((v4 X).R) 4)) (Sa H30 1 rfl #[.int .i64 (srcU X.R 4 : Int), .int .i64 (s64 (natU ((v1 X).R))), .int .i64 (s64 (natU ((v2 X).R))), .string (textS ((v3 X).R)), .slice none 0 0] 5 sz_119 #[.int .i64 (srcU X.R 4 : Int), .int .i64 (s64 (natU ((v1 X).R))), .int .i64 (s64 (natU ((v2 X).R))), .string (textS ((v3 X).R)), .slice none 0 0] (fun w91 H92 => Ag (.int .i64 (srcE ((v4 X).R) 4)) (r_nil ?_))))))))))
     refine g_ret' [.agg #[.int .i64 (srcU X.R 4 : Int), .int .i64 (s64 (natU ((v1 X).R))), .int .i64 (s64 (natU ((v2 X).R))), .string (textS ((v3 X).R)), .slice none 0 0], .int .i64 (srcE ((v4 X).R) 4)] Tryz.func131 Tryz.results131 ⟨(res_cellN rfl ag_119 (H92.blk_at (i := 1) rfl) (nbl rfl) rfl), rfl, trivial⟩ ?_
     have H93 : St W w91 (_ :: (F.set i emp)) := (((H92.move 2 rfl).drop 1 rfl).drop 1 rfl)
     exact .inr ⟨en7, _, _, _, _, _, _, _, _, by rw [e7]; rfl, St.back hi H93⟩
    have ee : (v4 X).e = textE (v3 X).R := by show (stT (v3 X)).2.e = _; rw [stT_yes e3]
    have en : ¬ (v4 X).e = 0 := by rw [ee]; exact hc27
    have e7 : (v7 X).e = textE (v3 X).R := (v7_4 en).trans ee
    have en7 : ¬ (v7 X).e = 0 := by rw [e7]; exact hc27
    refine rc (s_neq true rfl rfl (nfalse hc27) rfl (r_nil (g_true rfl (g_seq (g_region (La [.int .i64 (srcU X.R 4 : Int), .int .i64 (s64 (natU ((v1 X).R))), .int .i64 (s64 (natU ((v2 X).R))), .string (textS ((v3 X).R)), .slice none 0 0] 5 ag_119 H26 0 (Mv (.int .i64 (textE ((v3 X).R))) (Sa H26 1 rfl #[.int .i64 (srcU X.R 4 : Int), .int .i64 (s64 (natU ((v1 X).R))), .int .i64 (s64 (natU ((v2 X).R))), .string (textS ((v3 X).R)), .slice none 0 0] 5 sz_119 #[.int .i64 (srcU X.R 4 : Int), .int .i64 (s64 (natU ((v1 X).R))), .int .i64 (s64 (natU ((v2 X).R))), .string (textS ((v3 X).R)), .slice none 0 0] (fun w94 H95 => Ag (.int .i64 (textE ((v3 X).R))) (r_nil ?_))))))))))
    refine g_ret' [.agg #[.int .i64 (srcU X.R 4 : Int), .int .i64 (s64 (natU ((v1 X).R))), .int .i64 (s64 (natU ((v2 X).R))), .string (textS ((v3 X).R)), .slice none 0 0], .int .i64 (textE ((v3 X).R))] Tryz.func131 Tryz.results131 ⟨(res_cellN rfl ag_119 (H95.blk_at (i := 1) rfl) (nbl rfl) rfl), rfl, trivial⟩ ?_
    have H96 : St W w94 (_ :: (F.set i emp)) := (((H95.move 2 rfl).drop 1 rfl).drop 1 rfl)
    exact .inr ⟨en7, _, _, _, _, _, _, _, _, by rw [e7]; rfl, St.back hi H96⟩
   have ee : (v3 X).e = natE (v2 X).R := by show (stN (v2 X)).2.e = _; rw [stN_yes e2]
   have en : ¬ (v3 X).e = 0 := by rw [ee]; exact hc17
   have e7 : (v7 X).e = natE (v2 X).R := (v7_3 en).trans ee
   have en7 : ¬ (v7 X).e = 0 := by rw [e7]; exact hc17
   refine rc (s_neq true rfl rfl (nfalse hc17) rfl (r_nil (g_true rfl (g_seq (g_region (La [.int .i64 0, .int .i64 0, .int .i64 0, .string ByteArray.empty, .slice none 0 0] 5 ag_119 H16 0 (Mv (.int .i64 (natE ((v2 X).R))) (Sa H16 1 rfl #[.int .i64 0, .int .i64 0, .int .i64 0, .string ByteArray.empty, .slice none 0 0] 5 sz_119 #[.int .i64 0, .int .i64 0, .int .i64 0, .string ByteArray.empty, .slice none 0 0] (fun w97 H98 => Ag (.int .i64 (natE ((v2 X).R))) (r_nil ?_))))))))))
   refine g_ret' [.agg #[.int .i64 0, .int .i64 0, .int .i64 0, .string ByteArray.empty, .slice none 0 0], .int .i64 (natE ((v2 X).R))] Tryz.func131 Tryz.results131 ⟨(res_cellN rfl ag_119 (H98.blk_at (i := 1) rfl) (nbl rfl) rfl), rfl, trivial⟩ ?_
   have H99 : St W w97 (_ :: (F.set i emp)) := (((H98.move 2 rfl).drop 1 rfl).drop 1 rfl)
   exact .inr ⟨en7, _, _, _, _, _, _, _, _, by rw [e7]; rfl, St.back hi H99⟩
  have ee : (v2 X).e = natE (v1 X).R := by show (stN (v1 X)).2.e = _; rw [stN_yes e1]
  have en : ¬ (v2 X).e = 0 := by rw [ee]; exact hc13
  have e7 : (v7 X).e = natE (v1 X).R := (v7_2 en).trans ee
  have en7 : ¬ (v7 X).e = 0 := by rw [e7]; exact hc13
  refine rc (s_neq true rfl rfl (nfalse hc13) rfl (r_nil (g_true rfl (g_seq (g_region (La [.int .i64 0, .int .i64 0, .int .i64 0, .string ByteArray.empty, .slice none 0 0] 5 ag_119 H12 0 (Mv (.int .i64 (natE ((v1 X).R))) (Sa H12 1 rfl #[.int .i64 0, .int .i64 0, .int .i64 0, .string ByteArray.empty, .slice none 0 0] 5 sz_119 #[.int .i64 0, .int .i64 0, .int .i64 0, .string ByteArray.empty, .slice none 0 0] (fun w100 H101 => Ag (.int .i64 (natE ((v1 X).R))) (r_nil ?_))))))))))
  refine g_ret' [.agg #[.int .i64 0, .int .i64 0, .int .i64 0, .string ByteArray.empty, .slice none 0 0], .int .i64 (natE ((v1 X).R))] Tryz.func131 Tryz.results131 ⟨(res_cellN rfl ag_119 (H101.blk_at (i := 1) rfl) (nbl rfl) rfl), rfl, trivial⟩ ?_
  have H102 : St W w100 (_ :: (F.set i emp)) := (((H101.move 2 rfl).drop 1 rfl).drop 1 rfl)
  exact .inr ⟨en7, _, _, _, _, _, _, _, _, by rw [e7]; rfl, St.back hi H102⟩
 have ee : (v1 X).e = srcE X.R 4 := by show (stB 4 X).2.e = _; rw [stB_yes hX]
 have en : ¬ (v1 X).e = 0 := by rw [ee]; exact hc9
 have e7 : (v7 X).e = srcE X.R 4 := (v7_1 en).trans ee
 have en7 : ¬ (v7 X).e = 0 := by rw [e7]; exact hc9
 refine rc (s_neq true rfl rfl (nfalse hc9) rfl (r_nil (g_true rfl (g_seq (g_region (La [.int .i64 0, .int .i64 0, .int .i64 0, .string ByteArray.empty, .slice none 0 0] 5 ag_119 H8 0 (Mv (.int .i64 (srcE X.R 4)) (Sa H8 1 rfl #[.int .i64 0, .int .i64 0, .int .i64 0, .string ByteArray.empty, .slice none 0 0] 5 sz_119 #[.int .i64 0, .int .i64 0, .int .i64 0, .string ByteArray.empty, .slice none 0 0] (fun w103 H104 => Ag (.int .i64 (srcE X.R 4)) (r_nil ?_))))))))))
 refine g_ret' [.agg #[.int .i64 0, .int .i64 0, .int .i64 0, .string ByteArray.empty, .slice none 0 0], .int .i64 (srcE X.R 4)] Tryz.func131 Tryz.results131 ⟨(res_cellN rfl ag_119 (H104.blk_at (i := 1) rfl) (nbl rfl) rfl), rfl, trivial⟩ ?_
 have H105 : St W w103 (_ :: (F.set i emp)) := (((H104.move 2 rfl).drop 1 rfl).drop 1 rfl)
 exact .inr ⟨en7, _, _, _, _, _, _, _, _, by rw [e7]; rfl, St.back hi H105⟩
set_option maxHeartbeats 4000000 in
set_option maxRecDepth 100000 in
theorem ref04_Take {W w : World} {F : List Atom} (b : Nat) (R : List Bool) (hRl : R.length ≤ 1125899906842624) {i : Nat} (hi : F[i]? = some (RSrc b R)) (H : St W w F) : Calls Tryz.prog 119 #[.pointer (some ⟨b, 0, none⟩)] w (Ret fun v w' => ∃ q n c, v = .tuple #[.agg #[.int .i64 ((tkV R).src.v), .int .i64 ((tkV R).seq.v), .int .i64 ((tkV R).time.v), .string ((tkV R).typ.v), .slice q n c], .int .i64 (tkE R)] ∧ n = (tkV R).attrs.length ∧ St W w' (Attrs (.slice q n c) (tkV R).attrs :: F.set i (RSrc b (tkR R)))) := by
 have H0 := H.front hi
 refine calls_of_go (n := 27) Tryz.func119 rfl Tryz.ntmps119 rfl ?_
 refine g_seq (g_region (rc (s_alloc H0 119 ze_119 rfl (fun bk1 w2 H3 => Ag (.int .i64 0) (r_nil (g_seq (g_region (Mv (.pointer (some ⟨b, 0, none⟩)) (Nc (.pointer (some ⟨b, 0, none⟩)) ?_)))))))))
 have H4 := H3.move 1 rfl
 obtain ⟨vv5, H6⟩ := St.open_ex H4
 have H7 := St.open_star H6
 obtain ⟨pp8, cc9, gA10, oA11, kA12, eA13, zA14, rfl, hn15, hp16, hx17, hs18, hml, H19⟩ := Im.open_ H7 (i := 1) rfl
 have H20 : St W w2 (_ :: _ :: _ :: _ :: (F.set i emp)) := H19
 refine La [.slice pp8 R.length cc9] 1 ag_129 H20 1 (rc (s_alloc H20 129 ze_129 rfl (fun bk21 w22 H23 => Sa H23 0 rfl #[.slice pp8 R.length cc9] 1 sz_129 #[.slice pp8 R.length cc9] (fun w24 H25 => r_nil (g_seq (g_region ?_))))))
 have H26 := H25.dup (i := 3) rfl (Im_pers _ _ _ _)
 refine Mv (.pointer (some ⟨b, 0, none⟩)) ?_
 have H27 : St W w24 (_ :: _ :: _ :: _ :: _ :: (F.set i emp)) := ((((((H26.move 5 rfl).move 5 rfl).move 3 rfl).move 3 rfl).move 5 rfl).drop 5 rfl)
 have H28 : St W w24 (RSrc b R :: blk bk21 (.cells #[.slice pp8 R.length cc9] 129 (0, 0)) :: Im 1 (.slice pp8 R.length cc9) R.length (R.flatMap blc) :: blk bk1 (.cells #[.int .i64 0, .int .i64 0, .int .i64 0, .string ByteArray.empty, .slice none 0 0] 119 (0, 0)) :: (F.set i emp)) := St.shut_ex (.slice pp8 R.length cc9) (St.shut_star (ls := [blk b (.cells #[.slice pp8 R.length cc9] 129 (0, 0)), Im 1 (.slice pp8 R.length cc9) R.length (R.flatMap blc)]) H27)
 refine rc (s_call [.pointer (some ⟨b, 0, none⟩)] pl_131 rfl rfl (ref04_take b (⟨0, R⟩ : RX) rfl (by first | assumption | omega) (i := 0) rfl H28) ?_)
 rintro _ w39 (⟨he29, pp31, cc32, rfl, H30⟩ | ⟨he29, sx35, sx36, sx37, sx38, pp31, NN33, cc32, RR34, rfl, H30⟩)
 ·refine Mv (.tuple #[.agg #[.int .i64 ((evS s64 (⟨0, R⟩ : RX)).src.v), .int .i64 ((evS s64 (⟨0, R⟩ : RX)).seq.v), .int .i64 ((evS s64 (⟨0, R⟩ : RX)).time.v), .string ((evS s64 (⟨0, R⟩ : RX)).typ.v), .slice pp31 ((evS s64 (⟨0, R⟩ : RX)).attrs.length) cc32], .int .i64 0]) (Ex (.agg #[.int .i64 ((evS s64 (⟨0, R⟩ : RX)).src.v), .int .i64 ((evS s64 (⟨0, R⟩ : RX)).seq.v), .int .i64 ((evS s64 (⟨0, R⟩ : RX)).time.v), .string ((evS s64 (⟨0, R⟩ : RX)).typ.v), .slice pp31 ((evS s64 (⟨0, R⟩ : RX)).attrs.length) cc32]) (Ex (.int .i64 0) (rc (s_alloc H30 119 ze_119 rfl (fun bk40 w41 H42 => Sa H42 0 rfl #[.int .i64 ((evS s64 (⟨0, R⟩ : RX)).src.v), .int .i64 ((evS s64 (⟨0, R⟩ : RX)).seq.v), .int .i64 ((evS s64 (⟨0, R⟩ : RX)).time.v), .string ((evS s64 (⟨0, R⟩ : RX)).typ.v), .slice pp31 ((evS s64 (⟨0, R⟩ : RX)).attrs.length) cc32] 5 sz_119 #[.int .i64 ((evS s64 (⟨0, R⟩ : RX)).src.v), .int .i64 ((evS s64 (⟨0, R⟩ : RX)).seq.v), .int .i64 ((evS s64 (⟨0, R⟩ : RX)).time.v), .string ((evS s64 (⟨0, R⟩ : RX)).typ.v), .slice pp31 ((evS s64 (⟨0, R⟩ : RX)).attrs.length) cc32] (fun w43 H44 => Ag (.int .i64 0) (r_nil (g_seq (g_seq (g_region (Mv (.int .i64 0) (rc (s_eql true rfl rfl (dtrue t10) rfl (r_nil (g_true rfl (g_region (La [.int .i64 ((evS s64 (⟨0, R⟩ : RX)).src.v), .int .i64 ((evS s64 (⟨0, R⟩ : RX)).seq.v), .int .i64 ((evS s64 (⟨0, R⟩ : RX)).time.v), .string ((evS s64 (⟨0, R⟩ : RX)).typ.v), .slice pp31 ((evS s64 (⟨0, R⟩ : RX)).attrs.length) cc32] 5 ag_119 H44 0 (rc (s_call [.agg #[.int .i64 ((evS s64 (⟨0, R⟩ : RX)).src.v), .int .i64 ((evS s64 (⟨0, R⟩ : RX)).seq.v), .int .i64 ((evS s64 (⟨0, R⟩ : RX)).time.v), .string ((evS s64 (⟨0, R⟩ : RX)).typ.v), .slice pp31 ((evS s64 (⟨0, R⟩ : RX)).attrs.length) cc32]] pl_86 rfl rfl (ref04_Check (evS s64 (⟨0, R⟩ : RX)) (.slice pp31 ((evS s64 (⟨0, R⟩ : RX)).attrs.length) cc32) (j := 1) rfl H44) ?_)))))))))))))))))))
  rintro _ w45 ⟨rfl, H46⟩
  refine Ag (.int .i64 (evE (evS s64 (⟨0, R⟩ : RX)))) (r_nil (g_seq (g_seq (g_region (Mv (.int .i64 (evE (evS s64 (⟨0, R⟩ : RX)))) ?_)))))
  by_cases hc47 : evE (evS s64 (⟨0, R⟩ : RX)) = 0
  ·refine rc (s_neq false rfl rfl (ntrue hc47) rfl (r_nil (g_false rfl (g_skip (g_seq (g_region (La [.int .i64 ((evS s64 (⟨0, R⟩ : RX)).src.v), .int .i64 ((evS s64 (⟨0, R⟩ : RX)).seq.v), .int .i64 ((evS s64 (⟨0, R⟩ : RX)).time.v), .string ((evS s64 (⟨0, R⟩ : RX)).typ.v), .slice pp31 ((evS s64 (⟨0, R⟩ : RX)).attrs.length) cc32] 5 ag_119 H46 0 (Sa H46 5 rfl #[.int .i64 ((evS s64 (⟨0, R⟩ : RX)).src.v), .int .i64 ((evS s64 (⟨0, R⟩ : RX)).seq.v), .int .i64 ((evS s64 (⟨0, R⟩ : RX)).time.v), .string ((evS s64 (⟨0, R⟩ : RX)).typ.v), .slice pp31 ((evS s64 (⟨0, R⟩ : RX)).attrs.length) cc32] 5 sz_119 #[.int .i64 ((evS s64 (⟨0, R⟩ : RX)).src.v), .int .i64 ((evS s64 (⟨0, R⟩ : RX)).seq.v), .int .i64 ((evS s64 (⟨0, R⟩ : RX)).time.v), .string ((evS s64 (⟨0, R⟩ : RX)).typ.v), .slice pp31 ((evS s64 (⟨0, R⟩ : RX)).attrs.length) cc32] (fun w48 H49 => Ag (.int .i64 0) (r_nil ?_))))))))))
   refine g_ret' [.agg #[.int .i64 ((evS s64 (⟨0, R⟩ : RX)).src.v), .int .i64 ((evS s64 (⟨0, R⟩ : RX)).seq.v), .int .i64 ((evS s64 (⟨0, R⟩ : RX)).time.v), .string ((evS s64 (⟨0, R⟩ : RX)).typ.v), .slice pp31 ((evS s64 (⟨0, R⟩ : RX)).attrs.length) cc32], .int .i64 0] Tryz.func119 Tryz.results119 ⟨(res_cellN rfl ag_119 (H49.blk_at (i := 5) rfl) (nbl rfl) rfl), rfl, trivial⟩ ?_
   have hE : tkE R = evE (evS s64 (⟨0, R⟩ : RX)) := (evC_same (X := (⟨0, R⟩ : RX))).1.trans (evC_yes he29)
   have h0 : tkE R = 0 := by rw [hE]; exact hc47
   have hV : tkV R = evS s64 (⟨0, R⟩ : RX) := (tkV_yes h0).trans ((evC_same (X := (⟨0, R⟩ : RX))).2 h0)
   have H50 : St W w48 (_ :: _ :: (F.set i emp)) := ((((((H49.move 1 rfl).move 2 rfl).drop 2 rfl).drop 2 rfl).drop 2 rfl).drop 2 rfl)
   have H51 : St W w48 (_ :: (Attrs (.slice pp31 ((evS s64 (⟨0, R⟩ : RX)).attrs.length) cc32) ((evS s64 (⟨0, R⟩ : RX)).attrs) :: F).set (i + 1) emp) := H50
   exact ⟨_, _, _, by rw [h0, hV]; rfl, by rw [hV], by rw [hV, tkR_yes h0]; exact St.back (i := i + 1) t44 H51⟩
  refine rc (s_neq true rfl rfl (nfalse hc47) rfl (r_nil (g_true rfl (g_seq (g_region (Mv (.pointer (some ⟨b, 0, none⟩)) (La [.slice pp8 R.length cc9] 1 ag_129 H46 3 (Nc (.pointer (some ⟨b, 0, none⟩)) ?_))))))))
  have H52 := H46.move 2 rfl
  obtain ⟨vv53, H54⟩ := St.open_ex H52
  have H55 := St.open_star H54
  obtain ⟨pp56, cc57, gA58, oA59, kA60, eA61, zA62, rfl, hn63, hp64, hx65, hs66, hml, H67⟩ := Im.open_ H55 (i := 1) rfl
  have H68 : St W w45 (_ :: _ :: _ :: _ :: _ :: _ :: _ :: _ :: (F.set i emp)) := H67
  refine Sa H68 1 rfl #[.slice pp8 R.length cc9] 1 sz_129 #[.slice pp8 R.length cc9] (fun w69 H70 => r_nil (g_seq (g_region (rc (s_build (cs := #[.int .i64 0, .int .i64 0, .int .i64 0, .string ByteArray.empty, .slice none 0 0]) t7 rfl (Mv (.int .i64 (evE (evS s64 (⟨0, R⟩ : RX)))) (Sa H70 7 rfl #[.int .i64 0, .int .i64 0, .int .i64 0, .string ByteArray.empty, .slice none 0 0] 5 sz_119 #[.int .i64 0, .int .i64 0, .int .i64 0, .string ByteArray.empty, .slice none 0 0] (fun w71 H72 => Ag (.int .i64 (evE (evS s64 (⟨0, R⟩ : RX)))) (r_nil ?_)))))))))
  refine g_ret' [.agg #[.int .i64 0, .int .i64 0, .int .i64 0, .string ByteArray.empty, .slice none 0 0], .int .i64 (evE (evS s64 (⟨0, R⟩ : RX)))] Tryz.func119 Tryz.results119 ⟨(res_cellN rfl ag_119 (H72.blk_at (i := 7) rfl) (nbl rfl) rfl), rfl, trivial⟩ ?_
  have H73 : St W w71 (_ :: _ :: _ :: _ :: _ :: _ :: _ :: (F.set i emp)) := ((((((((H72.move 7 rfl).move 6 rfl).move 6 rfl).move 6 rfl).move 6 rfl).move 7 rfl).move 7 rfl).drop 7 rfl)
  have H74 : St W w71 (RSrc b R :: Im 1 (.slice pp56 (((v7 (⟨0, R⟩ : RX)).R).length) cc57) (((v7 (⟨0, R⟩ : RX)).R).length) (((v7 (⟨0, R⟩ : RX)).R).flatMap blc) :: blk bk40 (.cells #[.int .i64 ((evS s64 (⟨0, R⟩ : RX)).src.v), .int .i64 ((evS s64 (⟨0, R⟩ : RX)).seq.v), .int .i64 ((evS s64 (⟨0, R⟩ : RX)).time.v), .string ((evS s64 (⟨0, R⟩ : RX)).typ.v), .slice pp31 ((evS s64 (⟨0, R⟩ : RX)).attrs.length) cc32] 119 (0, 0)) :: Attrs (.slice pp31 ((evS s64 (⟨0, R⟩ : RX)).attrs.length) cc32) ((evS s64 (⟨0, R⟩ : RX)).attrs) :: blk bk21 (.cells #[.slice pp8 R.length cc9] 129 (0, 0)) :: blk bk1 (.cells #[.int .i64 0, .int .i64 0, .int .i64 0, .string ByteArray.empty, .slice none 0 0] 119 (0, 0)) :: (F.set i emp)) := St.shut_ex (.slice pp8 R.length cc9) (St.shut_star (ls := [blk b (.cells #[.slice pp8 R.length cc9] 129 (0, 0)), Im 1 (.slice pp8 R.length cc9) R.length (R.flatMap blc)]) H73)
  have hE : tkE R = evE (evS s64 (⟨0, R⟩ : RX)) := (evC_same (X := (⟨0, R⟩ : RX))).1.trans (evC_yes he29)
  have h0 : ¬ tkE R = 0 := by rw [hE]; exact hc47
  have H75 : St W w71 (Attrs (.slice none 0 0) [] :: RSrc b R :: Im 1 (.slice pp56 (((v7 (⟨0, R⟩ : RX)).R).length) cc57) (((v7 (⟨0, R⟩ : RX)).R).length) (((v7 (⟨0, R⟩ : RX)).R).flatMap blc) :: blk bk40 (.cells #[.int .i64 ((evS s64 (⟨0, R⟩ : RX)).src.v), .int .i64 ((evS s64 (⟨0, R⟩ : RX)).seq.v), .int .i64 ((evS s64 (⟨0, R⟩ : RX)).time.v), .string ((evS s64 (⟨0, R⟩ : RX)).typ.v), .slice pp31 ((evS s64 (⟨0, R⟩ : RX)).attrs.length) cc32] 119 (0, 0)) :: Attrs (.slice pp31 ((evS s64 (⟨0, R⟩ : RX)).attrs.length) cc32) ((evS s64 (⟨0, R⟩ : RX)).attrs) :: blk bk21 (.cells #[.slice pp8 R.length cc9] 129 (0, 0)) :: blk bk1 (.cells #[.int .i64 0, .int .i64 0, .int .i64 0, .string ByteArray.empty, .slice none 0 0] 119 (0, 0)) :: (F.set i emp)) := Row.im (Row.nil_intro H74 147 4) (i := 0) rfl
  have H76 : St W w71 (_ :: _ :: (F.set i emp)) := ((((((H75.move 1 rfl).drop 2 rfl).drop 2 rfl).drop 2 rfl).drop 2 rfl).drop 2 rfl)
  have H77 : St W w71 (_ :: (Attrs (.slice none 0 0) [] :: F).set (i + 1) emp) := H76
  exact ⟨none, 0, 0, by rw [tkV_no h0, hE]; rfl, by rw [tkV_no h0]; rfl, by rw [tkV_no h0, tkR_no h0]; exact St.back (i := i + 1) t44 H77⟩
 refine Mv (.tuple #[.agg #[.int .i64 sx35, .int .i64 sx36, .int .i64 sx37, .string sx38, .slice pp31 NN33 cc32], .int .i64 ((v7 (⟨0, R⟩ : RX)).e)]) (Ex (.agg #[.int .i64 sx35, .int .i64 sx36, .int .i64 sx37, .string sx38, .slice pp31 NN33 cc32]) (Ex (.int .i64 ((v7 (⟨0, R⟩ : RX)).e)) (rc (s_alloc H30 119 ze_119 rfl (fun bk78 w79 H80 => Sa H80 0 rfl #[.int .i64 sx35, .int .i64 sx36, .int .i64 sx37, .string sx38, .slice pp31 NN33 cc32] 5 sz_119 #[.int .i64 sx35, .int .i64 sx36, .int .i64 sx37, .string sx38, .slice pp31 NN33 cc32] (fun w81 H82 => Ag (.int .i64 ((v7 (⟨0, R⟩ : RX)).e)) (r_nil (g_seq (g_seq (g_region (Mv (.int .i64 ((v7 (⟨0, R⟩ : RX)).e)) (rc (s_eql false rfl rfl (dfalse t0) rfl (r_nil (g_false rfl (g_skip (g_seq (g_seq (g_region (Mv (.int .i64 ((v7 (⟨0, R⟩ : RX)).e)) (rc (s_neq true rfl rfl (nfalse t0) rfl (r_nil (g_true rfl (g_seq (g_region (Mv (.pointer (some ⟨b, 0, none⟩)) (La [.slice pp8 R.length cc9] 1 ag_129 H82 2 (Nc (.pointer (some ⟨b, 0, none⟩)) ?_)))))))))))))))))))))))))))))
 have H83 := H82.move 1 rfl
 obtain ⟨vv84, H85⟩ := St.open_ex H83
 have H86 := St.open_star H85
 obtain ⟨pp87, cc88, gA89, oA90, kA91, eA92, zA93, rfl, hn94, hp95, hx96, hs97, hml, H98⟩ := Im.open_ H86 (i := 1) rfl
 have H99 : St W w81 (_ :: _ :: _ :: _ :: _ :: _ :: _ :: (F.set i emp)) := H98
 refine Sa H99 1 rfl #[.slice pp8 R.length cc9] 1 sz_129 #[.slice pp8 R.length cc9] (fun w100 H101 => r_nil (g_seq (g_region (rc (s_build (cs := #[.int .i64 0, .int .i64 0, .int .i64 0, .string ByteArray.empty, .slice none 0 0]) t7 rfl (Mv (.int .i64 ((v7 (⟨0, R⟩ : RX)).e)) (Sa H101 6 rfl #[.int .i64 0, .int .i64 0, .int .i64 0, .string ByteArray.empty, .slice none 0 0] 5 sz_119 #[.int .i64 0, .int .i64 0, .int .i64 0, .string ByteArray.empty, .slice none 0 0] (fun w102 H103 => Ag (.int .i64 ((v7 (⟨0, R⟩ : RX)).e)) (r_nil ?_)))))))))
 refine g_ret' [.agg #[.int .i64 0, .int .i64 0, .int .i64 0, .string ByteArray.empty, .slice none 0 0], .int .i64 ((v7 (⟨0, R⟩ : RX)).e)] Tryz.func119 Tryz.results119 ⟨(res_cellN rfl ag_119 (H103.blk_at (i := 6) rfl) (nbl rfl) rfl), rfl, trivial⟩ ?_
 have H104 : St W w102 (_ :: _ :: _ :: _ :: _ :: _ :: (F.set i emp)) := (((((((H103.move 6 rfl).move 5 rfl).move 5 rfl).move 5 rfl).move 6 rfl).move 6 rfl).drop 6 rfl)
 have H105 : St W w102 (RSrc b R :: Im 1 (.slice pp87 RR34.length cc88) RR34.length (RR34.flatMap blc) :: blk bk78 (.cells #[.int .i64 sx35, .int .i64 sx36, .int .i64 sx37, .string sx38, .slice pp31 NN33 cc32] 119 (0, 0)) :: blk bk21 (.cells #[.slice pp8 R.length cc9] 129 (0, 0)) :: blk bk1 (.cells #[.int .i64 0, .int .i64 0, .int .i64 0, .string ByteArray.empty, .slice none 0 0] 119 (0, 0)) :: (F.set i emp)) := St.shut_ex (.slice pp8 R.length cc9) (St.shut_star (ls := [blk b (.cells #[.slice pp8 R.length cc9] 129 (0, 0)), Im 1 (.slice pp8 R.length cc9) R.length (R.flatMap blc)]) H104)
 have hE : tkE R = (v7 (⟨0, R⟩ : RX)).e := evC_no he29
 have h0 : ¬ tkE R = 0 := by rw [hE]; exact he29
 have H106 : St W w102 (Attrs (.slice none 0 0) [] :: RSrc b R :: Im 1 (.slice pp87 RR34.length cc88) RR34.length (RR34.flatMap blc) :: blk bk78 (.cells #[.int .i64 sx35, .int .i64 sx36, .int .i64 sx37, .string sx38, .slice pp31 NN33 cc32] 119 (0, 0)) :: blk bk21 (.cells #[.slice pp8 R.length cc9] 129 (0, 0)) :: blk bk1 (.cells #[.int .i64 0, .int .i64 0, .int .i64 0, .string ByteArray.empty, .slice none 0 0] 119 (0, 0)) :: (F.set i emp)) := Row.im (Row.nil_intro H105 147 4) (i := 0) rfl
 have H107 : St W w102 (_ :: _ :: (F.set i emp)) := (((((H106.move 1 rfl).drop 2 rfl).drop 2 rfl).drop 2 rfl).drop 2 rfl)
 have H108 : St W w102 (_ :: (Attrs (.slice none 0 0) [] :: F).set (i + 1) emp) := H107
 exact ⟨none, 0, 0, by rw [tkV_no h0, hE]; rfl, by rw [tkV_no h0]; rfl, by rw [tkV_no h0, tkR_no h0]; exact St.back (i := i + 1) t44 H108⟩
set_option maxHeartbeats 4000000 in
set_option maxRecDepth 100000 in
theorem match_Check {W w : World} {F : List Atom} (bs : List BoundD) (bv : Value) {ip : Nat} (hp : F[ip]? = some (Im 6 bv bs.length (bs.flatMap bndCell))) {iq : Nat} (hq : F[iq]? = some (bndsA bs)) (H : St W w F) : Calls Tryz.prog 48 #[.agg #[bv]] w (Ret fun v w' => v = .int .i64 (ptE bs) ∧ St W w' F) := by
 obtain ⟨pp1, cc2, rfl, hn3⟩ := Rd.shape (Im.rd H (i := ip) hp)
 have H4 := H.dup (i := ip + 0) t56 (Im_pers _ _ _ _)
 have H5 : St W w (_ :: F) := H4
 have H6 := H5.dup (i := iq + 1) t57 (bndsA_pers _)
 have H7 : St W w (_ :: _ :: F) := H6
 have hmlb := Im.len H7 (i := 1) rfl
 refine calls_of_go (n := 71) Tryz.func48 rfl Tryz.ntmps48 rfl ?_
 refine g_seq (g_region (Bx H7 24 #[.slice pp1 bs.length cc2] (fun bk8 w9 H10 => Ag (.int .i64 0) (r_nil (g_seq (g_region (Fa 0 fi_24_0 rfl (Lo (.slice pp1 bs.length cc2) ag_22 H10 0 (rc (s_len bs.length rfl ⟨_, un_22⟩ rfl (Ag (.int .i64 (bs.length : Int)) (r_nil (g_seq (g_seq (g_region (Mv (.int .i64 (bs.length : Int)) ?_))))))))))))))))
 by_cases hc11 : (12 : Int) < (bs.length : Int)
 ·refine rc (s_gtr true rfl rfl (dtrue hc11) rfl (r_nil (g_true rfl (g_seq (g_region (Ag (.int .i64 100) (r_nil (Gr [.int .i64 100] Tryz.func48 Tryz.results48 ?_))))))))
  have H12 : St W w9 F := (((H10.drop 0 rfl).drop 0 rfl).drop 0 rfl)
  exact ⟨vint (ptE_long t0).symm, H12⟩
 refine rc (s_gtr false rfl rfl (dfalse hc11) rfl (r_nil (g_false rfl (g_skip (g_seq (g_region (rc (s_makeMap H10 rfl ?_)))))))); intro mp13 w14 H15
 have H16 : St W w14 (_ :: _ :: _ :: _ :: F) := H15
 refine Ag (.map (some mp13)) (r_nil (g_seq (g_seq (g_region (Fa 0 fi_24_0 rfl (Lo (.slice pp1 bs.length cc2) ag_22 H16 1 (rc (s_len bs.length rfl ⟨_, un_22⟩ rfl (Mv (.int .i64 0) (r_nil (g_block ?_)))))))))))
 obtain ⟨pA17, cA18, gA19, oA20, kA21, eA22, zA23, he29, hn24, hp25, hx26, hs27, hml, H28⟩ := Im.open_ H16 (i := 3) rfl
 obtain ⟨rfl, rfl⟩ : pp1 = pA17 ∧ cc2 = cA18 := by injection he29 with a_ b_ c_; exact ⟨a_, c_⟩
 have H30 : St W w14 (_ :: _ :: _ :: _ :: _ :: F) := H28
 refine g_loop_inv (fun (x_ : Nat) => match x_ with | j => [(1, .pointer (some ⟨bk8, 0, none⟩)), (2, .int .i64 0), (3, .int .i64 (bs.length : Int)), (4, .map (some mp13)), (16, .slice pp1 bs.length cc2), (17, .int .i64 (bs.length : Int)), (18, .int .i64 (j : Int))]) (fun (x_ : Nat) w => match x_ with | j => (j ≤ bs.length) ∧ (∀ q, q < j → ptAt bs q = 0) ∧ St W w (imi (0 < bs.length) gA19 (.cells kA21 eA22 zA23) :: MapA mp13 (ents kID vB (setOf ((bs.take j).map idOf))) :: blk bk8 (.cells #[.slice pp1 bs.length cc2] 24 (0, 0)) :: bndsA bs :: Im 6 (.slice pp1 bs.length cc2) bs.length (bs.flatMap bndCell) :: F)) (fun (x_ : Nat) => match x_ with | j => bs.length - j) (0) ?_ ?_ ?_
 ·exact t2
 ·exact ⟨t0, (fun q hq => by omega), H30⟩
 rintro j ρ31 w32 ⟨hjn, hz, H33⟩ nx34
 change Ends _ _ (upds ρ31 [(1, .pointer (some ⟨bk8, 0, none⟩)), (2, .int .i64 0), (3, .int .i64 (bs.length : Int)), (4, .map (some mp13)), (16, .slice pp1 bs.length cc2), (17, .int .i64 (bs.length : Int)), (18, .int .i64 (j : Int))]) w32
 refine g_seq (g_region ?_)
 by_cases hc35 : (j : Int) < (bs.length : Int)
 ·refine rc (s_lss true rfl rfl (dtrue hc35) rfl (r_nil (g_seq (g_true rfl (g_skip (g_seq (g_block (g_seq (g_region (Mv (.int .i64 (j : Int)) (rc (s_indexAddr gA19 (off := oA20) (j : Int) 6 (oA20 + j * 6) t58 rfl el_22 t0 rfl rfl (rc (s_loadAgg [.string ((bs.getD j default).var.v), .int .i64 ((bs.getD j default).ev.ev.src.v), .int .i64 ((bs.getD j default).ev.ev.seq.v), .int .i64 ((bs.getD j default).ev.ev.time.v), .string ((bs.getD j default).ev.ev.typ.v), .slice ((bs.getD j default).ev.p) ((bs.getD j default).ev.ev.attrs.length) ((bs.getD j default).ev.c)] 6 ag_121 rfl (H33.imi_at (i := 0) rfl t0) (by have := elem_size (i := j) (s := 6) (hs27 t0) t0; omega) (elem_take bndCell_len (hx26 t0) t0 default) rfl (rc (s_alloc H33 121 ze_121 rfl (fun bk36 w37 H38 => Ag (.int .i64 (j : Int)) (Sa H38 0 rfl #[.string ((bs.getD j default).var.v), .int .i64 ((bs.getD j default).ev.ev.src.v), .int .i64 ((bs.getD j default).ev.ev.seq.v), .int .i64 ((bs.getD j default).ev.ev.time.v), .string ((bs.getD j default).ev.ev.typ.v), .slice ((bs.getD j default).ev.p) ((bs.getD j default).ev.ev.attrs.length) ((bs.getD j default).ev.c)] 6 sz_121 #[.string ((bs.getD j default).var.v), .int .i64 ((bs.getD j default).ev.ev.src.v), .int .i64 ((bs.getD j default).ev.ev.seq.v), .int .i64 ((bs.getD j default).ev.ev.time.v), .string ((bs.getD j default).ev.ev.typ.v), .slice ((bs.getD j default).ev.p) ((bs.getD j default).ev.ev.attrs.length) ((bs.getD j default).ev.c)] (fun w39 H40 => r_nil (g_seq (g_region (Fa 0 fi_121_0 rfl (Lo (.string ((bs.getD j default).var.v)) ag_9 H40 0 (rc (s_call [.string ((bs.getD j default).var.v)] pl_83 rfl rfl (value_Name ((bs.getD j default).var.v) (bs.getD j default).var.ok H40) ?_)))))))))))))))))))))))))
  rintro _ w41 ⟨rfl, H42⟩
  refine Mv (.bool (nameB ((bs.getD j default).var.v))) ?_
  by_cases hb43 : (nameB ((bs.getD j default).var.v)) = true
  ·refine Rq hb43 (Rq hb43 (Rq hb43 (Rq hb43 (Rn (Rn (Rq hb43 (rc (s_pick_t (.bool true) (by exact congrArg Value.bool hb43) rfl rfl (Ag (.bool true) (r_nil (g_seq (g_seq ?_))))))))))))
   refine g_quiet (fun w' => St W w' (blk bk36 (.cells #[.string ((bs.getD j default).var.v), .int .i64 ((bs.getD j default).ev.ev.src.v), .int .i64 ((bs.getD j default).ev.ev.seq.v), .int .i64 ((bs.getD j default).ev.ev.time.v), .string ((bs.getD j default).ev.ev.typ.v), .slice ((bs.getD j default).ev.p) ((bs.getD j default).ev.ev.attrs.length) ((bs.getD j default).ev.c)] 121 (0, 0)) :: imi (0 < bs.length) gA19 (.cells kA21 eA22 zA23) :: MapA mp13 (ents kID vB (setOf ((bs.take j).map idOf))) :: blk bk8 (.cells #[.slice pp1 bs.length cc2] 24 (0, 0)) :: bndsA bs :: Im 6 (.slice pp1 bs.length cc2) bs.length (bs.flatMap bndCell) :: F)) mixed t7 H42.drew ?_
   refine Qm (.bool true) (Qv (fun w hw => x_not true rfl false rfl w) (Qm (.bool false) (Qt (Qn (.int .i64 (j : Int)) (Qt ?_)))))
   by_cases hc44 : (0 : Int) < (j : Int)
   ·refine Qu (fun w hw => x_gtr true rfl rfl (dtrue hc44) w) (Qt (Qn (.bool true) (Qt (Qu (fun w hw => x_fieldAddr 121 0 0 0 9 rfl fi_121_0 rfl w) (Qt (Qu (fun w hw => x_load (.string ((bs.getD j default).var.v)) ag_9 rfl (hw.blk_at (i := 0) rfl) rfl) (Qt (Qu (fun w hw => x_fieldAddr 24 0 0 0 22 rfl fi_24_0 rfl w) (Qt (Qu (fun w hw => x_load (.slice pp1 bs.length cc2) ag_22 rfl (hw.blk_at (i := 3) rfl) rfl) (Qt (Qn (.int .i64 (j : Int)) (Qt (Qu (fun w hw => x_sub ((j : Int) - 1) rfl rfl (wi64 t0) w) (Qt (Qu (fun w hw => x_indexAddr gA19 (off := oA20) ((j : Int) - 1) 6 (oA20 + (j - 1) * 6) t58 rfl el_22 t0 t48 w) (Qt (Qu (fun w hw => x_fieldAddr 121 0 0 (oA20 + (j - 1) * 6) 9 rfl fi_121_0 rfl w) (Qt (Qu (fun w hw => x_load (.string ((bs.getD (j - 1) default).var.v)) ag_9 rfl (hw.imi_at (i := 1) rfl t0) (elem_cell (L := bs) (i := j - 1) bndCell_len (hx26 t0) t0 default 0 t10 _ rfl)) (Qt (Qu (fun w hw => x_sleq ((sLt ((bs.getD j default).var.v) ((bs.getD (j - 1) default).var.v) || decide (((bs.getD j default).var.v) = ((bs.getD (j - 1) default).var.v)))) rfl rfl rfl w) (Qt (Qu (fun w hw => x_pick_t (.bool (sLt ((bs.getD j default).var.v) ((bs.getD (j - 1) default).var.v) || decide (((bs.getD j default).var.v) = ((bs.getD (j - 1) default).var.v)))) rfl rfl w) (Qv (fun w hw => x_pick_f (.bool (sLt ((bs.getD j default).var.v) ((bs.getD (j - 1) default).var.v) || decide (((bs.getD j default).var.v) = ((bs.getD (j - 1) default).var.v)))) rfl rfl w) (Qm (.bool (sLt ((bs.getD j default).var.v) ((bs.getD (j - 1) default).var.v) || decide (((bs.getD j default).var.v) = ((bs.getD (j - 1) default).var.v)))) ?_))))))))))))))))))))))))))
    by_cases hb45 : ((sLt ((bs.getD j default).var.v) ((bs.getD (j - 1) default).var.v) || decide (((bs.getD j default).var.v) = ((bs.getD (j - 1) default).var.v)))) = true
    ·refine Qh hb45 (Qh hb45 (Qh hb45 (Qh hb45 (Qh hb45 (Qv (fun w hw => x_pick_t (.bool true) (by exact congrArg Value.bool hb45) rfl w) (q_nil ?_))))))
     intro w46 H47
     refine g_true rfl (g_seq (g_region (Ag (.int .i64 100) (r_nil (Gr [.int .i64 100] Tryz.func48 Tryz.results48 ?_)))))
     have H48 : St W w46 F := ((((((H47.drop 0 rfl).drop 0 rfl).drop 0 rfl).drop 0 rfl).drop 0 rfl).drop 0 rfl)
     have hA : ptAt bs j = 100 := by first | exact ptAt_2 t0 t11 | exact ptAt_3 (of_decide_eq_true t11) | (exact ptAt_3 (of_decide_eq_true t11)) | (refine ptAt_1 ?_; rintro (h | ⟨h, h2⟩) <;> simp_all)
     exact ⟨vint (ptE_at t0 hz t0 hA t10).symm, H48⟩
    have hb45 := eq_false_of_ne_true hb45
    refine q_cons (q_take rfl (congrArg some hb45) (Qn (.map (some mp13)) (q_cons (q_take rfl (congrArg some hb45) (Qu (fun w hw => x_fieldAddr 121 1 1 1 119 rfl fi_121_1 rfl w) (q_cons (q_take rfl (congrArg some hb45) (Qu (fun w hw => x_fieldAddr 119 0 0 1 116 rfl fi_119_0 rfl w) (q_cons (q_take rfl (congrArg some hb45) (Qu (fun w hw => x_loadAgg [.int .i64 ((bs.getD j default).ev.ev.src.v), .int .i64 ((bs.getD j default).ev.ev.seq.v)] 2 ag_116 rfl (hw.blk_at (i := 0) rfl) (nbl rfl) rfl) (q_cons (q_take rfl (congrArg some hb45) (Qu (fun w hw => x_lookup (ek := kID) (ev := vB) (L := setOf ((bs.take j).map idOf)) (idOf (bs.getD j default)) (.bool (decide ((idOf (bs.getD j default)) ∈ ((bs.take j).map idOf)))) (MapA.at hw (i := 2) rfl) kl_116 un_134 zv_4 rfl rfl (setOf_look _ _)) (Qv (fun w hw => x_pick_f (.bool (decide ((idOf (bs.getD j default)) ∈ ((bs.take j).map idOf)))) (by exact congrArg Value.bool hb45) rfl w) (q_nil ?_))))))))))))))))
    intro w49 H50
    by_cases hb51 : (decide ((idOf (bs.getD j default)) ∈ ((bs.take j).map idOf))) = true
    ·refine g_true (congrArg Value.bool hb51) (g_seq (g_region (Ag (.int .i64 100) (r_nil (Gr [.int .i64 100] Tryz.func48 Tryz.results48 ?_)))))
     have H52 : St W w49 F := ((((((H50.drop 0 rfl).drop 0 rfl).drop 0 rfl).drop 0 rfl).drop 0 rfl).drop 0 rfl)
     have hA : ptAt bs j = 100 := by first | exact ptAt_2 t0 t11 | exact ptAt_3 (of_decide_eq_true t11) | (exact ptAt_3 (of_decide_eq_true t11)) | (refine ptAt_1 ?_; rintro (h | ⟨h, h2⟩) <;> simp_all)
     exact ⟨vint (ptE_at t0 hz t0 hA t10).symm, H52⟩
    have hb51 := eq_false_of_ne_true hb51
    refine g_false (congrArg Value.bool hb51) (g_skip (g_seq (g_region (Mv (.map (some mp13)) (Fa 1 fi_121_1 rfl (Fa 1 fi_119_0 rfl (La [.int .i64 ((bs.getD j default).ev.ev.src.v), .int .i64 ((bs.getD j default).ev.ev.seq.v)] 2 ag_116 H50 0 (rc (s_mapUpdate (ek := kID) (ev := vB) (L := setOf ((bs.take j).map idOf)) (idOf (bs.getD j default)) true H50 (i := 2) rfl kl_116 un_134 rfl rfl rfl ?_))))))))); intro w53 H54
    have H55 : St W w53 (blk bk36 (.cells #[.string ((bs.getD j default).var.v), .int .i64 ((bs.getD j default).ev.ev.src.v), .int .i64 ((bs.getD j default).ev.ev.seq.v), .int .i64 ((bs.getD j default).ev.ev.time.v), .string ((bs.getD j default).ev.ev.typ.v), .slice ((bs.getD j default).ev.p) ((bs.getD j default).ev.ev.attrs.length) ((bs.getD j default).ev.c)] 121 (0, 0)) :: imi (0 < bs.length) gA19 (.cells kA21 eA22 zA23) :: MapA mp13 (ents kID vB (setOf (addS ((bs.take j).map idOf) (idOf (bs.getD j default))))) :: blk bk8 (.cells #[.slice pp1 bs.length cc2] 24 (0, 0)) :: bndsA bs :: Im 6 (.slice pp1 bs.length cc2) bs.length (bs.flatMap bndCell) :: F) := by have h9 := H54; rw [setOf_set] at h9; exact h9
    refine r_nil (g_seq (g_region ?_))
    have hns : ¬ idOf (bs.getD j default) ∈ (bs.take j).map idOf := of_decide_eq_false hb51
    have H56 : St W w53 (blk bk36 (.cells #[.string ((bs.getD j default).var.v), .int .i64 ((bs.getD j default).ev.ev.src.v), .int .i64 ((bs.getD j default).ev.ev.seq.v), .int .i64 ((bs.getD j default).ev.ev.time.v), .string ((bs.getD j default).ev.ev.typ.v), .slice ((bs.getD j default).ev.p) ((bs.getD j default).ev.ev.attrs.length) ((bs.getD j default).ev.c)] 121 (0, 0)) :: imi (0 < bs.length) gA19 (.cells kA21 eA22 zA23) :: MapA mp13 (ents kID vB (setOf ((bs.take (j + 1)).map idOf))) :: blk bk8 (.cells #[.slice pp1 bs.length cc2] 24 (0, 0)) :: bndsA bs :: Im 6 (.slice pp1 bs.length cc2) bs.length (bs.flatMap bndCell) :: F) := by have hx := H55; rw [ids_step t0 hns] at hx; exact hx
    have H57 := bndsA_at j H56 (i := 4) rfl
    have hat4 := ptAt_4 (L := bs) (i := j) t21 t25 hns
    refine Fa 1 fi_121_1 rfl (La [.int .i64 ((bs.getD j default).ev.ev.src.v), .int .i64 ((bs.getD j default).ev.ev.seq.v), .int .i64 ((bs.getD j default).ev.ev.time.v), .string ((bs.getD j default).ev.ev.typ.v), .slice ((bs.getD j default).ev.p) ((bs.getD j default).ev.ev.attrs.length) ((bs.getD j default).ev.c)] 5 ag_119 H57 1 (rc (s_call [.agg #[.int .i64 ((bs.getD j default).ev.ev.src.v), .int .i64 ((bs.getD j default).ev.ev.seq.v), .int .i64 ((bs.getD j default).ev.ev.time.v), .string ((bs.getD j default).ev.ev.typ.v), .slice ((bs.getD j default).ev.p) ((bs.getD j default).ev.ev.attrs.length) ((bs.getD j default).ev.c)]] pl_84 rfl rfl (event_Check ((bs.getD j default).ev.ev) (.slice ((bs.getD j default).ev.p) ((bs.getD j default).ev.ev.attrs.length) ((bs.getD j default).ev.c)) (j := 0) rfl H57) ?_)))
    rintro _ w58 ⟨rfl, H59⟩
    refine Ag (.int .i64 (evE ((bs.getD j default).ev.ev))) (r_nil (g_seq (g_region (Mv (.int .i64 (evE ((bs.getD j default).ev.ev))) ?_))))
    by_cases hc60 : evE ((bs.getD j default).ev.ev) = 0
    ·refine rc (s_neq false rfl rfl (ntrue hc60) rfl (r_nil (g_false rfl (g_skip (g_inBlock (g_region (rc (s_add ((j : Int) + 1) rfl rfl (wi64 t0) rfl (Mv (.int .i64 ((j : Int) + 1)) (r_nil ?_))))))))))
     have H61 : St W w58 (_ :: _ :: _ :: _ :: _ :: F) := (((((((H59.move 6 rfl).move 6 rfl).move 6 rfl).move 6 rfl).move 6 rfl).drop 5 rfl).drop 5 rfl)
     exact nx34 (j + 1) _ _ ⟨t0, (fun q hq => (Nat.lt_or_ge q j).elim (hz q) (fun h => by rw [show q = j from by omega, hat4]; assumption)), H61⟩ t9 t2
    refine rc (s_neq true rfl rfl (nfalse hc60) rfl (r_nil (g_true rfl (g_seq (g_region (Mv (.int .i64 (evE ((bs.getD j default).ev.ev))) (Ag (.int .i64 (evE ((bs.getD j default).ev.ev))) (r_nil (Gr [.int .i64 (evE ((bs.getD j default).ev.ev))] Tryz.func48 Tryz.results48 ?_)))))))))
    have H62 : St W w58 F := (((((((H59.drop 0 rfl).drop 0 rfl).drop 0 rfl).drop 0 rfl).drop 0 rfl).drop 0 rfl).drop 0 rfl)
    exact ⟨vint (ptE_at t0 hz t0 (hat4) t11).symm, H62⟩
   refine Qu (fun w hw => x_gtr false rfl rfl (dfalse hc44) w) (Qt (Qn (.bool false) (Qp (Qp (Qp (Qp (Qp (Qp (Qp (Qp (Qp (Qp (Qt (Qu (fun w hw => x_pick_f (.bool false) rfl rfl w) (Qv (fun w hw => x_pick_f (.bool false) rfl rfl w) (Qm (.bool false) (Qt (Qn (.map (some mp13)) (Qt (Qu (fun w hw => x_fieldAddr 121 1 1 1 119 rfl fi_121_1 rfl w) (Qt (Qu (fun w hw => x_fieldAddr 119 0 0 1 116 rfl fi_119_0 rfl w) (Qt (Qu (fun w hw => x_loadAgg [.int .i64 ((bs.getD j default).ev.ev.src.v), .int .i64 ((bs.getD j default).ev.ev.seq.v)] 2 ag_116 rfl (hw.blk_at (i := 0) rfl) (nbl rfl) rfl) (Qt (Qu (fun w hw => x_lookup (ek := kID) (ev := vB) (L := setOf ((bs.take j).map idOf)) (idOf (bs.getD j default)) (.bool (decide ((idOf (bs.getD j default)) ∈ ((bs.take j).map idOf)))) (MapA.at hw (i := 2) rfl) kl_116 un_134 zv_4 rfl rfl (setOf_look _ _)) (Qv (fun w hw => x_pick_f (.bool (decide ((idOf (bs.getD j default)) ∈ ((bs.take j).map idOf)))) rfl rfl w) (q_nil ?_))))))))))))))))))))))))))))
   intro w63 H64
   by_cases hb65 : (decide ((idOf (bs.getD j default)) ∈ ((bs.take j).map idOf))) = true
   ·refine g_true (congrArg Value.bool hb65) (g_seq (g_region (Ag (.int .i64 100) (r_nil (Gr [.int .i64 100] Tryz.func48 Tryz.results48 ?_)))))
    have H66 : St W w63 F := ((((((H64.drop 0 rfl).drop 0 rfl).drop 0 rfl).drop 0 rfl).drop 0 rfl).drop 0 rfl)
    have hA : ptAt bs j = 100 := by first | exact ptAt_2 t0 t11 | exact ptAt_3 (of_decide_eq_true t11) | (exact ptAt_3 (of_decide_eq_true t11)) | (refine ptAt_1 ?_; rintro (h | ⟨h, h2⟩) <;> simp_all)
    exact ⟨vint (ptE_at t0 hz t0 hA t10).symm, H66⟩
   have hb65 := eq_false_of_ne_true hb65
   refine g_false (congrArg Value.bool hb65) (g_skip (g_seq (g_region (Mv (.map (some mp13)) (Fa 1 fi_121_1 rfl (Fa 1 fi_119_0 rfl (La [.int .i64 ((bs.getD j default).ev.ev.src.v), .int .i64 ((bs.getD j default).ev.ev.seq.v)] 2 ag_116 H64 0 (rc (s_mapUpdate (ek := kID) (ev := vB) (L := setOf ((bs.take j).map idOf)) (idOf (bs.getD j default)) true H64 (i := 2) rfl kl_116 un_134 rfl rfl rfl ?_))))))))); intro w67 H68
   have H69 : St W w67 (blk bk36 (.cells #[.string ((bs.getD j default).var.v), .int .i64 ((bs.getD j default).ev.ev.src.v), .int .i64 ((bs.getD j default).ev.ev.seq.v), .int .i64 ((bs.getD j default).ev.ev.time.v), .string ((bs.getD j default).ev.ev.typ.v), .slice ((bs.getD j default).ev.p) ((bs.getD j default).ev.ev.attrs.length) ((bs.getD j default).ev.c)] 121 (0, 0)) :: imi (0 < bs.length) gA19 (.cells kA21 eA22 zA23) :: MapA mp13 (ents kID vB (setOf (addS ((bs.take j).map idOf) (idOf (bs.getD j default))))) :: blk bk8 (.cells #[.slice pp1 bs.length cc2] 24 (0, 0)) :: bndsA bs :: Im 6 (.slice pp1 bs.length cc2) bs.length (bs.flatMap bndCell) :: F) := by have h9 := H68; rw [setOf_set] at h9; exact h9
   refine r_nil (g_seq (g_region ?_))
   have hns : ¬ idOf (bs.getD j default) ∈ (bs.take j).map idOf := of_decide_eq_false hb65
   have H70 : St W w67 (blk bk36 (.cells #[.string ((bs.getD j default).var.v), .int .i64 ((bs.getD j default).ev.ev.src.v), .int .i64 ((bs.getD j default).ev.ev.seq.v), .int .i64 ((bs.getD j default).ev.ev.time.v), .string ((bs.getD j default).ev.ev.typ.v), .slice ((bs.getD j default).ev.p) ((bs.getD j default).ev.ev.attrs.length) ((bs.getD j default).ev.c)] 121 (0, 0)) :: imi (0 < bs.length) gA19 (.cells kA21 eA22 zA23) :: MapA mp13 (ents kID vB (setOf ((bs.take (j + 1)).map idOf))) :: blk bk8 (.cells #[.slice pp1 bs.length cc2] 24 (0, 0)) :: bndsA bs :: Im 6 (.slice pp1 bs.length cc2) bs.length (bs.flatMap bndCell) :: F) := by have hx := H69; rw [ids_step t0 hns] at hx; exact hx
   have H71 := bndsA_at j H70 (i := 4) rfl
   have hat4 := ptAt_4 (L := bs) (i := j) t21 t25 hns
   refine Fa 1 fi_121_1 rfl (La [.int .i64 ((bs.getD j default).ev.ev.src.v), .int .i64 ((bs.getD j default).ev.ev.seq.v), .int .i64 ((bs.getD j default).ev.ev.time.v), .string ((bs.getD j default).ev.ev.typ.v), .slice ((bs.getD j default).ev.p) ((bs.getD j default).ev.ev.attrs.length) ((bs.getD j default).ev.c)] 5 ag_119 H71 1 (rc (s_call [.agg #[.int .i64 ((bs.getD j default).ev.ev.src.v), .int .i64 ((bs.getD j default).ev.ev.seq.v), .int .i64 ((bs.getD j default).ev.ev.time.v), .string ((bs.getD j default).ev.ev.typ.v), .slice ((bs.getD j default).ev.p) ((bs.getD j default).ev.ev.attrs.length) ((bs.getD j default).ev.c)]] pl_84 rfl rfl (event_Check ((bs.getD j default).ev.ev) (.slice ((bs.getD j default).ev.p) ((bs.getD j default).ev.ev.attrs.length) ((bs.getD j default).ev.c)) (j := 0) rfl H71) ?_)))
   rintro _ w72 ⟨rfl, H73⟩
   refine Ag (.int .i64 (evE ((bs.getD j default).ev.ev))) (r_nil (g_seq (g_region (Mv (.int .i64 (evE ((bs.getD j default).ev.ev))) ?_))))
   by_cases hc74 : evE ((bs.getD j default).ev.ev) = 0
   ·refine rc (s_neq false rfl rfl (ntrue hc74) rfl (r_nil (g_false rfl (g_skip (g_inBlock (g_region (rc (s_add ((j : Int) + 1) rfl rfl (wi64 t0) rfl (Mv (.int .i64 ((j : Int) + 1)) (r_nil ?_))))))))))
    have H75 : St W w72 (_ :: _ :: _ :: _ :: _ :: F) := (((((((H73.move 6 rfl).move 6 rfl).move 6 rfl).move 6 rfl).move 6 rfl).drop 5 rfl).drop 5 rfl)
    exact nx34 (j + 1) _ _ ⟨t0, (fun q hq => (Nat.lt_or_ge q j).elim (hz q) (fun h => by rw [show q = j from by omega, hat4]; assumption)), H75⟩ t9 t2
   refine rc (s_neq true rfl rfl (nfalse hc74) rfl (r_nil (g_true rfl (g_seq (g_region (Mv (.int .i64 (evE ((bs.getD j default).ev.ev))) (Ag (.int .i64 (evE ((bs.getD j default).ev.ev))) (r_nil (Gr [.int .i64 (evE ((bs.getD j default).ev.ev))] Tryz.func48 Tryz.results48 ?_)))))))))
   have H76 : St W w72 F := (((((((H73.drop 0 rfl).drop 0 rfl).drop 0 rfl).drop 0 rfl).drop 0 rfl).drop 0 rfl).drop 0 rfl)
   exact ⟨vint (ptE_at t0 hz t0 (hat4) t11).symm, H76⟩
  have hb43 := eq_false_of_ne_true hb43
  refine Rh hb43 (s_fieldAddr 121 0 0 0 9 rfl fi_121_0 rfl rfl (Rh hb43 (s_load (.string ((bs.getD j default).var.v)) ag_9 rfl (H42.blk_at (i := 0) rfl) rfl rfl (Rh hb43 ?_))))
  by_cases hc77 : (bs.getD j default).var.v = ByteArray.empty
  ·refine s_seql true rfl rfl (dtrue hc77) rfl (Rh hb43 (Mw (.bool true) (Rt (Mw (.int .i64 (bs.length : Int)) (Rt ?_)))))
   by_cases hc78 : (bs.length : Int) = 1
   ·refine s_eql true rfl rfl (dtrue hc78) rfl (Rh hb43 (s_pick_t (.bool true) rfl rfl rfl (rc (s_pick_f (.bool true) (by exact congrArg Value.bool hb43) rfl rfl (Ag (.bool true) (r_nil (g_seq (g_seq ?_))))))))
    refine g_quiet (fun w' => St W w' (blk bk36 (.cells #[.string ((bs.getD j default).var.v), .int .i64 ((bs.getD j default).ev.ev.src.v), .int .i64 ((bs.getD j default).ev.ev.seq.v), .int .i64 ((bs.getD j default).ev.ev.time.v), .string ((bs.getD j default).ev.ev.typ.v), .slice ((bs.getD j default).ev.p) ((bs.getD j default).ev.ev.attrs.length) ((bs.getD j default).ev.c)] 121 (0, 0)) :: imi (0 < bs.length) gA19 (.cells kA21 eA22 zA23) :: MapA mp13 (ents kID vB (setOf ((bs.take j).map idOf))) :: blk bk8 (.cells #[.slice pp1 bs.length cc2] 24 (0, 0)) :: bndsA bs :: Im 6 (.slice pp1 bs.length cc2) bs.length (bs.flatMap bndCell) :: F)) mixed t7 H42.drew ?_
    refine Qm (.bool true) (Qv (fun w hw => x_not true rfl false rfl w) (Qm (.bool false) (Qt (Qn (.int .i64 (j : Int)) (Qt ?_)))))
    by_cases hc79 : (0 : Int) < (j : Int)
    ·refine Qu (fun w hw => x_gtr true rfl rfl (dtrue hc79) w) (Qt (Qn (.bool true) (Qt (Qu (fun w hw => x_fieldAddr 121 0 0 0 9 rfl fi_121_0 rfl w) (Qt (Qu (fun w hw => x_load (.string ((bs.getD j default).var.v)) ag_9 rfl (hw.blk_at (i := 0) rfl) rfl) (Qt (Qu (fun w hw => x_fieldAddr 24 0 0 0 22 rfl fi_24_0 rfl w) (Qt (Qu (fun w hw => x_load (.slice pp1 bs.length cc2) ag_22 rfl (hw.blk_at (i := 3) rfl) rfl) (Qt (Qn (.int .i64 (j : Int)) (Qt (Qu (fun w hw => x_sub ((j : Int) - 1) rfl rfl (wi64 t0) w) (Qt (Qu (fun w hw => x_indexAddr gA19 (off := oA20) ((j : Int) - 1) 6 (oA20 + (j - 1) * 6) t58 rfl el_22 t0 t48 w) (Qt (Qu (fun w hw => x_fieldAddr 121 0 0 (oA20 + (j - 1) * 6) 9 rfl fi_121_0 rfl w) (Qt (Qu (fun w hw => x_load (.string ((bs.getD (j - 1) default).var.v)) ag_9 rfl (hw.imi_at (i := 1) rfl t0) (elem_cell (L := bs) (i := j - 1) bndCell_len (hx26 t0) t0 default 0 t10 _ rfl)) (Qt (Qu (fun w hw => x_sleq ((sLt ((bs.getD j default).var.v) ((bs.getD (j - 1) default).var.v) || decide (((bs.getD j default).var.v) = ((bs.getD (j - 1) default).var.v)))) rfl rfl rfl w) (Qt (Qu (fun w hw => x_pick_t (.bool (sLt ((bs.getD j default).var.v) ((bs.getD (j - 1) default).var.v) || decide (((bs.getD j default).var.v) = ((bs.getD (j - 1) default).var.v)))) rfl rfl w) (Qv (fun w hw => x_pick_f (.bool (sLt ((bs.getD j default).var.v) ((bs.getD (j - 1) default).var.v) || decide (((bs.getD j default).var.v) = ((bs.getD (j - 1) default).var.v)))) rfl rfl w) (Qm (.bool (sLt ((bs.getD j default).var.v) ((bs.getD (j - 1) default).var.v) || decide (((bs.getD j default).var.v) = ((bs.getD (j - 1) default).var.v)))) ?_))))))))))))))))))))))))))
     by_cases hb80 : ((sLt ((bs.getD j default).var.v) ((bs.getD (j - 1) default).var.v) || decide (((bs.getD j default).var.v) = ((bs.getD (j - 1) default).var.v)))) = true
     ·refine Qh hb80 (Qh hb80 (Qh hb80 (Qh hb80 (Qh hb80 (Qv (fun w hw => x_pick_t (.bool true) (by exact congrArg Value.bool hb80) rfl w) (q_nil ?_))))))
      intro w81 H82
      refine g_true rfl (g_seq (g_region (Ag (.int .i64 100) (r_nil (Gr [.int .i64 100] Tryz.func48 Tryz.results48 ?_)))))
      have H83 : St W w81 F := ((((((H82.drop 0 rfl).drop 0 rfl).drop 0 rfl).drop 0 rfl).drop 0 rfl).drop 0 rfl)
      have hA : ptAt bs j = 100 := by first | exact ptAt_2 t0 t11 | exact ptAt_3 (of_decide_eq_true t11) | (exact ptAt_3 (of_decide_eq_true t11)) | (refine ptAt_1 ?_; rintro (h | ⟨h, h2⟩) <;> simp_all)
      exact ⟨vint (ptE_at t0 hz t0 hA t10).symm, H83⟩
     have hb80 := eq_false_of_ne_true hb80
     refine q_cons (q_take rfl (congrArg some hb80) (Qn (.map (some mp13)) (q_cons (q_take rfl (congrArg some hb80) (Qu (fun w hw => x_fieldAddr 121 1 1 1 119 rfl fi_121_1 rfl w) (q_cons (q_take rfl (congrArg some hb80) (Qu (fun w hw => x_fieldAddr 119 0 0 1 116 rfl fi_119_0 rfl w) (q_cons (q_take rfl (congrArg some hb80) (Qu (fun w hw => x_loadAgg [.int .i64 ((bs.getD j default).ev.ev.src.v), .int .i64 ((bs.getD j default).ev.ev.seq.v)] 2 ag_116 rfl (hw.blk_at (i := 0) rfl) (nbl rfl) rfl) (q_cons (q_take rfl (congrArg some hb80) (Qu (fun w hw => x_lookup (ek := kID) (ev := vB) (L := setOf ((bs.take j).map idOf)) (idOf (bs.getD j default)) (.bool (decide ((idOf (bs.getD j default)) ∈ ((bs.take j).map idOf)))) (MapA.at hw (i := 2) rfl) kl_116 un_134 zv_4 rfl rfl (setOf_look _ _)) (Qv (fun w hw => x_pick_f (.bool (decide ((idOf (bs.getD j default)) ∈ ((bs.take j).map idOf)))) (by exact congrArg Value.bool hb80) rfl w) (q_nil ?_))))))))))))))))
     intro w84 H85
     by_cases hb86 : (decide ((idOf (bs.getD j default)) ∈ ((bs.take j).map idOf))) = true
     ·refine g_true (congrArg Value.bool hb86) (g_seq (g_region (Ag (.int .i64 100) (r_nil (Gr [.int .i64 100] Tryz.func48 Tryz.results48 ?_)))))
      have H87 : St W w84 F := ((((((H85.drop 0 rfl).drop 0 rfl).drop 0 rfl).drop 0 rfl).drop 0 rfl).drop 0 rfl)
      have hA : ptAt bs j = 100 := by first | exact ptAt_2 t0 t11 | exact ptAt_3 (of_decide_eq_true t11) | (exact ptAt_3 (of_decide_eq_true t11)) | (refine ptAt_1 ?_; rintro (h | ⟨h, h2⟩) <;> simp_all)
      exact ⟨vint (ptE_at t0 hz t0 hA t10).symm, H87⟩
     have hb86 := eq_false_of_ne_true hb86
     refine g_false (congrArg Value.bool hb86) (g_skip (g_seq (g_region (Mv (.map (some mp13)) (Fa 1 fi_121_1 rfl (Fa 1 fi_119_0 rfl (La [.int .i64 ((bs.getD j default).ev.ev.src.v), .int .i64 ((bs.getD j default).ev.ev.seq.v)] 2 ag_116 H85 0 (rc (s_mapUpdate (ek := kID) (ev := vB) (L := setOf ((bs.take j).map idOf)) (idOf (bs.getD j default)) true H85 (i := 2) rfl kl_116 un_134 rfl rfl rfl ?_))))))))); intro w88 H89
     have H90 : St W w88 (blk bk36 (.cells #[.string ((bs.getD j default).var.v), .int .i64 ((bs.getD j default).ev.ev.src.v), .int .i64 ((bs.getD j default).ev.ev.seq.v), .int .i64 ((bs.getD j default).ev.ev.time.v), .string ((bs.getD j default).ev.ev.typ.v), .slice ((bs.getD j default).ev.p) ((bs.getD j default).ev.ev.attrs.length) ((bs.getD j default).ev.c)] 121 (0, 0)) :: imi (0 < bs.length) gA19 (.cells kA21 eA22 zA23) :: MapA mp13 (ents kID vB (setOf (addS ((bs.take j).map idOf) (idOf (bs.getD j default))))) :: blk bk8 (.cells #[.slice pp1 bs.length cc2] 24 (0, 0)) :: bndsA bs :: Im 6 (.slice pp1 bs.length cc2) bs.length (bs.flatMap bndCell) :: F) := by have h9 := H89; rw [setOf_set] at h9; exact h9
     refine r_nil (g_seq (g_region ?_))
     have hns : ¬ idOf (bs.getD j default) ∈ (bs.take j).map idOf := of_decide_eq_false hb86
     have H91 : St W w88 (blk bk36 (.cells #[.string ((bs.getD j default).var.v), .int .i64 ((bs.getD j default).ev.ev.src.v), .int .i64 ((bs.getD j default).ev.ev.seq.v), .int .i64 ((bs.getD j default).ev.ev.time.v), .string ((bs.getD j default).ev.ev.typ.v), .slice ((bs.getD j default).ev.p) ((bs.getD j default).ev.ev.attrs.length) ((bs.getD j default).ev.c)] 121 (0, 0)) :: imi (0 < bs.length) gA19 (.cells kA21 eA22 zA23) :: MapA mp13 (ents kID vB (setOf ((bs.take (j + 1)).map idOf))) :: blk bk8 (.cells #[.slice pp1 bs.length cc2] 24 (0, 0)) :: bndsA bs :: Im 6 (.slice pp1 bs.length cc2) bs.length (bs.flatMap bndCell) :: F) := by have hx := H90; rw [ids_step t0 hns] at hx; exact hx
     have H92 := bndsA_at j H91 (i := 4) rfl
     have hat4 := ptAt_4 (L := bs) (i := j) t21 t25 hns
     refine Fa 1 fi_121_1 rfl (La [.int .i64 ((bs.getD j default).ev.ev.src.v), .int .i64 ((bs.getD j default).ev.ev.seq.v), .int .i64 ((bs.getD j default).ev.ev.time.v), .string ((bs.getD j default).ev.ev.typ.v), .slice ((bs.getD j default).ev.p) ((bs.getD j default).ev.ev.attrs.length) ((bs.getD j default).ev.c)] 5 ag_119 H92 1 (rc (s_call [.agg #[.int .i64 ((bs.getD j default).ev.ev.src.v), .int .i64 ((bs.getD j default).ev.ev.seq.v), .int .i64 ((bs.getD j default).ev.ev.time.v), .string ((bs.getD j default).ev.ev.typ.v), .slice ((bs.getD j default).ev.p) ((bs.getD j default).ev.ev.attrs.length) ((bs.getD j default).ev.c)]] pl_84 rfl rfl (event_Check ((bs.getD j default).ev.ev) (.slice ((bs.getD j default).ev.p) ((bs.getD j default).ev.ev.attrs.length) ((bs.getD j default).ev.c)) (j := 0) rfl H92) ?_)))
     rintro _ w93 ⟨rfl, H94⟩
     refine Ag (.int .i64 (evE ((bs.getD j default).ev.ev))) (r_nil (g_seq (g_region (Mv (.int .i64 (evE ((bs.getD j default).ev.ev))) ?_))))
     by_cases hc95 : evE ((bs.getD j default).ev.ev) = 0
     ·refine rc (s_neq false rfl rfl (ntrue hc95) rfl (r_nil (g_false rfl (g_skip (g_inBlock (g_region (rc (s_add ((j : Int) + 1) rfl rfl (wi64 t0) rfl (Mv (.int .i64 ((j : Int) + 1)) (r_nil ?_))))))))))
      have H96 : St W w93 (_ :: _ :: _ :: _ :: _ :: F) := (((((((H94.move 6 rfl).move 6 rfl).move 6 rfl).move 6 rfl).move 6 rfl).drop 5 rfl).drop 5 rfl)
      exact nx34 (j + 1) _ _ ⟨t0, (fun q hq => (Nat.lt_or_ge q j).elim (hz q) (fun h => by rw [show q = j from by omega, hat4]; assumption)), H96⟩ t9 t2
     refine rc (s_neq true rfl rfl (nfalse hc95) rfl (r_nil (g_true rfl (g_seq (g_region (Mv (.int .i64 (evE ((bs.getD j default).ev.ev))) (Ag (.int .i64 (evE ((bs.getD j default).ev.ev))) (r_nil (Gr [.int .i64 (evE ((bs.getD j default).ev.ev))] Tryz.func48 Tryz.results48 ?_)))))))))
     have H97 : St W w93 F := (((((((H94.drop 0 rfl).drop 0 rfl).drop 0 rfl).drop 0 rfl).drop 0 rfl).drop 0 rfl).drop 0 rfl)
     exact ⟨vint (ptE_at t0 hz t0 (hat4) t11).symm, H97⟩
    refine Qu (fun w hw => x_gtr false rfl rfl (dfalse hc79) w) (Qt (Qn (.bool false) (Qp (Qp (Qp (Qp (Qp (Qp (Qp (Qp (Qp (Qp (Qt (Qu (fun w hw => x_pick_f (.bool false) rfl rfl w) (Qv (fun w hw => x_pick_f (.bool false) rfl rfl w) (Qm (.bool false) (Qt (Qn (.map (some mp13)) (Qt (Qu (fun w hw => x_fieldAddr 121 1 1 1 119 rfl fi_121_1 rfl w) (Qt (Qu (fun w hw => x_fieldAddr 119 0 0 1 116 rfl fi_119_0 rfl w) (Qt (Qu (fun w hw => x_loadAgg [.int .i64 ((bs.getD j default).ev.ev.src.v), .int .i64 ((bs.getD j default).ev.ev.seq.v)] 2 ag_116 rfl (hw.blk_at (i := 0) rfl) (nbl rfl) rfl) (Qt (Qu (fun w hw => x_lookup (ek := kID) (ev := vB) (L := setOf ((bs.take j).map idOf)) (idOf (bs.getD j default)) (.bool (decide ((idOf (bs.getD j default)) ∈ ((bs.take j).map idOf)))) (MapA.at hw (i := 2) rfl) kl_116 un_134 zv_4 rfl rfl (setOf_look _ _)) (Qv (fun w hw => x_pick_f (.bool (decide ((idOf (bs.getD j default)) ∈ ((bs.take j).map idOf)))) rfl rfl w) (q_nil ?_))))))))))))))))))))))))))))
    intro w98 H99
    by_cases hb100 : (decide ((idOf (bs.getD j default)) ∈ ((bs.take j).map idOf))) = true
    ·refine g_true (congrArg Value.bool hb100) (g_seq (g_region (Ag (.int .i64 100) (r_nil (Gr [.int .i64 100] Tryz.func48 Tryz.results48 ?_)))))
     have H101 : St W w98 F := ((((((H99.drop 0 rfl).drop 0 rfl).drop 0 rfl).drop 0 rfl).drop 0 rfl).drop 0 rfl)
     have hA : ptAt bs j = 100 := by first | exact ptAt_2 t0 t11 | exact ptAt_3 (of_decide_eq_true t11) | (exact ptAt_3 (of_decide_eq_true t11)) | (refine ptAt_1 ?_; rintro (h | ⟨h, h2⟩) <;> simp_all)
     exact ⟨vint (ptE_at t0 hz t0 hA t10).symm, H101⟩
    have hb100 := eq_false_of_ne_true hb100
    refine g_false (congrArg Value.bool hb100) (g_skip (g_seq (g_region (Mv (.map (some mp13)) (Fa 1 fi_121_1 rfl (Fa 1 fi_119_0 rfl (La [.int .i64 ((bs.getD j default).ev.ev.src.v), .int .i64 ((bs.getD j default).ev.ev.seq.v)] 2 ag_116 H99 0 (rc (s_mapUpdate (ek := kID) (ev := vB) (L := setOf ((bs.take j).map idOf)) (idOf (bs.getD j default)) true H99 (i := 2) rfl kl_116 un_134 rfl rfl rfl ?_))))))))); intro w102 H103
    have H104 : St W w102 (blk bk36 (.cells #[.string ((bs.getD j default).var.v), .int .i64 ((bs.getD j default).ev.ev.src.v), .int .i64 ((bs.getD j default).ev.ev.seq.v), .int .i64 ((bs.getD j default).ev.ev.time.v), .string ((bs.getD j default).ev.ev.typ.v), .slice ((bs.getD j default).ev.p) ((bs.getD j default).ev.ev.attrs.length) ((bs.getD j default).ev.c)] 121 (0, 0)) :: imi (0 < bs.length) gA19 (.cells kA21 eA22 zA23) :: MapA mp13 (ents kID vB (setOf (addS ((bs.take j).map idOf) (idOf (bs.getD j default))))) :: blk bk8 (.cells #[.slice pp1 bs.length cc2] 24 (0, 0)) :: bndsA bs :: Im 6 (.slice pp1 bs.length cc2) bs.length (bs.flatMap bndCell) :: F) := by have h9 := H103; rw [setOf_set] at h9; exact h9
    refine r_nil (g_seq (g_region ?_))
    have hns : ¬ idOf (bs.getD j default) ∈ (bs.take j).map idOf := of_decide_eq_false hb100
    have H105 : St W w102 (blk bk36 (.cells #[.string ((bs.getD j default).var.v), .int .i64 ((bs.getD j default).ev.ev.src.v), .int .i64 ((bs.getD j default).ev.ev.seq.v), .int .i64 ((bs.getD j default).ev.ev.time.v), .string ((bs.getD j default).ev.ev.typ.v), .slice ((bs.getD j default).ev.p) ((bs.getD j default).ev.ev.attrs.length) ((bs.getD j default).ev.c)] 121 (0, 0)) :: imi (0 < bs.length) gA19 (.cells kA21 eA22 zA23) :: MapA mp13 (ents kID vB (setOf ((bs.take (j + 1)).map idOf))) :: blk bk8 (.cells #[.slice pp1 bs.length cc2] 24 (0, 0)) :: bndsA bs :: Im 6 (.slice pp1 bs.length cc2) bs.length (bs.flatMap bndCell) :: F) := by have hx := H104; rw [ids_step t0 hns] at hx; exact hx
    have H106 := bndsA_at j H105 (i := 4) rfl
    have hat4 := ptAt_4 (L := bs) (i := j) t21 t25 hns
    refine Fa 1 fi_121_1 rfl (La [.int .i64 ((bs.getD j default).ev.ev.src.v), .int .i64 ((bs.getD j default).ev.ev.seq.v), .int .i64 ((bs.getD j default).ev.ev.time.v), .string ((bs.getD j default).ev.ev.typ.v), .slice ((bs.getD j default).ev.p) ((bs.getD j default).ev.ev.attrs.length) ((bs.getD j default).ev.c)] 5 ag_119 H106 1 (rc (s_call [.agg #[.int .i64 ((bs.getD j default).ev.ev.src.v), .int .i64 ((bs.getD j default).ev.ev.seq.v), .int .i64 ((bs.getD j default).ev.ev.time.v), .string ((bs.getD j default).ev.ev.typ.v), .slice ((bs.getD j default).ev.p) ((bs.getD j default).ev.ev.attrs.length) ((bs.getD j default).ev.c)]] pl_84 rfl rfl (event_Check ((bs.getD j default).ev.ev) (.slice ((bs.getD j default).ev.p) ((bs.getD j default).ev.ev.attrs.length) ((bs.getD j default).ev.c)) (j := 0) rfl H106) ?_)))
    rintro _ w107 ⟨rfl, H108⟩
    refine Ag (.int .i64 (evE ((bs.getD j default).ev.ev))) (r_nil (g_seq (g_region (Mv (.int .i64 (evE ((bs.getD j default).ev.ev))) ?_))))
    by_cases hc109 : evE ((bs.getD j default).ev.ev) = 0
    ·refine rc (s_neq false rfl rfl (ntrue hc109) rfl (r_nil (g_false rfl (g_skip (g_inBlock (g_region (rc (s_add ((j : Int) + 1) rfl rfl (wi64 t0) rfl (Mv (.int .i64 ((j : Int) + 1)) (r_nil ?_))))))))))
     have H110 : St W w107 (_ :: _ :: _ :: _ :: _ :: F) := (((((((H108.move 6 rfl).move 6 rfl).move 6 rfl).move 6 rfl).move 6 rfl).drop 5 rfl).drop 5 rfl)
     exact nx34 (j + 1) _ _ ⟨t0, (fun q hq => (Nat.lt_or_ge q j).elim (hz q) (fun h => by rw [show q = j from by omega, hat4]; assumption)), H110⟩ t9 t2
    refine rc (s_neq true rfl rfl (nfalse hc109) rfl (r_nil (g_true rfl (g_seq (g_region (Mv (.int .i64 (evE ((bs.getD j default).ev.ev))) (Ag (.int .i64 (evE ((bs.getD j default).ev.ev))) (r_nil (Gr [.int .i64 (evE ((bs.getD j default).ev.ev))] Tryz.func48 Tryz.results48 ?_)))))))))
    have H111 : St W w107 F := (((((((H108.drop 0 rfl).drop 0 rfl).drop 0 rfl).drop 0 rfl).drop 0 rfl).drop 0 rfl).drop 0 rfl)
    exact ⟨vint (ptE_at t0 hz t0 (hat4) t11).symm, H111⟩
   refine s_eql false rfl rfl (dfalse hc78) rfl (Rh hb43 (s_pick_t (.bool false) rfl rfl rfl (rc (s_pick_f (.bool false) (by exact congrArg Value.bool hb43) rfl rfl (Ag (.bool false) (r_nil (g_seq (g_seq ?_))))))))
   refine g_quiet (fun w' => St W w' (blk bk36 (.cells #[.string ((bs.getD j default).var.v), .int .i64 ((bs.getD j default).ev.ev.src.v), .int .i64 ((bs.getD j default).ev.ev.seq.v), .int .i64 ((bs.getD j default).ev.ev.time.v), .string ((bs.getD j default).ev.ev.typ.v), .slice ((bs.getD j default).ev.p) ((bs.getD j default).ev.ev.attrs.length) ((bs.getD j default).ev.c)] 121 (0, 0)) :: imi (0 < bs.length) gA19 (.cells kA21 eA22 zA23) :: MapA mp13 (ents kID vB (setOf ((bs.take j).map idOf))) :: blk bk8 (.cells #[.slice pp1 bs.length cc2] 24 (0, 0)) :: bndsA bs :: Im 6 (.slice pp1 bs.length cc2) bs.length (bs.flatMap bndCell) :: F)) mixed t7 H42.drew ?_
   refine Qm (.bool false) (Qv (fun w hw => x_not false rfl true rfl w) (Qm (.bool true) (Qp (Qp (Qp (q_cons (q_passN rfl rfl rfl rfl (q_cons (q_passN rfl rfl rfl rfl (q_cons (q_passN rfl rfl rfl rfl (q_cons (q_passN rfl rfl rfl rfl (q_cons (q_passN rfl rfl rfl rfl (q_cons (q_passN rfl rfl rfl rfl (q_cons (q_passN rfl rfl rfl rfl (q_cons (q_passN rfl rfl rfl rfl (q_cons (q_passN rfl rfl rfl rfl (q_cons (q_passN rfl rfl rfl rfl (Qp (Qv (fun w hw => x_pick_t (.bool true) rfl rfl w) (Qm (.bool true) (Qp (Qp (Qp (Qp (Qp (Qv (fun w hw => x_pick_t (.bool true) rfl rfl w) (q_nil ?_)))))))))))))))))))))))))))))))))))
   intro w112 H113
   refine g_true rfl (g_seq (g_region (Ag (.int .i64 100) (r_nil (Gr [.int .i64 100] Tryz.func48 Tryz.results48 ?_)))))
   have H114 : St W w112 F := ((((((H113.drop 0 rfl).drop 0 rfl).drop 0 rfl).drop 0 rfl).drop 0 rfl).drop 0 rfl)
   have hA : ptAt bs j = 100 := by first | exact ptAt_2 t0 t11 | exact ptAt_3 (of_decide_eq_true t11) | (exact ptAt_3 (of_decide_eq_true t11)) | (refine ptAt_1 ?_; rintro (h | ⟨h, h2⟩) <;> simp_all)
   exact ⟨vint (ptE_at t0 hz t0 hA t10).symm, H114⟩
  refine s_seql false rfl rfl (dfalse hc77) rfl (Rh hb43 (Mw (.bool false) (Rp (Rp (Rh hb43 (s_pick_f (.bool false) rfl rfl rfl (rc (s_pick_f (.bool false) (by exact congrArg Value.bool hb43) rfl rfl (Ag (.bool false) (r_nil (g_seq (g_seq ?_))))))))))))
  refine g_quiet (fun w' => St W w' (blk bk36 (.cells #[.string ((bs.getD j default).var.v), .int .i64 ((bs.getD j default).ev.ev.src.v), .int .i64 ((bs.getD j default).ev.ev.seq.v), .int .i64 ((bs.getD j default).ev.ev.time.v), .string ((bs.getD j default).ev.ev.typ.v), .slice ((bs.getD j default).ev.p) ((bs.getD j default).ev.ev.attrs.length) ((bs.getD j default).ev.c)] 121 (0, 0)) :: imi (0 < bs.length) gA19 (.cells kA21 eA22 zA23) :: MapA mp13 (ents kID vB (setOf ((bs.take j).map idOf))) :: blk bk8 (.cells #[.slice pp1 bs.length cc2] 24 (0, 0)) :: bndsA bs :: Im 6 (.slice pp1 bs.length cc2) bs.length (bs.flatMap bndCell) :: F)) mixed t7 H42.drew ?_
  refine Qm (.bool false) (Qv (fun w hw => x_not false rfl true rfl w) (Qm (.bool true) (Qp (Qp (Qp (q_cons (q_passN rfl rfl rfl rfl (q_cons (q_passN rfl rfl rfl rfl (q_cons (q_passN rfl rfl rfl rfl (q_cons (q_passN rfl rfl rfl rfl (q_cons (q_passN rfl rfl rfl rfl (q_cons (q_passN rfl rfl rfl rfl (q_cons (q_passN rfl rfl rfl rfl (q_cons (q_passN rfl rfl rfl rfl (q_cons (q_passN rfl rfl rfl rfl (q_cons (q_passN rfl rfl rfl rfl (Qp (Qv (fun w hw => x_pick_t (.bool true) rfl rfl w) (Qm (.bool true) (Qp (Qp (Qp (Qp (Qp (Qv (fun w hw => x_pick_t (.bool true) rfl rfl w) (q_nil ?_)))))))))))))))))))))))))))))))))))
  intro w115 H116
  refine g_true rfl (g_seq (g_region (Ag (.int .i64 100) (r_nil (Gr [.int .i64 100] Tryz.func48 Tryz.results48 ?_)))))
  have H117 : St W w115 F := ((((((H116.drop 0 rfl).drop 0 rfl).drop 0 rfl).drop 0 rfl).drop 0 rfl).drop 0 rfl)
  have hA : ptAt bs j = 100 := by first | exact ptAt_2 t0 t11 | exact ptAt_3 (of_decide_eq_true t11) | (exact ptAt_3 (of_decide_eq_true t11)) | (refine ptAt_1 ?_; rintro (h | ⟨h, h2⟩) <;> simp_all)
  exact ⟨vint (ptE_at t0 hz t0 hA t10).symm, H117⟩
 refine rc (s_lss false rfl rfl (dfalse hc35) rfl (r_nil (g_seq (g_false rfl (g_exit t40 (g_seq (g_region (Ag (.int .i64 0) (r_nil (Gr [.int .i64 0] Tryz.func48 Tryz.results48 ?_))))))))))
 have H118 : St W w32 F := (((((H33.drop 0 rfl).drop 0 rfl).drop 0 rfl).drop 0 rfl).drop 0 rfl)
 exact ⟨vint (ptE_all t0 (fun q hq => hz q t0)).symm, H118⟩
set_option maxHeartbeats 4000000 in
set_option maxRecDepth 100000 in
theorem ref10_Check {W w : World} {F : List Atom} (bs : List BoundD) (bv : Value) {ip : Nat} (hp : F[ip]? = some (Im 6 bv bs.length (bs.flatMap bndCell))) {iq : Nat} (hq : F[iq]? = some (bndsA bs)) (H : St W w F) : Calls Tryz.prog 50 #[.agg #[bv]] w (Ret fun v w' => v = .int .i64 (ptE bs) ∧ St W w' F) := by
 obtain ⟨pp1, cc2, rfl, hn3⟩ := Rd.shape (Im.rd H (i := ip) hp)
 have H4 := H.dup (i := ip + 0) t56 (Im_pers _ _ _ _)
 have H5 : St W w (_ :: F) := H4
 have H6 := H5.dup (i := iq + 1) t57 (bndsA_pers _)
 have H7 : St W w (_ :: _ :: F) := H6
 have hmlb := Im.len H7 (i := 1) rfl
 refine calls_of_go (n := 83) Tryz.func50 rfl Tryz.ntmps50 rfl ?_
 refine g_seq (g_region (Bx H7 24 #[.slice pp1 bs.length cc2] (fun bk8 w9 H10 => Ag (.int .i64 0) (r_nil (g_seq (g_region (Fa 0 fi_24_0 rfl (Lo (.slice pp1 bs.length cc2) ag_22 H10 0 (Ag (.slice pp1 bs.length cc2) (r_nil (g_seq (g_seq (g_region (Mv (.slice pp1 bs.length cc2) (rc (s_len bs.length rfl ⟨_, un_22⟩ rfl ?_))))))))))))))))
 by_cases hc11 : (12 : Int) < (bs.length : Int)
 ·refine rc (s_gtr true rfl rfl (dtrue hc11) rfl (r_nil (g_true rfl (g_seq (g_region (Ag (.int .i64 100) (r_nil (Gr [.int .i64 100] Tryz.func50 Tryz.results50 ?_))))))))
  have H12 : St W w9 F := (((H10.drop 0 rfl).drop 0 rfl).drop 0 rfl)
  exact ⟨vint (ptE_long t0).symm, H12⟩
 refine rc (s_gtr false rfl rfl (dfalse hc11) rfl (r_nil (g_false rfl (g_skip (g_seq (g_seq (g_region (Ag (.int .i64 0) (r_nil (g_block ?_))))))))))
 obtain ⟨pA13, cA14, gA15, oA16, kA17, eA18, zA19, he25, hn20, hp21, hx22, hs23, hml, H24⟩ := Im.open_ H10 (i := 2) rfl
 obtain ⟨rfl, rfl⟩ : pp1 = pA13 ∧ cc2 = cA14 := by injection he25 with a_ b_ c_; exact ⟨a_, c_⟩
 refine g_loop_inv (fun (x_ : Nat) => match x_ with | j => [(2, .int .i64 0), (3, .slice pp1 bs.length cc2), (4, .int .i64 (j : Int))]) (fun (x_ : Nat) w => match x_ with | j => (j ≤ bs.length) ∧ (∀ q, q < j → ptAt bs q = 0) ∧ St W w (imi (0 < bs.length) gA15 (.cells kA17 eA18 zA19) :: blk bk8 (.cells #[.slice pp1 bs.length cc2] 24 (0, 0)) :: bndsA bs :: Im 6 (.slice pp1 bs.length cc2) bs.length (bs.flatMap bndCell) :: F)) (fun (x_ : Nat) => match x_ with | j => bs.length - j) (0) ?_ ?_ ?_
 ·exact t2
 ·exact ⟨t0, (fun q hq => by omega), H24⟩
 rintro j ρ26 w27 ⟨hjn, hz, H28⟩ nx29
 change Ends _ _ (upds ρ26 [(2, .int .i64 0), (3, .slice pp1 bs.length cc2), (4, .int .i64 (j : Int))]) w27
 refine g_seq (g_seq (g_region (Mv (.int .i64 (j : Int)) (Mv (.slice pp1 bs.length cc2) (rc (s_len bs.length rfl ⟨_, un_22⟩ rfl ?_))))))
 by_cases hc30 : (j : Int) < (bs.length : Int)
 ·refine rc (s_lss true rfl rfl (dtrue hc30) rfl (r_nil (g_true rfl (g_skip (g_seq (g_block (g_seq (g_seq ?_))))))))
  refine g_quiet (fun w' => St W w' (imi (0 < bs.length) gA15 (.cells kA17 eA18 zA19) :: blk bk8 (.cells #[.slice pp1 bs.length cc2] 24 (0, 0)) :: bndsA bs :: Im 6 (.slice pp1 bs.length cc2) bs.length (bs.flatMap bndCell) :: F)) mixed t7 H28.drew ?_
  refine Qm (.slice pp1 bs.length cc2) (Qm (.int .i64 (j : Int)) (Qv (fun w hw => x_indexAddr gA15 (off := oA16) (j : Int) 6 (oA16 + j * 6) t14 rfl el_22 t0 rfl w) (Qf (oA16 + j * 6) fi_121_0 rfl (Qv (fun w hw => x_load (.string ((bs.getD j default).var.v)) ag_9 rfl (hw.imi_at (i := 0) rfl t0) (elem_cell (L := bs) (i := j) bndCell_len (hx22 t0) t0 default 0 t10 _ rfl)) (q_cons (q_enter (args := #[.string ((bs.getD j default).var.v)]) (v := .bool (nameB ((bs.getD j default).var.v))) rfl rfl rfl (x_call pl_85 [.string ((bs.getD j default).var.v)] rfl) (fun w hw => ref03_Name ((bs.getD j default).var.v) (bs.getD j default).var.ok hw) (Qv (fun w hw => x_not (nameB ((bs.getD j default).var.v)) rfl (!(nameB ((bs.getD j default).var.v))) rfl w) (Qm (.bool (!(nameB ((bs.getD j default).var.v)))) ?_))))))))
  by_cases hb31 : (!(nameB ((bs.getD j default).var.v))) = true
  ·refine q_cons (q_take rfl (congrArg some hb31) (Qn (.slice pp1 bs.length cc2) (q_cons (q_take rfl (congrArg some hb31) (Qn (.int .i64 (j : Int)) (q_cons (q_take rfl (congrArg some hb31) (Qu (fun w hw => x_indexAddr gA15 (off := oA16) (j : Int) 6 (oA16 + j * 6) t14 rfl el_22 t0 rfl w) (q_cons (q_take rfl (congrArg some hb31) (Qu (fun w hw => x_fieldAddr 121 0 0 (oA16 + j * 6) 9 rfl fi_121_0 rfl w) (q_cons (q_take rfl (congrArg some hb31) (Qu (fun w hw => x_load (.string ((bs.getD j default).var.v)) ag_9 rfl (hw.imi_at (i := 0) rfl t0) (elem_cell (L := bs) (i := j) bndCell_len (hx22 t0) t0 default 0 t10 _ rfl)) (q_cons (q_take rfl (congrArg some hb31) ?_))))))))))))))))
   by_cases hc32 : (bs.getD j default).var.v = ByteArray.empty
   ·refine Qu (fun w hw => x_sneq false rfl rfl (ntrue hc32) w) (q_cons (q_take rfl (congrArg some hb31) (Qn (.bool false) (Qt (Qn (.slice pp1 bs.length cc2) (Qt (Qu (fun w hw => x_len bs.length rfl ⟨_, un_22⟩ w) (Qt ?_))))))))
    by_cases hc33 : (bs.length : Int) = 1
    ·refine Qu (fun w hw => x_neq false rfl rfl (ntrue hc33) w) (q_cons (q_take rfl (congrArg some hb31) (Qu (fun w hw => x_pick_f (.bool false) rfl rfl w) (Qv (fun w hw => x_pick_t (.bool false) (by exact congrArg Value.bool hb31) rfl w) (Qm (.bool false) (Qt (Qn (.int .i64 (j : Int)) (Qt ?_))))))))
     by_cases hc34 : (0 : Int) < (j : Int)
     ·refine Qu (fun w hw => x_gtr true rfl rfl (dtrue hc34) w) (Qt (Qn (.bool true) (Qt (Qn (.slice pp1 bs.length cc2) (Qt (Qn (.int .i64 (j : Int)) (Qt (Qu (fun w hw => x_indexAddr gA15 (off := oA16) (j : Int) 6 (oA16 + j * 6) t14 rfl el_22 t0 rfl w) (Qt (Qu (fun w hw => x_fieldAddr 121 0 0 (oA16 + j * 6) 9 rfl fi_121_0 rfl w) (Qt (Qu (fun w hw => x_load (.string ((bs.getD j default).var.v)) ag_9 rfl (hw.imi_at (i := 0) rfl t0) (elem_cell (L := bs) (i := j) bndCell_len (hx22 t0) t0 default 0 t10 _ rfl)) (Qt (Qn (.slice pp1 bs.length cc2) (Qt (Qn (.int .i64 (j : Int)) (Qt (Qu (fun w hw => x_sub ((j : Int) - 1) rfl rfl (wi64 t0) w) (Qt (Qu (fun w hw => x_indexAddr gA15 (off := oA16) ((j : Int) - 1) 6 (oA16 + (j - 1) * 6) t14 rfl el_22 t0 t48 w) (Qt (Qu (fun w hw => x_fieldAddr 121 0 0 (oA16 + (j - 1) * 6) 9 rfl fi_121_0 rfl w) (Qt (Qu (fun w hw => x_load (.string ((bs.getD (j - 1) default).var.v)) ag_9 rfl (hw.imi_at (i := 0) rfl t0) (elem_cell (L := bs) (i := j - 1) bndCell_len (hx22 t0) t0 default 0 t10 _ rfl)) (Qt (Qu (fun w hw => x_sleq ((sLt ((bs.getD j default).var.v) ((bs.getD (j - 1) default).var.v) || decide (((bs.getD j default).var.v) = ((bs.getD (j - 1) default).var.v)))) rfl rfl rfl w) (Qt (Qu (fun w hw => x_pick_t (.bool (sLt ((bs.getD j default).var.v) ((bs.getD (j - 1) default).var.v) || decide (((bs.getD j default).var.v) = ((bs.getD (j - 1) default).var.v)))) rfl rfl w) (Qv (fun w hw => x_pick_f (.bool (sLt ((bs.getD j default).var.v) ((bs.getD (j - 1) default).var.v) || decide (((bs.getD j default).var.v) = ((bs.getD (j - 1) default).var.v)))) rfl rfl w) (q_nil ?_))))))))))))))))))))))))))))))
      intro w35 H36
      by_cases hb37 : ((sLt ((bs.getD j default).var.v) ((bs.getD (j - 1) default).var.v) || decide (((bs.getD j default).var.v) = ((bs.getD (j - 1) default).var.v)))) = true
      ·refine g_true (congrArg Value.bool hb37) (g_seq (g_region (Ag (.int .i64 100) (r_nil (Gr [.int .i64 100] Tryz.func50 Tryz.results50 ?_)))))
       have H38 : St W w35 F := ((((H36.drop 0 rfl).drop 0 rfl).drop 0 rfl).drop 0 rfl)
       have hA : ptAt bs j = 100 := by first | exact ptAt_2 t0 t11 | exact ptAt_3 (of_decide_eq_true t11) | (exact ptAt_3 (ids_yes (q := k) t0 t0 (idOf_eq.2 (by simpa using hz)))) | (refine ptAt_1 ?_; rintro (h | ⟨h, h2⟩) <;> simp_all)
       exact ⟨vint (ptE_at t0 hz t0 hA t10).symm, H38⟩
      have hb37 := eq_false_of_ne_true hb37
      refine g_false (congrArg Value.bool hb37) (g_skip (g_seq (g_seq (g_region (Ag (.int .i64 0) (r_nil (g_block ?_)))))))
      refine g_loop_inv (fun (x_ : Nat) => match x_ with | k => [(2, .int .i64 0), (3, .slice pp1 bs.length cc2), (4, .int .i64 (j : Int)), (5, .int .i64 (k : Int))]) (fun (x_ : Nat) w => match x_ with | k => (k ≤ j) ∧ (∀ q, q < k → ¬ idOf (bs.getD q default) = idOf (bs.getD j default)) ∧ St W w (imi (0 < bs.length) gA15 (.cells kA17 eA18 zA19) :: blk bk8 (.cells #[.slice pp1 bs.length cc2] 24 (0, 0)) :: bndsA bs :: Im 6 (.slice pp1 bs.length cc2) bs.length (bs.flatMap bndCell) :: F)) (fun (x_ : Nat) => match x_ with | k => j - k) (0) ?_ ?_ ?_
      ·exact t2
      ·exact ⟨t0, (fun q hq => by omega), H36⟩
      rintro k ρ39 w40 ⟨hkj, hd, H41⟩ nx42
      change Ends _ _ (upds ρ39 [(2, .int .i64 0), (3, .slice pp1 bs.length cc2), (4, .int .i64 (j : Int)), (5, .int .i64 (k : Int))]) w40
      refine g_seq (g_seq (g_region (Mv (.int .i64 (k : Int)) (Mv (.int .i64 (j : Int)) ?_))))
      by_cases hc43 : (k : Int) < (j : Int)
      ·refine rc (s_lss true rfl rfl (dtrue hc43) rfl (r_nil (g_true rfl (g_skip (g_seq (g_block (g_seq ?_)))))))
       refine g_quiet (fun w' => St W w' (imi (0 < bs.length) gA15 (.cells kA17 eA18 zA19) :: blk bk8 (.cells #[.slice pp1 bs.length cc2] 24 (0, 0)) :: bndsA bs :: Im 6 (.slice pp1 bs.length cc2) bs.length (bs.flatMap bndCell) :: F)) mixed t7 H41.drew ?_
       refine Qm (.slice pp1 bs.length cc2) (Qm (.int .i64 (k : Int)) (Qv (fun w hw => x_indexAddr gA15 (off := oA16) (k : Int) 6 (oA16 + k * 6) t14 rfl el_22 t0 rfl w) (Qf (oA16 + k * 6 + 1) fi_121_1 rfl (Qf (oA16 + k * 6 + 1) fi_119_0 rfl (Qv (fun w hw => x_loadAgg [.int .i64 ((bs.getD k default).ev.ev.src.v), .int .i64 ((bs.getD k default).ev.ev.seq.v)] 2 ag_116 rfl (hw.imi_at (i := 0) rfl t0) t51 (elem_sub bndCell_len (hx22 t0) t0 default 1 2 t10)) (Qm (.slice pp1 bs.length cc2) (Qm (.int .i64 (j : Int)) (Qv (fun w hw => x_indexAddr gA15 (off := oA16) (j : Int) 6 (oA16 + j * 6) t14 rfl el_22 t0 rfl w) (Qf (oA16 + j * 6 + 1) fi_121_1 rfl (Qf (oA16 + j * 6 + 1) fi_119_0 rfl (Qv (fun w hw => x_loadAgg [.int .i64 ((bs.getD j default).ev.ev.src.v), .int .i64 ((bs.getD j default).ev.ev.seq.v)] 2 ag_116 rfl (hw.imi_at (i := 0) rfl t0) t32 (elem_sub bndCell_len (hx22 t0) t0 default 1 2 t10)) (Qv (fun w hw => x_aeql ((decide ((bs.getD k default).ev.ev.src.v = (bs.getD j default).ev.ev.src.v) && (decide ((bs.getD k default).ev.ev.seq.v = (bs.getD j default).ev.ev.seq.v) && true))) gd_116 ev_116 rfl rfl rfl w) (q_nil ?_)))))))))))))
       intro w44 H45
       by_cases hb46 : ((decide ((bs.getD k default).ev.ev.src.v = (bs.getD j default).ev.ev.src.v) && (decide ((bs.getD k default).ev.ev.seq.v = (bs.getD j default).ev.ev.seq.v) && true))) = true
       ·refine g_true (congrArg Value.bool hb46) (g_seq (g_region (Ag (.int .i64 100) (r_nil (Gr [.int .i64 100] Tryz.func50 Tryz.results50 ?_)))))
        have H47 : St W w44 F := ((((H45.drop 0 rfl).drop 0 rfl).drop 0 rfl).drop 0 rfl)
        have hA : ptAt bs j = 100 := by first | exact ptAt_2 t0 t11 | exact ptAt_3 (of_decide_eq_true t11) | (exact ptAt_3 (ids_yes (q := k) t0 t0 (idOf_eq.2 (by simpa using hb46)))) | (refine ptAt_1 ?_; rintro (h | ⟨h, h2⟩) <;> simp_all)
        exact ⟨vint (ptE_at t0 hz t0 hA t10).symm, H47⟩
       have hb46 := eq_false_of_ne_true hb46
       refine g_false (congrArg Value.bool hb46) (g_skip (g_inBlock (g_region (Mv (.int .i64 (k : Int)) (rc (s_add ((k : Int) + 1) rfl rfl (wi64 t0) rfl (Ag (.int .i64 ((k : Int) + 1)) (r_nil ?_))))))))
       have H48 : St W w44 (_ :: _ :: _ :: _ :: F) := ((((H45.move 3 rfl).move 3 rfl).move 3 rfl).move 3 rfl)
       exact nx42 (k + 1) _ _ ⟨t0, (fun q hq => (Nat.lt_or_ge q k).elim (hd q) (fun h => by rw [show q = k from by omega, idOf_eq]; simpa using hb46)), H48⟩ t9 t2
      refine rc (s_lss false rfl rfl (dfalse hc43) rfl (r_nil (g_false rfl (g_exit t40 (g_seq (g_region ?_))))))
      have hns : ¬ idOf (bs.getD j default) ∈ (bs.take j).map idOf := ids_no (k := k) t0 t0 hd
      have H49 := bndsA_at j H41 (i := 2) rfl
      have hat4 := ptAt_4 (L := bs) (i := j) t21 t25 hns
      refine Mv (.slice pp1 bs.length cc2) (Mv (.int .i64 (j : Int)) (rc (s_indexAddr gA15 (off := oA16) (j : Int) 6 (oA16 + j * 6) t14 rfl el_22 t0 rfl rfl (Fa (oA16 + j * 6 + 1) fi_121_1 rfl (rc (s_loadAgg [.int .i64 ((bs.getD j default).ev.ev.src.v), .int .i64 ((bs.getD j default).ev.ev.seq.v), .int .i64 ((bs.getD j default).ev.ev.time.v), .string ((bs.getD j default).ev.ev.typ.v), .slice ((bs.getD j default).ev.p) ((bs.getD j default).ev.ev.attrs.length) ((bs.getD j default).ev.c)] 5 ag_119 rfl (H49.imi_at (i := 1) rfl t0) t32 (elem_sub bndCell_len (hx22 t0) t0 default 1 5 t10) rfl (rc (s_call [.agg #[.int .i64 ((bs.getD j default).ev.ev.src.v), .int .i64 ((bs.getD j default).ev.ev.seq.v), .int .i64 ((bs.getD j default).ev.ev.time.v), .string ((bs.getD j default).ev.ev.typ.v), .slice ((bs.getD j default).ev.p) ((bs.getD j default).ev.ev.attrs.length) ((bs.getD j default).ev.c)]] pl_86 rfl rfl (ref04_Check ((bs.getD j default).ev.ev) (.slice ((bs.getD j default).ev.p) ((bs.getD j default).ev.ev.attrs.length) ((bs.getD j default).ev.c)) (j := 0) rfl H49) ?_))))))))
      rintro _ w50 ⟨rfl, H51⟩
      refine Ag (.int .i64 (evE ((bs.getD j default).ev.ev))) (r_nil (g_seq (g_region (Mv (.int .i64 (evE ((bs.getD j default).ev.ev))) ?_))))
      by_cases hc52 : evE ((bs.getD j default).ev.ev) = 0
      ·refine rc (s_neq false rfl rfl (ntrue hc52) rfl (r_nil (g_false rfl (g_skip (g_inBlock (g_region (Mv (.int .i64 (j : Int)) (rc (s_add ((j : Int) + 1) rfl rfl (wi64 t0) rfl (Ag (.int .i64 ((j : Int) + 1)) (r_nil ?_)))))))))))
       have H53 : St W w50 (_ :: _ :: _ :: _ :: F) := (((((H51.move 4 rfl).move 4 rfl).move 4 rfl).move 4 rfl).drop 4 rfl)
       exact nx29 (j + 1) _ _ ⟨t0, (fun q hq => (Nat.lt_or_ge q j).elim (hz q) (fun h => by rw [show q = j from by omega, hat4]; assumption)), H53⟩ t9 t2
      refine rc (s_neq true rfl rfl (nfalse hc52) rfl (r_nil (g_true rfl (g_seq (g_region (Mv (.int .i64 (evE ((bs.getD j default).ev.ev))) (Ag (.int .i64 (evE ((bs.getD j default).ev.ev))) (r_nil (Gr [.int .i64 (evE ((bs.getD j default).ev.ev))] Tryz.func50 Tryz.results50 ?_)))))))))
      have H54 : St W w50 F := (((((H51.drop 0 rfl).drop 0 rfl).drop 0 rfl).drop 0 rfl).drop 0 rfl)
      exact ⟨vint (ptE_at t0 hz t0 (hat4) t11).symm, H54⟩
     refine Qu (fun w hw => x_gtr false rfl rfl (dfalse hc34) w) (Qt (Qn (.bool false) (Qp (Qp (Qp (Qp (Qp (Qp (Qp (Qp (Qp (Qp (Qp (Qp (Qt (Qu (fun w hw => x_pick_f (.bool false) rfl rfl w) (Qv (fun w hw => x_pick_f (.bool false) rfl rfl w) (q_nil ?_))))))))))))))))))
     intro w55 H56
     refine g_false rfl (g_skip (g_seq (g_seq (g_region (Ag (.int .i64 0) (r_nil (g_block ?_)))))))
     refine g_loop_inv (fun (x_ : Nat) => match x_ with | k => [(2, .int .i64 0), (3, .slice pp1 bs.length cc2), (4, .int .i64 (j : Int)), (5, .int .i64 (k : Int))]) (fun (x_ : Nat) w => match x_ with | k => (k ≤ j) ∧ (∀ q, q < k → ¬ idOf (bs.getD q default) = idOf (bs.getD j default)) ∧ St W w (imi (0 < bs.length) gA15 (.cells kA17 eA18 zA19) :: blk bk8 (.cells #[.slice pp1 bs.length cc2] 24 (0, 0)) :: bndsA bs :: Im 6 (.slice pp1 bs.length cc2) bs.length (bs.flatMap bndCell) :: F)) (fun (x_ : Nat) => match x_ with | k => j - k) (0) ?_ ?_ ?_
     ·exact t2
     ·exact ⟨t0, (fun q hq => by omega), H56⟩
     rintro k ρ57 w58 ⟨hkj, hd, H59⟩ nx60
     change Ends _ _ (upds ρ57 [(2, .int .i64 0), (3, .slice pp1 bs.length cc2), (4, .int .i64 (j : Int)), (5, .int .i64 (k : Int))]) w58
     refine g_seq (g_seq (g_region (Mv (.int .i64 (k : Int)) (Mv (.int .i64 (j : Int)) ?_))))
     by_cases hc61 : (k : Int) < (j : Int)
     ·refine rc (s_lss true rfl rfl (dtrue hc61) rfl (r_nil (g_true rfl (g_skip (g_seq (g_block (g_seq ?_)))))))
      refine g_quiet (fun w' => St W w' (imi (0 < bs.length) gA15 (.cells kA17 eA18 zA19) :: blk bk8 (.cells #[.slice pp1 bs.length cc2] 24 (0, 0)) :: bndsA bs :: Im 6 (.slice pp1 bs.length cc2) bs.length (bs.flatMap bndCell) :: F)) mixed t7 H59.drew ?_
      refine Qm (.slice pp1 bs.length cc2) (Qm (.int .i64 (k : Int)) (Qv (fun w hw => x_indexAddr gA15 (off := oA16) (k : Int) 6 (oA16 + k * 6) t14 rfl el_22 t0 rfl w) (Qf (oA16 + k * 6 + 1) fi_121_1 rfl (Qf (oA16 + k * 6 + 1) fi_119_0 rfl (Qv (fun w hw => x_loadAgg [.int .i64 ((bs.getD k default).ev.ev.src.v), .int .i64 ((bs.getD k default).ev.ev.seq.v)] 2 ag_116 rfl (hw.imi_at (i := 0) rfl t0) t51 (elem_sub bndCell_len (hx22 t0) t0 default 1 2 t10)) (Qm (.slice pp1 bs.length cc2) (Qm (.int .i64 (j : Int)) (Qv (fun w hw => x_indexAddr gA15 (off := oA16) (j : Int) 6 (oA16 + j * 6) t14 rfl el_22 t0 rfl w) (Qf (oA16 + j * 6 + 1) fi_121_1 rfl (Qf (oA16 + j * 6 + 1) fi_119_0 rfl (Qv (fun w hw => x_loadAgg [.int .i64 ((bs.getD j default).ev.ev.src.v), .int .i64 ((bs.getD j default).ev.ev.seq.v)] 2 ag_116 rfl (hw.imi_at (i := 0) rfl t0) t32 (elem_sub bndCell_len (hx22 t0) t0 default 1 2 t10)) (Qv (fun w hw => x_aeql ((decide ((bs.getD k default).ev.ev.src.v = (bs.getD j default).ev.ev.src.v) && (decide ((bs.getD k default).ev.ev.seq.v = (bs.getD j default).ev.ev.seq.v) && true))) gd_116 ev_116 rfl rfl rfl w) (q_nil ?_)))))))))))))
      intro w62 H63
      by_cases hb64 : ((decide ((bs.getD k default).ev.ev.src.v = (bs.getD j default).ev.ev.src.v) && (decide ((bs.getD k default).ev.ev.seq.v = (bs.getD j default).ev.ev.seq.v) && true))) = true
      ·refine g_true (congrArg Value.bool hb64) (g_seq (g_region (Ag (.int .i64 100) (r_nil (Gr [.int .i64 100] Tryz.func50 Tryz.results50 ?_)))))
       have H65 : St W w62 F := ((((H63.drop 0 rfl).drop 0 rfl).drop 0 rfl).drop 0 rfl)
       have hA : ptAt bs j = 100 := by first | exact ptAt_2 t0 t11 | exact ptAt_3 (of_decide_eq_true t11) | (exact ptAt_3 (ids_yes (q := k) t0 t0 (idOf_eq.2 (by simpa using hb64)))) | (refine ptAt_1 ?_; rintro (h | ⟨h, h2⟩) <;> simp_all)
       exact ⟨vint (ptE_at t0 hz t0 hA t10).symm, H65⟩
      have hb64 := eq_false_of_ne_true hb64
      refine g_false (congrArg Value.bool hb64) (g_skip (g_inBlock (g_region (Mv (.int .i64 (k : Int)) (rc (s_add ((k : Int) + 1) rfl rfl (wi64 t0) rfl (Ag (.int .i64 ((k : Int) + 1)) (r_nil ?_))))))))
      have H66 : St W w62 (_ :: _ :: _ :: _ :: F) := ((((H63.move 3 rfl).move 3 rfl).move 3 rfl).move 3 rfl)
      exact nx60 (k + 1) _ _ ⟨t0, (fun q hq => (Nat.lt_or_ge q k).elim (hd q) (fun h => by rw [show q = k from by omega, idOf_eq]; simpa using hb64)), H66⟩ t9 t2
     refine rc (s_lss false rfl rfl (dfalse hc61) rfl (r_nil (g_false rfl (g_exit t40 (g_seq (g_region ?_))))))
     have hns : ¬ idOf (bs.getD j default) ∈ (bs.take j).map idOf := ids_no (k := k) t0 t0 hd
     have H67 := bndsA_at j H59 (i := 2) rfl
     have hat4 := ptAt_4 (L := bs) (i := j) t21 t25 hns
     refine Mv (.slice pp1 bs.length cc2) (Mv (.int .i64 (j : Int)) (rc (s_indexAddr gA15 (off := oA16) (j : Int) 6 (oA16 + j * 6) t14 rfl el_22 t0 rfl rfl (Fa (oA16 + j * 6 + 1) fi_121_1 rfl (rc (s_loadAgg [.int .i64 ((bs.getD j default).ev.ev.src.v), .int .i64 ((bs.getD j default).ev.ev.seq.v), .int .i64 ((bs.getD j default).ev.ev.time.v), .string ((bs.getD j default).ev.ev.typ.v), .slice ((bs.getD j default).ev.p) ((bs.getD j default).ev.ev.attrs.length) ((bs.getD j default).ev.c)] 5 ag_119 rfl (H67.imi_at (i := 1) rfl t0) t32 (elem_sub bndCell_len (hx22 t0) t0 default 1 5 t10) rfl (rc (s_call [.agg #[.int .i64 ((bs.getD j default).ev.ev.src.v), .int .i64 ((bs.getD j default).ev.ev.seq.v), .int .i64 ((bs.getD j default).ev.ev.time.v), .string ((bs.getD j default).ev.ev.typ.v), .slice ((bs.getD j default).ev.p) ((bs.getD j default).ev.ev.attrs.length) ((bs.getD j default).ev.c)]] pl_86 rfl rfl (ref04_Check ((bs.getD j default).ev.ev) (.slice ((bs.getD j default).ev.p) ((bs.getD j default).ev.ev.attrs.length) ((bs.getD j default).ev.c)) (j := 0) rfl H67) ?_))))))))
     rintro _ w68 ⟨rfl, H69⟩
     refine Ag (.int .i64 (evE ((bs.getD j default).ev.ev))) (r_nil (g_seq (g_region (Mv (.int .i64 (evE ((bs.getD j default).ev.ev))) ?_))))
     by_cases hc70 : evE ((bs.getD j default).ev.ev) = 0
     ·refine rc (s_neq false rfl rfl (ntrue hc70) rfl (r_nil (g_false rfl (g_skip (g_inBlock (g_region (Mv (.int .i64 (j : Int)) (rc (s_add ((j : Int) + 1) rfl rfl (wi64 t0) rfl (Ag (.int .i64 ((j : Int) + 1)) (r_nil ?_)))))))))))
      have H71 : St W w68 (_ :: _ :: _ :: _ :: F) := (((((H69.move 4 rfl).move 4 rfl).move 4 rfl).move 4 rfl).drop 4 rfl)
      exact nx29 (j + 1) _ _ ⟨t0, (fun q hq => (Nat.lt_or_ge q j).elim (hz q) (fun h => by rw [show q = j from by omega, hat4]; assumption)), H71⟩ t9 t2
     refine rc (s_neq true rfl rfl (nfalse hc70) rfl (r_nil (g_true rfl (g_seq (g_region (Mv (.int .i64 (evE ((bs.getD j default).ev.ev))) (Ag (.int .i64 (evE ((bs.getD j default).ev.ev))) (r_nil (Gr [.int .i64 (evE ((bs.getD j default).ev.ev))] Tryz.func50 Tryz.results50 ?_)))))))))
     have H72 : St W w68 F := (((((H69.drop 0 rfl).drop 0 rfl).drop 0 rfl).drop 0 rfl).drop 0 rfl)
     exact ⟨vint (ptE_at t0 hz t0 (hat4) t11).symm, H72⟩
    refine Qu (fun w hw => x_neq true rfl rfl (nfalse hc33) w) (q_cons (q_take rfl (congrArg some hb31) (Qu (fun w hw => x_pick_f (.bool true) rfl rfl w) (Qv (fun w hw => x_pick_t (.bool true) (by exact congrArg Value.bool hb31) rfl w) (Qm (.bool true) (Qp (Qp (Qp (q_cons (q_passN rfl rfl rfl rfl (q_cons (q_passN rfl rfl rfl rfl (q_cons (q_passN rfl rfl rfl rfl (q_cons (q_passN rfl rfl rfl rfl (q_cons (q_passN rfl rfl rfl rfl (q_cons (q_passN rfl rfl rfl rfl (q_cons (q_passN rfl rfl rfl rfl (q_cons (q_passN rfl rfl rfl rfl (q_cons (q_passN rfl rfl rfl rfl (q_cons (q_passN rfl rfl rfl rfl (q_cons (q_passN rfl rfl rfl rfl (q_cons (q_passN rfl rfl rfl rfl (Qp (Qv (fun w hw => x_pick_t (.bool true) rfl rfl w) (q_nil ?_)))))))))))))))))))))))))))))))))))
    intro w73 H74
    refine g_true rfl (g_seq (g_region (Ag (.int .i64 100) (r_nil (Gr [.int .i64 100] Tryz.func50 Tryz.results50 ?_)))))
    have H75 : St W w73 F := ((((H74.drop 0 rfl).drop 0 rfl).drop 0 rfl).drop 0 rfl)
    have hA : ptAt bs j = 100 := by first | exact ptAt_2 t0 t11 | exact ptAt_3 (of_decide_eq_true t11) | (exact ptAt_3 (ids_yes (q := k) t0 t0 (idOf_eq.2 (by simpa using hz)))) | (refine ptAt_1 ?_; rintro (h | ⟨h, h2⟩) <;> simp_all)
    exact ⟨vint (ptE_at t0 hz t0 hA t10).symm, H75⟩
   refine Qu (fun w hw => x_sneq true rfl rfl (nfalse hc32) w) (q_cons (q_take rfl (congrArg some hb31) (Qn (.bool true) (Qp (Qp (Qp (q_cons (q_take rfl (congrArg some hb31) (Qu (fun w hw => x_pick_t (.bool true) rfl rfl w) (Qv (fun w hw => x_pick_t (.bool true) (by exact congrArg Value.bool hb31) rfl w) (Qm (.bool true) (Qp (Qp (Qp (q_cons (q_passN rfl rfl rfl rfl (q_cons (q_passN rfl rfl rfl rfl (q_cons (q_passN rfl rfl rfl rfl (q_cons (q_passN rfl rfl rfl rfl (q_cons (q_passN rfl rfl rfl rfl (q_cons (q_passN rfl rfl rfl rfl (q_cons (q_passN rfl rfl rfl rfl (q_cons (q_passN rfl rfl rfl rfl (q_cons (q_passN rfl rfl rfl rfl (q_cons (q_passN rfl rfl rfl rfl (q_cons (q_passN rfl rfl rfl rfl (q_cons (q_passN rfl rfl rfl rfl (Qp (Qv (fun w hw => x_pick_t (.bool true) rfl rfl w) (q_nil ?_)))))))))))))))))))))))))))))))))))))))))
   intro w76 H77
   refine g_true rfl (g_seq (g_region (Ag (.int .i64 100) (r_nil (Gr [.int .i64 100] Tryz.func50 Tryz.results50 ?_)))))
   have H78 : St W w76 F := ((((H77.drop 0 rfl).drop 0 rfl).drop 0 rfl).drop 0 rfl)
   have hA : ptAt bs j = 100 := by first | exact ptAt_2 t0 t11 | exact ptAt_3 (of_decide_eq_true t11) | (exact ptAt_3 (ids_yes (q := k) t0 t0 (idOf_eq.2 (by simpa using hz)))) | (refine ptAt_1 ?_; rintro (h | ⟨h, h2⟩) <;> simp_all)
   exact ⟨vint (ptE_at t0 hz t0 hA t10).symm, H78⟩
  have hb31 := eq_false_of_ne_true hb31
  refine Qh hb31 (Qh hb31 (Qh hb31 (Qh hb31 (Qh hb31 (Qh hb31 (Qh hb31 (q_cons (q_passN rfl rfl rfl rfl (q_cons (q_passN rfl rfl rfl rfl (q_cons (q_passN rfl rfl rfl rfl (Qh hb31 (Qv (fun w hw => x_pick_f (.bool false) (by exact congrArg Value.bool hb31) rfl w) (Qm (.bool false) (Qt (Qn (.int .i64 (j : Int)) (Qt ?_))))))))))))))))))
  by_cases hc79 : (0 : Int) < (j : Int)
  ·refine Qu (fun w hw => x_gtr true rfl rfl (dtrue hc79) w) (Qt (Qn (.bool true) (Qt (Qn (.slice pp1 bs.length cc2) (Qt (Qn (.int .i64 (j : Int)) (Qt (Qu (fun w hw => x_indexAddr gA15 (off := oA16) (j : Int) 6 (oA16 + j * 6) t14 rfl el_22 t0 rfl w) (Qt (Qu (fun w hw => x_fieldAddr 121 0 0 (oA16 + j * 6) 9 rfl fi_121_0 rfl w) (Qt (Qu (fun w hw => x_load (.string ((bs.getD j default).var.v)) ag_9 rfl (hw.imi_at (i := 0) rfl t0) (elem_cell (L := bs) (i := j) bndCell_len (hx22 t0) t0 default 0 t10 _ rfl)) (Qt (Qn (.slice pp1 bs.length cc2) (Qt (Qn (.int .i64 (j : Int)) (Qt (Qu (fun w hw => x_sub ((j : Int) - 1) rfl rfl (wi64 t0) w) (Qt (Qu (fun w hw => x_indexAddr gA15 (off := oA16) ((j : Int) - 1) 6 (oA16 + (j - 1) * 6) t14 rfl el_22 t0 t48 w) (Qt (Qu (fun w hw => x_fieldAddr 121 0 0 (oA16 + (j - 1) * 6) 9 rfl fi_121_0 rfl w) (Qt (Qu (fun w hw => x_load (.string ((bs.getD (j - 1) default).var.v)) ag_9 rfl (hw.imi_at (i := 0) rfl t0) (elem_cell (L := bs) (i := j - 1) bndCell_len (hx22 t0) t0 default 0 t10 _ rfl)) (Qt (Qu (fun w hw => x_sleq ((sLt ((bs.getD j default).var.v) ((bs.getD (j - 1) default).var.v) || decide (((bs.getD j default).var.v) = ((bs.getD (j - 1) default).var.v)))) rfl rfl rfl w) (Qt (Qu (fun w hw => x_pick_t (.bool (sLt ((bs.getD j default).var.v) ((bs.getD (j - 1) default).var.v) || decide (((bs.getD j default).var.v) = ((bs.getD (j - 1) default).var.v)))) rfl rfl w) (Qv (fun w hw => x_pick_f (.bool (sLt ((bs.getD j default).var.v) ((bs.getD (j - 1) default).var.v) || decide (((bs.getD j default).var.v) = ((bs.getD (j - 1) default).var.v)))) rfl rfl w) (q_nil ?_))))))))))))))))))))))))))))))
   intro w80 H81
   by_cases hb82 : ((sLt ((bs.getD j default).var.v) ((bs.getD (j - 1) default).var.v) || decide (((bs.getD j default).var.v) = ((bs.getD (j - 1) default).var.v)))) = true
   ·refine g_true (congrArg Value.bool hb82) (g_seq (g_region (Ag (.int .i64 100) (r_nil (Gr [.int .i64 100] Tryz.func50 Tryz.results50 ?_)))))
    have H83 : St W w80 F := ((((H81.drop 0 rfl).drop 0 rfl).drop 0 rfl).drop 0 rfl)
    have hA : ptAt bs j = 100 := by first | exact ptAt_2 t0 t11 | exact ptAt_3 (of_decide_eq_true t11) | (exact ptAt_3 (ids_yes (q := k) t0 t0 (idOf_eq.2 (by simpa using hz)))) | (refine ptAt_1 ?_; rintro (h | ⟨h, h2⟩) <;> simp_all)
    exact ⟨vint (ptE_at t0 hz t0 hA t10).symm, H83⟩
   have hb82 := eq_false_of_ne_true hb82
   refine g_false (congrArg Value.bool hb82) (g_skip (g_seq (g_seq (g_region (Ag (.int .i64 0) (r_nil (g_block ?_)))))))
   refine g_loop_inv (fun (x_ : Nat) => match x_ with | k => [(2, .int .i64 0), (3, .slice pp1 bs.length cc2), (4, .int .i64 (j : Int)), (5, .int .i64 (k : Int))]) (fun (x_ : Nat) w => match x_ with | k => (k ≤ j) ∧ (∀ q, q < k → ¬ idOf (bs.getD q default) = idOf (bs.getD j default)) ∧ St W w (imi (0 < bs.length) gA15 (.cells kA17 eA18 zA19) :: blk bk8 (.cells #[.slice pp1 bs.length cc2] 24 (0, 0)) :: bndsA bs :: Im 6 (.slice pp1 bs.length cc2) bs.length (bs.flatMap bndCell) :: F)) (fun (x_ : Nat) => match x_ with | k => j - k) (0) ?_ ?_ ?_
   ·exact t2
   ·exact ⟨t0, (fun q hq => by omega), H81⟩
   rintro k ρ84 w85 ⟨hkj, hd, H86⟩ nx87
   change Ends _ _ (upds ρ84 [(2, .int .i64 0), (3, .slice pp1 bs.length cc2), (4, .int .i64 (j : Int)), (5, .int .i64 (k : Int))]) w85
   refine g_seq (g_seq (g_region (Mv (.int .i64 (k : Int)) (Mv (.int .i64 (j : Int)) ?_))))
   by_cases hc88 : (k : Int) < (j : Int)
   ·refine rc (s_lss true rfl rfl (dtrue hc88) rfl (r_nil (g_true rfl (g_skip (g_seq (g_block (g_seq ?_)))))))
    refine g_quiet (fun w' => St W w' (imi (0 < bs.length) gA15 (.cells kA17 eA18 zA19) :: blk bk8 (.cells #[.slice pp1 bs.length cc2] 24 (0, 0)) :: bndsA bs :: Im 6 (.slice pp1 bs.length cc2) bs.length (bs.flatMap bndCell) :: F)) mixed t7 H86.drew ?_
    refine Qm (.slice pp1 bs.length cc2) (Qm (.int .i64 (k : Int)) (Qv (fun w hw => x_indexAddr gA15 (off := oA16) (k : Int) 6 (oA16 + k * 6) t14 rfl el_22 t0 rfl w) (Qf (oA16 + k * 6 + 1) fi_121_1 rfl (Qf (oA16 + k * 6 + 1) fi_119_0 rfl (Qv (fun w hw => x_loadAgg [.int .i64 ((bs.getD k default).ev.ev.src.v), .int .i64 ((bs.getD k default).ev.ev.seq.v)] 2 ag_116 rfl (hw.imi_at (i := 0) rfl t0) t51 (elem_sub bndCell_len (hx22 t0) t0 default 1 2 t10)) (Qm (.slice pp1 bs.length cc2) (Qm (.int .i64 (j : Int)) (Qv (fun w hw => x_indexAddr gA15 (off := oA16) (j : Int) 6 (oA16 + j * 6) t14 rfl el_22 t0 rfl w) (Qf (oA16 + j * 6 + 1) fi_121_1 rfl (Qf (oA16 + j * 6 + 1) fi_119_0 rfl (Qv (fun w hw => x_loadAgg [.int .i64 ((bs.getD j default).ev.ev.src.v), .int .i64 ((bs.getD j default).ev.ev.seq.v)] 2 ag_116 rfl (hw.imi_at (i := 0) rfl t0) t32 (elem_sub bndCell_len (hx22 t0) t0 default 1 2 t10)) (Qv (fun w hw => x_aeql ((decide ((bs.getD k default).ev.ev.src.v = (bs.getD j default).ev.ev.src.v) && (decide ((bs.getD k default).ev.ev.seq.v = (bs.getD j default).ev.ev.seq.v) && true))) gd_116 ev_116 rfl rfl rfl w) (q_nil ?_)))))))))))))
    intro w89 H90
    by_cases hb91 : ((decide ((bs.getD k default).ev.ev.src.v = (bs.getD j default).ev.ev.src.v) && (decide ((bs.getD k default).ev.ev.seq.v = (bs.getD j default).ev.ev.seq.v) && true))) = true
    ·refine g_true (congrArg Value.bool hb91) (g_seq (g_region (Ag (.int .i64 100) (r_nil (Gr [.int .i64 100] Tryz.func50 Tryz.results50 ?_)))))
     have H92 : St W w89 F := ((((H90.drop 0 rfl).drop 0 rfl).drop 0 rfl).drop 0 rfl)
     have hA : ptAt bs j = 100 := by first | exact ptAt_2 t0 t11 | exact ptAt_3 (of_decide_eq_true t11) | (exact ptAt_3 (ids_yes (q := k) t0 t0 (idOf_eq.2 (by simpa using hb91)))) | (refine ptAt_1 ?_; rintro (h | ⟨h, h2⟩) <;> simp_all)
     exact ⟨vint (ptE_at t0 hz t0 hA t10).symm, H92⟩
    have hb91 := eq_false_of_ne_true hb91
    refine g_false (congrArg Value.bool hb91) (g_skip (g_inBlock (g_region (Mv (.int .i64 (k : Int)) (rc (s_add ((k : Int) + 1) rfl rfl (wi64 t0) rfl (Ag (.int .i64 ((k : Int) + 1)) (r_nil ?_))))))))
    have H93 : St W w89 (_ :: _ :: _ :: _ :: F) := ((((H90.move 3 rfl).move 3 rfl).move 3 rfl).move 3 rfl)
    exact nx87 (k + 1) _ _ ⟨t0, (fun q hq => (Nat.lt_or_ge q k).elim (hd q) (fun h => by rw [show q = k from by omega, idOf_eq]; simpa using hb91)), H93⟩ t9 t2
   refine rc (s_lss false rfl rfl (dfalse hc88) rfl (r_nil (g_false rfl (g_exit t40 (g_seq (g_region ?_))))))
   have hns : ¬ idOf (bs.getD j default) ∈ (bs.take j).map idOf := ids_no (k := k) t0 t0 hd
   have H94 := bndsA_at j H86 (i := 2) rfl
   have hat4 := ptAt_4 (L := bs) (i := j) t21 t25 hns
   refine Mv (.slice pp1 bs.length cc2) (Mv (.int .i64 (j : Int)) (rc (s_indexAddr gA15 (off := oA16) (j : Int) 6 (oA16 + j * 6) t14 rfl el_22 t0 rfl rfl (Fa (oA16 + j * 6 + 1) fi_121_1 rfl (rc (s_loadAgg [.int .i64 ((bs.getD j default).ev.ev.src.v), .int .i64 ((bs.getD j default).ev.ev.seq.v), .int .i64 ((bs.getD j default).ev.ev.time.v), .string ((bs.getD j default).ev.ev.typ.v), .slice ((bs.getD j default).ev.p) ((bs.getD j default).ev.ev.attrs.length) ((bs.getD j default).ev.c)] 5 ag_119 rfl (H94.imi_at (i := 1) rfl t0) t32 (elem_sub bndCell_len (hx22 t0) t0 default 1 5 t10) rfl (rc (s_call [.agg #[.int .i64 ((bs.getD j default).ev.ev.src.v), .int .i64 ((bs.getD j default).ev.ev.seq.v), .int .i64 ((bs.getD j default).ev.ev.time.v), .string ((bs.getD j default).ev.ev.typ.v), .slice ((bs.getD j default).ev.p) ((bs.getD j default).ev.ev.attrs.length) ((bs.getD j default).ev.c)]] pl_86 rfl rfl (ref04_Check ((bs.getD j default).ev.ev) (.slice ((bs.getD j default).ev.p) ((bs.getD j default).ev.ev.attrs.length) ((bs.getD j default).ev.c)) (j := 0) rfl H94) ?_))))))))
   rintro _ w95 ⟨rfl, H96⟩
   refine Ag (.int .i64 (evE ((bs.getD j default).ev.ev))) (r_nil (g_seq (g_region (Mv (.int .i64 (evE ((bs.getD j default).ev.ev))) ?_))))
   by_cases hc97 : evE ((bs.getD j default).ev.ev) = 0
   ·refine rc (s_neq false rfl rfl (ntrue hc97) rfl (r_nil (g_false rfl (g_skip (g_inBlock (g_region (Mv (.int .i64 (j : Int)) (rc (s_add ((j : Int) + 1) rfl rfl (wi64 t0) rfl (Ag (.int .i64 ((j : Int) + 1)) (r_nil ?_)))))))))))
    have H98 : St W w95 (_ :: _ :: _ :: _ :: F) := (((((H96.move 4 rfl).move 4 rfl).move 4 rfl).move 4 rfl).drop 4 rfl)
    exact nx29 (j + 1) _ _ ⟨t0, (fun q hq => (Nat.lt_or_ge q j).elim (hz q) (fun h => by rw [show q = j from by omega, hat4]; assumption)), H98⟩ t9 t2
   refine rc (s_neq true rfl rfl (nfalse hc97) rfl (r_nil (g_true rfl (g_seq (g_region (Mv (.int .i64 (evE ((bs.getD j default).ev.ev))) (Ag (.int .i64 (evE ((bs.getD j default).ev.ev))) (r_nil (Gr [.int .i64 (evE ((bs.getD j default).ev.ev))] Tryz.func50 Tryz.results50 ?_)))))))))
   have H99 : St W w95 F := (((((H96.drop 0 rfl).drop 0 rfl).drop 0 rfl).drop 0 rfl).drop 0 rfl)
   exact ⟨vint (ptE_at t0 hz t0 (hat4) t11).symm, H99⟩
  refine Qu (fun w hw => x_gtr false rfl rfl (dfalse hc79) w) (Qt (Qn (.bool false) (Qp (Qp (Qp (Qp (Qp (Qp (Qp (Qp (Qp (Qp (Qp (Qp (Qt (Qu (fun w hw => x_pick_f (.bool false) rfl rfl w) (Qv (fun w hw => x_pick_f (.bool false) rfl rfl w) (q_nil ?_))))))))))))))))))
  intro w100 H101
  refine g_false rfl (g_skip (g_seq (g_seq (g_region (Ag (.int .i64 0) (r_nil (g_block ?_)))))))
  refine g_loop_inv (fun (x_ : Nat) => match x_ with | k => [(2, .int .i64 0), (3, .slice pp1 bs.length cc2), (4, .int .i64 (j : Int)), (5, .int .i64 (k : Int))]) (fun (x_ : Nat) w => match x_ with | k => (k ≤ j) ∧ (∀ q, q < k → ¬ idOf (bs.getD q default) = idOf (bs.getD j default)) ∧ St W w (imi (0 < bs.length) gA15 (.cells kA17 eA18 zA19) :: blk bk8 (.cells #[.slice pp1 bs.length cc2] 24 (0, 0)) :: bndsA bs :: Im 6 (.slice pp1 bs.length cc2) bs.length (bs.flatMap bndCell) :: F)) (fun (x_ : Nat) => match x_ with | k => j - k) (0) ?_ ?_ ?_
  ·exact t2
  ·exact ⟨t0, (fun q hq => by omega), H101⟩
  rintro k ρ102 w103 ⟨hkj, hd, H104⟩ nx105
  change Ends _ _ (upds ρ102 [(2, .int .i64 0), (3, .slice pp1 bs.length cc2), (4, .int .i64 (j : Int)), (5, .int .i64 (k : Int))]) w103
  refine g_seq (g_seq (g_region (Mv (.int .i64 (k : Int)) (Mv (.int .i64 (j : Int)) ?_))))
  by_cases hc106 : (k : Int) < (j : Int)
  ·refine rc (s_lss true rfl rfl (dtrue hc106) rfl (r_nil (g_true rfl (g_skip (g_seq (g_block (g_seq ?_)))))))
   refine g_quiet (fun w' => St W w' (imi (0 < bs.length) gA15 (.cells kA17 eA18 zA19) :: blk bk8 (.cells #[.slice pp1 bs.length cc2] 24 (0, 0)) :: bndsA bs :: Im 6 (.slice pp1 bs.length cc2) bs.length (bs.flatMap bndCell) :: F)) mixed t7 H104.drew ?_
   refine Qm (.slice pp1 bs.length cc2) (Qm (.int .i64 (k : Int)) (Qv (fun w hw => x_indexAddr gA15 (off := oA16) (k : Int) 6 (oA16 + k * 6) t14 rfl el_22 t0 rfl w) (Qf (oA16 + k * 6 + 1) fi_121_1 rfl (Qf (oA16 + k * 6 + 1) fi_119_0 rfl (Qv (fun w hw => x_loadAgg [.int .i64 ((bs.getD k default).ev.ev.src.v), .int .i64 ((bs.getD k default).ev.ev.seq.v)] 2 ag_116 rfl (hw.imi_at (i := 0) rfl t0) t51 (elem_sub bndCell_len (hx22 t0) t0 default 1 2 t10)) (Qm (.slice pp1 bs.length cc2) (Qm (.int .i64 (j : Int)) (Qv (fun w hw => x_indexAddr gA15 (off := oA16) (j : Int) 6 (oA16 + j * 6) t14 rfl el_22 t0 rfl w) (Qf (oA16 + j * 6 + 1) fi_121_1 rfl (Qf (oA16 + j * 6 + 1) fi_119_0 rfl (Qv (fun w hw => x_loadAgg [.int .i64 ((bs.getD j default).ev.ev.src.v), .int .i64 ((bs.getD j default).ev.ev.seq.v)] 2 ag_116 rfl (hw.imi_at (i := 0) rfl t0) t32 (elem_sub bndCell_len (hx22 t0) t0 default 1 2 t10)) (Qv (fun w hw => x_aeql ((decide ((bs.getD k default).ev.ev.src.v = (bs.getD j default).ev.ev.src.v) && (decide ((bs.getD k default).ev.ev.seq.v = (bs.getD j default).ev.ev.seq.v) && true))) gd_116 ev_116 rfl rfl rfl w) (q_nil ?_)))))))))))))
   intro w107 H108
   by_cases hb109 : ((decide ((bs.getD k default).ev.ev.src.v = (bs.getD j default).ev.ev.src.v) && (decide ((bs.getD k default).ev.ev.seq.v = (bs.getD j default).ev.ev.seq.v) && true))) = true
   ·refine g_true (congrArg Value.bool hb109) (g_seq (g_region (Ag (.int .i64 100) (r_nil (Gr [.int .i64 100] Tryz.func50 Tryz.results50 ?_)))))
    have H110 : St W w107 F := ((((H108.drop 0 rfl).drop 0 rfl).drop 0 rfl).drop 0 rfl)
    have hA : ptAt bs j = 100 := by first | exact ptAt_2 t0 t11 | exact ptAt_3 (of_decide_eq_true t11) | (exact ptAt_3 (ids_yes (q := k) t0 t0 (idOf_eq.2 (by simpa using hb109)))) | (refine ptAt_1 ?_; rintro (h | ⟨h, h2⟩) <;> simp_all)
    exact ⟨vint (ptE_at t0 hz t0 hA t10).symm, H110⟩
   have hb109 := eq_false_of_ne_true hb109
   refine g_false (congrArg Value.bool hb109) (g_skip (g_inBlock (g_region (Mv (.int .i64 (k : Int)) (rc (s_add ((k : Int) + 1) rfl rfl (wi64 t0) rfl (Ag (.int .i64 ((k : Int) + 1)) (r_nil ?_))))))))
   have H111 : St W w107 (_ :: _ :: _ :: _ :: F) := ((((H108.move 3 rfl).move 3 rfl).move 3 rfl).move 3 rfl)
   exact nx105 (k + 1) _ _ ⟨t0, (fun q hq => (Nat.lt_or_ge q k).elim (hd q) (fun h => by rw [show q = k from by omega, idOf_eq]; simpa using hb109)), H111⟩ t9 t2
  refine rc (s_lss false rfl rfl (dfalse hc106) rfl (r_nil (g_false rfl (g_exit t40 (g_seq (g_region ?_))))))
  have hns : ¬ idOf (bs.getD j default) ∈ (bs.take j).map idOf := ids_no (k := k) t0 t0 hd
  have H112 := bndsA_at j H104 (i := 2) rfl
  have hat4 := ptAt_4 (L := bs) (i := j) t21 t25 hns
  refine Mv (.slice pp1 bs.length cc2) (Mv (.int .i64 (j : Int)) (rc (s_indexAddr gA15 (off := oA16) (j : Int) 6 (oA16 + j * 6) t14 rfl el_22 t0 rfl rfl (Fa (oA16 + j * 6 + 1) fi_121_1 rfl (rc (s_loadAgg [.int .i64 ((bs.getD j default).ev.ev.src.v), .int .i64 ((bs.getD j default).ev.ev.seq.v), .int .i64 ((bs.getD j default).ev.ev.time.v), .string ((bs.getD j default).ev.ev.typ.v), .slice ((bs.getD j default).ev.p) ((bs.getD j default).ev.ev.attrs.length) ((bs.getD j default).ev.c)] 5 ag_119 rfl (H112.imi_at (i := 1) rfl t0) t32 (elem_sub bndCell_len (hx22 t0) t0 default 1 5 t10) rfl (rc (s_call [.agg #[.int .i64 ((bs.getD j default).ev.ev.src.v), .int .i64 ((bs.getD j default).ev.ev.seq.v), .int .i64 ((bs.getD j default).ev.ev.time.v), .string ((bs.getD j default).ev.ev.typ.v), .slice ((bs.getD j default).ev.p) ((bs.getD j default).ev.ev.attrs.length) ((bs.getD j default).ev.c)]] pl_86 rfl rfl (ref04_Check ((bs.getD j default).ev.ev) (.slice ((bs.getD j default).ev.p) ((bs.getD j default).ev.ev.attrs.length) ((bs.getD j default).ev.c)) (j := 0) rfl H112) ?_))))))))
  rintro _ w113 ⟨rfl, H114⟩
  refine Ag (.int .i64 (evE ((bs.getD j default).ev.ev))) (r_nil (g_seq (g_region (Mv (.int .i64 (evE ((bs.getD j default).ev.ev))) ?_))))
  by_cases hc115 : evE ((bs.getD j default).ev.ev) = 0
  ·refine rc (s_neq false rfl rfl (ntrue hc115) rfl (r_nil (g_false rfl (g_skip (g_inBlock (g_region (Mv (.int .i64 (j : Int)) (rc (s_add ((j : Int) + 1) rfl rfl (wi64 t0) rfl (Ag (.int .i64 ((j : Int) + 1)) (r_nil ?_)))))))))))
   have H116 : St W w113 (_ :: _ :: _ :: _ :: F) := (((((H114.move 4 rfl).move 4 rfl).move 4 rfl).move 4 rfl).drop 4 rfl)
   exact nx29 (j + 1) _ _ ⟨t0, (fun q hq => (Nat.lt_or_ge q j).elim (hz q) (fun h => by rw [show q = j from by omega, hat4]; assumption)), H116⟩ t9 t2
  refine rc (s_neq true rfl rfl (nfalse hc115) rfl (r_nil (g_true rfl (g_seq (g_region (Mv (.int .i64 (evE ((bs.getD j default).ev.ev))) (Ag (.int .i64 (evE ((bs.getD j default).ev.ev))) (r_nil (Gr [.int .i64 (evE ((bs.getD j default).ev.ev))] Tryz.func50 Tryz.results50 ?_)))))))))
  have H117 : St W w113 F := (((((H114.drop 0 rfl).drop 0 rfl).drop 0 rfl).drop 0 rfl).drop 0 rfl)
  exact ⟨vint (ptE_at t0 hz t0 (hat4) t11).symm, H117⟩
 refine rc (s_lss false rfl rfl (dfalse hc30) rfl (r_nil (g_false rfl (g_exit t40 (g_seq (g_region (Ag (.int .i64 0) (r_nil (Gr [.int .i64 0] Tryz.func50 Tryz.results50 ?_)))))))))
 have H118 : St W w27 F := ((((H28.drop 0 rfl).drop 0 rfl).drop 0 rfl).drop 0 rfl)
 exact ⟨vint (ptE_all t0 (fun q hq => hz q t0)).symm, H118⟩
set_option maxHeartbeats 4000000 in
set_option maxRecDepth 100000 in
theorem ref10_Same {W w : World} {F : List Atom} (bs ms : List BoundD) (bv cv : Value) {ip : Nat} (hp : F[ip]? = some (Im 6 bv bs.length (bs.flatMap bndCell))) {iq : Nat} (hq : F[iq]? = some (bndsA bs)) {ip2 : Nat} (hp2 : F[ip2]? = some (Im 6 cv ms.length (ms.flatMap bndCell))) {iq2 : Nat} (hq2 : F[iq2]? = some (bndsA ms)) (H : St W w F) : Calls Tryz.prog 51 #[.agg #[bv], .agg #[cv]] w (Ret fun v w' => v = .bool (sameBs bs ms) ∧ St W w' F) := by
 obtain ⟨pp1, cc2, rfl, hn3⟩ := Rd.shape (Im.rd H (i := ip) hp)
 have H4 := H.dup (i := ip + 0) t56 (Im_pers _ _ _ _)
 have H5 : St W w (_ :: F) := H4
 have H6 := H5.dup (i := iq + 1) t57 (bndsA_pers _)
 have H7 : St W w (_ :: _ :: F) := H6
 obtain ⟨pp8, cc9, rfl, hn10⟩ := Rd.shape (Im.rd H (i := ip2) hp2)
 have H11 := H7.dup (i := ip2 + 2) (by exact hp2) (Im_pers _ _ _ _)
 have H12 : St W w (_ :: _ :: _ :: F) := H11
 have H13 := H12.dup (i := iq2 + 3) (by exact hq2) (bndsA_pers _)
 have H14 : St W w (_ :: _ :: _ :: _ :: F) := H13
 have hmlb := Im.len H14 (i := 3) rfl
 have hmlm := Im.len H14 (i := 1) rfl
 refine calls_of_go (n := 49) Tryz.func51 rfl Tryz.ntmps51 rfl ?_
 refine g_seq (g_region (Bx H14 24 #[.slice pp1 bs.length cc2] (fun bk15 w16 H17 => Bx H17 24 #[.slice pp8 ms.length cc9] (fun bk18 w19 H20 => Ag (.bool false) (r_nil (g_seq (g_seq (g_region (Fa 0 fi_24_0 rfl (Lo (.slice pp1 bs.length cc2) ag_22 H20 1 (rc (s_len bs.length rfl ⟨_, un_22⟩ rfl (Fa 0 fi_24_0 rfl (Lo (.slice pp8 ms.length cc9) ag_22 H20 0 (rc (s_len ms.length rfl ⟨_, un_22⟩ rfl ?_))))))))))))))))
 by_cases hc21 : (bs.length : Int) = (ms.length : Int)
 ·refine rc (s_neq false rfl rfl (ntrue hc21) rfl (r_nil (g_false rfl (g_skip (g_seq (g_seq (g_region (Ag (.int .i64 0) (r_nil (g_block ?_))))))))))
  obtain ⟨pA22, cA23, gA24, oA25, kA26, eA27, zA28, he34, hn29, hp30, hx31, hs32, hml, H33⟩ := Im.open_ H20 (i := 5) rfl
  obtain ⟨rfl, rfl⟩ : pp1 = pA22 ∧ cc2 = cA23 := by injection he34 with a_ b_ c_; exact ⟨a_, c_⟩
  obtain ⟨pA35, cA36, gA37, oA38, kA39, eA40, zA41, he47, hn42, hp43, hx44, hs45, hml, H46⟩ := Im.open_ H33 (i := 4) rfl
  obtain ⟨rfl, rfl⟩ : pp8 = pA35 ∧ cc9 = cA36 := by injection he47 with a_ b_ c_; exact ⟨a_, c_⟩
  have hll : bs.length = ms.length := by omega
  refine g_loop_inv (fun (x_ : Nat) => match x_ with | j => [(2, .pointer (some ⟨bk15, 0, none⟩)), (3, .pointer (some ⟨bk18, 0, none⟩)), (4, .bool false), (5, .int .i64 (j : Int))]) (fun (x_ : Nat) w => match x_ with | j => (j ≤ bs.length) ∧ (∀ q, q < j → (bs.getD q default).v = (ms.getD q default).v) ∧ St W w (imi (0 < ms.length) gA37 (.cells kA39 eA40 zA41) :: imi (0 < bs.length) gA24 (.cells kA26 eA27 zA28) :: blk bk18 (.cells #[.slice pp8 ms.length cc9] 24 (0, 0)) :: blk bk15 (.cells #[.slice pp1 bs.length cc2] 24 (0, 0)) :: bndsA ms :: Im 6 (.slice pp8 ms.length cc9) ms.length (ms.flatMap bndCell) :: bndsA bs :: Im 6 (.slice pp1 bs.length cc2) bs.length (bs.flatMap bndCell) :: F)) (fun (x_ : Nat) => match x_ with | j => bs.length - j) (0) ?_ ?_ ?_
  ·exact t2
  ·exact ⟨t0, (fun q hq => by omega), H46⟩
  rintro j ρ48 w49 ⟨hjn, hz, H50⟩ nx51
  change Ends _ _ (upds ρ48 [(2, .pointer (some ⟨bk15, 0, none⟩)), (3, .pointer (some ⟨bk18, 0, none⟩)), (4, .bool false), (5, .int .i64 (j : Int))]) w49
  refine g_seq (g_seq (g_region (Mv (.int .i64 (j : Int)) (Fa 0 fi_24_0 rfl (Lo (.slice pp1 bs.length cc2) ag_22 H50 3 (rc (s_len bs.length rfl ⟨_, un_22⟩ rfl ?_)))))))
  by_cases hc52 : (j : Int) < (bs.length : Int)
  ·refine rc (s_lss true rfl rfl (dtrue hc52) rfl (r_nil (g_true rfl (g_skip (g_seq (g_block (g_seq ?_)))))))
   have H53 := bndsA_at j H50 (i := 6) rfl
   have H54 := bndsA_at j H53 (i := 5) rfl
   refine g_quiet (fun w' => St W w' (Attrs (.slice ((ms.getD j default).ev.p) ((ms.getD j default).ev.ev.attrs.length) ((ms.getD j default).ev.c)) ((ms.getD j default).ev.ev.attrs) :: Attrs (.slice ((bs.getD j default).ev.p) ((bs.getD j default).ev.ev.attrs.length) ((bs.getD j default).ev.c)) ((bs.getD j default).ev.ev.attrs) :: imi (0 < ms.length) gA37 (.cells kA39 eA40 zA41) :: imi (0 < bs.length) gA24 (.cells kA26 eA27 zA28) :: blk bk18 (.cells #[.slice pp8 ms.length cc9] 24 (0, 0)) :: blk bk15 (.cells #[.slice pp1 bs.length cc2] 24 (0, 0)) :: bndsA ms :: Im 6 (.slice pp8 ms.length cc9) ms.length (ms.flatMap bndCell) :: bndsA bs :: Im 6 (.slice pp1 bs.length cc2) bs.length (bs.flatMap bndCell) :: F)) mixed t7 H54.drew ?_
   refine Qf 0 fi_24_0 rfl (Qv (fun w hw => x_load (.slice pp1 bs.length cc2) ag_22 rfl (hw.blk_at (i := 5) rfl) rfl) (Qm (.int .i64 (j : Int)) (Qv (fun w hw => x_indexAddr gA24 (off := oA25) (j : Int) 6 (oA25 + j * 6) (by exact congrArg (fun z_ => Value.slice z_ bs.length cc2) (hp30 t0)) rfl el_22 t0 rfl w) (Qf (oA25 + j * 6) fi_121_0 rfl (Qv (fun w hw => x_load (.string ((bs.getD j default).var.v)) ag_9 rfl (hw.imi_at (i := 3) rfl t0) (elem_cell (L := bs) (i := j) bndCell_len (hx31 t0) t0 default 0 t10 _ rfl)) (Qf 0 fi_24_0 rfl (Qv (fun w hw => x_load (.slice pp8 ms.length cc9) ag_22 rfl (hw.blk_at (i := 4) rfl) rfl) (Qm (.int .i64 (j : Int)) (Qv (fun w hw => x_indexAddr gA37 (off := oA38) (j : Int) 6 (oA38 + j * 6) (by exact congrArg (fun z_ => Value.slice z_ ms.length cc9) (hp43 t0)) rfl el_22 t0 rfl w) (Qf (oA38 + j * 6) fi_121_0 rfl (Qv (fun w hw => x_load (.string ((ms.getD j default).var.v)) ag_9 rfl (hw.imi_at (i := 2) rfl t0) (elem_cell (L := ms) (i := j) bndCell_len (hx44 t0) t0 default 0 t10 _ rfl)) ?_)))))))))))
   by_cases hc55 : (bs.getD j default).var.v = (ms.getD j default).var.v
   ·refine Qv (fun w hw => x_sneq false rfl rfl (ntrue hc55) w) (Qm (.bool false) (Qt (Qu (fun w hw => x_fieldAddr 24 0 0 0 22 rfl fi_24_0 rfl w) (Qt (Qu (fun w hw => x_load (.slice pp1 bs.length cc2) ag_22 rfl (hw.blk_at (i := 5) rfl) rfl) (Qt (Qn (.int .i64 (j : Int)) (Qt (Qu (fun w hw => x_indexAddr gA24 (off := oA25) (j : Int) 6 (oA25 + j * 6) (by exact congrArg (fun z_ => Value.slice z_ bs.length cc2) (hp30 t0)) rfl el_22 t0 rfl w) (Qt (Qu (fun w hw => x_fieldAddr 121 1 1 (oA25 + j * 6 + 1) 119 rfl fi_121_1 rfl w) (Qt (Qu (fun w hw => x_loadAgg [.int .i64 ((bs.getD j default).ev.ev.src.v), .int .i64 ((bs.getD j default).ev.ev.seq.v), .int .i64 ((bs.getD j default).ev.ev.time.v), .string ((bs.getD j default).ev.ev.typ.v), .slice ((bs.getD j default).ev.p) ((bs.getD j default).ev.ev.attrs.length) ((bs.getD j default).ev.c)] 5 ag_119 rfl (hw.imi_at (i := 3) rfl t0) (by have := elem_size (i := j) (s := 6) (hs32 t0) t0; omega) (elem_sub bndCell_len (hx31 t0) t0 default 1 5 t10)) (Qt (Qu (fun w hw => x_fieldAddr 24 0 0 0 22 rfl fi_24_0 rfl w) (Qt (Qu (fun w hw => x_load (.slice pp8 ms.length cc9) ag_22 rfl (hw.blk_at (i := 4) rfl) rfl) (Qt (Qn (.int .i64 (j : Int)) (Qt (Qu (fun w hw => x_indexAddr gA37 (off := oA38) (j : Int) 6 (oA38 + j * 6) (by exact congrArg (fun z_ => Value.slice z_ ms.length cc9) (hp43 t0)) rfl el_22 t0 rfl w) (Qt (Qu (fun w hw => x_fieldAddr 121 1 1 (oA38 + j * 6 + 1) 119 rfl fi_121_1 rfl w) (Qt (Qu (fun w hw => x_loadAgg [.int .i64 ((ms.getD j default).ev.ev.src.v), .int .i64 ((ms.getD j default).ev.ev.seq.v), .int .i64 ((ms.getD j default).ev.ev.time.v), .string ((ms.getD j default).ev.ev.typ.v), .slice ((ms.getD j default).ev.p) ((ms.getD j default).ev.ev.attrs.length) ((ms.getD j default).ev.c)] 5 ag_119 rfl (hw.imi_at (i := 2) rfl t0) (by have := elem_size (i := j) (s := 6) (hs45 t0) t0; omega) (elem_sub bndCell_len (hx44 t0) t0 default 1 5 t10)) (Qt ?_))))))))))))))))))))))))))
    refine q_enter (args := #[.agg #[.int .i64 ((bs.getD j default).ev.ev.src.v), .int .i64 ((bs.getD j default).ev.ev.seq.v), .int .i64 ((bs.getD j default).ev.ev.time.v), .string ((bs.getD j default).ev.ev.typ.v), .slice ((bs.getD j default).ev.p) ((bs.getD j default).ev.ev.attrs.length) ((bs.getD j default).ev.c)], .agg #[.int .i64 ((ms.getD j default).ev.ev.src.v), .int .i64 ((ms.getD j default).ev.ev.seq.v), .int .i64 ((ms.getD j default).ev.ev.time.v), .string ((ms.getD j default).ev.ev.typ.v), .slice ((ms.getD j default).ev.p) ((ms.getD j default).ev.ev.attrs.length) ((ms.getD j default).ev.c)]]) (v := .bool (sameEv ((bs.getD j default).ev.ev) ((ms.getD j default).ev.ev))) rfl rfl rfl (x_call pl_87 [.agg #[.int .i64 ((bs.getD j default).ev.ev.src.v), .int .i64 ((bs.getD j default).ev.ev.seq.v), .int .i64 ((bs.getD j default).ev.ev.time.v), .string ((bs.getD j default).ev.ev.typ.v), .slice ((bs.getD j default).ev.p) ((bs.getD j default).ev.ev.attrs.length) ((bs.getD j default).ev.c)], .agg #[.int .i64 ((ms.getD j default).ev.ev.src.v), .int .i64 ((ms.getD j default).ev.ev.seq.v), .int .i64 ((ms.getD j default).ev.ev.time.v), .string ((ms.getD j default).ev.ev.typ.v), .slice ((ms.getD j default).ev.p) ((ms.getD j default).ev.ev.attrs.length) ((ms.getD j default).ev.c)]] rfl) (fun w hw => ref04_Same ((bs.getD j default).ev.ev) ((ms.getD j default).ev.ev) (.slice ((bs.getD j default).ev.p) ((bs.getD j default).ev.ev.attrs.length) ((bs.getD j default).ev.c)) (.slice ((ms.getD j default).ev.p) ((ms.getD j default).ev.ev.attrs.length) ((ms.getD j default).ev.c)) (j := 1) (k := 0) rfl rfl hw) ?_
    refine Qt (Qu (fun w hw => x_not (sameEv ((bs.getD j default).ev.ev) ((ms.getD j default).ev.ev)) rfl (!(sameEv ((bs.getD j default).ev.ev) ((ms.getD j default).ev.ev))) rfl w) (Qv (fun w hw => x_pick_f (.bool (!(sameEv ((bs.getD j default).ev.ev) ((ms.getD j default).ev.ev)))) rfl rfl w) (q_nil ?_)))
    intro w56 H57
    by_cases hb58 : (!(sameEv ((bs.getD j default).ev.ev) ((ms.getD j default).ev.ev))) = true
    ·refine g_true (congrArg Value.bool hb58) (g_seq (g_region (Ag (.bool false) (r_nil (Gr [.bool false] Tryz.func51 Tryz.results51 ?_)))))
     have H59 : St W w56 (_ :: _ :: _ :: _ :: _ :: _ :: F) := ((((H57.drop 0 rfl).drop 0 rfl).drop 0 rfl).drop 0 rfl)
     have H60 : St W w56 (_ :: _ :: F) := ((((H59.drop 0 rfl).drop 0 rfl).drop 0 rfl).drop 0 rfl)
     have H61 : St W w56 F := ((H60.drop 0 rfl).drop 0 rfl)
     exact ⟨congrArg Value.bool (show sameBs bs ms = false from by first | exact sameBs_len t0 | exact sameBs_var (j := j) t11 | exact sameBs_ev (j := j) (by first | assumption | exact nottrue t11 | simpa using ‹_›)).symm, H61⟩
    have hb58 := eq_false_of_ne_true hb58
    refine g_false (congrArg Value.bool hb58) (g_skip (g_inBlock (g_region (Mv (.int .i64 (j : Int)) (rc (s_add ((j : Int) + 1) rfl rfl (wi64 t0) rfl (Ag (.int .i64 ((j : Int) + 1)) (r_nil ?_))))))))
    have H62 : St W w56 (_ :: _ :: _ :: _ :: _ :: _ :: _ :: _ :: F) := ((((((((((H57.move 9 rfl).move 9 rfl).move 9 rfl).move 9 rfl).move 9 rfl).move 9 rfl).move 9 rfl).move 9 rfl).drop 8 rfl).drop 8 rfl)
    exact nx51 (j + 1) _ _ ⟨t0, (fun q hq => (Nat.lt_or_ge q j).elim (hz q) (fun h => by rw [show q = j from by omega]; exact bv_mk hc55 (by first | exact hb58 | exact notfalse hb58))), H62⟩ t9 t2
   refine Qv (fun w hw => x_sneq true rfl rfl (nfalse hc55) w) (Qm (.bool true) (Qp (Qp (Qp (Qp (Qp (Qp (Qp (Qp (Qp (Qp (Qp (Qp (Qp (Qp (Qv (fun w hw => x_pick_t (.bool true) rfl rfl w) (q_nil ?_)))))))))))))))))
   intro w63 H64
   refine g_true rfl (g_seq (g_region (Ag (.bool false) (r_nil (Gr [.bool false] Tryz.func51 Tryz.results51 ?_)))))
   have H65 : St W w63 (_ :: _ :: _ :: _ :: _ :: _ :: F) := ((((H64.drop 0 rfl).drop 0 rfl).drop 0 rfl).drop 0 rfl)
   have H66 : St W w63 (_ :: _ :: F) := ((((H65.drop 0 rfl).drop 0 rfl).drop 0 rfl).drop 0 rfl)
   have H67 : St W w63 F := ((H66.drop 0 rfl).drop 0 rfl)
   exact ⟨congrArg Value.bool (show sameBs bs ms = false from by first | exact sameBs_len t0 | exact sameBs_var (j := j) t11 | exact sameBs_ev (j := j) (by first | assumption | exact nottrue t11 | simpa using ‹_›)).symm, H67⟩
  refine rc (s_lss false rfl rfl (dfalse hc52) rfl (r_nil (g_false rfl (g_exit t40 (g_seq (g_region (Ag (.bool true) (r_nil (Gr [.bool true] Tryz.func51 Tryz.results51 ?_)))))))))
  have H68 : St W w49 F := ((((((((H50.drop 0 rfl).drop 0 rfl).drop 0 rfl).drop 0 rfl).drop 0 rfl).drop 0 rfl).drop 0 rfl).drop 0 rfl)
  exact ⟨congrArg Value.bool (sameBs_yes t0 (fun q hq => hz q t0)).symm, H68⟩
 refine rc (s_neq true rfl rfl (nfalse hc21) rfl (r_nil (g_true rfl (g_seq (g_region (Ag (.bool false) (r_nil (Gr [.bool false] Tryz.func51 Tryz.results51 ?_))))))))
 have H69 : St W w19 F := ((((((H20.drop 0 rfl).drop 0 rfl).drop 0 rfl).drop 0 rfl).drop 0 rfl).drop 0 rfl)
 exact ⟨congrArg Value.bool (show sameBs bs ms = false from by first | exact sameBs_len t0 | exact sameBs_var (j := j) t11 | exact sameBs_ev (j := j) (by first | assumption | exact nottrue t11 | simpa using ‹_›)).symm, H69⟩
set_option maxHeartbeats 4000000 in
set_option maxRecDepth 100000 in
theorem time3g {W w : World} {F : List Atom} (g : Nat) (x y z : Int) (H : St W w (blk g (.cells #[.int .i64 x, .int .i64 y, .int .i64 z] 2 (0, 0)) :: F)) : Calls Tryz.prog 47 #[.slice (some ⟨g, 0, none⟩) 3 3] w (Ret fun v w' => v = .bool (t3B x y z) ∧ St W w' (blk g (.cells #[.int .i64 x, .int .i64 y, .int .i64 z] 2 (0, 0)) :: F)) := by
 refine calls_of_go (n := 18) Tryz.func47 rfl Tryz.ntmps47 rfl ?_
 refine g_seq (g_region (Ag (.bool false) (r_nil (g_seq (g_seq (g_region (Mv (.slice (some ⟨g, 0, none⟩) 3 3) (rc (s_len 3 rfl ⟨_, un_130⟩ rfl (Mv (.int .i64 0) (r_nil (g_block ?_))))))))))))
 refine g_loop ?_
 refine g_seq (g_region (rc (s_lss true rfl rfl (dtrue t10) rfl (r_nil (g_seq (g_true rfl (g_skip (g_seq (g_block (g_seq (g_region (rc (s_indexAddr g 0 1 0 rfl rfl el_130 t0 rfl rfl (Lo (.int .i64 x) ag_2 H 0 (Ag (.int .i64 x) (r_nil (g_seq (g_region (Mv (.int .i64 x) ?_)))))))))))))))))))
 by_cases hc1 : x < 0
 ·refine rc (s_lss true rfl rfl (dtrue hc1) rfl (Mv (.bool true) (Rp (Rp (Pt (.bool true) (r_nil (g_true rfl (g_seq (g_region (Ag (.bool false) (r_nil (Gr [.bool false] Tryz.func47 Tryz.results47 ?_))))))))))))
  have H2 : St W w (_ :: F) := H
  exact ⟨congrArg Value.bool t29, H2⟩
 refine rc (s_lss false rfl rfl (dfalse hc1) rfl (Mv (.bool false) (Rt (Mw (.int .i64 x) (Rt ?_)))))
 by_cases hc3 : (1099511627776 : Int) < x
 ·refine s_gtr true rfl rfl (dtrue hc3) rfl (Pf (.bool true) (r_nil (g_true rfl (g_seq (g_region (Ag (.bool false) (r_nil (Gr [.bool false] Tryz.func47 Tryz.results47 ?_))))))))
  have H4 : St W w (_ :: F) := H
  exact ⟨congrArg Value.bool t29, H4⟩
 refine s_gtr false rfl rfl (dfalse hc3) rfl (Pf (.bool false) (r_nil (g_false rfl (g_skip (g_inBlock (g_region (rc (s_add 1 rfl rfl (wi64 t0) rfl (Mv (.int .i64 1) (r_nil (g_inLoop (g_seq (g_region (rc (s_lss true rfl rfl (dtrue t10) rfl (r_nil (g_seq (g_true rfl (g_skip (g_seq (g_block (g_seq (g_region (rc (s_indexAddr g 1 1 1 rfl rfl el_130 t0 rfl rfl (Lo (.int .i64 y) ag_2 H 0 (Ag (.int .i64 y) (r_nil (g_seq (g_region (Mv (.int .i64 y) ?_)))))))))))))))))))))))))))))))
 by_cases hc5 : y < 0
 ·refine rc (s_lss true rfl rfl (dtrue hc5) rfl (Mv (.bool true) (Rp (Rp (Pt (.bool true) (r_nil (g_true rfl (g_seq (g_region (Ag (.bool false) (r_nil (Gr [.bool false] Tryz.func47 Tryz.results47 ?_))))))))))))
  have H6 : St W w (_ :: F) := H
  exact ⟨congrArg Value.bool t29, H6⟩
 refine rc (s_lss false rfl rfl (dfalse hc5) rfl (Mv (.bool false) (Rt (Mw (.int .i64 y) (Rt ?_)))))
 by_cases hc7 : (1099511627776 : Int) < y
 ·refine s_gtr true rfl rfl (dtrue hc7) rfl (Pf (.bool true) (r_nil (g_true rfl (g_seq (g_region (Ag (.bool false) (r_nil (Gr [.bool false] Tryz.func47 Tryz.results47 ?_))))))))
  have H8 : St W w (_ :: F) := H
  exact ⟨congrArg Value.bool t29, H8⟩
 refine s_gtr false rfl rfl (dfalse hc7) rfl (Pf (.bool false) (r_nil (g_false rfl (g_skip (g_inBlock (g_region (rc (s_add 2 rfl rfl (wi64 t0) rfl (Mv (.int .i64 2) (r_nil (g_inLoop (g_seq (g_region (rc (s_lss true rfl rfl (dtrue t10) rfl (r_nil (g_seq (g_true rfl (g_skip (g_seq (g_block (g_seq (g_region (rc (s_indexAddr g 2 1 2 rfl rfl el_130 t0 rfl rfl (Lo (.int .i64 z) ag_2 H 0 (Ag (.int .i64 z) (r_nil (g_seq (g_region (Mv (.int .i64 z) ?_)))))))))))))))))))))))))))))))
 by_cases hc9 : z < 0
 ·refine rc (s_lss true rfl rfl (dtrue hc9) rfl (Mv (.bool true) (Rp (Rp (Pt (.bool true) (r_nil (g_true rfl (g_seq (g_region (Ag (.bool false) (r_nil (Gr [.bool false] Tryz.func47 Tryz.results47 ?_))))))))))))
  have H10 : St W w (_ :: F) := H
  exact ⟨congrArg Value.bool t29, H10⟩
 refine rc (s_lss false rfl rfl (dfalse hc9) rfl (Mv (.bool false) (Rt (Mw (.int .i64 z) (Rt ?_)))))
 by_cases hc11 : (1099511627776 : Int) < z
 ·refine s_gtr true rfl rfl (dtrue hc11) rfl (Pf (.bool true) (r_nil (g_true rfl (g_seq (g_region (Ag (.bool false) (r_nil (Gr [.bool false] Tryz.func47 Tryz.results47 ?_))))))))
  have H12 : St W w (_ :: F) := H
  exact ⟨congrArg Value.bool t29, H12⟩
 refine s_gtr false rfl rfl (dfalse hc11) rfl (Pf (.bool false) (r_nil (g_false rfl (g_skip (g_inBlock (g_region (rc (s_add 3 rfl rfl (wi64 t0) rfl (Mv (.int .i64 3) (r_nil (g_inLoop (g_seq (g_region (rc (s_lss false rfl rfl (dfalse t10) rfl (r_nil (g_seq (g_false rfl (g_exit t40 (g_seq (g_region (Ag (.bool true) (r_nil (Gr [.bool true] Tryz.func47 Tryz.results47 ?_))))))))))))))))))))))))
 have H13 : St W w (_ :: F) := H
 exact ⟨congrArg Value.bool t29, H13⟩
set_option maxHeartbeats 4000000 in
set_option maxRecDepth 100000 in
theorem migrate_CheckItem {W w : World} {F : List Atom} (x : ItemD) {ip : Nat} (hp : F[ip]? = some (Im 6 (.slice x.p x.bs.length x.c) x.bs.length (x.bs.flatMap bndCell))) {iq : Nat} (hq : F[iq]? = some (bndsA x.bs)) (H : St W w F) : Calls Tryz.prog 10 #[.agg #[.int .i64 x.op.v, .int .i64 x.inp.v, .int .i64 x.ep.v, .int .i64 x.kind.v, .slice x.p x.bs.length x.c, .int .i64 x.t.v]] w (Ret fun v w' => v = .int .i64 (itE x) ∧ St W w' F) := by
 have H1 := (H.dup (i := ip + 0) t56 (Im_pers _ _ _ _)).dup (i := iq + 1) t57 (bndsA_pers _)
 have H2 : St W w (_ :: _ :: F) := H1
 refine calls_of_go (n := 55) Tryz.func10 rfl Tryz.ntmps10 rfl ?_
 refine g_seq (g_region (Bx H2 26 #[.int .i64 x.op.v, .int .i64 x.inp.v, .int .i64 x.ep.v, .int .i64 x.kind.v, .slice x.p x.bs.length x.c, .int .i64 x.t.v] (fun bk3 w4 H5 => Ag (.int .i64 0) (r_nil (g_seq (g_region (Fa 0 fi_26_0 rfl (Lo (.int .i64 x.op.v) ag_3 H5 0 (Fa 1 fi_26_1 rfl (Lo (.int .i64 x.inp.v) ag_3 H5 0 (Fa 2 fi_26_2 rfl (Lo (.int .i64 x.ep.v) ag_2 H5 0 (rc (s_buildSlice H5 1 3 (cs := #[.int .i64 x.op.v, .int .i64 x.inp.v, .int .i64 x.ep.v]) #[.int .i64 0] el_130 ze_2 t10 t10 t7 rfl (fun bk6 w7 H8 => rc (s_call [.slice (some ⟨bk6, 0, none⟩) 3 3] pl_47 rfl rfl (time3g bk6 x.op.v x.inp.v x.ep.v H8) ?_))))))))))))))))
 rintro _ w9 ⟨rfl, H10⟩
 refine Ag (.bool (t3B x.op.v x.inp.v x.ep.v)) (r_nil (g_seq (g_seq (g_region (Fa 3 fi_26_3 rfl (Lo (.int .i64 x.kind.v) ag_3 H10 1 (r_nil (g_block (g_seq (g_region ?_))))))))))
 by_cases hc11 : x.kind.v = 1
 ·refine rc (s_eql true rfl rfl (dtrue hc11) rfl (Ag (.bool true) (r_nil (g_true rfl (g_seq (g_seq (g_region (Mv (.bool (t3B x.op.v x.inp.v x.ep.v)) (Mv (.bool (t3B x.op.v x.inp.v x.ep.v)) ?_)))))))))
  by_cases hb12 : (t3B x.op.v x.inp.v x.ep.v) = true
  ·refine Rh hb12 (s_fieldAddr 26 5 5 5 2 rfl fi_26_5 rfl rfl (Rh hb12 (s_load (.int .i64 x.t.v) ag_2 rfl (H10.blk_at (i := 1) rfl) rfl rfl (Rh hb12 ?_))))
   by_cases hc13 : x.t.v = 0
   ·refine s_eql true rfl rfl (dtrue hc13) rfl (rc (s_pick_t (.bool true) (by exact congrArg Value.bool hb12) rfl rfl (r_nil (g_true rfl (g_seq (g_region (Fa 4 fi_26_4 rfl (La [.slice x.p x.bs.length x.c] 1 ag_24 H10 1 (rc (s_call [.agg #[.slice x.p x.bs.length x.c]] pl_48 rfl rfl (match_Check x.bs _ (ip := 3) rfl (iq := 2) rfl H10) ?_))))))))))
    rintro _ w14 ⟨rfl, H15⟩
    refine Ag (.int .i64 (ptE x.bs)) (r_nil (Gr [.int .i64 (ptE x.bs)] Tryz.func10 Tryz.results10 ?_))
    have H16 : St W w14 F := ((((H15.drop 0 rfl).drop 0 rfl).drop 0 rfl).drop 0 rfl)
    exact ⟨vint (itE_1 t24 t0).symm, H16⟩
   refine s_eql false rfl rfl (dfalse hc13) rfl (rc (s_pick_t (.bool false) (by exact congrArg Value.bool hb12) rfl rfl (r_nil (g_false rfl (g_skip (g_seq (g_region (Ag (.int .i64 243) (r_nil (Gr [.int .i64 243] Tryz.func10 Tryz.results10 ?_))))))))))
   have H17 : St W w9 F := ((((H10.drop 0 rfl).drop 0 rfl).drop 0 rfl).drop 0 rfl)
   exact ⟨vint (itE_243 t3).symm, H17⟩
  have hb12 := eq_false_of_ne_true hb12
  refine Rq hb12 (Rq hb12 (Rq hb12 (rc (s_pick_f (.bool false) (by exact congrArg Value.bool hb12) rfl rfl (r_nil (g_false rfl (g_skip (g_seq (g_region (Ag (.int .i64 243) (r_nil (Gr [.int .i64 243] Tryz.func10 Tryz.results10 ?_))))))))))))
  have H18 : St W w9 F := ((((H10.drop 0 rfl).drop 0 rfl).drop 0 rfl).drop 0 rfl)
  exact ⟨vint (itE_243 t3).symm, H18⟩
 refine rc (s_eql false rfl rfl (dfalse hc11) rfl (Ag (.bool false) (r_nil (g_false rfl (g_seq (g_region ?_))))))
 by_cases hc19 : x.kind.v = 2
 ·refine rc (s_eql true rfl rfl (dtrue hc19) rfl (Ag (.bool true) (r_nil (g_true rfl (g_region (Mv (.bool (t3B x.op.v x.inp.v x.ep.v)) (Mv (.bool (t3B x.op.v x.inp.v x.ep.v)) ?_)))))))
  by_cases hb20 : (t3B x.op.v x.inp.v x.ep.v) = true
  ·refine Rh hb20 (s_fieldAddr 26 5 5 5 2 rfl fi_26_5 rfl rfl (Rh hb20 (s_load (.int .i64 x.t.v) ag_2 rfl (H10.blk_at (i := 1) rfl) rfl rfl (Rh hb20 ?_))))
   by_cases hc21 : (0 : Int) ≤ x.t.v
   ·refine s_geq true rfl rfl (dtrue hc21) rfl (rc (s_pick_t (.bool true) t43 rfl rfl (Mv (.bool true) (Rt (s_fieldAddr 26 5 5 5 2 rfl fi_26_5 rfl rfl (Rt (s_load (.int .i64 x.t.v) ag_2 rfl (H10.blk_at (i := 1) rfl) rfl rfl (Rt ?_))))))))
    by_cases hc22 : x.t.v ≤ 1099511627777
    ·refine s_leq true rfl rfl (dtrue hc22) rfl (Pt (.bool true) (Ag (.bool true) (r_nil (g_inBlock (g_seq (g_seq (g_region (Mv (.bool true) (rc (s_not true rfl false rfl rfl (Mv (.bool false) (Rt (s_fieldAddr 26 4 4 4 24 rfl fi_26_4 rfl rfl (Rt (s_fieldAddr 24 0 0 4 22 rfl fi_24_0 rfl rfl (Rt (s_load (.slice x.p x.bs.length x.c) ag_22 rfl (H10.blk_at (i := 1) rfl) rfl rfl (Rt (s_len x.bs.length rfl ⟨_, un_22⟩ rfl (Rt ?_))))))))))))))))))))
     by_cases hc23 : (0 : Int) < (x.bs.length : Int)
     ·refine s_gtr true rfl rfl (dtrue hc23) rfl (Pf (.bool true) (r_nil (g_true rfl (g_seq (g_region (Ag (.int .i64 243) (r_nil (Gr [.int .i64 243] Tryz.func10 Tryz.results10 ?_))))))))
      have H24 : St W w9 F := ((((H10.drop 0 rfl).drop 0 rfl).drop 0 rfl).drop 0 rfl)
      exact ⟨vint (itE_243 t3).symm, H24⟩
     refine s_gtr false rfl rfl (dfalse hc23) rfl (Pf (.bool false) (r_nil (g_false rfl (g_skip (g_seq (g_region (Ag (.int .i64 0) (r_nil (Gr [.int .i64 0] Tryz.func10 Tryz.results10 ?_)))))))))
     have H25 : St W w9 F := ((((H10.drop 0 rfl).drop 0 rfl).drop 0 rfl).drop 0 rfl)
     exact ⟨vint (itE_0 t24 t0).symm, H25⟩
    refine s_leq false rfl rfl (dfalse hc22) rfl (Pt (.bool false) (Ag (.bool false) (r_nil (g_inBlock (g_seq (g_seq (g_region (Mv (.bool false) (rc (s_not false rfl true rfl rfl (Mv (.bool true) (Rp (Rp (Rp (Rp (Rp (Pt (.bool true) (r_nil (g_true rfl (g_seq (g_region (Ag (.int .i64 243) (r_nil (Gr [.int .i64 243] Tryz.func10 Tryz.results10 ?_))))))))))))))))))))))))
    have H26 : St W w9 F := ((((H10.drop 0 rfl).drop 0 rfl).drop 0 rfl).drop 0 rfl)
    exact ⟨vint (itE_243 t3).symm, H26⟩
   refine s_geq false rfl rfl (dfalse hc21) rfl (rc (s_pick_t (.bool false) t43 rfl rfl (Mv (.bool false) (Rp (Rp (Rp (Pf (.bool false) (Ag (.bool false) (r_nil (g_inBlock (g_seq (g_seq (g_region (Mv (.bool false) (rc (s_not false rfl true rfl rfl (Mv (.bool true) (Rp (Rp (Rp (Rp (Rp (Pt (.bool true) (r_nil (g_true rfl (g_seq (g_region (Ag (.int .i64 243) (r_nil (Gr [.int .i64 243] Tryz.func10 Tryz.results10 ?_))))))))))))))))))))))))))))))
   have H27 : St W w9 F := ((((H10.drop 0 rfl).drop 0 rfl).drop 0 rfl).drop 0 rfl)
   exact ⟨vint (itE_243 t3).symm, H27⟩
  have hb20 := eq_false_of_ne_true hb20
  refine Rq hb20 (Rq hb20 (Rq hb20 (rc (s_pick_f (.bool false) t43 rfl rfl (Mv (.bool false) (Rp (Rp (Rp (Pf (.bool false) (Ag (.bool false) (r_nil (g_inBlock (g_seq (g_seq (g_region (Mv (.bool false) (rc (s_not false rfl true rfl rfl (Mv (.bool true) (Rp (Rp (Rp (Rp (Rp (Pt (.bool true) (r_nil (g_true rfl (g_seq (g_region (Ag (.int .i64 243) (r_nil (Gr [.int .i64 243] Tryz.func10 Tryz.results10 ?_))))))))))))))))))))))))))))))))
  have H28 : St W w9 F := ((((H10.drop 0 rfl).drop 0 rfl).drop 0 rfl).drop 0 rfl)
  exact ⟨vint (itE_243 t3).symm, H28⟩
 refine rc (s_eql false rfl rfl (dfalse hc19) rfl (Ag (.bool false) (r_nil (g_false rfl (g_seq (g_region ?_))))))
 by_cases hc29 : x.kind.v = 3
 ·refine rc (s_eql true rfl rfl (dtrue hc29) rfl (Ag (.bool true) (r_nil (g_true rfl (g_region (Mv (.bool (t3B x.op.v x.inp.v x.ep.v)) (Mv (.bool (t3B x.op.v x.inp.v x.ep.v)) ?_)))))))
  by_cases hb30 : (t3B x.op.v x.inp.v x.ep.v) = true
  ·refine Rh hb30 (s_fieldAddr 26 5 5 5 2 rfl fi_26_5 rfl rfl (Rh hb30 (s_load (.int .i64 x.t.v) ag_2 rfl (H10.blk_at (i := 1) rfl) rfl rfl (Rh hb30 ?_))))
   by_cases hc31 : x.t.v = 0
   ·refine s_eql true rfl rfl (dtrue hc31) rfl (rc (s_pick_t (.bool true) (by exact congrArg Value.bool hb30) rfl rfl (Ag (.bool true) (r_nil (g_inBlock (g_seq (g_seq (g_region (Mv (.bool true) (rc (s_not true rfl false rfl rfl (Mv (.bool false) (Rt (s_fieldAddr 26 4 4 4 24 rfl fi_26_4 rfl rfl (Rt (s_fieldAddr 24 0 0 4 22 rfl fi_24_0 rfl rfl (Rt (s_load (.slice x.p x.bs.length x.c) ag_22 rfl (H10.blk_at (i := 1) rfl) rfl rfl (Rt (s_len x.bs.length rfl ⟨_, un_22⟩ rfl (Rt ?_)))))))))))))))))))))
    by_cases hc32 : (0 : Int) < (x.bs.length : Int)
    ·refine s_gtr true rfl rfl (dtrue hc32) rfl (Pf (.bool true) (r_nil (g_true rfl (g_seq (g_region (Ag (.int .i64 243) (r_nil (Gr [.int .i64 243] Tryz.func10 Tryz.results10 ?_))))))))
     have H33 : St W w9 F := ((((H10.drop 0 rfl).drop 0 rfl).drop 0 rfl).drop 0 rfl)
     exact ⟨vint (itE_243 t3).symm, H33⟩
    refine s_gtr false rfl rfl (dfalse hc32) rfl (Pf (.bool false) (r_nil (g_false rfl (g_skip (g_seq (g_region (Ag (.int .i64 0) (r_nil (Gr [.int .i64 0] Tryz.func10 Tryz.results10 ?_)))))))))
    have H34 : St W w9 F := ((((H10.drop 0 rfl).drop 0 rfl).drop 0 rfl).drop 0 rfl)
    exact ⟨vint (itE_0 t24 t0).symm, H34⟩
   refine s_eql false rfl rfl (dfalse hc31) rfl (rc (s_pick_t (.bool false) (by exact congrArg Value.bool hb30) rfl rfl (Ag (.bool false) (r_nil (g_inBlock (g_seq (g_seq (g_region (Mv (.bool false) (rc (s_not false rfl true rfl rfl (Mv (.bool true) (Rp (Rp (Rp (Rp (Rp (Pt (.bool true) (r_nil (g_true rfl (g_seq (g_region (Ag (.int .i64 243) (r_nil (Gr [.int .i64 243] Tryz.func10 Tryz.results10 ?_)))))))))))))))))))))))))
   have H35 : St W w9 F := ((((H10.drop 0 rfl).drop 0 rfl).drop 0 rfl).drop 0 rfl)
   exact ⟨vint (itE_243 t3).symm, H35⟩
  have hb30 := eq_false_of_ne_true hb30
  refine Rq hb30 (Rq hb30 (Rq hb30 (rc (s_pick_f (.bool false) (by exact congrArg Value.bool hb30) rfl rfl (Ag (.bool false) (r_nil (g_inBlock (g_seq (g_seq (g_region (Mv (.bool false) (rc (s_not false rfl true rfl rfl (Mv (.bool true) (Rp (Rp (Rp (Rp (Rp (Pt (.bool true) (r_nil (g_true rfl (g_seq (g_region (Ag (.int .i64 243) (r_nil (Gr [.int .i64 243] Tryz.func10 Tryz.results10 ?_)))))))))))))))))))))))))))
  have H36 : St W w9 F := ((((H10.drop 0 rfl).drop 0 rfl).drop 0 rfl).drop 0 rfl)
  exact ⟨vint (itE_243 t3).symm, H36⟩
 refine rc (s_eql false rfl rfl (dfalse hc29) rfl (Ag (.bool false) (r_nil (g_false rfl (g_region (Ag (.bool false) (r_nil (g_inBlock (g_seq (g_seq (g_region (Mv (.bool false) (rc (s_not false rfl true rfl rfl (Mv (.bool true) (Rp (Rp (Rp (Rp (Rp (Pt (.bool true) (r_nil (g_true rfl (g_seq (g_region (Ag (.int .i64 243) (r_nil (Gr [.int .i64 243] Tryz.func10 Tryz.results10 ?_))))))))))))))))))))))))))))
 have H37 : St W w9 F := ((((H10.drop 0 rfl).drop 0 rfl).drop 0 rfl).drop 0 rfl)
 exact ⟨vint (itE_243 t3).symm, H37⟩
set_option maxHeartbeats 4000000 in
set_option maxRecDepth 100000 in
theorem ref24_CheckItem {W w : World} {F : List Atom} (x : ItemD) {ip : Nat} (hp : F[ip]? = some (Im 6 (.slice x.p x.bs.length x.c) x.bs.length (x.bs.flatMap bndCell))) {iq : Nat} (hq : F[iq]? = some (bndsA x.bs)) (H : St W w F) : Calls Tryz.prog 11 #[.agg #[.int .i64 x.op.v, .int .i64 x.inp.v, .int .i64 x.ep.v, .int .i64 x.kind.v, .slice x.p x.bs.length x.c, .int .i64 x.t.v]] w (Ret fun v w' => v = .int .i64 (itE x) ∧ St W w' F) := by
 have H1 := (H.dup (i := ip + 0) t56 (Im_pers _ _ _ _)).dup (i := iq + 1) t57 (bndsA_pers _)
 have H2 : St W w (_ :: _ :: F) := H1
 refine calls_of_go (n := 75) Tryz.func11 rfl Tryz.ntmps11 rfl ?_
 refine g_seq (g_region (Bx H2 26 #[.int .i64 x.op.v, .int .i64 x.inp.v, .int .i64 x.ep.v, .int .i64 x.kind.v, .slice x.p x.bs.length x.c, .int .i64 x.t.v] (fun bk3 w4 H5 => Ag (.int .i64 0) (r_nil (g_seq (g_seq (g_region (Fa 0 fi_26_0 rfl (Lo (.int .i64 x.op.v) ag_3 H5 0 (rc (s_call [.int .i64 x.op.v] pl_49 rfl rfl (ref24_time x.op.v H5) ?_)))))))))))
 rintro _ w6 ⟨rfl, H7⟩
 refine rc (s_not (timeB x.op.v) rfl (!(timeB x.op.v)) rfl rfl (Mv (.bool (!(timeB x.op.v))) ?_))
 by_cases hb8 : (!(timeB x.op.v)) = true
 ·refine Rq hb8 (Rq hb8 (Rq hb8 (Rq hb8 (rc (s_pick_t (.bool true) (by exact congrArg Value.bool hb8) rfl rfl (Mv (.bool true) (Rp (Rp (Rp (Rp (Pt (.bool true) (Mv (.bool true) (Rp (Rp (Rp (Rp (Rn (Rn (Rn (Rp (Rp (Rn (Rn (Rn (Rp (Pt (.bool true) (r_nil (g_true rfl (g_seq (g_region (Ag (.int .i64 243) (r_nil (Gr [.int .i64 243] Tryz.func11 Tryz.results11 ?_)))))))))))))))))))))))))))))))))
  have H9 : St W w6 F := (((H7.drop 0 rfl).drop 0 rfl).drop 0 rfl)
  exact ⟨vint (itE_243 t3).symm, H9⟩
 have hb8 := eq_false_of_ne_true hb8
 refine Rh hb8 (s_fieldAddr 26 1 1 1 3 rfl fi_26_1 rfl rfl (Rh hb8 (s_load (.int .i64 x.inp.v) ag_3 rfl (H7.blk_at (i := 0) rfl) rfl rfl (Rh hb8 (s_call [.int .i64 x.inp.v] pl_49 rfl rfl (ref24_time x.inp.v H7) ?_)))))
 rintro _ w10 ⟨rfl, H11⟩
 refine Rh hb8 (s_not (timeB x.inp.v) rfl (!(timeB x.inp.v)) rfl rfl (rc (s_pick_f (.bool (!(timeB x.inp.v))) (by exact congrArg Value.bool hb8) rfl rfl (Mv (.bool (!(timeB x.inp.v))) ?_))))
 by_cases hb12 : (!(timeB x.inp.v)) = true
 ·refine Rq hb12 (Rq hb12 (Rq hb12 (Rq hb12 (rc (s_pick_t (.bool true) (by exact congrArg Value.bool hb12) rfl rfl (Mv (.bool true) (Rp (Rp (Rp (Rp (Rn (Rn (Rn (Rp (Rp (Rn (Rn (Rn (Rp (Pt (.bool true) (r_nil (g_true rfl (g_seq (g_region (Ag (.int .i64 243) (r_nil (Gr [.int .i64 243] Tryz.func11 Tryz.results11 ?_)))))))))))))))))))))))))))
  have H13 : St W w10 F := (((H11.drop 0 rfl).drop 0 rfl).drop 0 rfl)
  exact ⟨vint (itE_243 t3).symm, H13⟩
 have hb12 := eq_false_of_ne_true hb12
 refine Rh hb12 (s_fieldAddr 26 2 2 2 2 rfl fi_26_2 rfl rfl (Rh hb12 (s_load (.int .i64 x.ep.v) ag_2 rfl (H11.blk_at (i := 0) rfl) rfl rfl (Rh hb12 (s_call [.int .i64 x.ep.v] pl_49 rfl rfl (ref24_time x.ep.v H11) ?_)))))
 rintro _ w14 ⟨rfl, H15⟩
 refine Rh hb12 (s_not (timeB x.ep.v) rfl (!(timeB x.ep.v)) rfl rfl (rc (s_pick_f (.bool (!(timeB x.ep.v))) (by exact congrArg Value.bool hb12) rfl rfl (Mv (.bool (!(timeB x.ep.v))) ?_))))
 by_cases hb16 : (!(timeB x.ep.v)) = true
 ·refine Rq hb16 (Rq hb16 (Rq hb16 (Rq hb16 (Rn (Rn (Rn (Rq hb16 (Rq hb16 (Rn (Rn (Rn (Rq hb16 (rc (s_pick_t (.bool true) (by exact congrArg Value.bool hb16) rfl rfl (r_nil (g_true rfl (g_seq (g_region (Ag (.int .i64 243) (r_nil (Gr [.int .i64 243] Tryz.func11 Tryz.results11 ?_)))))))))))))))))))))
  have H17 : St W w14 F := (((H15.drop 0 rfl).drop 0 rfl).drop 0 rfl)
  exact ⟨vint (itE_243 t3).symm, H17⟩
 have hb16 := eq_false_of_ne_true hb16
 refine Rh hb16 (s_fieldAddr 26 3 3 3 3 rfl fi_26_3 rfl rfl (Rh hb16 (s_load (.int .i64 x.kind.v) ag_3 rfl (H15.blk_at (i := 0) rfl) rfl rfl (Rh hb16 ?_))))
 by_cases hc18 : x.kind.v = 1
 ·refine s_neq false rfl rfl (ntrue hc18) rfl (Rh hb16 (Mw (.bool false) (Rp (Rp (Rp (Rh hb16 (s_pick_f (.bool false) rfl rfl rfl (Rh hb16 (Mw (.bool false) (Rp (Rp (Rp (Rh hb16 (s_pick_f (.bool false) rfl rfl rfl (rc (s_pick_f (.bool false) (by exact congrArg Value.bool hb16) rfl rfl (r_nil (g_false rfl (g_skip (g_seq (g_seq (g_region (Fa 3 fi_26_3 rfl (Lo (.int .i64 x.kind.v) ag_3 H15 0 (rc (s_eql false rfl rfl (dfalse t0) rfl (Mv (.bool false) (Rp (Rp (Rp (Rp (Rn (Rn (Rn (Rp (Pf (.bool false) (Mv (.bool false) (Rt (s_fieldAddr 26 3 3 3 3 rfl fi_26_3 rfl rfl (Rt (s_load (.int .i64 x.kind.v) ag_3 rfl (H15.blk_at (i := 0) rfl) rfl rfl (Rt ?_))))))))))))))))))))))))))))))))))))))))))
  refine s_neq true rfl rfl (nfalse t0) rfl (Rt (Mw (.bool true) (Rt (s_fieldAddr 26 5 5 5 2 rfl fi_26_5 rfl rfl (Rt (s_load (.int .i64 x.t.v) ag_2 rfl (H15.blk_at (i := 0) rfl) rfl rfl (Rt ?_)))))))
  by_cases hc19 : x.t.v = 0
  ·refine s_neq false rfl rfl (ntrue hc19) rfl (Rt (s_pick_t (.bool false) rfl rfl rfl (Pf (.bool false) (Mv (.bool false) (Rt (s_fieldAddr 26 3 3 3 3 rfl fi_26_3 rfl rfl (Rt (s_load (.int .i64 x.kind.v) ag_3 rfl (H15.blk_at (i := 0) rfl) rfl rfl (Rt (s_neq false rfl rfl (ntrue t0) rfl (Rt (Mw (.bool false) (Rp (Rp (Rp (Rp (Rp (Rt (s_pick_f (.bool false) rfl rfl rfl (Pf (.bool false) (r_nil (g_false rfl (g_skip (g_seq (g_seq (g_region (Fa 3 fi_26_3 rfl (Lo (.int .i64 x.kind.v) ag_3 H15 0 (rc (s_eql true rfl rfl (dtrue t0) rfl (r_nil (g_true rfl (g_seq (g_region (Fa 4 fi_26_4 rfl (La [.slice x.p x.bs.length x.c] 1 ag_24 H15 0 (rc (s_call [.agg #[.slice x.p x.bs.length x.c]] pl_50 rfl rfl (ref10_Check x.bs _ (ip := 2) rfl (iq := 1) rfl H15) ?_))))))))))))))))))))))))))))))))))))))
   rintro _ w20 ⟨rfl, H21⟩
   refine Ag (.int .i64 (ptE x.bs)) (r_nil (Gr [.int .i64 (ptE x.bs)] Tryz.func11 Tryz.results11 ?_))
   have H22 : St W w20 F := (((H21.drop 0 rfl).drop 0 rfl).drop 0 rfl)
   exact ⟨vint (itE_1 t24 t0).symm, H22⟩
  refine s_neq true rfl rfl (nfalse hc19) rfl (Rt (s_pick_t (.bool true) rfl rfl rfl (Pf (.bool true) (Mv (.bool true) (Rp (Rp (Rp (Rp (Rn (Rn (Rn (Rn (Rn (Rp (Pt (.bool true) (r_nil (g_true rfl (g_seq (g_region (Ag (.int .i64 243) (r_nil (Gr [.int .i64 243] Tryz.func11 Tryz.results11 ?_))))))))))))))))))))))
  have H23 : St W w14 F := (((H15.drop 0 rfl).drop 0 rfl).drop 0 rfl)
  exact ⟨vint (itE_243 t3).symm, H23⟩
 refine s_neq true rfl rfl (nfalse hc18) rfl (Rh hb16 (Mw (.bool true) (Rt (s_fieldAddr 26 3 3 3 3 rfl fi_26_3 rfl rfl (Rt (s_load (.int .i64 x.kind.v) ag_3 rfl (H15.blk_at (i := 0) rfl) rfl rfl (Rt ?_)))))))
 by_cases hc24 : x.kind.v = 2
 ·refine s_neq false rfl rfl (ntrue hc24) rfl (Rh hb16 (s_pick_t (.bool false) rfl rfl rfl (Rh hb16 (Mw (.bool false) (Rp (Rp (Rp (Rh hb16 (s_pick_f (.bool false) rfl rfl rfl (rc (s_pick_f (.bool false) (by exact congrArg Value.bool hb16) rfl rfl (r_nil (g_false rfl (g_skip (g_seq (g_seq (g_region (Fa 3 fi_26_3 rfl (Lo (.int .i64 x.kind.v) ag_3 H15 0 (rc (s_eql true rfl rfl (dtrue t0) rfl (Mv (.bool true) (Rt (s_fieldAddr 26 5 5 5 2 rfl fi_26_5 rfl rfl (Rt (s_load (.int .i64 x.t.v) ag_2 rfl (H15.blk_at (i := 0) rfl) rfl rfl (Rt ?_)))))))))))))))))))))))))))
  by_cases hc25 : x.t.v < 0
  ·refine s_lss true rfl rfl (dtrue hc25) rfl (Rt (Mw (.bool true) (Rp (Rp (Rp (Rt (s_pick_t (.bool true) rfl rfl rfl (Pt (.bool true) (Mv (.bool true) (Rp (Rp (Rp (Rp (Rn (Rn (Rn (Rp (Pt (.bool true) (Mv (.bool true) (Rp (Rp (Rp (Rp (Rn (Rn (Rn (Rn (Rn (Rp (Pt (.bool true) (r_nil (g_true rfl (g_seq (g_region (Ag (.int .i64 243) (r_nil (Gr [.int .i64 243] Tryz.func11 Tryz.results11 ?_)))))))))))))))))))))))))))))))))))))
   have H26 : St W w14 F := (((H15.drop 0 rfl).drop 0 rfl).drop 0 rfl)
   exact ⟨vint (itE_243 t3).symm, H26⟩
  refine s_lss false rfl rfl (dfalse hc25) rfl (Rt (Mw (.bool false) (Rt (s_fieldAddr 26 5 5 5 2 rfl fi_26_5 rfl rfl (Rt (s_load (.int .i64 x.t.v) ag_2 rfl (H15.blk_at (i := 0) rfl) rfl rfl (Rt ?_)))))))
  by_cases hc27 : (1099511627777 : Int) < x.t.v
  ·refine s_gtr true rfl rfl (dtrue hc27) rfl (Rt (s_pick_f (.bool true) rfl rfl rfl (Pt (.bool true) (Mv (.bool true) (Rp (Rp (Rp (Rp (Rn (Rn (Rn (Rp (Pt (.bool true) (Mv (.bool true) (Rp (Rp (Rp (Rp (Rn (Rn (Rn (Rn (Rn (Rp (Pt (.bool true) (r_nil (g_true rfl (g_seq (g_region (Ag (.int .i64 243) (r_nil (Gr [.int .i64 243] Tryz.func11 Tryz.results11 ?_))))))))))))))))))))))))))))))))
   have H28 : St W w14 F := (((H15.drop 0 rfl).drop 0 rfl).drop 0 rfl)
   exact ⟨vint (itE_243 t3).symm, H28⟩
  refine s_gtr false rfl rfl (dfalse hc27) rfl (Rt (s_pick_f (.bool false) rfl rfl rfl (Pt (.bool false) (Mv (.bool false) (Rt (s_fieldAddr 26 3 3 3 3 rfl fi_26_3 rfl rfl (Rt (s_load (.int .i64 x.kind.v) ag_3 rfl (H15.blk_at (i := 0) rfl) rfl rfl (Rt (s_neq false rfl rfl (ntrue t0) rfl (Rt (Mw (.bool false) (Rp (Rp (Rp (Rt (s_pick_f (.bool false) rfl rfl rfl (Pf (.bool false) (Mv (.bool false) (Rt (s_fieldAddr 26 3 3 3 3 rfl fi_26_3 rfl rfl (Rt (s_load (.int .i64 x.kind.v) ag_3 rfl (H15.blk_at (i := 0) rfl) rfl rfl (Rt (s_neq true rfl rfl (nfalse t0) rfl (Rt (Mw (.bool true) (Rt (s_fieldAddr 26 4 4 4 24 rfl fi_26_4 rfl rfl (Rt (s_fieldAddr 24 0 0 4 22 rfl fi_24_0 rfl rfl (Rt (s_load (.slice x.p x.bs.length x.c) ag_22 rfl (H15.blk_at (i := 0) rfl) rfl rfl (Rt (s_len x.bs.length rfl ⟨_, un_22⟩ rfl (Rt ?_))))))))))))))))))))))))))))))))))))
  by_cases hc29 : (0 : Int) < (x.bs.length : Int)
  ·refine s_gtr true rfl rfl (dtrue hc29) rfl (Rt (s_pick_t (.bool true) rfl rfl rfl (Pf (.bool true) (r_nil (g_true rfl (g_seq (g_region (Ag (.int .i64 243) (r_nil (Gr [.int .i64 243] Tryz.func11 Tryz.results11 ?_))))))))))
   have H30 : St W w14 F := (((H15.drop 0 rfl).drop 0 rfl).drop 0 rfl)
   exact ⟨vint (itE_243 t3).symm, H30⟩
  refine s_gtr false rfl rfl (dfalse hc29) rfl (Rt (s_pick_t (.bool false) rfl rfl rfl (Pf (.bool false) (r_nil (g_false rfl (g_skip (g_seq (g_seq (g_region (Fa 3 fi_26_3 rfl (Lo (.int .i64 x.kind.v) ag_3 H15 0 (rc (s_eql false rfl rfl (dfalse t0) rfl (r_nil (g_false rfl (g_skip (g_seq (g_region (Ag (.int .i64 0) (r_nil (Gr [.int .i64 0] Tryz.func11 Tryz.results11 ?_)))))))))))))))))))))
  have H31 : St W w14 F := (((H15.drop 0 rfl).drop 0 rfl).drop 0 rfl)
  exact ⟨vint (itE_0 t24 t0).symm, H31⟩
 refine s_neq true rfl rfl (nfalse hc24) rfl (Rh hb16 (s_pick_t (.bool true) rfl rfl rfl (Rh hb16 (Mw (.bool true) (Rt (s_fieldAddr 26 3 3 3 3 rfl fi_26_3 rfl rfl (Rt (s_load (.int .i64 x.kind.v) ag_3 rfl (H15.blk_at (i := 0) rfl) rfl rfl (Rt ?_)))))))))
 by_cases hc32 : x.kind.v = 3
 ·refine s_neq false rfl rfl (ntrue hc32) rfl (Rh hb16 (s_pick_t (.bool false) rfl rfl rfl (rc (s_pick_f (.bool false) (by exact congrArg Value.bool hb16) rfl rfl (r_nil (g_false rfl (g_skip (g_seq (g_seq (g_region (Fa 3 fi_26_3 rfl (Lo (.int .i64 x.kind.v) ag_3 H15 0 (rc (s_eql false rfl rfl (dfalse t0) rfl (Mv (.bool false) (Rp (Rp (Rp (Rp (Rn (Rn (Rn (Rp (Pf (.bool false) (Mv (.bool false) (Rt (s_fieldAddr 26 3 3 3 3 rfl fi_26_3 rfl rfl (Rt (s_load (.int .i64 x.kind.v) ag_3 rfl (H15.blk_at (i := 0) rfl) rfl rfl (Rt (s_neq true rfl rfl (nfalse t0) rfl (Rt (Mw (.bool true) (Rt (s_fieldAddr 26 5 5 5 2 rfl fi_26_5 rfl rfl (Rt (s_load (.int .i64 x.t.v) ag_2 rfl (H15.blk_at (i := 0) rfl) rfl rfl (Rt ?_))))))))))))))))))))))))))))))))))))))
  by_cases hc33 : x.t.v = 0
  ·refine s_neq false rfl rfl (ntrue hc33) rfl (Rt (s_pick_t (.bool false) rfl rfl rfl (Pf (.bool false) (Mv (.bool false) (Rt (s_fieldAddr 26 3 3 3 3 rfl fi_26_3 rfl rfl (Rt (s_load (.int .i64 x.kind.v) ag_3 rfl (H15.blk_at (i := 0) rfl) rfl rfl (Rt (s_neq true rfl rfl (nfalse t0) rfl (Rt (Mw (.bool true) (Rt (s_fieldAddr 26 4 4 4 24 rfl fi_26_4 rfl rfl (Rt (s_fieldAddr 24 0 0 4 22 rfl fi_24_0 rfl rfl (Rt (s_load (.slice x.p x.bs.length x.c) ag_22 rfl (H15.blk_at (i := 0) rfl) rfl rfl (Rt (s_len x.bs.length rfl ⟨_, un_22⟩ rfl (Rt ?_)))))))))))))))))))))
   by_cases hc34 : (0 : Int) < (x.bs.length : Int)
   ·refine s_gtr true rfl rfl (dtrue hc34) rfl (Rt (s_pick_t (.bool true) rfl rfl rfl (Pf (.bool true) (r_nil (g_true rfl (g_seq (g_region (Ag (.int .i64 243) (r_nil (Gr [.int .i64 243] Tryz.func11 Tryz.results11 ?_))))))))))
    have H35 : St W w14 F := (((H15.drop 0 rfl).drop 0 rfl).drop 0 rfl)
    exact ⟨vint (itE_243 t3).symm, H35⟩
   refine s_gtr false rfl rfl (dfalse hc34) rfl (Rt (s_pick_t (.bool false) rfl rfl rfl (Pf (.bool false) (r_nil (g_false rfl (g_skip (g_seq (g_seq (g_region (Fa 3 fi_26_3 rfl (Lo (.int .i64 x.kind.v) ag_3 H15 0 (rc (s_eql false rfl rfl (dfalse t0) rfl (r_nil (g_false rfl (g_skip (g_seq (g_region (Ag (.int .i64 0) (r_nil (Gr [.int .i64 0] Tryz.func11 Tryz.results11 ?_)))))))))))))))))))))
   have H36 : St W w14 F := (((H15.drop 0 rfl).drop 0 rfl).drop 0 rfl)
   exact ⟨vint (itE_0 t24 t0).symm, H36⟩
  refine s_neq true rfl rfl (nfalse hc33) rfl (Rt (s_pick_t (.bool true) rfl rfl rfl (Pf (.bool true) (Mv (.bool true) (Rp (Rp (Rp (Rp (Rn (Rn (Rn (Rn (Rn (Rp (Pt (.bool true) (r_nil (g_true rfl (g_seq (g_region (Ag (.int .i64 243) (r_nil (Gr [.int .i64 243] Tryz.func11 Tryz.results11 ?_))))))))))))))))))))))
  have H37 : St W w14 F := (((H15.drop 0 rfl).drop 0 rfl).drop 0 rfl)
  exact ⟨vint (itE_243 t3).symm, H37⟩
 refine s_neq true rfl rfl (nfalse hc32) rfl (Rh hb16 (s_pick_t (.bool true) rfl rfl rfl (rc (s_pick_f (.bool true) (by exact congrArg Value.bool hb16) rfl rfl (r_nil (g_true rfl (g_seq (g_region (Ag (.int .i64 243) (r_nil (Gr [.int .i64 243] Tryz.func11 Tryz.results11 ?_)))))))))))
 have H38 : St W w14 F := (((H15.drop 0 rfl).drop 0 rfl).drop 0 rfl)
 exact ⟨vint (itE_243 t3).symm, H38⟩
end Sl
