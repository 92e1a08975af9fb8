/- Walks of the program's functions. Printed by a program of this claim's author. No condition. -/
import Derived.Test.YteogdknlofcpiaaSlBA
import Derived.Test.YteogdknlofcpiaaSlDB
import Derived.Test.YteogdknlofcpiaaSlQ
import Derived.Test.YteogdknlofcpiaaSlR
import Derived.Test.YteogdknlofcpiaaSlG
import Derived.Test.YteogdknlofcpiaaSlDK
import Derived.Test.YteogdknlofcpiaaSlDH
import Derived.Test.YteogdknlofcpiaaSlDN
import Derived.Test.YteogdknlofcpiaaSlDO
import Derived.Test.YteogdknlofcpiaaSlDP
import Derived.Test.YteogdknlofcpiaaProg
import Derived.Test.YteogdknlofcpiaaWalkMigrateLands2
namespace Sl
open _root_.Go _root_.Go.RowKit _root_.Go.Proofs
set_option linter.all false
set_option maxHeartbeats 4000000 in
set_option maxRecDepth 100000 in
theorem Ln_PieceG {W w : World} {F : List Atom} (g : Nat) (s : LdS) (x : PieceD) (hs : LOk s) {i : Nat} (hi : F[i]? = some (LnA g s)) {j : Nat} (hj : F[j]? = some (DtA x.p x.c x.v.data)) (H : St W w F) : Calls Try.prog 22 #[.pointer (some ⟨g, 0, none⟩), .agg #[.int .i64 x.v.op.v, .int .i64 x.v.many.v, .int .i64 x.v.index.v, .slice x.p x.v.data.length x.c]] w (Ret fun v w' => v = .tuple #[.bool (lpB s x.v), .int .i64 (lpE s x.v)] ∧ St W w' (F.set i (LnA g (lpS s x.v)))) := by
  have H0 := (H.dup hj (DtA_pers _ _ _)).front (i := i + 1) (by exact hi)
  have H1 : St W w (LnA g s :: Im 1 (.slice x.p x.v.data.length x.c) x.v.data.length (x.v.data.flatMap u8c) :: (F.set i emp)) := H0
  have hml0 := Im.len H0 (i := 1) rfl
  have hpn := hs.pn
  refine calls_of_go (n := 73) Try.func22 rfl Try.ntmps22 rfl ?_
  refine g_seq ?_
  refine g_region ?_
  refine r_cons (s_box H1 51 (.agg #[.int .i64 x.v.op.v, .int .i64 x.v.many.v, .int .i64 x.v.index.v, .slice x.p x.v.data.length x.c]) rfl (cs := #[.int .i64 x.v.op.v, .int .i64 x.v.many.v, .int .i64 x.v.index.v, .slice x.p x.v.data.length x.c]) rfl rfl ?_); intro bk2 w3 H4
  refine r_cons (s_assign (.bool false) rfl rfl ?_)
  refine r_cons (s_assign (.int .i64 0) rfl rfl ?_)
  refine r_nil ?_
  refine g_seq ?_
  refine g_seq ?_
  refine g_region ?_
  refine r_cons (s_move (.pointer (some ⟨g, 0, none⟩)) rfl rfl ?_)
  refine r_cons (s_call [.pointer (some ⟨g, 0, none⟩)] pl_71 rfl rfl (Ln_open g s (i := 1) rfl H4) ?_)
  rintro _ w5 ⟨rfl, H6⟩
  refine r_cons (s_assign (.int .i64 (opE s.ov)) rfl rfl ?_)
  refine r_nil ?_
  refine g_seq ?_
  refine g_region ?_
  refine r_cons (s_move (.int .i64 (opE s.ov)) rfl rfl ?_)
  by_cases hc7 : opE s.ov = 0
  · skip
    refine r_cons (s_neq false rfl rfl (ntrue hc7) rfl ?_)
    refine r_nil ?_
    refine g_false rfl ?_
    refine g_skip ?_
    refine g_seq ?_
    refine g_seq ?_
    have hov := opE_f hc7
    have H8 := H6.move 1 rfl
    obtain ⟨⟨m9, pp10, cc11, E12, L13, hE14, hL15⟩, H16⟩ := St.open_ex H8
    have H17 := St.open_star H16
    have hll := it_len hL15
    have hel := keyed_len hE14
    have H18 : St W w5 (blk g (.cells #[.bool true, .bool s.ov, .int .i64 s.op.v, .int .i64 (kOf s.PV), .map (some m9), .slice pp10 L13.length cc11] 98 (0, 0)) :: MapA m9 (ents (kI .i64) evD E12) :: bdA E12 :: wtA 32 s.ov pp10 cc11 L13 :: itsA L13 :: blk bk2 (.cells #[.int .i64 x.v.op.v, .int .i64 x.v.many.v, .int .i64 x.v.index.v, .slice x.p x.v.data.length x.c] 51 (0, 0)) :: Im 1 (.slice x.p x.v.data.length x.c) x.v.data.length (x.v.data.flatMap u8c) :: (F.set i emp)) := H17
    have H19 : St W w5 (blk g (.cells #[.bool true, .bool s.ov, .int .i64 s.op.v, .int .i64 (kOf s.PV), .map (some m9), .slice pp10 L13.length cc11] 98 (0, 0)) :: MapA m9 (ents (kI .i64) evD E12) :: bdA E12 :: Row 32 6 (.slice pp10 L13.length cc11) L13.length (L13.flatMap itCell) :: itsA L13 :: blk bk2 (.cells #[.int .i64 x.v.op.v, .int .i64 x.v.many.v, .int .i64 x.v.index.v, .slice x.p x.v.data.length x.c] 51 (0, 0)) :: Im 1 (.slice x.p x.v.data.length x.c) x.v.data.length (x.v.data.flatMap u8c) :: (F.set i emp)) := by have hx := H18; rw [wt_f hov] at hx; exact hx
    refine g_cut (fun (x_ : Bool) => match x_ with | bad => [(0, .pointer (some ⟨g, 0, none⟩)), (3, .pointer (some ⟨bk2, 0, none⟩)), (4, .bool false), (5, .int .i64 0), (41, .bool bad)]) (fun (x_ : Bool) w => match x_ with | bad => (bad = decide (lpBad s x.v)) ∧ St W w (blk g (.cells #[.bool true, .bool s.ov, .int .i64 s.op.v, .int .i64 (kOf s.PV), .map (some m9), .slice pp10 L13.length cc11] 98 (0, 0)) :: MapA m9 (ents (kI .i64) evD E12) :: bdA E12 :: Row 32 6 (.slice pp10 L13.length cc11) L13.length (L13.flatMap itCell) :: itsA L13 :: blk bk2 (.cells #[.int .i64 x.v.op.v, .int .i64 x.v.many.v, .int .i64 x.v.index.v, .slice x.p x.v.data.length x.c] 51 (0, 0)) :: Im 1 (.slice x.p x.v.data.length x.c) x.v.data.length (x.v.data.flatMap u8c) :: (F.set i emp))) ?_ ?_
    · rintro bad ρ23 w21 ⟨hbad, H22⟩
      change Ends _ _ (upds ρ23 [(0, .pointer (some ⟨g, 0, none⟩)), (3, .pointer (some ⟨bk2, 0, none⟩)), (4, .bool false), (5, .int .i64 0), (41, .bool bad)]) w21
      by_cases hb24 : (bad) = true
      · skip
        refine g_true (congrArg Value.bool hb24) ?_
        refine g_seq ?_
        refine g_region ?_
        refine r_cons (s_assign (.bool false) rfl rfl ?_)
        refine r_cons (s_assign (.int .i64 242) rfl rfl ?_)
        refine r_nil ?_
        refine g_ret' [.bool false, .int .i64 242] Try.func22 Try.results22 ⟨rfl, rfl, trivial⟩ ?_
        have H25 : St W w21 (Row 32 6 (.slice pp10 L13.length cc11) L13.length (L13.flatMap itCell) :: blk g (.cells #[.bool true, .bool s.ov, .int .i64 s.op.v, .int .i64 (kOf s.PV), .map (some m9), .slice pp10 L13.length cc11] 98 (0, 0)) :: MapA m9 (ents (kI .i64) evD E12) :: bdA E12 :: itsA L13 :: blk bk2 (.cells #[.int .i64 x.v.op.v, .int .i64 x.v.many.v, .int .i64 x.v.index.v, .slice x.p x.v.data.length x.c] 51 (0, 0)) :: Im 1 (.slice x.p x.v.data.length x.c) x.v.data.length (x.v.data.flatMap u8c) :: (F.set i emp)) := (H22.move 3 rfl)
        have H26 : St W w21 (wtA 32 s.ov pp10 cc11 L13 :: blk g (.cells #[.bool true, .bool s.ov, .int .i64 s.op.v, .int .i64 (kOf s.PV), .map (some m9), .slice pp10 L13.length cc11] 98 (0, 0)) :: MapA m9 (ents (kI .i64) evD E12) :: bdA E12 :: itsA L13 :: blk bk2 (.cells #[.int .i64 x.v.op.v, .int .i64 x.v.many.v, .int .i64 x.v.index.v, .slice x.p x.v.data.length x.c] 51 (0, 0)) :: Im 1 (.slice x.p x.v.data.length x.c) x.v.data.length (x.v.data.flatMap u8c) :: (F.set i emp)) := wt_of (ov := s.ov) H25
        have H27 : St W w21 (blk g (.cells #[.bool true, .bool s.ov, .int .i64 s.op.v, .int .i64 (kOf s.PV), .map (some m9), .slice pp10 L13.length cc11] 98 (0, 0)) :: MapA m9 (ents (kI .i64) evD E12) :: bdA E12 :: wtA 32 s.ov pp10 cc11 L13 :: itsA L13 :: blk bk2 (.cells #[.int .i64 x.v.op.v, .int .i64 x.v.many.v, .int .i64 x.v.index.v, .slice x.p x.v.data.length x.c] 51 (0, 0)) :: Im 1 (.slice x.p x.v.data.length x.c) x.v.data.length (x.v.data.flatMap u8c) :: (F.set i emp)) := (((((H26.move 4 rfl).move 1 rfl).move 4 rfl).move 4 rfl).move 4 rfl)
        have H28 : St W w21 (LnA g s :: blk bk2 (.cells #[.int .i64 x.v.op.v, .int .i64 x.v.many.v, .int .i64 x.v.index.v, .slice x.p x.v.data.length x.c] 51 (0, 0)) :: Im 1 (.slice x.p x.v.data.length x.c) x.v.data.length (x.v.data.flatMap u8c) :: (F.set i emp)) := St.shut_ex (⟨m9, pp10, cc11, E12, L13, hE14, hL15⟩ : LnX s) (St.shut_star (ls := [blk g (.cells #[.bool true, .bool s.ov, .int .i64 s.op.v, .int .i64 (kOf s.PV), .map (some m9), .slice pp10 L13.length cc11] 98 (0, 0)), MapA m9 (ents (kI .i64) evD E12), bdA E12, wtA 32 s.ov pp10 cc11 L13, itsA L13]) H27)
        have H29 : St W w21 (LnA g s :: (F.set i emp)) := ((H28.drop 1 rfl).drop 1 rfl)
        have hE9 : lpE s x.v = 242 := lp_2 hov (of_decide_eq_true (hbad.symm.trans hb24))
        have hE0 : ¬ lpE s x.v = 0 := by rw [hE9]; first | assumption | decide
        exact ⟨by rw [lpB_no hE0, hE9]; rfl, by rw [lpS_no hE0]; exact St.back hi H29⟩
      · have hb24 := eq_false_of_ne_true hb24
        refine g_false (congrArg Value.bool hb24) ?_
        refine g_skip ?_
        refine g_seq ?_
        refine g_seq ?_
        have hg : ¬ lpBad s x.v := of_decide_eq_false (hbad.symm.trans hb24)
        have hdl9 := lp_dat hg
        refine g_quiet (fun w' => St W w' (blk g (.cells #[.bool true, .bool s.ov, .int .i64 s.op.v, .int .i64 (kOf s.PV), .map (some m9), .slice pp10 L13.length cc11] 98 (0, 0)) :: MapA m9 (ents (kI .i64) evD E12) :: bdA E12 :: Row 32 6 (.slice pp10 L13.length cc11) L13.length (L13.flatMap itCell) :: itsA L13 :: blk bk2 (.cells #[.int .i64 x.v.op.v, .int .i64 x.v.many.v, .int .i64 x.v.index.v, .slice x.p x.v.data.length x.c] 51 (0, 0)) :: Im 1 (.slice x.p x.v.data.length x.c) x.v.data.length (x.v.data.flatMap u8c) :: (F.set i emp))) mixed (by kernel_rfl) H22.drew ?_
        refine q_cons (q_val rfl rfl rfl (by intro w hw; exact x_move (.pointer (some ⟨g, 0, none⟩)) rfl w) ?_)
        refine q_cons (q_val rfl rfl rfl (by intro w hw; exact x_nilCheck (.pointer (some ⟨g, 0, none⟩)) rfl ⟨_, rfl⟩ w) ?_)
        refine q_cons (q_val rfl rfl rfl (by intro w hw; exact x_fieldAddr 98 4 4 4 96 rfl fi_98_4 rfl w) ?_)
        refine q_cons (q_val rfl rfl rfl (by intro w hw; exact x_load (.map (some m9)) ag_96 rfl (hw.blk_at (i := 0) rfl) rfl) ?_)
        refine q_cons (q_val rfl rfl rfl (by intro w hw; exact x_fieldAddr 51 2 2 2 3 rfl fi_51_2 rfl w) ?_)
        refine q_cons (q_val rfl rfl rfl (by intro w hw; exact x_load (.int .i64 x.v.index.v) ag_3 rfl (hw.blk_at (i := 5) rfl) rfl) ?_)
        refine q_cons (q_val rfl rfl rfl (by intro w hw; exact x_lookup2 (ek := (kI .i64)) (ev := evD) (L := E12) x.v.index (.slice ((gd E12 x.v.index).p) ((gd E12 x.v.index).data.length) ((gd E12 x.v.index).c)) (ahas E12 x.v.index) (MapA.at hw (i := 1) rfl) (KeyLaw.I un_3) un_96 zv_23 rfl rfl ((gd_look _ _)) rfl) ?_)
        refine q_cons (q_val rfl rfl rfl (by intro w hw; exact x_move (.tuple #[.slice ((gd E12 x.v.index).p) ((gd E12 x.v.index).data.length) ((gd E12 x.v.index).c), .bool (ahas E12 x.v.index)]) rfl w) ?_)
        refine q_cons (q_val rfl rfl rfl (by intro w hw; exact x_extract (.slice ((gd E12 x.v.index).p) ((gd E12 x.v.index).data.length) ((gd E12 x.v.index).c)) #[.slice ((gd E12 x.v.index).p) ((gd E12 x.v.index).data.length) ((gd E12 x.v.index).c), .bool (ahas E12 x.v.index)] rfl rfl w) ?_)
        refine q_cons (q_val rfl rfl rfl (by intro w hw; exact x_extract (.bool (ahas E12 x.v.index)) #[.slice ((gd E12 x.v.index).p) ((gd E12 x.v.index).data.length) ((gd E12 x.v.index).c), .bool (ahas E12 x.v.index)] rfl rfl w) ?_)
        refine q_cons (q_val rfl rfl rfl (by intro w hw; exact x_assign (.slice ((gd E12 x.v.index).p) ((gd E12 x.v.index).data.length) ((gd E12 x.v.index).c)) rfl w) ?_)
        refine q_cons (q_val rfl rfl rfl (by intro w hw; exact x_assign (.bool (ahas E12 x.v.index)) rfl w) ?_)
        refine q_nil ?_
        intro w30 H31
        refine g_seq ?_
        refine g_region ?_
        refine r_cons (s_move (.bool (ahas E12 x.v.index)) rfl rfl ?_)
        refine r_nil ?_
        by_cases hb32 : (ahas E12 x.v.index) = true
        · skip
          refine g_true (congrArg Value.bool hb32) ?_
          refine g_seq ?_
          refine g_seq ?_
          refine g_region ?_
          have H33 : St W w30 (Im 1 (.slice ((gd E12 x.v.index).p) ((gd E12 x.v.index).data.length) ((gd E12 x.v.index).c)) (((gd E12 x.v.index).data).length) (((gd E12 x.v.index).data).flatMap u8c) :: blk g (.cells #[.bool true, .bool s.ov, .int .i64 s.op.v, .int .i64 (kOf s.PV), .map (some m9), .slice pp10 L13.length cc11] 98 (0, 0)) :: MapA m9 (ents (kI .i64) evD E12) :: bdA E12 :: Row 32 6 (.slice pp10 L13.length cc11) L13.length (L13.flatMap itCell) :: itsA L13 :: blk bk2 (.cells #[.int .i64 x.v.op.v, .int .i64 x.v.many.v, .int .i64 x.v.index.v, .slice x.p x.v.data.length x.c] 51 (0, 0)) :: Im 1 (.slice x.p x.v.data.length x.c) x.v.data.length (x.v.data.flatMap u8c) :: (F.set i emp)) := gd_at x.v.index H31 (i := 2) rfl
          refine r_cons (s_move (.slice ((gd E12 x.v.index).p) ((gd E12 x.v.index).data.length) ((gd E12 x.v.index).c)) rfl rfl ?_)
          refine r_cons (s_fieldAddr 51 3 3 3 23 rfl fi_51_3 rfl rfl ?_)
          refine r_cons (s_load (.slice x.p x.v.data.length x.c) ag_23 rfl (H33.blk_at (i := 6) rfl) rfl rfl ?_)
          refine r_cons (s_call [.slice ((gd E12 x.v.index).p) ((gd E12 x.v.index).data.length) ((gd E12 x.v.index).c), .slice x.p x.v.data.length x.c] pl_27 rfl rfl (bytes_Equal _ _ _ _ _ _ ((gd E12 x.v.index).data) x.v.data RdA.im RdA.im (j := 0) rfl (k := 7) rfl H33) ?_)
          rintro _ w34 ⟨rfl, H35⟩
          refine r_nil ?_
          by_cases hb36 : (decide (((gd E12 x.v.index).data) = x.v.data)) = true
          · skip
            refine g_true (congrArg Value.bool hb36) ?_
            refine g_seq ?_
            refine g_region ?_
            refine r_cons (s_assign (.bool false) rfl rfl ?_)
            refine r_cons (s_assign (.int .i64 5) rfl rfl ?_)
            refine r_nil ?_
            refine g_ret' [.bool false, .int .i64 5] Try.func22 Try.results22 ⟨rfl, rfl, trivial⟩ ?_
            have H37 : St W w34 (Row 32 6 (.slice pp10 L13.length cc11) L13.length (L13.flatMap itCell) :: Im 1 (.slice ((gd E12 x.v.index).p) ((gd E12 x.v.index).data.length) ((gd E12 x.v.index).c)) (((gd E12 x.v.index).data).length) (((gd E12 x.v.index).data).flatMap u8c) :: blk g (.cells #[.bool true, .bool s.ov, .int .i64 s.op.v, .int .i64 (kOf s.PV), .map (some m9), .slice pp10 L13.length cc11] 98 (0, 0)) :: MapA m9 (ents (kI .i64) evD E12) :: bdA E12 :: itsA L13 :: blk bk2 (.cells #[.int .i64 x.v.op.v, .int .i64 x.v.many.v, .int .i64 x.v.index.v, .slice x.p x.v.data.length x.c] 51 (0, 0)) :: Im 1 (.slice x.p x.v.data.length x.c) x.v.data.length (x.v.data.flatMap u8c) :: (F.set i emp)) := (H35.move 4 rfl)
            have H38 : St W w34 (wtA 32 s.ov pp10 cc11 L13 :: Im 1 (.slice ((gd E12 x.v.index).p) ((gd E12 x.v.index).data.length) ((gd E12 x.v.index).c)) (((gd E12 x.v.index).data).length) (((gd E12 x.v.index).data).flatMap u8c) :: blk g (.cells #[.bool true, .bool s.ov, .int .i64 s.op.v, .int .i64 (kOf s.PV), .map (some m9), .slice pp10 L13.length cc11] 98 (0, 0)) :: MapA m9 (ents (kI .i64) evD E12) :: bdA E12 :: itsA L13 :: blk bk2 (.cells #[.int .i64 x.v.op.v, .int .i64 x.v.many.v, .int .i64 x.v.index.v, .slice x.p x.v.data.length x.c] 51 (0, 0)) :: Im 1 (.slice x.p x.v.data.length x.c) x.v.data.length (x.v.data.flatMap u8c) :: (F.set i emp)) := wt_of (ov := s.ov) H37
            have H39 : St W w34 (blk g (.cells #[.bool true, .bool s.ov, .int .i64 s.op.v, .int .i64 (kOf s.PV), .map (some m9), .slice pp10 L13.length cc11] 98 (0, 0)) :: MapA m9 (ents (kI .i64) evD E12) :: bdA E12 :: wtA 32 s.ov pp10 cc11 L13 :: itsA L13 :: Im 1 (.slice ((gd E12 x.v.index).p) ((gd E12 x.v.index).data.length) ((gd E12 x.v.index).c)) (((gd E12 x.v.index).data).length) (((gd E12 x.v.index).data).flatMap u8c) :: blk bk2 (.cells #[.int .i64 x.v.op.v, .int .i64 x.v.many.v, .int .i64 x.v.index.v, .slice x.p x.v.data.length x.c] 51 (0, 0)) :: Im 1 (.slice x.p x.v.data.length x.c) x.v.data.length (x.v.data.flatMap u8c) :: (F.set i emp)) := (((((H38.move 5 rfl).move 1 rfl).move 5 rfl).move 5 rfl).move 5 rfl)
            have H40 : St W w34 (LnA g s :: Im 1 (.slice ((gd E12 x.v.index).p) ((gd E12 x.v.index).data.length) ((gd E12 x.v.index).c)) (((gd E12 x.v.index).data).length) (((gd E12 x.v.index).data).flatMap u8c) :: blk bk2 (.cells #[.int .i64 x.v.op.v, .int .i64 x.v.many.v, .int .i64 x.v.index.v, .slice x.p x.v.data.length x.c] 51 (0, 0)) :: Im 1 (.slice x.p x.v.data.length x.c) x.v.data.length (x.v.data.flatMap u8c) :: (F.set i emp)) := St.shut_ex (⟨m9, pp10, cc11, E12, L13, hE14, hL15⟩ : LnX s) (St.shut_star (ls := [blk g (.cells #[.bool true, .bool s.ov, .int .i64 s.op.v, .int .i64 (kOf s.PV), .map (some m9), .slice pp10 L13.length cc11] 98 (0, 0)), MapA m9 (ents (kI .i64) evD E12), bdA E12, wtA 32 s.ov pp10 cc11 L13, itsA L13]) H39)
            have H41 : St W w34 (LnA g s :: (F.set i emp)) := (((H40.drop 1 rfl).drop 1 rfl).drop 1 rfl)
            have hE9 : lpE s x.v = 5 := lpp_5 hov hg hE14 hs.nd hb32 (of_decide_eq_true hb36)
            have hE0 : ¬ lpE s x.v = 0 := by rw [hE9]; first | assumption | decide
            exact ⟨by rw [lpB_no hE0, hE9]; rfl, by rw [lpS_no hE0]; exact St.back hi H41⟩
          · have hb36 := eq_false_of_ne_true hb36
            refine g_false (congrArg Value.bool hb36) ?_
            refine g_skip ?_
            refine g_seq ?_
            refine g_region ?_
            refine r_cons (s_assign (.bool false) rfl rfl ?_)
            refine r_cons (s_assign (.int .i64 242) rfl rfl ?_)
            refine r_nil ?_
            refine g_ret' [.bool false, .int .i64 242] Try.func22 Try.results22 ⟨rfl, rfl, trivial⟩ ?_
            have H42 : St W w34 (Row 32 6 (.slice pp10 L13.length cc11) L13.length (L13.flatMap itCell) :: Im 1 (.slice ((gd E12 x.v.index).p) ((gd E12 x.v.index).data.length) ((gd E12 x.v.index).c)) (((gd E12 x.v.index).data).length) (((gd E12 x.v.index).data).flatMap u8c) :: blk g (.cells #[.bool true, .bool s.ov, .int .i64 s.op.v, .int .i64 (kOf s.PV), .map (some m9), .slice pp10 L13.length cc11] 98 (0, 0)) :: MapA m9 (ents (kI .i64) evD E12) :: bdA E12 :: itsA L13 :: blk bk2 (.cells #[.int .i64 x.v.op.v, .int .i64 x.v.many.v, .int .i64 x.v.index.v, .slice x.p x.v.data.length x.c] 51 (0, 0)) :: Im 1 (.slice x.p x.v.data.length x.c) x.v.data.length (x.v.data.flatMap u8c) :: (F.set i emp)) := (H35.move 4 rfl)
            have H43 : St W w34 (wtA 32 s.ov pp10 cc11 L13 :: Im 1 (.slice ((gd E12 x.v.index).p) ((gd E12 x.v.index).data.length) ((gd E12 x.v.index).c)) (((gd E12 x.v.index).data).length) (((gd E12 x.v.index).data).flatMap u8c) :: blk g (.cells #[.bool true, .bool s.ov, .int .i64 s.op.v, .int .i64 (kOf s.PV), .map (some m9), .slice pp10 L13.length cc11] 98 (0, 0)) :: MapA m9 (ents (kI .i64) evD E12) :: bdA E12 :: itsA L13 :: blk bk2 (.cells #[.int .i64 x.v.op.v, .int .i64 x.v.many.v, .int .i64 x.v.index.v, .slice x.p x.v.data.length x.c] 51 (0, 0)) :: Im 1 (.slice x.p x.v.data.length x.c) x.v.data.length (x.v.data.flatMap u8c) :: (F.set i emp)) := wt_of (ov := s.ov) H42
            have H44 : St W w34 (blk g (.cells #[.bool true, .bool s.ov, .int .i64 s.op.v, .int .i64 (kOf s.PV), .map (some m9), .slice pp10 L13.length cc11] 98 (0, 0)) :: MapA m9 (ents (kI .i64) evD E12) :: bdA E12 :: wtA 32 s.ov pp10 cc11 L13 :: itsA L13 :: Im 1 (.slice ((gd E12 x.v.index).p) ((gd E12 x.v.index).data.length) ((gd E12 x.v.index).c)) (((gd E12 x.v.index).data).length) (((gd E12 x.v.index).data).flatMap u8c) :: blk bk2 (.cells #[.int .i64 x.v.op.v, .int .i64 x.v.many.v, .int .i64 x.v.index.v, .slice x.p x.v.data.length x.c] 51 (0, 0)) :: Im 1 (.slice x.p x.v.data.length x.c) x.v.data.length (x.v.data.flatMap u8c) :: (F.set i emp)) := (((((H43.move 5 rfl).move 1 rfl).move 5 rfl).move 5 rfl).move 5 rfl)
            have H45 : St W w34 (LnA g s :: Im 1 (.slice ((gd E12 x.v.index).p) ((gd E12 x.v.index).data.length) ((gd E12 x.v.index).c)) (((gd E12 x.v.index).data).length) (((gd E12 x.v.index).data).flatMap u8c) :: blk bk2 (.cells #[.int .i64 x.v.op.v, .int .i64 x.v.many.v, .int .i64 x.v.index.v, .slice x.p x.v.data.length x.c] 51 (0, 0)) :: Im 1 (.slice x.p x.v.data.length x.c) x.v.data.length (x.v.data.flatMap u8c) :: (F.set i emp)) := St.shut_ex (⟨m9, pp10, cc11, E12, L13, hE14, hL15⟩ : LnX s) (St.shut_star (ls := [blk g (.cells #[.bool true, .bool s.ov, .int .i64 s.op.v, .int .i64 (kOf s.PV), .map (some m9), .slice pp10 L13.length cc11] 98 (0, 0)), MapA m9 (ents (kI .i64) evD E12), bdA E12, wtA 32 s.ov pp10 cc11 L13, itsA L13]) H44)
            have H46 : St W w34 (LnA g s :: (F.set i emp)) := (((H45.drop 1 rfl).drop 1 rfl).drop 1 rfl)
            have hE9 : lpE s x.v = 242 := lpp_242 hov hg hE14 hs.nd hb32 (of_decide_eq_false hb36)
            have hE0 : ¬ lpE s x.v = 0 := by rw [hE9]; first | assumption | decide
            exact ⟨by rw [lpB_no hE0, hE9]; rfl, by rw [lpS_no hE0]; exact St.back hi H46⟩
        · have hb32 := eq_false_of_ne_true hb32
          refine g_false (congrArg Value.bool hb32) ?_
          refine g_skip ?_
          refine g_seq ?_
          refine g_region ?_
          refine r_cons (s_move (.pointer (some ⟨g, 0, none⟩)) rfl rfl ?_)
          refine r_cons (s_fieldAddr 51 1 1 1 3 rfl fi_51_1 rfl rfl ?_)
          refine r_cons (s_load (.int .i64 x.v.many.v) ag_3 rfl (H31.blk_at (i := 5) rfl) rfl rfl ?_)
          refine r_cons (s_nilCheck (.pointer (some ⟨g, 0, none⟩)) rfl ⟨_, rfl⟩ rfl ?_)
          refine r_cons (s_fieldAddr 98 3 3 3 3 rfl fi_98_3 rfl rfl ?_)
          refine r_cons (s_store H31 0 (.int .i64 x.v.many.v) rfl rfl rfl sz_3 rfl (Nat.le_of_ble_eq_true rfl) rfl (cs' := #[.bool true, .bool s.ov, .int .i64 s.op.v, .int .i64 x.v.many.v, .map (some m9), .slice pp10 L13.length cc11]) rfl ?_); intro w47 H48
          refine r_nil ?_
          refine g_seq ?_
          have H49 : St W w47 (blk g (.cells #[.bool true, .bool s.ov, .int .i64 s.op.v, .int .i64 x.v.many.v, .map (some m9), .slice pp10 L13.length cc11] 98 (0, 0)) :: bdA E12 :: Row 32 6 (.slice pp10 L13.length cc11) L13.length (L13.flatMap itCell) :: itsA L13 :: blk bk2 (.cells #[.int .i64 x.v.op.v, .int .i64 x.v.many.v, .int .i64 x.v.index.v, .slice x.p x.v.data.length x.c] 51 (0, 0)) :: Im 1 (.slice x.p x.v.data.length x.c) x.v.data.length (x.v.data.flatMap u8c) :: MapA m9 (ents (kI .i64) evD E12) :: (F.set i emp)) := (((((((H48.move 1 rfl).move 6 rfl).move 6 rfl).move 6 rfl).move 6 rfl).move 6 rfl).move 6 rfl)
          refine g_mix (fun t_ w => St W w (blk g (.cells #[.bool true, .bool s.ov, .int .i64 s.op.v, .int .i64 x.v.many.v, .map (some m9), .slice pp10 L13.length cc11] 98 (0, 0)) :: bdA E12 :: Row 32 6 (.slice pp10 L13.length cc11) L13.length (L13.flatMap itCell) :: itsA L13 :: blk bk2 (.cells #[.int .i64 x.v.op.v, .int .i64 x.v.many.v, .int .i64 x.v.index.v, .slice x.p x.v.data.length x.c] 51 (0, 0)) :: Im 1 (.slice x.p x.v.data.length x.c) x.v.data.length (x.v.data.flatMap u8c) :: t_)) (MapA m9 (ents (kI .i64) evD E12) :: (F.set i emp)) mixed 10 rfl H49.drew ?_
          refine f_first 0 (listed' := #[true, false, false, false, false, false, false, false, false, false]) rfl (by kernel_rfl) (by kernel_rfl) (by kernel_rfl) rfl ?_
          refine f_val rfl rfl rfl (by intro t_ w hw; exact x_move (.pointer (some ⟨g, 0, none⟩)) rfl w) ?_
          refine f_first 1 (listed' := #[true, true, false, false, false, false, false, false, false, false]) rfl (by kernel_rfl) (by kernel_rfl) (by kernel_rfl) rfl ?_
          refine f_val rfl rfl rfl (by intro t_ w hw; exact x_nilCheck (.pointer (some ⟨g, 0, none⟩)) rfl ⟨_, rfl⟩ w) ?_
          refine f_first 2 (listed' := #[true, true, true, false, false, false, false, false, false, false]) rfl (by kernel_rfl) (by kernel_rfl) (by kernel_rfl) rfl ?_
          refine f_val rfl rfl rfl (by intro t_ w hw; exact x_fieldAddr 98 4 4 4 96 rfl fi_98_4 rfl w) ?_
          refine f_first 3 (listed' := #[true, true, true, true, false, false, false, false, false, false]) rfl (by kernel_rfl) (by kernel_rfl) (by kernel_rfl) rfl ?_
          refine f_val rfl rfl rfl (by intro t_ w hw; exact x_load (.map (some m9)) ag_96 rfl (hw.blk_at (i := 0) rfl) rfl) ?_
          refine f_first 4 (listed' := #[true, true, true, true, true, false, false, false, false, false]) rfl (by kernel_rfl) (by kernel_rfl) (by kernel_rfl) rfl ?_
          refine f_val rfl rfl rfl (by intro t_ w hw; exact x_fieldAddr 51 2 2 2 3 rfl fi_51_2 rfl w) ?_
          refine f_first 5 (listed' := #[true, true, true, true, true, true, false, false, false, false]) rfl (by kernel_rfl) (by kernel_rfl) (by kernel_rfl) rfl ?_
          refine f_val rfl rfl rfl (by intro t_ w hw; exact x_load (.int .i64 x.v.index.v) ag_3 rfl (hw.blk_at (i := 4) rfl) rfl) ?_
          refine f_first 6 (listed' := #[true, true, true, true, true, true, true, false, false, false]) rfl (by kernel_rfl) (by kernel_rfl) (by kernel_rfl) rfl ?_
          refine f_val rfl rfl rfl (by intro t_ w hw; exact x_fieldAddr 51 3 3 3 23 rfl fi_51_3 rfl w) ?_
          refine f_first 7 (listed' := #[true, true, true, true, true, true, true, true, false, false]) rfl (by kernel_rfl) (by kernel_rfl) (by kernel_rfl) rfl ?_
          refine f_val rfl rfl rfl (by intro t_ w hw; exact x_load (.slice x.p x.v.data.length x.c) ag_23 rfl (hw.blk_at (i := 4) rfl) rfl) ?_
          refine f_all (rs := [8]) (by kernel_rfl) (by simp) ?_
          refine a_cons ⟨_, rfl, ?_⟩ (fun x hx => absurd hx (by simp))
          intro w50 H51
          try dsimp only at H51
          refine s_call [.slice x.p x.v.data.length x.c] pl_73 rfl rfl (bytes_Clone _ _ x.v.data.length (x.v.data.flatMap u8c) RdA.im (by first | omega | (have hlp := Nat.le_refl 0; omega)) (j := 5) rfl H51) ?_
          rintro _ w54 ⟨pp52, cc53, rfl, H55⟩
          have H56 : St W w54 (blk g (.cells #[.bool true, .bool s.ov, .int .i64 s.op.v, .int .i64 x.v.many.v, .map (some m9), .slice pp10 L13.length cc11] 98 (0, 0)) :: bdA E12 :: Row 32 6 (.slice pp10 L13.length cc11) L13.length (L13.flatMap itCell) :: itsA L13 :: blk bk2 (.cells #[.int .i64 x.v.op.v, .int .i64 x.v.many.v, .int .i64 x.v.index.v, .slice x.p x.v.data.length x.c] 51 (0, 0)) :: Im 1 (.slice x.p x.v.data.length x.c) x.v.data.length (x.v.data.flatMap u8c) :: Row 5 1 (.slice pp52 x.v.data.length cc53) x.v.data.length (x.v.data.flatMap u8c) :: MapA m9 (ents (kI .i64) evD E12) :: (F.set i emp)) := ((((((((H55.move 7 rfl).move 1 rfl).move 7 rfl).move 7 rfl).move 7 rfl).move 7 rfl).move 7 rfl).move 7 rfl)
          refine ⟨Row 5 1 (.slice pp52 x.v.data.length cc53) x.v.data.length (x.v.data.flatMap u8c) :: MapA m9 (ents (kI .i64) evD E12) :: (F.set i emp), ?_, H56⟩
          change FReg _ _ _ _ _ #[true, true, true, true, true, true, true, true, true, false] _ _
          refine f_all (rs := [9]) (by kernel_rfl) (by simp) ?_
          refine a_cons ⟨_, rfl, ?_⟩ (fun x hx => absurd hx (by simp))
          intro w57 H58
          try dsimp only at H58
          refine s_mapUpdate (ek := (kI .i64)) (ev := evD) (L := E12) x.v.index (⟨x.v.data, pp52, cc53⟩ : BytesD) H58 (i := 7) rfl (KeyLaw.I un_3) un_96 rfl rfl rfl ?_; intro w59 H60
          have H61 : St W w59 (blk g (.cells #[.bool true, .bool s.ov, .int .i64 s.op.v, .int .i64 x.v.many.v, .map (some m9), .slice pp10 L13.length cc11] 98 (0, 0)) :: bdA E12 :: Row 32 6 (.slice pp10 L13.length cc11) L13.length (L13.flatMap itCell) :: itsA L13 :: blk bk2 (.cells #[.int .i64 x.v.op.v, .int .i64 x.v.many.v, .int .i64 x.v.index.v, .slice x.p x.v.data.length x.c] 51 (0, 0)) :: Im 1 (.slice x.p x.v.data.length x.c) x.v.data.length (x.v.data.flatMap u8c) :: Row 5 1 (.slice pp52 x.v.data.length cc53) x.v.data.length (x.v.data.flatMap u8c) :: MapA m9 (ents (kI .i64) evD (aset E12 x.v.index (⟨x.v.data, pp52, cc53⟩ : BytesD))) :: (F.set i emp)) := H60
          refine ⟨Row 5 1 (.slice pp52 x.v.data.length cc53) x.v.data.length (x.v.data.flatMap u8c) :: MapA m9 (ents (kI .i64) evD (aset E12 x.v.index (⟨x.v.data, pp52, cc53⟩ : BytesD))) :: (F.set i emp), ?_, H61⟩
          change FReg _ _ _ _ _ #[true, true, true, true, true, true, true, true, true, true] _ _
          refine f_done (by kernel_rfl) ?_
          intro w62 H63
          refine g_seq ?_
          refine g_region ?_
          refine r_cons (s_move (.pointer (some ⟨g, 0, none⟩)) rfl rfl ?_)
          have h0 : lpE s x.v = 0 := lpp_0 hov hg hE14 hb32
          have hm9 := (lp_many h0).2.2
          have H64 : St W w62 (blk g (.cells #[.bool true, .bool s.ov, .int .i64 s.op.v, .int .i64 x.v.many.v, .map (some m9), .slice pp10 L13.length cc11] 98 (0, 0)) :: bdA E12 :: Row 32 6 (.slice pp10 L13.length cc11) L13.length (L13.flatMap itCell) :: itsA L13 :: blk bk2 (.cells #[.int .i64 x.v.op.v, .int .i64 x.v.many.v, .int .i64 x.v.index.v, .slice x.p x.v.data.length x.c] 51 (0, 0)) :: Im 1 (.slice x.p x.v.data.length x.c) x.v.data.length (x.v.data.flatMap u8c) :: Im 1 (.slice pp52 x.v.data.length cc53) x.v.data.length (x.v.data.flatMap u8c) :: MapA m9 (ents (kI .i64) evD (aset E12 x.v.index (⟨x.v.data, pp52, cc53⟩ : BytesD))) :: (F.set i emp)) := Row.im H63 (i := 6) rfl
          have H65 : St W w62 (Im 1 (.slice pp52 x.v.data.length cc53) x.v.data.length (x.v.data.flatMap u8c) :: bdA E12 :: blk g (.cells #[.bool true, .bool s.ov, .int .i64 s.op.v, .int .i64 x.v.many.v, .map (some m9), .slice pp10 L13.length cc11] 98 (0, 0)) :: Row 32 6 (.slice pp10 L13.length cc11) L13.length (L13.flatMap itCell) :: itsA L13 :: blk bk2 (.cells #[.int .i64 x.v.op.v, .int .i64 x.v.many.v, .int .i64 x.v.index.v, .slice x.p x.v.data.length x.c] 51 (0, 0)) :: Im 1 (.slice x.p x.v.data.length x.c) x.v.data.length (x.v.data.flatMap u8c) :: MapA m9 (ents (kI .i64) evD (aset E12 x.v.index (⟨x.v.data, pp52, cc53⟩ : BytesD))) :: (F.set i emp)) := ((H64.move 1 rfl).move 6 rfl)
          have H66 : St W w62 (bdA (E12 ++ [(x.v.index, (⟨x.v.data, pp52, cc53⟩ : BytesD))]) :: blk g (.cells #[.bool true, .bool s.ov, .int .i64 s.op.v, .int .i64 x.v.many.v, .map (some m9), .slice pp10 L13.length cc11] 98 (0, 0)) :: Row 32 6 (.slice pp10 L13.length cc11) L13.length (L13.flatMap itCell) :: itsA L13 :: blk bk2 (.cells #[.int .i64 x.v.op.v, .int .i64 x.v.many.v, .int .i64 x.v.index.v, .slice x.p x.v.data.length x.c] 51 (0, 0)) :: Im 1 (.slice x.p x.v.data.length x.c) x.v.data.length (x.v.data.flatMap u8c) :: MapA m9 (ents (kI .i64) evD (aset E12 x.v.index (⟨x.v.data, pp52, cc53⟩ : BytesD))) :: (F.set i emp)) := bdA_snoc (k := x.v.index) (x := (⟨x.v.data, pp52, cc53⟩ : BytesD)) H65
          have H67 : St W w62 (bdA (E12 ++ [(x.v.index, (⟨x.v.data, pp52, cc53⟩ : BytesD))]) :: blk g (.cells #[.bool true, .bool s.ov, .int .i64 s.op.v, .int .i64 (kOf ({ s with PV := s.PV ++ [x.v] } : LdS).PV), .map (some m9), .slice pp10 L13.length cc11] 98 (0, 0)) :: Row 32 6 (.slice pp10 L13.length cc11) L13.length (L13.flatMap itCell) :: itsA L13 :: blk bk2 (.cells #[.int .i64 x.v.op.v, .int .i64 x.v.many.v, .int .i64 x.v.index.v, .slice x.p x.v.data.length x.c] 51 (0, 0)) :: Im 1 (.slice x.p x.v.data.length x.c) x.v.data.length (x.v.data.flatMap u8c) :: MapA m9 (ents (kI .i64) evD (E12 ++ [(x.v.index, (⟨x.v.data, pp52, cc53⟩ : BytesD))])) :: (F.set i emp)) := by rw [show kOf ({ s with PV := s.PV ++ [x.v] } : LdS).PV = x.v.many.v from kOf_snoc hm9]; have hx := H66; rw [aset_new (v := (⟨x.v.data, pp52, cc53⟩ : BytesD)) hb32] at hx; exact hx
          have H68 : St W w62 (Row 32 6 (.slice pp10 L13.length cc11) L13.length (L13.flatMap itCell) :: bdA (E12 ++ [(x.v.index, (⟨x.v.data, pp52, cc53⟩ : BytesD))]) :: blk g (.cells #[.bool true, .bool s.ov, .int .i64 s.op.v, .int .i64 (kOf ({ s with PV := s.PV ++ [x.v] } : LdS).PV), .map (some m9), .slice pp10 L13.length cc11] 98 (0, 0)) :: itsA L13 :: blk bk2 (.cells #[.int .i64 x.v.op.v, .int .i64 x.v.many.v, .int .i64 x.v.index.v, .slice x.p x.v.data.length x.c] 51 (0, 0)) :: Im 1 (.slice x.p x.v.data.length x.c) x.v.data.length (x.v.data.flatMap u8c) :: MapA m9 (ents (kI .i64) evD (E12 ++ [(x.v.index, (⟨x.v.data, pp52, cc53⟩ : BytesD))])) :: (F.set i emp)) := (H67.move 2 rfl)
          have H69 : St W w62 (wtA 32 ({ s with PV := s.PV ++ [x.v] } : LdS).ov pp10 cc11 L13 :: bdA (E12 ++ [(x.v.index, (⟨x.v.data, pp52, cc53⟩ : BytesD))]) :: blk g (.cells #[.bool true, .bool s.ov, .int .i64 s.op.v, .int .i64 (kOf ({ s with PV := s.PV ++ [x.v] } : LdS).PV), .map (some m9), .slice pp10 L13.length cc11] 98 (0, 0)) :: itsA L13 :: blk bk2 (.cells #[.int .i64 x.v.op.v, .int .i64 x.v.many.v, .int .i64 x.v.index.v, .slice x.p x.v.data.length x.c] 51 (0, 0)) :: Im 1 (.slice x.p x.v.data.length x.c) x.v.data.length (x.v.data.flatMap u8c) :: MapA m9 (ents (kI .i64) evD (E12 ++ [(x.v.index, (⟨x.v.data, pp52, cc53⟩ : BytesD))])) :: (F.set i emp)) := wt_of (ov := ({ s with PV := s.PV ++ [x.v] } : LdS).ov) H68
          have H70 : St W w62 (blk g (.cells #[.bool true, .bool s.ov, .int .i64 s.op.v, .int .i64 (kOf ({ s with PV := s.PV ++ [x.v] } : LdS).PV), .map (some m9), .slice pp10 L13.length cc11] 98 (0, 0)) :: MapA m9 (ents (kI .i64) evD (E12 ++ [(x.v.index, (⟨x.v.data, pp52, cc53⟩ : BytesD))])) :: bdA (E12 ++ [(x.v.index, (⟨x.v.data, pp52, cc53⟩ : BytesD))]) :: wtA 32 ({ s with PV := s.PV ++ [x.v] } : LdS).ov pp10 cc11 L13 :: itsA L13 :: blk bk2 (.cells #[.int .i64 x.v.op.v, .int .i64 x.v.many.v, .int .i64 x.v.index.v, .slice x.p x.v.data.length x.c] 51 (0, 0)) :: Im 1 (.slice x.p x.v.data.length x.c) x.v.data.length (x.v.data.flatMap u8c) :: (F.set i emp)) := (((((H69.move 3 rfl).move 1 rfl).move 2 rfl).move 6 rfl).move 4 rfl)
          have H71 : St W w62 (LnA g ({ s with PV := s.PV ++ [x.v] } : LdS) :: blk bk2 (.cells #[.int .i64 x.v.op.v, .int .i64 x.v.many.v, .int .i64 x.v.index.v, .slice x.p x.v.data.length x.c] 51 (0, 0)) :: Im 1 (.slice x.p x.v.data.length x.c) x.v.data.length (x.v.data.flatMap u8c) :: (F.set i emp)) := St.shut_ex (⟨m9, pp10, cc11, (E12 ++ [(x.v.index, (⟨x.v.data, pp52, cc53⟩ : BytesD))]), L13, (keyed_snoc hE14), hL15⟩ : LnX ({ s with PV := s.PV ++ [x.v] } : LdS)) (St.shut_star (ls := [blk g (.cells #[.bool true, .bool s.ov, .int .i64 s.op.v, .int .i64 (kOf ({ s with PV := s.PV ++ [x.v] } : LdS).PV), .map (some m9), .slice pp10 L13.length cc11] 98 (0, 0)), MapA m9 (ents (kI .i64) evD (E12 ++ [(x.v.index, (⟨x.v.data, pp52, cc53⟩ : BytesD))])), bdA (E12 ++ [(x.v.index, (⟨x.v.data, pp52, cc53⟩ : BytesD))]), wtA 32 ({ s with PV := s.PV ++ [x.v] } : LdS).ov pp10 cc11 L13, itsA L13]) H70)
          refine r_cons (s_call [.pointer (some ⟨g, 0, none⟩)] pl_74 rfl rfl (Ln_whole g ({ s with PV := s.PV ++ [x.v] } : LdS) (i := 0) rfl H71) ?_)
          rintro _ w72 ⟨rfl, H73⟩
          refine r_cons (s_assign (.bool (wholeB ({ s with PV := s.PV ++ [x.v] } : LdS))) rfl rfl ?_)
          refine r_cons (s_assign (.int .i64 0) rfl rfl ?_)
          refine r_nil ?_
          refine g_ret' [.bool (wholeB ({ s with PV := s.PV ++ [x.v] } : LdS)), .int .i64 0] Try.func22 Try.results22 ⟨rfl, rfl, trivial⟩ ?_
          have H74 : St W w72 (LnA g ({ s with PV := s.PV ++ [x.v] } : LdS) :: (F.set i emp)) := ((H73.drop 1 rfl).drop 1 rfl)
          exact ⟨by rw [h0, ← whole_snoc h0]; rfl, by rw [lpS_yes h0]; exact St.back hi H74⟩
    · intro join20
      refine g_quiet (fun w' => St W w' (blk g (.cells #[.bool true, .bool s.ov, .int .i64 s.op.v, .int .i64 (kOf s.PV), .map (some m9), .slice pp10 L13.length cc11] 98 (0, 0)) :: MapA m9 (ents (kI .i64) evD E12) :: bdA E12 :: Row 32 6 (.slice pp10 L13.length cc11) L13.length (L13.flatMap itCell) :: itsA L13 :: blk bk2 (.cells #[.int .i64 x.v.op.v, .int .i64 x.v.many.v, .int .i64 x.v.index.v, .slice x.p x.v.data.length x.c] 51 (0, 0)) :: Im 1 (.slice x.p x.v.data.length x.c) x.v.data.length (x.v.data.flatMap u8c) :: (F.set i emp))) mixed (by kernel_rfl) H19.drew ?_
      refine q_cons (q_val rfl rfl rfl (by intro w hw; exact x_loadAgg [.int .i64 x.v.op.v, .int .i64 x.v.many.v, .int .i64 x.v.index.v, .slice x.p x.v.data.length x.c] 4 ag_51 rfl (hw.blk_at (i := 5) rfl) (Nat.le_of_ble_eq_true rfl) rfl) ?_)
      refine q_cons (q_enter (args := #[.agg #[.int .i64 x.v.op.v, .int .i64 x.v.many.v, .int .i64 x.v.index.v, .slice x.p x.v.data.length x.c]]) (v := .bool (pieceB x.v.op.v x.v.many.v x.v.index.v x.v.data.length)) rfl rfl rfl (x_call pl_72 [.agg #[.int .i64 x.v.op.v, .int .i64 x.v.many.v, .int .i64 x.v.index.v, .slice x.p x.v.data.length x.c]] rfl) (fun w hw => migrate_piece x.v.op.v x.v.many.v x.v.index.v x.p x.v.data.length x.c hw) ?_)
      refine q_cons (q_val rfl rfl rfl (by intro w hw; exact x_not (pieceB x.v.op.v x.v.many.v x.v.index.v x.v.data.length) rfl (!(pieceB x.v.op.v x.v.many.v x.v.index.v x.v.data.length)) rfl w) ?_)
      refine q_cons (q_val rfl rfl rfl (by intro w hw; exact x_move (.bool (!(pieceB x.v.op.v x.v.many.v x.v.index.v x.v.data.length))) rfl w) ?_)
      by_cases hb75 : (!(pieceB x.v.op.v x.v.many.v x.v.index.v x.v.data.length)) = true
      · skip
        refine q_cons (q_pass rfl (congrArg some hb75) rfl rfl rfl ?_)
        refine q_cons (q_pass rfl (congrArg some hb75) rfl rfl rfl ?_)
        refine q_cons (q_pass rfl (congrArg some hb75) rfl rfl rfl ?_)
        refine q_cons (q_pass rfl (congrArg some hb75) rfl rfl rfl ?_)
        refine q_cons (q_pass rfl (congrArg some hb75) rfl rfl rfl ?_)
        refine q_cons (q_pass rfl (congrArg some hb75) rfl rfl rfl ?_)
        refine q_cons (q_pass rfl (congrArg some hb75) rfl rfl rfl ?_)
        refine q_cons (q_val rfl rfl rfl (by intro w hw; exact x_pick_t (.bool true) (by exact congrArg Value.bool hb75) rfl w) ?_)
        refine q_cons (q_val rfl rfl rfl (by intro w hw; exact x_move (.bool true) rfl w) ?_)
        refine q_cons (q_pass rfl rfl rfl rfl rfl ?_)
        refine q_cons (q_pass rfl rfl rfl rfl rfl ?_)
        refine q_cons (q_pass rfl rfl rfl rfl rfl ?_)
        refine q_cons (q_pass rfl rfl rfl rfl rfl ?_)
        refine q_cons (q_pass rfl rfl rfl rfl rfl ?_)
        refine q_cons (q_pass rfl rfl rfl rfl rfl ?_)
        refine q_cons (q_passN rfl rfl rfl rfl ?_)
        refine q_cons (q_passN rfl rfl rfl rfl ?_)
        refine q_cons (q_passN rfl rfl rfl rfl ?_)
        refine q_cons (q_passN rfl rfl rfl rfl ?_)
        refine q_cons (q_passN rfl rfl rfl rfl ?_)
        refine q_cons (q_passN rfl rfl rfl rfl ?_)
        refine q_cons (q_passN rfl rfl rfl rfl ?_)
        refine q_cons (q_pass rfl rfl rfl rfl rfl ?_)
        refine q_cons (q_val rfl rfl rfl (by intro w hw; exact x_pick_t (.bool true) rfl rfl w) ?_)
        refine q_nil ?_
        intro w76 H77
        have H78 : St W w76 (blk g (.cells #[.bool true, .bool s.ov, .int .i64 s.op.v, .int .i64 (kOf s.PV), .map (some m9), .slice pp10 L13.length cc11] 98 (0, 0)) :: MapA m9 (ents (kI .i64) evD E12) :: bdA E12 :: Row 32 6 (.slice pp10 L13.length cc11) L13.length (L13.flatMap itCell) :: itsA L13 :: blk bk2 (.cells #[.int .i64 x.v.op.v, .int .i64 x.v.many.v, .int .i64 x.v.index.v, .slice x.p x.v.data.length x.c] 51 (0, 0)) :: Im 1 (.slice x.p x.v.data.length x.c) x.v.data.length (x.v.data.flatMap u8c) :: (F.set i emp)) := (((((((H77.move 6 rfl).move 6 rfl).move 6 rfl).move 6 rfl).move 6 rfl).move 6 rfl).move 6 rfl)
        exact join20 (true) _ _ ⟨(decide_eq_true (by first | exact lp_b1 (nottrue hb75) | exact lp_b2 (by assumption) | exact lp_b3 (by assumption) (by assumption))).symm, H78⟩ ⟨by first | rfl | exact vint (by omega), by first | rfl | exact vint (by omega), by first | rfl | exact vint (by omega), by first | rfl | exact vint (by omega), by first | rfl | exact vint (by omega), trivial⟩
      · have hb75 := eq_false_of_ne_true hb75
        refine q_cons (q_take rfl (congrArg some hb75) ?_)
        refine q_val rfl rfl rfl (by intro w hw; exact x_fieldAddr 51 0 0 0 3 rfl fi_51_0 rfl w) ?_
        refine q_cons (q_take rfl (congrArg some hb75) ?_)
        refine q_val rfl rfl rfl (by intro w hw; exact x_load (.int .i64 x.v.op.v) ag_3 rfl (hw.blk_at (i := 5) rfl) rfl) ?_
        refine q_cons (q_take rfl (congrArg some hb75) ?_)
        refine q_val rfl rfl rfl (by intro w hw; exact x_move (.pointer (some ⟨g, 0, none⟩)) rfl w) ?_
        refine q_cons (q_take rfl (congrArg some hb75) ?_)
        refine q_val rfl rfl rfl (by intro w hw; exact x_nilCheck (.pointer (some ⟨g, 0, none⟩)) rfl ⟨_, rfl⟩ w) ?_
        refine q_cons (q_take rfl (congrArg some hb75) ?_)
        refine q_val rfl rfl rfl (by intro w hw; exact x_fieldAddr 98 2 2 2 3 rfl fi_98_2 rfl w) ?_
        refine q_cons (q_take rfl (congrArg some hb75) ?_)
        refine q_val rfl rfl rfl (by intro w hw; exact x_load (.int .i64 s.op.v) ag_3 rfl (hw.blk_at (i := 0) rfl) rfl) ?_
        refine q_cons (q_take rfl (congrArg some hb75) ?_)
        by_cases hc79 : x.v.op.v = s.op.v
        · skip
          refine q_val rfl rfl rfl (by intro w hw; exact x_neq false rfl rfl (ntrue hc79) w) ?_
          refine q_cons (q_val rfl rfl rfl (by intro w hw; exact x_pick_f (.bool false) (by exact congrArg Value.bool hb75) rfl w) ?_)
          refine q_cons (q_val rfl rfl rfl (by intro w hw; exact x_move (.bool false) rfl w) ?_)
          refine q_cons (q_take rfl rfl ?_)
          refine q_val rfl rfl rfl (by intro w hw; exact x_move (.pointer (some ⟨g, 0, none⟩)) rfl w) ?_
          refine q_cons (q_take rfl rfl ?_)
          refine q_val rfl rfl rfl (by intro w hw; exact x_nilCheck (.pointer (some ⟨g, 0, none⟩)) rfl ⟨_, rfl⟩ w) ?_
          refine q_cons (q_take rfl rfl ?_)
          refine q_val rfl rfl rfl (by intro w hw; exact x_fieldAddr 98 3 3 3 3 rfl fi_98_3 rfl w) ?_
          refine q_cons (q_take rfl rfl ?_)
          refine q_val rfl rfl rfl (by intro w hw; exact x_load (.int .i64 (kOf s.PV)) ag_3 rfl (hw.blk_at (i := 0) rfl) rfl) ?_
          refine q_cons (q_take rfl rfl ?_)
          by_cases hc80 : (0 : Int) < kOf s.PV
          · skip
            refine q_val rfl rfl rfl (by intro w hw; exact x_gtr true rfl rfl (dtrue hc80) w) ?_
            refine q_cons (q_take rfl rfl ?_)
            refine q_val rfl rfl rfl (by intro w hw; exact x_move (.bool true) rfl w) ?_
            refine q_cons (q_take rfl rfl ?_)
            refine q_val rfl rfl rfl (by intro w hw; exact x_fieldAddr 51 1 1 1 3 rfl fi_51_1 rfl w) ?_
            refine q_cons (q_take rfl rfl ?_)
            refine q_val rfl rfl rfl (by intro w hw; exact x_load (.int .i64 x.v.many.v) ag_3 rfl (hw.blk_at (i := 5) rfl) rfl) ?_
            refine q_cons (q_take rfl rfl ?_)
            refine q_val rfl rfl rfl (by intro w hw; exact x_move (.pointer (some ⟨g, 0, none⟩)) rfl w) ?_
            refine q_cons (q_take rfl rfl ?_)
            refine q_val rfl rfl rfl (by intro w hw; exact x_nilCheck (.pointer (some ⟨g, 0, none⟩)) rfl ⟨_, rfl⟩ w) ?_
            refine q_cons (q_take rfl rfl ?_)
            refine q_val rfl rfl rfl (by intro w hw; exact x_fieldAddr 98 3 3 3 3 rfl fi_98_3 rfl w) ?_
            refine q_cons (q_take rfl rfl ?_)
            refine q_val rfl rfl rfl (by intro w hw; exact x_load (.int .i64 (kOf s.PV)) ag_3 rfl (hw.blk_at (i := 0) rfl) rfl) ?_
            refine q_cons (q_take rfl rfl ?_)
            by_cases hc81 : x.v.many.v = kOf s.PV
            · skip
              refine q_val rfl rfl rfl (by intro w hw; exact x_neq false rfl rfl (ntrue hc81) w) ?_
              refine q_cons (q_take rfl rfl ?_)
              refine q_val rfl rfl rfl (by intro w hw; exact x_pick_t (.bool false) rfl rfl w) ?_
              refine q_cons (q_val rfl rfl rfl (by intro w hw; exact x_pick_f (.bool false) rfl rfl w) ?_)
              refine q_nil ?_
              intro w82 H83
              have H84 : St W w82 (blk g (.cells #[.bool true, .bool s.ov, .int .i64 s.op.v, .int .i64 (kOf s.PV), .map (some m9), .slice pp10 L13.length cc11] 98 (0, 0)) :: MapA m9 (ents (kI .i64) evD E12) :: bdA E12 :: Row 32 6 (.slice pp10 L13.length cc11) L13.length (L13.flatMap itCell) :: itsA L13 :: blk bk2 (.cells #[.int .i64 x.v.op.v, .int .i64 x.v.many.v, .int .i64 x.v.index.v, .slice x.p x.v.data.length x.c] 51 (0, 0)) :: Im 1 (.slice x.p x.v.data.length x.c) x.v.data.length (x.v.data.flatMap u8c) :: (F.set i emp)) := (((((((H83.move 6 rfl).move 6 rfl).move 6 rfl).move 6 rfl).move 6 rfl).move 6 rfl).move 6 rfl)
              exact join20 (false) _ _ ⟨(decide_eq_false (lp_ok (show pieceOk x.v = true from (notfalse hb75)) (by omega) (fun h_ => by have h9 := hpn.2.2.2.1 h_; omega))).symm, H84⟩ ⟨by first | rfl | exact vint (by omega), by first | rfl | exact vint (by omega), by first | rfl | exact vint (by omega), by first | rfl | exact vint (by omega), by first | rfl | exact vint (by omega), trivial⟩
            · skip
              refine q_val rfl rfl rfl (by intro w hw; exact x_neq true rfl rfl (nfalse hc81) w) ?_
              refine q_cons (q_take rfl rfl ?_)
              refine q_val rfl rfl rfl (by intro w hw; exact x_pick_t (.bool true) rfl rfl w) ?_
              refine q_cons (q_val rfl rfl rfl (by intro w hw; exact x_pick_f (.bool true) rfl rfl w) ?_)
              refine q_nil ?_
              intro w85 H86
              have H87 : St W w85 (blk g (.cells #[.bool true, .bool s.ov, .int .i64 s.op.v, .int .i64 (kOf s.PV), .map (some m9), .slice pp10 L13.length cc11] 98 (0, 0)) :: MapA m9 (ents (kI .i64) evD E12) :: bdA E12 :: Row 32 6 (.slice pp10 L13.length cc11) L13.length (L13.flatMap itCell) :: itsA L13 :: blk bk2 (.cells #[.int .i64 x.v.op.v, .int .i64 x.v.many.v, .int .i64 x.v.index.v, .slice x.p x.v.data.length x.c] 51 (0, 0)) :: Im 1 (.slice x.p x.v.data.length x.c) x.v.data.length (x.v.data.flatMap u8c) :: (F.set i emp)) := (((((((H86.move 6 rfl).move 6 rfl).move 6 rfl).move 6 rfl).move 6 rfl).move 6 rfl).move 6 rfl)
              exact join20 (true) _ _ ⟨(decide_eq_true (by first | exact lp_b1 (notfalse hb75) | exact lp_b2 (by assumption) | exact lp_b3 (by assumption) (by assumption))).symm, H87⟩ ⟨by first | rfl | exact vint (by omega), by first | rfl | exact vint (by omega), by first | rfl | exact vint (by omega), by first | rfl | exact vint (by omega), by first | rfl | exact vint (by omega), trivial⟩
          · skip
            refine q_val rfl rfl rfl (by intro w hw; exact x_gtr false rfl rfl (dfalse hc80) w) ?_
            refine q_cons (q_take rfl rfl ?_)
            refine q_val rfl rfl rfl (by intro w hw; exact x_move (.bool false) rfl w) ?_
            refine q_cons (q_pass rfl rfl rfl rfl rfl ?_)
            refine q_cons (q_pass rfl rfl rfl rfl rfl ?_)
            refine q_cons (q_pass rfl rfl rfl rfl rfl ?_)
            refine q_cons (q_pass rfl rfl rfl rfl rfl ?_)
            refine q_cons (q_pass rfl rfl rfl rfl rfl ?_)
            refine q_cons (q_pass rfl rfl rfl rfl rfl ?_)
            refine q_cons (q_pass rfl rfl rfl rfl rfl ?_)
            refine q_cons (q_take rfl rfl ?_)
            refine q_val rfl rfl rfl (by intro w hw; exact x_pick_f (.bool false) rfl rfl w) ?_
            refine q_cons (q_val rfl rfl rfl (by intro w hw; exact x_pick_f (.bool false) rfl rfl w) ?_)
            refine q_nil ?_
            intro w88 H89
            have H90 : St W w88 (blk g (.cells #[.bool true, .bool s.ov, .int .i64 s.op.v, .int .i64 (kOf s.PV), .map (some m9), .slice pp10 L13.length cc11] 98 (0, 0)) :: MapA m9 (ents (kI .i64) evD E12) :: bdA E12 :: Row 32 6 (.slice pp10 L13.length cc11) L13.length (L13.flatMap itCell) :: itsA L13 :: blk bk2 (.cells #[.int .i64 x.v.op.v, .int .i64 x.v.many.v, .int .i64 x.v.index.v, .slice x.p x.v.data.length x.c] 51 (0, 0)) :: Im 1 (.slice x.p x.v.data.length x.c) x.v.data.length (x.v.data.flatMap u8c) :: (F.set i emp)) := (((((((H89.move 6 rfl).move 6 rfl).move 6 rfl).move 6 rfl).move 6 rfl).move 6 rfl).move 6 rfl)
            exact join20 (false) _ _ ⟨(decide_eq_false (lp_ok (show pieceOk x.v = true from (notfalse hb75)) (by omega) (fun h_ => by have h9 := hpn.2.2.2.1 h_; omega))).symm, H90⟩ ⟨by first | rfl | exact vint (by omega), by first | rfl | exact vint (by omega), by first | rfl | exact vint (by omega), by first | rfl | exact vint (by omega), by first | rfl | exact vint (by omega), trivial⟩
        · skip
          refine q_val rfl rfl rfl (by intro w hw; exact x_neq true rfl rfl (nfalse hc79) w) ?_
          refine q_cons (q_val rfl rfl rfl (by intro w hw; exact x_pick_f (.bool true) (by exact congrArg Value.bool hb75) rfl w) ?_)
          refine q_cons (q_val rfl rfl rfl (by intro w hw; exact x_move (.bool true) rfl w) ?_)
          refine q_cons (q_pass rfl rfl rfl rfl rfl ?_)
          refine q_cons (q_pass rfl rfl rfl rfl rfl ?_)
          refine q_cons (q_pass rfl rfl rfl rfl rfl ?_)
          refine q_cons (q_pass rfl rfl rfl rfl rfl ?_)
          refine q_cons (q_pass rfl rfl rfl rfl rfl ?_)
          refine q_cons (q_pass rfl rfl rfl rfl rfl ?_)
          refine q_cons (q_passN rfl rfl rfl rfl ?_)
          refine q_cons (q_passN rfl rfl rfl rfl ?_)
          refine q_cons (q_passN rfl rfl rfl rfl ?_)
          refine q_cons (q_passN rfl rfl rfl rfl ?_)
          refine q_cons (q_passN rfl rfl rfl rfl ?_)
          refine q_cons (q_passN rfl rfl rfl rfl ?_)
          refine q_cons (q_passN rfl rfl rfl rfl ?_)
          refine q_cons (q_pass rfl rfl rfl rfl rfl ?_)
          refine q_cons (q_val rfl rfl rfl (by intro w hw; exact x_pick_t (.bool true) rfl rfl w) ?_)
          refine q_nil ?_
          intro w91 H92
          have H93 : St W w91 (blk g (.cells #[.bool true, .bool s.ov, .int .i64 s.op.v, .int .i64 (kOf s.PV), .map (some m9), .slice pp10 L13.length cc11] 98 (0, 0)) :: MapA m9 (ents (kI .i64) evD E12) :: bdA E12 :: Row 32 6 (.slice pp10 L13.length cc11) L13.length (L13.flatMap itCell) :: itsA L13 :: blk bk2 (.cells #[.int .i64 x.v.op.v, .int .i64 x.v.many.v, .int .i64 x.v.index.v, .slice x.p x.v.data.length x.c] 51 (0, 0)) :: Im 1 (.slice x.p x.v.data.length x.c) x.v.data.length (x.v.data.flatMap u8c) :: (F.set i emp)) := (((((((H92.move 6 rfl).move 6 rfl).move 6 rfl).move 6 rfl).move 6 rfl).move 6 rfl).move 6 rfl)
          exact join20 (true) _ _ ⟨(decide_eq_true (by first | exact lp_b1 (notfalse hb75) | exact lp_b2 (by assumption) | exact lp_b3 (by assumption) (by assumption))).symm, H93⟩ ⟨by first | rfl | exact vint (by omega), by first | rfl | exact vint (by omega), by first | rfl | exact vint (by omega), by first | rfl | exact vint (by omega), by first | rfl | exact vint (by omega), trivial⟩
  · skip
    refine r_cons (s_neq true rfl rfl (nfalse hc7) rfl ?_)
    refine r_nil ?_
    refine g_true rfl ?_
    refine g_seq ?_
    refine g_region ?_
    refine r_cons (s_move (.int .i64 (opE s.ov)) rfl rfl ?_)
    refine r_cons (s_assign (.bool false) rfl rfl ?_)
    refine r_cons (s_assign (.int .i64 (opE s.ov)) rfl rfl ?_)
    refine r_nil ?_
    refine g_ret' [.bool false, .int .i64 (opE s.ov)] Try.func22 Try.results22 ⟨rfl, rfl, trivial⟩ ?_
    have H94 : St W w5 (LnA g s :: (F.set i emp)) := (((H6.move 1 rfl).drop 1 rfl).drop 1 rfl)
    have h9 := opE_t hc7
    have hE9 : lpE s x.v = opE s.ov := by rw [lp_1 h9, h9]; rfl
    have hE0 : ¬ lpE s x.v = 0 := by rw [hE9]; first | assumption | decide
    exact ⟨by rw [lpB_no hE0, hE9]; rfl, by rw [lpS_no hE0]; exact St.back hi H94⟩
set_option maxHeartbeats 4000000 in
set_option maxRecDepth 100000 in
theorem Ln_TakeG {W w : World} {F : List Atom} (g : Nat) (s : LdS) (hs : LOk s) {i : Nat} (hi : F[i]? = some (LnA g s)) (H : St W w F) : Calls Try.prog 25 #[.pointer (some ⟨g, 0, none⟩)] w (Ret fun v w' => ∃ (p : Option Addr) (c : Nat) (q : Option Addr) (d : Nat) (L : List ItemD), v = .tuple #[.slice p (ltB s).length c, .slice q L.length d, .int .i64 (ltE s)] ∧ L.map ItemD.v = ltV s ∧ St W w' (Row 5 1 (.slice p (ltB s).length c) (ltB s).length ((ltB s).flatMap u8c) :: Im 6 (.slice q L.length d) L.length (L.flatMap itCell) :: itsA L :: F.set i (LnA g (ltS s)))) := by
  have H0 := H.front hi
  refine calls_of_go (n := 40) Try.func25 rfl Try.ntmps25 rfl ?_
  refine g_seq ?_
  refine g_region ?_
  refine r_cons (s_assign (.slice none 0 0) rfl rfl ?_)
  refine r_cons (s_assign (.slice none 0 0) rfl rfl ?_)
  refine r_cons (s_assign (.int .i64 0) rfl rfl ?_)
  refine r_nil ?_
  refine g_seq ?_
  refine g_seq ?_
  refine g_region ?_
  refine r_cons (s_move (.pointer (some ⟨g, 0, none⟩)) rfl rfl ?_)
  refine r_cons (s_call [.pointer (some ⟨g, 0, none⟩)] pl_71 rfl rfl (Ln_open g s (i := 0) rfl H0) ?_)
  rintro _ w1 ⟨rfl, H2⟩
  refine r_cons (s_assign (.int .i64 (opE s.ov)) rfl rfl ?_)
  refine r_nil ?_
  refine g_seq ?_
  refine g_region ?_
  refine r_cons (s_move (.int .i64 (opE s.ov)) rfl rfl ?_)
  by_cases hc3 : opE s.ov = 0
  · skip
    refine r_cons (s_neq false rfl rfl (ntrue hc3) rfl ?_)
    refine r_nil ?_
    refine g_false rfl ?_
    refine g_skip ?_
    refine g_seq ?_
    refine g_seq ?_
    refine g_region ?_
    refine r_cons (s_move (.pointer (some ⟨g, 0, none⟩)) rfl rfl ?_)
    refine r_cons (s_call [.pointer (some ⟨g, 0, none⟩)] pl_74 rfl rfl (Ln_whole g s (i := 0) rfl H2) ?_)
    rintro _ w4 ⟨rfl, H5⟩
    refine r_cons (s_not (wholeB s) rfl (!(wholeB s)) rfl rfl ?_)
    refine r_nil ?_
    by_cases hb6 : (!(wholeB s)) = true
    · skip
      refine g_true (congrArg Value.bool hb6) ?_
      refine g_seq ?_
      refine g_region ?_
      refine r_cons (s_assign (.slice none 0 0) rfl rfl ?_)
      refine r_cons (s_assign (.slice none 0 0) rfl rfl ?_)
      refine r_cons (s_assign (.int .i64 241) rfl rfl ?_)
      refine r_nil ?_
      refine g_ret' [.slice none 0 0, .slice none 0 0, .int .i64 241] Try.func25 Try.results25 ⟨rfl, rfl, rfl, trivial⟩ ?_
      have hE9 : ltE s = 241 := lt_2 (whole_f (nottrue hb6))
      have H7 := itsA_nil H5
      have H8 := Row.im (Row.nil_intro H7 32 6) (i := 0) rfl
      have H9 := Row.nil_intro H8 5 1
      have H10 : St W w4 (Row 5 1 (.slice none 0 0) 0 [] :: Im 6 (.slice none 0 0) 0 [] :: itsA ([] : List ItemD) :: LnA g s :: (F.set i emp)) := ((((H9.move 3 rfl).move 3 rfl).move 3 rfl).move 3 rfl)
      have H11 : St W w4 (LnA g s :: (Row 5 1 (.slice none 0 0) 0 [] :: Im 6 (.slice none 0 0) 0 [] :: itsA ([] : List ItemD) :: F).set (i + 3) emp) := (H10.move 3 rfl)
      exact ⟨none, 0, none, 0, [], by rw [ltB_no hE9, hE9]; rfl, by rw [ltV_no hE9]; rfl, by rw [ltB_no hE9, ltS_no hE9]; exact St.back (i := i + 3) (by exact hi) H11⟩
    · have hb6 := eq_false_of_ne_true hb6
      refine g_false (congrArg Value.bool hb6) ?_
      refine g_skip ?_
      refine g_seq ?_
      refine g_region ?_
      refine r_cons (s_assign (.slice none 0 0) rfl rfl ?_)
      refine r_nil ?_
      refine g_seq ?_
      refine g_seq ?_
      refine g_region ?_
      refine r_cons (s_move (.pointer (some ⟨g, 0, none⟩)) rfl rfl ?_)
      refine r_cons (s_nilCheck (.pointer (some ⟨g, 0, none⟩)) rfl ⟨_, rfl⟩ rfl ?_)
      refine r_cons (s_fieldAddr 98 3 3 3 3 rfl fi_98_3 rfl rfl ?_)
      have H12 := H5.move 0 rfl
      obtain ⟨⟨m13, pp14, cc15, E16, L17, hE18, hL19⟩, H20⟩ := St.open_ex H12
      have H21 := St.open_star H20
      have hll := it_len hL19
      have hel := keyed_len hE18
      have H22 : St W w4 (blk g (.cells #[.bool true, .bool s.ov, .int .i64 s.op.v, .int .i64 (kOf s.PV), .map (some m13), .slice pp14 L17.length cc15] 98 (0, 0)) :: MapA m13 (ents (kI .i64) evD E16) :: bdA E16 :: wtA 32 s.ov pp14 cc15 L17 :: itsA L17 :: (F.set i emp)) := H21
      refine r_cons (s_load (.int .i64 (kOf s.PV)) ag_3 rfl (H22.blk_at (i := 0) rfl) rfl rfl ?_)
      refine r_cons (s_move (.int .i64 0) rfl rfl ?_)
      refine r_nil ?_
      refine g_block ?_
      have hov := opE_f hc3
      have hwh := whole_t (notfalse hb6)
      have hpn := hs.pn
      have H23 : St W w4 (blk g (.cells #[.bool true, .bool s.ov, .int .i64 s.op.v, .int .i64 (kOf s.PV), .map (some m13), .slice pp14 L17.length cc15] 98 (0, 0)) :: MapA m13 (ents (kI .i64) evD E16) :: bdA E16 :: Row 32 6 (.slice pp14 L17.length cc15) L17.length (L17.flatMap itCell) :: itsA L17 :: (F.set i emp)) := by have hx := H22; rw [wt_f hov] at hx; exact hx
      have H24 := Row.nil_intro H23 5 1
      refine g_loop_inv (fun (x_ : Nat × (Option Addr) × Nat) => match x_ with | (j, q, d) => [(0, .pointer (some ⟨g, 0, none⟩)), (2, .slice none 0 0), (3, .slice none 0 0), (4, .int .i64 0), (6, .slice q ((allV s.PV j).length) d), (19, .int .i64 (s.PV.length : Int)), (20, .int .i64 (j : Int))]) (fun (x_ : Nat × (Option Addr) × Nat) w => match x_ with | (j, q, d) => (j ≤ s.PV.length) ∧ St W w (Row 5 1 (.slice q ((allV s.PV j).length) d) ((allV s.PV j).length) ((allV s.PV j).flatMap u8c) :: blk g (.cells #[.bool true, .bool s.ov, .int .i64 s.op.v, .int .i64 (kOf s.PV), .map (some m13), .slice pp14 L17.length cc15] 98 (0, 0)) :: MapA m13 (ents (kI .i64) evD E16) :: bdA E16 :: Row 32 6 (.slice pp14 L17.length cc15) L17.length (L17.flatMap itCell) :: itsA L17 :: (F.set i emp))) (fun (x_ : Nat × (Option Addr) × Nat) => match x_ with | (j, q, d) => s.PV.length - j) (0, none, 0) ?_ ?_ ?_
      · exact ⟨by first | rfl | exact vint (by omega), by first | rfl | exact vint (by omega), by first | rfl | exact vint (by omega), by first | rfl | exact vint (by omega), by first | rfl | exact vint (by omega), vint (by omega), by first | rfl | exact vint (by omega), trivial⟩
      · exact ⟨(by omega), H24⟩
      · rintro ⟨j, q, d⟩ ρ25 w26 ⟨hjn, H27⟩ nx28
        change Ends _ _ (upds ρ25 [(0, .pointer (some ⟨g, 0, none⟩)), (2, .slice none 0 0), (3, .slice none 0 0), (4, .int .i64 0), (6, .slice q ((allV s.PV j).length) d), (19, .int .i64 (s.PV.length : Int)), (20, .int .i64 (j : Int))]) w26
        refine g_seq ?_
        refine g_region ?_
        by_cases hc29 : (j : Int) < (s.PV.length : Int)
        · skip
          refine r_cons (s_lss true rfl rfl (dtrue hc29) rfl ?_)
          refine r_nil ?_
          refine g_seq ?_
          refine g_true rfl ?_
          refine g_skip ?_
          refine g_seq ?_
          refine g_block ?_
          refine g_seq ?_
          refine g_region ?_
          refine r_cons (s_move (.int .i64 (j : Int)) rfl rfl ?_)
          refine r_cons (s_assign (.int .i64 (j : Int)) rfl rfl ?_)
          refine r_nil ?_
          refine g_region ?_
          refine r_cons (s_move (.slice q ((allV s.PV j).length) d) rfl rfl ?_)
          refine r_cons (s_move (.pointer (some ⟨g, 0, none⟩)) rfl rfl ?_)
          refine r_cons (s_nilCheck (.pointer (some ⟨g, 0, none⟩)) rfl ⟨_, rfl⟩ rfl ?_)
          refine r_cons (s_fieldAddr 98 4 4 4 96 rfl fi_98_4 rfl rfl ?_)
          refine r_cons (s_load (.map (some m13)) ag_96 rfl (H27.blk_at (i := 1) rfl) rfl rfl ?_)
          refine r_cons (s_move (.int .i64 (j : Int)) rfl rfl ?_)
          have hg9 := gd_all hs hE18 (i := j) (by omega) (k := (⟨(j : Int), by omega, by omega⟩ : I64)) rfl
          have he9 : allV s.PV (j + 1) = allV s.PV j ++ (gd E16 (⟨(j : Int), by omega, by omega⟩ : I64)).data := by rw [allV_succ, hg9]
          have hl8 := allV_le hs j
          have hl9 : (gd E16 (⟨(j : Int), by omega, by omega⟩ : I64)).data.length ≤ 4096 := by rw [hg9]; exact inV_le hs _ _
          have H30 : St W w26 (Im 1 (.slice ((gd E16 (⟨(j : Int), by omega, by omega⟩ : I64)).p) ((gd E16 (⟨(j : Int), by omega, by omega⟩ : I64)).data.length) ((gd E16 (⟨(j : Int), by omega, by omega⟩ : I64)).c)) (((gd E16 (⟨(j : Int), by omega, by omega⟩ : I64)).data).length) (((gd E16 (⟨(j : Int), by omega, by omega⟩ : I64)).data).flatMap u8c) :: Row 5 1 (.slice q ((allV s.PV j).length) d) ((allV s.PV j).length) ((allV s.PV j).flatMap u8c) :: blk g (.cells #[.bool true, .bool s.ov, .int .i64 s.op.v, .int .i64 (kOf s.PV), .map (some m13), .slice pp14 L17.length cc15] 98 (0, 0)) :: MapA m13 (ents (kI .i64) evD E16) :: bdA E16 :: Row 32 6 (.slice pp14 L17.length cc15) L17.length (L17.flatMap itCell) :: itsA L17 :: (F.set i emp)) := gd_at (⟨(j : Int), by omega, by omega⟩ : I64) H27 (i := 3) rfl
          refine r_cons (s_lookup (ek := (kI .i64)) (ev := evD) (L := E16) (⟨(j : Int), by omega, by omega⟩ : I64) (.slice ((gd E16 (⟨(j : Int), by omega, by omega⟩ : I64)).p) ((gd E16 (⟨(j : Int), by omega, by omega⟩ : I64)).data.length) ((gd E16 (⟨(j : Int), by omega, by omega⟩ : I64)).c)) (MapA.at H30 (i := 3) rfl) (KeyLaw.I un_3) un_96 zv_23 rfl rfl ((gd_look _ _)) rfl ?_)
          refine r_cons (s_append H30 1 rfl rfl rfl (Im.rd H30 (i := 0) rfl) ap_23 (by decide) (by unfold maxLen; omega) (by omega) (n' := (allV s.PV j).length + ((gd E16 (⟨(j : Int), by omega, by omega⟩ : I64)).data).length) (xs' := (allV s.PV j).flatMap u8c ++ ((gd E16 (⟨(j : Int), by omega, by omega⟩ : I64)).data).flatMap u8c) (by omega) (by first | rfl | simp) rfl ?_); intro vv31 w32 H33 hn34
          obtain ⟨pp35, cc36, rfl⟩ := Row.slice H33 (i := 1) rfl
          refine r_cons (s_assign (.slice pp35 ((allV s.PV j).length + ((gd E16 (⟨(j : Int), by omega, by omega⟩ : I64)).data).length) cc36) rfl rfl ?_)
          refine r_nil ?_
          refine g_inBlock ?_
          refine g_region ?_
          refine r_cons (s_add ((j : Int) + 1) rfl rfl (wi64 (by omega)) rfl ?_)
          refine r_cons (s_move (.int .i64 ((j : Int) + 1)) rfl rfl ?_)
          refine r_nil ?_
          have H37 : St W w32 (Im 1 (.slice ((gd E16 (⟨(j : Int), by omega, by omega⟩ : I64)).p) ((gd E16 (⟨(j : Int), by omega, by omega⟩ : I64)).data.length) ((gd E16 (⟨(j : Int), by omega, by omega⟩ : I64)).c)) (((gd E16 (⟨(j : Int), by omega, by omega⟩ : I64)).data).length) (((gd E16 (⟨(j : Int), by omega, by omega⟩ : I64)).data).flatMap u8c) :: Row 5 1 (.slice pp35 ((allV s.PV (j + 1)).length) cc36) ((allV s.PV (j + 1)).length) ((allV s.PV (j + 1)).flatMap u8c) :: blk g (.cells #[.bool true, .bool s.ov, .int .i64 s.op.v, .int .i64 (kOf s.PV), .map (some m13), .slice pp14 L17.length cc15] 98 (0, 0)) :: MapA m13 (ents (kI .i64) evD E16) :: bdA E16 :: Row 32 6 (.slice pp14 L17.length cc15) L17.length (L17.flatMap itCell) :: itsA L17 :: (F.set i emp)) := by rw [he9, List.length_append, List.flatMap_append]; exact H33
          have H38 : St W w32 (Row 5 1 (.slice pp35 ((allV s.PV (j + 1)).length) cc36) ((allV s.PV (j + 1)).length) ((allV s.PV (j + 1)).flatMap u8c) :: blk g (.cells #[.bool true, .bool s.ov, .int .i64 s.op.v, .int .i64 (kOf s.PV), .map (some m13), .slice pp14 L17.length cc15] 98 (0, 0)) :: MapA m13 (ents (kI .i64) evD E16) :: bdA E16 :: Row 32 6 (.slice pp14 L17.length cc15) L17.length (L17.flatMap itCell) :: itsA L17 :: (F.set i emp)) := (((((((H37.move 6 rfl).move 6 rfl).move 6 rfl).move 6 rfl).move 6 rfl).move 6 rfl).drop 6 rfl)
          exact nx28 (j + 1, pp35, cc36) _ _ ⟨(by omega), H38⟩ (by first | (dsimp only; omega) | omega) ⟨by first | rfl | exact vint (by omega), by first | rfl | exact vint (by omega), by first | rfl | exact vint (by omega), by first | rfl | exact vint (by omega), by rw [he9, List.length_append]; rfl, by first | rfl | exact vint (by omega), by first | rfl | exact vint (by omega), trivial⟩
        · skip
          refine r_cons (s_lss false rfl rfl (dfalse hc29) rfl ?_)
          refine r_nil ?_
          refine g_seq ?_
          refine g_false rfl ?_
          refine g_exit (by rfl) ?_
          refine g_seq ?_
          refine g_region ?_
          refine r_cons (s_move (.pointer (some ⟨g, 0, none⟩)) rfl rfl ?_)
          refine r_cons (s_nilCheck (.pointer (some ⟨g, 0, none⟩)) rfl ⟨_, rfl⟩ rfl ?_)
          refine r_cons (s_fieldAddr 98 1 1 1 4 rfl fi_98_1 rfl rfl ?_)
          refine r_cons (s_store H27 1 (.bool true) rfl rfl rfl sz_4 rfl (Nat.le_of_ble_eq_true rfl) rfl (cs' := #[.bool true, .bool true, .int .i64 s.op.v, .int .i64 (kOf s.PV), .map (some m13), .slice pp14 L17.length cc15]) rfl ?_); intro w39 H40
          refine r_nil ?_
          refine g_seq ?_
          refine g_quiet (fun w' => St W w' (Row 5 1 (.slice q ((allV s.PV j).length) d) ((allV s.PV j).length) ((allV s.PV j).flatMap u8c) :: blk g (.cells #[.bool true, .bool true, .int .i64 s.op.v, .int .i64 (kOf s.PV), .map (some m13), .slice pp14 L17.length cc15] 98 (0, 0)) :: MapA m13 (ents (kI .i64) evD E16) :: bdA E16 :: Row 32 6 (.slice pp14 L17.length cc15) L17.length (L17.flatMap itCell) :: itsA L17 :: (F.set i emp))) mixed (by kernel_rfl) H40.drew ?_
          refine q_cons (q_val rfl rfl rfl (by intro w hw; exact x_move (.slice q ((allV s.PV j).length) d) rfl w) ?_)
          refine q_cons (q_val rfl rfl rfl (by intro w hw; exact x_move (.pointer (some ⟨g, 0, none⟩)) rfl w) ?_)
          refine q_cons (q_val rfl rfl rfl (by intro w hw; exact x_nilCheck (.pointer (some ⟨g, 0, none⟩)) rfl ⟨_, rfl⟩ w) ?_)
          refine q_cons (q_val rfl rfl rfl (by intro w hw; exact x_fieldAddr 98 5 5 5 22 rfl fi_98_5 rfl w) ?_)
          refine q_cons (q_val rfl rfl rfl (by intro w hw; exact x_load (.slice pp14 L17.length cc15) ag_22 rfl (hw.blk_at (i := 1) rfl) rfl) ?_)
          refine q_cons (q_val rfl rfl rfl (by intro w hw; exact x_assign (.slice q ((allV s.PV j).length) d) rfl w) ?_)
          refine q_cons (q_val rfl rfl rfl (by intro w hw; exact x_assign (.slice pp14 L17.length cc15) rfl w) ?_)
          refine q_cons (q_val rfl rfl rfl (by intro w hw; exact x_assign (.int .i64 0) rfl w) ?_)
          refine q_nil ?_
          intro w41 H42
          refine g_ret' [.slice q ((allV s.PV j).length) d, .slice pp14 L17.length cc15, .int .i64 0] Try.func25 Try.results25 ⟨rfl, rfl, rfl, trivial⟩ ?_
          have hE9 : ltE s = 0 := lt_0 hov hwh
          have hj9 : j = s.PV.length := by omega
          have H43 : St W w41 (Row 5 1 (.slice q ((allV s.PV j).length) d) ((allV s.PV j).length) ((allV s.PV j).flatMap u8c) :: blk g (.cells #[.bool true, .bool true, .int .i64 s.op.v, .int .i64 (kOf s.PV), .map (some m13), .slice pp14 L17.length cc15] 98 (0, 0)) :: MapA m13 (ents (kI .i64) evD E16) :: bdA E16 :: Im 6 (.slice pp14 L17.length cc15) L17.length (L17.flatMap itCell) :: itsA L17 :: (F.set i emp)) := Row.im H42 (i := 4) rfl
          have H44 : St W w41 (itsA L17 :: Row 5 1 (.slice q ((allV s.PV j).length) d) ((allV s.PV j).length) ((allV s.PV j).flatMap u8c) :: blk g (.cells #[.bool true, .bool true, .int .i64 s.op.v, .int .i64 (kOf s.PV), .map (some m13), .slice pp14 L17.length cc15] 98 (0, 0)) :: MapA m13 (ents (kI .i64) evD E16) :: bdA E16 :: Im 6 (.slice pp14 L17.length cc15) L17.length (L17.flatMap itCell) :: itsA L17 :: (F.set i emp)) := H43.dup (i := 5) rfl (itsA_pers _)
          have H45 : St W w41 (Im 6 (.slice pp14 L17.length cc15) L17.length (L17.flatMap itCell) :: itsA L17 :: Row 5 1 (.slice q ((allV s.PV j).length) d) ((allV s.PV j).length) ((allV s.PV j).flatMap u8c) :: blk g (.cells #[.bool true, .bool true, .int .i64 s.op.v, .int .i64 (kOf s.PV), .map (some m13), .slice pp14 L17.length cc15] 98 (0, 0)) :: MapA m13 (ents (kI .i64) evD E16) :: bdA E16 :: Im 6 (.slice pp14 L17.length cc15) L17.length (L17.flatMap itCell) :: itsA L17 :: (F.set i emp)) := H44.dup (i := 5) rfl (Im_pers _ _ _ _)
          have H46 : St W w41 (blk g (.cells #[.bool true, .bool true, .int .i64 s.op.v, .int .i64 (kOf s.PV), .map (some m13), .slice pp14 L17.length cc15] 98 (0, 0)) :: MapA m13 (ents (kI .i64) evD E16) :: bdA E16 :: Im 6 (.slice pp14 L17.length cc15) L17.length (L17.flatMap itCell) :: itsA L17 :: Im 6 (.slice pp14 L17.length cc15) L17.length (L17.flatMap itCell) :: itsA L17 :: Row 5 1 (.slice q ((allV s.PV j).length) d) ((allV s.PV j).length) ((allV s.PV j).flatMap u8c) :: (F.set i emp)) := (((((H45.move 7 rfl).move 7 rfl).move 7 rfl).move 7 rfl).move 7 rfl)
          have H47 : St W w41 (LnA g ({ s with ov := true } : LdS) :: Im 6 (.slice pp14 L17.length cc15) L17.length (L17.flatMap itCell) :: itsA L17 :: Row 5 1 (.slice q ((allV s.PV j).length) d) ((allV s.PV j).length) ((allV s.PV j).flatMap u8c) :: (F.set i emp)) := St.shut_ex (⟨m13, pp14, cc15, E16, L17, hE18, hL19⟩ : LnX ({ s with ov := true } : LdS)) (St.shut_star (ls := [blk g (.cells #[.bool true, .bool true, .int .i64 s.op.v, .int .i64 (kOf s.PV), .map (some m13), .slice pp14 L17.length cc15] 98 (0, 0)), MapA m13 (ents (kI .i64) evD E16), bdA E16, Im 6 (.slice pp14 L17.length cc15) L17.length (L17.flatMap itCell), itsA L17]) H46)
          have H48 : St W w41 (Row 5 1 (.slice q ((allV s.PV j).length) d) ((allV s.PV j).length) ((allV s.PV j).flatMap u8c) :: Im 6 (.slice pp14 L17.length cc15) L17.length (L17.flatMap itCell) :: itsA L17 :: LnA g ({ s with ov := true } : LdS) :: (F.set i emp)) := (((H47.move 2 rfl).move 2 rfl).move 3 rfl)
          have H49 : St W w41 (LnA g ({ s with ov := true } : LdS) :: (Row 5 1 (.slice q ((allV s.PV j).length) d) ((allV s.PV j).length) ((allV s.PV j).flatMap u8c) :: Im 6 (.slice pp14 L17.length cc15) L17.length (L17.flatMap itCell) :: itsA L17 :: F).set (i + 3) emp) := (H48.move 3 rfl)
          exact ⟨q, d, pp14, cc15, L17, by rw [ltB_yes hE9, hE9, ← hj9]; rfl, by rw [ltV_yes hE9]; exact hL19, by rw [ltB_yes hE9, ltS_yes hE9, ← hj9]; exact St.back (i := i + 3) (by exact hi) H49⟩
  · skip
    refine r_cons (s_neq true rfl rfl (nfalse hc3) rfl ?_)
    refine r_nil ?_
    refine g_true rfl ?_
    refine g_seq ?_
    refine g_region ?_
    refine r_cons (s_move (.int .i64 (opE s.ov)) rfl rfl ?_)
    refine r_cons (s_assign (.slice none 0 0) rfl rfl ?_)
    refine r_cons (s_assign (.slice none 0 0) rfl rfl ?_)
    refine r_cons (s_assign (.int .i64 (opE s.ov)) rfl rfl ?_)
    refine r_nil ?_
    refine g_ret' [.slice none 0 0, .slice none 0 0, .int .i64 (opE s.ov)] Try.func25 Try.results25 ⟨rfl, rfl, rfl, trivial⟩ ?_
    have hE9 : ltE s = 241 := lt_1 (opE_t hc3)
    have H50 := itsA_nil H2
    have H51 := Row.im (Row.nil_intro H50 32 6) (i := 0) rfl
    have H52 := Row.nil_intro H51 5 1
    have H53 : St W w1 (Row 5 1 (.slice none 0 0) 0 [] :: Im 6 (.slice none 0 0) 0 [] :: itsA ([] : List ItemD) :: LnA g s :: (F.set i emp)) := ((((H52.move 3 rfl).move 3 rfl).move 3 rfl).move 3 rfl)
    have H54 : St W w1 (LnA g s :: (Row 5 1 (.slice none 0 0) 0 [] :: Im 6 (.slice none 0 0) 0 [] :: itsA ([] : List ItemD) :: F).set (i + 3) emp) := (H53.move 3 rfl)
    exact ⟨none, 0, none, 0, [], by rw [ltB_no hE9, hE9]; rw [opE_t hc3]; rfl, by rw [ltV_no hE9]; rfl, by rw [ltB_no hE9, ltS_no hE9]; exact St.back (i := i + 3) (by exact hi) H54⟩
set_option maxHeartbeats 4000000 in
set_option maxRecDepth 100000 in
theorem Ln_CloneG {W w : World} {F : List Atom} (g : Nat) (s : LdS) (hs : LOk s) {i : Nat} (hi : F[i]? = some (LnA g s)) (H : St W w F) : Calls Try.prog 20 #[.pointer (some ⟨g, 0, none⟩)] w (Ret fun v w' => ∃ o, v = .pointer (some ⟨o, 0, none⟩) ∧ St W w' (LnA o s :: F)) := by
  have H0 := H.front hi
  have hvl := hs.vl
  refine calls_of_go (n := 28) Try.func20 rfl Try.ntmps20 rfl ?_
  refine g_seq ?_
  refine g_region ?_
  refine r_cons (s_assign (.pointer none) rfl rfl ?_)
  refine r_nil ?_
  refine g_seq ?_
  refine g_seq ?_
  refine g_region ?_
  refine r_cons (s_move (.pointer (some ⟨g, 0, none⟩)) rfl rfl ?_)
  refine r_cons (s_peql false un_44 rfl rfl rfl rfl ?_)
  refine r_cons (s_move (.bool false) rfl rfl ?_)
  refine r_cons (r_take rfl rfl ?_)
  refine s_move (.pointer (some ⟨g, 0, none⟩)) rfl rfl ?_
  refine r_cons (r_take rfl rfl ?_)
  refine s_nilCheck (.pointer (some ⟨g, 0, none⟩)) rfl ⟨_, rfl⟩ rfl ?_
  refine r_cons (r_take rfl rfl ?_)
  refine s_fieldAddr 98 0 0 0 4 rfl fi_98_0 rfl rfl ?_
  refine r_cons (r_take rfl rfl ?_)
  have H1 := H0.move 0 rfl
  obtain ⟨⟨m2, pp3, cc4, E5, L6, hE7, hL8⟩, H9⟩ := St.open_ex H1
  have H10 := St.open_star H9
  have hll := it_len hL8
  have hel := keyed_len hE7
  have H11 : St W w (blk g (.cells #[.bool true, .bool s.ov, .int .i64 s.op.v, .int .i64 (kOf s.PV), .map (some m2), .slice pp3 L6.length cc4] 98 (0, 0)) :: MapA m2 (ents (kI .i64) evD E5) :: bdA E5 :: wtA 32 s.ov pp3 cc4 L6 :: itsA L6 :: (F.set i emp)) := H10
  refine s_load (.bool true) ag_4 rfl (H11.blk_at (i := 0) rfl) rfl rfl ?_
  refine r_cons (r_take rfl rfl ?_)
  refine s_not true rfl false rfl rfl ?_
  refine r_cons (s_pick_f (.bool false) rfl rfl rfl ?_)
  refine r_nil ?_
  refine g_false rfl ?_
  refine g_skip ?_
  refine g_seq ?_
  refine g_region ?_
  refine r_cons (s_move (.pointer (some ⟨g, 0, none⟩)) rfl rfl ?_)
  refine r_cons (s_nilCheck (.pointer (some ⟨g, 0, none⟩)) rfl ⟨_, rfl⟩ rfl ?_)
  refine r_cons (s_loadAgg [.bool true, .bool s.ov, .int .i64 s.op.v, .int .i64 (kOf s.PV), .map (some m2), .slice pp3 L6.length cc4] 6 ag_98 rfl (H11.blk_at (i := 0) rfl) (Nat.le_of_ble_eq_true rfl) rfl rfl ?_)
  refine r_cons (s_alloc H11 98 ze_98 rfl ?_); intro bk12 w13 H14
  refine r_cons (s_storeAgg H14 0 #[.bool true, .bool s.ov, .int .i64 s.op.v, .int .i64 (kOf s.PV), .map (some m2), .slice pp3 L6.length cc4] 6 rfl rfl rfl sz_98 rfl (by simp [Value.oneCell']) (Nat.le_of_ble_eq_true rfl) (fun o h1 h2 => by first | (simp; done) | (simp; omega)) (cs' := #[.bool true, .bool s.ov, .int .i64 s.op.v, .int .i64 (kOf s.PV), .map (some m2), .slice pp3 L6.length cc4]) rfl ?_); intro w15 H16
  refine r_nil ?_
  refine g_seq ?_
  have H17 : St W w15 (blk g (.cells #[.bool true, .bool s.ov, .int .i64 s.op.v, .int .i64 (kOf s.PV), .map (some m2), .slice pp3 L6.length cc4] 98 (0, 0)) :: MapA m2 (ents (kI .i64) evD E5) :: bdA E5 :: wtA 32 s.ov pp3 cc4 L6 :: itsA L6 :: blk bk12 (.cells #[.bool true, .bool s.ov, .int .i64 s.op.v, .int .i64 (kOf s.PV), .map (some m2), .slice pp3 L6.length cc4] 98 (0, 0)) :: (F.set i emp)) := (((((H16.move 5 rfl).move 5 rfl).move 5 rfl).move 5 rfl).move 5 rfl)
  refine g_mix (fun t_ w => St W w (blk g (.cells #[.bool true, .bool s.ov, .int .i64 s.op.v, .int .i64 (kOf s.PV), .map (some m2), .slice pp3 L6.length cc4] 98 (0, 0)) :: MapA m2 (ents (kI .i64) evD E5) :: bdA E5 :: wtA 32 s.ov pp3 cc4 L6 :: itsA L6 :: t_)) (blk bk12 (.cells #[.bool true, .bool s.ov, .int .i64 s.op.v, .int .i64 (kOf s.PV), .map (some m2), .slice pp3 L6.length cc4] 98 (0, 0)) :: (F.set i emp)) mixed 14 rfl H17.drew ?_
  refine f_first 0 (listed' := #[true, false, false, false, false, false, false, false, false, false, false, false, false, false]) rfl (by kernel_rfl) (by kernel_rfl) (by kernel_rfl) rfl ?_
  refine f_val rfl rfl rfl (by intro t_ w hw; exact x_move (.pointer (some ⟨g, 0, none⟩)) rfl w) ?_
  refine f_first 1 (listed' := #[true, true, false, false, false, false, false, false, false, false, false, false, false, false]) rfl (by kernel_rfl) (by kernel_rfl) (by kernel_rfl) rfl ?_
  refine f_val rfl rfl rfl (by intro t_ w hw; exact x_nilCheck (.pointer (some ⟨g, 0, none⟩)) rfl ⟨_, rfl⟩ w) ?_
  refine f_first 2 (listed' := #[true, true, true, false, false, false, false, false, false, false, false, false, false, false]) rfl (by kernel_rfl) (by kernel_rfl) (by kernel_rfl) rfl ?_
  refine f_val rfl rfl rfl (by intro t_ w hw; exact x_fieldAddr 98 4 4 4 96 rfl fi_98_4 rfl w) ?_
  refine f_first 3 (listed' := #[true, true, true, true, false, false, false, false, false, false, false, false, false, false]) rfl (by kernel_rfl) (by kernel_rfl) (by kernel_rfl) rfl ?_
  refine f_val rfl rfl rfl (by intro t_ w hw; exact x_load (.map (some m2)) ag_96 rfl (hw.blk_at (i := 0) rfl) rfl) ?_
  refine f_first 5 (listed' := #[true, true, true, true, false, true, false, false, false, false, false, false, false, false]) rfl (by kernel_rfl) (by kernel_rfl) (by kernel_rfl) rfl ?_
  refine f_val rfl rfl rfl (by intro t_ w hw; exact x_move (.pointer (some ⟨g, 0, none⟩)) rfl w) ?_
  refine f_first 6 (listed' := #[true, true, true, true, false, true, true, false, false, false, false, false, false, false]) rfl (by kernel_rfl) (by kernel_rfl) (by kernel_rfl) rfl ?_
  refine f_val rfl rfl rfl (by intro t_ w hw; exact x_nilCheck (.pointer (some ⟨g, 0, none⟩)) rfl ⟨_, rfl⟩ w) ?_
  refine f_first 7 (listed' := #[true, true, true, true, false, true, true, true, false, false, false, false, false, false]) rfl (by kernel_rfl) (by kernel_rfl) (by kernel_rfl) rfl ?_
  refine f_val rfl rfl rfl (by intro t_ w hw; exact x_fieldAddr 98 5 5 5 22 rfl fi_98_5 rfl w) ?_
  refine f_first 8 (listed' := #[true, true, true, true, false, true, true, true, true, false, false, false, false, false]) rfl (by kernel_rfl) (by kernel_rfl) (by kernel_rfl) rfl ?_
  refine f_val rfl rfl rfl (by intro t_ w hw; exact x_load (.slice pp3 L6.length cc4) ag_22 rfl (hw.blk_at (i := 0) rfl) rfl) ?_
  refine f_all (rs := [4]) (by kernel_rfl) (by simp) ?_
  refine a_cons ⟨_, rfl, ?_⟩ (fun x hx => absurd hx (by simp))
  intro w18 H19
  try dsimp only at H19
  refine s_call [.map (some m2)] pl_69 rfl rfl (clone_map layMB (i := 1) rfl H19) ?_
  rintro _ w21 ⟨mp20, rfl, H22⟩
  have H23 : St W w21 (blk g (.cells #[.bool true, .bool s.ov, .int .i64 s.op.v, .int .i64 (kOf s.PV), .map (some m2), .slice pp3 L6.length cc4] 98 (0, 0)) :: MapA m2 (ents (kI .i64) evD E5) :: bdA E5 :: wtA 32 s.ov pp3 cc4 L6 :: itsA L6 :: MapA mp20 (ents (kI .i64) evD E5) :: blk bk12 (.cells #[.bool true, .bool s.ov, .int .i64 s.op.v, .int .i64 (kOf s.PV), .map (some m2), .slice pp3 L6.length cc4] 98 (0, 0)) :: (F.set i emp)) := (((((((H22.move 6 rfl).move 1 rfl).move 6 rfl).move 6 rfl).move 6 rfl).move 6 rfl).move 6 rfl)
  refine ⟨MapA mp20 (ents (kI .i64) evD E5) :: blk bk12 (.cells #[.bool true, .bool s.ov, .int .i64 s.op.v, .int .i64 (kOf s.PV), .map (some m2), .slice pp3 L6.length cc4] 98 (0, 0)) :: (F.set i emp), ?_, H23⟩
  change FReg _ _ _ _ _ #[true, true, true, true, true, true, true, true, true, false, false, false, false, false] _ _
  refine f_all (rs := [9]) (by kernel_rfl) (by simp) ?_
  refine a_cons ⟨_, rfl, ?_⟩ (fun x hx => absurd hx (by simp))
  intro w24 H25
  try dsimp only at H25
  refine s_call [.slice pp3 L6.length cc4] pl_70 rfl rfl (clone_items _ _ L6.length (L6.flatMap itCell) (wtA_rd _ _ _ _ _) (by omega) (j := 3) rfl H25) ?_
  rintro _ w28 ⟨pp26, cc27, rfl, H29⟩
  have H30 : St W w28 (blk g (.cells #[.bool true, .bool s.ov, .int .i64 s.op.v, .int .i64 (kOf s.PV), .map (some m2), .slice pp3 L6.length cc4] 98 (0, 0)) :: MapA m2 (ents (kI .i64) evD E5) :: bdA E5 :: wtA 32 s.ov pp3 cc4 L6 :: itsA L6 :: Row 32 6 (.slice pp26 L6.length cc27) L6.length (L6.flatMap itCell) :: MapA mp20 (ents (kI .i64) evD E5) :: blk bk12 (.cells #[.bool true, .bool s.ov, .int .i64 s.op.v, .int .i64 (kOf s.PV), .map (some m2), .slice pp3 L6.length cc4] 98 (0, 0)) :: (F.set i emp)) := ((((((((H29.move 7 rfl).move 7 rfl).move 2 rfl).move 7 rfl).move 7 rfl).move 7 rfl).move 7 rfl).move 7 rfl)
  refine ⟨Row 32 6 (.slice pp26 L6.length cc27) L6.length (L6.flatMap itCell) :: MapA mp20 (ents (kI .i64) evD E5) :: blk bk12 (.cells #[.bool true, .bool s.ov, .int .i64 s.op.v, .int .i64 (kOf s.PV), .map (some m2), .slice pp3 L6.length cc4] 98 (0, 0)) :: (F.set i emp), ?_, H30⟩
  change FReg _ _ _ _ _ #[true, true, true, true, true, true, true, true, true, true, false, false, false, false] _ _
  refine f_first 10 (listed' := #[true, true, true, true, true, true, true, true, true, true, true, false, false, false]) rfl (by kernel_rfl) (by kernel_rfl) (by kernel_rfl) rfl ?_
  refine f_val rfl rfl rfl (by intro t_ w hw; exact x_fieldAddr 98 4 4 4 96 rfl fi_98_4 rfl w) ?_
  refine f_all (rs := [11]) (by kernel_rfl) (by simp) ?_
  refine a_cons ⟨_, rfl, ?_⟩ (fun x hx => absurd hx (by simp))
  intro w31 H32
  try dsimp only at H32
  refine s_store H32 7 (.map (some mp20)) rfl rfl rfl sz_96 rfl (Nat.le_of_ble_eq_true rfl) rfl (cs' := #[.bool true, .bool s.ov, .int .i64 s.op.v, .int .i64 (kOf s.PV), .map (some mp20), .slice pp3 L6.length cc4]) rfl ?_; intro w33 H34
  refine ⟨Row 32 6 (.slice pp26 L6.length cc27) L6.length (L6.flatMap itCell) :: MapA mp20 (ents (kI .i64) evD E5) :: blk bk12 (.cells #[.bool true, .bool s.ov, .int .i64 s.op.v, .int .i64 (kOf s.PV), .map (some mp20), .slice pp3 L6.length cc4] 98 (0, 0)) :: (F.set i emp), ?_, H34⟩
  change FReg _ _ _ _ _ #[true, true, true, true, true, true, true, true, true, true, true, true, false, false] _ _
  refine f_first 12 (listed' := #[true, true, true, true, true, true, true, true, true, true, true, true, true, false]) rfl (by kernel_rfl) (by kernel_rfl) (by kernel_rfl) rfl ?_
  refine f_val rfl rfl rfl (by intro t_ w hw; exact x_fieldAddr 98 5 5 5 22 rfl fi_98_5 rfl w) ?_
  refine f_all (rs := [13]) (by kernel_rfl) (by simp) ?_
  refine a_cons ⟨_, rfl, ?_⟩ (fun x hx => absurd hx (by simp))
  intro w35 H36
  try dsimp only at H36
  refine s_store H36 7 (.slice pp26 L6.length cc27) rfl rfl rfl sz_22 rfl (Nat.le_of_ble_eq_true rfl) rfl (cs' := #[.bool true, .bool s.ov, .int .i64 s.op.v, .int .i64 (kOf s.PV), .map (some mp20), .slice pp26 L6.length cc27]) rfl ?_; intro w37 H38
  refine ⟨Row 32 6 (.slice pp26 L6.length cc27) L6.length (L6.flatMap itCell) :: MapA mp20 (ents (kI .i64) evD E5) :: blk bk12 (.cells #[.bool true, .bool s.ov, .int .i64 s.op.v, .int .i64 (kOf s.PV), .map (some mp20), .slice pp26 L6.length cc27] 98 (0, 0)) :: (F.set i emp), ?_, H38⟩
  change FReg _ _ _ _ _ #[true, true, true, true, true, true, true, true, true, true, true, true, true, true] _ _
  refine f_done (by kernel_rfl) ?_
  intro w39 H40
  refine g_seq ?_
  refine g_region ?_
  refine r_cons (s_assign (.pointer (some ⟨bk12, 0, none⟩)) rfl rfl ?_)
  refine r_nil ?_
  refine g_ret' [.pointer (some ⟨bk12, 0, none⟩)] Try.func20 Try.results20 ⟨rfl, trivial⟩ ?_
  have H41 : St W w39 (itsA L6 :: blk g (.cells #[.bool true, .bool s.ov, .int .i64 s.op.v, .int .i64 (kOf s.PV), .map (some m2), .slice pp3 L6.length cc4] 98 (0, 0)) :: MapA m2 (ents (kI .i64) evD E5) :: bdA E5 :: wtA 32 s.ov pp3 cc4 L6 :: itsA L6 :: Row 32 6 (.slice pp26 L6.length cc27) L6.length (L6.flatMap itCell) :: MapA mp20 (ents (kI .i64) evD E5) :: blk bk12 (.cells #[.bool true, .bool s.ov, .int .i64 s.op.v, .int .i64 (kOf s.PV), .map (some mp20), .slice pp26 L6.length cc27] 98 (0, 0)) :: (F.set i emp)) := H40.dup (i := 4) rfl (itsA_pers _)
  have H42 : St W w39 (bdA E5 :: itsA L6 :: blk g (.cells #[.bool true, .bool s.ov, .int .i64 s.op.v, .int .i64 (kOf s.PV), .map (some m2), .slice pp3 L6.length cc4] 98 (0, 0)) :: MapA m2 (ents (kI .i64) evD E5) :: bdA E5 :: wtA 32 s.ov pp3 cc4 L6 :: itsA L6 :: Row 32 6 (.slice pp26 L6.length cc27) L6.length (L6.flatMap itCell) :: MapA mp20 (ents (kI .i64) evD E5) :: blk bk12 (.cells #[.bool true, .bool s.ov, .int .i64 s.op.v, .int .i64 (kOf s.PV), .map (some mp20), .slice pp26 L6.length cc27] 98 (0, 0)) :: (F.set i emp)) := H41.dup (i := 3) rfl (bdA_pers _)
  have H43 : St W w39 (Row 32 6 (.slice pp26 L6.length cc27) L6.length (L6.flatMap itCell) :: bdA E5 :: itsA L6 :: blk g (.cells #[.bool true, .bool s.ov, .int .i64 s.op.v, .int .i64 (kOf s.PV), .map (some m2), .slice pp3 L6.length cc4] 98 (0, 0)) :: MapA m2 (ents (kI .i64) evD E5) :: bdA E5 :: wtA 32 s.ov pp3 cc4 L6 :: itsA L6 :: MapA mp20 (ents (kI .i64) evD E5) :: blk bk12 (.cells #[.bool true, .bool s.ov, .int .i64 s.op.v, .int .i64 (kOf s.PV), .map (some mp20), .slice pp26 L6.length cc27] 98 (0, 0)) :: (F.set i emp)) := (H42.move 7 rfl)
  have H44 : St W w39 (wtA 32 s.ov pp26 cc27 L6 :: bdA E5 :: itsA L6 :: blk g (.cells #[.bool true, .bool s.ov, .int .i64 s.op.v, .int .i64 (kOf s.PV), .map (some m2), .slice pp3 L6.length cc4] 98 (0, 0)) :: MapA m2 (ents (kI .i64) evD E5) :: bdA E5 :: wtA 32 s.ov pp3 cc4 L6 :: itsA L6 :: MapA mp20 (ents (kI .i64) evD E5) :: blk bk12 (.cells #[.bool true, .bool s.ov, .int .i64 s.op.v, .int .i64 (kOf s.PV), .map (some mp20), .slice pp26 L6.length cc27] 98 (0, 0)) :: (F.set i emp)) := wt_of (ov := s.ov) H43
  have H45 : St W w39 (blk bk12 (.cells #[.bool true, .bool s.ov, .int .i64 s.op.v, .int .i64 (kOf s.PV), .map (some mp20), .slice pp26 L6.length cc27] 98 (0, 0)) :: MapA mp20 (ents (kI .i64) evD E5) :: bdA E5 :: wtA 32 s.ov pp26 cc27 L6 :: itsA L6 :: blk g (.cells #[.bool true, .bool s.ov, .int .i64 s.op.v, .int .i64 (kOf s.PV), .map (some m2), .slice pp3 L6.length cc4] 98 (0, 0)) :: MapA m2 (ents (kI .i64) evD E5) :: bdA E5 :: wtA 32 s.ov pp3 cc4 L6 :: itsA L6 :: (F.set i emp)) := (((((H44.move 2 rfl).move 1 rfl).move 2 rfl).move 8 rfl).move 9 rfl)
  have H46 : St W w39 (LnA bk12 s :: blk g (.cells #[.bool true, .bool s.ov, .int .i64 s.op.v, .int .i64 (kOf s.PV), .map (some m2), .slice pp3 L6.length cc4] 98 (0, 0)) :: MapA m2 (ents (kI .i64) evD E5) :: bdA E5 :: wtA 32 s.ov pp3 cc4 L6 :: itsA L6 :: (F.set i emp)) := St.shut_ex (⟨mp20, pp26, cc27, E5, L6, hE7, hL8⟩ : LnX s) (St.shut_star (ls := [blk bk12 (.cells #[.bool true, .bool s.ov, .int .i64 s.op.v, .int .i64 (kOf s.PV), .map (some mp20), .slice pp26 L6.length cc27] 98 (0, 0)), MapA mp20 (ents (kI .i64) evD E5), bdA E5, wtA 32 s.ov pp26 cc27 L6, itsA L6]) H45)
  have H47 : St W w39 (blk g (.cells #[.bool true, .bool s.ov, .int .i64 s.op.v, .int .i64 (kOf s.PV), .map (some m2), .slice pp3 L6.length cc4] 98 (0, 0)) :: MapA m2 (ents (kI .i64) evD E5) :: bdA E5 :: wtA 32 s.ov pp3 cc4 L6 :: itsA L6 :: LnA bk12 s :: (F.set i emp)) := (((((H46.move 5 rfl).move 5 rfl).move 5 rfl).move 5 rfl).move 5 rfl)
  have H48 : St W w39 (LnA g s :: LnA bk12 s :: (F.set i emp)) := St.shut_ex (⟨m2, pp3, cc4, E5, L6, hE7, hL8⟩ : LnX s) (St.shut_star (ls := [blk g (.cells #[.bool true, .bool s.ov, .int .i64 s.op.v, .int .i64 (kOf s.PV), .map (some m2), .slice pp3 L6.length cc4] 98 (0, 0)), MapA m2 (ents (kI .i64) evD E5), bdA E5, wtA 32 s.ov pp3 cc4 L6, itsA L6]) H47)
  have H49 : St W w39 (LnA bk12 s :: LnA g s :: (F.set i emp)) := (H48.move 1 rfl)
  have H50 : St W w39 (LnA g s :: (LnA bk12 s :: F).set (i + 1) emp) := (H49.move 1 rfl)
  exact ⟨bk12, rfl, St.back_same (i := i + 1) (by exact hi) H50⟩
set_option maxHeartbeats 4000000 in
set_option maxRecDepth 100000 in
theorem NewLanding_yes {W w : World} {F : List Atom} (op : I64) (ht : timeB op.v = true) (H : St W w F) : Calls Try.prog 18 #[.int .i64 op.v] w (Ret fun v w' => ∃ g, v = .tuple #[.pointer (some ⟨g, 0, none⟩), .int .i64 0] ∧ St W w' (LnA g (newL op) :: F)) := by
  refine calls_of_go (n := 12) Try.func18 rfl Try.ntmps18 rfl ?_
  refine g_seq ?_
  refine g_region ?_
  refine r_cons (s_assign (.pointer none) rfl rfl ?_)
  refine r_cons (s_assign (.int .i64 0) rfl rfl ?_)
  refine r_nil ?_
  refine g_seq ?_
  refine g_seq ?_
  refine g_region ?_
  refine r_cons (s_move (.int .i64 op.v) rfl rfl ?_)
  refine r_cons (s_buildSlice H 1 1 (cs := #[.int .i64 op.v]) #[.int .i64 0] el_174 ze_2 (by decide) (by decide) (by kernel_rfl) rfl ?_); intro bk1 w2 H3
  refine r_cons (s_call [.slice (some ⟨bk1, 0, none⟩) 1 1] pl_68 rfl rfl (time1 bk1 op.v H3) ?_)
  rintro _ w4 ⟨rfl, H5⟩
  refine r_cons (s_not (timeB op.v) rfl false (by rw [ht]; rfl) rfl ?_)
  refine r_nil ?_
  refine g_false rfl ?_
  refine g_skip ?_
  refine g_seq ?_
  refine g_region ?_
  refine r_cons (s_move (.int .i64 op.v) rfl rfl ?_)
  refine r_cons (s_makeMap H5 rfl ?_); intro mp6 w7 H8
  have H9 : St W w7 (MapA mp6 (ents (kI .i64) evD ([] : List (I64 × BytesD))) :: blk bk1 (.cells #[.int .i64 op.v] 2 (0, 0)) :: F) := H8
  refine r_cons (s_build (cs := #[.bool true, .bool false, .int .i64 op.v, .int .i64 0, .map (some mp6), .slice none 0 0]) (by kernel_rfl) rfl ?_)
  refine r_cons (s_box H9 98 (.agg #[.bool true, .bool false, .int .i64 op.v, .int .i64 0, .map (some mp6), .slice none 0 0]) rfl (cs := #[.bool true, .bool false, .int .i64 op.v, .int .i64 0, .map (some mp6), .slice none 0 0]) rfl rfl ?_); intro bk10 w11 H12
  refine r_cons (s_assign (.pointer (some ⟨bk10, 0, none⟩)) rfl rfl ?_)
  refine r_cons (s_assign (.int .i64 0) rfl rfl ?_)
  refine r_nil ?_
  refine g_ret' [.pointer (some ⟨bk10, 0, none⟩), .int .i64 0] Try.func18 Try.results18 ⟨rfl, rfl, trivial⟩ ?_
  have H13 := Row.nil_intro H12 32 6
  have H14 := itsA_nil H13
  have H15 := bdA_nil H14
  have H16 : St W w11 (Row 32 6 (.slice none 0 0) 0 [] :: bdA ([] : List (I64 × BytesD)) :: itsA ([] : List ItemD) :: blk bk10 (.cells #[.bool true, .bool false, .int .i64 op.v, .int .i64 0, .map (some mp6), .slice none 0 0] 98 (0, 0)) :: MapA mp6 (ents (kI .i64) evD ([] : List (I64 × BytesD))) :: blk bk1 (.cells #[.int .i64 op.v] 2 (0, 0)) :: F) := (H15.move 2 rfl)
  have H17 : St W w11 (wtA 32 (newL op).ov none 0 ([] : List ItemD) :: bdA ([] : List (I64 × BytesD)) :: itsA ([] : List ItemD) :: blk bk10 (.cells #[.bool true, .bool false, .int .i64 op.v, .int .i64 0, .map (some mp6), .slice none 0 0] 98 (0, 0)) :: MapA mp6 (ents (kI .i64) evD ([] : List (I64 × BytesD))) :: blk bk1 (.cells #[.int .i64 op.v] 2 (0, 0)) :: F) := wt_of (ov := (newL op).ov) H16
  have H18 : St W w11 (blk bk10 (.cells #[.bool true, .bool false, .int .i64 op.v, .int .i64 0, .map (some mp6), .slice none 0 0] 98 (0, 0)) :: MapA mp6 (ents (kI .i64) evD ([] : List (I64 × BytesD))) :: bdA ([] : List (I64 × BytesD)) :: wtA 32 (newL op).ov none 0 ([] : List ItemD) :: itsA ([] : List ItemD) :: blk bk1 (.cells #[.int .i64 op.v] 2 (0, 0)) :: F) := (((((H17.move 2 rfl).move 1 rfl).move 2 rfl).move 4 rfl).move 4 rfl)
  have H19 : St W w11 (LnA bk10 (newL op) :: blk bk1 (.cells #[.int .i64 op.v] 2 (0, 0)) :: F) := St.shut_ex (⟨mp6, none, 0, ([] : List (I64 × BytesD)), ([] : List ItemD), rfl, rfl⟩ : LnX (newL op)) (St.shut_star (ls := [blk bk10 (.cells #[.bool true, .bool false, .int .i64 op.v, .int .i64 0, .map (some mp6), .slice none 0 0] 98 (0, 0)), MapA mp6 (ents (kI .i64) evD ([] : List (I64 × BytesD))), bdA ([] : List (I64 × BytesD)), wtA 32 (newL op).ov none 0 ([] : List ItemD), itsA ([] : List ItemD)]) H18)
  have H20 : St W w11 (LnA bk10 (newL op) :: F) := (H19.drop 1 rfl)
  exact ⟨bk10, rfl, H20⟩
set_option maxHeartbeats 4000000 in
set_option maxRecDepth 100000 in
theorem NewLanding_no {W w : World} {F : List Atom} (op : I64) (ht : timeB op.v = false) (H : St W w F) : Calls Try.prog 18 #[.int .i64 op.v] w (Ret fun v w' => v = .tuple #[.pointer none, .int .i64 1] ∧ St W w' F) := by
  refine calls_of_go (n := 12) Try.func18 rfl Try.ntmps18 rfl ?_
  refine g_seq ?_
  refine g_region ?_
  refine r_cons (s_assign (.pointer none) rfl rfl ?_)
  refine r_cons (s_assign (.int .i64 0) rfl rfl ?_)
  refine r_nil ?_
  refine g_seq ?_
  refine g_seq ?_
  refine g_region ?_
  refine r_cons (s_move (.int .i64 op.v) rfl rfl ?_)
  refine r_cons (s_buildSlice H 1 1 (cs := #[.int .i64 op.v]) #[.int .i64 0] el_174 ze_2 (by decide) (by decide) (by kernel_rfl) rfl ?_); intro bk1 w2 H3
  refine r_cons (s_call [.slice (some ⟨bk1, 0, none⟩) 1 1] pl_68 rfl rfl (time1 bk1 op.v H3) ?_)
  rintro _ w4 ⟨rfl, H5⟩
  refine r_cons (s_not (timeB op.v) rfl true (by rw [ht]; rfl) rfl ?_)
  refine r_nil ?_
  refine g_true rfl ?_
  refine g_seq ?_
  refine g_region ?_
  refine r_cons (s_assign (.pointer none) rfl rfl ?_)
  refine r_cons (s_assign (.int .i64 1) rfl rfl ?_)
  refine r_nil ?_
  refine g_ret' [.pointer none, .int .i64 1] Try.func18 Try.results18 ⟨rfl, rfl, trivial⟩ ?_
  have H6 : St W w4 F := (H5.drop 0 rfl)
  exact ⟨rfl, H6⟩
set_option maxHeartbeats 4000000 in
set_option maxRecDepth 100000 in
theorem Rn_whole {W w : World} {F : List Atom} (g : Nat) (s : LdS)  {i : Nat} (hi : F[i]? = some (RnA g s)) (H : St W w F) : Calls Try.prog 77 #[.pointer (some ⟨g, 0, none⟩)] w (Ret fun v w' => v = .bool (wholeB s) ∧ St W w' F) := by
  have H0 := H.front hi
  refine calls_of_go (n := 24) Try.func77 rfl Try.ntmps77 rfl ?_
  refine g_seq ?_
  refine g_region ?_
  refine r_cons (s_assign (.bool false) rfl rfl ?_)
  refine r_nil ?_
  refine g_seq ?_
  have H1 := H0.move 0 rfl
  obtain ⟨⟨pp2, cc3, pp4, cc5, L6, Ps7, hL8, hP9⟩, H10⟩ := St.open_ex H1
  have H11 := St.open_star H10
  have hpl := pv_len hP9
  have hlw := lw_len hL8
  have H12 : St W w (blk g (.cells #[.int .i64 s.op.v, .slice pp2 L6.length cc3, .slice pp4 Ps7.length cc5, .bool s.ov] 62 (0, 0)) :: Im 6 (.slice pp2 L6.length cc3) L6.length (L6.flatMap itCell) :: itsA L6 :: Im 4 (.slice pp4 Ps7.length cc5) Ps7.length (Ps7.flatMap pcCell) :: pcA Ps7 :: (F.set i emp)) := H11
  obtain ⟨pA13, cA14, gA15, oA16, kA17, eA18, zA19, he25, hn20, hp21, hx22, hs23, hml, H24⟩ := Im.open_ H12 (i := 3) rfl
  obtain ⟨rfl, rfl⟩ : pp4 = pA13 ∧ cc5 = cA14 := by injection he25 with a_ b_ c_; exact ⟨a_, c_⟩
  refine g_quiet (fun w' => St W w' (imi (0 < Ps7.length) gA15 (.cells kA17 eA18 zA19) :: blk g (.cells #[.int .i64 s.op.v, .slice pp2 L6.length cc3, .slice pp4 Ps7.length cc5, .bool s.ov] 62 (0, 0)) :: Im 6 (.slice pp2 L6.length cc3) L6.length (L6.flatMap itCell) :: itsA L6 :: Im 4 (.slice pp4 Ps7.length cc5) Ps7.length (Ps7.flatMap pcCell) :: pcA Ps7 :: (F.set i emp))) mixed (by kernel_rfl) H24.drew ?_
  refine q_cons (q_val rfl rfl rfl (by intro w hw; exact x_move (.pointer (some ⟨g, 0, none⟩)) rfl w) ?_)
  refine q_cons (q_val rfl rfl rfl (by intro w hw; exact x_nilCheck (.pointer (some ⟨g, 0, none⟩)) rfl ⟨_, rfl⟩ w) ?_)
  refine q_cons (q_val rfl rfl rfl (by intro w hw; exact x_fieldAddr 62 2 2 2 60 rfl fi_62_2 rfl w) ?_)
  refine q_cons (q_val rfl rfl rfl (by intro w hw; exact x_load (.slice pp4 Ps7.length cc5) ag_60 rfl (hw.blk_at (i := 1) rfl) rfl) ?_)
  refine q_cons (q_val rfl rfl rfl (by intro w hw; exact x_len Ps7.length rfl ⟨_, un_60⟩ w) ?_)
  by_cases hc26 : (0 : Int) < (Ps7.length : Int)
  · skip
    refine q_cons (q_val rfl rfl rfl (by intro w hw; exact x_gtr true rfl rfl (dtrue hc26) w) ?_)
    refine q_cons (q_val rfl rfl rfl (by intro w hw; exact x_move (.bool true) rfl w) ?_)
    refine q_cons (q_take rfl rfl ?_)
    refine q_val rfl rfl rfl (by intro w hw; exact x_move (.pointer (some ⟨g, 0, none⟩)) rfl w) ?_
    refine q_cons (q_take rfl rfl ?_)
    refine q_val rfl rfl rfl (by intro w hw; exact x_nilCheck (.pointer (some ⟨g, 0, none⟩)) rfl ⟨_, rfl⟩ w) ?_
    refine q_cons (q_take rfl rfl ?_)
    refine q_val rfl rfl rfl (by intro w hw; exact x_fieldAddr 62 2 2 2 60 rfl fi_62_2 rfl w) ?_
    refine q_cons (q_take rfl rfl ?_)
    refine q_val rfl rfl rfl (by intro w hw; exact x_load (.slice pp4 Ps7.length cc5) ag_60 rfl (hw.blk_at (i := 1) rfl) rfl) ?_
    refine q_cons (q_take rfl rfl ?_)
    refine q_val rfl rfl rfl (by intro w hw; exact x_len Ps7.length rfl ⟨_, un_60⟩ w) ?_
    refine q_cons (q_take rfl rfl ?_)
    refine q_val rfl rfl rfl (by intro w hw; exact x_move (.pointer (some ⟨g, 0, none⟩)) rfl w) ?_
    refine q_cons (q_take rfl rfl ?_)
    refine q_val rfl rfl rfl (by intro w hw; exact x_nilCheck (.pointer (some ⟨g, 0, none⟩)) rfl ⟨_, rfl⟩ w) ?_
    refine q_cons (q_take rfl rfl ?_)
    refine q_val rfl rfl rfl (by intro w hw; exact x_fieldAddr 62 2 2 2 60 rfl fi_62_2 rfl w) ?_
    refine q_cons (q_take rfl rfl ?_)
    refine q_val rfl rfl rfl (by intro w hw; exact x_load (.slice pp4 Ps7.length cc5) ag_60 rfl (hw.blk_at (i := 1) rfl) rfl) ?_
    refine q_cons (q_take rfl rfl ?_)
    refine q_val rfl rfl rfl (by intro w hw; exact x_indexAddr gA15 (off := oA16) 0 4 (oA16 + 0 * 4) (by exact congrArg (fun z_ => Value.slice z_ Ps7.length cc5) (hp21 (by omega))) rfl el_60 (by omega) rfl w) ?_
    refine q_cons (q_take rfl rfl ?_)
    refine q_val rfl rfl rfl (by intro w hw; exact x_fieldAddr 51 1 1 (oA16 + 0 * 4 + 1) 3 rfl fi_51_1 rfl w) ?_
    refine q_cons (q_take rfl rfl ?_)
    refine q_val rfl rfl rfl (by intro w hw; exact x_load (.int .i64 ((Ps7.getD 0 default).v.many.v)) ag_3 rfl (hw.imi_at (i := 0) rfl (by omega)) (elem_cell (L := Ps7) (i := 0) pcCell_len (hx22 (by omega)) (by omega) default 1 (by decide) _ rfl)) ?_
    refine q_cons (q_take rfl rfl ?_)
    by_cases hc27 : (Ps7.length : Int) = (Ps7.getD 0 default).v.many.v
    · skip
      refine q_val rfl rfl rfl (by intro w hw; exact x_eql true rfl rfl (dtrue hc27) w) ?_
      refine q_cons (q_val rfl rfl rfl (by intro w hw; exact x_pick_t (.bool true) rfl rfl w) ?_)
      refine q_cons (q_val rfl rfl rfl (by intro w hw; exact x_assign (.bool true) rfl w) ?_)
      refine q_nil ?_
      intro w28 H29
      refine g_ret' [.bool true] Try.func77 Try.results77 ⟨rfl, trivial⟩ ?_
      have H30 : St W w28 (blk g (.cells #[.int .i64 s.op.v, .slice pp2 L6.length cc3, .slice pp4 Ps7.length cc5, .bool s.ov] 62 (0, 0)) :: Im 6 (.slice pp2 L6.length cc3) L6.length (L6.flatMap itCell) :: itsA L6 :: Im 4 (.slice pp4 Ps7.length cc5) Ps7.length (Ps7.flatMap pcCell) :: pcA Ps7 :: imi (0 < Ps7.length) gA15 (.cells kA17 eA18 zA19) :: (F.set i emp)) := (((((H29.move 5 rfl).move 5 rfl).move 5 rfl).move 5 rfl).move 5 rfl)
      have H31 : St W w28 (RnA g s :: imi (0 < Ps7.length) gA15 (.cells kA17 eA18 zA19) :: (F.set i emp)) := St.shut_ex (⟨pp2, cc3, pp4, cc5, L6, Ps7, hL8, hP9⟩ : RnX s) (St.shut_star (ls := [blk g (.cells #[.int .i64 s.op.v, .slice pp2 L6.length cc3, .slice pp4 Ps7.length cc5, .bool s.ov] 62 (0, 0)), Im 6 (.slice pp2 L6.length cc3) L6.length (L6.flatMap itCell), itsA L6, Im 4 (.slice pp4 Ps7.length cc5) Ps7.length (Ps7.flatMap pcCell), pcA Ps7]) H30)
      have H32 : St W w28 (RnA g s :: (F.set i emp)) := (H31.drop 1 rfl)
      exact ⟨congrArg Value.bool (whole_is (by first | omega | (have hk9 := pv_k hP9 (by omega); omega))).symm, St.back_same hi H32⟩
    · skip
      refine q_val rfl rfl rfl (by intro w hw; exact x_eql false rfl rfl (dfalse hc27) w) ?_
      refine q_cons (q_val rfl rfl rfl (by intro w hw; exact x_pick_t (.bool false) rfl rfl w) ?_)
      refine q_cons (q_val rfl rfl rfl (by intro w hw; exact x_assign (.bool false) rfl w) ?_)
      refine q_nil ?_
      intro w33 H34
      refine g_ret' [.bool false] Try.func77 Try.results77 ⟨rfl, trivial⟩ ?_
      have H35 : St W w33 (blk g (.cells #[.int .i64 s.op.v, .slice pp2 L6.length cc3, .slice pp4 Ps7.length cc5, .bool s.ov] 62 (0, 0)) :: Im 6 (.slice pp2 L6.length cc3) L6.length (L6.flatMap itCell) :: itsA L6 :: Im 4 (.slice pp4 Ps7.length cc5) Ps7.length (Ps7.flatMap pcCell) :: pcA Ps7 :: imi (0 < Ps7.length) gA15 (.cells kA17 eA18 zA19) :: (F.set i emp)) := (((((H34.move 5 rfl).move 5 rfl).move 5 rfl).move 5 rfl).move 5 rfl)
      have H36 : St W w33 (RnA g s :: imi (0 < Ps7.length) gA15 (.cells kA17 eA18 zA19) :: (F.set i emp)) := St.shut_ex (⟨pp2, cc3, pp4, cc5, L6, Ps7, hL8, hP9⟩ : RnX s) (St.shut_star (ls := [blk g (.cells #[.int .i64 s.op.v, .slice pp2 L6.length cc3, .slice pp4 Ps7.length cc5, .bool s.ov] 62 (0, 0)), Im 6 (.slice pp2 L6.length cc3) L6.length (L6.flatMap itCell), itsA L6, Im 4 (.slice pp4 Ps7.length cc5) Ps7.length (Ps7.flatMap pcCell), pcA Ps7]) H35)
      have H37 : St W w33 (RnA g s :: (F.set i emp)) := (H36.drop 1 rfl)
      exact ⟨congrArg Value.bool (whole_no (by first | omega | (have hk9 := pv_k hP9 (by omega); omega))).symm, St.back_same hi H37⟩
  · skip
    refine q_cons (q_val rfl rfl rfl (by intro w hw; exact x_gtr false rfl rfl (dfalse hc26) w) ?_)
    refine q_cons (q_val rfl rfl rfl (by intro w hw; exact x_move (.bool false) rfl w) ?_)
    refine q_cons (q_pass rfl rfl rfl rfl rfl ?_)
    refine q_cons (q_pass rfl rfl rfl rfl rfl ?_)
    refine q_cons (q_pass rfl rfl rfl rfl rfl ?_)
    refine q_cons (q_pass rfl rfl rfl rfl rfl ?_)
    refine q_cons (q_pass rfl rfl rfl rfl rfl ?_)
    refine q_cons (q_pass rfl rfl rfl rfl rfl ?_)
    refine q_cons (q_pass rfl rfl rfl rfl rfl ?_)
    refine q_cons (q_pass rfl rfl rfl rfl rfl ?_)
    refine q_cons (q_pass rfl rfl rfl rfl rfl ?_)
    refine q_cons (q_pass rfl rfl rfl rfl rfl ?_)
    refine q_cons (q_pass rfl rfl rfl rfl rfl ?_)
    refine q_cons (q_pass rfl rfl rfl rfl rfl ?_)
    refine q_cons (q_pass rfl rfl rfl rfl rfl ?_)
    refine q_cons (q_val rfl rfl rfl (by intro w hw; exact x_pick_f (.bool false) rfl rfl w) ?_)
    refine q_cons (q_val rfl rfl rfl (by intro w hw; exact x_assign (.bool false) rfl w) ?_)
    refine q_nil ?_
    intro w38 H39
    refine g_ret' [.bool false] Try.func77 Try.results77 ⟨rfl, trivial⟩ ?_
    have H40 : St W w38 (blk g (.cells #[.int .i64 s.op.v, .slice pp2 L6.length cc3, .slice pp4 Ps7.length cc5, .bool s.ov] 62 (0, 0)) :: Im 6 (.slice pp2 L6.length cc3) L6.length (L6.flatMap itCell) :: itsA L6 :: Im 4 (.slice pp4 Ps7.length cc5) Ps7.length (Ps7.flatMap pcCell) :: pcA Ps7 :: imi (0 < Ps7.length) gA15 (.cells kA17 eA18 zA19) :: (F.set i emp)) := (((((H39.move 5 rfl).move 5 rfl).move 5 rfl).move 5 rfl).move 5 rfl)
    have H41 : St W w38 (RnA g s :: imi (0 < Ps7.length) gA15 (.cells kA17 eA18 zA19) :: (F.set i emp)) := St.shut_ex (⟨pp2, cc3, pp4, cc5, L6, Ps7, hL8, hP9⟩ : RnX s) (St.shut_star (ls := [blk g (.cells #[.int .i64 s.op.v, .slice pp2 L6.length cc3, .slice pp4 Ps7.length cc5, .bool s.ov] 62 (0, 0)), Im 6 (.slice pp2 L6.length cc3) L6.length (L6.flatMap itCell), itsA L6, Im 4 (.slice pp4 Ps7.length cc5) Ps7.length (Ps7.flatMap pcCell), pcA Ps7]) H40)
    have H42 : St W w38 (RnA g s :: (F.set i emp)) := (H41.drop 1 rfl)
    exact ⟨congrArg Value.bool (whole_no (by first | omega | (have hk9 := pv_k hP9 (by omega); omega))).symm, St.back_same hi H42⟩
set_option maxHeartbeats 4000000 in
set_option maxRecDepth 100000 in
theorem Rn_Arrive {W w : World} {F : List Atom} (g : Nat) (s : LdS) (x : ItemD) (hs : LOk s) (hok : bsOk x.bs) {i : Nat} (hi : F[i]? = some (RnA g s)) {ip : Nat} (hp : F[ip]? = some (Im 6 (.slice x.p x.bs.length x.c) x.bs.length (x.bs.flatMap bndCell))) {iq : Nat} (hq : F[iq]? = some (bndsA x.bs)) (H : St W w F) : Calls Try.prog 23 #[.pointer (some ⟨g, 0, none⟩), .agg #[.int .i64 x.op.v, .int .i64 x.inp.v, .int .i64 x.ep.v, .int .i64 x.kind.v, .slice x.p x.bs.length x.c, .int .i64 x.t.v]] w (Ret fun v w' => v = .int .i64 (arE s x) ∧ St W w' (F.set i (RnA g (arS s x)))) := by
  have H0 := ((H.dup hp (Im_pers _ _ _ _)).dup (i := iq + 1) (by exact hq) (bndsA_pers _)).front (i := i + 2) (by exact hi)
  have H1 : St W w (RnA g s :: bndsA x.bs :: Im 6 (.slice x.p x.bs.length x.c) x.bs.length (x.bs.flatMap bndCell) :: (F.set i emp)) := H0
  have hvl := hs.vl
  refine calls_of_go (n := 40) Try.func23 rfl Try.ntmps23 rfl ?_
  refine g_seq ?_
  refine g_region ?_
  refine r_cons (s_box H1 32 (.agg #[.int .i64 x.op.v, .int .i64 x.inp.v, .int .i64 x.ep.v, .int .i64 x.kind.v, .slice x.p x.bs.length x.c, .int .i64 x.t.v]) rfl (cs := #[.int .i64 x.op.v, .int .i64 x.inp.v, .int .i64 x.ep.v, .int .i64 x.kind.v, .slice x.p x.bs.length x.c, .int .i64 x.t.v]) rfl rfl ?_); intro bk2 w3 H4
  refine r_cons (s_assign (.int .i64 0) rfl rfl ?_)
  refine r_nil ?_
  refine g_seq ?_
  refine g_seq ?_
  refine g_region ?_
  refine r_cons (s_move (.pointer (some ⟨g, 0, none⟩)) rfl rfl ?_)
  refine r_cons (s_nilCheck (.pointer (some ⟨g, 0, none⟩)) rfl ⟨_, rfl⟩ rfl ?_)
  refine r_cons (s_fieldAddr 62 3 3 3 4 rfl fi_62_3 rfl rfl ?_)
  have H5 := H4.move 1 rfl
  obtain ⟨⟨pp6, cc7, pp8, cc9, L10, Ps11, hL12, hP13⟩, H14⟩ := St.open_ex H5
  have H15 := St.open_star H14
  have hpl := pv_len hP13
  have hlw := lw_len hL12
  have H16 : St W w3 (blk g (.cells #[.int .i64 s.op.v, .slice pp6 L10.length cc7, .slice pp8 Ps11.length cc9, .bool s.ov] 62 (0, 0)) :: Im 6 (.slice pp6 L10.length cc7) L10.length (L10.flatMap itCell) :: itsA L10 :: Im 4 (.slice pp8 Ps11.length cc9) Ps11.length (Ps11.flatMap pcCell) :: pcA Ps11 :: blk bk2 (.cells #[.int .i64 x.op.v, .int .i64 x.inp.v, .int .i64 x.ep.v, .int .i64 x.kind.v, .slice x.p x.bs.length x.c, .int .i64 x.t.v] 32 (0, 0)) :: bndsA x.bs :: Im 6 (.slice x.p x.bs.length x.c) x.bs.length (x.bs.flatMap bndCell) :: (F.set i emp)) := H15
  refine r_cons (s_load (.bool s.ov) ag_4 rfl (H16.blk_at (i := 0) rfl) rfl rfl ?_)
  refine r_nil ?_
  by_cases hb17 : (s.ov) = true
  · skip
    refine g_true (congrArg Value.bool hb17) ?_
    refine g_seq ?_
    refine g_region ?_
    refine r_cons (s_assign (.int .i64 241) rfl rfl ?_)
    refine r_nil ?_
    refine g_ret' [.int .i64 241] Try.func23 Try.results23 ⟨rfl, trivial⟩ ?_
    have H18 : St W w3 (RnA g s :: blk bk2 (.cells #[.int .i64 x.op.v, .int .i64 x.inp.v, .int .i64 x.ep.v, .int .i64 x.kind.v, .slice x.p x.bs.length x.c, .int .i64 x.t.v] 32 (0, 0)) :: bndsA x.bs :: Im 6 (.slice x.p x.bs.length x.c) x.bs.length (x.bs.flatMap bndCell) :: (F.set i emp)) := St.shut_ex (⟨pp6, cc7, pp8, cc9, L10, Ps11, hL12, hP13⟩ : RnX s) (St.shut_star (ls := [blk g (.cells #[.int .i64 s.op.v, .slice pp6 L10.length cc7, .slice pp8 Ps11.length cc9, .bool s.ov] 62 (0, 0)), Im 6 (.slice pp6 L10.length cc7) L10.length (L10.flatMap itCell), itsA L10, Im 4 (.slice pp8 Ps11.length cc9) Ps11.length (Ps11.flatMap pcCell), pcA Ps11]) H16)
    have H19 : St W w3 (RnA g s :: (F.set i emp)) := (((H18.drop 1 rfl).drop 1 rfl).drop 1 rfl)
    have hE9 : arE s x = 241 := ar_1 hb17
    have hE0 : ¬ arE s x = 0 := by rw [hE9]; first | assumption | decide
    exact ⟨by rw [hE9]; rfl, by rw [arS_no hE0]; exact St.back hi H19⟩
  · have hb17 := eq_false_of_ne_true hb17
    refine g_false (congrArg Value.bool hb17) ?_
    refine g_skip ?_
    refine g_seq ?_
    refine g_seq ?_
    refine g_region ?_
    refine r_cons (s_loadAgg [.int .i64 x.op.v, .int .i64 x.inp.v, .int .i64 x.ep.v, .int .i64 x.kind.v, .slice x.p x.bs.length x.c, .int .i64 x.t.v] 6 ag_32 rfl (H16.blk_at (i := 5) rfl) (Nat.le_of_ble_eq_true rfl) rfl rfl ?_)
    refine r_cons (s_call [.agg #[.int .i64 x.op.v, .int .i64 x.inp.v, .int .i64 x.ep.v, .int .i64 x.kind.v, .slice x.p x.bs.length x.c, .int .i64 x.t.v]] pl_11 rfl rfl (ref24_CheckItem x (ip := 7) rfl (iq := 6) rfl H16) ?_)
    rintro _ w20 ⟨rfl, H21⟩
    refine r_cons (s_assign (.int .i64 (itE x)) rfl rfl ?_)
    refine r_nil ?_
    refine g_seq ?_
    refine g_region ?_
    refine r_cons (s_move (.int .i64 (itE x)) rfl rfl ?_)
    by_cases hc22 : itE x = 0
    · skip
      refine r_cons (s_neq false rfl rfl (ntrue hc22) rfl ?_)
      refine r_nil ?_
      refine g_false rfl ?_
      refine g_skip ?_
      refine g_seq ?_
      refine g_seq ?_
      refine g_quiet (fun w' => St W w' (blk g (.cells #[.int .i64 s.op.v, .slice pp6 L10.length cc7, .slice pp8 Ps11.length cc9, .bool s.ov] 62 (0, 0)) :: Im 6 (.slice pp6 L10.length cc7) L10.length (L10.flatMap itCell) :: itsA L10 :: Im 4 (.slice pp8 Ps11.length cc9) Ps11.length (Ps11.flatMap pcCell) :: pcA Ps11 :: blk bk2 (.cells #[.int .i64 x.op.v, .int .i64 x.inp.v, .int .i64 x.ep.v, .int .i64 x.kind.v, .slice x.p x.bs.length x.c, .int .i64 x.t.v] 32 (0, 0)) :: bndsA x.bs :: Im 6 (.slice x.p x.bs.length x.c) x.bs.length (x.bs.flatMap bndCell) :: (F.set i emp))) mixed (by kernel_rfl) H21.drew ?_
      refine q_cons (q_val rfl rfl rfl (by intro w hw; exact x_fieldAddr 32 0 0 0 3 rfl fi_32_0 rfl w) ?_)
      refine q_cons (q_val rfl rfl rfl (by intro w hw; exact x_load (.int .i64 x.op.v) ag_3 rfl (hw.blk_at (i := 5) rfl) rfl) ?_)
      refine q_cons (q_val rfl rfl rfl (by intro w hw; exact x_move (.pointer (some ⟨g, 0, none⟩)) rfl w) ?_)
      refine q_cons (q_val rfl rfl rfl (by intro w hw; exact x_nilCheck (.pointer (some ⟨g, 0, none⟩)) rfl ⟨_, rfl⟩ w) ?_)
      refine q_cons (q_val rfl rfl rfl (by intro w hw; exact x_fieldAddr 62 0 0 0 3 rfl fi_62_0 rfl w) ?_)
      refine q_cons (q_val rfl rfl rfl (by intro w hw; exact x_load (.int .i64 s.op.v) ag_3 rfl (hw.blk_at (i := 0) rfl) rfl) ?_)
      by_cases hc23 : x.op.v = s.op.v
      · skip
        refine q_cons (q_val rfl rfl rfl (by intro w hw; exact x_neq false rfl rfl (ntrue hc23) w) ?_)
        refine q_nil ?_
        intro w24 H25
        refine g_false rfl ?_
        refine g_skip ?_
        refine g_seq ?_
        refine g_seq ?_
        refine g_region ?_
        refine r_cons (s_move (.pointer (some ⟨g, 0, none⟩)) rfl rfl ?_)
        refine r_cons (s_nilCheck (.pointer (some ⟨g, 0, none⟩)) rfl ⟨_, rfl⟩ rfl ?_)
        refine r_cons (s_fieldAddr 62 1 1 1 22 rfl fi_62_1 rfl rfl ?_)
        refine r_cons (s_load (.slice pp6 L10.length cc7) ag_22 rfl (H25.blk_at (i := 0) rfl) rfl rfl ?_)
        refine r_cons (s_len L10.length rfl ⟨_, un_22⟩ rfl ?_)
        by_cases hc26 : (4096 : Int) ≤ (L10.length : Int)
        · skip
          refine r_cons (s_geq true rfl rfl (dtrue hc26) rfl ?_)
          refine r_nil ?_
          refine g_true rfl ?_
          refine g_seq ?_
          refine g_region ?_
          refine r_cons (s_assign (.int .i64 6) rfl rfl ?_)
          refine r_nil ?_
          refine g_ret' [.int .i64 6] Try.func23 Try.results23 ⟨rfl, trivial⟩ ?_
          have H27 : St W w24 (RnA g s :: blk bk2 (.cells #[.int .i64 x.op.v, .int .i64 x.inp.v, .int .i64 x.ep.v, .int .i64 x.kind.v, .slice x.p x.bs.length x.c, .int .i64 x.t.v] 32 (0, 0)) :: bndsA x.bs :: Im 6 (.slice x.p x.bs.length x.c) x.bs.length (x.bs.flatMap bndCell) :: (F.set i emp)) := St.shut_ex (⟨pp6, cc7, pp8, cc9, L10, Ps11, hL12, hP13⟩ : RnX s) (St.shut_star (ls := [blk g (.cells #[.int .i64 s.op.v, .slice pp6 L10.length cc7, .slice pp8 Ps11.length cc9, .bool s.ov] 62 (0, 0)), Im 6 (.slice pp6 L10.length cc7) L10.length (L10.flatMap itCell), itsA L10, Im 4 (.slice pp8 Ps11.length cc9) Ps11.length (Ps11.flatMap pcCell), pcA Ps11]) H25)
          have H28 : St W w24 (RnA g s :: (F.set i emp)) := (((H27.drop 1 rfl).drop 1 rfl).drop 1 rfl)
          have hov : s.ov = false := hb17
          have hll := it_len (lw_f hov hL12)
          have hE9 : arE s x = 6 := by first | exact ar_2 hov (by assumption) | exact ar_3 hov (by assumption) (by assumption) | exact ar_4 hov (by assumption) (by omega) (by omega)
          have hE0 : ¬ arE s x = 0 := by rw [hE9]; first | assumption | decide
          exact ⟨by rw [hE9]; rfl, by rw [arS_no hE0]; exact St.back hi H28⟩
        · skip
          refine r_cons (s_geq false rfl rfl (dfalse hc26) rfl ?_)
          refine r_nil ?_
          refine g_false rfl ?_
          refine g_skip ?_
          refine g_seq ?_
          have H29 : St W w24 (Im 6 (.slice pp6 L10.length cc7) L10.length (L10.flatMap itCell) :: itsA L10 :: Im 4 (.slice pp8 Ps11.length cc9) Ps11.length (Ps11.flatMap pcCell) :: pcA Ps11 :: blk bk2 (.cells #[.int .i64 x.op.v, .int .i64 x.inp.v, .int .i64 x.ep.v, .int .i64 x.kind.v, .slice x.p x.bs.length x.c, .int .i64 x.t.v] 32 (0, 0)) :: bndsA x.bs :: Im 6 (.slice x.p x.bs.length x.c) x.bs.length (x.bs.flatMap bndCell) :: blk g (.cells #[.int .i64 s.op.v, .slice pp6 L10.length cc7, .slice pp8 Ps11.length cc9, .bool s.ov] 62 (0, 0)) :: (F.set i emp)) := (((((((H25.move 7 rfl).move 7 rfl).move 7 rfl).move 7 rfl).move 7 rfl).move 7 rfl).move 7 rfl)
          refine g_mix (fun t_ w => St W w (Im 6 (.slice pp6 L10.length cc7) L10.length (L10.flatMap itCell) :: itsA L10 :: Im 4 (.slice pp8 Ps11.length cc9) Ps11.length (Ps11.flatMap pcCell) :: pcA Ps11 :: blk bk2 (.cells #[.int .i64 x.op.v, .int .i64 x.inp.v, .int .i64 x.ep.v, .int .i64 x.kind.v, .slice x.p x.bs.length x.c, .int .i64 x.t.v] 32 (0, 0)) :: bndsA x.bs :: Im 6 (.slice x.p x.bs.length x.c) x.bs.length (x.bs.flatMap bndCell) :: t_)) (blk g (.cells #[.int .i64 s.op.v, .slice pp6 L10.length cc7, .slice pp8 Ps11.length cc9, .bool s.ov] 62 (0, 0)) :: (F.set i emp)) mixed 13 rfl H29.drew ?_
          refine f_first 0 (listed' := #[true, false, false, false, false, false, false, false, false, false, false, false, false]) rfl (by kernel_rfl) (by kernel_rfl) (by kernel_rfl) rfl ?_
          refine f_val rfl rfl rfl (by intro t_ w hw; exact x_move (.pointer (some ⟨g, 0, none⟩)) rfl w) ?_
          refine f_first 1 (listed' := #[true, true, false, false, false, false, false, false, false, false, false, false, false]) rfl (by kernel_rfl) (by kernel_rfl) (by kernel_rfl) rfl ?_
          refine f_val rfl rfl rfl (by intro t_ w hw; exact x_move (.pointer (some ⟨g, 0, none⟩)) rfl w) ?_
          refine f_first 2 (listed' := #[true, true, true, false, false, false, false, false, false, false, false, false, false]) rfl (by kernel_rfl) (by kernel_rfl) (by kernel_rfl) rfl ?_
          refine f_val rfl rfl rfl (by intro t_ w hw; exact x_nilCheck (.pointer (some ⟨g, 0, none⟩)) rfl ⟨_, rfl⟩ w) ?_
          refine f_first 3 (listed' := #[true, true, true, true, false, false, false, false, false, false, false, false, false]) rfl (by kernel_rfl) (by kernel_rfl) (by kernel_rfl) rfl ?_
          refine f_val rfl rfl rfl (by intro t_ w hw; exact x_fieldAddr 62 1 1 1 22 rfl fi_62_1 rfl w) ?_
          refine f_first 6 (listed' := #[true, true, true, true, false, false, true, false, false, false, false, false, false]) rfl (by kernel_rfl) (by kernel_rfl) (by kernel_rfl) rfl ?_
          refine f_val rfl rfl rfl (by intro t_ w hw; exact x_loadAgg [.int .i64 x.op.v, .int .i64 x.inp.v, .int .i64 x.ep.v, .int .i64 x.kind.v, .slice x.p x.bs.length x.c, .int .i64 x.t.v] 6 ag_32 rfl (hw.blk_at (i := 4) rfl) (Nat.le_of_ble_eq_true rfl) rfl) ?_
          refine f_all (rs := [4]) (by kernel_rfl) (by simp) ?_
          refine a_cons ⟨_, rfl, ?_⟩ (fun x hx => absurd hx (by simp))
          intro w30 H31
          try dsimp only at H31
          refine s_load (.slice pp6 L10.length cc7) ag_22 rfl (H31.blk_at (i := 7) rfl) rfl rfl ?_
          refine ⟨blk g (.cells #[.int .i64 s.op.v, .slice pp6 L10.length cc7, .slice pp8 Ps11.length cc9, .bool s.ov] 62 (0, 0)) :: (F.set i emp), ?_, H31⟩
          change FReg _ _ _ _ _ #[true, true, true, true, true, false, true, false, false, false, false, false, false] _ _
          refine f_all (rs := [5]) (by kernel_rfl) (by simp) ?_
          refine a_cons ⟨_, rfl, ?_⟩ (fun x hx => absurd hx (by simp))
          intro w32 H33
          try dsimp only at H33
          have H34 := Row.nil_intro H33 32 6
          refine s_append H34 0 rfl rfl rfl (Im.rd H34 (i := 1) rfl) ap_22 (by decide) (by unfold maxLen; omega) (by omega) (n' := L10.length) (xs' := L10.flatMap itCell) (by omega) (by first | rfl | simp) rfl ?_; intro vv35 w36 H37 hn38
          obtain ⟨pp39, cc40, rfl⟩ := Row.slice H37 (i := 0) rfl
          have H41 : St W w36 (Im 6 (.slice pp6 L10.length cc7) L10.length (L10.flatMap itCell) :: itsA L10 :: Im 4 (.slice pp8 Ps11.length cc9) Ps11.length (Ps11.flatMap pcCell) :: pcA Ps11 :: blk bk2 (.cells #[.int .i64 x.op.v, .int .i64 x.inp.v, .int .i64 x.ep.v, .int .i64 x.kind.v, .slice x.p x.bs.length x.c, .int .i64 x.t.v] 32 (0, 0)) :: bndsA x.bs :: Im 6 (.slice x.p x.bs.length x.c) x.bs.length (x.bs.flatMap bndCell) :: Row 32 6 (.slice pp39 L10.length cc40) L10.length (L10.flatMap itCell) :: blk g (.cells #[.int .i64 s.op.v, .slice pp6 L10.length cc7, .slice pp8 Ps11.length cc9, .bool s.ov] 62 (0, 0)) :: (F.set i emp)) := (((((((((H37.move 8 rfl).move 1 rfl).move 8 rfl).move 8 rfl).move 8 rfl).move 8 rfl).move 8 rfl).move 8 rfl).move 8 rfl)
          refine ⟨Row 32 6 (.slice pp39 L10.length cc40) L10.length (L10.flatMap itCell) :: blk g (.cells #[.int .i64 s.op.v, .slice pp6 L10.length cc7, .slice pp8 Ps11.length cc9, .bool s.ov] 62 (0, 0)) :: (F.set i emp), ?_, H41⟩
          change FReg _ _ _ _ _ #[true, true, true, true, true, true, true, false, false, false, false, false, false] _ _
          refine f_all (rs := [7]) (by kernel_rfl) (by simp) ?_
          refine a_cons ⟨_, rfl, ?_⟩ (fun x hx => absurd hx (by simp))
          intro w42 H43
          try dsimp only at H43
          refine s_call [.agg #[.int .i64 x.op.v, .int .i64 x.inp.v, .int .i64 x.ep.v, .int .i64 x.kind.v, .slice x.p x.bs.length x.c, .int .i64 x.t.v]] pl_75 rfl rfl (ref24_Clone x hok (ip := 6) rfl (iq := 5) rfl H43) ?_
          rintro _ w46 ⟨it44, rfl, hy45, H47⟩
          have H48 : St W w46 (Im 6 (.slice x.p x.bs.length x.c) x.bs.length (x.bs.flatMap bndCell) :: Im 6 (.slice it44.p it44.bs.length it44.c) it44.bs.length (it44.bs.flatMap bndCell) :: bndsA it44.bs :: Row 32 6 (.slice pp39 L10.length cc40) L10.length (L10.flatMap itCell) :: blk g (.cells #[.int .i64 s.op.v, .slice pp6 L10.length cc7, .slice pp8 Ps11.length cc9, .bool s.ov] 62 (0, 0)) :: Im 6 (.slice pp6 L10.length cc7) L10.length (L10.flatMap itCell) :: itsA L10 :: Im 4 (.slice pp8 Ps11.length cc9) Ps11.length (Ps11.flatMap pcCell) :: pcA Ps11 :: blk bk2 (.cells #[.int .i64 x.op.v, .int .i64 x.inp.v, .int .i64 x.ep.v, .int .i64 x.kind.v, .slice x.p x.bs.length x.c, .int .i64 x.t.v] 32 (0, 0)) :: bndsA x.bs :: (F.set i emp)) := (((((H47.move 10 rfl).move 10 rfl).move 3 rfl).move 3 rfl).move 10 rfl)
          have H49 : St W w46 (itsA L10 :: Im 4 (.slice pp8 Ps11.length cc9) Ps11.length (Ps11.flatMap pcCell) :: pcA Ps11 :: blk bk2 (.cells #[.int .i64 x.op.v, .int .i64 x.inp.v, .int .i64 x.ep.v, .int .i64 x.kind.v, .slice x.p x.bs.length x.c, .int .i64 x.t.v] 32 (0, 0)) :: bndsA x.bs :: Im 6 (.slice x.p x.bs.length x.c) x.bs.length (x.bs.flatMap bndCell) :: Im 6 (.slice it44.p it44.bs.length it44.c) it44.bs.length (it44.bs.flatMap bndCell) :: bndsA it44.bs :: Row 32 6 (.slice pp39 L10.length cc40) L10.length (L10.flatMap itCell) :: blk g (.cells #[.int .i64 s.op.v, .slice pp6 L10.length cc7, .slice pp8 Ps11.length cc9, .bool s.ov] 62 (0, 0)) :: Im 6 (.slice pp6 L10.length cc7) L10.length (L10.flatMap itCell) :: (F.set i emp)) := (((((H48.move 10 rfl).move 10 rfl).move 10 rfl).move 10 rfl).move 10 rfl)
          have H50 : St W w46 (Im 6 (.slice pp6 L10.length cc7) L10.length (L10.flatMap itCell) :: itsA L10 :: Im 4 (.slice pp8 Ps11.length cc9) Ps11.length (Ps11.flatMap pcCell) :: pcA Ps11 :: blk bk2 (.cells #[.int .i64 x.op.v, .int .i64 x.inp.v, .int .i64 x.ep.v, .int .i64 x.kind.v, .slice x.p x.bs.length x.c, .int .i64 x.t.v] 32 (0, 0)) :: bndsA x.bs :: Im 6 (.slice x.p x.bs.length x.c) x.bs.length (x.bs.flatMap bndCell) :: Im 6 (.slice it44.p it44.bs.length it44.c) it44.bs.length (it44.bs.flatMap bndCell) :: bndsA it44.bs :: Row 32 6 (.slice pp39 L10.length cc40) L10.length (L10.flatMap itCell) :: blk g (.cells #[.int .i64 s.op.v, .slice pp6 L10.length cc7, .slice pp8 Ps11.length cc9, .bool s.ov] 62 (0, 0)) :: (F.set i emp)) := (H49.move 10 rfl)
          refine ⟨Im 6 (.slice it44.p it44.bs.length it44.c) it44.bs.length (it44.bs.flatMap bndCell) :: bndsA it44.bs :: Row 32 6 (.slice pp39 L10.length cc40) L10.length (L10.flatMap itCell) :: blk g (.cells #[.int .i64 s.op.v, .slice pp6 L10.length cc7, .slice pp8 Ps11.length cc9, .bool s.ov] 62 (0, 0)) :: (F.set i emp), ?_, H50⟩
          change FReg _ _ _ _ _ #[true, true, true, true, true, true, true, true, false, false, false, false, false] _ _
          refine f_all (rs := [8]) (by kernel_rfl) (by simp) ?_
          refine a_cons ⟨_, rfl, ?_⟩ (fun x hx => absurd hx (by simp))
          intro w51 H52
          try dsimp only at H52
          refine s_buildSlice H52 6 1 (cs := #[.int .i64 it44.op.v, .int .i64 it44.inp.v, .int .i64 it44.ep.v, .int .i64 it44.kind.v, .slice it44.p it44.bs.length it44.c, .int .i64 it44.t.v]) #[.int .i64 0, .int .i64 0, .int .i64 0, .int .i64 0, .slice none 0 0, .int .i64 0] el_22 ze_32 (by decide) (by decide) (by kernel_rfl) rfl ?_; intro bk53 w54 H55
          have H56 : St W w54 (blk bk53 (.cells #[.int .i64 it44.op.v, .int .i64 it44.inp.v, .int .i64 it44.ep.v, .int .i64 it44.kind.v, .slice it44.p it44.bs.length it44.c, .int .i64 it44.t.v] 32 (0, 0)) :: Im 6 (.slice it44.p it44.bs.length it44.c) it44.bs.length (it44.bs.flatMap bndCell) :: bndsA it44.bs :: Row 32 6 (.slice pp39 L10.length cc40) L10.length (L10.flatMap itCell) :: blk g (.cells #[.int .i64 s.op.v, .slice pp6 L10.length cc7, .slice pp8 Ps11.length cc9, .bool s.ov] 62 (0, 0)) :: Im 6 (.slice pp6 L10.length cc7) L10.length (L10.flatMap itCell) :: itsA L10 :: Im 4 (.slice pp8 Ps11.length cc9) Ps11.length (Ps11.flatMap pcCell) :: pcA Ps11 :: blk bk2 (.cells #[.int .i64 x.op.v, .int .i64 x.inp.v, .int .i64 x.ep.v, .int .i64 x.kind.v, .slice x.p x.bs.length x.c, .int .i64 x.t.v] 32 (0, 0)) :: bndsA x.bs :: Im 6 (.slice x.p x.bs.length x.c) x.bs.length (x.bs.flatMap bndCell) :: (F.set i emp)) := (((((H55.move 11 rfl).move 11 rfl).move 11 rfl).move 11 rfl).move 4 rfl)
          have H57 : St W w54 (Im 4 (.slice pp8 Ps11.length cc9) Ps11.length (Ps11.flatMap pcCell) :: pcA Ps11 :: blk bk2 (.cells #[.int .i64 x.op.v, .int .i64 x.inp.v, .int .i64 x.ep.v, .int .i64 x.kind.v, .slice x.p x.bs.length x.c, .int .i64 x.t.v] 32 (0, 0)) :: bndsA x.bs :: Im 6 (.slice x.p x.bs.length x.c) x.bs.length (x.bs.flatMap bndCell) :: blk bk53 (.cells #[.int .i64 it44.op.v, .int .i64 it44.inp.v, .int .i64 it44.ep.v, .int .i64 it44.kind.v, .slice it44.p it44.bs.length it44.c, .int .i64 it44.t.v] 32 (0, 0)) :: Im 6 (.slice it44.p it44.bs.length it44.c) it44.bs.length (it44.bs.flatMap bndCell) :: bndsA it44.bs :: Row 32 6 (.slice pp39 L10.length cc40) L10.length (L10.flatMap itCell) :: blk g (.cells #[.int .i64 s.op.v, .slice pp6 L10.length cc7, .slice pp8 Ps11.length cc9, .bool s.ov] 62 (0, 0)) :: Im 6 (.slice pp6 L10.length cc7) L10.length (L10.flatMap itCell) :: itsA L10 :: (F.set i emp)) := (((((H56.move 11 rfl).move 11 rfl).move 11 rfl).move 11 rfl).move 11 rfl)
          have H58 : St W w54 (Im 6 (.slice pp6 L10.length cc7) L10.length (L10.flatMap itCell) :: itsA L10 :: Im 4 (.slice pp8 Ps11.length cc9) Ps11.length (Ps11.flatMap pcCell) :: pcA Ps11 :: blk bk2 (.cells #[.int .i64 x.op.v, .int .i64 x.inp.v, .int .i64 x.ep.v, .int .i64 x.kind.v, .slice x.p x.bs.length x.c, .int .i64 x.t.v] 32 (0, 0)) :: bndsA x.bs :: Im 6 (.slice x.p x.bs.length x.c) x.bs.length (x.bs.flatMap bndCell) :: blk bk53 (.cells #[.int .i64 it44.op.v, .int .i64 it44.inp.v, .int .i64 it44.ep.v, .int .i64 it44.kind.v, .slice it44.p it44.bs.length it44.c, .int .i64 it44.t.v] 32 (0, 0)) :: Im 6 (.slice it44.p it44.bs.length it44.c) it44.bs.length (it44.bs.flatMap bndCell) :: bndsA it44.bs :: Row 32 6 (.slice pp39 L10.length cc40) L10.length (L10.flatMap itCell) :: blk g (.cells #[.int .i64 s.op.v, .slice pp6 L10.length cc7, .slice pp8 Ps11.length cc9, .bool s.ov] 62 (0, 0)) :: (F.set i emp)) := ((H57.move 11 rfl).move 11 rfl)
          refine ⟨blk bk53 (.cells #[.int .i64 it44.op.v, .int .i64 it44.inp.v, .int .i64 it44.ep.v, .int .i64 it44.kind.v, .slice it44.p it44.bs.length it44.c, .int .i64 it44.t.v] 32 (0, 0)) :: Im 6 (.slice it44.p it44.bs.length it44.c) it44.bs.length (it44.bs.flatMap bndCell) :: bndsA it44.bs :: Row 32 6 (.slice pp39 L10.length cc40) L10.length (L10.flatMap itCell) :: blk g (.cells #[.int .i64 s.op.v, .slice pp6 L10.length cc7, .slice pp8 Ps11.length cc9, .bool s.ov] 62 (0, 0)) :: (F.set i emp), ?_, H58⟩
          change FReg _ _ _ _ _ #[true, true, true, true, true, true, true, true, true, false, false, false, false] _ _
          refine f_all (rs := [9]) (by kernel_rfl) (by simp) ?_
          refine a_cons ⟨_, rfl, ?_⟩ (fun x hx => absurd hx (by simp))
          intro w59 H60
          try dsimp only at H60
          refine s_append H60 10 rfl rfl rfl (rd_blk (H60.blk_at (i := 7) rfl) rfl (Nat.le_of_ble_eq_true rfl) (by simp [Value.oneCell'])) ap_22 (by decide) (by unfold maxLen; omega) (by omega) (n' := L10.length + 1) (xs' := L10.flatMap itCell ++ ([.int .i64 it44.op.v, .int .i64 it44.inp.v, .int .i64 it44.ep.v, .int .i64 it44.kind.v, .slice it44.p it44.bs.length it44.c, .int .i64 it44.t.v] : List Value)) (by omega) (by first | rfl | simp) rfl ?_; intro vv61 w62 H63 hn64
          obtain ⟨pp65, cc66, rfl⟩ := Row.slice H63 (i := 10) rfl
          refine ⟨blk bk53 (.cells #[.int .i64 it44.op.v, .int .i64 it44.inp.v, .int .i64 it44.ep.v, .int .i64 it44.kind.v, .slice it44.p it44.bs.length it44.c, .int .i64 it44.t.v] 32 (0, 0)) :: Im 6 (.slice it44.p it44.bs.length it44.c) it44.bs.length (it44.bs.flatMap bndCell) :: bndsA it44.bs :: Row 32 6 (.slice pp65 (L10.length + 1) cc66) (L10.length + 1) (L10.flatMap itCell ++ ([.int .i64 it44.op.v, .int .i64 it44.inp.v, .int .i64 it44.ep.v, .int .i64 it44.kind.v, .slice it44.p it44.bs.length it44.c, .int .i64 it44.t.v] : List Value)) :: blk g (.cells #[.int .i64 s.op.v, .slice pp6 L10.length cc7, .slice pp8 Ps11.length cc9, .bool s.ov] 62 (0, 0)) :: (F.set i emp), ?_, H63⟩
          change FReg _ _ _ _ _ #[true, true, true, true, true, true, true, true, true, true, false, false, false] _ _
          refine f_first 10 (listed' := #[true, true, true, true, true, true, true, true, true, true, true, false, false]) rfl (by kernel_rfl) (by kernel_rfl) (by kernel_rfl) rfl ?_
          refine f_val rfl rfl rfl (by intro t_ w hw; exact x_nilCheck (.pointer (some ⟨g, 0, none⟩)) rfl ⟨_, rfl⟩ w) ?_
          refine f_first 11 (listed' := #[true, true, true, true, true, true, true, true, true, true, true, true, false]) rfl (by kernel_rfl) (by kernel_rfl) (by kernel_rfl) rfl ?_
          refine f_val rfl rfl rfl (by intro t_ w hw; exact x_fieldAddr 62 1 1 1 22 rfl fi_62_1 rfl w) ?_
          refine f_all (rs := [12]) (by kernel_rfl) (by simp) ?_
          refine a_cons ⟨_, rfl, ?_⟩ (fun x hx => absurd hx (by simp))
          intro w67 H68
          try dsimp only at H68
          refine s_store H68 11 (.slice pp65 (L10.length + 1) cc66) rfl rfl rfl sz_22 rfl (Nat.le_of_ble_eq_true rfl) rfl (cs' := #[.int .i64 s.op.v, .slice pp65 (L10.length + 1) cc66, .slice pp8 Ps11.length cc9, .bool s.ov]) rfl ?_; intro w69 H70
          refine ⟨blk bk53 (.cells #[.int .i64 it44.op.v, .int .i64 it44.inp.v, .int .i64 it44.ep.v, .int .i64 it44.kind.v, .slice it44.p it44.bs.length it44.c, .int .i64 it44.t.v] 32 (0, 0)) :: Im 6 (.slice it44.p it44.bs.length it44.c) it44.bs.length (it44.bs.flatMap bndCell) :: bndsA it44.bs :: Row 32 6 (.slice pp65 (L10.length + 1) cc66) (L10.length + 1) (L10.flatMap itCell ++ ([.int .i64 it44.op.v, .int .i64 it44.inp.v, .int .i64 it44.ep.v, .int .i64 it44.kind.v, .slice it44.p it44.bs.length it44.c, .int .i64 it44.t.v] : List Value)) :: blk g (.cells #[.int .i64 s.op.v, .slice pp65 (L10.length + 1) cc66, .slice pp8 Ps11.length cc9, .bool s.ov] 62 (0, 0)) :: (F.set i emp), ?_, H70⟩
          change FReg _ _ _ _ _ #[true, true, true, true, true, true, true, true, true, true, true, true, true] _ _
          refine f_done (by kernel_rfl) ?_
          intro w71 H72
          refine g_seq ?_
          refine g_region ?_
          refine r_cons (s_assign (.int .i64 0) rfl rfl ?_)
          refine r_nil ?_
          refine g_ret' [.int .i64 0] Try.func23 Try.results23 ⟨rfl, trivial⟩ ?_
          have hov : s.ov = false := hb17
          have hll := it_len (lw_f hov hL12)
          have hE9 : arE s x = 0 := ar_5 hov (by assumption) (by omega) (by omega)
          have H73 : St W w71 (Im 6 (.slice pp6 L10.length cc7) L10.length (L10.flatMap itCell) :: itsA L10 :: Im 4 (.slice pp8 Ps11.length cc9) Ps11.length (Ps11.flatMap pcCell) :: pcA Ps11 :: blk bk2 (.cells #[.int .i64 x.op.v, .int .i64 x.inp.v, .int .i64 x.ep.v, .int .i64 x.kind.v, .slice x.p x.bs.length x.c, .int .i64 x.t.v] 32 (0, 0)) :: bndsA x.bs :: Im 6 (.slice x.p x.bs.length x.c) x.bs.length (x.bs.flatMap bndCell) :: blk bk53 (.cells #[.int .i64 it44.op.v, .int .i64 it44.inp.v, .int .i64 it44.ep.v, .int .i64 it44.kind.v, .slice it44.p it44.bs.length it44.c, .int .i64 it44.t.v] 32 (0, 0)) :: Im 6 (.slice it44.p it44.bs.length it44.c) it44.bs.length (it44.bs.flatMap bndCell) :: bndsA it44.bs :: Row 32 6 (.slice pp65 ((L10 ++ [it44]).length) cc66) ((L10 ++ [it44]).length) ((L10 ++ [it44]).flatMap itCell) :: blk g (.cells #[.int .i64 s.op.v, .slice pp65 ((L10 ++ [it44]).length) cc66, .slice pp8 Ps11.length cc9, .bool s.ov] 62 (0, 0)) :: (F.set i emp)) := by rw [List.flatMap_append, List.length_append]; exact H72
          have H74 : St W w71 (Im 6 (.slice pp6 L10.length cc7) L10.length (L10.flatMap itCell) :: itsA L10 :: Im 4 (.slice pp8 Ps11.length cc9) Ps11.length (Ps11.flatMap pcCell) :: pcA Ps11 :: blk bk2 (.cells #[.int .i64 x.op.v, .int .i64 x.inp.v, .int .i64 x.ep.v, .int .i64 x.kind.v, .slice x.p x.bs.length x.c, .int .i64 x.t.v] 32 (0, 0)) :: bndsA x.bs :: Im 6 (.slice x.p x.bs.length x.c) x.bs.length (x.bs.flatMap bndCell) :: blk bk53 (.cells #[.int .i64 it44.op.v, .int .i64 it44.inp.v, .int .i64 it44.ep.v, .int .i64 it44.kind.v, .slice it44.p it44.bs.length it44.c, .int .i64 it44.t.v] 32 (0, 0)) :: Im 6 (.slice it44.p it44.bs.length it44.c) it44.bs.length (it44.bs.flatMap bndCell) :: bndsA it44.bs :: Im 6 (.slice pp65 ((L10 ++ [it44]).length) cc66) ((L10 ++ [it44]).length) ((L10 ++ [it44]).flatMap itCell) :: blk g (.cells #[.int .i64 s.op.v, .slice pp65 ((L10 ++ [it44]).length) cc66, .slice pp8 Ps11.length cc9, .bool s.ov] 62 (0, 0)) :: (F.set i emp)) := Row.im H73 (i := 10) rfl
          have H75 : St W w71 (Im 6 (.slice it44.p it44.bs.length it44.c) it44.bs.length (it44.bs.flatMap bndCell) :: bndsA it44.bs :: itsA L10 :: Im 6 (.slice pp6 L10.length cc7) L10.length (L10.flatMap itCell) :: Im 4 (.slice pp8 Ps11.length cc9) Ps11.length (Ps11.flatMap pcCell) :: pcA Ps11 :: blk bk2 (.cells #[.int .i64 x.op.v, .int .i64 x.inp.v, .int .i64 x.ep.v, .int .i64 x.kind.v, .slice x.p x.bs.length x.c, .int .i64 x.t.v] 32 (0, 0)) :: bndsA x.bs :: Im 6 (.slice x.p x.bs.length x.c) x.bs.length (x.bs.flatMap bndCell) :: blk bk53 (.cells #[.int .i64 it44.op.v, .int .i64 it44.inp.v, .int .i64 it44.ep.v, .int .i64 it44.kind.v, .slice it44.p it44.bs.length it44.c, .int .i64 it44.t.v] 32 (0, 0)) :: Im 6 (.slice pp65 ((L10 ++ [it44]).length) cc66) ((L10 ++ [it44]).length) ((L10 ++ [it44]).flatMap itCell) :: blk g (.cells #[.int .i64 s.op.v, .slice pp65 ((L10 ++ [it44]).length) cc66, .slice pp8 Ps11.length cc9, .bool s.ov] 62 (0, 0)) :: (F.set i emp)) := (((H74.move 1 rfl).move 9 rfl).move 9 rfl)
          have H76 : St W w71 (itsA (L10 ++ [it44]) :: Im 6 (.slice pp6 L10.length cc7) L10.length (L10.flatMap itCell) :: Im 4 (.slice pp8 Ps11.length cc9) Ps11.length (Ps11.flatMap pcCell) :: pcA Ps11 :: blk bk2 (.cells #[.int .i64 x.op.v, .int .i64 x.inp.v, .int .i64 x.ep.v, .int .i64 x.kind.v, .slice x.p x.bs.length x.c, .int .i64 x.t.v] 32 (0, 0)) :: bndsA x.bs :: Im 6 (.slice x.p x.bs.length x.c) x.bs.length (x.bs.flatMap bndCell) :: blk bk53 (.cells #[.int .i64 it44.op.v, .int .i64 it44.inp.v, .int .i64 it44.ep.v, .int .i64 it44.kind.v, .slice it44.p it44.bs.length it44.c, .int .i64 it44.t.v] 32 (0, 0)) :: Im 6 (.slice pp65 ((L10 ++ [it44]).length) cc66) ((L10 ++ [it44]).length) ((L10 ++ [it44]).flatMap itCell) :: blk g (.cells #[.int .i64 s.op.v, .slice pp65 ((L10 ++ [it44]).length) cc66, .slice pp8 Ps11.length cc9, .bool s.ov] 62 (0, 0)) :: (F.set i emp)) := itsA_snoc (x := it44) H75
          have H77 : St W w71 (blk g (.cells #[.int .i64 s.op.v, .slice pp65 ((L10 ++ [it44]).length) cc66, .slice pp8 Ps11.length cc9, .bool s.ov] 62 (0, 0)) :: Im 6 (.slice pp65 ((L10 ++ [it44]).length) cc66) ((L10 ++ [it44]).length) ((L10 ++ [it44]).flatMap itCell) :: itsA (L10 ++ [it44]) :: Im 4 (.slice pp8 Ps11.length cc9) Ps11.length (Ps11.flatMap pcCell) :: pcA Ps11 :: Im 6 (.slice pp6 L10.length cc7) L10.length (L10.flatMap itCell) :: blk bk2 (.cells #[.int .i64 x.op.v, .int .i64 x.inp.v, .int .i64 x.ep.v, .int .i64 x.kind.v, .slice x.p x.bs.length x.c, .int .i64 x.t.v] 32 (0, 0)) :: bndsA x.bs :: Im 6 (.slice x.p x.bs.length x.c) x.bs.length (x.bs.flatMap bndCell) :: blk bk53 (.cells #[.int .i64 it44.op.v, .int .i64 it44.inp.v, .int .i64 it44.ep.v, .int .i64 it44.kind.v, .slice it44.p it44.bs.length it44.c, .int .i64 it44.t.v] 32 (0, 0)) :: (F.set i emp)) := (((((H76.move 3 rfl).move 3 rfl).move 2 rfl).move 8 rfl).move 9 rfl)
          have H78 : St W w71 (RnA g ({ s with V := s.V ++ [x.v] } : LdS) :: Im 6 (.slice pp6 L10.length cc7) L10.length (L10.flatMap itCell) :: blk bk2 (.cells #[.int .i64 x.op.v, .int .i64 x.inp.v, .int .i64 x.ep.v, .int .i64 x.kind.v, .slice x.p x.bs.length x.c, .int .i64 x.t.v] 32 (0, 0)) :: bndsA x.bs :: Im 6 (.slice x.p x.bs.length x.c) x.bs.length (x.bs.flatMap bndCell) :: blk bk53 (.cells #[.int .i64 it44.op.v, .int .i64 it44.inp.v, .int .i64 it44.ep.v, .int .i64 it44.kind.v, .slice it44.p it44.bs.length it44.c, .int .i64 it44.t.v] 32 (0, 0)) :: (F.set i emp)) := St.shut_ex (⟨pp65, cc66, pp8, cc9, (L10 ++ [it44]), Ps11, (lw_snoc hov hL12 hy45), hP13⟩ : RnX ({ s with V := s.V ++ [x.v] } : LdS)) (St.shut_star (ls := [blk g (.cells #[.int .i64 s.op.v, .slice pp65 ((L10 ++ [it44]).length) cc66, .slice pp8 Ps11.length cc9, .bool s.ov] 62 (0, 0)), Im 6 (.slice pp65 ((L10 ++ [it44]).length) cc66) ((L10 ++ [it44]).length) ((L10 ++ [it44]).flatMap itCell), itsA (L10 ++ [it44]), Im 4 (.slice pp8 Ps11.length cc9) Ps11.length (Ps11.flatMap pcCell), pcA Ps11]) H77)
          have H79 : St W w71 (RnA g ({ s with V := s.V ++ [x.v] } : LdS) :: (F.set i emp)) := (((((H78.drop 1 rfl).drop 1 rfl).drop 1 rfl).drop 1 rfl).drop 1 rfl)
          exact ⟨by rw [hE9]; rfl, by rw [arS_yes hE9]; exact St.back hi H79⟩
      · skip
        refine q_cons (q_val rfl rfl rfl (by intro w hw; exact x_neq true rfl rfl (nfalse hc23) w) ?_)
        refine q_nil ?_
        intro w80 H81
        refine g_true rfl ?_
        refine g_seq ?_
        refine g_region ?_
        refine r_cons (s_assign (.int .i64 243) rfl rfl ?_)
        refine r_nil ?_
        refine g_ret' [.int .i64 243] Try.func23 Try.results23 ⟨rfl, trivial⟩ ?_
        have H82 : St W w80 (RnA g s :: blk bk2 (.cells #[.int .i64 x.op.v, .int .i64 x.inp.v, .int .i64 x.ep.v, .int .i64 x.kind.v, .slice x.p x.bs.length x.c, .int .i64 x.t.v] 32 (0, 0)) :: bndsA x.bs :: Im 6 (.slice x.p x.bs.length x.c) x.bs.length (x.bs.flatMap bndCell) :: (F.set i emp)) := St.shut_ex (⟨pp6, cc7, pp8, cc9, L10, Ps11, hL12, hP13⟩ : RnX s) (St.shut_star (ls := [blk g (.cells #[.int .i64 s.op.v, .slice pp6 L10.length cc7, .slice pp8 Ps11.length cc9, .bool s.ov] 62 (0, 0)), Im 6 (.slice pp6 L10.length cc7) L10.length (L10.flatMap itCell), itsA L10, Im 4 (.slice pp8 Ps11.length cc9) Ps11.length (Ps11.flatMap pcCell), pcA Ps11]) H81)
        have H83 : St W w80 (RnA g s :: (F.set i emp)) := (((H82.drop 1 rfl).drop 1 rfl).drop 1 rfl)
        have hov : s.ov = false := hb17
        have hE9 : arE s x = 243 := by first | exact ar_2 hov (by assumption) | exact ar_3 hov (by assumption) (by assumption) | exact ar_4 hov (by assumption) (by omega) (by omega)
        have hE0 : ¬ arE s x = 0 := by rw [hE9]; first | assumption | decide
        exact ⟨by rw [hE9]; rfl, by rw [arS_no hE0]; exact St.back hi H83⟩
    · skip
      refine r_cons (s_neq true rfl rfl (nfalse hc22) rfl ?_)
      refine r_nil ?_
      refine g_true rfl ?_
      refine g_seq ?_
      refine g_region ?_
      refine r_cons (s_move (.int .i64 (itE x)) rfl rfl ?_)
      refine r_cons (s_assign (.int .i64 (itE x)) rfl rfl ?_)
      refine r_nil ?_
      refine g_ret' [.int .i64 (itE x)] Try.func23 Try.results23 ⟨rfl, trivial⟩ ?_
      have H84 : St W w20 (RnA g s :: blk bk2 (.cells #[.int .i64 x.op.v, .int .i64 x.inp.v, .int .i64 x.ep.v, .int .i64 x.kind.v, .slice x.p x.bs.length x.c, .int .i64 x.t.v] 32 (0, 0)) :: bndsA x.bs :: Im 6 (.slice x.p x.bs.length x.c) x.bs.length (x.bs.flatMap bndCell) :: (F.set i emp)) := St.shut_ex (⟨pp6, cc7, pp8, cc9, L10, Ps11, hL12, hP13⟩ : RnX s) (St.shut_star (ls := [blk g (.cells #[.int .i64 s.op.v, .slice pp6 L10.length cc7, .slice pp8 Ps11.length cc9, .bool s.ov] 62 (0, 0)), Im 6 (.slice pp6 L10.length cc7) L10.length (L10.flatMap itCell), itsA L10, Im 4 (.slice pp8 Ps11.length cc9) Ps11.length (Ps11.flatMap pcCell), pcA Ps11]) H21)
      have H85 : St W w20 (RnA g s :: (F.set i emp)) := (((H84.drop 1 rfl).drop 1 rfl).drop 1 rfl)
      have hov : s.ov = false := hb17
      have hE9 : arE s x = itE x := by first | exact ar_2 hov (by assumption) | exact ar_3 hov (by assumption) (by assumption) | exact ar_4 hov (by assumption) (by omega) (by omega)
      have hE0 : ¬ arE s x = 0 := by rw [hE9]; first | assumption | decide
      exact ⟨by rw [hE9]; rfl, by rw [arS_no hE0]; exact St.back hi H85⟩
set_option maxHeartbeats 4000000 in
set_option maxRecDepth 100000 in
theorem Rn_Piece {W w : World} {F : List Atom} (g : Nat) (s : LdS) (x : PieceD) (hs : LOk s) {i : Nat} (hi : F[i]? = some (RnA g s)) {j : Nat} (hj : F[j]? = some (DtA x.p x.c x.v.data)) (H : St W w F) : Calls Try.prog 24 #[.pointer (some ⟨g, 0, none⟩), .agg #[.int .i64 x.v.op.v, .int .i64 x.v.many.v, .int .i64 x.v.index.v, .slice x.p x.v.data.length x.c]] w (Ret fun v w' => v = .tuple #[.bool (lpB s x.v), .int .i64 (lpE s x.v)] ∧ St W w' (F.set i (RnA g (lpS s x.v)))) := by
  have H0 := (H.dup hj (DtA_pers _ _ _)).front (i := i + 1) (by exact hi)
  have H1 : St W w (RnA g s :: Im 1 (.slice x.p x.v.data.length x.c) x.v.data.length (x.v.data.flatMap u8c) :: (F.set i emp)) := H0
  have hml0 := Im.len H0 (i := 1) rfl
  have hpn := hs.pn
  refine calls_of_go (n := 90) Try.func24 rfl Try.ntmps24 rfl ?_
  refine g_seq ?_
  refine g_region ?_
  refine r_cons (s_box H1 51 (.agg #[.int .i64 x.v.op.v, .int .i64 x.v.many.v, .int .i64 x.v.index.v, .slice x.p x.v.data.length x.c]) rfl (cs := #[.int .i64 x.v.op.v, .int .i64 x.v.many.v, .int .i64 x.v.index.v, .slice x.p x.v.data.length x.c]) rfl rfl ?_); intro bk2 w3 H4
  refine r_cons (s_assign (.bool false) rfl rfl ?_)
  refine r_cons (s_assign (.int .i64 0) rfl rfl ?_)
  refine r_nil ?_
  refine g_seq ?_
  refine g_seq ?_
  refine g_region ?_
  refine r_cons (s_move (.pointer (some ⟨g, 0, none⟩)) rfl rfl ?_)
  refine r_cons (s_nilCheck (.pointer (some ⟨g, 0, none⟩)) rfl ⟨_, rfl⟩ rfl ?_)
  refine r_cons (s_fieldAddr 62 3 3 3 4 rfl fi_62_3 rfl rfl ?_)
  have H5 := H4.move 1 rfl
  obtain ⟨⟨pp6, cc7, pp8, cc9, L10, Ps11, hL12, hP13⟩, H14⟩ := St.open_ex H5
  have H15 := St.open_star H14
  have hpl := pv_len hP13
  have hlw := lw_len hL12
  have H16 : St W w3 (blk g (.cells #[.int .i64 s.op.v, .slice pp6 L10.length cc7, .slice pp8 Ps11.length cc9, .bool s.ov] 62 (0, 0)) :: Im 6 (.slice pp6 L10.length cc7) L10.length (L10.flatMap itCell) :: itsA L10 :: Im 4 (.slice pp8 Ps11.length cc9) Ps11.length (Ps11.flatMap pcCell) :: pcA Ps11 :: blk bk2 (.cells #[.int .i64 x.v.op.v, .int .i64 x.v.many.v, .int .i64 x.v.index.v, .slice x.p x.v.data.length x.c] 51 (0, 0)) :: Im 1 (.slice x.p x.v.data.length x.c) x.v.data.length (x.v.data.flatMap u8c) :: (F.set i emp)) := H15
  refine r_cons (s_load (.bool s.ov) ag_4 rfl (H16.blk_at (i := 0) rfl) rfl rfl ?_)
  refine r_nil ?_
  by_cases hb17 : (s.ov) = true
  · skip
    refine g_true (congrArg Value.bool hb17) ?_
    refine g_seq ?_
    refine g_region ?_
    refine r_cons (s_assign (.bool false) rfl rfl ?_)
    refine r_cons (s_assign (.int .i64 241) rfl rfl ?_)
    refine r_nil ?_
    refine g_ret' [.bool false, .int .i64 241] Try.func24 Try.results24 ⟨rfl, rfl, trivial⟩ ?_
    have H18 : St W w3 (RnA g s :: blk bk2 (.cells #[.int .i64 x.v.op.v, .int .i64 x.v.many.v, .int .i64 x.v.index.v, .slice x.p x.v.data.length x.c] 51 (0, 0)) :: Im 1 (.slice x.p x.v.data.length x.c) x.v.data.length (x.v.data.flatMap u8c) :: (F.set i emp)) := St.shut_ex (⟨pp6, cc7, pp8, cc9, L10, Ps11, hL12, hP13⟩ : RnX s) (St.shut_star (ls := [blk g (.cells #[.int .i64 s.op.v, .slice pp6 L10.length cc7, .slice pp8 Ps11.length cc9, .bool s.ov] 62 (0, 0)), Im 6 (.slice pp6 L10.length cc7) L10.length (L10.flatMap itCell), itsA L10, Im 4 (.slice pp8 Ps11.length cc9) Ps11.length (Ps11.flatMap pcCell), pcA Ps11]) H16)
    have H19 : St W w3 (RnA g s :: (F.set i emp)) := ((H18.drop 1 rfl).drop 1 rfl)
    have hE9 : lpE s x.v = 241 := lp_1 hb17
    have hE0 : ¬ lpE s x.v = 0 := by rw [hE9]; first | assumption | decide
    exact ⟨by rw [lpB_no hE0, hE9]; rfl, by rw [lpS_no hE0]; exact St.back hi H19⟩
  · have hb17 := eq_false_of_ne_true hb17
    refine g_false (congrArg Value.bool hb17) ?_
    refine g_skip ?_
    refine g_seq ?_
    refine g_seq ?_
    refine g_region ?_
    refine r_cons (s_loadAgg [.int .i64 x.v.op.v, .int .i64 x.v.many.v, .int .i64 x.v.index.v, .slice x.p x.v.data.length x.c] 4 ag_51 rfl (H16.blk_at (i := 5) rfl) (Nat.le_of_ble_eq_true rfl) rfl rfl ?_)
    refine r_cons (s_call [.agg #[.int .i64 x.v.op.v, .int .i64 x.v.many.v, .int .i64 x.v.index.v, .slice x.p x.v.data.length x.c]] pl_76 rfl rfl (ref24_CheckPiece x.v.op.v x.v.many.v x.v.index.v x.p x.v.data.length x.c H16) ?_)
    rintro _ w20 ⟨rfl, H21⟩
    refine r_cons (s_assign (.int .i64 (if pieceB x.v.op.v x.v.many.v x.v.index.v x.v.data.length = true then (0 : Int) else 242)) rfl rfl ?_)
    refine r_nil ?_
    refine g_seq ?_
    refine g_region ?_
    refine r_cons (s_move (.int .i64 (if pieceB x.v.op.v x.v.many.v x.v.index.v x.v.data.length = true then (0 : Int) else 242)) rfl rfl ?_)
    by_cases hc22 : (if pieceB x.v.op.v x.v.many.v x.v.index.v x.v.data.length = true then (0 : Int) else 242) = 0
    · skip
      refine r_cons (s_neq false rfl rfl (ntrue hc22) rfl ?_)
      refine r_nil ?_
      refine g_false rfl ?_
      refine g_skip ?_
      refine g_seq ?_
      refine g_seq ?_
      obtain ⟨pA23, cA24, gA25, oA26, kA27, eA28, zA29, he35, hn30, hp31, hx32, hs33, hml, H34⟩ := Im.open_ H21 (i := 3) rfl
      obtain ⟨rfl, rfl⟩ : pp8 = pA23 ∧ cc9 = cA24 := by injection he35 with a_ b_ c_; exact ⟨a_, c_⟩
      refine g_cut (fun (x_ : Bool) => match x_ with | bad => [(0, .pointer (some ⟨g, 0, none⟩)), (3, .pointer (some ⟨bk2, 0, none⟩)), (4, .bool false), (5, .int .i64 0), (43, .bool bad)]) (fun (x_ : Bool) w => match x_ with | bad => (bad = decide (lpBad s x.v)) ∧ St W w (imi (0 < Ps11.length) gA25 (.cells kA27 eA28 zA29) :: blk g (.cells #[.int .i64 s.op.v, .slice pp6 L10.length cc7, .slice pp8 Ps11.length cc9, .bool s.ov] 62 (0, 0)) :: Im 6 (.slice pp6 L10.length cc7) L10.length (L10.flatMap itCell) :: itsA L10 :: Im 4 (.slice pp8 Ps11.length cc9) Ps11.length (Ps11.flatMap pcCell) :: pcA Ps11 :: blk bk2 (.cells #[.int .i64 x.v.op.v, .int .i64 x.v.many.v, .int .i64 x.v.index.v, .slice x.p x.v.data.length x.c] 51 (0, 0)) :: Im 1 (.slice x.p x.v.data.length x.c) x.v.data.length (x.v.data.flatMap u8c) :: (F.set i emp))) ?_ ?_
      · rintro bad ρ39 w37 ⟨hbad, H38⟩
        change Ends _ _ (upds ρ39 [(0, .pointer (some ⟨g, 0, none⟩)), (3, .pointer (some ⟨bk2, 0, none⟩)), (4, .bool false), (5, .int .i64 0), (43, .bool bad)]) w37
        by_cases hb40 : (bad) = true
        · skip
          refine g_true (congrArg Value.bool hb40) ?_
          refine g_seq ?_
          refine g_region ?_
          refine r_cons (s_assign (.bool false) rfl rfl ?_)
          refine r_cons (s_assign (.int .i64 242) rfl rfl ?_)
          refine r_nil ?_
          refine g_ret' [.bool false, .int .i64 242] Try.func24 Try.results24 ⟨rfl, rfl, trivial⟩ ?_
          have H41 : St W w37 (blk g (.cells #[.int .i64 s.op.v, .slice pp6 L10.length cc7, .slice pp8 Ps11.length cc9, .bool s.ov] 62 (0, 0)) :: Im 6 (.slice pp6 L10.length cc7) L10.length (L10.flatMap itCell) :: itsA L10 :: Im 4 (.slice pp8 Ps11.length cc9) Ps11.length (Ps11.flatMap pcCell) :: pcA Ps11 :: imi (0 < Ps11.length) gA25 (.cells kA27 eA28 zA29) :: blk bk2 (.cells #[.int .i64 x.v.op.v, .int .i64 x.v.many.v, .int .i64 x.v.index.v, .slice x.p x.v.data.length x.c] 51 (0, 0)) :: Im 1 (.slice x.p x.v.data.length x.c) x.v.data.length (x.v.data.flatMap u8c) :: (F.set i emp)) := (((((H38.move 5 rfl).move 5 rfl).move 5 rfl).move 5 rfl).move 5 rfl)
          have H42 : St W w37 (RnA g s :: imi (0 < Ps11.length) gA25 (.cells kA27 eA28 zA29) :: blk bk2 (.cells #[.int .i64 x.v.op.v, .int .i64 x.v.many.v, .int .i64 x.v.index.v, .slice x.p x.v.data.length x.c] 51 (0, 0)) :: Im 1 (.slice x.p x.v.data.length x.c) x.v.data.length (x.v.data.flatMap u8c) :: (F.set i emp)) := St.shut_ex (⟨pp6, cc7, pp8, cc9, L10, Ps11, hL12, hP13⟩ : RnX s) (St.shut_star (ls := [blk g (.cells #[.int .i64 s.op.v, .slice pp6 L10.length cc7, .slice pp8 Ps11.length cc9, .bool s.ov] 62 (0, 0)), Im 6 (.slice pp6 L10.length cc7) L10.length (L10.flatMap itCell), itsA L10, Im 4 (.slice pp8 Ps11.length cc9) Ps11.length (Ps11.flatMap pcCell), pcA Ps11]) H41)
          have H43 : St W w37 (RnA g s :: (F.set i emp)) := (((H42.drop 1 rfl).drop 1 rfl).drop 1 rfl)
          have hE9 : lpE s x.v = 242 := lp_2 hb17 (of_decide_eq_true (hbad.symm.trans hb40))
          have hE0 : ¬ lpE s x.v = 0 := by rw [hE9]; first | assumption | decide
          exact ⟨by rw [lpB_no hE0, hE9]; rfl, by rw [lpS_no hE0]; exact St.back hi H43⟩
        · have hb40 := eq_false_of_ne_true hb40
          refine g_false (congrArg Value.bool hb40) ?_
          refine g_skip ?_
          refine g_seq ?_
          refine g_seq ?_
          refine g_region ?_
          refine r_cons (s_assign (.int .i64 0) rfl rfl ?_)
          refine r_nil ?_
          refine g_block ?_
          have hov : s.ov = false := hb17
          have hg : ¬ lpBad s x.v := of_decide_eq_false (hbad.symm.trans hb40)
          have hdl9 := lp_dat hg
          refine g_loop_inv (fun (x_ : Nat) => match x_ with | j => [(0, .pointer (some ⟨g, 0, none⟩)), (3, .pointer (some ⟨bk2, 0, none⟩)), (4, .bool false), (5, .int .i64 0), (7, .int .i64 (j : Int))]) (fun (x_ : Nat) w => match x_ with | j => (j ≤ Ps11.length) ∧ (∀ q, q < j → ¬ (Ps11.getD q default).v.index.v = x.v.index.v) ∧ St W w (imi (0 < Ps11.length) gA25 (.cells kA27 eA28 zA29) :: blk g (.cells #[.int .i64 s.op.v, .slice pp6 L10.length cc7, .slice pp8 Ps11.length cc9, .bool s.ov] 62 (0, 0)) :: Im 6 (.slice pp6 L10.length cc7) L10.length (L10.flatMap itCell) :: itsA L10 :: Im 4 (.slice pp8 Ps11.length cc9) Ps11.length (Ps11.flatMap pcCell) :: pcA Ps11 :: blk bk2 (.cells #[.int .i64 x.v.op.v, .int .i64 x.v.many.v, .int .i64 x.v.index.v, .slice x.p x.v.data.length x.c] 51 (0, 0)) :: Im 1 (.slice x.p x.v.data.length x.c) x.v.data.length (x.v.data.flatMap u8c) :: (F.set i emp))) (fun (x_ : Nat) => match x_ with | j => Ps11.length - j) (0) ?_ ?_ ?_
          · exact ⟨by first | rfl | exact vint (by omega), by first | rfl | exact vint (by omega), by first | rfl | exact vint (by omega), by first | rfl | exact vint (by omega), by first | rfl | exact vint (by omega), trivial⟩
          · exact ⟨(by omega), (fun q hq => by omega), H38⟩
          · rintro j ρ44 w45 ⟨hjn, hz, H46⟩ nx47
            change Ends _ _ (upds ρ44 [(0, .pointer (some ⟨g, 0, none⟩)), (3, .pointer (some ⟨bk2, 0, none⟩)), (4, .bool false), (5, .int .i64 0), (7, .int .i64 (j : Int))]) w45
            refine g_seq ?_
            refine g_seq ?_
            refine g_region ?_
            refine r_cons (s_move (.int .i64 (j : Int)) rfl rfl ?_)
            refine r_cons (s_move (.pointer (some ⟨g, 0, none⟩)) rfl rfl ?_)
            refine r_cons (s_nilCheck (.pointer (some ⟨g, 0, none⟩)) rfl ⟨_, rfl⟩ rfl ?_)
            refine r_cons (s_fieldAddr 62 2 2 2 60 rfl fi_62_2 rfl rfl ?_)
            refine r_cons (s_load (.slice pp8 Ps11.length cc9) ag_60 rfl (H46.blk_at (i := 1) rfl) rfl rfl ?_)
            refine r_cons (s_len Ps11.length rfl ⟨_, un_60⟩ rfl ?_)
            by_cases hc48 : (j : Int) < (Ps11.length : Int)
            · skip
              refine r_cons (s_lss true rfl rfl (dtrue hc48) rfl ?_)
              refine r_nil ?_
              refine g_true rfl ?_
              refine g_skip ?_
              refine g_seq ?_
              refine g_block ?_
              refine g_seq ?_
              refine g_quiet (fun w' => St W w' (imi (0 < Ps11.length) gA25 (.cells kA27 eA28 zA29) :: blk g (.cells #[.int .i64 s.op.v, .slice pp6 L10.length cc7, .slice pp8 Ps11.length cc9, .bool s.ov] 62 (0, 0)) :: Im 6 (.slice pp6 L10.length cc7) L10.length (L10.flatMap itCell) :: itsA L10 :: Im 4 (.slice pp8 Ps11.length cc9) Ps11.length (Ps11.flatMap pcCell) :: pcA Ps11 :: blk bk2 (.cells #[.int .i64 x.v.op.v, .int .i64 x.v.many.v, .int .i64 x.v.index.v, .slice x.p x.v.data.length x.c] 51 (0, 0)) :: Im 1 (.slice x.p x.v.data.length x.c) x.v.data.length (x.v.data.flatMap u8c) :: (F.set i emp))) mixed (by kernel_rfl) H46.drew ?_
              refine q_cons (q_val rfl rfl rfl (by intro w hw; exact x_move (.pointer (some ⟨g, 0, none⟩)) rfl w) ?_)
              refine q_cons (q_val rfl rfl rfl (by intro w hw; exact x_nilCheck (.pointer (some ⟨g, 0, none⟩)) rfl ⟨_, rfl⟩ w) ?_)
              refine q_cons (q_val rfl rfl rfl (by intro w hw; exact x_fieldAddr 62 2 2 2 60 rfl fi_62_2 rfl w) ?_)
              refine q_cons (q_val rfl rfl rfl (by intro w hw; exact x_load (.slice pp8 Ps11.length cc9) ag_60 rfl (hw.blk_at (i := 1) rfl) rfl) ?_)
              refine q_cons (q_val rfl rfl rfl (by intro w hw; exact x_move (.int .i64 (j : Int)) rfl w) ?_)
              refine q_cons (q_val rfl rfl rfl (by intro w hw; exact x_indexAddr gA25 (off := oA26) (j : Int) 4 (oA26 + j * 4) (by exact congrArg (fun z_ => Value.slice z_ Ps11.length cc9) (hp31 (by omega))) rfl el_60 (by omega) rfl w) ?_)
              refine q_cons (q_val rfl rfl rfl (by intro w hw; exact x_fieldAddr 51 2 2 (oA26 + j * 4 + 2) 3 rfl fi_51_2 rfl w) ?_)
              refine q_cons (q_val rfl rfl rfl (by intro w hw; exact x_load (.int .i64 ((Ps11.getD j default).v.index.v)) ag_3 rfl (hw.imi_at (i := 0) rfl (by omega)) (elem_cell (L := Ps11) (i := j) pcCell_len (hx32 (by omega)) (by omega) default 2 (by decide) _ rfl)) ?_)
              refine q_cons (q_val rfl rfl rfl (by intro w hw; exact x_fieldAddr 51 2 2 2 3 rfl fi_51_2 rfl w) ?_)
              refine q_cons (q_val rfl rfl rfl (by intro w hw; exact x_load (.int .i64 x.v.index.v) ag_3 rfl (hw.blk_at (i := 6) rfl) rfl) ?_)
              by_cases hc49 : (Ps11.getD j default).v.index.v = x.v.index.v
              · skip
                refine q_cons (q_val rfl rfl rfl (by intro w hw; exact x_eql true rfl rfl (dtrue hc49) w) ?_)
                refine q_nil ?_
                intro w50 H51
                refine g_true rfl ?_
                refine g_seq ?_
                refine g_seq ?_
                have H52 : St W w50 (Im 1 (.slice ((Ps11.getD j default).p) ((Ps11.getD j default).v.data.length) ((Ps11.getD j default).c)) (((Ps11.getD j default).v.data).length) (((Ps11.getD j default).v.data).flatMap u8c) :: imi (0 < Ps11.length) gA25 (.cells kA27 eA28 zA29) :: blk g (.cells #[.int .i64 s.op.v, .slice pp6 L10.length cc7, .slice pp8 Ps11.length cc9, .bool s.ov] 62 (0, 0)) :: Im 6 (.slice pp6 L10.length cc7) L10.length (L10.flatMap itCell) :: itsA L10 :: Im 4 (.slice pp8 Ps11.length cc9) Ps11.length (Ps11.flatMap pcCell) :: pcA Ps11 :: blk bk2 (.cells #[.int .i64 x.v.op.v, .int .i64 x.v.many.v, .int .i64 x.v.index.v, .slice x.p x.v.data.length x.c] 51 (0, 0)) :: Im 1 (.slice x.p x.v.data.length x.c) x.v.data.length (x.v.data.flatMap u8c) :: (F.set i emp)) := pcA_at H51 (i := 5) rfl (j := j) (by omega)
                refine g_quiet (fun w' => St W w' (Im 1 (.slice ((Ps11.getD j default).p) ((Ps11.getD j default).v.data.length) ((Ps11.getD j default).c)) (((Ps11.getD j default).v.data).length) (((Ps11.getD j default).v.data).flatMap u8c) :: imi (0 < Ps11.length) gA25 (.cells kA27 eA28 zA29) :: blk g (.cells #[.int .i64 s.op.v, .slice pp6 L10.length cc7, .slice pp8 Ps11.length cc9, .bool s.ov] 62 (0, 0)) :: Im 6 (.slice pp6 L10.length cc7) L10.length (L10.flatMap itCell) :: itsA L10 :: Im 4 (.slice pp8 Ps11.length cc9) Ps11.length (Ps11.flatMap pcCell) :: pcA Ps11 :: blk bk2 (.cells #[.int .i64 x.v.op.v, .int .i64 x.v.many.v, .int .i64 x.v.index.v, .slice x.p x.v.data.length x.c] 51 (0, 0)) :: Im 1 (.slice x.p x.v.data.length x.c) x.v.data.length (x.v.data.flatMap u8c) :: (F.set i emp))) mixed (by kernel_rfl) H52.drew ?_
                refine q_cons (q_val rfl rfl rfl (by intro w hw; exact x_move (.pointer (some ⟨g, 0, none⟩)) rfl w) ?_)
                refine q_cons (q_val rfl rfl rfl (by intro w hw; exact x_nilCheck (.pointer (some ⟨g, 0, none⟩)) rfl ⟨_, rfl⟩ w) ?_)
                refine q_cons (q_val rfl rfl rfl (by intro w hw; exact x_fieldAddr 62 2 2 2 60 rfl fi_62_2 rfl w) ?_)
                refine q_cons (q_val rfl rfl rfl (by intro w hw; exact x_load (.slice pp8 Ps11.length cc9) ag_60 rfl (hw.blk_at (i := 2) rfl) rfl) ?_)
                refine q_cons (q_val rfl rfl rfl (by intro w hw; exact x_move (.int .i64 (j : Int)) rfl w) ?_)
                refine q_cons (q_val rfl rfl rfl (by intro w hw; exact x_indexAddr gA25 (off := oA26) (j : Int) 4 (oA26 + j * 4) (by exact congrArg (fun z_ => Value.slice z_ Ps11.length cc9) (hp31 (by omega))) rfl el_60 (by omega) rfl w) ?_)
                refine q_cons (q_val rfl rfl rfl (by intro w hw; exact x_loadAgg [.int .i64 ((Ps11.getD j default).v.op.v), .int .i64 ((Ps11.getD j default).v.many.v), .int .i64 ((Ps11.getD j default).v.index.v), .slice ((Ps11.getD j default).p) ((Ps11.getD j default).v.data.length) ((Ps11.getD j default).c)] 4 ag_51 rfl (hw.imi_at (i := 1) rfl (by omega)) (by have := elem_size (i := j) (s := 4) (hs33 (by omega)) (by omega); omega) (elem_take pcCell_len (hx32 (by omega)) (by omega) default)) ?_)
                refine q_cons (q_val rfl rfl rfl (by intro w hw; exact x_loadAgg [.int .i64 x.v.op.v, .int .i64 x.v.many.v, .int .i64 x.v.index.v, .slice x.p x.v.data.length x.c] 4 ag_51 rfl (hw.blk_at (i := 7) rfl) (Nat.le_of_ble_eq_true rfl) rfl) ?_)
                refine q_cons (q_enter (args := #[.agg #[.int .i64 ((Ps11.getD j default).v.op.v), .int .i64 ((Ps11.getD j default).v.many.v), .int .i64 ((Ps11.getD j default).v.index.v), .slice ((Ps11.getD j default).p) ((Ps11.getD j default).v.data.length) ((Ps11.getD j default).c)], .agg #[.int .i64 x.v.op.v, .int .i64 x.v.many.v, .int .i64 x.v.index.v, .slice x.p x.v.data.length x.c]]) (v := .bool (samePc (Ps11.getD j default).v x.v)) rfl rfl rfl (x_call pl_39 [.agg #[.int .i64 ((Ps11.getD j default).v.op.v), .int .i64 ((Ps11.getD j default).v.many.v), .int .i64 ((Ps11.getD j default).v.index.v), .slice ((Ps11.getD j default).p) ((Ps11.getD j default).v.data.length) ((Ps11.getD j default).c)], .agg #[.int .i64 x.v.op.v, .int .i64 x.v.many.v, .int .i64 x.v.index.v, .slice x.p x.v.data.length x.c]] rfl) (fun w hw => SamePiece_ (Ps11.getD j default) x (j := 0) (k := 8) rfl rfl hw) ?_)
                refine q_nil ?_
                intro w53 H54
                by_cases hb55 : (samePc (Ps11.getD j default).v x.v) = true
                · skip
                  refine g_true (congrArg Value.bool hb55) ?_
                  refine g_seq ?_
                  refine g_region ?_
                  refine r_cons (s_assign (.bool false) rfl rfl ?_)
                  refine r_cons (s_assign (.int .i64 5) rfl rfl ?_)
                  refine r_nil ?_
                  refine g_ret' [.bool false, .int .i64 5] Try.func24 Try.results24 ⟨rfl, rfl, trivial⟩ ?_
                  have H56 : St W w53 (blk g (.cells #[.int .i64 s.op.v, .slice pp6 L10.length cc7, .slice pp8 Ps11.length cc9, .bool s.ov] 62 (0, 0)) :: Im 6 (.slice pp6 L10.length cc7) L10.length (L10.flatMap itCell) :: itsA L10 :: Im 4 (.slice pp8 Ps11.length cc9) Ps11.length (Ps11.flatMap pcCell) :: pcA Ps11 :: Im 1 (.slice ((Ps11.getD j default).p) ((Ps11.getD j default).v.data.length) ((Ps11.getD j default).c)) (((Ps11.getD j default).v.data).length) (((Ps11.getD j default).v.data).flatMap u8c) :: imi (0 < Ps11.length) gA25 (.cells kA27 eA28 zA29) :: blk bk2 (.cells #[.int .i64 x.v.op.v, .int .i64 x.v.many.v, .int .i64 x.v.index.v, .slice x.p x.v.data.length x.c] 51 (0, 0)) :: Im 1 (.slice x.p x.v.data.length x.c) x.v.data.length (x.v.data.flatMap u8c) :: (F.set i emp)) := (((((H54.move 6 rfl).move 6 rfl).move 6 rfl).move 6 rfl).move 6 rfl)
                  have H57 : St W w53 (RnA g s :: Im 1 (.slice ((Ps11.getD j default).p) ((Ps11.getD j default).v.data.length) ((Ps11.getD j default).c)) (((Ps11.getD j default).v.data).length) (((Ps11.getD j default).v.data).flatMap u8c) :: imi (0 < Ps11.length) gA25 (.cells kA27 eA28 zA29) :: blk bk2 (.cells #[.int .i64 x.v.op.v, .int .i64 x.v.many.v, .int .i64 x.v.index.v, .slice x.p x.v.data.length x.c] 51 (0, 0)) :: Im 1 (.slice x.p x.v.data.length x.c) x.v.data.length (x.v.data.flatMap u8c) :: (F.set i emp)) := St.shut_ex (⟨pp6, cc7, pp8, cc9, L10, Ps11, hL12, hP13⟩ : RnX s) (St.shut_star (ls := [blk g (.cells #[.int .i64 s.op.v, .slice pp6 L10.length cc7, .slice pp8 Ps11.length cc9, .bool s.ov] 62 (0, 0)), Im 6 (.slice pp6 L10.length cc7) L10.length (L10.flatMap itCell), itsA L10, Im 4 (.slice pp8 Ps11.length cc9) Ps11.length (Ps11.flatMap pcCell), pcA Ps11]) H56)
                  have H58 : St W w53 (RnA g s :: (F.set i emp)) := ((((H57.drop 1 rfl).drop 1 rfl).drop 1 rfl).drop 1 rfl)
                  have hE9 : lpE s x.v = 5 := lpr_5 hs hov hg hP13 (j := j) (by omega) hc49 hb55
                  have hE0 : ¬ lpE s x.v = 0 := by rw [hE9]; first | assumption | decide
                  exact ⟨by rw [lpB_no hE0, hE9]; rfl, by rw [lpS_no hE0]; exact St.back hi H58⟩
                · have hb55 := eq_false_of_ne_true hb55
                  refine g_false (congrArg Value.bool hb55) ?_
                  refine g_skip ?_
                  refine g_seq ?_
                  refine g_region ?_
                  refine r_cons (s_assign (.bool false) rfl rfl ?_)
                  refine r_cons (s_assign (.int .i64 242) rfl rfl ?_)
                  refine r_nil ?_
                  refine g_ret' [.bool false, .int .i64 242] Try.func24 Try.results24 ⟨rfl, rfl, trivial⟩ ?_
                  have H59 : St W w53 (blk g (.cells #[.int .i64 s.op.v, .slice pp6 L10.length cc7, .slice pp8 Ps11.length cc9, .bool s.ov] 62 (0, 0)) :: Im 6 (.slice pp6 L10.length cc7) L10.length (L10.flatMap itCell) :: itsA L10 :: Im 4 (.slice pp8 Ps11.length cc9) Ps11.length (Ps11.flatMap pcCell) :: pcA Ps11 :: Im 1 (.slice ((Ps11.getD j default).p) ((Ps11.getD j default).v.data.length) ((Ps11.getD j default).c)) (((Ps11.getD j default).v.data).length) (((Ps11.getD j default).v.data).flatMap u8c) :: imi (0 < Ps11.length) gA25 (.cells kA27 eA28 zA29) :: blk bk2 (.cells #[.int .i64 x.v.op.v, .int .i64 x.v.many.v, .int .i64 x.v.index.v, .slice x.p x.v.data.length x.c] 51 (0, 0)) :: Im 1 (.slice x.p x.v.data.length x.c) x.v.data.length (x.v.data.flatMap u8c) :: (F.set i emp)) := (((((H54.move 6 rfl).move 6 rfl).move 6 rfl).move 6 rfl).move 6 rfl)
                  have H60 : St W w53 (RnA g s :: Im 1 (.slice ((Ps11.getD j default).p) ((Ps11.getD j default).v.data.length) ((Ps11.getD j default).c)) (((Ps11.getD j default).v.data).length) (((Ps11.getD j default).v.data).flatMap u8c) :: imi (0 < Ps11.length) gA25 (.cells kA27 eA28 zA29) :: blk bk2 (.cells #[.int .i64 x.v.op.v, .int .i64 x.v.many.v, .int .i64 x.v.index.v, .slice x.p x.v.data.length x.c] 51 (0, 0)) :: Im 1 (.slice x.p x.v.data.length x.c) x.v.data.length (x.v.data.flatMap u8c) :: (F.set i emp)) := St.shut_ex (⟨pp6, cc7, pp8, cc9, L10, Ps11, hL12, hP13⟩ : RnX s) (St.shut_star (ls := [blk g (.cells #[.int .i64 s.op.v, .slice pp6 L10.length cc7, .slice pp8 Ps11.length cc9, .bool s.ov] 62 (0, 0)), Im 6 (.slice pp6 L10.length cc7) L10.length (L10.flatMap itCell), itsA L10, Im 4 (.slice pp8 Ps11.length cc9) Ps11.length (Ps11.flatMap pcCell), pcA Ps11]) H59)
                  have H61 : St W w53 (RnA g s :: (F.set i emp)) := ((((H60.drop 1 rfl).drop 1 rfl).drop 1 rfl).drop 1 rfl)
                  have hE9 : lpE s x.v = 242 := lpr_242 hs hov hg hP13 (j := j) (by omega) hc49 hb55
                  have hE0 : ¬ lpE s x.v = 0 := by rw [hE9]; first | assumption | decide
                  exact ⟨by rw [lpB_no hE0, hE9]; rfl, by rw [lpS_no hE0]; exact St.back hi H61⟩
              · skip
                refine q_cons (q_val rfl rfl rfl (by intro w hw; exact x_eql false rfl rfl (dfalse hc49) w) ?_)
                refine q_nil ?_
                intro w62 H63
                refine g_false rfl ?_
                refine g_skip ?_
                refine g_inBlock ?_
                refine g_region ?_
                refine r_cons (s_move (.int .i64 (j : Int)) rfl rfl ?_)
                refine r_cons (s_add ((j : Int) + 1) rfl rfl (wi64 (by omega)) rfl ?_)
                refine r_cons (s_assign (.int .i64 ((j : Int) + 1)) rfl rfl ?_)
                refine r_nil ?_
                have H64 : St W w62 (imi (0 < Ps11.length) gA25 (.cells kA27 eA28 zA29) :: blk g (.cells #[.int .i64 s.op.v, .slice pp6 L10.length cc7, .slice pp8 Ps11.length cc9, .bool s.ov] 62 (0, 0)) :: Im 6 (.slice pp6 L10.length cc7) L10.length (L10.flatMap itCell) :: itsA L10 :: Im 4 (.slice pp8 Ps11.length cc9) Ps11.length (Ps11.flatMap pcCell) :: pcA Ps11 :: blk bk2 (.cells #[.int .i64 x.v.op.v, .int .i64 x.v.many.v, .int .i64 x.v.index.v, .slice x.p x.v.data.length x.c] 51 (0, 0)) :: Im 1 (.slice x.p x.v.data.length x.c) x.v.data.length (x.v.data.flatMap u8c) :: (F.set i emp)) := ((((((((H63.move 7 rfl).move 7 rfl).move 7 rfl).move 7 rfl).move 7 rfl).move 7 rfl).move 7 rfl).move 7 rfl)
                exact nx47 (j + 1) _ _ ⟨(by omega), (fun q hq => (Nat.lt_or_ge q j).elim (hz q) (fun h => by rw [show q = j from by omega]; exact hc49)), H64⟩ (by first | (dsimp only; omega) | omega) ⟨by first | rfl | exact vint (by omega), by first | rfl | exact vint (by omega), by first | rfl | exact vint (by omega), by first | rfl | exact vint (by omega), by first | rfl | exact vint (by omega), trivial⟩
            · skip
              refine r_cons (s_lss false rfl rfl (dfalse hc48) rfl ?_)
              refine r_nil ?_
              refine g_false rfl ?_
              refine g_exit (by rfl) ?_
              refine g_seq ?_
              refine g_region ?_
              refine r_cons (s_fieldAddr 51 3 3 3 23 rfl fi_51_3 rfl rfl ?_)
              refine r_cons (s_load (.slice x.p x.v.data.length x.c) ag_23 rfl (H46.blk_at (i := 6) rfl) rfl rfl ?_)
              have H65 := Row.nil_intro H46 5 1
              refine r_cons (s_append H65 0 rfl rfl rfl (Im.rd H65 (i := 8) rfl) ap_23 (by decide) (by unfold maxLen; omega) (by omega) (n' := x.v.data.length) (xs' := x.v.data.flatMap u8c) (by omega) (by first | rfl | simp) rfl ?_); intro vv66 w67 H68 hn69
              obtain ⟨pp70, cc71, rfl⟩ := Row.slice H68 (i := 0) rfl
              refine r_cons (s_fieldAddr 51 3 3 3 23 rfl fi_51_3 rfl rfl ?_)
              refine r_cons (s_store H68 7 (.slice pp70 x.v.data.length cc71) rfl rfl rfl sz_23 rfl (Nat.le_of_ble_eq_true rfl) rfl (cs' := #[.int .i64 x.v.op.v, .int .i64 x.v.many.v, .int .i64 x.v.index.v, .slice pp70 x.v.data.length cc71]) rfl ?_); intro w72 H73
              refine r_nil ?_
              refine g_seq ?_
              refine g_cut (fun (x_ : Nat × Option Addr × Nat) => match x_ with | (bk81, pp88, cc89) => [(0, .pointer (some ⟨g, 0, none⟩)), (4, .bool false), (5, .int .i64 0)]) (fun (x_ : Nat × Option Addr × Nat) w => match x_ with | (bk81, pp88, cc89) => St W w (blk bk81 (.cells #[.int .i64 x.v.op.v, .int .i64 x.v.many.v, .int .i64 x.v.index.v, .slice pp70 x.v.data.length cc71] 51 (0, 0)) :: Row 51 4 (.slice pp88 (Ps11.length + 1) cc89) (Ps11.length + 1) (Ps11.flatMap pcCell ++ ([.int .i64 x.v.op.v, .int .i64 x.v.many.v, .int .i64 x.v.index.v, .slice pp70 x.v.data.length cc71] : List Value)) :: Row 5 1 (.slice pp70 x.v.data.length cc71) x.v.data.length (x.v.data.flatMap u8c) :: imi (0 < Ps11.length) gA25 (.cells kA27 eA28 zA29) :: blk g (.cells #[.int .i64 s.op.v, .slice pp6 L10.length cc7, .slice pp88 (Ps11.length + 1) cc89, .bool s.ov] 62 (0, 0)) :: Im 6 (.slice pp6 L10.length cc7) L10.length (L10.flatMap itCell) :: itsA L10 :: Im 4 (.slice pp8 Ps11.length cc9) Ps11.length (Ps11.flatMap pcCell) :: pcA Ps11 :: blk bk2 (.cells #[.int .i64 x.v.op.v, .int .i64 x.v.many.v, .int .i64 x.v.index.v, .slice pp70 x.v.data.length cc71] 51 (0, 0)) :: Im 1 (.slice x.p x.v.data.length x.c) x.v.data.length (x.v.data.flatMap u8c) :: (F.set i emp))) ?_ ?_
              · rintro ⟨bk81, pp88, cc89⟩ ρ77 w75 H76
                change Ends _ _ (upds ρ77 [(0, .pointer (some ⟨g, 0, none⟩)), (4, .bool false), (5, .int .i64 0)]) w75
                refine g_seq ?_
                refine g_region ?_
                refine r_cons (s_move (.pointer (some ⟨g, 0, none⟩)) rfl rfl ?_)
                have h0 : lpE s x.v = 0 := lpr_z hov hg hP13 (fun q hq => hz q (by omega))
                have hm9 := (lp_many h0).2.2
                have H78 : St W w75 (blk bk81 (.cells #[.int .i64 x.v.op.v, .int .i64 x.v.many.v, .int .i64 x.v.index.v, .slice pp70 x.v.data.length cc71] 51 (0, 0)) :: Row 51 4 (.slice pp88 ((Ps11 ++ [(⟨x.v, pp70, cc71⟩ : PieceD)]).length) cc89) ((Ps11 ++ [(⟨x.v, pp70, cc71⟩ : PieceD)]).length) ((Ps11 ++ [(⟨x.v, pp70, cc71⟩ : PieceD)]).flatMap pcCell) :: Row 5 1 (.slice pp70 x.v.data.length cc71) x.v.data.length (x.v.data.flatMap u8c) :: imi (0 < Ps11.length) gA25 (.cells kA27 eA28 zA29) :: blk g (.cells #[.int .i64 s.op.v, .slice pp6 L10.length cc7, .slice pp88 ((Ps11 ++ [(⟨x.v, pp70, cc71⟩ : PieceD)]).length) cc89, .bool s.ov] 62 (0, 0)) :: Im 6 (.slice pp6 L10.length cc7) L10.length (L10.flatMap itCell) :: itsA L10 :: Im 4 (.slice pp8 Ps11.length cc9) Ps11.length (Ps11.flatMap pcCell) :: pcA Ps11 :: blk bk2 (.cells #[.int .i64 x.v.op.v, .int .i64 x.v.many.v, .int .i64 x.v.index.v, .slice pp70 x.v.data.length cc71] 51 (0, 0)) :: Im 1 (.slice x.p x.v.data.length x.c) x.v.data.length (x.v.data.flatMap u8c) :: (F.set i emp)) := by rw [flat_snocP, List.length_append]; exact H76
                have H79 : St W w75 (blk bk81 (.cells #[.int .i64 x.v.op.v, .int .i64 x.v.many.v, .int .i64 x.v.index.v, .slice pp70 x.v.data.length cc71] 51 (0, 0)) :: Im 4 (.slice pp88 ((Ps11 ++ [(⟨x.v, pp70, cc71⟩ : PieceD)]).length) cc89) ((Ps11 ++ [(⟨x.v, pp70, cc71⟩ : PieceD)]).length) ((Ps11 ++ [(⟨x.v, pp70, cc71⟩ : PieceD)]).flatMap pcCell) :: Row 5 1 (.slice pp70 x.v.data.length cc71) x.v.data.length (x.v.data.flatMap u8c) :: imi (0 < Ps11.length) gA25 (.cells kA27 eA28 zA29) :: blk g (.cells #[.int .i64 s.op.v, .slice pp6 L10.length cc7, .slice pp88 ((Ps11 ++ [(⟨x.v, pp70, cc71⟩ : PieceD)]).length) cc89, .bool s.ov] 62 (0, 0)) :: Im 6 (.slice pp6 L10.length cc7) L10.length (L10.flatMap itCell) :: itsA L10 :: Im 4 (.slice pp8 Ps11.length cc9) Ps11.length (Ps11.flatMap pcCell) :: pcA Ps11 :: blk bk2 (.cells #[.int .i64 x.v.op.v, .int .i64 x.v.many.v, .int .i64 x.v.index.v, .slice pp70 x.v.data.length cc71] 51 (0, 0)) :: Im 1 (.slice x.p x.v.data.length x.c) x.v.data.length (x.v.data.flatMap u8c) :: (F.set i emp)) := Row.im H78 (i := 1) rfl
                have H80 : St W w75 (blk bk81 (.cells #[.int .i64 x.v.op.v, .int .i64 x.v.many.v, .int .i64 x.v.index.v, .slice pp70 x.v.data.length cc71] 51 (0, 0)) :: Im 4 (.slice pp88 ((Ps11 ++ [(⟨x.v, pp70, cc71⟩ : PieceD)]).length) cc89) ((Ps11 ++ [(⟨x.v, pp70, cc71⟩ : PieceD)]).length) ((Ps11 ++ [(⟨x.v, pp70, cc71⟩ : PieceD)]).flatMap pcCell) :: Im 1 (.slice pp70 x.v.data.length cc71) x.v.data.length (x.v.data.flatMap u8c) :: imi (0 < Ps11.length) gA25 (.cells kA27 eA28 zA29) :: blk g (.cells #[.int .i64 s.op.v, .slice pp6 L10.length cc7, .slice pp88 ((Ps11 ++ [(⟨x.v, pp70, cc71⟩ : PieceD)]).length) cc89, .bool s.ov] 62 (0, 0)) :: Im 6 (.slice pp6 L10.length cc7) L10.length (L10.flatMap itCell) :: itsA L10 :: Im 4 (.slice pp8 Ps11.length cc9) Ps11.length (Ps11.flatMap pcCell) :: pcA Ps11 :: blk bk2 (.cells #[.int .i64 x.v.op.v, .int .i64 x.v.many.v, .int .i64 x.v.index.v, .slice pp70 x.v.data.length cc71] 51 (0, 0)) :: Im 1 (.slice x.p x.v.data.length x.c) x.v.data.length (x.v.data.flatMap u8c) :: (F.set i emp)) := Row.im H79 (i := 2) rfl
                have H81 : St W w75 (Im 1 (.slice pp70 x.v.data.length cc71) x.v.data.length (x.v.data.flatMap u8c) :: pcA Ps11 :: blk bk81 (.cells #[.int .i64 x.v.op.v, .int .i64 x.v.many.v, .int .i64 x.v.index.v, .slice pp70 x.v.data.length cc71] 51 (0, 0)) :: Im 4 (.slice pp88 ((Ps11 ++ [(⟨x.v, pp70, cc71⟩ : PieceD)]).length) cc89) ((Ps11 ++ [(⟨x.v, pp70, cc71⟩ : PieceD)]).length) ((Ps11 ++ [(⟨x.v, pp70, cc71⟩ : PieceD)]).flatMap pcCell) :: imi (0 < Ps11.length) gA25 (.cells kA27 eA28 zA29) :: blk g (.cells #[.int .i64 s.op.v, .slice pp6 L10.length cc7, .slice pp88 ((Ps11 ++ [(⟨x.v, pp70, cc71⟩ : PieceD)]).length) cc89, .bool s.ov] 62 (0, 0)) :: Im 6 (.slice pp6 L10.length cc7) L10.length (L10.flatMap itCell) :: itsA L10 :: Im 4 (.slice pp8 Ps11.length cc9) Ps11.length (Ps11.flatMap pcCell) :: blk bk2 (.cells #[.int .i64 x.v.op.v, .int .i64 x.v.many.v, .int .i64 x.v.index.v, .slice pp70 x.v.data.length cc71] 51 (0, 0)) :: Im 1 (.slice x.p x.v.data.length x.c) x.v.data.length (x.v.data.flatMap u8c) :: (F.set i emp)) := ((H80.move 8 rfl).move 3 rfl)
                have H82 : St W w75 (pcA (Ps11 ++ [(⟨x.v, pp70, cc71⟩ : PieceD)]) :: blk bk81 (.cells #[.int .i64 x.v.op.v, .int .i64 x.v.many.v, .int .i64 x.v.index.v, .slice pp70 x.v.data.length cc71] 51 (0, 0)) :: Im 4 (.slice pp88 ((Ps11 ++ [(⟨x.v, pp70, cc71⟩ : PieceD)]).length) cc89) ((Ps11 ++ [(⟨x.v, pp70, cc71⟩ : PieceD)]).length) ((Ps11 ++ [(⟨x.v, pp70, cc71⟩ : PieceD)]).flatMap pcCell) :: imi (0 < Ps11.length) gA25 (.cells kA27 eA28 zA29) :: blk g (.cells #[.int .i64 s.op.v, .slice pp6 L10.length cc7, .slice pp88 ((Ps11 ++ [(⟨x.v, pp70, cc71⟩ : PieceD)]).length) cc89, .bool s.ov] 62 (0, 0)) :: Im 6 (.slice pp6 L10.length cc7) L10.length (L10.flatMap itCell) :: itsA L10 :: Im 4 (.slice pp8 Ps11.length cc9) Ps11.length (Ps11.flatMap pcCell) :: blk bk2 (.cells #[.int .i64 x.v.op.v, .int .i64 x.v.many.v, .int .i64 x.v.index.v, .slice pp70 x.v.data.length cc71] 51 (0, 0)) :: Im 1 (.slice x.p x.v.data.length x.c) x.v.data.length (x.v.data.flatMap u8c) :: (F.set i emp)) := pcA_snoc (x := (⟨x.v, pp70, cc71⟩ : PieceD)) H81
                have H83 : St W w75 (blk g (.cells #[.int .i64 s.op.v, .slice pp6 L10.length cc7, .slice pp88 ((Ps11 ++ [(⟨x.v, pp70, cc71⟩ : PieceD)]).length) cc89, .bool s.ov] 62 (0, 0)) :: Im 6 (.slice pp6 L10.length cc7) L10.length (L10.flatMap itCell) :: itsA L10 :: Im 4 (.slice pp88 ((Ps11 ++ [(⟨x.v, pp70, cc71⟩ : PieceD)]).length) cc89) ((Ps11 ++ [(⟨x.v, pp70, cc71⟩ : PieceD)]).length) ((Ps11 ++ [(⟨x.v, pp70, cc71⟩ : PieceD)]).flatMap pcCell) :: pcA (Ps11 ++ [(⟨x.v, pp70, cc71⟩ : PieceD)]) :: blk bk81 (.cells #[.int .i64 x.v.op.v, .int .i64 x.v.many.v, .int .i64 x.v.index.v, .slice pp70 x.v.data.length cc71] 51 (0, 0)) :: imi (0 < Ps11.length) gA25 (.cells kA27 eA28 zA29) :: Im 4 (.slice pp8 Ps11.length cc9) Ps11.length (Ps11.flatMap pcCell) :: blk bk2 (.cells #[.int .i64 x.v.op.v, .int .i64 x.v.many.v, .int .i64 x.v.index.v, .slice pp70 x.v.data.length cc71] 51 (0, 0)) :: Im 1 (.slice x.p x.v.data.length x.c) x.v.data.length (x.v.data.flatMap u8c) :: (F.set i emp)) := ((((H82.move 2 rfl).move 6 rfl).move 6 rfl).move 6 rfl)
                have H84 : St W w75 (RnA g ({ s with PV := s.PV ++ [x.v] } : LdS) :: blk bk81 (.cells #[.int .i64 x.v.op.v, .int .i64 x.v.many.v, .int .i64 x.v.index.v, .slice pp70 x.v.data.length cc71] 51 (0, 0)) :: imi (0 < Ps11.length) gA25 (.cells kA27 eA28 zA29) :: Im 4 (.slice pp8 Ps11.length cc9) Ps11.length (Ps11.flatMap pcCell) :: blk bk2 (.cells #[.int .i64 x.v.op.v, .int .i64 x.v.many.v, .int .i64 x.v.index.v, .slice pp70 x.v.data.length cc71] 51 (0, 0)) :: Im 1 (.slice x.p x.v.data.length x.c) x.v.data.length (x.v.data.flatMap u8c) :: (F.set i emp)) := St.shut_ex (⟨pp6, cc7, pp88, cc89, L10, (Ps11 ++ [(⟨x.v, pp70, cc71⟩ : PieceD)]), hL12, (by rw [List.map_append, hP13]; rfl)⟩ : RnX ({ s with PV := s.PV ++ [x.v] } : LdS)) (St.shut_star (ls := [blk g (.cells #[.int .i64 s.op.v, .slice pp6 L10.length cc7, .slice pp88 ((Ps11 ++ [(⟨x.v, pp70, cc71⟩ : PieceD)]).length) cc89, .bool s.ov] 62 (0, 0)), Im 6 (.slice pp6 L10.length cc7) L10.length (L10.flatMap itCell), itsA L10, Im 4 (.slice pp88 ((Ps11 ++ [(⟨x.v, pp70, cc71⟩ : PieceD)]).length) cc89) ((Ps11 ++ [(⟨x.v, pp70, cc71⟩ : PieceD)]).length) ((Ps11 ++ [(⟨x.v, pp70, cc71⟩ : PieceD)]).flatMap pcCell), pcA (Ps11 ++ [(⟨x.v, pp70, cc71⟩ : PieceD)])]) H83)
                refine r_cons (s_call [.pointer (some ⟨g, 0, none⟩)] pl_77 rfl rfl (Rn_whole g ({ s with PV := s.PV ++ [x.v] } : LdS) (i := 0) rfl H84) ?_)
                rintro _ w85 ⟨rfl, H86⟩
                refine r_cons (s_assign (.bool (wholeB ({ s with PV := s.PV ++ [x.v] } : LdS))) rfl rfl ?_)
                refine r_cons (s_assign (.int .i64 0) rfl rfl ?_)
                refine r_nil ?_
                refine g_ret' [.bool (wholeB ({ s with PV := s.PV ++ [x.v] } : LdS)), .int .i64 0] Try.func24 Try.results24 ⟨rfl, rfl, trivial⟩ ?_
                have H87 : St W w85 (RnA g ({ s with PV := s.PV ++ [x.v] } : LdS) :: (F.set i emp)) := (((((H86.drop 1 rfl).drop 1 rfl).drop 1 rfl).drop 1 rfl).drop 1 rfl)
                exact ⟨by rw [h0, ← whole_snoc h0]; rfl, by rw [lpS_yes h0]; exact St.back hi H87⟩
              · intro join74
                refine g_any mixed 12 rfl ?_
                intro w88 hw89
                have H90 := H73.drew
                rw [← hw89] at H90
                clear hw89
                refine a_take 0 (listed' := #[true, false, false, false, false, false, false, false, false, false, false, false]) rfl (by kernel_rfl) (by kernel_rfl) (by kernel_rfl) rfl rfl rfl rfl (fun w => x_move (.pointer (some ⟨g, 0, none⟩)) rfl w) ?_
                refine a_take 1 (listed' := #[true, true, false, false, false, false, false, false, false, false, false, false]) rfl (by kernel_rfl) (by kernel_rfl) (by kernel_rfl) rfl rfl rfl rfl (fun w => x_move (.pointer (some ⟨g, 0, none⟩)) rfl w) ?_
                refine a_take 2 (listed' := #[true, true, true, false, false, false, false, false, false, false, false, false]) rfl (by kernel_rfl) (by kernel_rfl) (by kernel_rfl) rfl rfl rfl rfl (fun w => x_nilCheck (.pointer (some ⟨g, 0, none⟩)) rfl ⟨_, rfl⟩ w) ?_
                refine a_take 3 (listed' := #[true, true, true, true, false, false, false, false, false, false, false, false]) rfl (by kernel_rfl) (by kernel_rfl) (by kernel_rfl) rfl rfl rfl rfl (fun w => x_fieldAddr 62 2 2 2 60 rfl fi_62_2 rfl w) ?_
                refine a_all (rs := [4, 6]) (by kernel_rfl) (by simp) ?_
                refine a_cons ⟨_, rfl, ?_⟩ (a_cons ⟨_, rfl, ?_⟩ (fun x hx => absurd hx (by simp)))
                · skip
                  refine s_load (.slice pp8 Ps11.length cc9) ag_60 rfl (H90.blk_at (i := 2) rfl) rfl rfl ?_
                  change AnyG _ _ _ _ #[true, true, true, true, true, false, false, false, false, false, false, false] _ _
                  refine a_all (rs := [5, 6]) (by kernel_rfl) (by simp) ?_
                  refine a_cons ⟨_, rfl, ?_⟩ (a_cons ⟨_, rfl, ?_⟩ (fun x hx => absurd hx (by simp)))
                  · skip
                    have H91 := Row.nil_intro H90 51 4
                    refine s_append H91 0 rfl rfl rfl (Im.rd H91 (i := 6) rfl) ap_60 (by decide) (by unfold maxLen; omega) (by omega) (n' := Ps11.length) (xs' := Ps11.flatMap pcCell) (by omega) (by first | rfl | simp) rfl ?_; intro vv92 w93 H94 hn95
                    obtain ⟨pp96, cc97, rfl⟩ := Row.slice H94 (i := 0) rfl
                    change AnyG _ _ _ _ #[true, true, true, true, true, true, false, false, false, false, false, false] _ _
                    refine a_all (rs := [6]) (by kernel_rfl) (by simp) ?_
                    refine a_cons ⟨_, rfl, ?_⟩ (fun x hx => absurd hx (by simp))
                    refine s_loadAgg [.int .i64 x.v.op.v, .int .i64 x.v.many.v, .int .i64 x.v.index.v, .slice pp70 x.v.data.length cc71] 4 ag_51 rfl (H94.blk_at (i := 8) rfl) (Nat.le_of_ble_eq_true rfl) rfl rfl ?_
                    change AnyG _ _ _ _ #[true, true, true, true, true, true, true, false, false, false, false, false] _ _
                    refine a_all (rs := [7]) (by kernel_rfl) (by simp) ?_
                    refine a_cons ⟨_, rfl, ?_⟩ (fun x hx => absurd hx (by simp))
                    refine s_buildSlice H94 4 1 (cs := #[.int .i64 x.v.op.v, .int .i64 x.v.many.v, .int .i64 x.v.index.v, .slice pp70 x.v.data.length cc71]) #[.int .i64 0, .int .i64 0, .int .i64 0, .slice none 0 0] el_60 ze_51 (by decide) (by decide) (by kernel_rfl) rfl ?_; intro bk98 w99 H100
                    change AnyG _ _ _ _ #[true, true, true, true, true, true, true, true, false, false, false, false] _ _
                    refine a_all (rs := [8]) (by kernel_rfl) (by simp) ?_
                    refine a_cons ⟨_, rfl, ?_⟩ (fun x hx => absurd hx (by simp))
                    refine s_append H100 1 rfl rfl rfl (rd_blk (H100.blk_at (i := 0) rfl) rfl (Nat.le_of_ble_eq_true rfl) (by simp [Value.oneCell'])) ap_60 (by decide) (by unfold maxLen; omega) (by omega) (n' := Ps11.length + 1) (xs' := Ps11.flatMap pcCell ++ ([.int .i64 x.v.op.v, .int .i64 x.v.many.v, .int .i64 x.v.index.v, .slice pp70 x.v.data.length cc71] : List Value)) (by omega) (by first | rfl | simp) rfl ?_; intro vv101 w102 H103 hn104
                    obtain ⟨pp105, cc106, rfl⟩ := Row.slice H103 (i := 1) rfl
                    change AnyG _ _ _ _ #[true, true, true, true, true, true, true, true, true, false, false, false] _ _
                    refine a_take 9 (listed' := #[true, true, true, true, true, true, true, true, true, true, false, false]) rfl (by kernel_rfl) (by kernel_rfl) (by kernel_rfl) rfl rfl rfl rfl (fun w => x_nilCheck (.pointer (some ⟨g, 0, none⟩)) rfl ⟨_, rfl⟩ w) ?_
                    refine a_take 10 (listed' := #[true, true, true, true, true, true, true, true, true, true, true, false]) rfl (by kernel_rfl) (by kernel_rfl) (by kernel_rfl) rfl rfl rfl rfl (fun w => x_fieldAddr 62 2 2 2 60 rfl fi_62_2 rfl w) ?_
                    refine a_all (rs := [11]) (by kernel_rfl) (by simp) ?_
                    refine a_cons ⟨_, rfl, ?_⟩ (fun x hx => absurd hx (by simp))
                    refine s_store H103 4 (.slice pp105 (Ps11.length + 1) cc106) rfl rfl rfl sz_60 rfl (Nat.le_of_ble_eq_true rfl) rfl (cs' := #[.int .i64 s.op.v, .slice pp6 L10.length cc7, .slice pp105 (Ps11.length + 1) cc106, .bool s.ov]) rfl ?_; intro w107 H108
                    change AnyG _ _ _ _ #[true, true, true, true, true, true, true, true, true, true, true, true] _ _
                    refine a_done (by kernel_rfl) ?_
                    exact join74 (bk98, pp105, cc106) _ _ H108 ⟨rfl, rfl, rfl, trivial⟩
                  · skip
                    refine s_loadAgg [.int .i64 x.v.op.v, .int .i64 x.v.many.v, .int .i64 x.v.index.v, .slice pp70 x.v.data.length cc71] 4 ag_51 rfl (H90.blk_at (i := 7) rfl) (Nat.le_of_ble_eq_true rfl) rfl rfl ?_
                    change AnyG _ _ _ _ #[true, true, true, true, true, false, true, false, false, false, false, false] _ _
                    refine a_all (rs := [5, 7]) (by kernel_rfl) (by simp) ?_
                    refine a_cons ⟨_, rfl, ?_⟩ (a_cons ⟨_, rfl, ?_⟩ (fun x hx => absurd hx (by simp)))
                    · skip
                      have H109 := Row.nil_intro H90 51 4
                      refine s_append H109 0 rfl rfl rfl (Im.rd H109 (i := 6) rfl) ap_60 (by decide) (by unfold maxLen; omega) (by omega) (n' := Ps11.length) (xs' := Ps11.flatMap pcCell) (by omega) (by first | rfl | simp) rfl ?_; intro vv110 w111 H112 hn113
                      obtain ⟨pp114, cc115, rfl⟩ := Row.slice H112 (i := 0) rfl
                      change AnyG _ _ _ _ #[true, true, true, true, true, true, true, false, false, false, false, false] _ _
                      refine a_all (rs := [7]) (by kernel_rfl) (by simp) ?_
                      refine a_cons ⟨_, rfl, ?_⟩ (fun x hx => absurd hx (by simp))
                      refine s_buildSlice H112 4 1 (cs := #[.int .i64 x.v.op.v, .int .i64 x.v.many.v, .int .i64 x.v.index.v, .slice pp70 x.v.data.length cc71]) #[.int .i64 0, .int .i64 0, .int .i64 0, .slice none 0 0] el_60 ze_51 (by decide) (by decide) (by kernel_rfl) rfl ?_; intro bk116 w117 H118
                      change AnyG _ _ _ _ #[true, true, true, true, true, true, true, true, false, false, false, false] _ _
                      refine a_all (rs := [8]) (by kernel_rfl) (by simp) ?_
                      refine a_cons ⟨_, rfl, ?_⟩ (fun x hx => absurd hx (by simp))
                      refine s_append H118 1 rfl rfl rfl (rd_blk (H118.blk_at (i := 0) rfl) rfl (Nat.le_of_ble_eq_true rfl) (by simp [Value.oneCell'])) ap_60 (by decide) (by unfold maxLen; omega) (by omega) (n' := Ps11.length + 1) (xs' := Ps11.flatMap pcCell ++ ([.int .i64 x.v.op.v, .int .i64 x.v.many.v, .int .i64 x.v.index.v, .slice pp70 x.v.data.length cc71] : List Value)) (by omega) (by first | rfl | simp) rfl ?_; intro vv119 w120 H121 hn122
                      obtain ⟨pp123, cc124, rfl⟩ := Row.slice H121 (i := 1) rfl
                      change AnyG _ _ _ _ #[true, true, true, true, true, true, true, true, true, false, false, false] _ _
                      refine a_take 9 (listed' := #[true, true, true, true, true, true, true, true, true, true, false, false]) rfl (by kernel_rfl) (by kernel_rfl) (by kernel_rfl) rfl rfl rfl rfl (fun w => x_nilCheck (.pointer (some ⟨g, 0, none⟩)) rfl ⟨_, rfl⟩ w) ?_
                      refine a_take 10 (listed' := #[true, true, true, true, true, true, true, true, true, true, true, false]) rfl (by kernel_rfl) (by kernel_rfl) (by kernel_rfl) rfl rfl rfl rfl (fun w => x_fieldAddr 62 2 2 2 60 rfl fi_62_2 rfl w) ?_
                      refine a_all (rs := [11]) (by kernel_rfl) (by simp) ?_
                      refine a_cons ⟨_, rfl, ?_⟩ (fun x hx => absurd hx (by simp))
                      refine s_store H121 4 (.slice pp123 (Ps11.length + 1) cc124) rfl rfl rfl sz_60 rfl (Nat.le_of_ble_eq_true rfl) rfl (cs' := #[.int .i64 s.op.v, .slice pp6 L10.length cc7, .slice pp123 (Ps11.length + 1) cc124, .bool s.ov]) rfl ?_; intro w125 H126
                      change AnyG _ _ _ _ #[true, true, true, true, true, true, true, true, true, true, true, true] _ _
                      refine a_done (by kernel_rfl) ?_
                      exact join74 (bk116, pp123, cc124) _ _ H126 ⟨rfl, rfl, rfl, trivial⟩
                    · skip
                      refine s_buildSlice H90 4 1 (cs := #[.int .i64 x.v.op.v, .int .i64 x.v.many.v, .int .i64 x.v.index.v, .slice pp70 x.v.data.length cc71]) #[.int .i64 0, .int .i64 0, .int .i64 0, .slice none 0 0] el_60 ze_51 (by decide) (by decide) (by kernel_rfl) rfl ?_; intro bk127 w128 H129
                      change AnyG _ _ _ _ #[true, true, true, true, true, false, true, true, false, false, false, false] _ _
                      refine a_all (rs := [5]) (by kernel_rfl) (by simp) ?_
                      refine a_cons ⟨_, rfl, ?_⟩ (fun x hx => absurd hx (by simp))
                      have H130 := Row.nil_intro H129 51 4
                      refine s_append H130 0 rfl rfl rfl (Im.rd H130 (i := 7) rfl) ap_60 (by decide) (by unfold maxLen; omega) (by omega) (n' := Ps11.length) (xs' := Ps11.flatMap pcCell) (by omega) (by first | rfl | simp) rfl ?_; intro vv131 w132 H133 hn134
                      obtain ⟨pp135, cc136, rfl⟩ := Row.slice H133 (i := 0) rfl
                      change AnyG _ _ _ _ #[true, true, true, true, true, true, true, true, false, false, false, false] _ _
                      refine a_all (rs := [8]) (by kernel_rfl) (by simp) ?_
                      refine a_cons ⟨_, rfl, ?_⟩ (fun x hx => absurd hx (by simp))
                      refine s_append H133 0 rfl rfl rfl (rd_blk (H133.blk_at (i := 1) rfl) rfl (Nat.le_of_ble_eq_true rfl) (by simp [Value.oneCell'])) ap_60 (by decide) (by unfold maxLen; omega) (by omega) (n' := Ps11.length + 1) (xs' := Ps11.flatMap pcCell ++ ([.int .i64 x.v.op.v, .int .i64 x.v.many.v, .int .i64 x.v.index.v, .slice pp70 x.v.data.length cc71] : List Value)) (by omega) (by first | rfl | simp) rfl ?_; intro vv137 w138 H139 hn140
                      obtain ⟨pp141, cc142, rfl⟩ := Row.slice H139 (i := 0) rfl
                      change AnyG _ _ _ _ #[true, true, true, true, true, true, true, true, true, false, false, false] _ _
                      refine a_take 9 (listed' := #[true, true, true, true, true, true, true, true, true, true, false, false]) rfl (by kernel_rfl) (by kernel_rfl) (by kernel_rfl) rfl rfl rfl rfl (fun w => x_nilCheck (.pointer (some ⟨g, 0, none⟩)) rfl ⟨_, rfl⟩ w) ?_
                      refine a_take 10 (listed' := #[true, true, true, true, true, true, true, true, true, true, true, false]) rfl (by kernel_rfl) (by kernel_rfl) (by kernel_rfl) rfl rfl rfl rfl (fun w => x_fieldAddr 62 2 2 2 60 rfl fi_62_2 rfl w) ?_
                      refine a_all (rs := [11]) (by kernel_rfl) (by simp) ?_
                      refine a_cons ⟨_, rfl, ?_⟩ (fun x hx => absurd hx (by simp))
                      refine s_store H139 4 (.slice pp141 (Ps11.length + 1) cc142) rfl rfl rfl sz_60 rfl (Nat.le_of_ble_eq_true rfl) rfl (cs' := #[.int .i64 s.op.v, .slice pp6 L10.length cc7, .slice pp141 (Ps11.length + 1) cc142, .bool s.ov]) rfl ?_; intro w143 H144
                      change AnyG _ _ _ _ #[true, true, true, true, true, true, true, true, true, true, true, true] _ _
                      refine a_done (by kernel_rfl) ?_
                      have H145 : St W w143 (itsA L10 :: Im 4 (.slice pp8 Ps11.length cc9) Ps11.length (Ps11.flatMap pcCell) :: pcA Ps11 :: blk bk2 (.cells #[.int .i64 x.v.op.v, .int .i64 x.v.many.v, .int .i64 x.v.index.v, .slice pp70 x.v.data.length cc71] 51 (0, 0)) :: Im 1 (.slice x.p x.v.data.length x.c) x.v.data.length (x.v.data.flatMap u8c) :: Row 51 4 (.slice pp141 (Ps11.length + 1) cc142) (Ps11.length + 1) (Ps11.flatMap pcCell ++ ([.int .i64 x.v.op.v, .int .i64 x.v.many.v, .int .i64 x.v.index.v, .slice pp70 x.v.data.length cc71] : List Value)) :: blk bk127 (.cells #[.int .i64 x.v.op.v, .int .i64 x.v.many.v, .int .i64 x.v.index.v, .slice pp70 x.v.data.length cc71] 51 (0, 0)) :: Row 5 1 (.slice pp70 x.v.data.length cc71) x.v.data.length (x.v.data.flatMap u8c) :: imi (0 < Ps11.length) gA25 (.cells kA27 eA28 zA29) :: blk g (.cells #[.int .i64 s.op.v, .slice pp6 L10.length cc7, .slice pp141 (Ps11.length + 1) cc142, .bool s.ov] 62 (0, 0)) :: Im 6 (.slice pp6 L10.length cc7) L10.length (L10.flatMap itCell) :: (F.set i emp)) := (((((H144.move 10 rfl).move 10 rfl).move 10 rfl).move 10 rfl).move 10 rfl)
                      have H146 : St W w143 (Row 51 4 (.slice pp141 (Ps11.length + 1) cc142) (Ps11.length + 1) (Ps11.flatMap pcCell ++ ([.int .i64 x.v.op.v, .int .i64 x.v.many.v, .int .i64 x.v.index.v, .slice pp70 x.v.data.length cc71] : List Value)) :: Row 5 1 (.slice pp70 x.v.data.length cc71) x.v.data.length (x.v.data.flatMap u8c) :: imi (0 < Ps11.length) gA25 (.cells kA27 eA28 zA29) :: blk g (.cells #[.int .i64 s.op.v, .slice pp6 L10.length cc7, .slice pp141 (Ps11.length + 1) cc142, .bool s.ov] 62 (0, 0)) :: Im 6 (.slice pp6 L10.length cc7) L10.length (L10.flatMap itCell) :: itsA L10 :: Im 4 (.slice pp8 Ps11.length cc9) Ps11.length (Ps11.flatMap pcCell) :: pcA Ps11 :: blk bk2 (.cells #[.int .i64 x.v.op.v, .int .i64 x.v.many.v, .int .i64 x.v.index.v, .slice pp70 x.v.data.length cc71] 51 (0, 0)) :: Im 1 (.slice x.p x.v.data.length x.c) x.v.data.length (x.v.data.flatMap u8c) :: blk bk127 (.cells #[.int .i64 x.v.op.v, .int .i64 x.v.many.v, .int .i64 x.v.index.v, .slice pp70 x.v.data.length cc71] 51 (0, 0)) :: (F.set i emp)) := (((((H145.move 10 rfl).move 10 rfl).move 10 rfl).move 10 rfl).move 9 rfl)
                      have H147 : St W w143 (blk bk127 (.cells #[.int .i64 x.v.op.v, .int .i64 x.v.many.v, .int .i64 x.v.index.v, .slice pp70 x.v.data.length cc71] 51 (0, 0)) :: Row 51 4 (.slice pp141 (Ps11.length + 1) cc142) (Ps11.length + 1) (Ps11.flatMap pcCell ++ ([.int .i64 x.v.op.v, .int .i64 x.v.many.v, .int .i64 x.v.index.v, .slice pp70 x.v.data.length cc71] : List Value)) :: Row 5 1 (.slice pp70 x.v.data.length cc71) x.v.data.length (x.v.data.flatMap u8c) :: imi (0 < Ps11.length) gA25 (.cells kA27 eA28 zA29) :: blk g (.cells #[.int .i64 s.op.v, .slice pp6 L10.length cc7, .slice pp141 (Ps11.length + 1) cc142, .bool s.ov] 62 (0, 0)) :: Im 6 (.slice pp6 L10.length cc7) L10.length (L10.flatMap itCell) :: itsA L10 :: Im 4 (.slice pp8 Ps11.length cc9) Ps11.length (Ps11.flatMap pcCell) :: pcA Ps11 :: blk bk2 (.cells #[.int .i64 x.v.op.v, .int .i64 x.v.many.v, .int .i64 x.v.index.v, .slice pp70 x.v.data.length cc71] 51 (0, 0)) :: Im 1 (.slice x.p x.v.data.length x.c) x.v.data.length (x.v.data.flatMap u8c) :: (F.set i emp)) := (H146.move 10 rfl)
                      exact join74 (bk127, pp141, cc142) _ _ H147 ⟨rfl, rfl, rfl, trivial⟩
                · skip
                  refine s_loadAgg [.int .i64 x.v.op.v, .int .i64 x.v.many.v, .int .i64 x.v.index.v, .slice pp70 x.v.data.length cc71] 4 ag_51 rfl (H90.blk_at (i := 7) rfl) (Nat.le_of_ble_eq_true rfl) rfl rfl ?_
                  change AnyG _ _ _ _ #[true, true, true, true, false, false, true, false, false, false, false, false] _ _
                  refine a_all (rs := [4, 7]) (by kernel_rfl) (by simp) ?_
                  refine a_cons ⟨_, rfl, ?_⟩ (a_cons ⟨_, rfl, ?_⟩ (fun x hx => absurd hx (by simp)))
                  · skip
                    refine s_load (.slice pp8 Ps11.length cc9) ag_60 rfl (H90.blk_at (i := 2) rfl) rfl rfl ?_
                    change AnyG _ _ _ _ #[true, true, true, true, true, false, true, false, false, false, false, false] _ _
                    refine a_all (rs := [5, 7]) (by kernel_rfl) (by simp) ?_
                    refine a_cons ⟨_, rfl, ?_⟩ (a_cons ⟨_, rfl, ?_⟩ (fun x hx => absurd hx (by simp)))
                    · skip
                      have H148 := Row.nil_intro H90 51 4
                      refine s_append H148 0 rfl rfl rfl (Im.rd H148 (i := 6) rfl) ap_60 (by decide) (by unfold maxLen; omega) (by omega) (n' := Ps11.length) (xs' := Ps11.flatMap pcCell) (by omega) (by first | rfl | simp) rfl ?_; intro vv149 w150 H151 hn152
                      obtain ⟨pp153, cc154, rfl⟩ := Row.slice H151 (i := 0) rfl
                      change AnyG _ _ _ _ #[true, true, true, true, true, true, true, false, false, false, false, false] _ _
                      refine a_all (rs := [7]) (by kernel_rfl) (by simp) ?_
                      refine a_cons ⟨_, rfl, ?_⟩ (fun x hx => absurd hx (by simp))
                      refine s_buildSlice H151 4 1 (cs := #[.int .i64 x.v.op.v, .int .i64 x.v.many.v, .int .i64 x.v.index.v, .slice pp70 x.v.data.length cc71]) #[.int .i64 0, .int .i64 0, .int .i64 0, .slice none 0 0] el_60 ze_51 (by decide) (by decide) (by kernel_rfl) rfl ?_; intro bk155 w156 H157
                      change AnyG _ _ _ _ #[true, true, true, true, true, true, true, true, false, false, false, false] _ _
                      refine a_all (rs := [8]) (by kernel_rfl) (by simp) ?_
                      refine a_cons ⟨_, rfl, ?_⟩ (fun x hx => absurd hx (by simp))
                      refine s_append H157 1 rfl rfl rfl (rd_blk (H157.blk_at (i := 0) rfl) rfl (Nat.le_of_ble_eq_true rfl) (by simp [Value.oneCell'])) ap_60 (by decide) (by unfold maxLen; omega) (by omega) (n' := Ps11.length + 1) (xs' := Ps11.flatMap pcCell ++ ([.int .i64 x.v.op.v, .int .i64 x.v.many.v, .int .i64 x.v.index.v, .slice pp70 x.v.data.length cc71] : List Value)) (by omega) (by first | rfl | simp) rfl ?_; intro vv158 w159 H160 hn161
                      obtain ⟨pp162, cc163, rfl⟩ := Row.slice H160 (i := 1) rfl
                      change AnyG _ _ _ _ #[true, true, true, true, true, true, true, true, true, false, false, false] _ _
                      refine a_take 9 (listed' := #[true, true, true, true, true, true, true, true, true, true, false, false]) rfl (by kernel_rfl) (by kernel_rfl) (by kernel_rfl) rfl rfl rfl rfl (fun w => x_nilCheck (.pointer (some ⟨g, 0, none⟩)) rfl ⟨_, rfl⟩ w) ?_
                      refine a_take 10 (listed' := #[true, true, true, true, true, true, true, true, true, true, true, false]) rfl (by kernel_rfl) (by kernel_rfl) (by kernel_rfl) rfl rfl rfl rfl (fun w => x_fieldAddr 62 2 2 2 60 rfl fi_62_2 rfl w) ?_
                      refine a_all (rs := [11]) (by kernel_rfl) (by simp) ?_
                      refine a_cons ⟨_, rfl, ?_⟩ (fun x hx => absurd hx (by simp))
                      refine s_store H160 4 (.slice pp162 (Ps11.length + 1) cc163) rfl rfl rfl sz_60 rfl (Nat.le_of_ble_eq_true rfl) rfl (cs' := #[.int .i64 s.op.v, .slice pp6 L10.length cc7, .slice pp162 (Ps11.length + 1) cc163, .bool s.ov]) rfl ?_; intro w164 H165
                      change AnyG _ _ _ _ #[true, true, true, true, true, true, true, true, true, true, true, true] _ _
                      refine a_done (by kernel_rfl) ?_
                      exact join74 (bk155, pp162, cc163) _ _ H165 ⟨rfl, rfl, rfl, trivial⟩
                    · skip
                      refine s_buildSlice H90 4 1 (cs := #[.int .i64 x.v.op.v, .int .i64 x.v.many.v, .int .i64 x.v.index.v, .slice pp70 x.v.data.length cc71]) #[.int .i64 0, .int .i64 0, .int .i64 0, .slice none 0 0] el_60 ze_51 (by decide) (by decide) (by kernel_rfl) rfl ?_; intro bk166 w167 H168
                      change AnyG _ _ _ _ #[true, true, true, true, true, false, true, true, false, false, false, false] _ _
                      refine a_all (rs := [5]) (by kernel_rfl) (by simp) ?_
                      refine a_cons ⟨_, rfl, ?_⟩ (fun x hx => absurd hx (by simp))
                      have H169 := Row.nil_intro H168 51 4
                      refine s_append H169 0 rfl rfl rfl (Im.rd H169 (i := 7) rfl) ap_60 (by decide) (by unfold maxLen; omega) (by omega) (n' := Ps11.length) (xs' := Ps11.flatMap pcCell) (by omega) (by first | rfl | simp) rfl ?_; intro vv170 w171 H172 hn173
                      obtain ⟨pp174, cc175, rfl⟩ := Row.slice H172 (i := 0) rfl
                      change AnyG _ _ _ _ #[true, true, true, true, true, true, true, true, false, false, false, false] _ _
                      refine a_all (rs := [8]) (by kernel_rfl) (by simp) ?_
                      refine a_cons ⟨_, rfl, ?_⟩ (fun x hx => absurd hx (by simp))
                      refine s_append H172 0 rfl rfl rfl (rd_blk (H172.blk_at (i := 1) rfl) rfl (Nat.le_of_ble_eq_true rfl) (by simp [Value.oneCell'])) ap_60 (by decide) (by unfold maxLen; omega) (by omega) (n' := Ps11.length + 1) (xs' := Ps11.flatMap pcCell ++ ([.int .i64 x.v.op.v, .int .i64 x.v.many.v, .int .i64 x.v.index.v, .slice pp70 x.v.data.length cc71] : List Value)) (by omega) (by first | rfl | simp) rfl ?_; intro vv176 w177 H178 hn179
                      obtain ⟨pp180, cc181, rfl⟩ := Row.slice H178 (i := 0) rfl
                      change AnyG _ _ _ _ #[true, true, true, true, true, true, true, true, true, false, false, false] _ _
                      refine a_take 9 (listed' := #[true, true, true, true, true, true, true, true, true, true, false, false]) rfl (by kernel_rfl) (by kernel_rfl) (by kernel_rfl) rfl rfl rfl rfl (fun w => x_nilCheck (.pointer (some ⟨g, 0, none⟩)) rfl ⟨_, rfl⟩ w) ?_
                      refine a_take 10 (listed' := #[true, true, true, true, true, true, true, true, true, true, true, false]) rfl (by kernel_rfl) (by kernel_rfl) (by kernel_rfl) rfl rfl rfl rfl (fun w => x_fieldAddr 62 2 2 2 60 rfl fi_62_2 rfl w) ?_
                      refine a_all (rs := [11]) (by kernel_rfl) (by simp) ?_
                      refine a_cons ⟨_, rfl, ?_⟩ (fun x hx => absurd hx (by simp))
                      refine s_store H178 4 (.slice pp180 (Ps11.length + 1) cc181) rfl rfl rfl sz_60 rfl (Nat.le_of_ble_eq_true rfl) rfl (cs' := #[.int .i64 s.op.v, .slice pp6 L10.length cc7, .slice pp180 (Ps11.length + 1) cc181, .bool s.ov]) rfl ?_; intro w182 H183
                      change AnyG _ _ _ _ #[true, true, true, true, true, true, true, true, true, true, true, true] _ _
                      refine a_done (by kernel_rfl) ?_
                      have H184 : St W w182 (itsA L10 :: Im 4 (.slice pp8 Ps11.length cc9) Ps11.length (Ps11.flatMap pcCell) :: pcA Ps11 :: blk bk2 (.cells #[.int .i64 x.v.op.v, .int .i64 x.v.many.v, .int .i64 x.v.index.v, .slice pp70 x.v.data.length cc71] 51 (0, 0)) :: Im 1 (.slice x.p x.v.data.length x.c) x.v.data.length (x.v.data.flatMap u8c) :: Row 51 4 (.slice pp180 (Ps11.length + 1) cc181) (Ps11.length + 1) (Ps11.flatMap pcCell ++ ([.int .i64 x.v.op.v, .int .i64 x.v.many.v, .int .i64 x.v.index.v, .slice pp70 x.v.data.length cc71] : List Value)) :: blk bk166 (.cells #[.int .i64 x.v.op.v, .int .i64 x.v.many.v, .int .i64 x.v.index.v, .slice pp70 x.v.data.length cc71] 51 (0, 0)) :: Row 5 1 (.slice pp70 x.v.data.length cc71) x.v.data.length (x.v.data.flatMap u8c) :: imi (0 < Ps11.length) gA25 (.cells kA27 eA28 zA29) :: blk g (.cells #[.int .i64 s.op.v, .slice pp6 L10.length cc7, .slice pp180 (Ps11.length + 1) cc181, .bool s.ov] 62 (0, 0)) :: Im 6 (.slice pp6 L10.length cc7) L10.length (L10.flatMap itCell) :: (F.set i emp)) := (((((H183.move 10 rfl).move 10 rfl).move 10 rfl).move 10 rfl).move 10 rfl)
                      have H185 : St W w182 (Row 51 4 (.slice pp180 (Ps11.length + 1) cc181) (Ps11.length + 1) (Ps11.flatMap pcCell ++ ([.int .i64 x.v.op.v, .int .i64 x.v.many.v, .int .i64 x.v.index.v, .slice pp70 x.v.data.length cc71] : List Value)) :: Row 5 1 (.slice pp70 x.v.data.length cc71) x.v.data.length (x.v.data.flatMap u8c) :: imi (0 < Ps11.length) gA25 (.cells kA27 eA28 zA29) :: blk g (.cells #[.int .i64 s.op.v, .slice pp6 L10.length cc7, .slice pp180 (Ps11.length + 1) cc181, .bool s.ov] 62 (0, 0)) :: Im 6 (.slice pp6 L10.length cc7) L10.length (L10.flatMap itCell) :: itsA L10 :: Im 4 (.slice pp8 Ps11.length cc9) Ps11.length (Ps11.flatMap pcCell) :: pcA Ps11 :: blk bk2 (.cells #[.int .i64 x.v.op.v, .int .i64 x.v.many.v, .int .i64 x.v.index.v, .slice pp70 x.v.data.length cc71] 51 (0, 0)) :: Im 1 (.slice x.p x.v.data.length x.c) x.v.data.length (x.v.data.flatMap u8c) :: blk bk166 (.cells #[.int .i64 x.v.op.v, .int .i64 x.v.many.v, .int .i64 x.v.index.v, .slice pp70 x.v.data.length cc71] 51 (0, 0)) :: (F.set i emp)) := (((((H184.move 10 rfl).move 10 rfl).move 10 rfl).move 10 rfl).move 9 rfl)
                      have H186 : St W w182 (blk bk166 (.cells #[.int .i64 x.v.op.v, .int .i64 x.v.many.v, .int .i64 x.v.index.v, .slice pp70 x.v.data.length cc71] 51 (0, 0)) :: Row 51 4 (.slice pp180 (Ps11.length + 1) cc181) (Ps11.length + 1) (Ps11.flatMap pcCell ++ ([.int .i64 x.v.op.v, .int .i64 x.v.many.v, .int .i64 x.v.index.v, .slice pp70 x.v.data.length cc71] : List Value)) :: Row 5 1 (.slice pp70 x.v.data.length cc71) x.v.data.length (x.v.data.flatMap u8c) :: imi (0 < Ps11.length) gA25 (.cells kA27 eA28 zA29) :: blk g (.cells #[.int .i64 s.op.v, .slice pp6 L10.length cc7, .slice pp180 (Ps11.length + 1) cc181, .bool s.ov] 62 (0, 0)) :: Im 6 (.slice pp6 L10.length cc7) L10.length (L10.flatMap itCell) :: itsA L10 :: Im 4 (.slice pp8 Ps11.length cc9) Ps11.length (Ps11.flatMap pcCell) :: pcA Ps11 :: blk bk2 (.cells #[.int .i64 x.v.op.v, .int .i64 x.v.many.v, .int .i64 x.v.index.v, .slice pp70 x.v.data.length cc71] 51 (0, 0)) :: Im 1 (.slice x.p x.v.data.length x.c) x.v.data.length (x.v.data.flatMap u8c) :: (F.set i emp)) := (H185.move 10 rfl)
                      exact join74 (bk166, pp180, cc181) _ _ H186 ⟨rfl, rfl, rfl, trivial⟩
                  · skip
                    refine s_buildSlice H90 4 1 (cs := #[.int .i64 x.v.op.v, .int .i64 x.v.many.v, .int .i64 x.v.index.v, .slice pp70 x.v.data.length cc71]) #[.int .i64 0, .int .i64 0, .int .i64 0, .slice none 0 0] el_60 ze_51 (by decide) (by decide) (by kernel_rfl) rfl ?_; intro bk187 w188 H189
                    change AnyG _ _ _ _ #[true, true, true, true, false, false, true, true, false, false, false, false] _ _
                    refine a_all (rs := [4]) (by kernel_rfl) (by simp) ?_
                    refine a_cons ⟨_, rfl, ?_⟩ (fun x hx => absurd hx (by simp))
                    refine s_load (.slice pp8 Ps11.length cc9) ag_60 rfl (H189.blk_at (i := 3) rfl) rfl rfl ?_
                    change AnyG _ _ _ _ #[true, true, true, true, true, false, true, true, false, false, false, false] _ _
                    refine a_all (rs := [5]) (by kernel_rfl) (by simp) ?_
                    refine a_cons ⟨_, rfl, ?_⟩ (fun x hx => absurd hx (by simp))
                    have H190 := Row.nil_intro H189 51 4
                    refine s_append H190 0 rfl rfl rfl (Im.rd H190 (i := 7) rfl) ap_60 (by decide) (by unfold maxLen; omega) (by omega) (n' := Ps11.length) (xs' := Ps11.flatMap pcCell) (by omega) (by first | rfl | simp) rfl ?_; intro vv191 w192 H193 hn194
                    obtain ⟨pp195, cc196, rfl⟩ := Row.slice H193 (i := 0) rfl
                    change AnyG _ _ _ _ #[true, true, true, true, true, true, true, true, false, false, false, false] _ _
                    refine a_all (rs := [8]) (by kernel_rfl) (by simp) ?_
                    refine a_cons ⟨_, rfl, ?_⟩ (fun x hx => absurd hx (by simp))
                    refine s_append H193 0 rfl rfl rfl (rd_blk (H193.blk_at (i := 1) rfl) rfl (Nat.le_of_ble_eq_true rfl) (by simp [Value.oneCell'])) ap_60 (by decide) (by unfold maxLen; omega) (by omega) (n' := Ps11.length + 1) (xs' := Ps11.flatMap pcCell ++ ([.int .i64 x.v.op.v, .int .i64 x.v.many.v, .int .i64 x.v.index.v, .slice pp70 x.v.data.length cc71] : List Value)) (by omega) (by first | rfl | simp) rfl ?_; intro vv197 w198 H199 hn200
                    obtain ⟨pp201, cc202, rfl⟩ := Row.slice H199 (i := 0) rfl
                    change AnyG _ _ _ _ #[true, true, true, true, true, true, true, true, true, false, false, false] _ _
                    refine a_take 9 (listed' := #[true, true, true, true, true, true, true, true, true, true, false, false]) rfl (by kernel_rfl) (by kernel_rfl) (by kernel_rfl) rfl rfl rfl rfl (fun w => x_nilCheck (.pointer (some ⟨g, 0, none⟩)) rfl ⟨_, rfl⟩ w) ?_
                    refine a_take 10 (listed' := #[true, true, true, true, true, true, true, true, true, true, true, false]) rfl (by kernel_rfl) (by kernel_rfl) (by kernel_rfl) rfl rfl rfl rfl (fun w => x_fieldAddr 62 2 2 2 60 rfl fi_62_2 rfl w) ?_
                    refine a_all (rs := [11]) (by kernel_rfl) (by simp) ?_
                    refine a_cons ⟨_, rfl, ?_⟩ (fun x hx => absurd hx (by simp))
                    refine s_store H199 4 (.slice pp201 (Ps11.length + 1) cc202) rfl rfl rfl sz_60 rfl (Nat.le_of_ble_eq_true rfl) rfl (cs' := #[.int .i64 s.op.v, .slice pp6 L10.length cc7, .slice pp201 (Ps11.length + 1) cc202, .bool s.ov]) rfl ?_; intro w203 H204
                    change AnyG _ _ _ _ #[true, true, true, true, true, true, true, true, true, true, true, true] _ _
                    refine a_done (by kernel_rfl) ?_
                    have H205 : St W w203 (itsA L10 :: Im 4 (.slice pp8 Ps11.length cc9) Ps11.length (Ps11.flatMap pcCell) :: pcA Ps11 :: blk bk2 (.cells #[.int .i64 x.v.op.v, .int .i64 x.v.many.v, .int .i64 x.v.index.v, .slice pp70 x.v.data.length cc71] 51 (0, 0)) :: Im 1 (.slice x.p x.v.data.length x.c) x.v.data.length (x.v.data.flatMap u8c) :: Row 51 4 (.slice pp201 (Ps11.length + 1) cc202) (Ps11.length + 1) (Ps11.flatMap pcCell ++ ([.int .i64 x.v.op.v, .int .i64 x.v.many.v, .int .i64 x.v.index.v, .slice pp70 x.v.data.length cc71] : List Value)) :: blk bk187 (.cells #[.int .i64 x.v.op.v, .int .i64 x.v.many.v, .int .i64 x.v.index.v, .slice pp70 x.v.data.length cc71] 51 (0, 0)) :: Row 5 1 (.slice pp70 x.v.data.length cc71) x.v.data.length (x.v.data.flatMap u8c) :: imi (0 < Ps11.length) gA25 (.cells kA27 eA28 zA29) :: blk g (.cells #[.int .i64 s.op.v, .slice pp6 L10.length cc7, .slice pp201 (Ps11.length + 1) cc202, .bool s.ov] 62 (0, 0)) :: Im 6 (.slice pp6 L10.length cc7) L10.length (L10.flatMap itCell) :: (F.set i emp)) := (((((H204.move 10 rfl).move 10 rfl).move 10 rfl).move 10 rfl).move 10 rfl)
                    have H206 : St W w203 (Row 51 4 (.slice pp201 (Ps11.length + 1) cc202) (Ps11.length + 1) (Ps11.flatMap pcCell ++ ([.int .i64 x.v.op.v, .int .i64 x.v.many.v, .int .i64 x.v.index.v, .slice pp70 x.v.data.length cc71] : List Value)) :: Row 5 1 (.slice pp70 x.v.data.length cc71) x.v.data.length (x.v.data.flatMap u8c) :: imi (0 < Ps11.length) gA25 (.cells kA27 eA28 zA29) :: blk g (.cells #[.int .i64 s.op.v, .slice pp6 L10.length cc7, .slice pp201 (Ps11.length + 1) cc202, .bool s.ov] 62 (0, 0)) :: Im 6 (.slice pp6 L10.length cc7) L10.length (L10.flatMap itCell) :: itsA L10 :: Im 4 (.slice pp8 Ps11.length cc9) Ps11.length (Ps11.flatMap pcCell) :: pcA Ps11 :: blk bk2 (.cells #[.int .i64 x.v.op.v, .int .i64 x.v.many.v, .int .i64 x.v.index.v, .slice pp70 x.v.data.length cc71] 51 (0, 0)) :: Im 1 (.slice x.p x.v.data.length x.c) x.v.data.length (x.v.data.flatMap u8c) :: blk bk187 (.cells #[.int .i64 x.v.op.v, .int .i64 x.v.many.v, .int .i64 x.v.index.v, .slice pp70 x.v.data.length cc71] 51 (0, 0)) :: (F.set i emp)) := (((((H205.move 10 rfl).move 10 rfl).move 10 rfl).move 10 rfl).move 9 rfl)
                    have H207 : St W w203 (blk bk187 (.cells #[.int .i64 x.v.op.v, .int .i64 x.v.many.v, .int .i64 x.v.index.v, .slice pp70 x.v.data.length cc71] 51 (0, 0)) :: Row 51 4 (.slice pp201 (Ps11.length + 1) cc202) (Ps11.length + 1) (Ps11.flatMap pcCell ++ ([.int .i64 x.v.op.v, .int .i64 x.v.many.v, .int .i64 x.v.index.v, .slice pp70 x.v.data.length cc71] : List Value)) :: Row 5 1 (.slice pp70 x.v.data.length cc71) x.v.data.length (x.v.data.flatMap u8c) :: imi (0 < Ps11.length) gA25 (.cells kA27 eA28 zA29) :: blk g (.cells #[.int .i64 s.op.v, .slice pp6 L10.length cc7, .slice pp201 (Ps11.length + 1) cc202, .bool s.ov] 62 (0, 0)) :: Im 6 (.slice pp6 L10.length cc7) L10.length (L10.flatMap itCell) :: itsA L10 :: Im 4 (.slice pp8 Ps11.length cc9) Ps11.length (Ps11.flatMap pcCell) :: pcA Ps11 :: blk bk2 (.cells #[.int .i64 x.v.op.v, .int .i64 x.v.many.v, .int .i64 x.v.index.v, .slice pp70 x.v.data.length cc71] 51 (0, 0)) :: Im 1 (.slice x.p x.v.data.length x.c) x.v.data.length (x.v.data.flatMap u8c) :: (F.set i emp)) := (H206.move 10 rfl)
                    exact join74 (bk187, pp201, cc202) _ _ H207 ⟨rfl, rfl, rfl, trivial⟩
      · intro join36
        refine g_quiet (fun w' => St W w' (imi (0 < Ps11.length) gA25 (.cells kA27 eA28 zA29) :: blk g (.cells #[.int .i64 s.op.v, .slice pp6 L10.length cc7, .slice pp8 Ps11.length cc9, .bool s.ov] 62 (0, 0)) :: Im 6 (.slice pp6 L10.length cc7) L10.length (L10.flatMap itCell) :: itsA L10 :: Im 4 (.slice pp8 Ps11.length cc9) Ps11.length (Ps11.flatMap pcCell) :: pcA Ps11 :: blk bk2 (.cells #[.int .i64 x.v.op.v, .int .i64 x.v.many.v, .int .i64 x.v.index.v, .slice x.p x.v.data.length x.c] 51 (0, 0)) :: Im 1 (.slice x.p x.v.data.length x.c) x.v.data.length (x.v.data.flatMap u8c) :: (F.set i emp))) mixed (by kernel_rfl) H34.drew ?_
        refine q_cons (q_val rfl rfl rfl (by intro w hw; exact x_fieldAddr 51 0 0 0 3 rfl fi_51_0 rfl w) ?_)
        refine q_cons (q_val rfl rfl rfl (by intro w hw; exact x_load (.int .i64 x.v.op.v) ag_3 rfl (hw.blk_at (i := 6) rfl) rfl) ?_)
        refine q_cons (q_val rfl rfl rfl (by intro w hw; exact x_move (.pointer (some ⟨g, 0, none⟩)) rfl w) ?_)
        refine q_cons (q_val rfl rfl rfl (by intro w hw; exact x_nilCheck (.pointer (some ⟨g, 0, none⟩)) rfl ⟨_, rfl⟩ w) ?_)
        refine q_cons (q_val rfl rfl rfl (by intro w hw; exact x_fieldAddr 62 0 0 0 3 rfl fi_62_0 rfl w) ?_)
        refine q_cons (q_val rfl rfl rfl (by intro w hw; exact x_load (.int .i64 s.op.v) ag_3 rfl (hw.blk_at (i := 1) rfl) rfl) ?_)
        by_cases hc208 : x.v.op.v = s.op.v
        · skip
          refine q_cons (q_val rfl rfl rfl (by intro w hw; exact x_neq false rfl rfl (ntrue hc208) w) ?_)
          refine q_cons (q_val rfl rfl rfl (by intro w hw; exact x_move (.bool false) rfl w) ?_)
          refine q_cons (q_take rfl rfl ?_)
          refine q_val rfl rfl rfl (by intro w hw; exact x_move (.pointer (some ⟨g, 0, none⟩)) rfl w) ?_
          refine q_cons (q_take rfl rfl ?_)
          refine q_val rfl rfl rfl (by intro w hw; exact x_nilCheck (.pointer (some ⟨g, 0, none⟩)) rfl ⟨_, rfl⟩ w) ?_
          refine q_cons (q_take rfl rfl ?_)
          refine q_val rfl rfl rfl (by intro w hw; exact x_fieldAddr 62 2 2 2 60 rfl fi_62_2 rfl w) ?_
          refine q_cons (q_take rfl rfl ?_)
          refine q_val rfl rfl rfl (by intro w hw; exact x_load (.slice pp8 Ps11.length cc9) ag_60 rfl (hw.blk_at (i := 1) rfl) rfl) ?_
          refine q_cons (q_take rfl rfl ?_)
          refine q_val rfl rfl rfl (by intro w hw; exact x_len Ps11.length rfl ⟨_, un_60⟩ w) ?_
          refine q_cons (q_take rfl rfl ?_)
          by_cases hc209 : (0 : Int) < (Ps11.length : Int)
          · skip
            refine q_val rfl rfl rfl (by intro w hw; exact x_gtr true rfl rfl (dtrue hc209) w) ?_
            refine q_cons (q_take rfl rfl ?_)
            refine q_val rfl rfl rfl (by intro w hw; exact x_move (.bool true) rfl w) ?_
            refine q_cons (q_take rfl rfl ?_)
            refine q_val rfl rfl rfl (by intro w hw; exact x_move (.pointer (some ⟨g, 0, none⟩)) rfl w) ?_
            refine q_cons (q_take rfl rfl ?_)
            refine q_val rfl rfl rfl (by intro w hw; exact x_nilCheck (.pointer (some ⟨g, 0, none⟩)) rfl ⟨_, rfl⟩ w) ?_
            refine q_cons (q_take rfl rfl ?_)
            refine q_val rfl rfl rfl (by intro w hw; exact x_fieldAddr 62 2 2 2 60 rfl fi_62_2 rfl w) ?_
            refine q_cons (q_take rfl rfl ?_)
            refine q_val rfl rfl rfl (by intro w hw; exact x_load (.slice pp8 Ps11.length cc9) ag_60 rfl (hw.blk_at (i := 1) rfl) rfl) ?_
            refine q_cons (q_take rfl rfl ?_)
            refine q_val rfl rfl rfl (by intro w hw; exact x_indexAddr gA25 (off := oA26) 0 4 (oA26 + 0 * 4) (by exact congrArg (fun z_ => Value.slice z_ Ps11.length cc9) (hp31 (by omega))) rfl el_60 (by omega) rfl w) ?_
            refine q_cons (q_take rfl rfl ?_)
            refine q_val rfl rfl rfl (by intro w hw; exact x_fieldAddr 51 1 1 (oA26 + 0 * 4 + 1) 3 rfl fi_51_1 rfl w) ?_
            refine q_cons (q_take rfl rfl ?_)
            refine q_val rfl rfl rfl (by intro w hw; exact x_load (.int .i64 ((Ps11.getD 0 default).v.many.v)) ag_3 rfl (hw.imi_at (i := 0) rfl (by omega)) (elem_cell (L := Ps11) (i := 0) pcCell_len (hx32 (by omega)) (by omega) default 1 (by decide) _ rfl)) ?_
            refine q_cons (q_take rfl rfl ?_)
            refine q_val rfl rfl rfl (by intro w hw; exact x_fieldAddr 51 1 1 1 3 rfl fi_51_1 rfl w) ?_
            refine q_cons (q_take rfl rfl ?_)
            refine q_val rfl rfl rfl (by intro w hw; exact x_load (.int .i64 x.v.many.v) ag_3 rfl (hw.blk_at (i := 6) rfl) rfl) ?_
            refine q_cons (q_take rfl rfl ?_)
            by_cases hc210 : (Ps11.getD 0 default).v.many.v = x.v.many.v
            · skip
              refine q_val rfl rfl rfl (by intro w hw; exact x_neq false rfl rfl (ntrue hc210) w) ?_
              refine q_cons (q_take rfl rfl ?_)
              refine q_val rfl rfl rfl (by intro w hw; exact x_pick_t (.bool false) rfl rfl w) ?_
              refine q_cons (q_val rfl rfl rfl (by intro w hw; exact x_pick_f (.bool false) rfl rfl w) ?_)
              refine q_nil ?_
              intro w211 H212
              have H213 : St W w211 (imi (0 < Ps11.length) gA25 (.cells kA27 eA28 zA29) :: blk g (.cells #[.int .i64 s.op.v, .slice pp6 L10.length cc7, .slice pp8 Ps11.length cc9, .bool s.ov] 62 (0, 0)) :: Im 6 (.slice pp6 L10.length cc7) L10.length (L10.flatMap itCell) :: itsA L10 :: Im 4 (.slice pp8 Ps11.length cc9) Ps11.length (Ps11.flatMap pcCell) :: pcA Ps11 :: blk bk2 (.cells #[.int .i64 x.v.op.v, .int .i64 x.v.many.v, .int .i64 x.v.index.v, .slice x.p x.v.data.length x.c] 51 (0, 0)) :: Im 1 (.slice x.p x.v.data.length x.c) x.v.data.length (x.v.data.flatMap u8c) :: (F.set i emp)) := ((((((((H212.move 7 rfl).move 7 rfl).move 7 rfl).move 7 rfl).move 7 rfl).move 7 rfl).move 7 rfl).move 7 rfl)
              exact join36 (false) _ _ ⟨(decide_eq_false (lp_okp hP13 (show pieceOk x.v = true from ck_yes hc22) (by omega) (fun h_ => by omega))).symm, H213⟩ ⟨by first | rfl | exact vint (by omega), by first | rfl | exact vint (by omega), by first | rfl | exact vint (by omega), by first | rfl | exact vint (by omega), by first | rfl | exact vint (by omega), trivial⟩
            · skip
              refine q_val rfl rfl rfl (by intro w hw; exact x_neq true rfl rfl (nfalse hc210) w) ?_
              refine q_cons (q_take rfl rfl ?_)
              refine q_val rfl rfl rfl (by intro w hw; exact x_pick_t (.bool true) rfl rfl w) ?_
              refine q_cons (q_val rfl rfl rfl (by intro w hw; exact x_pick_f (.bool true) rfl rfl w) ?_)
              refine q_nil ?_
              intro w214 H215
              have H216 : St W w214 (imi (0 < Ps11.length) gA25 (.cells kA27 eA28 zA29) :: blk g (.cells #[.int .i64 s.op.v, .slice pp6 L10.length cc7, .slice pp8 Ps11.length cc9, .bool s.ov] 62 (0, 0)) :: Im 6 (.slice pp6 L10.length cc7) L10.length (L10.flatMap itCell) :: itsA L10 :: Im 4 (.slice pp8 Ps11.length cc9) Ps11.length (Ps11.flatMap pcCell) :: pcA Ps11 :: blk bk2 (.cells #[.int .i64 x.v.op.v, .int .i64 x.v.many.v, .int .i64 x.v.index.v, .slice x.p x.v.data.length x.c] 51 (0, 0)) :: Im 1 (.slice x.p x.v.data.length x.c) x.v.data.length (x.v.data.flatMap u8c) :: (F.set i emp)) := ((((((((H215.move 7 rfl).move 7 rfl).move 7 rfl).move 7 rfl).move 7 rfl).move 7 rfl).move 7 rfl).move 7 rfl)
              exact join36 (true) _ _ ⟨(decide_eq_true (by first | exact lp_b2 (by assumption) | exact lp_b3p hP13 (by omega) (by assumption))).symm, H216⟩ ⟨by first | rfl | exact vint (by omega), by first | rfl | exact vint (by omega), by first | rfl | exact vint (by omega), by first | rfl | exact vint (by omega), by first | rfl | exact vint (by omega), trivial⟩
          · skip
            refine q_val rfl rfl rfl (by intro w hw; exact x_gtr false rfl rfl (dfalse hc209) w) ?_
            refine q_cons (q_take rfl rfl ?_)
            refine q_val rfl rfl rfl (by intro w hw; exact x_move (.bool false) rfl w) ?_
            refine q_cons (q_pass rfl rfl rfl rfl rfl ?_)
            refine q_cons (q_pass rfl rfl rfl rfl rfl ?_)
            refine q_cons (q_pass rfl rfl rfl rfl rfl ?_)
            refine q_cons (q_pass rfl rfl rfl rfl rfl ?_)
            refine q_cons (q_pass rfl rfl rfl rfl rfl ?_)
            refine q_cons (q_pass rfl rfl rfl rfl rfl ?_)
            refine q_cons (q_pass rfl rfl rfl rfl rfl ?_)
            refine q_cons (q_pass rfl rfl rfl rfl rfl ?_)
            refine q_cons (q_pass rfl rfl rfl rfl rfl ?_)
            refine q_cons (q_pass rfl rfl rfl rfl rfl ?_)
            refine q_cons (q_take rfl rfl ?_)
            refine q_val rfl rfl rfl (by intro w hw; exact x_pick_f (.bool false) rfl rfl w) ?_
            refine q_cons (q_val rfl rfl rfl (by intro w hw; exact x_pick_f (.bool false) rfl rfl w) ?_)
            refine q_nil ?_
            intro w217 H218
            have H219 : St W w217 (imi (0 < Ps11.length) gA25 (.cells kA27 eA28 zA29) :: blk g (.cells #[.int .i64 s.op.v, .slice pp6 L10.length cc7, .slice pp8 Ps11.length cc9, .bool s.ov] 62 (0, 0)) :: Im 6 (.slice pp6 L10.length cc7) L10.length (L10.flatMap itCell) :: itsA L10 :: Im 4 (.slice pp8 Ps11.length cc9) Ps11.length (Ps11.flatMap pcCell) :: pcA Ps11 :: blk bk2 (.cells #[.int .i64 x.v.op.v, .int .i64 x.v.many.v, .int .i64 x.v.index.v, .slice x.p x.v.data.length x.c] 51 (0, 0)) :: Im 1 (.slice x.p x.v.data.length x.c) x.v.data.length (x.v.data.flatMap u8c) :: (F.set i emp)) := ((((((((H218.move 7 rfl).move 7 rfl).move 7 rfl).move 7 rfl).move 7 rfl).move 7 rfl).move 7 rfl).move 7 rfl)
            exact join36 (false) _ _ ⟨(decide_eq_false (lp_okp hP13 (show pieceOk x.v = true from ck_yes hc22) (by omega) (fun h_ => by omega))).symm, H219⟩ ⟨by first | rfl | exact vint (by omega), by first | rfl | exact vint (by omega), by first | rfl | exact vint (by omega), by first | rfl | exact vint (by omega), by first | rfl | exact vint (by omega), trivial⟩
        · skip
          refine q_cons (q_val rfl rfl rfl (by intro w hw; exact x_neq true rfl rfl (nfalse hc208) w) ?_)
          refine q_cons (q_val rfl rfl rfl (by intro w hw; exact x_move (.bool true) rfl w) ?_)
          refine q_cons (q_pass rfl rfl rfl rfl rfl ?_)
          refine q_cons (q_pass rfl rfl rfl rfl rfl ?_)
          refine q_cons (q_pass rfl rfl rfl rfl rfl ?_)
          refine q_cons (q_pass rfl rfl rfl rfl rfl ?_)
          refine q_cons (q_pass rfl rfl rfl rfl rfl ?_)
          refine q_cons (q_pass rfl rfl rfl rfl rfl ?_)
          refine q_cons (q_pass rfl rfl rfl rfl rfl ?_)
          refine q_cons (q_passN rfl rfl rfl rfl ?_)
          refine q_cons (q_passN rfl rfl rfl rfl ?_)
          refine q_cons (q_passN rfl rfl rfl rfl ?_)
          refine q_cons (q_passN rfl rfl rfl rfl ?_)
          refine q_cons (q_passN rfl rfl rfl rfl ?_)
          refine q_cons (q_passN rfl rfl rfl rfl ?_)
          refine q_cons (q_passN rfl rfl rfl rfl ?_)
          refine q_cons (q_passN rfl rfl rfl rfl ?_)
          refine q_cons (q_passN rfl rfl rfl rfl ?_)
          refine q_cons (q_passN rfl rfl rfl rfl ?_)
          refine q_cons (q_pass rfl rfl rfl rfl rfl ?_)
          refine q_cons (q_val rfl rfl rfl (by intro w hw; exact x_pick_t (.bool true) rfl rfl w) ?_)
          refine q_nil ?_
          intro w220 H221
          have H222 : St W w220 (imi (0 < Ps11.length) gA25 (.cells kA27 eA28 zA29) :: blk g (.cells #[.int .i64 s.op.v, .slice pp6 L10.length cc7, .slice pp8 Ps11.length cc9, .bool s.ov] 62 (0, 0)) :: Im 6 (.slice pp6 L10.length cc7) L10.length (L10.flatMap itCell) :: itsA L10 :: Im 4 (.slice pp8 Ps11.length cc9) Ps11.length (Ps11.flatMap pcCell) :: pcA Ps11 :: blk bk2 (.cells #[.int .i64 x.v.op.v, .int .i64 x.v.many.v, .int .i64 x.v.index.v, .slice x.p x.v.data.length x.c] 51 (0, 0)) :: Im 1 (.slice x.p x.v.data.length x.c) x.v.data.length (x.v.data.flatMap u8c) :: (F.set i emp)) := ((((((((H221.move 7 rfl).move 7 rfl).move 7 rfl).move 7 rfl).move 7 rfl).move 7 rfl).move 7 rfl).move 7 rfl)
          exact join36 (true) _ _ ⟨(decide_eq_true (by first | exact lp_b2 (by assumption) | exact lp_b3p hP13 (by omega) (by assumption))).symm, H222⟩ ⟨by first | rfl | exact vint (by omega), by first | rfl | exact vint (by omega), by first | rfl | exact vint (by omega), by first | rfl | exact vint (by omega), by first | rfl | exact vint (by omega), trivial⟩
    · skip
      refine r_cons (s_neq true rfl rfl (nfalse hc22) rfl ?_)
      refine r_nil ?_
      refine g_true rfl ?_
      refine g_seq ?_
      refine g_region ?_
      refine r_cons (s_move (.int .i64 (if pieceB x.v.op.v x.v.many.v x.v.index.v x.v.data.length = true then (0 : Int) else 242)) rfl rfl ?_)
      refine r_cons (s_assign (.bool false) rfl rfl ?_)
      refine r_cons (s_assign (.int .i64 (if pieceB x.v.op.v x.v.many.v x.v.index.v x.v.data.length = true then (0 : Int) else 242)) rfl rfl ?_)
      refine r_nil ?_
      refine g_ret' [.bool false, .int .i64 (if pieceB x.v.op.v x.v.many.v x.v.index.v x.v.data.length = true then (0 : Int) else 242)] Try.func24 Try.results24 ⟨rfl, rfl, trivial⟩ ?_
      have H223 : St W w20 (RnA g s :: blk bk2 (.cells #[.int .i64 x.v.op.v, .int .i64 x.v.many.v, .int .i64 x.v.index.v, .slice x.p x.v.data.length x.c] 51 (0, 0)) :: Im 1 (.slice x.p x.v.data.length x.c) x.v.data.length (x.v.data.flatMap u8c) :: (F.set i emp)) := St.shut_ex (⟨pp6, cc7, pp8, cc9, L10, Ps11, hL12, hP13⟩ : RnX s) (St.shut_star (ls := [blk g (.cells #[.int .i64 s.op.v, .slice pp6 L10.length cc7, .slice pp8 Ps11.length cc9, .bool s.ov] 62 (0, 0)), Im 6 (.slice pp6 L10.length cc7) L10.length (L10.flatMap itCell), itsA L10, Im 4 (.slice pp8 Ps11.length cc9) Ps11.length (Ps11.flatMap pcCell), pcA Ps11]) H21)
      have H224 : St W w20 (RnA g s :: (F.set i emp)) := ((H223.drop 1 rfl).drop 1 rfl)
      have hE9 : lpE s x.v = (if pieceB x.v.op.v x.v.many.v x.v.index.v x.v.data.length = true then (0 : Int) else 242) := by rw [lp_2 hb17 (lp_b1 (ck_no hc22)), ck_no hc22]; rfl
      have hE0 : ¬ lpE s x.v = 0 := by rw [hE9]; first | assumption | decide
      exact ⟨by rw [lpB_no hE0, hE9]; rfl, by rw [lpS_no hE0]; exact St.back hi H224⟩
set_option maxHeartbeats 4000000 in
set_option maxRecDepth 100000 in
theorem Rn_Take {W w : World} {F : List Atom} (g : Nat) (s : LdS) (hs : LOk s) {i : Nat} (hi : F[i]? = some (RnA g s)) (H : St W w F) : Calls Try.prog 26 #[.pointer (some ⟨g, 0, none⟩)] w (Ret fun v w' => ∃ (p : Option Addr) (c : Nat) (q : Option Addr) (d : Nat) (L : List ItemD), v = .tuple #[.slice p (ltB s).length c, .slice q L.length d, .int .i64 (ltE s)] ∧ L.map ItemD.v = ltV s ∧ St W w' (Row 5 1 (.slice p (ltB s).length c) (ltB s).length ((ltB s).flatMap u8c) :: Im 6 (.slice q L.length d) L.length (L.flatMap itCell) :: itsA L :: F.set i (RnA g (ltS s)))) := by
  have H0 := H.front hi
  refine calls_of_go (n := 68) Try.func26 rfl Try.ntmps26 rfl ?_
  refine g_seq ?_
  refine g_region ?_
  refine r_cons (s_assign (.slice none 0 0) rfl rfl ?_)
  refine r_cons (s_assign (.slice none 0 0) rfl rfl ?_)
  refine r_cons (s_assign (.int .i64 0) rfl rfl ?_)
  refine r_nil ?_
  refine g_seq ?_
  refine g_seq ?_
  refine g_region ?_
  refine r_cons (s_move (.pointer (some ⟨g, 0, none⟩)) rfl rfl ?_)
  refine r_cons (s_nilCheck (.pointer (some ⟨g, 0, none⟩)) rfl ⟨_, rfl⟩ rfl ?_)
  refine r_cons (s_fieldAddr 62 3 3 3 4 rfl fi_62_3 rfl rfl ?_)
  have H1 := H0.move 0 rfl
  obtain ⟨⟨pp2, cc3, pp4, cc5, L6, Ps7, hL8, hP9⟩, H10⟩ := St.open_ex H1
  have H11 := St.open_star H10
  have hpl := pv_len hP9
  have hlw := lw_len hL8
  have H12 : St W w (blk g (.cells #[.int .i64 s.op.v, .slice pp2 L6.length cc3, .slice pp4 Ps7.length cc5, .bool s.ov] 62 (0, 0)) :: Im 6 (.slice pp2 L6.length cc3) L6.length (L6.flatMap itCell) :: itsA L6 :: Im 4 (.slice pp4 Ps7.length cc5) Ps7.length (Ps7.flatMap pcCell) :: pcA Ps7 :: (F.set i emp)) := H11
  refine r_cons (s_load (.bool s.ov) ag_4 rfl (H12.blk_at (i := 0) rfl) rfl rfl ?_)
  refine r_cons (s_move (.bool s.ov) rfl rfl ?_)
  by_cases hb13 : (s.ov) = true
  · skip
    refine r_cons (r_pass rfl (congrArg some hb13) rfl rfl rfl ?_)
    refine r_cons (r_pass rfl (congrArg some hb13) rfl rfl rfl ?_)
    refine r_cons (r_pass rfl (congrArg some hb13) rfl rfl rfl ?_)
    refine r_cons (s_pick_t (.bool true) (by exact congrArg Value.bool hb13) rfl rfl ?_)
    refine r_nil ?_
    refine g_true rfl ?_
    refine g_seq ?_
    refine g_region ?_
    refine r_cons (s_assign (.slice none 0 0) rfl rfl ?_)
    refine r_cons (s_assign (.slice none 0 0) rfl rfl ?_)
    refine r_cons (s_assign (.int .i64 241) rfl rfl ?_)
    refine r_nil ?_
    refine g_ret' [.slice none 0 0, .slice none 0 0, .int .i64 241] Try.func26 Try.results26 ⟨rfl, rfl, rfl, trivial⟩ ?_
    have hE9 : ltE s = 241 := lt_1 hb13
    have H14 : St W w (RnA g s :: (F.set i emp)) := St.shut_ex (⟨pp2, cc3, pp4, cc5, L6, Ps7, hL8, hP9⟩ : RnX s) (St.shut_star (ls := [blk g (.cells #[.int .i64 s.op.v, .slice pp2 L6.length cc3, .slice pp4 Ps7.length cc5, .bool s.ov] 62 (0, 0)), Im 6 (.slice pp2 L6.length cc3) L6.length (L6.flatMap itCell), itsA L6, Im 4 (.slice pp4 Ps7.length cc5) Ps7.length (Ps7.flatMap pcCell), pcA Ps7]) H12)
    have H15 := itsA_nil H14
    have H16 := Row.im (Row.nil_intro H15 32 6) (i := 0) rfl
    have H17 := Row.nil_intro H16 5 1
    have H18 : St W w (Row 5 1 (.slice none 0 0) 0 [] :: Im 6 (.slice none 0 0) 0 [] :: itsA ([] : List ItemD) :: RnA g s :: (F.set i emp)) := ((((H17.move 3 rfl).move 3 rfl).move 3 rfl).move 3 rfl)
    have H19 : St W w (RnA g s :: (Row 5 1 (.slice none 0 0) 0 [] :: Im 6 (.slice none 0 0) 0 [] :: itsA ([] : List ItemD) :: F).set (i + 3) emp) := (H18.move 3 rfl)
    exact ⟨none, 0, none, 0, [], by rw [ltB_no hE9, hE9]; rfl, by rw [ltV_no hE9]; rfl, by rw [ltB_no hE9, ltS_no hE9]; exact St.back (i := i + 3) (by exact hi) H19⟩
  · have hb13 := eq_false_of_ne_true hb13
    refine r_cons (r_take rfl (congrArg some hb13) ?_)
    refine s_move (.pointer (some ⟨g, 0, none⟩)) rfl rfl ?_
    refine r_cons (r_take rfl (congrArg some hb13) ?_)
    have H20 : St W w (RnA g s :: (F.set i emp)) := St.shut_ex (⟨pp2, cc3, pp4, cc5, L6, Ps7, hL8, hP9⟩ : RnX s) (St.shut_star (ls := [blk g (.cells #[.int .i64 s.op.v, .slice pp2 L6.length cc3, .slice pp4 Ps7.length cc5, .bool s.ov] 62 (0, 0)), Im 6 (.slice pp2 L6.length cc3) L6.length (L6.flatMap itCell), itsA L6, Im 4 (.slice pp4 Ps7.length cc5) Ps7.length (Ps7.flatMap pcCell), pcA Ps7]) H12)
    refine s_call [.pointer (some ⟨g, 0, none⟩)] pl_77 rfl rfl (Rn_whole g s (i := 0) rfl H20) ?_
    rintro _ w21 ⟨rfl, H22⟩
    refine r_cons (r_take rfl (congrArg some hb13) ?_)
    refine s_not (wholeB s) rfl (!(wholeB s)) rfl rfl ?_
    refine r_cons (s_pick_f (.bool (!(wholeB s))) (by exact congrArg Value.bool hb13) rfl rfl ?_)
    refine r_nil ?_
    by_cases hb23 : (!(wholeB s)) = true
    · skip
      refine g_true (congrArg Value.bool hb23) ?_
      refine g_seq ?_
      refine g_region ?_
      refine r_cons (s_assign (.slice none 0 0) rfl rfl ?_)
      refine r_cons (s_assign (.slice none 0 0) rfl rfl ?_)
      refine r_cons (s_assign (.int .i64 241) rfl rfl ?_)
      refine r_nil ?_
      refine g_ret' [.slice none 0 0, .slice none 0 0, .int .i64 241] Try.func26 Try.results26 ⟨rfl, rfl, rfl, trivial⟩ ?_
      have hE9 : ltE s = 241 := lt_2 (whole_f (nottrue hb23))
      have H24 := itsA_nil H22
      have H25 := Row.im (Row.nil_intro H24 32 6) (i := 0) rfl
      have H26 := Row.nil_intro H25 5 1
      have H27 : St W w21 (Row 5 1 (.slice none 0 0) 0 [] :: Im 6 (.slice none 0 0) 0 [] :: itsA ([] : List ItemD) :: RnA g s :: (F.set i emp)) := ((((H26.move 3 rfl).move 3 rfl).move 3 rfl).move 3 rfl)
      have H28 : St W w21 (RnA g s :: (Row 5 1 (.slice none 0 0) 0 [] :: Im 6 (.slice none 0 0) 0 [] :: itsA ([] : List ItemD) :: F).set (i + 3) emp) := (H27.move 3 rfl)
      exact ⟨none, 0, none, 0, [], by rw [ltB_no hE9, hE9]; rfl, by rw [ltV_no hE9]; rfl, by rw [ltB_no hE9, ltS_no hE9]; exact St.back (i := i + 3) (by exact hi) H28⟩
    · have hb23 := eq_false_of_ne_true hb23
      refine g_false (congrArg Value.bool hb23) ?_
      refine g_skip ?_
      refine g_seq ?_
      refine g_region ?_
      refine r_cons (s_assign (.slice none 0 0) rfl rfl ?_)
      refine r_nil ?_
      refine g_seq ?_
      refine g_seq ?_
      refine g_region ?_
      refine r_cons (s_assign (.int .i64 0) rfl rfl ?_)
      refine r_nil ?_
      refine g_block ?_
      have hov : s.ov = false := hb13
      have hwh := whole_t (notfalse hb23)
      have hpn := hs.pn
      have H29 := H22.move 0 rfl
      obtain ⟨⟨pp30, cc31, pp32, cc33, L34, Ps35, hL36, hP37⟩, H38⟩ := St.open_ex H29
      have H39 := St.open_star H38
      have hpl := pv_len hP37
      have hlw := lw_len hL36
      have H40 : St W w21 (blk g (.cells #[.int .i64 s.op.v, .slice pp30 L34.length cc31, .slice pp32 Ps35.length cc33, .bool s.ov] 62 (0, 0)) :: Im 6 (.slice pp30 L34.length cc31) L34.length (L34.flatMap itCell) :: itsA L34 :: Im 4 (.slice pp32 Ps35.length cc33) Ps35.length (Ps35.flatMap pcCell) :: pcA Ps35 :: (F.set i emp)) := H39
      obtain ⟨pA41, cA42, gA43, oA44, kA45, eA46, zA47, he53, hn48, hp49, hx50, hs51, hml, H52⟩ := Im.open_ H40 (i := 3) rfl
      obtain ⟨rfl, rfl⟩ : pp32 = pA41 ∧ cc33 = cA42 := by injection he53 with a_ b_ c_; exact ⟨a_, c_⟩
      have H54 := Row.nil_intro H52 5 1
      refine g_loop_inv (fun (x_ : Nat × (Option Addr) × Nat) => match x_ with | (j, q, d) => [(0, .pointer (some ⟨g, 0, none⟩)), (2, .slice none 0 0), (3, .slice none 0 0), (4, .int .i64 0), (5, .slice q ((allV s.PV j).length) d), (6, .int .i64 (j : Int))]) (fun (x_ : Nat × (Option Addr) × Nat) w => match x_ with | (j, q, d) => (j ≤ s.PV.length) ∧ St W w (Row 5 1 (.slice q ((allV s.PV j).length) d) ((allV s.PV j).length) ((allV s.PV j).flatMap u8c) :: imi (0 < Ps35.length) gA43 (.cells kA45 eA46 zA47) :: blk g (.cells #[.int .i64 s.op.v, .slice pp30 L34.length cc31, .slice pp32 Ps35.length cc33, .bool s.ov] 62 (0, 0)) :: Im 6 (.slice pp30 L34.length cc31) L34.length (L34.flatMap itCell) :: itsA L34 :: Im 4 (.slice pp32 Ps35.length cc33) Ps35.length (Ps35.flatMap pcCell) :: pcA Ps35 :: (F.set i emp))) (fun (x_ : Nat × (Option Addr) × Nat) => match x_ with | (j, q, d) => s.PV.length - j) (0, none, 0) ?_ ?_ ?_
      · exact ⟨by first | rfl | exact vint (by omega), by first | rfl | exact vint (by omega), by first | rfl | exact vint (by omega), by first | rfl | exact vint (by omega), by first | rfl | exact vint (by omega), by first | rfl | exact vint (by omega), trivial⟩
      · exact ⟨(by omega), H54⟩
      · rintro ⟨j, q, d⟩ ρ55 w56 ⟨hjn, H57⟩ nx58
        change Ends _ _ (upds ρ55 [(0, .pointer (some ⟨g, 0, none⟩)), (2, .slice none 0 0), (3, .slice none 0 0), (4, .int .i64 0), (5, .slice q ((allV s.PV j).length) d), (6, .int .i64 (j : Int))]) w56
        have hl8 := allV_le hs j
        refine g_seq ?_
        refine g_seq ?_
        refine g_region ?_
        refine r_cons (s_move (.int .i64 (j : Int)) rfl rfl ?_)
        refine r_cons (s_move (.pointer (some ⟨g, 0, none⟩)) rfl rfl ?_)
        refine r_cons (s_nilCheck (.pointer (some ⟨g, 0, none⟩)) rfl ⟨_, rfl⟩ rfl ?_)
        refine r_cons (s_fieldAddr 62 2 2 2 60 rfl fi_62_2 rfl rfl ?_)
        refine r_cons (s_load (.slice pp32 Ps35.length cc33) ag_60 rfl (H57.blk_at (i := 2) rfl) rfl rfl ?_)
        refine r_cons (s_len Ps35.length rfl ⟨_, un_60⟩ rfl ?_)
        by_cases hc59 : (j : Int) < (Ps35.length : Int)
        · skip
          refine r_cons (s_lss true rfl rfl (dtrue hc59) rfl ?_)
          refine r_nil ?_
          refine g_true rfl ?_
          refine g_skip ?_
          refine g_seq ?_
          refine g_block ?_
          refine g_seq ?_
          refine g_region ?_
          refine r_cons (s_assign (.int .i64 0) rfl rfl ?_)
          refine r_nil ?_
          refine g_block ?_
          have hz9 : allV s.PV j = (allV s.PV j ++ inV s.PV j 0) := by rw [inV_0, List.append_nil]
          have H60 : St W w56 (Row 5 1 (.slice q ((allV s.PV j ++ inV s.PV j 0).length) d) ((allV s.PV j ++ inV s.PV j 0).length) ((allV s.PV j ++ inV s.PV j 0).flatMap u8c) :: imi (0 < Ps35.length) gA43 (.cells kA45 eA46 zA47) :: blk g (.cells #[.int .i64 s.op.v, .slice pp30 L34.length cc31, .slice pp32 Ps35.length cc33, .bool s.ov] 62 (0, 0)) :: Im 6 (.slice pp30 L34.length cc31) L34.length (L34.flatMap itCell) :: itsA L34 :: Im 4 (.slice pp32 Ps35.length cc33) Ps35.length (Ps35.flatMap pcCell) :: pcA Ps35 :: (F.set i emp)) := by rw [← hz9]; exact H57
          refine g_loop_inv (fun (x_ : Nat × (Option Addr) × Nat) => match x_ with | (k, q2, d2) => [(0, .pointer (some ⟨g, 0, none⟩)), (2, .slice none 0 0), (3, .slice none 0 0), (4, .int .i64 0), (5, .slice q2 ((allV s.PV j ++ inV s.PV j k).length) d2), (6, .int .i64 (j : Int)), (7, .int .i64 (k : Int))]) (fun (x_ : Nat × (Option Addr) × Nat) w => match x_ with | (k, q2, d2) => (k ≤ s.PV.length) ∧ St W w (Row 5 1 (.slice q2 ((allV s.PV j ++ inV s.PV j k).length) d2) ((allV s.PV j ++ inV s.PV j k).length) ((allV s.PV j ++ inV s.PV j k).flatMap u8c) :: imi (0 < Ps35.length) gA43 (.cells kA45 eA46 zA47) :: blk g (.cells #[.int .i64 s.op.v, .slice pp30 L34.length cc31, .slice pp32 Ps35.length cc33, .bool s.ov] 62 (0, 0)) :: Im 6 (.slice pp30 L34.length cc31) L34.length (L34.flatMap itCell) :: itsA L34 :: Im 4 (.slice pp32 Ps35.length cc33) Ps35.length (Ps35.flatMap pcCell) :: pcA Ps35 :: (F.set i emp))) (fun (x_ : Nat × (Option Addr) × Nat) => match x_ with | (k, q2, d2) => s.PV.length - k) (0, q, d) ?_ ?_ ?_
          · exact ⟨by first | rfl | exact vint (by omega), by first | rfl | exact vint (by omega), by first | rfl | exact vint (by omega), by first | rfl | exact vint (by omega), by rw [← hz9]; rfl, by first | rfl | exact vint (by omega), by first | rfl | exact vint (by omega), trivial⟩
          · exact ⟨(by omega), H60⟩
          · rintro ⟨k, q2, d2⟩ ρ61 w62 ⟨hkn, H63⟩ nx64
            change Ends _ _ (upds ρ61 [(0, .pointer (some ⟨g, 0, none⟩)), (2, .slice none 0 0), (3, .slice none 0 0), (4, .int .i64 0), (5, .slice q2 ((allV s.PV j ++ inV s.PV j k).length) d2), (6, .int .i64 (j : Int)), (7, .int .i64 (k : Int))]) w62
            have hl7 := inV_le hs j k
            have hl6 : (allV s.PV j ++ inV s.PV j k).length = (allV s.PV j).length + (inV s.PV j k).length := List.length_append
            refine g_seq ?_
            refine g_seq ?_
            refine g_region ?_
            refine r_cons (s_move (.int .i64 (k : Int)) rfl rfl ?_)
            refine r_cons (s_move (.pointer (some ⟨g, 0, none⟩)) rfl rfl ?_)
            refine r_cons (s_nilCheck (.pointer (some ⟨g, 0, none⟩)) rfl ⟨_, rfl⟩ rfl ?_)
            refine r_cons (s_fieldAddr 62 2 2 2 60 rfl fi_62_2 rfl rfl ?_)
            refine r_cons (s_load (.slice pp32 Ps35.length cc33) ag_60 rfl (H63.blk_at (i := 2) rfl) rfl rfl ?_)
            refine r_cons (s_len Ps35.length rfl ⟨_, un_60⟩ rfl ?_)
            by_cases hc65 : (k : Int) < (Ps35.length : Int)
            · skip
              refine r_cons (s_lss true rfl rfl (dtrue hc65) rfl ?_)
              refine r_nil ?_
              refine g_true rfl ?_
              refine g_skip ?_
              refine g_seq ?_
              refine g_block ?_
              refine g_seq ?_
              refine g_region ?_
              refine r_cons (s_move (.pointer (some ⟨g, 0, none⟩)) rfl rfl ?_)
              refine r_cons (s_nilCheck (.pointer (some ⟨g, 0, none⟩)) rfl ⟨_, rfl⟩ rfl ?_)
              refine r_cons (s_fieldAddr 62 2 2 2 60 rfl fi_62_2 rfl rfl ?_)
              refine r_cons (s_load (.slice pp32 Ps35.length cc33) ag_60 rfl (H63.blk_at (i := 2) rfl) rfl rfl ?_)
              refine r_cons (s_move (.int .i64 (k : Int)) rfl rfl ?_)
              refine r_cons (s_indexAddr gA43 (off := oA44) (k : Int) 4 (oA44 + k * 4) (by exact congrArg (fun z_ => Value.slice z_ Ps35.length cc33) (hp49 (by omega))) rfl el_60 (by omega) rfl rfl ?_)
              refine r_cons (s_fieldAddr 51 2 2 (oA44 + k * 4 + 2) 3 rfl fi_51_2 rfl rfl ?_)
              refine r_cons (s_load (.int .i64 ((Ps35.getD k default).v.index.v)) ag_3 rfl (H63.imi_at (i := 1) rfl (by omega)) (elem_cell (L := Ps35) (i := k) pcCell_len (hx50 (by omega)) (by omega) default 2 (by decide) _ rfl) rfl ?_)
              refine r_cons (s_move (.int .i64 (j : Int)) rfl rfl ?_)
              by_cases hc66 : (Ps35.getD k default).v.index.v = (j : Int)
              · skip
                refine r_cons (s_eql true rfl rfl (dtrue hc66) rfl ?_)
                refine r_nil ?_
                refine g_true rfl ?_
                refine g_region ?_
                have hdl := dat_le hs hP37 (j := k) (by omega)
                have H67 : St W w62 (Im 1 (.slice ((Ps35.getD k default).p) ((Ps35.getD k default).v.data.length) ((Ps35.getD k default).c)) (((Ps35.getD k default).v.data).length) (((Ps35.getD k default).v.data).flatMap u8c) :: Row 5 1 (.slice q2 ((allV s.PV j ++ inV s.PV j k).length) d2) ((allV s.PV j ++ inV s.PV j k).length) ((allV s.PV j ++ inV s.PV j k).flatMap u8c) :: imi (0 < Ps35.length) gA43 (.cells kA45 eA46 zA47) :: blk g (.cells #[.int .i64 s.op.v, .slice pp30 L34.length cc31, .slice pp32 Ps35.length cc33, .bool s.ov] 62 (0, 0)) :: Im 6 (.slice pp30 L34.length cc31) L34.length (L34.flatMap itCell) :: itsA L34 :: Im 4 (.slice pp32 Ps35.length cc33) Ps35.length (Ps35.flatMap pcCell) :: pcA Ps35 :: (F.set i emp)) := pcA_at H63 (i := 6) rfl (j := k) (by omega)
                refine r_cons (s_move (.slice q2 ((allV s.PV j ++ inV s.PV j k).length) d2) rfl rfl ?_)
                refine r_cons (s_move (.pointer (some ⟨g, 0, none⟩)) rfl rfl ?_)
                refine r_cons (s_nilCheck (.pointer (some ⟨g, 0, none⟩)) rfl ⟨_, rfl⟩ rfl ?_)
                refine r_cons (s_fieldAddr 62 2 2 2 60 rfl fi_62_2 rfl rfl ?_)
                refine r_cons (s_load (.slice pp32 Ps35.length cc33) ag_60 rfl (H67.blk_at (i := 3) rfl) rfl rfl ?_)
                refine r_cons (s_move (.int .i64 (k : Int)) rfl rfl ?_)
                refine r_cons (s_indexAddr gA43 (off := oA44) (k : Int) 4 (oA44 + k * 4) (by exact congrArg (fun z_ => Value.slice z_ Ps35.length cc33) (hp49 (by omega))) rfl el_60 (by omega) rfl rfl ?_)
                refine r_cons (s_fieldAddr 51 3 3 (oA44 + k * 4 + 3) 23 rfl fi_51_3 rfl rfl ?_)
                refine r_cons (s_load (.slice ((Ps35.getD k default).p) ((Ps35.getD k default).v.data.length) ((Ps35.getD k default).c)) ag_23 rfl (H67.imi_at (i := 2) rfl (by omega)) (elem_cell (L := Ps35) (i := k) pcCell_len (hx50 (by omega)) (by omega) default 3 (by decide) _ rfl) rfl ?_)
                refine r_cons (s_append H67 1 rfl rfl rfl (Im.rd H67 (i := 0) rfl) ap_23 (by decide) (by unfold maxLen; omega) (by omega) (n' := (allV s.PV j ++ inV s.PV j k).length + ((Ps35.getD k default).v.data).length) (xs' := (allV s.PV j ++ inV s.PV j k).flatMap u8c ++ ((Ps35.getD k default).v.data).flatMap u8c) (by omega) (by first | rfl | simp) rfl ?_); intro vv68 w69 H70 hn71
                obtain ⟨pp72, cc73, rfl⟩ := Row.slice H70 (i := 1) rfl
                refine r_cons (s_assign (.slice pp72 ((allV s.PV j ++ inV s.PV j k).length + ((Ps35.getD k default).v.data).length) cc73) rfl rfl ?_)
                refine r_nil ?_
                refine g_inBlock ?_
                refine g_region ?_
                refine r_cons (s_move (.int .i64 (k : Int)) rfl rfl ?_)
                refine r_cons (s_add ((k : Int) + 1) rfl rfl (wi64 (by omega)) rfl ?_)
                refine r_cons (s_assign (.int .i64 ((k : Int) + 1)) rfl rfl ?_)
                refine r_nil ?_
                have he9 : (allV s.PV j ++ inV s.PV j (k + 1)) = (allV s.PV j ++ inV s.PV j k) ++ (Ps35.getD k default).v.data := by rw [inV_yesP hP37 (by omega) hc66, List.append_assoc]
                have he8 : (allV s.PV j ++ inV s.PV j (k + 1)).length = (allV s.PV j ++ inV s.PV j k).length + (Ps35.getD k default).v.data.length := by rw [he9, List.length_append]
                have H74 : St W w69 (Im 1 (.slice ((Ps35.getD k default).p) ((Ps35.getD k default).v.data.length) ((Ps35.getD k default).c)) (((Ps35.getD k default).v.data).length) (((Ps35.getD k default).v.data).flatMap u8c) :: Row 5 1 (.slice pp72 ((allV s.PV j ++ inV s.PV j (k + 1)).length) cc73) ((allV s.PV j ++ inV s.PV j (k + 1)).length) ((allV s.PV j ++ inV s.PV j (k + 1)).flatMap u8c) :: imi (0 < Ps35.length) gA43 (.cells kA45 eA46 zA47) :: blk g (.cells #[.int .i64 s.op.v, .slice pp30 L34.length cc31, .slice pp32 Ps35.length cc33, .bool s.ov] 62 (0, 0)) :: Im 6 (.slice pp30 L34.length cc31) L34.length (L34.flatMap itCell) :: itsA L34 :: Im 4 (.slice pp32 Ps35.length cc33) Ps35.length (Ps35.flatMap pcCell) :: pcA Ps35 :: (F.set i emp)) := by rw [he8, he9, List.flatMap_append]; exact H70
                have H75 : St W w69 (Row 5 1 (.slice pp72 ((allV s.PV j ++ inV s.PV j (k + 1)).length) cc73) ((allV s.PV j ++ inV s.PV j (k + 1)).length) ((allV s.PV j ++ inV s.PV j (k + 1)).flatMap u8c) :: imi (0 < Ps35.length) gA43 (.cells kA45 eA46 zA47) :: blk g (.cells #[.int .i64 s.op.v, .slice pp30 L34.length cc31, .slice pp32 Ps35.length cc33, .bool s.ov] 62 (0, 0)) :: Im 6 (.slice pp30 L34.length cc31) L34.length (L34.flatMap itCell) :: itsA L34 :: Im 4 (.slice pp32 Ps35.length cc33) Ps35.length (Ps35.flatMap pcCell) :: pcA Ps35 :: (F.set i emp)) := ((((((((H74.move 7 rfl).move 7 rfl).move 7 rfl).move 7 rfl).move 7 rfl).move 7 rfl).move 7 rfl).drop 7 rfl)
                exact nx64 (k + 1, pp72, cc73) _ _ ⟨(by omega), H75⟩ (by first | (dsimp only; omega) | omega) ⟨by first | rfl | exact vint (by omega), by first | rfl | exact vint (by omega), by first | rfl | exact vint (by omega), by first | rfl | exact vint (by omega), by rw [he8]; rfl, by first | rfl | exact vint (by omega), by first | rfl | exact vint (by omega), trivial⟩
              · skip
                refine r_cons (s_eql false rfl rfl (dfalse hc66) rfl ?_)
                refine r_nil ?_
                refine g_false rfl ?_
                refine g_skip ?_
                refine g_inBlock ?_
                refine g_region ?_
                refine r_cons (s_move (.int .i64 (k : Int)) rfl rfl ?_)
                refine r_cons (s_add ((k : Int) + 1) rfl rfl (wi64 (by omega)) rfl ?_)
                refine r_cons (s_assign (.int .i64 ((k : Int) + 1)) rfl rfl ?_)
                refine r_nil ?_
                have he9 : (allV s.PV j ++ inV s.PV j (k + 1)) = (allV s.PV j ++ inV s.PV j k) := by rw [inV_noP hP37 (by omega) hc66]
                have H76 : St W w62 (Row 5 1 (.slice q2 ((allV s.PV j ++ inV s.PV j (k + 1)).length) d2) ((allV s.PV j ++ inV s.PV j (k + 1)).length) ((allV s.PV j ++ inV s.PV j (k + 1)).flatMap u8c) :: imi (0 < Ps35.length) gA43 (.cells kA45 eA46 zA47) :: blk g (.cells #[.int .i64 s.op.v, .slice pp30 L34.length cc31, .slice pp32 Ps35.length cc33, .bool s.ov] 62 (0, 0)) :: Im 6 (.slice pp30 L34.length cc31) L34.length (L34.flatMap itCell) :: itsA L34 :: Im 4 (.slice pp32 Ps35.length cc33) Ps35.length (Ps35.flatMap pcCell) :: pcA Ps35 :: (F.set i emp)) := by rw [he9]; exact H63
                have H77 : St W w62 (Row 5 1 (.slice q2 ((allV s.PV j ++ inV s.PV j (k + 1)).length) d2) ((allV s.PV j ++ inV s.PV j (k + 1)).length) ((allV s.PV j ++ inV s.PV j (k + 1)).flatMap u8c) :: imi (0 < Ps35.length) gA43 (.cells kA45 eA46 zA47) :: blk g (.cells #[.int .i64 s.op.v, .slice pp30 L34.length cc31, .slice pp32 Ps35.length cc33, .bool s.ov] 62 (0, 0)) :: Im 6 (.slice pp30 L34.length cc31) L34.length (L34.flatMap itCell) :: itsA L34 :: Im 4 (.slice pp32 Ps35.length cc33) Ps35.length (Ps35.flatMap pcCell) :: pcA Ps35 :: (F.set i emp)) := (((((((H76.move 6 rfl).move 6 rfl).move 6 rfl).move 6 rfl).move 6 rfl).move 6 rfl).move 6 rfl)
                exact nx64 (k + 1, q2, d2) _ _ ⟨(by omega), H77⟩ (by first | (dsimp only; omega) | omega) ⟨by first | rfl | exact vint (by omega), by first | rfl | exact vint (by omega), by first | rfl | exact vint (by omega), by first | rfl | exact vint (by omega), by rw [he9]; rfl, by first | rfl | exact vint (by omega), by first | rfl | exact vint (by omega), trivial⟩
            · skip
              refine r_cons (s_lss false rfl rfl (dfalse hc65) rfl ?_)
              refine r_nil ?_
              refine g_false rfl ?_
              refine g_exit (by rfl) ?_
              refine g_inBlock ?_
              refine g_region ?_
              refine r_cons (s_move (.int .i64 (j : Int)) rfl rfl ?_)
              refine r_cons (s_add ((j : Int) + 1) rfl rfl (wi64 (by omega)) rfl ?_)
              refine r_cons (s_assign (.int .i64 ((j : Int) + 1)) rfl rfl ?_)
              refine r_nil ?_
              have he9 : allV s.PV (j + 1) = (allV s.PV j ++ inV s.PV j k) := by rw [allV_succ, show k = s.PV.length from by omega]
              have H78 : St W w62 (Row 5 1 (.slice q2 ((allV s.PV (j + 1)).length) d2) ((allV s.PV (j + 1)).length) ((allV s.PV (j + 1)).flatMap u8c) :: imi (0 < Ps35.length) gA43 (.cells kA45 eA46 zA47) :: blk g (.cells #[.int .i64 s.op.v, .slice pp30 L34.length cc31, .slice pp32 Ps35.length cc33, .bool s.ov] 62 (0, 0)) :: Im 6 (.slice pp30 L34.length cc31) L34.length (L34.flatMap itCell) :: itsA L34 :: Im 4 (.slice pp32 Ps35.length cc33) Ps35.length (Ps35.flatMap pcCell) :: pcA Ps35 :: (F.set i emp)) := by rw [he9]; exact H63
              have H79 : St W w62 (Row 5 1 (.slice q2 ((allV s.PV (j + 1)).length) d2) ((allV s.PV (j + 1)).length) ((allV s.PV (j + 1)).flatMap u8c) :: imi (0 < Ps35.length) gA43 (.cells kA45 eA46 zA47) :: blk g (.cells #[.int .i64 s.op.v, .slice pp30 L34.length cc31, .slice pp32 Ps35.length cc33, .bool s.ov] 62 (0, 0)) :: Im 6 (.slice pp30 L34.length cc31) L34.length (L34.flatMap itCell) :: itsA L34 :: Im 4 (.slice pp32 Ps35.length cc33) Ps35.length (Ps35.flatMap pcCell) :: pcA Ps35 :: (F.set i emp)) := (((((((H78.move 6 rfl).move 6 rfl).move 6 rfl).move 6 rfl).move 6 rfl).move 6 rfl).move 6 rfl)
              exact nx58 (j + 1, q2, d2) _ _ ⟨(by omega), H79⟩ (by first | (dsimp only; omega) | omega) ⟨by first | rfl | exact vint (by omega), by first | rfl | exact vint (by omega), by first | rfl | exact vint (by omega), by first | rfl | exact vint (by omega), by rw [he9]; rfl, by first | rfl | exact vint (by omega), trivial⟩
        · skip
          refine r_cons (s_lss false rfl rfl (dfalse hc59) rfl ?_)
          refine r_nil ?_
          refine g_false rfl ?_
          refine g_exit (by rfl) ?_
          refine g_seq ?_
          refine g_region ?_
          refine r_cons (s_move (.pointer (some ⟨g, 0, none⟩)) rfl rfl ?_)
          refine r_cons (s_nilCheck (.pointer (some ⟨g, 0, none⟩)) rfl ⟨_, rfl⟩ rfl ?_)
          refine r_cons (s_fieldAddr 62 1 1 1 22 rfl fi_62_1 rfl rfl ?_)
          refine r_cons (s_load (.slice pp30 L34.length cc31) ag_22 rfl (H57.blk_at (i := 2) rfl) rfl rfl ?_)
          refine r_cons (s_assign (.slice pp30 L34.length cc31) rfl rfl ?_)
          refine r_nil ?_
          refine g_seq ?_
          refine g_region ?_
          refine r_cons (s_move (.pointer (some ⟨g, 0, none⟩)) rfl rfl ?_)
          refine r_cons (s_nilCheck (.pointer (some ⟨g, 0, none⟩)) rfl ⟨_, rfl⟩ rfl ?_)
          refine r_cons (s_fieldAddr 62 1 1 1 22 rfl fi_62_1 rfl rfl ?_)
          refine r_cons (s_store H57 2 (.slice none 0 0) rfl rfl rfl sz_22 rfl (Nat.le_of_ble_eq_true rfl) rfl (cs' := #[.int .i64 s.op.v, .slice none 0 0, .slice pp32 Ps35.length cc33, .bool s.ov]) rfl ?_); intro w80 H81
          refine r_nil ?_
          refine g_seq ?_
          refine g_region ?_
          refine r_cons (s_move (.pointer (some ⟨g, 0, none⟩)) rfl rfl ?_)
          refine r_cons (s_nilCheck (.pointer (some ⟨g, 0, none⟩)) rfl ⟨_, rfl⟩ rfl ?_)
          refine r_cons (s_fieldAddr 62 3 3 3 4 rfl fi_62_3 rfl rfl ?_)
          refine r_cons (s_store H81 2 (.bool true) rfl rfl rfl sz_4 rfl (Nat.le_of_ble_eq_true rfl) rfl (cs' := #[.int .i64 s.op.v, .slice none 0 0, .slice pp32 Ps35.length cc33, .bool true]) rfl ?_); intro w82 H83
          refine r_nil ?_
          refine g_seq ?_
          refine g_region ?_
          refine r_cons (s_move (.slice q ((allV s.PV j).length) d) rfl rfl ?_)
          refine r_cons (s_move (.slice pp30 L34.length cc31) rfl rfl ?_)
          refine r_cons (s_assign (.slice q ((allV s.PV j).length) d) rfl rfl ?_)
          refine r_cons (s_assign (.slice pp30 L34.length cc31) rfl rfl ?_)
          refine r_cons (s_assign (.int .i64 0) rfl rfl ?_)
          refine r_nil ?_
          refine g_ret' [.slice q ((allV s.PV j).length) d, .slice pp30 L34.length cc31, .int .i64 0] Try.func26 Try.results26 ⟨rfl, rfl, rfl, trivial⟩ ?_
          have hE9 : ltE s = 0 := lt_0 hov hwh
          have hj9 : j = s.PV.length := by omega
          have H84 := itsA_nil H83
          have H85 := Row.im (Row.nil_intro H84 32 6) (i := 0) rfl
          have H86 : St W w82 (blk g (.cells #[.int .i64 s.op.v, .slice none 0 0, .slice pp32 Ps35.length cc33, .bool true] 62 (0, 0)) :: Im 6 (.slice none 0 0) 0 [] :: itsA ([] : List ItemD) :: Im 4 (.slice pp32 Ps35.length cc33) Ps35.length (Ps35.flatMap pcCell) :: pcA Ps35 :: Row 5 1 (.slice q ((allV s.PV j).length) d) ((allV s.PV j).length) ((allV s.PV j).flatMap u8c) :: imi (0 < Ps35.length) gA43 (.cells kA45 eA46 zA47) :: Im 6 (.slice pp30 L34.length cc31) L34.length (L34.flatMap itCell) :: itsA L34 :: (F.set i emp)) := (((((H85.move 8 rfl).move 8 rfl).move 3 rfl).move 3 rfl).move 6 rfl)
          have H87 : St W w82 (RnA g ({ s with ov := true } : LdS) :: Row 5 1 (.slice q ((allV s.PV j).length) d) ((allV s.PV j).length) ((allV s.PV j).flatMap u8c) :: imi (0 < Ps35.length) gA43 (.cells kA45 eA46 zA47) :: Im 6 (.slice pp30 L34.length cc31) L34.length (L34.flatMap itCell) :: itsA L34 :: (F.set i emp)) := St.shut_ex (⟨none, 0, pp32, cc33, ([] : List ItemD), Ps35, rfl, hP37⟩ : RnX ({ s with ov := true } : LdS)) (St.shut_star (ls := [blk g (.cells #[.int .i64 s.op.v, .slice none 0 0, .slice pp32 Ps35.length cc33, .bool true] 62 (0, 0)), Im 6 (.slice none 0 0) 0 [], itsA ([] : List ItemD), Im 4 (.slice pp32 Ps35.length cc33) Ps35.length (Ps35.flatMap pcCell), pcA Ps35]) H86)
          have H88 : St W w82 (Row 5 1 (.slice q ((allV s.PV j).length) d) ((allV s.PV j).length) ((allV s.PV j).flatMap u8c) :: Im 6 (.slice pp30 L34.length cc31) L34.length (L34.flatMap itCell) :: itsA L34 :: RnA g ({ s with ov := true } : LdS) :: (F.set i emp)) := ((((H87.move 4 rfl).move 4 rfl).move 3 rfl).drop 4 rfl)
          have H89 : St W w82 (RnA g ({ s with ov := true } : LdS) :: (Row 5 1 (.slice q ((allV s.PV j).length) d) ((allV s.PV j).length) ((allV s.PV j).flatMap u8c) :: Im 6 (.slice pp30 L34.length cc31) L34.length (L34.flatMap itCell) :: itsA L34 :: F).set (i + 3) emp) := (H88.move 3 rfl)
          exact ⟨q, d, pp30, cc31, L34, by rw [ltB_yes hE9, hE9, ← hj9]; rfl, by rw [ltV_yes hE9]; exact lw_f hov hL36, by rw [ltB_yes hE9, ltS_yes hE9, ← hj9]; exact St.back (i := i + 3) (by exact hi) H89⟩
set_option maxHeartbeats 4000000 in
set_option maxRecDepth 100000 in
theorem Ref24_NewLanding_yes {W w : World} {F : List Atom} (op : I64) (ht : timeB op.v = true) (H : St W w F) : Calls Try.prog 19 #[.int .i64 op.v] w (Ret fun v w' => ∃ g, v = .tuple #[.pointer (some ⟨g, 0, none⟩), .int .i64 0] ∧ St W w' (RnA g (newL op) :: F)) := by
  refine calls_of_go (n := 10) Try.func19 rfl Try.ntmps19 rfl ?_
  refine g_seq ?_
  refine g_region ?_
  refine r_cons (s_assign (.pointer none) rfl rfl ?_)
  refine r_cons (s_assign (.int .i64 0) rfl rfl ?_)
  refine r_nil ?_
  refine g_seq ?_
  refine g_seq ?_
  refine g_region ?_
  refine r_cons (s_move (.int .i64 op.v) rfl rfl ?_)
  refine r_cons (s_call [.int .i64 op.v] pl_60 rfl rfl (ref24_time op.v H) ?_)
  rintro _ w1 ⟨rfl, H2⟩
  refine r_cons (s_not (timeB op.v) rfl false (by rw [ht]; rfl) rfl ?_)
  refine r_nil ?_
  refine g_false rfl ?_
  refine g_skip ?_
  refine g_seq ?_
  refine g_region ?_
  refine r_cons (s_move (.int .i64 op.v) rfl rfl ?_)
  refine r_cons (s_build (cs := #[.int .i64 op.v, .slice none 0 0, .slice none 0 0, .bool false]) (by kernel_rfl) rfl ?_)
  refine r_cons (s_box H2 62 (.agg #[.int .i64 op.v, .slice none 0 0, .slice none 0 0, .bool false]) rfl (cs := #[.int .i64 op.v, .slice none 0 0, .slice none 0 0, .bool false]) rfl rfl ?_); intro bk3 w4 H5
  refine r_cons (s_assign (.pointer (some ⟨bk3, 0, none⟩)) rfl rfl ?_)
  refine r_cons (s_assign (.int .i64 0) rfl rfl ?_)
  refine r_nil ?_
  refine g_ret' [.pointer (some ⟨bk3, 0, none⟩), .int .i64 0] Try.func19 Try.results19 ⟨rfl, rfl, trivial⟩ ?_
  have H6 := pcA_nil H5
  have H7 := itsA_nil H6
  have H8 := Row.im (Row.nil_intro H7 32 6) (i := 0) rfl
  have H9 := Row.im (Row.nil_intro H8 51 4) (i := 0) rfl
  have H10 : St W w4 (blk bk3 (.cells #[.int .i64 op.v, .slice none 0 0, .slice none 0 0, .bool false] 62 (0, 0)) :: Im 6 (.slice none 0 0) 0 [] :: itsA ([] : List ItemD) :: Im 4 (.slice none 0 0) 0 [] :: pcA ([] : List PieceD) :: F) := (((((H9.move 3 rfl).move 1 rfl).move 3 rfl).move 3 rfl).move 4 rfl)
  have H11 : St W w4 (RnA bk3 (newL op) :: F) := St.shut_ex (⟨none, 0, none, 0, ([] : List ItemD), ([] : List PieceD), rfl, rfl⟩ : RnX (newL op)) (St.shut_star (ls := [blk bk3 (.cells #[.int .i64 op.v, .slice none 0 0, .slice none 0 0, .bool false] 62 (0, 0)), Im 6 (.slice none 0 0) 0 [], itsA ([] : List ItemD), Im 4 (.slice none 0 0) 0 [], pcA ([] : List PieceD)]) H10)
  have H12 : St W w4 (RnA bk3 (newL op) :: F) := H11
  exact ⟨bk3, rfl, H12⟩
end Sl
