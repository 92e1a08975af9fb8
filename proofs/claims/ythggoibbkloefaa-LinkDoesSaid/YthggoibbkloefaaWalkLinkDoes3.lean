/- Walks of the program's functions. Printed by a program of this claim's author. No condition. -/
import Derived.Test.YthggoibbkloefaaSlBF
import Derived.Test.YthggoibbkloefaaSlQ
import Derived.Test.YthggoibbkloefaaSlG
import Derived.Test.YthggoibbkloefaaSlBB
import Derived.Test.YthggoibbkloefaaSlAB
import Derived.Test.YthggoibbkloefaaSlDC
import Derived.Test.YthggoibbkloefaaSlDJ
import Derived.Test.YthggoibbkloefaaSlEC
import Derived.Test.YthggoibbkloefaaSlBA
import Derived.Test.YthggoibbkloefaaSlEE
import Derived.Test.YthggoibbkloefaaProg
import Derived.Test.YthggoibbkloefaaWalkLinkDoes2
namespace Sl
open _root_.Go _root_.Go.RowKit _root_.Go.Proofs
set_option linter.all false
set_option maxHeartbeats 4000000 in
set_option maxRecDepth 100000 in
theorem Rf_Take {W w : World} {F : List Atom} (g : Nat) (s : EndV) (hv : LInv s) (d : DgM) (v0 : Value) (hN : s.held.length ≤ 1099511627776) {j : Nat} (hj : F[j]? = some (Im 1 v0 d.body.length (d.body.flatMap u8c))) {i : Nat} (hi : F[i]? = some (RfA g s)) (H : St W w F) : Calls Try.prog 41 #[.pointer (some ⟨g, 0, none⟩), .agg #[.int .i64 d.frm.v, .int .i64 d.to_.v, .int .i64 d.kind.v, .int .i64 d.seq.v, .int .i64 d.ack.v, v0]] w (Ret fun v w' => ∃ p c, v = .tuple #[.slice p ((takeT s d).length) c, .int .i64 (takeE s d)] ∧ St W w' (BysA p c (takeT s d) :: F.set i (RfA g (takeS s d)))) := by
  obtain ⟨pp1, cc2, rfl, hsh3⟩ := Rd.shape (Im.rd H (i := j) hj)
  have H4 := H.dup (i := j) hj (Im_pers _ _ _ _)
  have hmlH4 := Im.len H4 (i := 0) rfl
  have H5 := H4.front (i := i + 1) (by exact hi)
  have H6 : St W w (RfA g s :: Im 1 (.slice pp1 d.body.length cc2) d.body.length (d.body.flatMap u8c) :: (F.set i emp)) := H5
  obtain ⟨o1, o2, o3, o4, o5, o6, o8⟩ := id hv.ok; have o7 := i64N_0 (Nat.le_trans o4 (by decide))
  refine calls_of_go (n := 200) Try.func41 rfl Try.ntmps41 rfl ?_
  refine g_seq ?_
  refine g_region ?_
  refine r_cons (s_box H6 41 (.agg #[.int .i64 d.frm.v, .int .i64 d.to_.v, .int .i64 d.kind.v, .int .i64 d.seq.v, .int .i64 d.ack.v, .slice pp1 d.body.length cc2]) rfl (cs := #[.int .i64 d.frm.v, .int .i64 d.to_.v, .int .i64 d.kind.v, .int .i64 d.seq.v, .int .i64 d.ack.v, .slice pp1 d.body.length cc2]) rfl rfl ?_); intro bk7 w8 H9
  refine r_cons (s_assign (.slice none 0 0) rfl rfl ?_)
  refine r_cons (s_assign (.int .i64 0) rfl rfl ?_)
  refine r_nil ?_
  refine g_seq ?_
  refine g_seq ?_
  refine g_region ?_
  refine r_cons (s_loadAgg [.int .i64 d.frm.v, .int .i64 d.to_.v, .int .i64 d.kind.v, .int .i64 d.seq.v, .int .i64 d.ack.v, .slice pp1 d.body.length cc2] 6 ag_41 rfl (H9.blk_at (i := 0) rfl) (Nat.le_of_ble_eq_true rfl) rfl rfl ?_)
  refine r_cons (s_call [.agg #[.int .i64 d.frm.v, .int .i64 d.to_.v, .int .i64 d.kind.v, .int .i64 d.seq.v, .int .i64 d.ack.v, .slice pp1 d.body.length cc2]] pl_57 rfl rfl (eyrieref02_Check d _ RdA.im (j := 2) rfl H9) ?_)
  rintro _ w10 ⟨rfl, H11⟩
  refine r_cons (s_assign (.int .i64 (dgE d)) rfl rfl ?_)
  refine r_nil ?_
  refine g_seq ?_
  refine g_region ?_
  refine r_cons (s_move (.int .i64 (dgE d)) rfl rfl ?_)
  by_cases hc12 : dgE d = 0
  · skip
    refine r_cons (s_neq false rfl rfl (ntrue hc12) rfl ?_)
    refine r_nil ?_
    refine g_false rfl ?_
    refine g_skip ?_
    refine g_seq ?_
    refine g_seq ?_
    have hd0 : dgE d = 0 := by omega
    obtain ⟨q1, q2, q3, q4, q5, q6⟩ := dgE_seq hd0
    have H13 := H11.move 1 rfl
    obtain ⟨⟨⟨pp14, cc15, L16, pp17, cc18, E19, A20⟩, hL21, hA22, hH23⟩, H24⟩ := St.open_ex H13
    have H25 := St.open_star H24
    change L16.map BodD.v = A20 ++ s.l at hL21; change A20.length = s.acked at hA22; change HR s.held (mapB E19) at hH23
    have hl26 := refLen hL21 hA22; have hh27 : E19.length = s.held.length := by have h9 := hH23.len; rw [mapB_len rfl] at h9; exact h9
    have H28 : St W w10 (blk g (.cells #[.int .i64 s.frm.v, .int .i64 s.to_.v, .int .i64 (s.slide : Int), .slice pp14 L16.length cc15, .int .i64 (s.acked : Int), .int .i64 ((i64N s.came).v), .slice pp17 E19.length cc18, .int .i64 (s.clock : Int), .bool s.owes] 86 (0, 0)) :: Row 101 3 (.slice pp14 L16.length cc15) L16.length (L16.flatMap bodCell) :: byA (L16.map BodD.by) :: Row 105 2 (.slice pp17 E19.length cc18) E19.length (E19.flatMap hlCell) :: byA (mby E19) :: blk bk7 (.cells #[.int .i64 d.frm.v, .int .i64 d.to_.v, .int .i64 d.kind.v, .int .i64 d.seq.v, .int .i64 d.ack.v, .slice pp1 d.body.length cc2] 41 (0, 0)) :: Im 1 (.slice pp1 d.body.length cc2) d.body.length (d.body.flatMap u8c) :: (F.set i emp)) := H25
    have hu0 := under_le s
    refine g_cut (fun (x_ : Unit) => match x_ with | z_ => [(0, .pointer (some ⟨g, 0, none⟩)), (3, .pointer (some ⟨bk7, 0, none⟩)), (4, .slice none 0 0), (5, .int .i64 0), (56, .bool (stray s d))]) (fun (x_ : Unit) w => match x_ with | z_ => (True) ∧ St W w (blk g (.cells #[.int .i64 s.frm.v, .int .i64 s.to_.v, .int .i64 (s.slide : Int), .slice pp14 L16.length cc15, .int .i64 (s.acked : Int), .int .i64 ((i64N s.came).v), .slice pp17 E19.length cc18, .int .i64 (s.clock : Int), .bool s.owes] 86 (0, 0)) :: Row 101 3 (.slice pp14 L16.length cc15) L16.length (L16.flatMap bodCell) :: byA (L16.map BodD.by) :: Row 105 2 (.slice pp17 E19.length cc18) E19.length (E19.flatMap hlCell) :: byA (mby E19) :: blk bk7 (.cells #[.int .i64 d.frm.v, .int .i64 d.to_.v, .int .i64 d.kind.v, .int .i64 d.seq.v, .int .i64 d.ack.v, .slice pp1 d.body.length cc2] 41 (0, 0)) :: Im 1 (.slice pp1 d.body.length cc2) d.body.length (d.body.flatMap u8c) :: (F.set i emp))) ?_ ?_
    · rintro z_ ρ32 w30 ⟨hz_, H31⟩
      change Ends _ _ (upds ρ32 [(0, .pointer (some ⟨g, 0, none⟩)), (3, .pointer (some ⟨bk7, 0, none⟩)), (4, .slice none 0 0), (5, .int .i64 0), (56, .bool (stray s d))]) w30
      by_cases hb33 : (stray s d) = true
      · skip
        refine g_true (congrArg Value.bool hb33) ?_
        refine g_seq ?_
        refine g_region ?_
        refine r_cons (s_assign (.slice none 0 0) rfl rfl ?_)
        refine r_cons (s_assign (.int .i64 210) rfl rfl ?_)
        refine r_nil ?_
        refine g_ret' [.slice none 0 0, .int .i64 210] Try.func41 Try.results41 ⟨rfl, rfl, trivial⟩ ?_
        have H34 : St W w30 (RfA g s :: blk bk7 (.cells #[.int .i64 d.frm.v, .int .i64 d.to_.v, .int .i64 d.kind.v, .int .i64 d.seq.v, .int .i64 d.ack.v, .slice pp1 d.body.length cc2] 41 (0, 0)) :: Im 1 (.slice pp1 d.body.length cc2) d.body.length (d.body.flatMap u8c) :: (F.set i emp)) := St.shut_ex ⟨⟨pp14, cc15, L16, pp17, cc18, E19, A20⟩, hL21, hA22, hH23⟩ (St.shut_star (ls := [blk g (.cells #[.int .i64 s.frm.v, .int .i64 s.to_.v, .int .i64 (s.slide : Int), .slice pp14 L16.length cc15, .int .i64 (s.acked : Int), .int .i64 ((i64N s.came).v), .slice pp17 E19.length cc18, .int .i64 (s.clock : Int), .bool s.owes] 86 (0, 0)), Row 101 3 (.slice pp14 L16.length cc15) L16.length (L16.flatMap bodCell), byA (L16.map BodD.by), Row 105 2 (.slice pp17 E19.length cc18) E19.length (E19.flatMap hlCell), byA (mby E19)]) H31)
        have hE : takeE s d = 210 := takeE_210 hd0 (by assumption)
        have hE0 : ¬ takeE s d = 0 := by omega
        have H35 := Row.nil_intro H34 26 1
        have H36 := byA_nil H35
        have H37 : St W w30 (Row 26 1 (.slice none 0 0) 0 [] :: byA ([] : List BytesD) :: RfA g s :: blk bk7 (.cells #[.int .i64 d.frm.v, .int .i64 d.to_.v, .int .i64 d.kind.v, .int .i64 d.seq.v, .int .i64 d.ack.v, .slice pp1 d.body.length cc2] 41 (0, 0)) :: Im 1 (.slice pp1 d.body.length cc2) d.body.length (d.body.flatMap u8c) :: (F.set i emp)) := (H36.move 1 rfl)
        have hT9 : takeT s d = [] := takeT_no (fun h => hE0 h.1)
        have H38 : St W w30 (BysA none 0 (takeT s d) :: RfA g s :: blk bk7 (.cells #[.int .i64 d.frm.v, .int .i64 d.to_.v, .int .i64 d.kind.v, .int .i64 d.seq.v, .int .i64 d.ack.v, .slice pp1 d.body.length cc2] 41 (0, 0)) :: Im 1 (.slice pp1 d.body.length cc2) d.body.length (d.body.flatMap u8c) :: (F.set i emp)) := by rw [hT9]; exact St.shut_ex ⟨[], rfl⟩ (St.shut_star (ls := [Row 26 1 (.slice none 0 0) 0 [], byA ([] : List BytesD)]) H37)
        have H39 : St W w30 (BysA none 0 (takeT s d) :: RfA g (takeS s d) :: blk bk7 (.cells #[.int .i64 d.frm.v, .int .i64 d.to_.v, .int .i64 d.kind.v, .int .i64 d.seq.v, .int .i64 d.ack.v, .slice pp1 d.body.length cc2] 41 (0, 0)) :: Im 1 (.slice pp1 d.body.length cc2) d.body.length (d.body.flatMap u8c) :: (F.set i emp)) := by rw [takeS_no hE0]; exact H38
        have H40 : St W w30 (BysA none 0 (takeT s d) :: RfA g (takeS s d) :: (F.set i emp)) := ((((H39.move 1 rfl).move 1 rfl).drop 2 rfl).drop 2 rfl)
        have H41 : St W w30 (RfA g (takeS s d) :: (BysA none 0 (takeT s d) :: F).set (i + 1) emp) := (H40.move 1 rfl)
        exact ⟨none, 0, by rw [hE, hT9]; rfl, St.back (i := i + 1) (by exact hi) H41⟩
      · have hb33 := eq_false_of_ne_true hb33
        refine g_false (congrArg Value.bool hb33) ?_
        refine g_skip ?_
        refine g_seq ?_
        have hst : stray s d = false := by assumption
        have hE : takeE s d = 0 := takeE_is hd0 hst
        have hs9 := stray_not hst
        have H42 : St W w30 (Row 101 3 (.slice pp14 L16.length cc15) L16.length (L16.flatMap bodCell) :: byA (L16.map BodD.by) :: Row 105 2 (.slice pp17 E19.length cc18) E19.length (E19.flatMap hlCell) :: byA (mby E19) :: blk bk7 (.cells #[.int .i64 d.frm.v, .int .i64 d.to_.v, .int .i64 d.kind.v, .int .i64 d.seq.v, .int .i64 d.ack.v, .slice pp1 d.body.length cc2] 41 (0, 0)) :: Im 1 (.slice pp1 d.body.length cc2) d.body.length (d.body.flatMap u8c) :: blk g (.cells #[.int .i64 s.frm.v, .int .i64 s.to_.v, .int .i64 (s.slide : Int), .slice pp14 L16.length cc15, .int .i64 (s.acked : Int), .int .i64 ((i64N s.came).v), .slice pp17 E19.length cc18, .int .i64 (s.clock : Int), .bool s.owes] 86 (0, 0)) :: (F.set i emp)) := ((((((H31.move 6 rfl).move 6 rfl).move 6 rfl).move 6 rfl).move 6 rfl).move 6 rfl)
        refine g_mix (fun t_ w => St W w (Row 101 3 (.slice pp14 L16.length cc15) L16.length (L16.flatMap bodCell) :: byA (L16.map BodD.by) :: Row 105 2 (.slice pp17 E19.length cc18) E19.length (E19.flatMap hlCell) :: byA (mby E19) :: blk bk7 (.cells #[.int .i64 d.frm.v, .int .i64 d.to_.v, .int .i64 d.kind.v, .int .i64 d.seq.v, .int .i64 d.ack.v, .slice pp1 d.body.length cc2] 41 (0, 0)) :: Im 1 (.slice pp1 d.body.length cc2) d.body.length (d.body.flatMap u8c) :: t_)) (blk g (.cells #[.int .i64 s.frm.v, .int .i64 s.to_.v, .int .i64 (s.slide : Int), .slice pp14 L16.length cc15, .int .i64 (s.acked : Int), .int .i64 ((i64N s.came).v), .slice pp17 E19.length cc18, .int .i64 (s.clock : Int), .bool s.owes] 86 (0, 0)) :: (F.set i emp)) mixed 11 rfl H42.drew ?_
        refine f_first 0 (listed' := #[true, false, false, false, false, false, false, false, false, false, false]) rfl (by kernel_rfl) (by kernel_rfl) (by kernel_rfl) rfl ?_
        refine f_val rfl rfl rfl (by intro t_ w hw; exact x_move (.pointer (some ⟨g, 0, none⟩)) rfl w) ?_
        refine f_first 1 (listed' := #[true, true, false, false, false, false, false, false, false, false, false]) rfl (by kernel_rfl) (by kernel_rfl) (by kernel_rfl) rfl ?_
        refine f_val rfl rfl rfl (by intro t_ w hw; exact x_move (.pointer (some ⟨g, 0, none⟩)) rfl w) ?_
        refine f_first 2 (listed' := #[true, true, true, false, false, false, false, false, false, false, false]) rfl (by kernel_rfl) (by kernel_rfl) (by kernel_rfl) rfl ?_
        refine f_val rfl rfl rfl (by intro t_ w hw; exact x_nilCheck (.pointer (some ⟨g, 0, none⟩)) rfl ⟨_, rfl⟩ w) ?_
        refine f_first 3 (listed' := #[true, true, true, true, false, false, false, false, false, false, false]) rfl (by kernel_rfl) (by kernel_rfl) (by kernel_rfl) rfl ?_
        refine f_val rfl rfl rfl (by intro t_ w hw; exact x_fieldAddr 86 3 4 4 2 rfl fi_86_3 rfl w) ?_
        refine f_first 5 (listed' := #[true, true, true, true, false, true, false, false, false, false, false]) rfl (by kernel_rfl) (by kernel_rfl) (by kernel_rfl) rfl ?_
        refine f_val rfl rfl rfl (by intro t_ w hw; exact x_fieldAddr 41 4 4 4 2 rfl fi_41_4 rfl w) ?_
        refine f_first 6 (listed' := #[true, true, true, true, false, true, true, false, false, false, false]) rfl (by kernel_rfl) (by kernel_rfl) (by kernel_rfl) rfl ?_
        refine f_val rfl rfl rfl (by intro t_ w hw; exact x_load (.int .i64 d.ack.v) ag_2 rfl (hw.blk_at (i := 4) rfl) rfl) ?_
        refine f_all (rs := [4]) (by kernel_rfl) (by simp) ?_
        refine a_cons ⟨_, rfl, ?_⟩ (fun x hx => absurd hx (by simp))
        intro w43 H44
        try dsimp only at H44
        refine s_load (.int .i64 (s.acked : Int)) ag_2 rfl (H44.blk_at (i := 6) rfl) rfl rfl ?_
        refine ⟨blk g (.cells #[.int .i64 s.frm.v, .int .i64 s.to_.v, .int .i64 (s.slide : Int), .slice pp14 L16.length cc15, .int .i64 (s.acked : Int), .int .i64 ((i64N s.came).v), .slice pp17 E19.length cc18, .int .i64 (s.clock : Int), .bool s.owes] 86 (0, 0)) :: (F.set i emp), ?_, H44⟩
        change FReg _ _ _ _ _ #[true, true, true, true, true, true, true, false, false, false, false] _ _
        refine f_first 7 (listed' := #[true, true, true, true, true, true, true, true, false, false, false]) rfl (by kernel_rfl) (by kernel_rfl) (by kernel_rfl) rfl ?_
        refine f_val rfl rfl rfl (by intro t_ w hw; exact x_max2 ((ackS s d.ack.v).acked : Int) rfl rfl (ackS_max q3) w) ?_
        refine f_first 8 (listed' := #[true, true, true, true, true, true, true, true, true, false, false]) rfl (by kernel_rfl) (by kernel_rfl) (by kernel_rfl) rfl ?_
        refine f_val rfl rfl rfl (by intro t_ w hw; exact x_nilCheck (.pointer (some ⟨g, 0, none⟩)) rfl ⟨_, rfl⟩ w) ?_
        refine f_first 9 (listed' := #[true, true, true, true, true, true, true, true, true, true, false]) rfl (by kernel_rfl) (by kernel_rfl) (by kernel_rfl) rfl ?_
        refine f_val rfl rfl rfl (by intro t_ w hw; exact x_fieldAddr 86 3 4 4 2 rfl fi_86_3 rfl w) ?_
        refine f_all (rs := [10]) (by kernel_rfl) (by simp) ?_
        refine a_cons ⟨_, rfl, ?_⟩ (fun x hx => absurd hx (by simp))
        intro w45 H46
        try dsimp only at H46
        refine s_store H46 6 (.int .i64 ((ackS s d.ack.v).acked : Int)) rfl rfl rfl sz_2 rfl (Nat.le_of_ble_eq_true rfl) rfl (cs' := #[.int .i64 s.frm.v, .int .i64 s.to_.v, .int .i64 (s.slide : Int), .slice pp14 L16.length cc15, .int .i64 ((ackS s d.ack.v).acked : Int), .int .i64 ((i64N s.came).v), .slice pp17 E19.length cc18, .int .i64 (s.clock : Int), .bool s.owes]) rfl ?_; intro w47 H48
        refine ⟨blk g (.cells #[.int .i64 s.frm.v, .int .i64 s.to_.v, .int .i64 (s.slide : Int), .slice pp14 L16.length cc15, .int .i64 ((ackS s d.ack.v).acked : Int), .int .i64 ((i64N s.came).v), .slice pp17 E19.length cc18, .int .i64 (s.clock : Int), .bool s.owes] 86 (0, 0)) :: (F.set i emp), ?_, H48⟩
        change FReg _ _ _ _ _ #[true, true, true, true, true, true, true, true, true, true, true] _ _
        refine f_done (by kernel_rfl) ?_
        intro w49 H50
        refine g_seq ?_
        refine g_seq ?_
        refine g_region ?_
        refine r_cons (s_fieldAddr 41 2 2 2 3 rfl fi_41_2 rfl rfl ?_)
        obtain ⟨A9, hL9, hA9⟩ := refAck (a := d.ack.v) hL21 hA22 (by omega)
        have hca := ackS_came s d.ack.v; have hhe := ackS_held s d.ack.v; have hcy : (i64N (ackS s d.ack.v).came).v = (s.came : Int) := by rw [hca]; exact o7
        have H51 : St W w49 (blk g (.cells #[.int .i64 s.frm.v, .int .i64 s.to_.v, .int .i64 (s.slide : Int), .slice pp14 L16.length cc15, .int .i64 ((ackS s d.ack.v).acked : Int), .int .i64 ((i64N s.came).v), .slice pp17 E19.length cc18, .int .i64 (s.clock : Int), .bool s.owes] 86 (0, 0)) :: Row 101 3 (.slice pp14 L16.length cc15) L16.length (L16.flatMap bodCell) :: byA (L16.map BodD.by) :: Row 105 2 (.slice pp17 E19.length cc18) E19.length (E19.flatMap hlCell) :: byA (mby E19) :: blk bk7 (.cells #[.int .i64 d.frm.v, .int .i64 d.to_.v, .int .i64 d.kind.v, .int .i64 d.seq.v, .int .i64 d.ack.v, .slice pp1 d.body.length cc2] 41 (0, 0)) :: Im 1 (.slice pp1 d.body.length cc2) d.body.length (d.body.flatMap u8c) :: (F.set i emp)) := (((((H50.move 3 rfl).move 3 rfl).move 3 rfl).move 3 rfl).move 6 rfl)
        have H52 : St W w49 (RfA g ({ s with l := (ackS s d.ack.v).l, acked := (ackS s d.ack.v).acked } : EndV) :: blk bk7 (.cells #[.int .i64 d.frm.v, .int .i64 d.to_.v, .int .i64 d.kind.v, .int .i64 d.seq.v, .int .i64 d.ack.v, .slice pp1 d.body.length cc2] 41 (0, 0)) :: Im 1 (.slice pp1 d.body.length cc2) d.body.length (d.body.flatMap u8c) :: (F.set i emp)) := St.shut_ex ⟨⟨pp14, cc15, L16, pp17, cc18, E19, A9⟩, hL9, hA9, hH23⟩ (St.shut_star (ls := [blk g (.cells #[.int .i64 s.frm.v, .int .i64 s.to_.v, .int .i64 (s.slide : Int), .slice pp14 L16.length cc15, .int .i64 ((ackS s d.ack.v).acked : Int), .int .i64 ((i64N s.came).v), .slice pp17 E19.length cc18, .int .i64 (s.clock : Int), .bool s.owes] 86 (0, 0)), Row 101 3 (.slice pp14 L16.length cc15) L16.length (L16.flatMap bodCell), byA (L16.map BodD.by), Row 105 2 (.slice pp17 E19.length cc18) E19.length (E19.flatMap hlCell), byA (mby E19)]) H51)
        have H53 : St W w49 (RfA g (ackS s d.ack.v) :: blk bk7 (.cells #[.int .i64 d.frm.v, .int .i64 d.to_.v, .int .i64 d.kind.v, .int .i64 d.seq.v, .int .i64 d.ack.v, .slice pp1 d.body.length cc2] 41 (0, 0)) :: Im 1 (.slice pp1 d.body.length cc2) d.body.length (d.body.flatMap u8c) :: (F.set i emp)) := by have hx := H52; rw [ackS_is s d.ack.v] at hx; exact hx
        refine r_cons (s_load (.int .i64 d.kind.v) ag_3 rfl (H53.blk_at (i := 1) rfl) rfl rfl ?_)
        by_cases hc54 : d.kind.v = 2
        · skip
          refine r_cons (s_eql true rfl rfl (dtrue hc54) rfl ?_)
          refine r_nil ?_
          refine g_true rfl ?_
          refine g_seq ?_
          refine g_region ?_
          refine r_cons (s_assign (.slice none 0 0) rfl rfl ?_)
          refine r_cons (s_assign (.int .i64 0) rfl rfl ?_)
          refine r_nil ?_
          refine g_ret' [.slice none 0 0, .int .i64 0] Try.func41 Try.results41 ⟨rfl, rfl, trivial⟩ ?_
          have H55 := Row.nil_intro H53 26 1
          have H56 := byA_nil H55
          have H57 : St W w49 (Row 26 1 (.slice none 0 0) 0 [] :: byA ([] : List BytesD) :: RfA g (ackS s d.ack.v) :: blk bk7 (.cells #[.int .i64 d.frm.v, .int .i64 d.to_.v, .int .i64 d.kind.v, .int .i64 d.seq.v, .int .i64 d.ack.v, .slice pp1 d.body.length cc2] 41 (0, 0)) :: Im 1 (.slice pp1 d.body.length cc2) d.body.length (d.body.flatMap u8c) :: (F.set i emp)) := (H56.move 1 rfl)
          have hT9 : takeT s d = [] := takeT_no (fun h => by omega)
          have H58 : St W w49 (BysA none 0 (takeT s d) :: RfA g (ackS s d.ack.v) :: blk bk7 (.cells #[.int .i64 d.frm.v, .int .i64 d.to_.v, .int .i64 d.kind.v, .int .i64 d.seq.v, .int .i64 d.ack.v, .slice pp1 d.body.length cc2] 41 (0, 0)) :: Im 1 (.slice pp1 d.body.length cc2) d.body.length (d.body.flatMap u8c) :: (F.set i emp)) := by rw [hT9]; exact St.shut_ex ⟨[], rfl⟩ (St.shut_star (ls := [Row 26 1 (.slice none 0 0) 0 [], byA ([] : List BytesD)]) H57)
          have H59 : St W w49 (BysA none 0 (takeT s d) :: RfA g (takeS s d) :: blk bk7 (.cells #[.int .i64 d.frm.v, .int .i64 d.to_.v, .int .i64 d.kind.v, .int .i64 d.seq.v, .int .i64 d.ack.v, .slice pp1 d.body.length cc2] 41 (0, 0)) :: Im 1 (.slice pp1 d.body.length cc2) d.body.length (d.body.flatMap u8c) :: (F.set i emp)) := by rw [takeS_ack hE (by omega)]; exact H58
          have H60 : St W w49 (BysA none 0 (takeT s d) :: RfA g (takeS s d) :: (F.set i emp)) := ((((H59.move 1 rfl).move 1 rfl).drop 2 rfl).drop 2 rfl)
          have H61 : St W w49 (RfA g (takeS s d) :: (BysA none 0 (takeT s d) :: F).set (i + 1) emp) := (H60.move 1 rfl)
          exact ⟨none, 0, by rw [hE, hT9]; rfl, St.back (i := i + 1) (by exact hi) H61⟩
        · skip
          refine r_cons (s_eql false rfl rfl (dfalse hc54) rfl ?_)
          refine r_nil ?_
          refine g_false rfl ?_
          refine g_skip ?_
          refine g_seq ?_
          refine g_region ?_
          refine r_cons (s_move (.pointer (some ⟨g, 0, none⟩)) rfl rfl ?_)
          have hk1 : d.kind.v = 1 := by omega
          have H62 := H53.move 0 rfl
          obtain ⟨⟨⟨pp63, cc64, L65, pp66, cc67, E68, A69⟩, hL70, hA71, hH72⟩, H73⟩ := St.open_ex H62
          have H74 := St.open_star H73
          change L65.map BodD.v = A69 ++ (ackS s d.ack.v).l at hL70; change A69.length = (ackS s d.ack.v).acked at hA71; change HR (ackS s d.ack.v).held (mapB E68) at hH72
          have hl75 := refLen hL70 hA71; have hh76 : E68.length = (ackS s d.ack.v).held.length := by have h9 := hH72.len; rw [mapB_len rfl] at h9; exact h9
          have H77 : St W w49 (blk g (.cells #[.int .i64 ((ackS s d.ack.v).frm.v), .int .i64 ((ackS s d.ack.v).to_.v), .int .i64 ((ackS s d.ack.v).slide : Int), .slice pp63 L65.length cc64, .int .i64 ((ackS s d.ack.v).acked : Int), .int .i64 ((i64N (ackS s d.ack.v).came).v), .slice pp66 E68.length cc67, .int .i64 ((ackS s d.ack.v).clock : Int), .bool ((ackS s d.ack.v).owes)] 86 (0, 0)) :: Row 101 3 (.slice pp63 L65.length cc64) L65.length (L65.flatMap bodCell) :: byA (L65.map BodD.by) :: Row 105 2 (.slice pp66 E68.length cc67) E68.length (E68.flatMap hlCell) :: byA (mby E68) :: blk bk7 (.cells #[.int .i64 d.frm.v, .int .i64 d.to_.v, .int .i64 d.kind.v, .int .i64 d.seq.v, .int .i64 d.ack.v, .slice pp1 d.body.length cc2] 41 (0, 0)) :: Im 1 (.slice pp1 d.body.length cc2) d.body.length (d.body.flatMap u8c) :: (F.set i emp)) := H74
          refine r_cons (s_nilCheck (.pointer (some ⟨g, 0, none⟩)) rfl ⟨_, rfl⟩ rfl ?_)
          refine r_cons (s_fieldAddr 86 7 8 8 4 rfl fi_86_7 rfl rfl ?_)
          refine r_cons (s_store H77 0 (.bool true) rfl rfl rfl sz_4 rfl (Nat.le_of_ble_eq_true rfl) rfl (cs' := #[.int .i64 ((ackS s d.ack.v).frm.v), .int .i64 ((ackS s d.ack.v).to_.v), .int .i64 ((ackS s d.ack.v).slide : Int), .slice pp63 L65.length cc64, .int .i64 ((ackS s d.ack.v).acked : Int), .int .i64 ((i64N (ackS s d.ack.v).came).v), .slice pp66 E68.length cc67, .int .i64 ((ackS s d.ack.v).clock : Int), .bool true]) rfl ?_); intro w78 H79
          refine r_nil ?_
          refine g_seq ?_
          refine g_region ?_
          refine r_cons (s_assign (.int .i64 0) rfl rfl ?_)
          refine r_nil ?_
          refine g_seq ?_
          have H80 : St W w78 (RfA g ({ ackS s d.ack.v with owes := true } : EndV) :: blk bk7 (.cells #[.int .i64 d.frm.v, .int .i64 d.to_.v, .int .i64 d.kind.v, .int .i64 d.seq.v, .int .i64 d.ack.v, .slice pp1 d.body.length cc2] 41 (0, 0)) :: Im 1 (.slice pp1 d.body.length cc2) d.body.length (d.body.flatMap u8c) :: (F.set i emp)) := St.shut_ex ⟨⟨pp63, cc64, L65, pp66, cc67, E68, A69⟩, hL70, hA71, hH72⟩ (St.shut_star (ls := [blk g (.cells #[.int .i64 ((ackS s d.ack.v).frm.v), .int .i64 ((ackS s d.ack.v).to_.v), .int .i64 ((ackS s d.ack.v).slide : Int), .slice pp63 L65.length cc64, .int .i64 ((ackS s d.ack.v).acked : Int), .int .i64 ((i64N (ackS s d.ack.v).came).v), .slice pp66 E68.length cc67, .int .i64 ((ackS s d.ack.v).clock : Int), .bool true] 86 (0, 0)), Row 101 3 (.slice pp63 L65.length cc64) L65.length (L65.flatMap bodCell), byA (L65.map BodD.by), Row 105 2 (.slice pp66 E68.length cc67) E68.length (E68.flatMap hlCell), byA (mby E68)]) H79)
          have H81 : St W w78 (RfA g (drS (ackS s d.ack.v) s.came s.held) :: blk bk7 (.cells #[.int .i64 d.frm.v, .int .i64 d.to_.v, .int .i64 d.kind.v, .int .i64 d.seq.v, .int .i64 d.ack.v, .slice pp1 d.body.length cc2] 41 (0, 0)) :: Im 1 (.slice pp1 d.body.length cc2) d.body.length (d.body.flatMap u8c) :: (F.set i emp)) := by rw [drS_ack]; exact H80
          have H82 := H81.move 0 rfl
          obtain ⟨⟨⟨pp83, cc84, L85, pp86, cc87, E88, A89⟩, hL90, hA91, hH92⟩, H93⟩ := St.open_ex H82
          have H94 := St.open_star H93
          change L85.map BodD.v = A89 ++ (drS (ackS s d.ack.v) s.came s.held).l at hL90; change A89.length = (drS (ackS s d.ack.v) s.came s.held).acked at hA91; change HR (drS (ackS s d.ack.v) s.came s.held).held (mapB E88) at hH92
          have hl95 := refLen hL90 hA91; have hh96 : E88.length = (drS (ackS s d.ack.v) s.came s.held).held.length := by have h9 := hH92.len; rw [mapB_len rfl] at h9; exact h9
          have H97 : St W w78 (blk g (.cells #[.int .i64 ((drS (ackS s d.ack.v) s.came s.held).frm.v), .int .i64 ((drS (ackS s d.ack.v) s.came s.held).to_.v), .int .i64 ((drS (ackS s d.ack.v) s.came s.held).slide : Int), .slice pp83 L85.length cc84, .int .i64 ((drS (ackS s d.ack.v) s.came s.held).acked : Int), .int .i64 ((i64N (drS (ackS s d.ack.v) s.came s.held).came).v), .slice pp86 E88.length cc87, .int .i64 ((drS (ackS s d.ack.v) s.came s.held).clock : Int), .bool ((drS (ackS s d.ack.v) s.came s.held).owes)] 86 (0, 0)) :: Row 101 3 (.slice pp83 L85.length cc84) L85.length (L85.flatMap bodCell) :: byA (L85.map BodD.by) :: Row 105 2 (.slice pp86 E88.length cc87) E88.length (E88.flatMap hlCell) :: byA (mby E88) :: blk bk7 (.cells #[.int .i64 d.frm.v, .int .i64 d.to_.v, .int .i64 d.kind.v, .int .i64 d.seq.v, .int .i64 d.ack.v, .slice pp1 d.body.length cc2] 41 (0, 0)) :: Im 1 (.slice pp1 d.body.length cc2) d.body.length (d.body.flatMap u8c) :: (F.set i emp)) := H94
          change HR s.held (mapB E88) at hH92
          have hcS : (i64N (drS (ackS s d.ack.v) s.came s.held).came).v = (s.came : Int) := o7; have hHL : E88.length ≤ 1099511627776 := by rw [hh96]; exact hN
          refine g_cut (fun (x_ : Nat) => match x_ with | k => [(0, .pointer (some ⟨g, 0, none⟩)), (3, .pointer (some ⟨bk7, 0, none⟩)), (4, .slice none 0 0), (5, .int .i64 0), (7, .int .i64 (k : Int))]) (fun (x_ : Nat) w => match x_ with | k => (k ≤ E88.length) ∧ (∀ i, i < k → ((mapB E88).getD i default).1.v < d.seq.v) ∧ (k < E88.length → ¬ (E88.getD k default).1.v < d.seq.v) ∧ St W w (blk g (.cells #[.int .i64 ((drS (ackS s d.ack.v) s.came s.held).frm.v), .int .i64 ((drS (ackS s d.ack.v) s.came s.held).to_.v), .int .i64 ((drS (ackS s d.ack.v) s.came s.held).slide : Int), .slice pp83 L85.length cc84, .int .i64 ((drS (ackS s d.ack.v) s.came s.held).acked : Int), .int .i64 ((i64N (drS (ackS s d.ack.v) s.came s.held).came).v), .slice pp86 E88.length cc87, .int .i64 ((drS (ackS s d.ack.v) s.came s.held).clock : Int), .bool ((drS (ackS s d.ack.v) s.came s.held).owes)] 86 (0, 0)) :: Row 101 3 (.slice pp83 L85.length cc84) L85.length (L85.flatMap bodCell) :: byA (L85.map BodD.by) :: Row 105 2 (.slice pp86 E88.length cc87) E88.length (E88.flatMap hlCell) :: byA (mby E88) :: blk bk7 (.cells #[.int .i64 d.frm.v, .int .i64 d.to_.v, .int .i64 d.kind.v, .int .i64 d.seq.v, .int .i64 d.ack.v, .slice pp1 d.body.length cc2] 41 (0, 0)) :: Im 1 (.slice pp1 d.body.length cc2) d.body.length (d.body.flatMap u8c) :: (F.set i emp))) ?_ ?_
          · rintro k ρ101 w99 ⟨hkn, hlt, hex, H100⟩
            change Ends _ _ (upds ρ101 [(0, .pointer (some ⟨g, 0, none⟩)), (3, .pointer (some ⟨bk7, 0, none⟩)), (4, .slice none 0 0), (5, .int .i64 0), (7, .int .i64 (k : Int))]) w99
            refine g_seq ?_
            refine g_seq ?_
            refine g_cut (fun (x_ : Unit) => match x_ with | z_ => [(0, .pointer (some ⟨g, 0, none⟩)), (3, .pointer (some ⟨bk7, 0, none⟩)), (4, .slice none 0 0), (5, .int .i64 0), (7, .int .i64 (k : Int)), (123, .bool (decide (d.seq.v < (s.came : Int) ∨ ahas s.held d.seq = true)))]) (fun (x_ : Unit) w => match x_ with | z_ => (True) ∧ St W w (blk g (.cells #[.int .i64 ((drS (ackS s d.ack.v) s.came s.held).frm.v), .int .i64 ((drS (ackS s d.ack.v) s.came s.held).to_.v), .int .i64 ((drS (ackS s d.ack.v) s.came s.held).slide : Int), .slice pp83 L85.length cc84, .int .i64 ((drS (ackS s d.ack.v) s.came s.held).acked : Int), .int .i64 ((i64N (drS (ackS s d.ack.v) s.came s.held).came).v), .slice pp86 E88.length cc87, .int .i64 ((drS (ackS s d.ack.v) s.came s.held).clock : Int), .bool ((drS (ackS s d.ack.v) s.came s.held).owes)] 86 (0, 0)) :: Row 101 3 (.slice pp83 L85.length cc84) L85.length (L85.flatMap bodCell) :: byA (L85.map BodD.by) :: Row 105 2 (.slice pp86 E88.length cc87) E88.length (E88.flatMap hlCell) :: byA (mby E88) :: blk bk7 (.cells #[.int .i64 d.frm.v, .int .i64 d.to_.v, .int .i64 d.kind.v, .int .i64 d.seq.v, .int .i64 d.ack.v, .slice pp1 d.body.length cc2] 41 (0, 0)) :: Im 1 (.slice pp1 d.body.length cc2) d.body.length (d.body.flatMap u8c) :: (F.set i emp))) ?_ ?_
            · rintro z_ ρ105 w103 ⟨hz2, H104⟩
              change Ends _ _ (upds ρ105 [(0, .pointer (some ⟨g, 0, none⟩)), (3, .pointer (some ⟨bk7, 0, none⟩)), (4, .slice none 0 0), (5, .int .i64 0), (7, .int .i64 (k : Int)), (123, .bool (decide (d.seq.v < (s.came : Int) ∨ ahas s.held d.seq = true)))]) w103
              by_cases hb106 : (decide (d.seq.v < (s.came : Int) ∨ ahas s.held d.seq = true)) = true
              · skip
                refine g_true (congrArg Value.bool hb106) ?_
                refine g_seq ?_
                refine g_region ?_
                refine r_cons (s_assign (.slice none 0 0) rfl rfl ?_)
                refine r_cons (s_assign (.int .i64 0) rfl rfl ?_)
                refine r_nil ?_
                refine g_ret' [.slice none 0 0, .int .i64 0] Try.func41 Try.results41 ⟨rfl, rfl, trivial⟩ ?_
                have H107 : St W w103 (RfA g (drS (ackS s d.ack.v) s.came s.held) :: blk bk7 (.cells #[.int .i64 d.frm.v, .int .i64 d.to_.v, .int .i64 d.kind.v, .int .i64 d.seq.v, .int .i64 d.ack.v, .slice pp1 d.body.length cc2] 41 (0, 0)) :: Im 1 (.slice pp1 d.body.length cc2) d.body.length (d.body.flatMap u8c) :: (F.set i emp)) := St.shut_ex ⟨⟨pp83, cc84, L85, pp86, cc87, E88, A89⟩, hL90, hA91, hH92⟩ (St.shut_star (ls := [blk g (.cells #[.int .i64 ((drS (ackS s d.ack.v) s.came s.held).frm.v), .int .i64 ((drS (ackS s d.ack.v) s.came s.held).to_.v), .int .i64 ((drS (ackS s d.ack.v) s.came s.held).slide : Int), .slice pp83 L85.length cc84, .int .i64 ((drS (ackS s d.ack.v) s.came s.held).acked : Int), .int .i64 ((i64N (drS (ackS s d.ack.v) s.came s.held).came).v), .slice pp86 E88.length cc87, .int .i64 ((drS (ackS s d.ack.v) s.came s.held).clock : Int), .bool ((drS (ackS s d.ack.v) s.came s.held).owes)] 86 (0, 0)), Row 101 3 (.slice pp83 L85.length cc84) L85.length (L85.flatMap bodCell), byA (L85.map BodD.by), Row 105 2 (.slice pp86 E88.length cc87) E88.length (E88.flatMap hlCell), byA (mby E88)]) H104)
                have hC : takeC s d = ([], s.came, s.held) := takeC_no (of_decide_eq_true (show decide (d.seq.v < (s.came : Int) ∨ ahas s.held d.seq = true) = true by assumption))
                have H108 := Row.nil_intro H107 26 1
                have H109 := byA_nil H108
                have H110 : St W w103 (Row 26 1 (.slice none 0 0) 0 [] :: byA ([] : List BytesD) :: RfA g (drS (ackS s d.ack.v) s.came s.held) :: blk bk7 (.cells #[.int .i64 d.frm.v, .int .i64 d.to_.v, .int .i64 d.kind.v, .int .i64 d.seq.v, .int .i64 d.ack.v, .slice pp1 d.body.length cc2] 41 (0, 0)) :: Im 1 (.slice pp1 d.body.length cc2) d.body.length (d.body.flatMap u8c) :: (F.set i emp)) := (H109.move 1 rfl)
                have hT9 : takeT s d = [] := by rw [takeT_yes hE hk1, hC]
                have H111 : St W w103 (BysA none 0 (takeT s d) :: RfA g (drS (ackS s d.ack.v) s.came s.held) :: blk bk7 (.cells #[.int .i64 d.frm.v, .int .i64 d.to_.v, .int .i64 d.kind.v, .int .i64 d.seq.v, .int .i64 d.ack.v, .slice pp1 d.body.length cc2] 41 (0, 0)) :: Im 1 (.slice pp1 d.body.length cc2) d.body.length (d.body.flatMap u8c) :: (F.set i emp)) := by rw [hT9]; exact St.shut_ex ⟨[], rfl⟩ (St.shut_star (ls := [Row 26 1 (.slice none 0 0) 0 [], byA ([] : List BytesD)]) H110)
                have H112 : St W w103 (BysA none 0 (takeT s d) :: RfA g (takeS s d) :: blk bk7 (.cells #[.int .i64 d.frm.v, .int .i64 d.to_.v, .int .i64 d.kind.v, .int .i64 d.seq.v, .int .i64 d.ack.v, .slice pp1 d.body.length cc2] 41 (0, 0)) :: Im 1 (.slice pp1 d.body.length cc2) d.body.length (d.body.flatMap u8c) :: (F.set i emp)) := by rw [takeS_data hE hk1, hC]; exact H111
                have H113 : St W w103 (BysA none 0 (takeT s d) :: RfA g (takeS s d) :: (F.set i emp)) := ((((H112.move 1 rfl).move 1 rfl).drop 2 rfl).drop 2 rfl)
                have H114 : St W w103 (RfA g (takeS s d) :: (BysA none 0 (takeT s d) :: F).set (i + 1) emp) := (H113.move 1 rfl)
                exact ⟨none, 0, by rw [hE, hT9]; rfl, St.back (i := i + 1) (by exact hi) H114⟩
              · have hb106 := eq_false_of_ne_true hb106
                refine g_false (congrArg Value.bool hb106) ?_
                refine g_skip ?_
                refine g_seq ?_
                refine g_region ?_
                refine r_cons (s_assign (.slice none 0 0) rfl rfl ?_)
                refine r_nil ?_
                refine g_seq ?_
                refine g_region ?_
                refine r_cons (s_assign (.slice none 0 0) rfl rfl ?_)
                refine r_nil ?_
                refine g_seq ?_
                have hnc := of_decide_eq_false (show decide (d.seq.v < (s.came : Int) ∨ ahas s.held d.seq = true) = false by assumption)
                have hgt : k < (mapB E88).length → d.seq.v < ((mapB E88).getD k default).1.v := fun hk => by have h6 : ¬ ((mapB E88).getD k default).1.v = d.seq.v := fun e => hnc (.inr (hH92.at hk e)); rw [mapB_len rfl] at hk; have h7 := hex hk; rw [mapB_at] at h6 ⊢; simp only at h6 ⊢; omega
                have hkm : k ≤ (mapB E88).length := by rw [mapB_len rfl]; exact hkn
                have hno0 : ahas s.held d.seq = false := hH92.has d.seq hkm hlt hgt
                have hC := takeC_yes (s := s) (d := d) hnc
                have hhc := Row.capOf H104 (i := 3) rfl
                have H115 : St W w103 (blk g (.cells #[.int .i64 ((drS (ackS s d.ack.v) s.came s.held).frm.v), .int .i64 ((drS (ackS s d.ack.v) s.came s.held).to_.v), .int .i64 ((drS (ackS s d.ack.v) s.came s.held).slide : Int), .slice pp83 L85.length cc84, .int .i64 ((drS (ackS s d.ack.v) s.came s.held).acked : Int), .int .i64 ((i64N (drS (ackS s d.ack.v) s.came s.held).came).v), .slice pp86 E88.length cc87, .int .i64 ((drS (ackS s d.ack.v) s.came s.held).clock : Int), .bool ((drS (ackS s d.ack.v) s.came s.held).owes)] 86 (0, 0)) :: Row 101 3 (.slice pp83 L85.length cc84) L85.length (L85.flatMap bodCell) :: byA (L85.map BodD.by) :: Im 2 (.slice pp86 E88.length cc87) E88.length (E88.flatMap hlCell) :: byA (mby E88) :: blk bk7 (.cells #[.int .i64 d.frm.v, .int .i64 d.to_.v, .int .i64 d.kind.v, .int .i64 d.seq.v, .int .i64 d.ack.v, .slice pp1 d.body.length cc2] 41 (0, 0)) :: Im 1 (.slice pp1 d.body.length cc2) d.body.length (d.body.flatMap u8c) :: (F.set i emp)) := Row.im H104 (i := 3) rfl
                refine g_mix (fun t_ w => St W w (blk g (.cells #[.int .i64 ((drS (ackS s d.ack.v) s.came s.held).frm.v), .int .i64 ((drS (ackS s d.ack.v) s.came s.held).to_.v), .int .i64 ((drS (ackS s d.ack.v) s.came s.held).slide : Int), .slice pp83 L85.length cc84, .int .i64 ((drS (ackS s d.ack.v) s.came s.held).acked : Int), .int .i64 ((i64N (drS (ackS s d.ack.v) s.came s.held).came).v), .slice pp86 E88.length cc87, .int .i64 ((drS (ackS s d.ack.v) s.came s.held).clock : Int), .bool ((drS (ackS s d.ack.v) s.came s.held).owes)] 86 (0, 0)) :: Row 101 3 (.slice pp83 L85.length cc84) L85.length (L85.flatMap bodCell) :: byA (L85.map BodD.by) :: Im 2 (.slice pp86 E88.length cc87) E88.length (E88.flatMap hlCell) :: byA (mby E88) :: blk bk7 (.cells #[.int .i64 d.frm.v, .int .i64 d.to_.v, .int .i64 d.kind.v, .int .i64 d.seq.v, .int .i64 d.ack.v, .slice pp1 d.body.length cc2] 41 (0, 0)) :: Im 1 (.slice pp1 d.body.length cc2) d.body.length (d.body.flatMap u8c) :: t_)) (F.set i emp) mixed 18 rfl H115.drew ?_
                refine f_first 0 (listed' := #[true, false, false, false, false, false, false, false, false, false, false, false, false, false, false, false, false, false]) rfl (by kernel_rfl) (by kernel_rfl) (by kernel_rfl) rfl ?_
                refine f_val rfl rfl rfl (by intro t_ w hw; exact x_move (.slice none 0 0) rfl w) ?_
                refine f_first 1 (listed' := #[true, true, false, false, false, false, false, false, false, false, false, false, false, false, false, false, false, false]) rfl (by kernel_rfl) (by kernel_rfl) (by kernel_rfl) rfl ?_
                refine f_val rfl rfl rfl (by intro t_ w hw; exact x_move (.pointer (some ⟨g, 0, none⟩)) rfl w) ?_
                refine f_first 2 (listed' := #[true, true, true, false, false, false, false, false, false, false, false, false, false, false, false, false, false, false]) rfl (by kernel_rfl) (by kernel_rfl) (by kernel_rfl) rfl ?_
                refine f_val rfl rfl rfl (by intro t_ w hw; exact x_nilCheck (.pointer (some ⟨g, 0, none⟩)) rfl ⟨_, rfl⟩ w) ?_
                refine f_first 3 (listed' := #[true, true, true, true, false, false, false, false, false, false, false, false, false, false, false, false, false, false]) rfl (by kernel_rfl) (by kernel_rfl) (by kernel_rfl) rfl ?_
                refine f_val rfl rfl rfl (by intro t_ w hw; exact x_fieldAddr 86 5 6 6 84 rfl fi_86_5 rfl w) ?_
                refine f_first 4 (listed' := #[true, true, true, true, true, false, false, false, false, false, false, false, false, false, false, false, false, false]) rfl (by kernel_rfl) (by kernel_rfl) (by kernel_rfl) rfl ?_
                refine f_val rfl rfl rfl (by intro t_ w hw; exact x_load (.slice pp86 E88.length cc87) ag_84 rfl (hw.blk_at (i := 0) rfl) rfl) ?_
                refine f_first 5 (listed' := #[true, true, true, true, true, true, false, false, false, false, false, false, false, false, false, false, false, false]) rfl (by kernel_rfl) (by kernel_rfl) (by kernel_rfl) rfl ?_
                refine f_val rfl rfl rfl (by intro t_ w hw; exact x_move (.int .i64 (k : Int)) rfl w) ?_
                refine f_first 6 (listed' := #[true, true, true, true, true, true, true, false, false, false, false, false, false, false, false, false, false, false]) rfl (by kernel_rfl) (by kernel_rfl) (by kernel_rfl) rfl ?_
                have hc116 := Im.cap H115 (i := 3) rfl
                refine f_val rfl rfl rfl (by intro t_ w hw; exact x_slice_h pp86 (k : Int) 2 (.slice pp86 k cc87) rfl rfl el_84 (by omega) (by first | rfl | (congr 1; omega)) w) ?_
                refine f_first 8 (listed' := #[true, true, true, true, true, true, true, false, true, false, false, false, false, false, false, false, false, false]) rfl (by kernel_rfl) (by kernel_rfl) (by kernel_rfl) rfl ?_
                refine f_val rfl rfl rfl (by intro t_ w hw; exact x_fieldAddr 41 3 3 3 2 rfl fi_41_3 rfl w) ?_
                refine f_first 9 (listed' := #[true, true, true, true, true, true, true, false, true, true, false, false, false, false, false, false, false, false]) rfl (by kernel_rfl) (by kernel_rfl) (by kernel_rfl) rfl ?_
                refine f_val rfl rfl rfl (by intro t_ w hw; exact x_load (.int .i64 d.seq.v) ag_2 rfl (hw.blk_at (i := 5) rfl) rfl) ?_
                refine f_first 10 (listed' := #[true, true, true, true, true, true, true, false, true, true, true, false, false, false, false, false, false, false]) rfl (by kernel_rfl) (by kernel_rfl) (by kernel_rfl) rfl ?_
                refine f_val rfl rfl rfl (by intro t_ w hw; exact x_move (.slice none 0 0) rfl w) ?_
                refine f_first 11 (listed' := #[true, true, true, true, true, true, true, false, true, true, true, true, false, false, false, false, false, false]) rfl (by kernel_rfl) (by kernel_rfl) (by kernel_rfl) rfl ?_
                refine f_val rfl rfl rfl (by intro t_ w hw; exact x_fieldAddr 41 5 5 5 26 rfl fi_41_5 rfl w) ?_
                refine f_first 12 (listed' := #[true, true, true, true, true, true, true, false, true, true, true, true, true, false, false, false, false, false]) rfl (by kernel_rfl) (by kernel_rfl) (by kernel_rfl) rfl ?_
                refine f_val rfl rfl rfl (by intro t_ w hw; exact x_load (.slice pp1 d.body.length cc2) ag_26 rfl (hw.blk_at (i := 5) rfl) rfl) ?_
                refine f_all (rs := [7]) (by kernel_rfl) (by simp) ?_
                refine a_cons ⟨_, rfl, ?_⟩ (fun x hx => absurd hx (by simp))
                intro w117 H118
                try dsimp only at H118
                have H119 : St W w117 (Im 2 (.slice pp86 k cc87) k ((E88.take k).flatMap hlCell) :: blk g (.cells #[.int .i64 ((drS (ackS s d.ack.v) s.came s.held).frm.v), .int .i64 ((drS (ackS s d.ack.v) s.came s.held).to_.v), .int .i64 ((drS (ackS s d.ack.v) s.came s.held).slide : Int), .slice pp83 L85.length cc84, .int .i64 ((drS (ackS s d.ack.v) s.came s.held).acked : Int), .int .i64 ((i64N (drS (ackS s d.ack.v) s.came s.held).came).v), .slice pp86 E88.length cc87, .int .i64 ((drS (ackS s d.ack.v) s.came s.held).clock : Int), .bool ((drS (ackS s d.ack.v) s.came s.held).owes)] 86 (0, 0)) :: Row 101 3 (.slice pp83 L85.length cc84) L85.length (L85.flatMap bodCell) :: byA (L85.map BodD.by) :: Im 2 (.slice pp86 E88.length cc87) E88.length (E88.flatMap hlCell) :: byA (mby E88) :: blk bk7 (.cells #[.int .i64 d.frm.v, .int .i64 d.to_.v, .int .i64 d.kind.v, .int .i64 d.seq.v, .int .i64 d.ack.v, .slice pp1 d.body.length cc2] 41 (0, 0)) :: Im 1 (.slice pp1 d.body.length cc2) d.body.length (d.body.flatMap u8c) :: (F.set i emp)) := Im.cutN_h hlCell_len (by decide) k H118 (i := 3) rfl (by omega)
                have H120 := Row.nil_intro H119 105 2
                refine s_append H120 0 rfl rfl rfl (Im.rd H120 (i := 1) rfl) ap_84 (by decide) (by unfold maxLen; omega) (by omega) (n' := k) (xs' := (E88.take k).flatMap hlCell) (by omega) (by first | rfl | simp) rfl ?_; intro vv121 w122 H123 hn124
                obtain ⟨pp125, cc126, rfl⟩ := Row.slice H123 (i := 0) rfl
                have H127 : St W w122 (blk g (.cells #[.int .i64 ((drS (ackS s d.ack.v) s.came s.held).frm.v), .int .i64 ((drS (ackS s d.ack.v) s.came s.held).to_.v), .int .i64 ((drS (ackS s d.ack.v) s.came s.held).slide : Int), .slice pp83 L85.length cc84, .int .i64 ((drS (ackS s d.ack.v) s.came s.held).acked : Int), .int .i64 ((i64N (drS (ackS s d.ack.v) s.came s.held).came).v), .slice pp86 E88.length cc87, .int .i64 ((drS (ackS s d.ack.v) s.came s.held).clock : Int), .bool ((drS (ackS s d.ack.v) s.came s.held).owes)] 86 (0, 0)) :: Row 101 3 (.slice pp83 L85.length cc84) L85.length (L85.flatMap bodCell) :: byA (L85.map BodD.by) :: Im 2 (.slice pp86 E88.length cc87) E88.length (E88.flatMap hlCell) :: byA (mby E88) :: blk bk7 (.cells #[.int .i64 d.frm.v, .int .i64 d.to_.v, .int .i64 d.kind.v, .int .i64 d.seq.v, .int .i64 d.ack.v, .slice pp1 d.body.length cc2] 41 (0, 0)) :: Im 1 (.slice pp1 d.body.length cc2) d.body.length (d.body.flatMap u8c) :: Row 105 2 (.slice pp125 k cc126) k ((E88.take k).flatMap hlCell) :: Im 2 (.slice pp86 k cc87) k ((E88.take k).flatMap hlCell) :: (F.set i emp)) := (((((((((H123.move 1 rfl).move 1 rfl).move 8 rfl).move 8 rfl).move 8 rfl).move 8 rfl).move 8 rfl).move 8 rfl).move 8 rfl)
                refine ⟨Row 105 2 (.slice pp125 k cc126) k ((E88.take k).flatMap hlCell) :: Im 2 (.slice pp86 k cc87) k ((E88.take k).flatMap hlCell) :: (F.set i emp), ?_, H127⟩
                change FReg _ _ _ _ _ #[true, true, true, true, true, true, true, true, true, true, true, true, true, false, false, false, false, false] _ _
                refine f_all (rs := [13]) (by kernel_rfl) (by simp) ?_
                refine a_cons ⟨_, rfl, ?_⟩ (fun x hx => absurd hx (by simp))
                intro w128 H129
                try dsimp only at H129
                have H130 := Row.nil_intro H129 5 1
                refine s_append H130 0 rfl rfl rfl (Im.rd H130 (i := 7) rfl) ap_26 (by decide) (by unfold maxLen; omega) (by omega) (n' := d.body.length) (xs' := d.body.flatMap u8c) (by omega) (by first | rfl | simp) rfl ?_; intro vv131 w132 H133 hn134
                obtain ⟨pp135, cc136, rfl⟩ := Row.slice H133 (i := 0) rfl
                have H137 : St W w132 (blk g (.cells #[.int .i64 ((drS (ackS s d.ack.v) s.came s.held).frm.v), .int .i64 ((drS (ackS s d.ack.v) s.came s.held).to_.v), .int .i64 ((drS (ackS s d.ack.v) s.came s.held).slide : Int), .slice pp83 L85.length cc84, .int .i64 ((drS (ackS s d.ack.v) s.came s.held).acked : Int), .int .i64 ((i64N (drS (ackS s d.ack.v) s.came s.held).came).v), .slice pp86 E88.length cc87, .int .i64 ((drS (ackS s d.ack.v) s.came s.held).clock : Int), .bool ((drS (ackS s d.ack.v) s.came s.held).owes)] 86 (0, 0)) :: Row 101 3 (.slice pp83 L85.length cc84) L85.length (L85.flatMap bodCell) :: byA (L85.map BodD.by) :: Im 2 (.slice pp86 E88.length cc87) E88.length (E88.flatMap hlCell) :: byA (mby E88) :: blk bk7 (.cells #[.int .i64 d.frm.v, .int .i64 d.to_.v, .int .i64 d.kind.v, .int .i64 d.seq.v, .int .i64 d.ack.v, .slice pp1 d.body.length cc2] 41 (0, 0)) :: Im 1 (.slice pp1 d.body.length cc2) d.body.length (d.body.flatMap u8c) :: Row 5 1 (.slice pp135 d.body.length cc136) d.body.length (d.body.flatMap u8c) :: Row 105 2 (.slice pp125 k cc126) k ((E88.take k).flatMap hlCell) :: Im 2 (.slice pp86 k cc87) k ((E88.take k).flatMap hlCell) :: (F.set i emp)) := ((((((((((H133.move 9 rfl).move 9 rfl).move 2 rfl).move 9 rfl).move 9 rfl).move 9 rfl).move 9 rfl).move 9 rfl).move 9 rfl).move 9 rfl)
                refine ⟨Row 5 1 (.slice pp135 d.body.length cc136) d.body.length (d.body.flatMap u8c) :: Row 105 2 (.slice pp125 k cc126) k ((E88.take k).flatMap hlCell) :: Im 2 (.slice pp86 k cc87) k ((E88.take k).flatMap hlCell) :: (F.set i emp), ?_, H137⟩
                change FReg _ _ _ _ _ #[true, true, true, true, true, true, true, true, true, true, true, true, true, true, false, false, false, false] _ _
                refine f_first 14 (listed' := #[true, true, true, true, true, true, true, true, true, true, true, true, true, true, true, false, false, false]) rfl (by kernel_rfl) (by kernel_rfl) (by kernel_rfl) rfl ?_
                refine f_val rfl rfl rfl (by intro t_ w hw; exact x_build (cs := #[.int .i64 d.seq.v, .slice pp135 d.body.length cc136]) (by kernel_rfl) w) ?_
                refine f_all (rs := [15]) (by kernel_rfl) (by simp) ?_
                refine a_cons ⟨_, rfl, ?_⟩ (fun x hx => absurd hx (by simp))
                intro w138 H139
                try dsimp only at H139
                refine s_buildSlice H139 2 1 (cs := #[.int .i64 d.seq.v, .slice pp135 d.body.length cc136]) #[.int .i64 0, .slice none 0 0] el_84 ze_105 (by decide) (by decide) (by kernel_rfl) rfl ?_; intro bk140 w141 H142
                have H143 : St W w141 (Im 1 (.slice pp1 d.body.length cc2) d.body.length (d.body.flatMap u8c) :: blk bk140 (.cells #[.int .i64 d.seq.v, .slice pp135 d.body.length cc136] 105 (0, 0)) :: Row 5 1 (.slice pp135 d.body.length cc136) d.body.length (d.body.flatMap u8c) :: Row 105 2 (.slice pp125 k cc126) k ((E88.take k).flatMap hlCell) :: Im 2 (.slice pp86 k cc87) k ((E88.take k).flatMap hlCell) :: blk g (.cells #[.int .i64 ((drS (ackS s d.ack.v) s.came s.held).frm.v), .int .i64 ((drS (ackS s d.ack.v) s.came s.held).to_.v), .int .i64 ((drS (ackS s d.ack.v) s.came s.held).slide : Int), .slice pp83 L85.length cc84, .int .i64 ((drS (ackS s d.ack.v) s.came s.held).acked : Int), .int .i64 ((i64N (drS (ackS s d.ack.v) s.came s.held).came).v), .slice pp86 E88.length cc87, .int .i64 ((drS (ackS s d.ack.v) s.came s.held).clock : Int), .bool ((drS (ackS s d.ack.v) s.came s.held).owes)] 86 (0, 0)) :: Row 101 3 (.slice pp83 L85.length cc84) L85.length (L85.flatMap bodCell) :: byA (L85.map BodD.by) :: Im 2 (.slice pp86 E88.length cc87) E88.length (E88.flatMap hlCell) :: byA (mby E88) :: blk bk7 (.cells #[.int .i64 d.frm.v, .int .i64 d.to_.v, .int .i64 d.kind.v, .int .i64 d.seq.v, .int .i64 d.ack.v, .slice pp1 d.body.length cc2] 41 (0, 0)) :: (F.set i emp)) := (((((H142.move 10 rfl).move 10 rfl).move 10 rfl).move 3 rfl).move 10 rfl)
                have H144 : St W w141 (Row 101 3 (.slice pp83 L85.length cc84) L85.length (L85.flatMap bodCell) :: byA (L85.map BodD.by) :: Im 2 (.slice pp86 E88.length cc87) E88.length (E88.flatMap hlCell) :: byA (mby E88) :: blk bk7 (.cells #[.int .i64 d.frm.v, .int .i64 d.to_.v, .int .i64 d.kind.v, .int .i64 d.seq.v, .int .i64 d.ack.v, .slice pp1 d.body.length cc2] 41 (0, 0)) :: Im 1 (.slice pp1 d.body.length cc2) d.body.length (d.body.flatMap u8c) :: blk bk140 (.cells #[.int .i64 d.seq.v, .slice pp135 d.body.length cc136] 105 (0, 0)) :: Row 5 1 (.slice pp135 d.body.length cc136) d.body.length (d.body.flatMap u8c) :: Row 105 2 (.slice pp125 k cc126) k ((E88.take k).flatMap hlCell) :: Im 2 (.slice pp86 k cc87) k ((E88.take k).flatMap hlCell) :: blk g (.cells #[.int .i64 ((drS (ackS s d.ack.v) s.came s.held).frm.v), .int .i64 ((drS (ackS s d.ack.v) s.came s.held).to_.v), .int .i64 ((drS (ackS s d.ack.v) s.came s.held).slide : Int), .slice pp83 L85.length cc84, .int .i64 ((drS (ackS s d.ack.v) s.came s.held).acked : Int), .int .i64 ((i64N (drS (ackS s d.ack.v) s.came s.held).came).v), .slice pp86 E88.length cc87, .int .i64 ((drS (ackS s d.ack.v) s.came s.held).clock : Int), .bool ((drS (ackS s d.ack.v) s.came s.held).owes)] 86 (0, 0)) :: (F.set i emp)) := (((((H143.move 10 rfl).move 10 rfl).move 10 rfl).move 10 rfl).move 10 rfl)
                have H145 : St W w141 (blk g (.cells #[.int .i64 ((drS (ackS s d.ack.v) s.came s.held).frm.v), .int .i64 ((drS (ackS s d.ack.v) s.came s.held).to_.v), .int .i64 ((drS (ackS s d.ack.v) s.came s.held).slide : Int), .slice pp83 L85.length cc84, .int .i64 ((drS (ackS s d.ack.v) s.came s.held).acked : Int), .int .i64 ((i64N (drS (ackS s d.ack.v) s.came s.held).came).v), .slice pp86 E88.length cc87, .int .i64 ((drS (ackS s d.ack.v) s.came s.held).clock : Int), .bool ((drS (ackS s d.ack.v) s.came s.held).owes)] 86 (0, 0)) :: Row 101 3 (.slice pp83 L85.length cc84) L85.length (L85.flatMap bodCell) :: byA (L85.map BodD.by) :: Im 2 (.slice pp86 E88.length cc87) E88.length (E88.flatMap hlCell) :: byA (mby E88) :: blk bk7 (.cells #[.int .i64 d.frm.v, .int .i64 d.to_.v, .int .i64 d.kind.v, .int .i64 d.seq.v, .int .i64 d.ack.v, .slice pp1 d.body.length cc2] 41 (0, 0)) :: Im 1 (.slice pp1 d.body.length cc2) d.body.length (d.body.flatMap u8c) :: blk bk140 (.cells #[.int .i64 d.seq.v, .slice pp135 d.body.length cc136] 105 (0, 0)) :: Row 5 1 (.slice pp135 d.body.length cc136) d.body.length (d.body.flatMap u8c) :: Row 105 2 (.slice pp125 k cc126) k ((E88.take k).flatMap hlCell) :: Im 2 (.slice pp86 k cc87) k ((E88.take k).flatMap hlCell) :: (F.set i emp)) := (H144.move 10 rfl)
                refine ⟨blk bk140 (.cells #[.int .i64 d.seq.v, .slice pp135 d.body.length cc136] 105 (0, 0)) :: Row 5 1 (.slice pp135 d.body.length cc136) d.body.length (d.body.flatMap u8c) :: Row 105 2 (.slice pp125 k cc126) k ((E88.take k).flatMap hlCell) :: Im 2 (.slice pp86 k cc87) k ((E88.take k).flatMap hlCell) :: (F.set i emp), ?_, H145⟩
                change FReg _ _ _ _ _ #[true, true, true, true, true, true, true, true, true, true, true, true, true, true, true, true, false, false] _ _
                refine f_all (rs := [16]) (by kernel_rfl) (by simp) ?_
                refine a_cons ⟨_, rfl, ?_⟩ (fun x hx => absurd hx (by simp))
                intro w146 H147
                try dsimp only at H147
                refine s_append H147 9 rfl rfl rfl (rd_blk (H147.blk_at (i := 7) rfl) rfl (Nat.le_of_ble_eq_true rfl) (by simp [Value.oneCell'])) ap_84 (by decide) (by unfold maxLen; omega) (by omega) (n' := k + 1) (xs' := (E88.take k).flatMap hlCell ++ ([.int .i64 d.seq.v, .slice pp135 d.body.length cc136] : List Value)) (by omega) (by first | rfl | simp) rfl ?_; intro vv148 w149 H150 hn151
                obtain ⟨pp152, cc153, rfl⟩ := Row.slice H150 (i := 9) rfl
                refine ⟨blk bk140 (.cells #[.int .i64 d.seq.v, .slice pp135 d.body.length cc136] 105 (0, 0)) :: Row 5 1 (.slice pp135 d.body.length cc136) d.body.length (d.body.flatMap u8c) :: Row 105 2 (.slice pp152 (k + 1) cc153) (k + 1) ((E88.take k).flatMap hlCell ++ ([.int .i64 d.seq.v, .slice pp135 d.body.length cc136] : List Value)) :: Im 2 (.slice pp86 k cc87) k ((E88.take k).flatMap hlCell) :: (F.set i emp), ?_, H150⟩
                change FReg _ _ _ _ _ #[true, true, true, true, true, true, true, true, true, true, true, true, true, true, true, true, true, false] _ _
                refine f_first 17 (listed' := #[true, true, true, true, true, true, true, true, true, true, true, true, true, true, true, true, true, true]) rfl (by kernel_rfl) (by kernel_rfl) (by kernel_rfl) rfl ?_
                refine f_val rfl rfl rfl (by intro t_ w hw; exact x_assign (.slice pp152 (k + 1) cc153) rfl w) ?_
                refine f_done (by kernel_rfl) ?_
                intro w154 H155
                refine g_seq ?_
                refine g_region ?_
                refine r_cons (s_move (.pointer (some ⟨g, 0, none⟩)) rfl rfl ?_)
                refine r_cons (s_move (.slice pp152 (k + 1) cc153) rfl rfl ?_)
                refine r_cons (s_move (.pointer (some ⟨g, 0, none⟩)) rfl rfl ?_)
                refine r_cons (s_nilCheck (.pointer (some ⟨g, 0, none⟩)) rfl ⟨_, rfl⟩ rfl ?_)
                refine r_cons (s_fieldAddr 86 5 6 6 84 rfl fi_86_5 rfl rfl ?_)
                refine r_cons (s_load (.slice pp86 E88.length cc87) ag_84 rfl (H155.blk_at (i := 0) rfl) rfl rfl ?_)
                refine r_cons (s_move (.int .i64 (k : Int)) rfl rfl ?_)
                have hc156 := Im.cap H155 (i := 3) rfl
                refine r_cons (s_slice_l pp86 (k : Int) 2 (.slice (cutAt pp86 k cc87 2) (E88.length - k) (cc87 - k)) rfl rfl el_84 (by omega) (by first | rfl | (congr 1; omega)) rfl ?_)
                have H157 : St W w154 (Im 2 (.slice (cutAt pp86 k cc87 2) (E88.length - k) (cc87 - k)) (E88.length - k) ((E88.drop k).flatMap hlCell) :: blk g (.cells #[.int .i64 ((drS (ackS s d.ack.v) s.came s.held).frm.v), .int .i64 ((drS (ackS s d.ack.v) s.came s.held).to_.v), .int .i64 ((drS (ackS s d.ack.v) s.came s.held).slide : Int), .slice pp83 L85.length cc84, .int .i64 ((drS (ackS s d.ack.v) s.came s.held).acked : Int), .int .i64 ((i64N (drS (ackS s d.ack.v) s.came s.held).came).v), .slice pp86 E88.length cc87, .int .i64 ((drS (ackS s d.ack.v) s.came s.held).clock : Int), .bool ((drS (ackS s d.ack.v) s.came s.held).owes)] 86 (0, 0)) :: Row 101 3 (.slice pp83 L85.length cc84) L85.length (L85.flatMap bodCell) :: byA (L85.map BodD.by) :: Im 2 (.slice pp86 E88.length cc87) E88.length (E88.flatMap hlCell) :: byA (mby E88) :: blk bk7 (.cells #[.int .i64 d.frm.v, .int .i64 d.to_.v, .int .i64 d.kind.v, .int .i64 d.seq.v, .int .i64 d.ack.v, .slice pp1 d.body.length cc2] 41 (0, 0)) :: Im 1 (.slice pp1 d.body.length cc2) d.body.length (d.body.flatMap u8c) :: blk bk140 (.cells #[.int .i64 d.seq.v, .slice pp135 d.body.length cc136] 105 (0, 0)) :: Row 5 1 (.slice pp135 d.body.length cc136) d.body.length (d.body.flatMap u8c) :: Row 105 2 (.slice pp152 (k + 1) cc153) (k + 1) ((E88.take k).flatMap hlCell ++ ([.int .i64 d.seq.v, .slice pp135 d.body.length cc136] : List Value)) :: Im 2 (.slice pp86 k cc87) k ((E88.take k).flatMap hlCell) :: (F.set i emp)) := Im.cutN_l hlCell_len (by decide) k H155 (i := 3) rfl (by omega)
                refine r_cons (s_append H157 10 rfl rfl rfl (Im.rd H157 (i := 0) rfl) ap_84 (by decide) (by unfold maxLen; omega) (by omega) (n' := k + 1 + E88.length - k) (xs' := (E88.take k).flatMap hlCell ++ ([.int .i64 d.seq.v, .slice pp135 d.body.length cc136] : List Value) ++ (E88.drop k).flatMap hlCell) (by omega) (by first | rfl | simp) rfl ?_); intro vv158 w159 H160 hn161
                obtain ⟨pp162, cc163, rfl⟩ := Row.slice H160 (i := 10) rfl
                refine r_cons (s_nilCheck (.pointer (some ⟨g, 0, none⟩)) rfl ⟨_, rfl⟩ rfl ?_)
                refine r_cons (s_fieldAddr 86 5 6 6 84 rfl fi_86_5 rfl rfl ?_)
                refine r_cons (s_store H160 1 (.slice pp162 (k + 1 + E88.length - k) cc163) rfl rfl rfl sz_84 rfl (Nat.le_of_ble_eq_true rfl) rfl (cs' := #[.int .i64 ((drS (ackS s d.ack.v) s.came s.held).frm.v), .int .i64 ((drS (ackS s d.ack.v) s.came s.held).to_.v), .int .i64 ((drS (ackS s d.ack.v) s.came s.held).slide : Int), .slice pp83 L85.length cc84, .int .i64 ((drS (ackS s d.ack.v) s.came s.held).acked : Int), .int .i64 ((i64N (drS (ackS s d.ack.v) s.came s.held).came).v), .slice pp162 (k + 1 + E88.length - k) cc163, .int .i64 ((drS (ackS s d.ack.v) s.came s.held).clock : Int), .bool ((drS (ackS s d.ack.v) s.came s.held).owes)]) rfl ?_); intro w164 H165
                refine r_nil ?_
                refine g_seq ?_
                refine g_region ?_
                refine r_cons (s_assign (.slice none 0 0) rfl rfl ?_)
                refine r_nil ?_
                refine g_seq ?_
                refine g_block ?_
                have H166 : St W w164 (Im 2 (.slice (cutAt pp86 k cc87 2) (E88.length - k) (cc87 - k)) (E88.length - k) ((E88.drop k).flatMap hlCell) :: blk g (.cells #[.int .i64 ((drS (ackS s d.ack.v) s.came s.held).frm.v), .int .i64 ((drS (ackS s d.ack.v) s.came s.held).to_.v), .int .i64 ((drS (ackS s d.ack.v) s.came s.held).slide : Int), .slice pp83 L85.length cc84, .int .i64 ((drS (ackS s d.ack.v) s.came s.held).acked : Int), .int .i64 ((i64N (drS (ackS s d.ack.v) s.came s.held).came).v), .slice pp162 (k + 1 + E88.length - k) cc163, .int .i64 ((drS (ackS s d.ack.v) s.came s.held).clock : Int), .bool ((drS (ackS s d.ack.v) s.came s.held).owes)] 86 (0, 0)) :: Row 101 3 (.slice pp83 L85.length cc84) L85.length (L85.flatMap bodCell) :: byA (L85.map BodD.by) :: Im 2 (.slice pp86 E88.length cc87) E88.length (E88.flatMap hlCell) :: byA (mby E88) :: blk bk7 (.cells #[.int .i64 d.frm.v, .int .i64 d.to_.v, .int .i64 d.kind.v, .int .i64 d.seq.v, .int .i64 d.ack.v, .slice pp1 d.body.length cc2] 41 (0, 0)) :: Im 1 (.slice pp1 d.body.length cc2) d.body.length (d.body.flatMap u8c) :: blk bk140 (.cells #[.int .i64 d.seq.v, .slice pp135 d.body.length cc136] 105 (0, 0)) :: Im 1 (.slice pp135 d.body.length cc136) d.body.length (d.body.flatMap u8c) :: Row 105 2 (.slice pp162 (k + 1 + E88.length - k) cc163) (k + 1 + E88.length - k) ((E88.take k).flatMap hlCell ++ ([.int .i64 d.seq.v, .slice pp135 d.body.length cc136] : List Value) ++ (E88.drop k).flatMap hlCell) :: Im 2 (.slice pp86 k cc87) k ((E88.take k).flatMap hlCell) :: (F.set i emp)) := Row.im H165 (i := 9) rfl
                have H167 := byA_add (x := (⟨d.body, pp135, cc136⟩ : BytesD)) (M := mby (E88.take k ++ [(d.seq, (⟨d.body, pp135, cc136⟩ : BytesD))] ++ E88.drop k)) H166 (i := 5) (j := 9) rfl rfl mby_ins
                have hn2 : (E88.take k ++ [(d.seq, (⟨d.body, pp135, cc136⟩ : BytesD))] ++ E88.drop k).length = k + 1 + E88.length - k := by rw [List.length_append, List.length_append, List.length_take, List.length_drop]; simp only [List.length_cons, List.length_nil]; omega
                have H168 : St W w164 (byA (mby (E88.take k ++ [(d.seq, (⟨d.body, pp135, cc136⟩ : BytesD))] ++ E88.drop k)) :: Im 2 (.slice (cutAt pp86 k cc87 2) (E88.length - k) (cc87 - k)) (E88.length - k) ((E88.drop k).flatMap hlCell) :: blk g (.cells #[.int .i64 ((drS (ackS s d.ack.v) s.came s.held).frm.v), .int .i64 ((drS (ackS s d.ack.v) s.came s.held).to_.v), .int .i64 ((drS (ackS s d.ack.v) s.came s.held).slide : Int), .slice pp83 L85.length cc84, .int .i64 ((drS (ackS s d.ack.v) s.came s.held).acked : Int), .int .i64 ((i64N (drS (ackS s d.ack.v) s.came s.held).came).v), .slice pp162 ((E88.take k ++ [(d.seq, (⟨d.body, pp135, cc136⟩ : BytesD))] ++ E88.drop k).length) cc163, .int .i64 ((drS (ackS s d.ack.v) s.came s.held).clock : Int), .bool ((drS (ackS s d.ack.v) s.came s.held).owes)] 86 (0, 0)) :: Row 101 3 (.slice pp83 L85.length cc84) L85.length (L85.flatMap bodCell) :: byA (L85.map BodD.by) :: Im 2 (.slice pp86 E88.length cc87) E88.length (E88.flatMap hlCell) :: byA (mby E88) :: blk bk7 (.cells #[.int .i64 d.frm.v, .int .i64 d.to_.v, .int .i64 d.kind.v, .int .i64 d.seq.v, .int .i64 d.ack.v, .slice pp1 d.body.length cc2] 41 (0, 0)) :: Im 1 (.slice pp1 d.body.length cc2) d.body.length (d.body.flatMap u8c) :: blk bk140 (.cells #[.int .i64 d.seq.v, .slice pp135 d.body.length cc136] 105 (0, 0)) :: Im 1 (.slice pp135 d.body.length cc136) d.body.length (d.body.flatMap u8c) :: Row 105 2 (.slice pp162 ((E88.take k ++ [(d.seq, (⟨d.body, pp135, cc136⟩ : BytesD))] ++ E88.drop k).length) cc163) ((E88.take k ++ [(d.seq, (⟨d.body, pp135, cc136⟩ : BytesD))] ++ E88.drop k).length) ((E88.take k ++ [(d.seq, (⟨d.body, pp135, cc136⟩ : BytesD))] ++ E88.drop k).flatMap hlCell) :: Im 2 (.slice pp86 k cc87) k ((E88.take k).flatMap hlCell) :: (F.set i emp)) := by rw [hn2, flat_app, flat_app, flat_one]; exact H167
                have H169 : St W w164 (blk g (.cells #[.int .i64 ((drS (ackS s d.ack.v) s.came s.held).frm.v), .int .i64 ((drS (ackS s d.ack.v) s.came s.held).to_.v), .int .i64 ((drS (ackS s d.ack.v) s.came s.held).slide : Int), .slice pp83 L85.length cc84, .int .i64 ((drS (ackS s d.ack.v) s.came s.held).acked : Int), .int .i64 ((i64N (drS (ackS s d.ack.v) s.came s.held).came).v), .slice pp162 ((E88.take k ++ [(d.seq, (⟨d.body, pp135, cc136⟩ : BytesD))] ++ E88.drop k).length) cc163, .int .i64 ((drS (ackS s d.ack.v) s.came s.held).clock : Int), .bool ((drS (ackS s d.ack.v) s.came s.held).owes)] 86 (0, 0)) :: Row 101 3 (.slice pp83 L85.length cc84) L85.length (L85.flatMap bodCell) :: byA (L85.map BodD.by) :: Row 105 2 (.slice pp162 ((E88.take k ++ [(d.seq, (⟨d.body, pp135, cc136⟩ : BytesD))] ++ E88.drop k).length) cc163) ((E88.take k ++ [(d.seq, (⟨d.body, pp135, cc136⟩ : BytesD))] ++ E88.drop k).length) ((E88.take k ++ [(d.seq, (⟨d.body, pp135, cc136⟩ : BytesD))] ++ E88.drop k).flatMap hlCell) :: byA (mby (E88.take k ++ [(d.seq, (⟨d.body, pp135, cc136⟩ : BytesD))] ++ E88.drop k)) :: Im 2 (.slice (cutAt pp86 k cc87 2) (E88.length - k) (cc87 - k)) (E88.length - k) ((E88.drop k).flatMap hlCell) :: Im 2 (.slice pp86 E88.length cc87) E88.length (E88.flatMap hlCell) :: byA (mby E88) :: blk bk7 (.cells #[.int .i64 d.frm.v, .int .i64 d.to_.v, .int .i64 d.kind.v, .int .i64 d.seq.v, .int .i64 d.ack.v, .slice pp1 d.body.length cc2] 41 (0, 0)) :: Im 1 (.slice pp1 d.body.length cc2) d.body.length (d.body.flatMap u8c) :: blk bk140 (.cells #[.int .i64 d.seq.v, .slice pp135 d.body.length cc136] 105 (0, 0)) :: Im 1 (.slice pp135 d.body.length cc136) d.body.length (d.body.flatMap u8c) :: Im 2 (.slice pp86 k cc87) k ((E88.take k).flatMap hlCell) :: (F.set i emp)) := ((((H168.move 11 rfl).move 5 rfl).move 5 rfl).move 5 rfl)
                have H170 : St W w164 (RfA g (drS (ackS s d.ack.v) s.came (s.held ++ [(d.seq, d.body)])) :: Im 2 (.slice (cutAt pp86 k cc87 2) (E88.length - k) (cc87 - k)) (E88.length - k) ((E88.drop k).flatMap hlCell) :: Im 2 (.slice pp86 E88.length cc87) E88.length (E88.flatMap hlCell) :: byA (mby E88) :: blk bk7 (.cells #[.int .i64 d.frm.v, .int .i64 d.to_.v, .int .i64 d.kind.v, .int .i64 d.seq.v, .int .i64 d.ack.v, .slice pp1 d.body.length cc2] 41 (0, 0)) :: Im 1 (.slice pp1 d.body.length cc2) d.body.length (d.body.flatMap u8c) :: blk bk140 (.cells #[.int .i64 d.seq.v, .slice pp135 d.body.length cc136] 105 (0, 0)) :: Im 1 (.slice pp135 d.body.length cc136) d.body.length (d.body.flatMap u8c) :: Im 2 (.slice pp86 k cc87) k ((E88.take k).flatMap hlCell) :: (F.set i emp)) := St.shut_ex ⟨⟨pp83, cc84, L85, pp162, cc163, (E88.take k ++ [(d.seq, (⟨d.body, pp135, cc136⟩ : BytesD))] ++ E88.drop k), A89⟩, hL90, hA91, (show HR (s.held ++ [(d.seq, d.body)]) (mapB (E88.take k ++ [(d.seq, (⟨d.body, pp135, cc136⟩ : BytesD))] ++ E88.drop k)) from by rw [mapB_ins]; exact hH92.ins hkm hlt hgt)⟩ (St.shut_star (ls := [blk g (.cells #[.int .i64 ((drS (ackS s d.ack.v) s.came s.held).frm.v), .int .i64 ((drS (ackS s d.ack.v) s.came s.held).to_.v), .int .i64 ((drS (ackS s d.ack.v) s.came s.held).slide : Int), .slice pp83 L85.length cc84, .int .i64 ((drS (ackS s d.ack.v) s.came s.held).acked : Int), .int .i64 ((i64N (drS (ackS s d.ack.v) s.came s.held).came).v), .slice pp162 ((E88.take k ++ [(d.seq, (⟨d.body, pp135, cc136⟩ : BytesD))] ++ E88.drop k).length) cc163, .int .i64 ((drS (ackS s d.ack.v) s.came s.held).clock : Int), .bool ((drS (ackS s d.ack.v) s.came s.held).owes)] 86 (0, 0)), Row 101 3 (.slice pp83 L85.length cc84) L85.length (L85.flatMap bodCell), byA (L85.map BodD.by), Row 105 2 (.slice pp162 ((E88.take k ++ [(d.seq, (⟨d.body, pp135, cc136⟩ : BytesD))] ++ E88.drop k).length) cc163) ((E88.take k ++ [(d.seq, (⟨d.body, pp135, cc136⟩ : BytesD))] ++ E88.drop k).length) ((E88.take k ++ [(d.seq, (⟨d.body, pp135, cc136⟩ : BytesD))] ++ E88.drop k).flatMap hlCell), byA (mby (E88.take k ++ [(d.seq, (⟨d.body, pp135, cc136⟩ : BytesD))] ++ E88.drop k))]) H169)
                have H171 := Row.nil_intro H170 26 1
                have H172 := byA_nil H171
                have H173 : St W w164 (Row 26 1 (.slice none 0 0) 0 [] :: byA ([] : List BytesD) :: RfA g (drS (ackS s d.ack.v) s.came (s.held ++ [(d.seq, d.body)])) :: (F.set i emp)) := (((((((((((H172.move 2 rfl).move 1 rfl).move 2 rfl).drop 3 rfl).drop 3 rfl).drop 3 rfl).drop 3 rfl).drop 3 rfl).drop 3 rfl).drop 3 rfl).drop 3 rfl)
                have H174 : St W w164 (Row 26 1 (.slice none 0 0) 0 [] :: byA ([] : List BytesD) :: RfA g (drS (ackS s d.ack.v) s.came (s.held ++ [(d.seq, d.body)])) :: (F.set i emp)) := H173
                refine g_loop_inv (fun (x_ : Nat × (List (I64 × List UInt8)) × (List BytesD) × (Option Addr) × Nat) => match x_ with | (c9, h9, O, p, c) => [(0, .pointer (some ⟨g, 0, none⟩)), (4, .slice none 0 0), (5, .int .i64 0), (10, .slice p O.length c)]) (fun (x_ : Nat × (List (I64 × List UInt8)) × (List BytesD) × (Option Addr) × Nat) w => match x_ with | (c9, h9, O, p, c) => (DrI (drain (s.held ++ [(d.seq, d.body)]).length s.came (s.held ++ [(d.seq, d.body)])) (O.map BytesD.data) c9 h9) ∧ (c9 ≤ 1099511627777) ∧ (∀ x ∈ h9, x.1.v ≤ 1099511627776) ∧ (O.length + h9.length ≤ s.held.length + 1) ∧ ((h9.map (·.1)).Nodup) ∧ (∀ x ∈ h9, (c9 : Int) ≤ x.1.v) ∧ St W w (Row 26 1 (.slice p O.length c) O.length (O.flatMap byCell) :: byA O :: RfA g (drS (ackS s d.ack.v) c9 h9) :: (F.set i emp))) (fun (x_ : Nat × (List (I64 × List UInt8)) × (List BytesD) × (Option Addr) × Nat) => match x_ with | (c9, h9, O, p, c) => h9.length) (s.came, s.held ++ [(d.seq, d.body)], [], none, 0) ?_ ?_ ?_
                · exact ⟨by first | rfl | exact vint (by omega), by first | rfl | exact vint (by omega), by first | rfl | exact vint (by omega), by first | rfl | exact vint (by omega), trivial⟩
                · exact ⟨(DrI.start _ _), (by omega), (fun x hx => (List.mem_append.1 hx).elim (o8 x) (fun h => by rw [List.mem_singleton] at h; subst h; exact q2)), (by simp), (hH92.ins (k := d.seq) (b := d.body) hkm hlt hgt).nd, (fun x hx => (List.mem_append.1 hx).elim (fun h => Int.le_of_lt (hv.hi x h)) (fun h => by rw [List.mem_singleton] at h; subst h; show (s.came : Int) ≤ d.seq.v; omega)), H174⟩
                · rintro ⟨c9, h9, O, p, c⟩ ρ175 w176 ⟨hDr, hc9, hh9, hl9, hn9, hlo, H177⟩ nx178
                  change Ends _ _ (upds ρ175 [(0, .pointer (some ⟨g, 0, none⟩)), (4, .slice none 0 0), (5, .int .i64 0), (10, .slice p O.length c)]) w176
                  refine g_seq ?_
                  refine g_seq ?_
                  have H179 := H177.move 2 rfl
                  obtain ⟨⟨⟨pp180, cc181, L182, pp183, cc184, E185, A186⟩, hL187, hA188, hH189⟩, H190⟩ := St.open_ex H179
                  have H191 := St.open_star H190
                  change L182.map BodD.v = A186 ++ (drS (ackS s d.ack.v) c9 h9).l at hL187; change A186.length = (drS (ackS s d.ack.v) c9 h9).acked at hA188; change HR (drS (ackS s d.ack.v) c9 h9).held (mapB E185) at hH189
                  have hl192 := refLen hL187 hA188; have hh193 : E185.length = (drS (ackS s d.ack.v) c9 h9).held.length := by have h9 := hH189.len; rw [mapB_len rfl] at h9; exact h9
                  have H194 : St W w176 (blk g (.cells #[.int .i64 ((drS (ackS s d.ack.v) c9 h9).frm.v), .int .i64 ((drS (ackS s d.ack.v) c9 h9).to_.v), .int .i64 ((drS (ackS s d.ack.v) c9 h9).slide : Int), .slice pp180 L182.length cc181, .int .i64 ((drS (ackS s d.ack.v) c9 h9).acked : Int), .int .i64 ((i64N (drS (ackS s d.ack.v) c9 h9).came).v), .slice pp183 E185.length cc184, .int .i64 ((drS (ackS s d.ack.v) c9 h9).clock : Int), .bool ((drS (ackS s d.ack.v) c9 h9).owes)] 86 (0, 0)) :: Row 101 3 (.slice pp180 L182.length cc181) L182.length (L182.flatMap bodCell) :: byA (L182.map BodD.by) :: Row 105 2 (.slice pp183 E185.length cc184) E185.length (E185.flatMap hlCell) :: byA (mby E185) :: Row 26 1 (.slice p O.length c) O.length (O.flatMap byCell) :: byA O :: (F.set i emp)) := H191
                  change HR h9 (mapB E185) at hH189
                  change E185.length = h9.length at hh193
                  have hcv : (i64N (drS (ackS s d.ack.v) c9 h9).came).v = (c9 : Int) := i64N_v (n := c9) (by omega); have hcw := i64N_v (n := c9) (by omega)
                  by_cases hc195 : (0 : Int) < (E185.length : Int)
                  · skip
                    obtain ⟨bk196, cur197, hp198, h199, h200, h201, h202, h203, H204⟩ := Row.open2 H194 (i := 3) rfl (by omega)
                    refine g_quiet (fun w' => St W w' (blk g (.cells #[.int .i64 ((drS (ackS s d.ack.v) c9 h9).frm.v), .int .i64 ((drS (ackS s d.ack.v) c9 h9).to_.v), .int .i64 ((drS (ackS s d.ack.v) c9 h9).slide : Int), .slice pp180 L182.length cc181, .int .i64 ((drS (ackS s d.ack.v) c9 h9).acked : Int), .int .i64 ((i64N (drS (ackS s d.ack.v) c9 h9).came).v), .slice pp183 E185.length cc184, .int .i64 ((drS (ackS s d.ack.v) c9 h9).clock : Int), .bool ((drS (ackS s d.ack.v) c9 h9).owes)] 86 (0, 0)) :: Row 101 3 (.slice pp180 L182.length cc181) L182.length (L182.flatMap bodCell) :: byA (L182.map BodD.by) :: blk bk196 (.cells cur197 105 (0, 0)) :: byA (mby E185) :: Row 26 1 (.slice p O.length c) O.length (O.flatMap byCell) :: byA O :: (F.set i emp))) mixed (by kernel_rfl) H204.drew ?_
                    refine q_cons (q_val rfl rfl rfl (by intro w hw; exact x_move (.pointer (some ⟨g, 0, none⟩)) rfl w) ?_)
                    refine q_cons (q_val rfl rfl rfl (by intro w hw; exact x_nilCheck (.pointer (some ⟨g, 0, none⟩)) rfl ⟨_, rfl⟩ w) ?_)
                    refine q_cons (q_val rfl rfl rfl (by intro w hw; exact x_fieldAddr 86 5 6 6 84 rfl fi_86_5 rfl w) ?_)
                    refine q_cons (q_val rfl rfl rfl (by intro w hw; exact x_load (.slice pp183 E185.length cc184) ag_84 rfl (hw.blk_at (i := 0) rfl) rfl) ?_)
                    refine q_cons (q_val rfl rfl rfl (by intro w hw; exact x_len E185.length rfl ⟨_, un_84⟩ w) ?_)
                    refine q_cons (q_val rfl rfl rfl (by intro w hw; exact x_gtr true rfl rfl (dtrue hc195) w) ?_)
                    refine q_cons (q_val rfl rfl rfl (by intro w hw; exact x_move (.bool true) rfl w) ?_)
                    refine q_cons (q_take rfl rfl ?_)
                    refine q_val rfl rfl rfl (by intro w hw; exact x_move (.pointer (some ⟨g, 0, none⟩)) rfl w) ?_
                    refine q_cons (q_take rfl rfl ?_)
                    refine q_val rfl rfl rfl (by intro w hw; exact x_nilCheck (.pointer (some ⟨g, 0, none⟩)) rfl ⟨_, rfl⟩ w) ?_
                    refine q_cons (q_take rfl rfl ?_)
                    refine q_val rfl rfl rfl (by intro w hw; exact x_fieldAddr 86 5 6 6 84 rfl fi_86_5 rfl w) ?_
                    refine q_cons (q_take rfl rfl ?_)
                    refine q_val rfl rfl rfl (by intro w hw; exact x_load (.slice pp183 E185.length cc184) ag_84 rfl (hw.blk_at (i := 0) rfl) rfl) ?_
                    refine q_cons (q_take rfl rfl ?_)
                    refine q_val rfl rfl rfl (by intro w hw; exact x_indexAddr bk196 (off := 0) 0 2 (0 + 0 * 2) (by exact congrArg (fun z_ => Value.slice z_ E185.length cc184) ((fun (_ : 0 < 1) => hp198) (by omega))) rfl el_84 (by omega) rfl w) ?_
                    refine q_cons (q_take rfl rfl ?_)
                    refine q_val rfl rfl rfl (by intro w hw; exact x_fieldAddr 105 0 0 (0 + 0 * 2) 2 rfl fi_105_0 rfl w) ?_
                    refine q_cons (q_take rfl rfl ?_)
                    refine q_val rfl rfl rfl (by intro w hw; exact x_load (.int .i64 ((E185.getD 0 default).1.v)) ag_2 rfl (hw.blk_at (i := 3) rfl) (elem_cell (L := E185) (i := 0) hlCell_len (by rw [(rfl : E185.length = E185.length)]; exact h202) (by have hh : E185.length = E185.length := (rfl : E185.length = E185.length); omega) default 0 (by decide) _ rfl)) ?_
                    refine q_cons (q_take rfl rfl ?_)
                    refine q_val rfl rfl rfl (by intro w hw; exact x_move (.pointer (some ⟨g, 0, none⟩)) rfl w) ?_
                    refine q_cons (q_take rfl rfl ?_)
                    refine q_val rfl rfl rfl (by intro w hw; exact x_nilCheck (.pointer (some ⟨g, 0, none⟩)) rfl ⟨_, rfl⟩ w) ?_
                    refine q_cons (q_take rfl rfl ?_)
                    refine q_val rfl rfl rfl (by intro w hw; exact x_fieldAddr 86 4 5 5 2 rfl fi_86_4 rfl w) ?_
                    refine q_cons (q_take rfl rfl ?_)
                    refine q_val rfl rfl rfl (by intro w hw; exact x_load (.int .i64 ((i64N (drS (ackS s d.ack.v) c9 h9).came).v)) ag_2 rfl (hw.blk_at (i := 0) rfl) rfl) ?_
                    refine q_cons (q_take rfl rfl ?_)
                    by_cases hc205 : (E185.getD 0 default).1.v = (i64N (drS (ackS s d.ack.v) c9 h9).came).v
                    · skip
                      refine q_val rfl rfl rfl (by intro w hw; exact x_eql true rfl rfl (dtrue hc205) w) ?_
                      refine q_cons (q_val rfl rfl rfl (by intro w hw; exact x_pick_t (.bool true) rfl rfl w) ?_)
                      refine q_nil ?_
                      intro w206 H207
                      refine g_true rfl ?_
                      refine g_skip ?_
                      refine g_block ?_
                      refine g_seq ?_
                      refine g_region ?_
                      refine r_cons (s_move (.slice p O.length c) rfl rfl ?_)
                      refine r_cons (s_move (.pointer (some ⟨g, 0, none⟩)) rfl rfl ?_)
                      refine r_cons (s_nilCheck (.pointer (some ⟨g, 0, none⟩)) rfl ⟨_, rfl⟩ rfl ?_)
                      refine r_cons (s_fieldAddr 86 5 6 6 84 rfl fi_86_5 rfl rfl ?_)
                      refine r_cons (s_load (.slice pp183 E185.length cc184) ag_84 rfl (H207.blk_at (i := 0) rfl) rfl rfl ?_)
                      refine r_cons (s_indexAddr bk196 (off := 0) 0 2 (0 + 0 * 2) (by exact congrArg (fun z_ => Value.slice z_ E185.length cc184) ((fun (_ : 0 < 1) => hp198) (by omega))) rfl el_84 (by omega) rfl rfl ?_)
                      refine r_cons (s_fieldAddr 105 1 1 (0 + 0 * 2 + 1) 26 rfl fi_105_1 rfl rfl ?_)
                      refine r_cons (s_load (.slice ((E185.getD 0 default).2.p) ((E185.getD 0 default).2.data.length) ((E185.getD 0 default).2.c)) ag_26 rfl (H207.blk_at (i := 3) rfl) (elem_cell (L := E185) (i := 0) hlCell_len (by rw [(rfl : E185.length = E185.length)]; exact h202) (by have hh : E185.length = E185.length := (rfl : E185.length = E185.length); omega) default 1 (by decide) _ rfl) rfl ?_)
                      refine r_cons (s_buildSlice H207 1 1 (cs := #[.slice ((E185.getD 0 default).2.p) ((E185.getD 0 default).2.data.length) ((E185.getD 0 default).2.c)]) #[.slice none 0 0] el_32 ze_26 (by decide) (by decide) (by kernel_rfl) rfl ?_); intro bk208 w209 H210
                      refine r_cons (s_append H210 6 rfl rfl rfl (rd_blk (H210.blk_at (i := 0) rfl) rfl (Nat.le_of_ble_eq_true rfl) (by simp [Value.oneCell'])) ap_32 (by decide) (by unfold maxLen; omega) (by omega) (n' := O.length + 1) (xs' := O.flatMap byCell ++ ([.slice ((E185.getD 0 default).2.p) ((E185.getD 0 default).2.data.length) ((E185.getD 0 default).2.c)] : List Value)) (by omega) (by first | rfl | simp) rfl ?_); intro vv211 w212 H213 hn214
                      obtain ⟨pp215, cc216, rfl⟩ := Row.slice H213 (i := 6) rfl
                      refine r_cons (s_assign (.slice pp215 (O.length + 1) cc216) rfl rfl ?_)
                      refine r_nil ?_
                      refine g_seq ?_
                      refine g_region ?_
                      refine r_cons (s_assign (.slice none 0 0) rfl rfl ?_)
                      refine r_nil ?_
                      refine g_seq ?_
                      refine g_region ?_
                      have H217 := Row.shut2 (p := pp183) (n := E185.length) (c := cc184) (size := 2) (xs := E185.flatMap hlCell) H213 (i := 4) rfl hp198 h199 h200 h201 (by have hh : (cur197.toList.drop 0).take (E185.length * 2) = E185.flatMap hlCell := (by rw [(rfl : E185.length = E185.length)]; exact h202); have hk : E185.length = E185.length := (rfl : E185.length = E185.length); rw [hk] at hh; exact hh) (fun x_ hx_ => by obtain ⟨a_, _, ha_⟩ := List.mem_flatMap.1 hx_; exact one_hl a_ x_ ha_)
                      have H218 : St W w212 (blk bk208 (.cells #[.slice ((E185.getD 0 default).2.p) ((E185.getD 0 default).2.data.length) ((E185.getD 0 default).2.c)] 26 (0, 0)) :: blk g (.cells #[.int .i64 ((drS (ackS s d.ack.v) c9 h9).frm.v), .int .i64 ((drS (ackS s d.ack.v) c9 h9).to_.v), .int .i64 ((drS (ackS s d.ack.v) c9 h9).slide : Int), .slice pp180 L182.length cc181, .int .i64 ((drS (ackS s d.ack.v) c9 h9).acked : Int), .int .i64 ((i64N (drS (ackS s d.ack.v) c9 h9).came).v), .slice pp183 E185.length cc184, .int .i64 ((drS (ackS s d.ack.v) c9 h9).clock : Int), .bool ((drS (ackS s d.ack.v) c9 h9).owes)] 86 (0, 0)) :: Row 101 3 (.slice pp180 L182.length cc181) L182.length (L182.flatMap bodCell) :: byA (L182.map BodD.by) :: Im 2 (.slice pp183 E185.length cc184) E185.length (E185.flatMap hlCell) :: byA (mby E185) :: Row 26 1 (.slice pp215 (O.length + 1) cc216) (O.length + 1) (O.flatMap byCell ++ ([.slice ((E185.getD 0 default).2.p) ((E185.getD 0 default).2.data.length) ((E185.getD 0 default).2.c)] : List Value)) :: byA O :: (F.set i emp)) := Row.im H217 (i := 4) rfl
                      refine r_cons (s_move (.pointer (some ⟨g, 0, none⟩)) rfl rfl ?_)
                      refine r_cons (s_move (.slice none 0 0) rfl rfl ?_)
                      refine r_cons (s_move (.pointer (some ⟨g, 0, none⟩)) rfl rfl ?_)
                      refine r_cons (s_nilCheck (.pointer (some ⟨g, 0, none⟩)) rfl ⟨_, rfl⟩ rfl ?_)
                      refine r_cons (s_fieldAddr 86 5 6 6 84 rfl fi_86_5 rfl rfl ?_)
                      refine r_cons (s_load (.slice pp183 E185.length cc184) ag_84 rfl (H218.blk_at (i := 1) rfl) rfl rfl ?_)
                      have hc219 := Im.cap H218 (i := 4) rfl
                      refine r_cons (s_slice_l pp183 1 2 (.slice (cutAt pp183 1 cc184 2) (E185.length - 1) (cc184 - 1)) rfl rfl el_84 (by omega) (by first | rfl | (congr 1; omega)) rfl ?_)
                      have H220 : St W w212 (Im 2 (.slice (cutAt pp183 1 cc184 2) (E185.length - 1) (cc184 - 1)) (E185.length - 1) ((E185.drop 1).flatMap hlCell) :: blk bk208 (.cells #[.slice ((E185.getD 0 default).2.p) ((E185.getD 0 default).2.data.length) ((E185.getD 0 default).2.c)] 26 (0, 0)) :: blk g (.cells #[.int .i64 ((drS (ackS s d.ack.v) c9 h9).frm.v), .int .i64 ((drS (ackS s d.ack.v) c9 h9).to_.v), .int .i64 ((drS (ackS s d.ack.v) c9 h9).slide : Int), .slice pp180 L182.length cc181, .int .i64 ((drS (ackS s d.ack.v) c9 h9).acked : Int), .int .i64 ((i64N (drS (ackS s d.ack.v) c9 h9).came).v), .slice pp183 E185.length cc184, .int .i64 ((drS (ackS s d.ack.v) c9 h9).clock : Int), .bool ((drS (ackS s d.ack.v) c9 h9).owes)] 86 (0, 0)) :: Row 101 3 (.slice pp180 L182.length cc181) L182.length (L182.flatMap bodCell) :: byA (L182.map BodD.by) :: Im 2 (.slice pp183 E185.length cc184) E185.length (E185.flatMap hlCell) :: byA (mby E185) :: Row 26 1 (.slice pp215 (O.length + 1) cc216) (O.length + 1) (O.flatMap byCell ++ ([.slice ((E185.getD 0 default).2.p) ((E185.getD 0 default).2.data.length) ((E185.getD 0 default).2.c)] : List Value)) :: byA O :: (F.set i emp)) := Im.cutN_l hlCell_len (by decide) 1 H218 (i := 4) rfl (by omega)
                      have H221 := Row.nil_intro H220 105 2
                      refine r_cons (s_append H221 0 rfl rfl rfl (Im.rd H221 (i := 1) rfl) ap_84 (by decide) (by unfold maxLen; omega) (by omega) (n' := E185.length - 1) (xs' := (E185.drop 1).flatMap hlCell) (by omega) (by first | rfl | simp) rfl ?_); intro vv222 w223 H224 hn225
                      obtain ⟨pp226, cc227, rfl⟩ := Row.slice H224 (i := 0) rfl
                      refine r_cons (s_nilCheck (.pointer (some ⟨g, 0, none⟩)) rfl ⟨_, rfl⟩ rfl ?_)
                      refine r_cons (s_fieldAddr 86 5 6 6 84 rfl fi_86_5 rfl rfl ?_)
                      refine r_cons (s_store H224 3 (.slice pp226 (E185.length - 1) cc227) rfl rfl rfl sz_84 rfl (Nat.le_of_ble_eq_true rfl) rfl (cs' := #[.int .i64 ((drS (ackS s d.ack.v) c9 h9).frm.v), .int .i64 ((drS (ackS s d.ack.v) c9 h9).to_.v), .int .i64 ((drS (ackS s d.ack.v) c9 h9).slide : Int), .slice pp180 L182.length cc181, .int .i64 ((drS (ackS s d.ack.v) c9 h9).acked : Int), .int .i64 ((i64N (drS (ackS s d.ack.v) c9 h9).came).v), .slice pp226 (E185.length - 1) cc227, .int .i64 ((drS (ackS s d.ack.v) c9 h9).clock : Int), .bool ((drS (ackS s d.ack.v) c9 h9).owes)]) rfl ?_); intro w228 H229
                      refine r_nil ?_
                      refine g_region ?_
                      refine r_cons (s_move (.pointer (some ⟨g, 0, none⟩)) rfl rfl ?_)
                      refine r_cons (s_nilCheck (.pointer (some ⟨g, 0, none⟩)) rfl ⟨_, rfl⟩ rfl ?_)
                      refine r_cons (s_fieldAddr 86 4 5 5 2 rfl fi_86_4 rfl rfl ?_)
                      refine r_cons (s_load (.int .i64 ((i64N (drS (ackS s d.ack.v) c9 h9).came).v)) ag_2 rfl (H229.blk_at (i := 3) rfl) rfl rfl ?_)
                      refine r_cons (s_add ((c9 + 1 : Nat) : Int) rfl rfl ((wi64 (by omega)).trans (by omega)) rfl ?_)
                      refine r_cons (s_nilCheck (.pointer (some ⟨g, 0, none⟩)) rfl ⟨_, rfl⟩ rfl ?_)
                      refine r_cons (s_fieldAddr 86 4 5 5 2 rfl fi_86_4 rfl rfl ?_)
                      refine r_cons (s_store H229 3 (.int .i64 ((c9 + 1 : Nat) : Int)) rfl rfl rfl sz_2 rfl (Nat.le_of_ble_eq_true rfl) rfl (cs' := #[.int .i64 ((drS (ackS s d.ack.v) c9 h9).frm.v), .int .i64 ((drS (ackS s d.ack.v) c9 h9).to_.v), .int .i64 ((drS (ackS s d.ack.v) c9 h9).slide : Int), .slice pp180 L182.length cc181, .int .i64 ((drS (ackS s d.ack.v) c9 h9).acked : Int), .int .i64 ((c9 + 1 : Nat) : Int), .slice pp226 (E185.length - 1) cc227, .int .i64 ((drS (ackS s d.ack.v) c9 h9).clock : Int), .bool ((drS (ackS s d.ack.v) c9 h9).owes)]) rfl ?_); intro w230 H231
                      refine r_nil ?_
                      refine g_inBlock ?_
                      have H232 : St W w230 (Row 105 2 (.slice pp226 ((E185.drop 1).length) cc227) ((E185.drop 1).length) ((E185.drop 1).flatMap hlCell) :: Im 2 (.slice (cutAt pp183 1 cc184 2) (E185.length - 1) (cc184 - 1)) (E185.length - 1) ((E185.drop 1).flatMap hlCell) :: blk bk208 (.cells #[.slice ((E185.getD 0 default).2.p) ((E185.getD 0 default).2.data.length) ((E185.getD 0 default).2.c)] 26 (0, 0)) :: blk g (.cells #[.int .i64 ((drS (ackS s d.ack.v) c9 h9).frm.v), .int .i64 ((drS (ackS s d.ack.v) c9 h9).to_.v), .int .i64 ((drS (ackS s d.ack.v) c9 h9).slide : Int), .slice pp180 L182.length cc181, .int .i64 ((drS (ackS s d.ack.v) c9 h9).acked : Int), .int .i64 ((i64N (c9 + 1)).v), .slice pp226 ((E185.drop 1).length) cc227, .int .i64 ((drS (ackS s d.ack.v) c9 h9).clock : Int), .bool ((drS (ackS s d.ack.v) c9 h9).owes)] 86 (0, 0)) :: Row 101 3 (.slice pp180 L182.length cc181) L182.length (L182.flatMap bodCell) :: byA (L182.map BodD.by) :: Im 2 (.slice pp183 E185.length cc184) E185.length (E185.flatMap hlCell) :: byA (mby E185) :: Row 26 1 (.slice pp215 ((O ++ [(E185.getD 0 default).2]).length) cc216) ((O ++ [(E185.getD 0 default).2]).length) ((O ++ [(E185.getD 0 default).2]).flatMap byCell) :: byA O :: (F.set i emp)) := by rw [i64N_v (n := c9 + 1) (by omega), flat_app, flat_one, List.length_append, List.length_drop]; exact H231
                      have H233 : St W w230 (Im 1 (.slice ((E185.getD 0 default).2.p) ((E185.getD 0 default).2.data.length) ((E185.getD 0 default).2.c)) (((E185.getD 0 default).2.data).length) (((E185.getD 0 default).2.data).flatMap u8c) :: Row 105 2 (.slice pp226 ((E185.drop 1).length) cc227) ((E185.drop 1).length) ((E185.drop 1).flatMap hlCell) :: Im 2 (.slice (cutAt pp183 1 cc184 2) (E185.length - 1) (cc184 - 1)) (E185.length - 1) ((E185.drop 1).flatMap hlCell) :: blk bk208 (.cells #[.slice ((E185.getD 0 default).2.p) ((E185.getD 0 default).2.data.length) ((E185.getD 0 default).2.c)] 26 (0, 0)) :: blk g (.cells #[.int .i64 ((drS (ackS s d.ack.v) c9 h9).frm.v), .int .i64 ((drS (ackS s d.ack.v) c9 h9).to_.v), .int .i64 ((drS (ackS s d.ack.v) c9 h9).slide : Int), .slice pp180 L182.length cc181, .int .i64 ((drS (ackS s d.ack.v) c9 h9).acked : Int), .int .i64 ((i64N (c9 + 1)).v), .slice pp226 ((E185.drop 1).length) cc227, .int .i64 ((drS (ackS s d.ack.v) c9 h9).clock : Int), .bool ((drS (ackS s d.ack.v) c9 h9).owes)] 86 (0, 0)) :: Row 101 3 (.slice pp180 L182.length cc181) L182.length (L182.flatMap bodCell) :: byA (L182.map BodD.by) :: Im 2 (.slice pp183 E185.length cc184) E185.length (E185.flatMap hlCell) :: byA (mby E185) :: Row 26 1 (.slice pp215 ((O ++ [(E185.getD 0 default).2]).length) cc216) ((O ++ [(E185.getD 0 default).2]).length) ((O ++ [(E185.getD 0 default).2]).flatMap byCell) :: byA O :: (F.set i emp)) := byA_at H232 (i := 7) rfl (mby_at (k := 0) (by omega))
                      have H234 := byA_add (x := (E185.getD 0 default).2) H233 (i := 10) (j := 0) rfl rfl snoc_b
                      have H235 := byA_sub (M := mby (E185.drop 1)) H234 (i := 9) rfl mby_drop
                      have hk9 : (E185.getD 0 default).1 = i64N c9 := I64.eq (by rw [hcw]; omega)
                      have hg9 : aget h9 (i64N c9) = some (E185.getD 0 default).2.data := by have hx := hH189.get (mapB_one (by omega)); simp only [hk9] at hx; exact hx
                      have hr9 : HR (adel h9 (i64N c9)) (mapB (E185.drop 1)) := by have hx := hH189.del (mapB_one (by omega)); simp only [hk9] at hx; exact hx
                      have hkk := hh9 _ (aget_mem hg9); simp only at hkk
                      have H236 : St W w230 (blk g (.cells #[.int .i64 ((drS (ackS s d.ack.v) c9 h9).frm.v), .int .i64 ((drS (ackS s d.ack.v) c9 h9).to_.v), .int .i64 ((drS (ackS s d.ack.v) c9 h9).slide : Int), .slice pp180 L182.length cc181, .int .i64 ((drS (ackS s d.ack.v) c9 h9).acked : Int), .int .i64 ((i64N (c9 + 1)).v), .slice pp226 ((E185.drop 1).length) cc227, .int .i64 ((drS (ackS s d.ack.v) c9 h9).clock : Int), .bool ((drS (ackS s d.ack.v) c9 h9).owes)] 86 (0, 0)) :: Row 101 3 (.slice pp180 L182.length cc181) L182.length (L182.flatMap bodCell) :: byA (L182.map BodD.by) :: Row 105 2 (.slice pp226 ((E185.drop 1).length) cc227) ((E185.drop 1).length) ((E185.drop 1).flatMap hlCell) :: byA (mby (E185.drop 1)) :: byA (O ++ [(E185.getD 0 default).2]) :: Im 1 (.slice ((E185.getD 0 default).2.p) ((E185.getD 0 default).2.data.length) ((E185.getD 0 default).2.c)) (((E185.getD 0 default).2.data).length) (((E185.getD 0 default).2.data).flatMap u8c) :: Im 2 (.slice (cutAt pp183 1 cc184 2) (E185.length - 1) (cc184 - 1)) (E185.length - 1) ((E185.drop 1).flatMap hlCell) :: blk bk208 (.cells #[.slice ((E185.getD 0 default).2.p) ((E185.getD 0 default).2.data.length) ((E185.getD 0 default).2.c)] 26 (0, 0)) :: Im 2 (.slice pp183 E185.length cc184) E185.length (E185.flatMap hlCell) :: byA (mby E185) :: Row 26 1 (.slice pp215 ((O ++ [(E185.getD 0 default).2]).length) cc216) ((O ++ [(E185.getD 0 default).2]).length) ((O ++ [(E185.getD 0 default).2]).flatMap byCell) :: byA O :: (F.set i emp)) := ((((H235.move 3 rfl).move 8 rfl).move 8 rfl).move 8 rfl)
                      have H237 : St W w230 (RfA g (drS (ackS s d.ack.v) (c9 + 1) (adel h9 (i64N c9))) :: byA (O ++ [(E185.getD 0 default).2]) :: Im 1 (.slice ((E185.getD 0 default).2.p) ((E185.getD 0 default).2.data.length) ((E185.getD 0 default).2.c)) (((E185.getD 0 default).2.data).length) (((E185.getD 0 default).2.data).flatMap u8c) :: Im 2 (.slice (cutAt pp183 1 cc184 2) (E185.length - 1) (cc184 - 1)) (E185.length - 1) ((E185.drop 1).flatMap hlCell) :: blk bk208 (.cells #[.slice ((E185.getD 0 default).2.p) ((E185.getD 0 default).2.data.length) ((E185.getD 0 default).2.c)] 26 (0, 0)) :: Im 2 (.slice pp183 E185.length cc184) E185.length (E185.flatMap hlCell) :: byA (mby E185) :: Row 26 1 (.slice pp215 ((O ++ [(E185.getD 0 default).2]).length) cc216) ((O ++ [(E185.getD 0 default).2]).length) ((O ++ [(E185.getD 0 default).2]).flatMap byCell) :: byA O :: (F.set i emp)) := St.shut_ex ⟨⟨pp180, cc181, L182, pp226, cc227, (E185.drop 1), A186⟩, hL187, hA188, hr9⟩ (St.shut_star (ls := [blk g (.cells #[.int .i64 ((drS (ackS s d.ack.v) c9 h9).frm.v), .int .i64 ((drS (ackS s d.ack.v) c9 h9).to_.v), .int .i64 ((drS (ackS s d.ack.v) c9 h9).slide : Int), .slice pp180 L182.length cc181, .int .i64 ((drS (ackS s d.ack.v) c9 h9).acked : Int), .int .i64 ((i64N (c9 + 1)).v), .slice pp226 ((E185.drop 1).length) cc227, .int .i64 ((drS (ackS s d.ack.v) c9 h9).clock : Int), .bool ((drS (ackS s d.ack.v) c9 h9).owes)] 86 (0, 0)), Row 101 3 (.slice pp180 L182.length cc181) L182.length (L182.flatMap bodCell), byA (L182.map BodD.by), Row 105 2 (.slice pp226 ((E185.drop 1).length) cc227) ((E185.drop 1).length) ((E185.drop 1).flatMap hlCell), byA (mby (E185.drop 1))]) H236)
                      have H238 : St W w230 (Row 26 1 (.slice pp215 ((O ++ [(E185.getD 0 default).2]).length) cc216) ((O ++ [(E185.getD 0 default).2]).length) ((O ++ [(E185.getD 0 default).2]).flatMap byCell) :: byA (O ++ [(E185.getD 0 default).2]) :: RfA g (drS (ackS s d.ack.v) (c9 + 1) (adel h9 (i64N c9))) :: (F.set i emp)) := ((((((((H237.move 1 rfl).move 7 rfl).drop 3 rfl).drop 3 rfl).drop 3 rfl).drop 3 rfl).drop 3 rfl).drop 3 rfl)
                      exact nx178 (c9 + 1, adel h9 (i64N c9), (O ++ [(E185.getD 0 default).2]), pp215, cc216) _ _ ⟨(by rw [List.map_append]; exact hDr.step hg9), (by omega), (fun x hx => hh9 x (adel_sub hx)), (by rw [List.length_append]; have := adel_len (has_of_get hg9); simp only [List.length_cons, List.length_nil]; omega), (adel_nd hn9), (fun x hx => keyNext (hlo x (adel_sub hx)) (keys_ne hn9 x hx) hcw), H238⟩ (by first | (dsimp only; (have := adel_len (has_of_get hg9); omega)) | (have := adel_len (has_of_get hg9); omega)) ⟨by first | rfl | exact vint (by omega), by first | rfl | exact vint (by omega), by first | rfl | exact vint (by omega), by first | rfl | (show Value.slice _ _ _ = _; rw [List.length_append]; rfl), trivial⟩
                    · skip
                      refine q_val rfl rfl rfl (by intro w hw; exact x_eql false rfl rfl (dfalse hc205) w) ?_
                      refine q_cons (q_val rfl rfl rfl (by intro w hw; exact x_pick_t (.bool false) rfl rfl w) ?_)
                      refine q_nil ?_
                      intro w239 H240
                      refine g_false rfl ?_
                      refine g_exit (by rfl) ?_
                      refine g_seq ?_
                      refine g_region ?_
                      refine r_cons (s_move (.slice p O.length c) rfl rfl ?_)
                      refine r_cons (s_assign (.slice p O.length c) rfl rfl ?_)
                      refine r_cons (s_assign (.int .i64 0) rfl rfl ?_)
                      refine r_nil ?_
                      refine g_ret' [.slice p O.length c, .int .i64 0] Try.func41 Try.results41 ⟨rfl, rfl, trivial⟩ ?_
                      have hno : ahas h9 (i64N c9) = false := hH189.stop (by omega) hlo (by rw [mapB_len rfl, mapB_at]; show _ ∨ ¬ (E185.getD 0 default).1.v = (c9 : Int); omega)
                      have H241 := Row.shut2 (p := pp183) (n := E185.length) (c := cc184) (size := 2) (xs := E185.flatMap hlCell) H240 (i := 3) rfl hp198 h199 h200 h201 (by have hh : (cur197.toList.drop 0).take (E185.length * 2) = E185.flatMap hlCell := (by rw [(rfl : E185.length = E185.length)]; exact h202); have hk : E185.length = E185.length := (rfl : E185.length = E185.length); rw [hk] at hh; exact hh) (fun x_ hx_ => by obtain ⟨a_, _, ha_⟩ := List.mem_flatMap.1 hx_; exact one_hl a_ x_ ha_)
                      have H242 : St W w239 (RfA g (drS (ackS s d.ack.v) c9 h9) :: Row 26 1 (.slice p O.length c) O.length (O.flatMap byCell) :: byA O :: (F.set i emp)) := St.shut_ex ⟨⟨pp180, cc181, L182, pp183, cc184, E185, A186⟩, hL187, hA188, hH189⟩ (St.shut_star (ls := [blk g (.cells #[.int .i64 ((drS (ackS s d.ack.v) c9 h9).frm.v), .int .i64 ((drS (ackS s d.ack.v) c9 h9).to_.v), .int .i64 ((drS (ackS s d.ack.v) c9 h9).slide : Int), .slice pp180 L182.length cc181, .int .i64 ((drS (ackS s d.ack.v) c9 h9).acked : Int), .int .i64 ((i64N (drS (ackS s d.ack.v) c9 h9).came).v), .slice pp183 E185.length cc184, .int .i64 ((drS (ackS s d.ack.v) c9 h9).clock : Int), .bool ((drS (ackS s d.ack.v) c9 h9).owes)] 86 (0, 0)), Row 101 3 (.slice pp180 L182.length cc181) L182.length (L182.flatMap bodCell), byA (L182.map BodD.by), Row 105 2 (.slice pp183 E185.length cc184) E185.length (E185.flatMap hlCell), byA (mby E185)]) H241)
                      have hd9 := hDr.stop hno
                      have hT9 : takeT s d = O.map BytesD.data := by rw [takeT_yes hE hk1, hC, hd9]
                      have H243 : St W w239 (Row 26 1 (.slice p O.length c) O.length (O.flatMap byCell) :: byA O :: RfA g (drS (ackS s d.ack.v) c9 h9) :: (F.set i emp)) := ((H242.move 2 rfl).move 2 rfl)
                      have hn244 : (takeT s d).length = O.length := (by rw [hT9, List.length_map])
                      have H245 : St W w239 (Row 26 1 (.slice p ((takeT s d).length) c) ((takeT s d).length) (O.flatMap byCell) :: byA O :: RfA g (drS (ackS s d.ack.v) c9 h9) :: (F.set i emp)) := by rw [hn244]; exact H243
                      have H246 : St W w239 (BysA p c (takeT s d) :: RfA g (drS (ackS s d.ack.v) c9 h9) :: (F.set i emp)) := St.shut_ex ⟨O, hT9.symm⟩ (St.shut_star (ls := [Row 26 1 (.slice p ((takeT s d).length) c) ((takeT s d).length) (O.flatMap byCell), byA O]) H245)
                      have H247 : St W w239 (BysA p c (takeT s d) :: RfA g (takeS s d) :: (F.set i emp)) := by rw [takeS_data hE hk1, hC, hd9]; exact H246
                      have H248 : St W w239 (BysA p c (takeT s d) :: RfA g (takeS s d) :: (F.set i emp)) := ((H247.move 1 rfl).move 1 rfl)
                      have H249 : St W w239 (RfA g (takeS s d) :: (BysA p c (takeT s d) :: F).set (i + 1) emp) := (H248.move 1 rfl)
                      exact ⟨_, _, by rw [hE, hn244]; rfl, St.back (i := i + 1) (by exact hi) H249⟩
                  · skip
                    refine g_quiet (fun w' => St W w' (blk g (.cells #[.int .i64 ((drS (ackS s d.ack.v) c9 h9).frm.v), .int .i64 ((drS (ackS s d.ack.v) c9 h9).to_.v), .int .i64 ((drS (ackS s d.ack.v) c9 h9).slide : Int), .slice pp180 L182.length cc181, .int .i64 ((drS (ackS s d.ack.v) c9 h9).acked : Int), .int .i64 ((i64N (drS (ackS s d.ack.v) c9 h9).came).v), .slice pp183 E185.length cc184, .int .i64 ((drS (ackS s d.ack.v) c9 h9).clock : Int), .bool ((drS (ackS s d.ack.v) c9 h9).owes)] 86 (0, 0)) :: Row 101 3 (.slice pp180 L182.length cc181) L182.length (L182.flatMap bodCell) :: byA (L182.map BodD.by) :: Row 105 2 (.slice pp183 E185.length cc184) E185.length (E185.flatMap hlCell) :: byA (mby E185) :: Row 26 1 (.slice p O.length c) O.length (O.flatMap byCell) :: byA O :: (F.set i emp))) mixed (by kernel_rfl) H194.drew ?_
                    refine q_cons (q_val rfl rfl rfl (by intro w hw; exact x_move (.pointer (some ⟨g, 0, none⟩)) rfl w) ?_)
                    refine q_cons (q_val rfl rfl rfl (by intro w hw; exact x_nilCheck (.pointer (some ⟨g, 0, none⟩)) rfl ⟨_, rfl⟩ w) ?_)
                    refine q_cons (q_val rfl rfl rfl (by intro w hw; exact x_fieldAddr 86 5 6 6 84 rfl fi_86_5 rfl w) ?_)
                    refine q_cons (q_val rfl rfl rfl (by intro w hw; exact x_load (.slice pp183 E185.length cc184) ag_84 rfl (hw.blk_at (i := 0) rfl) rfl) ?_)
                    refine q_cons (q_val rfl rfl rfl (by intro w hw; exact x_len E185.length rfl ⟨_, un_84⟩ w) ?_)
                    refine q_cons (q_val rfl rfl rfl (by intro w hw; exact x_gtr false rfl rfl (dfalse hc195) w) ?_)
                    refine q_cons (q_val rfl rfl rfl (by intro w hw; exact x_move (.bool false) rfl w) ?_)
                    refine q_cons (q_pass rfl rfl rfl rfl rfl ?_)
                    refine q_cons (q_pass rfl rfl rfl rfl rfl ?_)
                    refine q_cons (q_pass rfl rfl rfl rfl rfl ?_)
                    refine q_cons (q_pass rfl rfl rfl rfl rfl ?_)
                    refine q_cons (q_pass rfl rfl rfl rfl rfl ?_)
                    refine q_cons (q_pass rfl rfl rfl rfl rfl ?_)
                    refine q_cons (q_pass rfl rfl rfl rfl rfl ?_)
                    refine q_cons (q_pass rfl rfl rfl rfl rfl ?_)
                    refine q_cons (q_pass rfl rfl rfl rfl rfl ?_)
                    refine q_cons (q_pass rfl rfl rfl rfl rfl ?_)
                    refine q_cons (q_pass rfl rfl rfl rfl rfl ?_)
                    refine q_cons (q_pass rfl rfl rfl rfl rfl ?_)
                    refine q_cons (q_val rfl rfl rfl (by intro w hw; exact x_pick_f (.bool false) rfl rfl w) ?_)
                    refine q_nil ?_
                    intro w250 H251
                    refine g_false rfl ?_
                    refine g_exit (by rfl) ?_
                    refine g_seq ?_
                    refine g_region ?_
                    refine r_cons (s_move (.slice p O.length c) rfl rfl ?_)
                    refine r_cons (s_assign (.slice p O.length c) rfl rfl ?_)
                    refine r_cons (s_assign (.int .i64 0) rfl rfl ?_)
                    refine r_nil ?_
                    refine g_ret' [.slice p O.length c, .int .i64 0] Try.func41 Try.results41 ⟨rfl, rfl, trivial⟩ ?_
                    have hno : ahas h9 (i64N c9) = false := hH189.stop (by omega) hlo (by rw [mapB_len rfl, mapB_at]; show _ ∨ ¬ (E185.getD 0 default).1.v = (c9 : Int); omega)
                    have H252 : St W w250 (RfA g (drS (ackS s d.ack.v) c9 h9) :: Row 26 1 (.slice p O.length c) O.length (O.flatMap byCell) :: byA O :: (F.set i emp)) := St.shut_ex ⟨⟨pp180, cc181, L182, pp183, cc184, E185, A186⟩, hL187, hA188, hH189⟩ (St.shut_star (ls := [blk g (.cells #[.int .i64 ((drS (ackS s d.ack.v) c9 h9).frm.v), .int .i64 ((drS (ackS s d.ack.v) c9 h9).to_.v), .int .i64 ((drS (ackS s d.ack.v) c9 h9).slide : Int), .slice pp180 L182.length cc181, .int .i64 ((drS (ackS s d.ack.v) c9 h9).acked : Int), .int .i64 ((i64N (drS (ackS s d.ack.v) c9 h9).came).v), .slice pp183 E185.length cc184, .int .i64 ((drS (ackS s d.ack.v) c9 h9).clock : Int), .bool ((drS (ackS s d.ack.v) c9 h9).owes)] 86 (0, 0)), Row 101 3 (.slice pp180 L182.length cc181) L182.length (L182.flatMap bodCell), byA (L182.map BodD.by), Row 105 2 (.slice pp183 E185.length cc184) E185.length (E185.flatMap hlCell), byA (mby E185)]) H251)
                    have hd9 := hDr.stop hno
                    have hT9 : takeT s d = O.map BytesD.data := by rw [takeT_yes hE hk1, hC, hd9]
                    have H253 : St W w250 (Row 26 1 (.slice p O.length c) O.length (O.flatMap byCell) :: byA O :: RfA g (drS (ackS s d.ack.v) c9 h9) :: (F.set i emp)) := ((H252.move 2 rfl).move 2 rfl)
                    have hn254 : (takeT s d).length = O.length := (by rw [hT9, List.length_map])
                    have H255 : St W w250 (Row 26 1 (.slice p ((takeT s d).length) c) ((takeT s d).length) (O.flatMap byCell) :: byA O :: RfA g (drS (ackS s d.ack.v) c9 h9) :: (F.set i emp)) := by rw [hn254]; exact H253
                    have H256 : St W w250 (BysA p c (takeT s d) :: RfA g (drS (ackS s d.ack.v) c9 h9) :: (F.set i emp)) := St.shut_ex ⟨O, hT9.symm⟩ (St.shut_star (ls := [Row 26 1 (.slice p ((takeT s d).length) c) ((takeT s d).length) (O.flatMap byCell), byA O]) H255)
                    have H257 : St W w250 (BysA p c (takeT s d) :: RfA g (takeS s d) :: (F.set i emp)) := by rw [takeS_data hE hk1, hC, hd9]; exact H256
                    have H258 : St W w250 (BysA p c (takeT s d) :: RfA g (takeS s d) :: (F.set i emp)) := ((H257.move 1 rfl).move 1 rfl)
                    have H259 : St W w250 (RfA g (takeS s d) :: (BysA p c (takeT s d) :: F).set (i + 1) emp) := (H258.move 1 rfl)
                    exact ⟨_, _, by rw [hE, hn254]; rfl, St.back (i := i + 1) (by exact hi) H259⟩
            · intro join102
              by_cases hc260 : (k : Int) < (E88.length : Int)
              · skip
                obtain ⟨bk261, cur262, hp263, h264, h265, h266, h267, h268, H269⟩ := Row.open2 H100 (i := 3) rfl (by omega)
                refine g_quiet (fun w' => St W w' (blk g (.cells #[.int .i64 ((drS (ackS s d.ack.v) s.came s.held).frm.v), .int .i64 ((drS (ackS s d.ack.v) s.came s.held).to_.v), .int .i64 ((drS (ackS s d.ack.v) s.came s.held).slide : Int), .slice pp83 L85.length cc84, .int .i64 ((drS (ackS s d.ack.v) s.came s.held).acked : Int), .int .i64 ((i64N (drS (ackS s d.ack.v) s.came s.held).came).v), .slice pp86 E88.length cc87, .int .i64 ((drS (ackS s d.ack.v) s.came s.held).clock : Int), .bool ((drS (ackS s d.ack.v) s.came s.held).owes)] 86 (0, 0)) :: Row 101 3 (.slice pp83 L85.length cc84) L85.length (L85.flatMap bodCell) :: byA (L85.map BodD.by) :: blk bk261 (.cells cur262 105 (0, 0)) :: byA (mby E88) :: blk bk7 (.cells #[.int .i64 d.frm.v, .int .i64 d.to_.v, .int .i64 d.kind.v, .int .i64 d.seq.v, .int .i64 d.ack.v, .slice pp1 d.body.length cc2] 41 (0, 0)) :: Im 1 (.slice pp1 d.body.length cc2) d.body.length (d.body.flatMap u8c) :: (F.set i emp))) mixed (by kernel_rfl) H269.drew ?_
                refine q_cons (q_val rfl rfl rfl (by intro w hw; exact x_fieldAddr 41 3 3 3 2 rfl fi_41_3 rfl w) ?_)
                refine q_cons (q_val rfl rfl rfl (by intro w hw; exact x_load (.int .i64 d.seq.v) ag_2 rfl (hw.blk_at (i := 5) rfl) rfl) ?_)
                refine q_cons (q_val rfl rfl rfl (by intro w hw; exact x_move (.pointer (some ⟨g, 0, none⟩)) rfl w) ?_)
                refine q_cons (q_val rfl rfl rfl (by intro w hw; exact x_nilCheck (.pointer (some ⟨g, 0, none⟩)) rfl ⟨_, rfl⟩ w) ?_)
                refine q_cons (q_val rfl rfl rfl (by intro w hw; exact x_fieldAddr 86 4 5 5 2 rfl fi_86_4 rfl w) ?_)
                refine q_cons (q_val rfl rfl rfl (by intro w hw; exact x_load (.int .i64 ((i64N (drS (ackS s d.ack.v) s.came s.held).came).v)) ag_2 rfl (hw.blk_at (i := 0) rfl) rfl) ?_)
                by_cases hc270 : d.seq.v < (i64N (drS (ackS s d.ack.v) s.came s.held).came).v
                · skip
                  refine q_cons (q_val rfl rfl rfl (by intro w hw; exact x_lss true rfl rfl (dtrue hc270) w) ?_)
                  refine q_cons (q_val rfl rfl rfl (by intro w hw; exact x_move (.bool true) rfl w) ?_)
                  refine q_cons (q_pass rfl rfl rfl rfl rfl ?_)
                  refine q_cons (q_pass rfl rfl rfl rfl rfl ?_)
                  refine q_cons (q_pass rfl rfl rfl rfl rfl ?_)
                  refine q_cons (q_pass rfl rfl rfl rfl rfl ?_)
                  refine q_cons (q_pass rfl rfl rfl rfl rfl ?_)
                  refine q_cons (q_pass rfl rfl rfl rfl rfl ?_)
                  refine q_cons (q_pass rfl rfl rfl rfl rfl ?_)
                  refine q_cons (q_pass rfl rfl rfl rfl rfl ?_)
                  refine q_cons (q_passN rfl rfl rfl rfl ?_)
                  refine q_cons (q_passN rfl rfl rfl rfl ?_)
                  refine q_cons (q_passN rfl rfl rfl rfl ?_)
                  refine q_cons (q_passN rfl rfl rfl rfl ?_)
                  refine q_cons (q_passN rfl rfl rfl rfl ?_)
                  refine q_cons (q_passN rfl rfl rfl rfl ?_)
                  refine q_cons (q_passN rfl rfl rfl rfl ?_)
                  refine q_cons (q_passN rfl rfl rfl rfl ?_)
                  refine q_cons (q_passN rfl rfl rfl rfl ?_)
                  refine q_cons (q_passN rfl rfl rfl rfl ?_)
                  refine q_cons (q_passN rfl rfl rfl rfl ?_)
                  refine q_cons (q_pass rfl rfl rfl rfl rfl ?_)
                  refine q_cons (q_val rfl rfl rfl (by intro w hw; exact x_pick_t (.bool true) rfl rfl w) ?_)
                  refine q_nil ?_
                  intro w271 H272
                  have H273 := Row.shut2 (p := pp86) (n := E88.length) (c := cc87) (size := 2) (xs := E88.flatMap hlCell) H272 (i := 3) rfl hp263 h264 h265 h266 (by have hh : (cur262.toList.drop 0).take (E88.length * 2) = E88.flatMap hlCell := (by rw [(rfl : E88.length = E88.length)]; exact h267); have hk : E88.length = E88.length := (rfl : E88.length = E88.length); rw [hk] at hh; exact hh) (fun x_ hx_ => by obtain ⟨a_, _, ha_⟩ := List.mem_flatMap.1 hx_; exact one_hl a_ x_ ha_)
                  have H274 : St W w271 (blk g (.cells #[.int .i64 ((drS (ackS s d.ack.v) s.came s.held).frm.v), .int .i64 ((drS (ackS s d.ack.v) s.came s.held).to_.v), .int .i64 ((drS (ackS s d.ack.v) s.came s.held).slide : Int), .slice pp83 L85.length cc84, .int .i64 ((drS (ackS s d.ack.v) s.came s.held).acked : Int), .int .i64 ((i64N (drS (ackS s d.ack.v) s.came s.held).came).v), .slice pp86 E88.length cc87, .int .i64 ((drS (ackS s d.ack.v) s.came s.held).clock : Int), .bool ((drS (ackS s d.ack.v) s.came s.held).owes)] 86 (0, 0)) :: Row 101 3 (.slice pp83 L85.length cc84) L85.length (L85.flatMap bodCell) :: byA (L85.map BodD.by) :: Row 105 2 (.slice pp86 E88.length cc87) E88.length (E88.flatMap hlCell) :: byA (mby E88) :: blk bk7 (.cells #[.int .i64 d.frm.v, .int .i64 d.to_.v, .int .i64 d.kind.v, .int .i64 d.seq.v, .int .i64 d.ack.v, .slice pp1 d.body.length cc2] 41 (0, 0)) :: Im 1 (.slice pp1 d.body.length cc2) d.body.length (d.body.flatMap u8c) :: (F.set i emp)) := (((((((H273.move 6 rfl).move 6 rfl).move 6 rfl).move 6 rfl).move 6 rfl).move 6 rfl).move 6 rfl)
                  exact join102 (()) _ _ ⟨trivial, H274⟩ ⟨by first | rfl | exact vint (by omega), by first | rfl | exact vint (by omega), by first | rfl | exact vint (by omega), by first | rfl | exact vint (by omega), by first | rfl | exact vint (by omega), congrArg Value.bool (show true = decide (d.seq.v < (s.came : Int) ∨ ahas s.held d.seq = true) from (decide_eq_true (by first | exact .inl (by omega) | exact .inr (hH92.at (j := k) (by rw [mapB_len rfl]; omega) (by rw [mapB_at]; assumption)))).symm), trivial⟩
                · skip
                  refine q_cons (q_val rfl rfl rfl (by intro w hw; exact x_lss false rfl rfl (dfalse hc270) w) ?_)
                  refine q_cons (q_val rfl rfl rfl (by intro w hw; exact x_move (.bool false) rfl w) ?_)
                  refine q_cons (q_take rfl rfl ?_)
                  refine q_val rfl rfl rfl (by intro w hw; exact x_move (.int .i64 (k : Int)) rfl w) ?_
                  refine q_cons (q_take rfl rfl ?_)
                  refine q_val rfl rfl rfl (by intro w hw; exact x_move (.pointer (some ⟨g, 0, none⟩)) rfl w) ?_
                  refine q_cons (q_take rfl rfl ?_)
                  refine q_val rfl rfl rfl (by intro w hw; exact x_nilCheck (.pointer (some ⟨g, 0, none⟩)) rfl ⟨_, rfl⟩ w) ?_
                  refine q_cons (q_take rfl rfl ?_)
                  refine q_val rfl rfl rfl (by intro w hw; exact x_fieldAddr 86 5 6 6 84 rfl fi_86_5 rfl w) ?_
                  refine q_cons (q_take rfl rfl ?_)
                  refine q_val rfl rfl rfl (by intro w hw; exact x_load (.slice pp86 E88.length cc87) ag_84 rfl (hw.blk_at (i := 0) rfl) rfl) ?_
                  refine q_cons (q_take rfl rfl ?_)
                  refine q_val rfl rfl rfl (by intro w hw; exact x_len E88.length rfl ⟨_, un_84⟩ w) ?_
                  refine q_cons (q_take rfl rfl ?_)
                  refine q_val rfl rfl rfl (by intro w hw; exact x_lss true rfl rfl (dtrue hc260) w) ?_
                  refine q_cons (q_take rfl rfl ?_)
                  refine q_val rfl rfl rfl (by intro w hw; exact x_move (.bool true) rfl w) ?_
                  refine q_cons (q_take rfl rfl ?_)
                  refine q_val rfl rfl rfl (by intro w hw; exact x_move (.pointer (some ⟨g, 0, none⟩)) rfl w) ?_
                  refine q_cons (q_take rfl rfl ?_)
                  refine q_val rfl rfl rfl (by intro w hw; exact x_nilCheck (.pointer (some ⟨g, 0, none⟩)) rfl ⟨_, rfl⟩ w) ?_
                  refine q_cons (q_take rfl rfl ?_)
                  refine q_val rfl rfl rfl (by intro w hw; exact x_fieldAddr 86 5 6 6 84 rfl fi_86_5 rfl w) ?_
                  refine q_cons (q_take rfl rfl ?_)
                  refine q_val rfl rfl rfl (by intro w hw; exact x_load (.slice pp86 E88.length cc87) ag_84 rfl (hw.blk_at (i := 0) rfl) rfl) ?_
                  refine q_cons (q_take rfl rfl ?_)
                  refine q_val rfl rfl rfl (by intro w hw; exact x_move (.int .i64 (k : Int)) rfl w) ?_
                  refine q_cons (q_take rfl rfl ?_)
                  refine q_val rfl rfl rfl (by intro w hw; exact x_indexAddr bk261 (off := 0) (k : Int) 2 (0 + k * 2) (by exact congrArg (fun z_ => Value.slice z_ E88.length cc87) ((fun (_ : 0 < 1) => hp263) (by omega))) rfl el_84 (by omega) rfl w) ?_
                  refine q_cons (q_take rfl rfl ?_)
                  refine q_val rfl rfl rfl (by intro w hw; exact x_fieldAddr 105 0 0 (0 + k * 2) 2 rfl fi_105_0 rfl w) ?_
                  refine q_cons (q_take rfl rfl ?_)
                  refine q_val rfl rfl rfl (by intro w hw; exact x_load (.int .i64 ((E88.getD k default).1.v)) ag_2 rfl (hw.blk_at (i := 3) rfl) (elem_cell (L := E88) (i := k) hlCell_len (by rw [(rfl : E88.length = E88.length)]; exact h267) (by have hh : E88.length = E88.length := (rfl : E88.length = E88.length); omega) default 0 (by decide) _ rfl)) ?_
                  refine q_cons (q_take rfl rfl ?_)
                  refine q_val rfl rfl rfl (by intro w hw; exact x_fieldAddr 41 3 3 3 2 rfl fi_41_3 rfl w) ?_
                  refine q_cons (q_take rfl rfl ?_)
                  refine q_val rfl rfl rfl (by intro w hw; exact x_load (.int .i64 d.seq.v) ag_2 rfl (hw.blk_at (i := 5) rfl) rfl) ?_
                  refine q_cons (q_take rfl rfl ?_)
                  by_cases hc275 : (E88.getD k default).1.v = d.seq.v
                  · skip
                    refine q_val rfl rfl rfl (by intro w hw; exact x_eql true rfl rfl (dtrue hc275) w) ?_
                    refine q_cons (q_take rfl rfl ?_)
                    refine q_val rfl rfl rfl (by intro w hw; exact x_pick_t (.bool true) rfl rfl w) ?_
                    refine q_cons (q_val rfl rfl rfl (by intro w hw; exact x_pick_f (.bool true) rfl rfl w) ?_)
                    refine q_nil ?_
                    intro w276 H277
                    have H278 := Row.shut2 (p := pp86) (n := E88.length) (c := cc87) (size := 2) (xs := E88.flatMap hlCell) H277 (i := 3) rfl hp263 h264 h265 h266 (by have hh : (cur262.toList.drop 0).take (E88.length * 2) = E88.flatMap hlCell := (by rw [(rfl : E88.length = E88.length)]; exact h267); have hk : E88.length = E88.length := (rfl : E88.length = E88.length); rw [hk] at hh; exact hh) (fun x_ hx_ => by obtain ⟨a_, _, ha_⟩ := List.mem_flatMap.1 hx_; exact one_hl a_ x_ ha_)
                    have H279 : St W w276 (blk g (.cells #[.int .i64 ((drS (ackS s d.ack.v) s.came s.held).frm.v), .int .i64 ((drS (ackS s d.ack.v) s.came s.held).to_.v), .int .i64 ((drS (ackS s d.ack.v) s.came s.held).slide : Int), .slice pp83 L85.length cc84, .int .i64 ((drS (ackS s d.ack.v) s.came s.held).acked : Int), .int .i64 ((i64N (drS (ackS s d.ack.v) s.came s.held).came).v), .slice pp86 E88.length cc87, .int .i64 ((drS (ackS s d.ack.v) s.came s.held).clock : Int), .bool ((drS (ackS s d.ack.v) s.came s.held).owes)] 86 (0, 0)) :: Row 101 3 (.slice pp83 L85.length cc84) L85.length (L85.flatMap bodCell) :: byA (L85.map BodD.by) :: Row 105 2 (.slice pp86 E88.length cc87) E88.length (E88.flatMap hlCell) :: byA (mby E88) :: blk bk7 (.cells #[.int .i64 d.frm.v, .int .i64 d.to_.v, .int .i64 d.kind.v, .int .i64 d.seq.v, .int .i64 d.ack.v, .slice pp1 d.body.length cc2] 41 (0, 0)) :: Im 1 (.slice pp1 d.body.length cc2) d.body.length (d.body.flatMap u8c) :: (F.set i emp)) := (((((((H278.move 6 rfl).move 6 rfl).move 6 rfl).move 6 rfl).move 6 rfl).move 6 rfl).move 6 rfl)
                    exact join102 (()) _ _ ⟨trivial, H279⟩ ⟨by first | rfl | exact vint (by omega), by first | rfl | exact vint (by omega), by first | rfl | exact vint (by omega), by first | rfl | exact vint (by omega), by first | rfl | exact vint (by omega), congrArg Value.bool (show true = decide (d.seq.v < (s.came : Int) ∨ ahas s.held d.seq = true) from (decide_eq_true (by first | exact .inl (by omega) | exact .inr (hH92.at (j := k) (by rw [mapB_len rfl]; omega) (by rw [mapB_at]; assumption)))).symm), trivial⟩
                  · skip
                    refine q_val rfl rfl rfl (by intro w hw; exact x_eql false rfl rfl (dfalse hc275) w) ?_
                    refine q_cons (q_take rfl rfl ?_)
                    refine q_val rfl rfl rfl (by intro w hw; exact x_pick_t (.bool false) rfl rfl w) ?_
                    refine q_cons (q_val rfl rfl rfl (by intro w hw; exact x_pick_f (.bool false) rfl rfl w) ?_)
                    refine q_nil ?_
                    intro w280 H281
                    have H282 := Row.shut2 (p := pp86) (n := E88.length) (c := cc87) (size := 2) (xs := E88.flatMap hlCell) H281 (i := 3) rfl hp263 h264 h265 h266 (by have hh : (cur262.toList.drop 0).take (E88.length * 2) = E88.flatMap hlCell := (by rw [(rfl : E88.length = E88.length)]; exact h267); have hk : E88.length = E88.length := (rfl : E88.length = E88.length); rw [hk] at hh; exact hh) (fun x_ hx_ => by obtain ⟨a_, _, ha_⟩ := List.mem_flatMap.1 hx_; exact one_hl a_ x_ ha_)
                    have hno0 : ahas s.held d.seq = false := hH92.has (j := k) d.seq (by rw [mapB_len rfl]; exact hkn) hlt (fun hk => by rw [mapB_len rfl] at hk; rw [mapB_at]; show d.seq.v < (E88.getD k default).1.v; have h8 := hex hk; omega)
                    have H283 : St W w280 (blk g (.cells #[.int .i64 ((drS (ackS s d.ack.v) s.came s.held).frm.v), .int .i64 ((drS (ackS s d.ack.v) s.came s.held).to_.v), .int .i64 ((drS (ackS s d.ack.v) s.came s.held).slide : Int), .slice pp83 L85.length cc84, .int .i64 ((drS (ackS s d.ack.v) s.came s.held).acked : Int), .int .i64 ((i64N (drS (ackS s d.ack.v) s.came s.held).came).v), .slice pp86 E88.length cc87, .int .i64 ((drS (ackS s d.ack.v) s.came s.held).clock : Int), .bool ((drS (ackS s d.ack.v) s.came s.held).owes)] 86 (0, 0)) :: Row 101 3 (.slice pp83 L85.length cc84) L85.length (L85.flatMap bodCell) :: byA (L85.map BodD.by) :: Row 105 2 (.slice pp86 E88.length cc87) E88.length (E88.flatMap hlCell) :: byA (mby E88) :: blk bk7 (.cells #[.int .i64 d.frm.v, .int .i64 d.to_.v, .int .i64 d.kind.v, .int .i64 d.seq.v, .int .i64 d.ack.v, .slice pp1 d.body.length cc2] 41 (0, 0)) :: Im 1 (.slice pp1 d.body.length cc2) d.body.length (d.body.flatMap u8c) :: (F.set i emp)) := (((((((H282.move 6 rfl).move 6 rfl).move 6 rfl).move 6 rfl).move 6 rfl).move 6 rfl).move 6 rfl)
                    exact join102 (()) _ _ ⟨trivial, H283⟩ ⟨by first | rfl | exact vint (by omega), by first | rfl | exact vint (by omega), by first | rfl | exact vint (by omega), by first | rfl | exact vint (by omega), by first | rfl | exact vint (by omega), congrArg Value.bool (show false = decide (d.seq.v < (s.came : Int) ∨ ahas s.held d.seq = true) from (decide_eq_false (by rw [hno0]; simp only [Bool.false_eq_true, or_false]; omega)).symm), trivial⟩
              · skip
                refine g_quiet (fun w' => St W w' (blk g (.cells #[.int .i64 ((drS (ackS s d.ack.v) s.came s.held).frm.v), .int .i64 ((drS (ackS s d.ack.v) s.came s.held).to_.v), .int .i64 ((drS (ackS s d.ack.v) s.came s.held).slide : Int), .slice pp83 L85.length cc84, .int .i64 ((drS (ackS s d.ack.v) s.came s.held).acked : Int), .int .i64 ((i64N (drS (ackS s d.ack.v) s.came s.held).came).v), .slice pp86 E88.length cc87, .int .i64 ((drS (ackS s d.ack.v) s.came s.held).clock : Int), .bool ((drS (ackS s d.ack.v) s.came s.held).owes)] 86 (0, 0)) :: Row 101 3 (.slice pp83 L85.length cc84) L85.length (L85.flatMap bodCell) :: byA (L85.map BodD.by) :: Row 105 2 (.slice pp86 E88.length cc87) E88.length (E88.flatMap hlCell) :: byA (mby E88) :: blk bk7 (.cells #[.int .i64 d.frm.v, .int .i64 d.to_.v, .int .i64 d.kind.v, .int .i64 d.seq.v, .int .i64 d.ack.v, .slice pp1 d.body.length cc2] 41 (0, 0)) :: Im 1 (.slice pp1 d.body.length cc2) d.body.length (d.body.flatMap u8c) :: (F.set i emp))) mixed (by kernel_rfl) H100.drew ?_
                refine q_cons (q_val rfl rfl rfl (by intro w hw; exact x_fieldAddr 41 3 3 3 2 rfl fi_41_3 rfl w) ?_)
                refine q_cons (q_val rfl rfl rfl (by intro w hw; exact x_load (.int .i64 d.seq.v) ag_2 rfl (hw.blk_at (i := 5) rfl) rfl) ?_)
                refine q_cons (q_val rfl rfl rfl (by intro w hw; exact x_move (.pointer (some ⟨g, 0, none⟩)) rfl w) ?_)
                refine q_cons (q_val rfl rfl rfl (by intro w hw; exact x_nilCheck (.pointer (some ⟨g, 0, none⟩)) rfl ⟨_, rfl⟩ w) ?_)
                refine q_cons (q_val rfl rfl rfl (by intro w hw; exact x_fieldAddr 86 4 5 5 2 rfl fi_86_4 rfl w) ?_)
                refine q_cons (q_val rfl rfl rfl (by intro w hw; exact x_load (.int .i64 ((i64N (drS (ackS s d.ack.v) s.came s.held).came).v)) ag_2 rfl (hw.blk_at (i := 0) rfl) rfl) ?_)
                by_cases hc284 : d.seq.v < (i64N (drS (ackS s d.ack.v) s.came s.held).came).v
                · skip
                  refine q_cons (q_val rfl rfl rfl (by intro w hw; exact x_lss true rfl rfl (dtrue hc284) w) ?_)
                  refine q_cons (q_val rfl rfl rfl (by intro w hw; exact x_move (.bool true) rfl w) ?_)
                  refine q_cons (q_pass rfl rfl rfl rfl rfl ?_)
                  refine q_cons (q_pass rfl rfl rfl rfl rfl ?_)
                  refine q_cons (q_pass rfl rfl rfl rfl rfl ?_)
                  refine q_cons (q_pass rfl rfl rfl rfl rfl ?_)
                  refine q_cons (q_pass rfl rfl rfl rfl rfl ?_)
                  refine q_cons (q_pass rfl rfl rfl rfl rfl ?_)
                  refine q_cons (q_pass rfl rfl rfl rfl rfl ?_)
                  refine q_cons (q_pass rfl rfl rfl rfl rfl ?_)
                  refine q_cons (q_passN rfl rfl rfl rfl ?_)
                  refine q_cons (q_passN rfl rfl rfl rfl ?_)
                  refine q_cons (q_passN rfl rfl rfl rfl ?_)
                  refine q_cons (q_passN rfl rfl rfl rfl ?_)
                  refine q_cons (q_passN rfl rfl rfl rfl ?_)
                  refine q_cons (q_passN rfl rfl rfl rfl ?_)
                  refine q_cons (q_passN rfl rfl rfl rfl ?_)
                  refine q_cons (q_passN rfl rfl rfl rfl ?_)
                  refine q_cons (q_passN rfl rfl rfl rfl ?_)
                  refine q_cons (q_passN rfl rfl rfl rfl ?_)
                  refine q_cons (q_passN rfl rfl rfl rfl ?_)
                  refine q_cons (q_pass rfl rfl rfl rfl rfl ?_)
                  refine q_cons (q_val rfl rfl rfl (by intro w hw; exact x_pick_t (.bool true) rfl rfl w) ?_)
                  refine q_nil ?_
                  intro w285 H286
                  have H287 : St W w285 (blk g (.cells #[.int .i64 ((drS (ackS s d.ack.v) s.came s.held).frm.v), .int .i64 ((drS (ackS s d.ack.v) s.came s.held).to_.v), .int .i64 ((drS (ackS s d.ack.v) s.came s.held).slide : Int), .slice pp83 L85.length cc84, .int .i64 ((drS (ackS s d.ack.v) s.came s.held).acked : Int), .int .i64 ((i64N (drS (ackS s d.ack.v) s.came s.held).came).v), .slice pp86 E88.length cc87, .int .i64 ((drS (ackS s d.ack.v) s.came s.held).clock : Int), .bool ((drS (ackS s d.ack.v) s.came s.held).owes)] 86 (0, 0)) :: Row 101 3 (.slice pp83 L85.length cc84) L85.length (L85.flatMap bodCell) :: byA (L85.map BodD.by) :: Row 105 2 (.slice pp86 E88.length cc87) E88.length (E88.flatMap hlCell) :: byA (mby E88) :: blk bk7 (.cells #[.int .i64 d.frm.v, .int .i64 d.to_.v, .int .i64 d.kind.v, .int .i64 d.seq.v, .int .i64 d.ack.v, .slice pp1 d.body.length cc2] 41 (0, 0)) :: Im 1 (.slice pp1 d.body.length cc2) d.body.length (d.body.flatMap u8c) :: (F.set i emp)) := (((((((H286.move 6 rfl).move 6 rfl).move 6 rfl).move 6 rfl).move 6 rfl).move 6 rfl).move 6 rfl)
                  exact join102 (()) _ _ ⟨trivial, H287⟩ ⟨by first | rfl | exact vint (by omega), by first | rfl | exact vint (by omega), by first | rfl | exact vint (by omega), by first | rfl | exact vint (by omega), by first | rfl | exact vint (by omega), congrArg Value.bool (show true = decide (d.seq.v < (s.came : Int) ∨ ahas s.held d.seq = true) from (decide_eq_true (by first | exact .inl (by omega) | exact .inr (hH92.at (j := k) (by rw [mapB_len rfl]; omega) (by rw [mapB_at]; assumption)))).symm), trivial⟩
                · skip
                  refine q_cons (q_val rfl rfl rfl (by intro w hw; exact x_lss false rfl rfl (dfalse hc284) w) ?_)
                  refine q_cons (q_val rfl rfl rfl (by intro w hw; exact x_move (.bool false) rfl w) ?_)
                  refine q_cons (q_take rfl rfl ?_)
                  refine q_val rfl rfl rfl (by intro w hw; exact x_move (.int .i64 (k : Int)) rfl w) ?_
                  refine q_cons (q_take rfl rfl ?_)
                  refine q_val rfl rfl rfl (by intro w hw; exact x_move (.pointer (some ⟨g, 0, none⟩)) rfl w) ?_
                  refine q_cons (q_take rfl rfl ?_)
                  refine q_val rfl rfl rfl (by intro w hw; exact x_nilCheck (.pointer (some ⟨g, 0, none⟩)) rfl ⟨_, rfl⟩ w) ?_
                  refine q_cons (q_take rfl rfl ?_)
                  refine q_val rfl rfl rfl (by intro w hw; exact x_fieldAddr 86 5 6 6 84 rfl fi_86_5 rfl w) ?_
                  refine q_cons (q_take rfl rfl ?_)
                  refine q_val rfl rfl rfl (by intro w hw; exact x_load (.slice pp86 E88.length cc87) ag_84 rfl (hw.blk_at (i := 0) rfl) rfl) ?_
                  refine q_cons (q_take rfl rfl ?_)
                  refine q_val rfl rfl rfl (by intro w hw; exact x_len E88.length rfl ⟨_, un_84⟩ w) ?_
                  refine q_cons (q_take rfl rfl ?_)
                  refine q_val rfl rfl rfl (by intro w hw; exact x_lss false rfl rfl (dfalse hc260) w) ?_
                  refine q_cons (q_take rfl rfl ?_)
                  refine q_val rfl rfl rfl (by intro w hw; exact x_move (.bool false) rfl w) ?_
                  refine q_cons (q_pass rfl rfl rfl rfl rfl ?_)
                  refine q_cons (q_pass rfl rfl rfl rfl rfl ?_)
                  refine q_cons (q_pass rfl rfl rfl rfl rfl ?_)
                  refine q_cons (q_pass rfl rfl rfl rfl rfl ?_)
                  refine q_cons (q_pass rfl rfl rfl rfl rfl ?_)
                  refine q_cons (q_pass rfl rfl rfl rfl rfl ?_)
                  refine q_cons (q_pass rfl rfl rfl rfl rfl ?_)
                  refine q_cons (q_pass rfl rfl rfl rfl rfl ?_)
                  refine q_cons (q_pass rfl rfl rfl rfl rfl ?_)
                  refine q_cons (q_pass rfl rfl rfl rfl rfl ?_)
                  refine q_cons (q_pass rfl rfl rfl rfl rfl ?_)
                  refine q_cons (q_take rfl rfl ?_)
                  refine q_val rfl rfl rfl (by intro w hw; exact x_pick_f (.bool false) rfl rfl w) ?_
                  refine q_cons (q_val rfl rfl rfl (by intro w hw; exact x_pick_f (.bool false) rfl rfl w) ?_)
                  refine q_nil ?_
                  intro w288 H289
                  have hno0 : ahas s.held d.seq = false := hH92.has (j := k) d.seq (by rw [mapB_len rfl]; exact hkn) hlt (fun hk => by rw [mapB_len rfl] at hk; rw [mapB_at]; show d.seq.v < (E88.getD k default).1.v; have h8 := hex hk; omega)
                  have H290 : St W w288 (blk g (.cells #[.int .i64 ((drS (ackS s d.ack.v) s.came s.held).frm.v), .int .i64 ((drS (ackS s d.ack.v) s.came s.held).to_.v), .int .i64 ((drS (ackS s d.ack.v) s.came s.held).slide : Int), .slice pp83 L85.length cc84, .int .i64 ((drS (ackS s d.ack.v) s.came s.held).acked : Int), .int .i64 ((i64N (drS (ackS s d.ack.v) s.came s.held).came).v), .slice pp86 E88.length cc87, .int .i64 ((drS (ackS s d.ack.v) s.came s.held).clock : Int), .bool ((drS (ackS s d.ack.v) s.came s.held).owes)] 86 (0, 0)) :: Row 101 3 (.slice pp83 L85.length cc84) L85.length (L85.flatMap bodCell) :: byA (L85.map BodD.by) :: Row 105 2 (.slice pp86 E88.length cc87) E88.length (E88.flatMap hlCell) :: byA (mby E88) :: blk bk7 (.cells #[.int .i64 d.frm.v, .int .i64 d.to_.v, .int .i64 d.kind.v, .int .i64 d.seq.v, .int .i64 d.ack.v, .slice pp1 d.body.length cc2] 41 (0, 0)) :: Im 1 (.slice pp1 d.body.length cc2) d.body.length (d.body.flatMap u8c) :: (F.set i emp)) := (((((((H289.move 6 rfl).move 6 rfl).move 6 rfl).move 6 rfl).move 6 rfl).move 6 rfl).move 6 rfl)
                  exact join102 (()) _ _ ⟨trivial, H290⟩ ⟨by first | rfl | exact vint (by omega), by first | rfl | exact vint (by omega), by first | rfl | exact vint (by omega), by first | rfl | exact vint (by omega), by first | rfl | exact vint (by omega), congrArg Value.bool (show false = decide (d.seq.v < (s.came : Int) ∨ ahas s.held d.seq = true) from (decide_eq_false (by rw [hno0]; simp only [Bool.false_eq_true, or_false]; omega)).symm), trivial⟩
          · intro join98
            refine g_block ?_
            refine g_loop_inv (fun (x_ : Nat) => match x_ with | k => [(0, .pointer (some ⟨g, 0, none⟩)), (3, .pointer (some ⟨bk7, 0, none⟩)), (4, .slice none 0 0), (5, .int .i64 0), (7, .int .i64 (k : Int))]) (fun (x_ : Nat) w => match x_ with | k => (k ≤ E88.length) ∧ (∀ i, i < k → ((mapB E88).getD i default).1.v < d.seq.v) ∧ St W w (blk g (.cells #[.int .i64 ((drS (ackS s d.ack.v) s.came s.held).frm.v), .int .i64 ((drS (ackS s d.ack.v) s.came s.held).to_.v), .int .i64 ((drS (ackS s d.ack.v) s.came s.held).slide : Int), .slice pp83 L85.length cc84, .int .i64 ((drS (ackS s d.ack.v) s.came s.held).acked : Int), .int .i64 ((i64N (drS (ackS s d.ack.v) s.came s.held).came).v), .slice pp86 E88.length cc87, .int .i64 ((drS (ackS s d.ack.v) s.came s.held).clock : Int), .bool ((drS (ackS s d.ack.v) s.came s.held).owes)] 86 (0, 0)) :: Row 101 3 (.slice pp83 L85.length cc84) L85.length (L85.flatMap bodCell) :: byA (L85.map BodD.by) :: Row 105 2 (.slice pp86 E88.length cc87) E88.length (E88.flatMap hlCell) :: byA (mby E88) :: blk bk7 (.cells #[.int .i64 d.frm.v, .int .i64 d.to_.v, .int .i64 d.kind.v, .int .i64 d.seq.v, .int .i64 d.ack.v, .slice pp1 d.body.length cc2] 41 (0, 0)) :: Im 1 (.slice pp1 d.body.length cc2) d.body.length (d.body.flatMap u8c) :: (F.set i emp))) (fun (x_ : Nat) => match x_ with | k => E88.length - k) (0) ?_ ?_ ?_
            · exact ⟨by first | rfl | exact vint (by omega), by first | rfl | exact vint (by omega), by first | rfl | exact vint (by omega), by first | rfl | exact vint (by omega), by first | rfl | exact vint (by omega), trivial⟩
            · exact ⟨(by omega), (fun i hi => absurd hi (by omega)), H97⟩
            · rintro k ρ291 w292 ⟨hkn, hlt, H293⟩ nx294
              change Ends _ _ (upds ρ291 [(0, .pointer (some ⟨g, 0, none⟩)), (3, .pointer (some ⟨bk7, 0, none⟩)), (4, .slice none 0 0), (5, .int .i64 0), (7, .int .i64 (k : Int))]) w292
              refine g_seq ?_
              refine g_seq ?_
              by_cases hc295 : (k : Int) < (E88.length : Int)
              · skip
                obtain ⟨bk296, cur297, hp298, h299, h300, h301, h302, h303, H304⟩ := Row.open2 H293 (i := 3) rfl (by omega)
                refine g_quiet (fun w' => St W w' (blk g (.cells #[.int .i64 ((drS (ackS s d.ack.v) s.came s.held).frm.v), .int .i64 ((drS (ackS s d.ack.v) s.came s.held).to_.v), .int .i64 ((drS (ackS s d.ack.v) s.came s.held).slide : Int), .slice pp83 L85.length cc84, .int .i64 ((drS (ackS s d.ack.v) s.came s.held).acked : Int), .int .i64 ((i64N (drS (ackS s d.ack.v) s.came s.held).came).v), .slice pp86 E88.length cc87, .int .i64 ((drS (ackS s d.ack.v) s.came s.held).clock : Int), .bool ((drS (ackS s d.ack.v) s.came s.held).owes)] 86 (0, 0)) :: Row 101 3 (.slice pp83 L85.length cc84) L85.length (L85.flatMap bodCell) :: byA (L85.map BodD.by) :: blk bk296 (.cells cur297 105 (0, 0)) :: byA (mby E88) :: blk bk7 (.cells #[.int .i64 d.frm.v, .int .i64 d.to_.v, .int .i64 d.kind.v, .int .i64 d.seq.v, .int .i64 d.ack.v, .slice pp1 d.body.length cc2] 41 (0, 0)) :: Im 1 (.slice pp1 d.body.length cc2) d.body.length (d.body.flatMap u8c) :: (F.set i emp))) mixed (by kernel_rfl) H304.drew ?_
                refine q_cons (q_val rfl rfl rfl (by intro w hw; exact x_move (.int .i64 (k : Int)) rfl w) ?_)
                refine q_cons (q_val rfl rfl rfl (by intro w hw; exact x_move (.pointer (some ⟨g, 0, none⟩)) rfl w) ?_)
                refine q_cons (q_val rfl rfl rfl (by intro w hw; exact x_nilCheck (.pointer (some ⟨g, 0, none⟩)) rfl ⟨_, rfl⟩ w) ?_)
                refine q_cons (q_val rfl rfl rfl (by intro w hw; exact x_fieldAddr 86 5 6 6 84 rfl fi_86_5 rfl w) ?_)
                refine q_cons (q_val rfl rfl rfl (by intro w hw; exact x_load (.slice pp86 E88.length cc87) ag_84 rfl (hw.blk_at (i := 0) rfl) rfl) ?_)
                refine q_cons (q_val rfl rfl rfl (by intro w hw; exact x_len E88.length rfl ⟨_, un_84⟩ w) ?_)
                refine q_cons (q_val rfl rfl rfl (by intro w hw; exact x_lss true rfl rfl (dtrue hc295) w) ?_)
                refine q_cons (q_val rfl rfl rfl (by intro w hw; exact x_move (.bool true) rfl w) ?_)
                refine q_cons (q_take rfl rfl ?_)
                refine q_val rfl rfl rfl (by intro w hw; exact x_move (.pointer (some ⟨g, 0, none⟩)) rfl w) ?_
                refine q_cons (q_take rfl rfl ?_)
                refine q_val rfl rfl rfl (by intro w hw; exact x_nilCheck (.pointer (some ⟨g, 0, none⟩)) rfl ⟨_, rfl⟩ w) ?_
                refine q_cons (q_take rfl rfl ?_)
                refine q_val rfl rfl rfl (by intro w hw; exact x_fieldAddr 86 5 6 6 84 rfl fi_86_5 rfl w) ?_
                refine q_cons (q_take rfl rfl ?_)
                refine q_val rfl rfl rfl (by intro w hw; exact x_load (.slice pp86 E88.length cc87) ag_84 rfl (hw.blk_at (i := 0) rfl) rfl) ?_
                refine q_cons (q_take rfl rfl ?_)
                refine q_val rfl rfl rfl (by intro w hw; exact x_move (.int .i64 (k : Int)) rfl w) ?_
                refine q_cons (q_take rfl rfl ?_)
                refine q_val rfl rfl rfl (by intro w hw; exact x_indexAddr bk296 (off := 0) (k : Int) 2 (0 + k * 2) (by exact congrArg (fun z_ => Value.slice z_ E88.length cc87) ((fun (_ : 0 < 1) => hp298) (by omega))) rfl el_84 (by omega) rfl w) ?_
                refine q_cons (q_take rfl rfl ?_)
                refine q_val rfl rfl rfl (by intro w hw; exact x_fieldAddr 105 0 0 (0 + k * 2) 2 rfl fi_105_0 rfl w) ?_
                refine q_cons (q_take rfl rfl ?_)
                refine q_val rfl rfl rfl (by intro w hw; exact x_load (.int .i64 ((E88.getD k default).1.v)) ag_2 rfl (hw.blk_at (i := 3) rfl) (elem_cell (L := E88) (i := k) hlCell_len (by rw [(rfl : E88.length = E88.length)]; exact h302) (by have hh : E88.length = E88.length := (rfl : E88.length = E88.length); omega) default 0 (by decide) _ rfl)) ?_
                refine q_cons (q_take rfl rfl ?_)
                refine q_val rfl rfl rfl (by intro w hw; exact x_fieldAddr 41 3 3 3 2 rfl fi_41_3 rfl w) ?_
                refine q_cons (q_take rfl rfl ?_)
                refine q_val rfl rfl rfl (by intro w hw; exact x_load (.int .i64 d.seq.v) ag_2 rfl (hw.blk_at (i := 5) rfl) rfl) ?_
                refine q_cons (q_take rfl rfl ?_)
                by_cases hc305 : (E88.getD k default).1.v < d.seq.v
                · skip
                  refine q_val rfl rfl rfl (by intro w hw; exact x_lss true rfl rfl (dtrue hc305) w) ?_
                  refine q_cons (q_val rfl rfl rfl (by intro w hw; exact x_pick_t (.bool true) rfl rfl w) ?_)
                  refine q_nil ?_
                  intro w306 H307
                  refine g_true rfl ?_
                  refine g_skip ?_
                  refine g_block ?_
                  refine g_region ?_
                  refine r_cons (s_move (.int .i64 (k : Int)) rfl rfl ?_)
                  refine r_cons (s_add ((k : Int) + 1) rfl rfl (wi64 (by omega)) rfl ?_)
                  refine r_cons (s_assign (.int .i64 ((k : Int) + 1)) rfl rfl ?_)
                  refine r_nil ?_
                  refine g_inBlock ?_
                  have H308 := Row.shut2 (p := pp86) (n := E88.length) (c := cc87) (size := 2) (xs := E88.flatMap hlCell) H307 (i := 3) rfl hp298 h299 h300 h301 (by have hh : (cur297.toList.drop 0).take (E88.length * 2) = E88.flatMap hlCell := (by rw [(rfl : E88.length = E88.length)]; exact h302); have hk : E88.length = E88.length := (rfl : E88.length = E88.length); rw [hk] at hh; exact hh) (fun x_ hx_ => by obtain ⟨a_, _, ha_⟩ := List.mem_flatMap.1 hx_; exact one_hl a_ x_ ha_)
                  have H309 : St W w306 (blk g (.cells #[.int .i64 ((drS (ackS s d.ack.v) s.came s.held).frm.v), .int .i64 ((drS (ackS s d.ack.v) s.came s.held).to_.v), .int .i64 ((drS (ackS s d.ack.v) s.came s.held).slide : Int), .slice pp83 L85.length cc84, .int .i64 ((drS (ackS s d.ack.v) s.came s.held).acked : Int), .int .i64 ((i64N (drS (ackS s d.ack.v) s.came s.held).came).v), .slice pp86 E88.length cc87, .int .i64 ((drS (ackS s d.ack.v) s.came s.held).clock : Int), .bool ((drS (ackS s d.ack.v) s.came s.held).owes)] 86 (0, 0)) :: Row 101 3 (.slice pp83 L85.length cc84) L85.length (L85.flatMap bodCell) :: byA (L85.map BodD.by) :: Row 105 2 (.slice pp86 E88.length cc87) E88.length (E88.flatMap hlCell) :: byA (mby E88) :: blk bk7 (.cells #[.int .i64 d.frm.v, .int .i64 d.to_.v, .int .i64 d.kind.v, .int .i64 d.seq.v, .int .i64 d.ack.v, .slice pp1 d.body.length cc2] 41 (0, 0)) :: Im 1 (.slice pp1 d.body.length cc2) d.body.length (d.body.flatMap u8c) :: (F.set i emp)) := (((((((H308.move 6 rfl).move 6 rfl).move 6 rfl).move 6 rfl).move 6 rfl).move 6 rfl).move 6 rfl)
                  exact nx294 (k + 1) _ _ ⟨(by omega), (fun i hi => (Nat.lt_succ_iff_lt_or_eq.1 hi).elim (hlt i) (fun e => by rw [e, mapB_at]; assumption)), H309⟩ (by first | (dsimp only; omega) | omega) ⟨by first | rfl | exact vint (by omega), by first | rfl | exact vint (by omega), by first | rfl | exact vint (by omega), by first | rfl | exact vint (by omega), by first | rfl | exact vint (by omega), trivial⟩
                · skip
                  refine q_val rfl rfl rfl (by intro w hw; exact x_lss false rfl rfl (dfalse hc305) w) ?_
                  refine q_cons (q_val rfl rfl rfl (by intro w hw; exact x_pick_t (.bool false) rfl rfl w) ?_)
                  refine q_nil ?_
                  intro w310 H311
                  refine g_false rfl ?_
                  refine g_exit (by rfl) ?_
                  have H312 := Row.shut2 (p := pp86) (n := E88.length) (c := cc87) (size := 2) (xs := E88.flatMap hlCell) H311 (i := 3) rfl hp298 h299 h300 h301 (by have hh : (cur297.toList.drop 0).take (E88.length * 2) = E88.flatMap hlCell := (by rw [(rfl : E88.length = E88.length)]; exact h302); have hk : E88.length = E88.length := (rfl : E88.length = E88.length); rw [hk] at hh; exact hh) (fun x_ hx_ => by obtain ⟨a_, _, ha_⟩ := List.mem_flatMap.1 hx_; exact one_hl a_ x_ ha_)
                  have H313 : St W w310 (blk g (.cells #[.int .i64 ((drS (ackS s d.ack.v) s.came s.held).frm.v), .int .i64 ((drS (ackS s d.ack.v) s.came s.held).to_.v), .int .i64 ((drS (ackS s d.ack.v) s.came s.held).slide : Int), .slice pp83 L85.length cc84, .int .i64 ((drS (ackS s d.ack.v) s.came s.held).acked : Int), .int .i64 ((i64N (drS (ackS s d.ack.v) s.came s.held).came).v), .slice pp86 E88.length cc87, .int .i64 ((drS (ackS s d.ack.v) s.came s.held).clock : Int), .bool ((drS (ackS s d.ack.v) s.came s.held).owes)] 86 (0, 0)) :: Row 101 3 (.slice pp83 L85.length cc84) L85.length (L85.flatMap bodCell) :: byA (L85.map BodD.by) :: Row 105 2 (.slice pp86 E88.length cc87) E88.length (E88.flatMap hlCell) :: byA (mby E88) :: blk bk7 (.cells #[.int .i64 d.frm.v, .int .i64 d.to_.v, .int .i64 d.kind.v, .int .i64 d.seq.v, .int .i64 d.ack.v, .slice pp1 d.body.length cc2] 41 (0, 0)) :: Im 1 (.slice pp1 d.body.length cc2) d.body.length (d.body.flatMap u8c) :: (F.set i emp)) := (((((((H312.move 6 rfl).move 6 rfl).move 6 rfl).move 6 rfl).move 6 rfl).move 6 rfl).move 6 rfl)
                  exact join98 (k) _ _ ⟨hkn, hlt, (fun hk => by omega), H313⟩ ⟨by first | rfl | exact vint (by omega), by first | rfl | exact vint (by omega), by first | rfl | exact vint (by omega), by first | rfl | exact vint (by omega), by first | rfl | exact vint (by omega), trivial⟩
              · skip
                refine g_quiet (fun w' => St W w' (blk g (.cells #[.int .i64 ((drS (ackS s d.ack.v) s.came s.held).frm.v), .int .i64 ((drS (ackS s d.ack.v) s.came s.held).to_.v), .int .i64 ((drS (ackS s d.ack.v) s.came s.held).slide : Int), .slice pp83 L85.length cc84, .int .i64 ((drS (ackS s d.ack.v) s.came s.held).acked : Int), .int .i64 ((i64N (drS (ackS s d.ack.v) s.came s.held).came).v), .slice pp86 E88.length cc87, .int .i64 ((drS (ackS s d.ack.v) s.came s.held).clock : Int), .bool ((drS (ackS s d.ack.v) s.came s.held).owes)] 86 (0, 0)) :: Row 101 3 (.slice pp83 L85.length cc84) L85.length (L85.flatMap bodCell) :: byA (L85.map BodD.by) :: Row 105 2 (.slice pp86 E88.length cc87) E88.length (E88.flatMap hlCell) :: byA (mby E88) :: blk bk7 (.cells #[.int .i64 d.frm.v, .int .i64 d.to_.v, .int .i64 d.kind.v, .int .i64 d.seq.v, .int .i64 d.ack.v, .slice pp1 d.body.length cc2] 41 (0, 0)) :: Im 1 (.slice pp1 d.body.length cc2) d.body.length (d.body.flatMap u8c) :: (F.set i emp))) mixed (by kernel_rfl) H293.drew ?_
                refine q_cons (q_val rfl rfl rfl (by intro w hw; exact x_move (.int .i64 (k : Int)) rfl w) ?_)
                refine q_cons (q_val rfl rfl rfl (by intro w hw; exact x_move (.pointer (some ⟨g, 0, none⟩)) rfl w) ?_)
                refine q_cons (q_val rfl rfl rfl (by intro w hw; exact x_nilCheck (.pointer (some ⟨g, 0, none⟩)) rfl ⟨_, rfl⟩ w) ?_)
                refine q_cons (q_val rfl rfl rfl (by intro w hw; exact x_fieldAddr 86 5 6 6 84 rfl fi_86_5 rfl w) ?_)
                refine q_cons (q_val rfl rfl rfl (by intro w hw; exact x_load (.slice pp86 E88.length cc87) ag_84 rfl (hw.blk_at (i := 0) rfl) rfl) ?_)
                refine q_cons (q_val rfl rfl rfl (by intro w hw; exact x_len E88.length rfl ⟨_, un_84⟩ w) ?_)
                refine q_cons (q_val rfl rfl rfl (by intro w hw; exact x_lss false rfl rfl (dfalse hc295) w) ?_)
                refine q_cons (q_val rfl rfl rfl (by intro w hw; exact x_move (.bool false) rfl w) ?_)
                refine q_cons (q_pass rfl rfl rfl rfl rfl ?_)
                refine q_cons (q_pass rfl rfl rfl rfl rfl ?_)
                refine q_cons (q_pass rfl rfl rfl rfl rfl ?_)
                refine q_cons (q_pass rfl rfl rfl rfl rfl ?_)
                refine q_cons (q_pass rfl rfl rfl rfl rfl ?_)
                refine q_cons (q_pass rfl rfl rfl rfl rfl ?_)
                refine q_cons (q_pass rfl rfl rfl rfl rfl ?_)
                refine q_cons (q_pass rfl rfl rfl rfl rfl ?_)
                refine q_cons (q_pass rfl rfl rfl rfl rfl ?_)
                refine q_cons (q_pass rfl rfl rfl rfl rfl ?_)
                refine q_cons (q_pass rfl rfl rfl rfl rfl ?_)
                refine q_cons (q_val rfl rfl rfl (by intro w hw; exact x_pick_f (.bool false) rfl rfl w) ?_)
                refine q_nil ?_
                intro w314 H315
                refine g_false rfl ?_
                refine g_exit (by rfl) ?_
                have H316 : St W w314 (blk g (.cells #[.int .i64 ((drS (ackS s d.ack.v) s.came s.held).frm.v), .int .i64 ((drS (ackS s d.ack.v) s.came s.held).to_.v), .int .i64 ((drS (ackS s d.ack.v) s.came s.held).slide : Int), .slice pp83 L85.length cc84, .int .i64 ((drS (ackS s d.ack.v) s.came s.held).acked : Int), .int .i64 ((i64N (drS (ackS s d.ack.v) s.came s.held).came).v), .slice pp86 E88.length cc87, .int .i64 ((drS (ackS s d.ack.v) s.came s.held).clock : Int), .bool ((drS (ackS s d.ack.v) s.came s.held).owes)] 86 (0, 0)) :: Row 101 3 (.slice pp83 L85.length cc84) L85.length (L85.flatMap bodCell) :: byA (L85.map BodD.by) :: Row 105 2 (.slice pp86 E88.length cc87) E88.length (E88.flatMap hlCell) :: byA (mby E88) :: blk bk7 (.cells #[.int .i64 d.frm.v, .int .i64 d.to_.v, .int .i64 d.kind.v, .int .i64 d.seq.v, .int .i64 d.ack.v, .slice pp1 d.body.length cc2] 41 (0, 0)) :: Im 1 (.slice pp1 d.body.length cc2) d.body.length (d.body.flatMap u8c) :: (F.set i emp)) := (((((((H315.move 6 rfl).move 6 rfl).move 6 rfl).move 6 rfl).move 6 rfl).move 6 rfl).move 6 rfl)
                exact join98 (k) _ _ ⟨hkn, hlt, (fun hk => by omega), H316⟩ ⟨by first | rfl | exact vint (by omega), by first | rfl | exact vint (by omega), by first | rfl | exact vint (by omega), by first | rfl | exact vint (by omega), by first | rfl | exact vint (by omega), trivial⟩
    · intro join29
      refine g_quiet (fun w' => St W w' (blk g (.cells #[.int .i64 s.frm.v, .int .i64 s.to_.v, .int .i64 (s.slide : Int), .slice pp14 L16.length cc15, .int .i64 (s.acked : Int), .int .i64 ((i64N s.came).v), .slice pp17 E19.length cc18, .int .i64 (s.clock : Int), .bool s.owes] 86 (0, 0)) :: Row 101 3 (.slice pp14 L16.length cc15) L16.length (L16.flatMap bodCell) :: byA (L16.map BodD.by) :: Row 105 2 (.slice pp17 E19.length cc18) E19.length (E19.flatMap hlCell) :: byA (mby E19) :: blk bk7 (.cells #[.int .i64 d.frm.v, .int .i64 d.to_.v, .int .i64 d.kind.v, .int .i64 d.seq.v, .int .i64 d.ack.v, .slice pp1 d.body.length cc2] 41 (0, 0)) :: Im 1 (.slice pp1 d.body.length cc2) d.body.length (d.body.flatMap u8c) :: (F.set i emp))) mixed (by kernel_rfl) H28.drew ?_
      refine q_cons (q_val rfl rfl rfl (by intro w hw; exact x_fieldAddr 41 0 0 0 3 rfl fi_41_0 rfl w) ?_)
      refine q_cons (q_val rfl rfl rfl (by intro w hw; exact x_load (.int .i64 d.frm.v) ag_3 rfl (hw.blk_at (i := 5) rfl) rfl) ?_)
      refine q_cons (q_val rfl rfl rfl (by intro w hw; exact x_move (.pointer (some ⟨g, 0, none⟩)) rfl w) ?_)
      refine q_cons (q_val rfl rfl rfl (by intro w hw; exact x_nilCheck (.pointer (some ⟨g, 0, none⟩)) rfl ⟨_, rfl⟩ w) ?_)
      refine q_cons (q_val rfl rfl rfl (by intro w hw; exact x_fieldAddr 86 0 0 0 46 rfl fi_86_0 rfl w) ?_)
      refine q_cons (q_val rfl rfl rfl (by intro w hw; exact x_fieldAddr 46 1 1 1 3 rfl fi_46_1 rfl w) ?_)
      refine q_cons (q_val rfl rfl rfl (by intro w hw; exact x_load (.int .i64 s.to_.v) ag_3 rfl (hw.blk_at (i := 0) rfl) rfl) ?_)
      by_cases hc317 : d.frm.v = s.to_.v
      · skip
        refine q_cons (q_val rfl rfl rfl (by intro w hw; exact x_neq false rfl rfl (ntrue hc317) w) ?_)
        refine q_cons (q_val rfl rfl rfl (by intro w hw; exact x_move (.bool false) rfl w) ?_)
        refine q_cons (q_take rfl rfl ?_)
        refine q_val rfl rfl rfl (by intro w hw; exact x_fieldAddr 41 1 1 1 3 rfl fi_41_1 rfl w) ?_
        refine q_cons (q_take rfl rfl ?_)
        refine q_val rfl rfl rfl (by intro w hw; exact x_load (.int .i64 d.to_.v) ag_3 rfl (hw.blk_at (i := 5) rfl) rfl) ?_
        refine q_cons (q_take rfl rfl ?_)
        refine q_val rfl rfl rfl (by intro w hw; exact x_move (.pointer (some ⟨g, 0, none⟩)) rfl w) ?_
        refine q_cons (q_take rfl rfl ?_)
        refine q_val rfl rfl rfl (by intro w hw; exact x_nilCheck (.pointer (some ⟨g, 0, none⟩)) rfl ⟨_, rfl⟩ w) ?_
        refine q_cons (q_take rfl rfl ?_)
        refine q_val rfl rfl rfl (by intro w hw; exact x_fieldAddr 86 0 0 0 46 rfl fi_86_0 rfl w) ?_
        refine q_cons (q_take rfl rfl ?_)
        refine q_val rfl rfl rfl (by intro w hw; exact x_fieldAddr 46 0 0 0 3 rfl fi_46_0 rfl w) ?_
        refine q_cons (q_take rfl rfl ?_)
        refine q_val rfl rfl rfl (by intro w hw; exact x_load (.int .i64 s.frm.v) ag_3 rfl (hw.blk_at (i := 0) rfl) rfl) ?_
        refine q_cons (q_take rfl rfl ?_)
        by_cases hc318 : d.to_.v = s.frm.v
        · skip
          refine q_val rfl rfl rfl (by intro w hw; exact x_neq false rfl rfl (ntrue hc318) w) ?_
          refine q_cons (q_val rfl rfl rfl (by intro w hw; exact x_pick_f (.bool false) rfl rfl w) ?_)
          refine q_cons (q_val rfl rfl rfl (by intro w hw; exact x_move (.bool false) rfl w) ?_)
          refine q_cons (q_take rfl rfl ?_)
          refine q_val rfl rfl rfl (by intro w hw; exact x_fieldAddr 41 4 4 4 2 rfl fi_41_4 rfl w) ?_
          refine q_cons (q_take rfl rfl ?_)
          refine q_val rfl rfl rfl (by intro w hw; exact x_load (.int .i64 d.ack.v) ag_2 rfl (hw.blk_at (i := 5) rfl) rfl) ?_
          refine q_cons (q_take rfl rfl ?_)
          refine q_val rfl rfl rfl (by intro w hw; exact x_move (.pointer (some ⟨g, 0, none⟩)) rfl w) ?_
          refine q_cons (q_take rfl rfl ?_)
          refine q_enter (args := #[.pointer (some ⟨g, 0, none⟩)]) (v := .int .i64 ((s.acked + under s : Nat) : Int)) rfl rfl rfl (x_call pl_58 [.pointer (some ⟨g, 0, none⟩)] rfl) (fun w hw => Ro_sent g s pp14 cc15 L16 pp17 E19.length cc18 A20 hL21 hA22 hv.ok.2.2.1 (i := 0) (j := 1) rfl rfl hw) ?_
          refine q_cons (q_take rfl rfl ?_)
          by_cases hc319 : ((s.acked + under s : Nat) : Int) < d.ack.v
          · skip
            refine q_val rfl rfl rfl (by intro w hw; exact x_gtr true rfl rfl (dtrue hc319) w) ?_
            refine q_cons (q_val rfl rfl rfl (by intro w hw; exact x_pick_f (.bool true) rfl rfl w) ?_)
            refine q_cons (q_val rfl rfl rfl (by intro w hw; exact x_move (.bool true) rfl w) ?_)
            refine q_cons (q_pass rfl rfl rfl rfl rfl ?_)
            refine q_cons (q_pass rfl rfl rfl rfl rfl ?_)
            refine q_cons (q_pass rfl rfl rfl rfl rfl ?_)
            refine q_cons (q_pass rfl rfl rfl rfl rfl ?_)
            refine q_cons (q_passN rfl rfl rfl rfl ?_)
            refine q_cons (q_passN rfl rfl rfl rfl ?_)
            refine q_cons (q_passN rfl rfl rfl rfl ?_)
            refine q_cons (q_passN rfl rfl rfl rfl ?_)
            refine q_cons (q_passN rfl rfl rfl rfl ?_)
            refine q_cons (q_passN rfl rfl rfl rfl ?_)
            refine q_cons (q_passN rfl rfl rfl rfl ?_)
            refine q_cons (q_passN rfl rfl rfl rfl ?_)
            refine q_cons (q_pass rfl rfl rfl rfl rfl ?_)
            refine q_cons (q_val rfl rfl rfl (by intro w hw; exact x_pick_t (.bool true) rfl rfl w) ?_)
            refine q_nil ?_
            intro w320 H321
            have H322 : St W w320 (blk g (.cells #[.int .i64 s.frm.v, .int .i64 s.to_.v, .int .i64 (s.slide : Int), .slice pp14 L16.length cc15, .int .i64 (s.acked : Int), .int .i64 ((i64N s.came).v), .slice pp17 E19.length cc18, .int .i64 (s.clock : Int), .bool s.owes] 86 (0, 0)) :: Row 101 3 (.slice pp14 L16.length cc15) L16.length (L16.flatMap bodCell) :: byA (L16.map BodD.by) :: Row 105 2 (.slice pp17 E19.length cc18) E19.length (E19.flatMap hlCell) :: byA (mby E19) :: blk bk7 (.cells #[.int .i64 d.frm.v, .int .i64 d.to_.v, .int .i64 d.kind.v, .int .i64 d.seq.v, .int .i64 d.ack.v, .slice pp1 d.body.length cc2] 41 (0, 0)) :: Im 1 (.slice pp1 d.body.length cc2) d.body.length (d.body.flatMap u8c) :: (F.set i emp)) := (((((((H321.move 6 rfl).move 6 rfl).move 6 rfl).move 6 rfl).move 6 rfl).move 6 rfl).move 6 rfl)
            exact join29 (()) _ _ ⟨trivial, H322⟩ ⟨by first | rfl | exact vint (by omega), by first | rfl | exact vint (by omega), by first | rfl | exact vint (by omega), by first | rfl | exact vint (by omega), congrArg Value.bool (show true = stray s d from (decide_eq_true (by omega)).symm), trivial⟩
          · skip
            refine q_val rfl rfl rfl (by intro w hw; exact x_gtr false rfl rfl (dfalse hc319) w) ?_
            refine q_cons (q_val rfl rfl rfl (by intro w hw; exact x_pick_f (.bool false) rfl rfl w) ?_)
            refine q_cons (q_val rfl rfl rfl (by intro w hw; exact x_move (.bool false) rfl w) ?_)
            refine q_cons (q_take rfl rfl ?_)
            refine q_val rfl rfl rfl (by intro w hw; exact x_fieldAddr 41 2 2 2 3 rfl fi_41_2 rfl w) ?_
            refine q_cons (q_take rfl rfl ?_)
            refine q_val rfl rfl rfl (by intro w hw; exact x_load (.int .i64 d.kind.v) ag_3 rfl (hw.blk_at (i := 5) rfl) rfl) ?_
            refine q_cons (q_take rfl rfl ?_)
            by_cases hc323 : d.kind.v = 1
            · skip
              refine q_val rfl rfl rfl (by intro w hw; exact x_eql true rfl rfl (dtrue hc323) w) ?_
              refine q_cons (q_take rfl rfl ?_)
              refine q_val rfl rfl rfl (by intro w hw; exact x_move (.bool true) rfl w) ?_
              refine q_cons (q_take rfl rfl ?_)
              refine q_val rfl rfl rfl (by intro w hw; exact x_fieldAddr 41 3 3 3 2 rfl fi_41_3 rfl w) ?_
              refine q_cons (q_take rfl rfl ?_)
              refine q_val rfl rfl rfl (by intro w hw; exact x_load (.int .i64 d.seq.v) ag_2 rfl (hw.blk_at (i := 5) rfl) rfl) ?_
              refine q_cons (q_take rfl rfl ?_)
              refine q_val rfl rfl rfl (by intro w hw; exact x_move (.pointer (some ⟨g, 0, none⟩)) rfl w) ?_
              refine q_cons (q_take rfl rfl ?_)
              refine q_val rfl rfl rfl (by intro w hw; exact x_nilCheck (.pointer (some ⟨g, 0, none⟩)) rfl ⟨_, rfl⟩ w) ?_
              refine q_cons (q_take rfl rfl ?_)
              refine q_val rfl rfl rfl (by intro w hw; exact x_fieldAddr 86 4 5 5 2 rfl fi_86_4 rfl w) ?_
              refine q_cons (q_take rfl rfl ?_)
              refine q_val rfl rfl rfl (by intro w hw; exact x_load (.int .i64 ((i64N s.came).v)) ag_2 rfl (hw.blk_at (i := 0) rfl) rfl) ?_
              refine q_cons (q_take rfl rfl ?_)
              refine q_val rfl rfl rfl (by intro w hw; exact x_add ((i64N s.came).v + 64) rfl rfl (wi64 (by omega)) w) ?_
              refine q_cons (q_take rfl rfl ?_)
              by_cases hc324 : (i64N s.came).v + 64 ≤ d.seq.v
              · skip
                refine q_val rfl rfl rfl (by intro w hw; exact x_geq true rfl rfl (dtrue hc324) w) ?_
                refine q_cons (q_take rfl rfl ?_)
                refine q_val rfl rfl rfl (by intro w hw; exact x_pick_t (.bool true) rfl rfl w) ?_
                refine q_cons (q_val rfl rfl rfl (by intro w hw; exact x_pick_f (.bool true) rfl rfl w) ?_)
                refine q_nil ?_
                intro w325 H326
                have H327 : St W w325 (blk g (.cells #[.int .i64 s.frm.v, .int .i64 s.to_.v, .int .i64 (s.slide : Int), .slice pp14 L16.length cc15, .int .i64 (s.acked : Int), .int .i64 ((i64N s.came).v), .slice pp17 E19.length cc18, .int .i64 (s.clock : Int), .bool s.owes] 86 (0, 0)) :: Row 101 3 (.slice pp14 L16.length cc15) L16.length (L16.flatMap bodCell) :: byA (L16.map BodD.by) :: Row 105 2 (.slice pp17 E19.length cc18) E19.length (E19.flatMap hlCell) :: byA (mby E19) :: blk bk7 (.cells #[.int .i64 d.frm.v, .int .i64 d.to_.v, .int .i64 d.kind.v, .int .i64 d.seq.v, .int .i64 d.ack.v, .slice pp1 d.body.length cc2] 41 (0, 0)) :: Im 1 (.slice pp1 d.body.length cc2) d.body.length (d.body.flatMap u8c) :: (F.set i emp)) := (((((((H326.move 6 rfl).move 6 rfl).move 6 rfl).move 6 rfl).move 6 rfl).move 6 rfl).move 6 rfl)
                exact join29 (()) _ _ ⟨trivial, H327⟩ ⟨by first | rfl | exact vint (by omega), by first | rfl | exact vint (by omega), by first | rfl | exact vint (by omega), by first | rfl | exact vint (by omega), congrArg Value.bool (show true = stray s d from (decide_eq_true (by omega)).symm), trivial⟩
              · skip
                refine q_val rfl rfl rfl (by intro w hw; exact x_geq false rfl rfl (dfalse hc324) w) ?_
                refine q_cons (q_take rfl rfl ?_)
                refine q_val rfl rfl rfl (by intro w hw; exact x_pick_t (.bool false) rfl rfl w) ?_
                refine q_cons (q_val rfl rfl rfl (by intro w hw; exact x_pick_f (.bool false) rfl rfl w) ?_)
                refine q_nil ?_
                intro w328 H329
                have H330 : St W w328 (blk g (.cells #[.int .i64 s.frm.v, .int .i64 s.to_.v, .int .i64 (s.slide : Int), .slice pp14 L16.length cc15, .int .i64 (s.acked : Int), .int .i64 ((i64N s.came).v), .slice pp17 E19.length cc18, .int .i64 (s.clock : Int), .bool s.owes] 86 (0, 0)) :: Row 101 3 (.slice pp14 L16.length cc15) L16.length (L16.flatMap bodCell) :: byA (L16.map BodD.by) :: Row 105 2 (.slice pp17 E19.length cc18) E19.length (E19.flatMap hlCell) :: byA (mby E19) :: blk bk7 (.cells #[.int .i64 d.frm.v, .int .i64 d.to_.v, .int .i64 d.kind.v, .int .i64 d.seq.v, .int .i64 d.ack.v, .slice pp1 d.body.length cc2] 41 (0, 0)) :: Im 1 (.slice pp1 d.body.length cc2) d.body.length (d.body.flatMap u8c) :: (F.set i emp)) := (((((((H329.move 6 rfl).move 6 rfl).move 6 rfl).move 6 rfl).move 6 rfl).move 6 rfl).move 6 rfl)
                exact join29 (()) _ _ ⟨trivial, H330⟩ ⟨by first | rfl | exact vint (by omega), by first | rfl | exact vint (by omega), by first | rfl | exact vint (by omega), by first | rfl | exact vint (by omega), congrArg Value.bool (show false = stray s d from (decide_eq_false (by omega)).symm), trivial⟩
            · skip
              refine q_val rfl rfl rfl (by intro w hw; exact x_eql false rfl rfl (dfalse hc323) w) ?_
              refine q_cons (q_take rfl rfl ?_)
              refine q_val rfl rfl rfl (by intro w hw; exact x_move (.bool false) rfl w) ?_
              refine q_cons (q_pass rfl rfl rfl rfl rfl ?_)
              refine q_cons (q_pass rfl rfl rfl rfl rfl ?_)
              refine q_cons (q_pass rfl rfl rfl rfl rfl ?_)
              refine q_cons (q_pass rfl rfl rfl rfl rfl ?_)
              refine q_cons (q_pass rfl rfl rfl rfl rfl ?_)
              refine q_cons (q_pass rfl rfl rfl rfl rfl ?_)
              refine q_cons (q_pass rfl rfl rfl rfl rfl ?_)
              refine q_cons (q_pass rfl rfl rfl rfl rfl ?_)
              refine q_cons (q_take rfl rfl ?_)
              refine q_val rfl rfl rfl (by intro w hw; exact x_pick_f (.bool false) rfl rfl w) ?_
              refine q_cons (q_val rfl rfl rfl (by intro w hw; exact x_pick_f (.bool false) rfl rfl w) ?_)
              refine q_nil ?_
              intro w331 H332
              have H333 : St W w331 (blk g (.cells #[.int .i64 s.frm.v, .int .i64 s.to_.v, .int .i64 (s.slide : Int), .slice pp14 L16.length cc15, .int .i64 (s.acked : Int), .int .i64 ((i64N s.came).v), .slice pp17 E19.length cc18, .int .i64 (s.clock : Int), .bool s.owes] 86 (0, 0)) :: Row 101 3 (.slice pp14 L16.length cc15) L16.length (L16.flatMap bodCell) :: byA (L16.map BodD.by) :: Row 105 2 (.slice pp17 E19.length cc18) E19.length (E19.flatMap hlCell) :: byA (mby E19) :: blk bk7 (.cells #[.int .i64 d.frm.v, .int .i64 d.to_.v, .int .i64 d.kind.v, .int .i64 d.seq.v, .int .i64 d.ack.v, .slice pp1 d.body.length cc2] 41 (0, 0)) :: Im 1 (.slice pp1 d.body.length cc2) d.body.length (d.body.flatMap u8c) :: (F.set i emp)) := (((((((H332.move 6 rfl).move 6 rfl).move 6 rfl).move 6 rfl).move 6 rfl).move 6 rfl).move 6 rfl)
              exact join29 (()) _ _ ⟨trivial, H333⟩ ⟨by first | rfl | exact vint (by omega), by first | rfl | exact vint (by omega), by first | rfl | exact vint (by omega), by first | rfl | exact vint (by omega), congrArg Value.bool (show false = stray s d from (decide_eq_false (by omega)).symm), trivial⟩
        · skip
          refine q_val rfl rfl rfl (by intro w hw; exact x_neq true rfl rfl (nfalse hc318) w) ?_
          refine q_cons (q_val rfl rfl rfl (by intro w hw; exact x_pick_f (.bool true) rfl rfl w) ?_)
          refine q_cons (q_val rfl rfl rfl (by intro w hw; exact x_move (.bool true) rfl w) ?_)
          refine q_cons (q_pass rfl rfl rfl rfl rfl ?_)
          refine q_cons (q_pass rfl rfl rfl rfl rfl ?_)
          refine q_cons (q_pass rfl rfl rfl rfl rfl ?_)
          refine q_cons (q_pass rfl rfl rfl rfl rfl ?_)
          refine q_cons (q_pass rfl rfl rfl rfl rfl ?_)
          refine q_cons (q_val rfl rfl rfl (by intro w hw; exact x_pick_t (.bool true) rfl rfl w) ?_)
          refine q_cons (q_val rfl rfl rfl (by intro w hw; exact x_move (.bool true) rfl w) ?_)
          refine q_cons (q_pass rfl rfl rfl rfl rfl ?_)
          refine q_cons (q_pass rfl rfl rfl rfl rfl ?_)
          refine q_cons (q_pass rfl rfl rfl rfl rfl ?_)
          refine q_cons (q_pass rfl rfl rfl rfl rfl ?_)
          refine q_cons (q_passN rfl rfl rfl rfl ?_)
          refine q_cons (q_passN rfl rfl rfl rfl ?_)
          refine q_cons (q_passN rfl rfl rfl rfl ?_)
          refine q_cons (q_passN rfl rfl rfl rfl ?_)
          refine q_cons (q_passN rfl rfl rfl rfl ?_)
          refine q_cons (q_passN rfl rfl rfl rfl ?_)
          refine q_cons (q_passN rfl rfl rfl rfl ?_)
          refine q_cons (q_passN rfl rfl rfl rfl ?_)
          refine q_cons (q_pass rfl rfl rfl rfl rfl ?_)
          refine q_cons (q_val rfl rfl rfl (by intro w hw; exact x_pick_t (.bool true) rfl rfl w) ?_)
          refine q_nil ?_
          intro w334 H335
          have H336 : St W w334 (blk g (.cells #[.int .i64 s.frm.v, .int .i64 s.to_.v, .int .i64 (s.slide : Int), .slice pp14 L16.length cc15, .int .i64 (s.acked : Int), .int .i64 ((i64N s.came).v), .slice pp17 E19.length cc18, .int .i64 (s.clock : Int), .bool s.owes] 86 (0, 0)) :: Row 101 3 (.slice pp14 L16.length cc15) L16.length (L16.flatMap bodCell) :: byA (L16.map BodD.by) :: Row 105 2 (.slice pp17 E19.length cc18) E19.length (E19.flatMap hlCell) :: byA (mby E19) :: blk bk7 (.cells #[.int .i64 d.frm.v, .int .i64 d.to_.v, .int .i64 d.kind.v, .int .i64 d.seq.v, .int .i64 d.ack.v, .slice pp1 d.body.length cc2] 41 (0, 0)) :: Im 1 (.slice pp1 d.body.length cc2) d.body.length (d.body.flatMap u8c) :: (F.set i emp)) := (((((((H335.move 6 rfl).move 6 rfl).move 6 rfl).move 6 rfl).move 6 rfl).move 6 rfl).move 6 rfl)
          exact join29 (()) _ _ ⟨trivial, H336⟩ ⟨by first | rfl | exact vint (by omega), by first | rfl | exact vint (by omega), by first | rfl | exact vint (by omega), by first | rfl | exact vint (by omega), congrArg Value.bool (show true = stray s d from (decide_eq_true (by omega)).symm), trivial⟩
      · skip
        refine q_cons (q_val rfl rfl rfl (by intro w hw; exact x_neq true rfl rfl (nfalse hc317) w) ?_)
        refine q_cons (q_val rfl rfl rfl (by intro w hw; exact x_move (.bool true) rfl w) ?_)
        refine q_cons (q_pass rfl rfl rfl rfl rfl ?_)
        refine q_cons (q_pass rfl rfl rfl rfl rfl ?_)
        refine q_cons (q_pass rfl rfl rfl rfl rfl ?_)
        refine q_cons (q_pass rfl rfl rfl rfl rfl ?_)
        refine q_cons (q_pass rfl rfl rfl rfl rfl ?_)
        refine q_cons (q_pass rfl rfl rfl rfl rfl ?_)
        refine q_cons (q_pass rfl rfl rfl rfl rfl ?_)
        refine q_cons (q_pass rfl rfl rfl rfl rfl ?_)
        refine q_cons (q_val rfl rfl rfl (by intro w hw; exact x_pick_t (.bool true) rfl rfl w) ?_)
        refine q_cons (q_val rfl rfl rfl (by intro w hw; exact x_move (.bool true) rfl w) ?_)
        refine q_cons (q_pass rfl rfl rfl rfl rfl ?_)
        refine q_cons (q_pass rfl rfl rfl rfl rfl ?_)
        refine q_cons (q_pass rfl rfl rfl rfl rfl ?_)
        refine q_cons (q_pass rfl rfl rfl rfl rfl ?_)
        refine q_cons (q_pass rfl rfl rfl rfl rfl ?_)
        refine q_cons (q_val rfl rfl rfl (by intro w hw; exact x_pick_t (.bool true) rfl rfl w) ?_)
        refine q_cons (q_val rfl rfl rfl (by intro w hw; exact x_move (.bool true) rfl w) ?_)
        refine q_cons (q_pass rfl rfl rfl rfl rfl ?_)
        refine q_cons (q_pass rfl rfl rfl rfl rfl ?_)
        refine q_cons (q_pass rfl rfl rfl rfl rfl ?_)
        refine q_cons (q_pass rfl rfl rfl rfl rfl ?_)
        refine q_cons (q_passN rfl rfl rfl rfl ?_)
        refine q_cons (q_passN rfl rfl rfl rfl ?_)
        refine q_cons (q_passN rfl rfl rfl rfl ?_)
        refine q_cons (q_passN rfl rfl rfl rfl ?_)
        refine q_cons (q_passN rfl rfl rfl rfl ?_)
        refine q_cons (q_passN rfl rfl rfl rfl ?_)
        refine q_cons (q_passN rfl rfl rfl rfl ?_)
        refine q_cons (q_passN rfl rfl rfl rfl ?_)
        refine q_cons (q_pass rfl rfl rfl rfl rfl ?_)
        refine q_cons (q_val rfl rfl rfl (by intro w hw; exact x_pick_t (.bool true) rfl rfl w) ?_)
        refine q_nil ?_
        intro w337 H338
        have H339 : St W w337 (blk g (.cells #[.int .i64 s.frm.v, .int .i64 s.to_.v, .int .i64 (s.slide : Int), .slice pp14 L16.length cc15, .int .i64 (s.acked : Int), .int .i64 ((i64N s.came).v), .slice pp17 E19.length cc18, .int .i64 (s.clock : Int), .bool s.owes] 86 (0, 0)) :: Row 101 3 (.slice pp14 L16.length cc15) L16.length (L16.flatMap bodCell) :: byA (L16.map BodD.by) :: Row 105 2 (.slice pp17 E19.length cc18) E19.length (E19.flatMap hlCell) :: byA (mby E19) :: blk bk7 (.cells #[.int .i64 d.frm.v, .int .i64 d.to_.v, .int .i64 d.kind.v, .int .i64 d.seq.v, .int .i64 d.ack.v, .slice pp1 d.body.length cc2] 41 (0, 0)) :: Im 1 (.slice pp1 d.body.length cc2) d.body.length (d.body.flatMap u8c) :: (F.set i emp)) := (((((((H338.move 6 rfl).move 6 rfl).move 6 rfl).move 6 rfl).move 6 rfl).move 6 rfl).move 6 rfl)
        exact join29 (()) _ _ ⟨trivial, H339⟩ ⟨by first | rfl | exact vint (by omega), by first | rfl | exact vint (by omega), by first | rfl | exact vint (by omega), by first | rfl | exact vint (by omega), congrArg Value.bool (show true = stray s d from (decide_eq_true (by omega)).symm), trivial⟩
  · skip
    refine r_cons (s_neq true rfl rfl (nfalse hc12) rfl ?_)
    refine r_nil ?_
    refine g_true rfl ?_
    refine g_seq ?_
    refine g_region ?_
    refine r_cons (s_move (.int .i64 (dgE d)) rfl rfl ?_)
    refine r_cons (s_assign (.slice none 0 0) rfl rfl ?_)
    refine r_cons (s_assign (.int .i64 (dgE d)) rfl rfl ?_)
    refine r_nil ?_
    refine g_ret' [.slice none 0 0, .int .i64 (dgE d)] Try.func41 Try.results41 ⟨rfl, rfl, trivial⟩ ?_
    have hE : takeE s d = dgE d := takeE_no (by omega)
    have hE0 : ¬ takeE s d = 0 := by omega
    have H340 := Row.nil_intro H11 26 1
    have H341 := byA_nil H340
    have H342 : St W w10 (Row 26 1 (.slice none 0 0) 0 [] :: byA ([] : List BytesD) :: blk bk7 (.cells #[.int .i64 d.frm.v, .int .i64 d.to_.v, .int .i64 d.kind.v, .int .i64 d.seq.v, .int .i64 d.ack.v, .slice pp1 d.body.length cc2] 41 (0, 0)) :: RfA g s :: Im 1 (.slice pp1 d.body.length cc2) d.body.length (d.body.flatMap u8c) :: (F.set i emp)) := (H341.move 1 rfl)
    have hT9 : takeT s d = [] := takeT_no (fun h => hE0 h.1)
    have H343 : St W w10 (BysA none 0 (takeT s d) :: blk bk7 (.cells #[.int .i64 d.frm.v, .int .i64 d.to_.v, .int .i64 d.kind.v, .int .i64 d.seq.v, .int .i64 d.ack.v, .slice pp1 d.body.length cc2] 41 (0, 0)) :: RfA g s :: Im 1 (.slice pp1 d.body.length cc2) d.body.length (d.body.flatMap u8c) :: (F.set i emp)) := by rw [hT9]; exact St.shut_ex ⟨[], rfl⟩ (St.shut_star (ls := [Row 26 1 (.slice none 0 0) 0 [], byA ([] : List BytesD)]) H342)
    have H344 : St W w10 (BysA none 0 (takeT s d) :: blk bk7 (.cells #[.int .i64 d.frm.v, .int .i64 d.to_.v, .int .i64 d.kind.v, .int .i64 d.seq.v, .int .i64 d.ack.v, .slice pp1 d.body.length cc2] 41 (0, 0)) :: RfA g (takeS s d) :: Im 1 (.slice pp1 d.body.length cc2) d.body.length (d.body.flatMap u8c) :: (F.set i emp)) := by rw [takeS_no hE0]; exact H343
    have H345 : St W w10 (BysA none 0 (takeT s d) :: RfA g (takeS s d) :: (F.set i emp)) := ((((H344.move 2 rfl).move 1 rfl).drop 2 rfl).drop 2 rfl)
    have H346 : St W w10 (RfA g (takeS s d) :: (BysA none 0 (takeT s d) :: F).set (i + 1) emp) := (H345.move 1 rfl)
    exact ⟨none, 0, by rw [hE, hT9]; rfl, St.back (i := i + 1) (by exact hi) H346⟩
set_option maxHeartbeats 4000000 in
set_option maxRecDepth 100000 in
theorem bytes_Equal {W w : World} {F : List Atom} (A B : Atom) (u v : Value) (m n : Nat) (xs ys : List UInt8) (hA : RdA A 1 u m (xs.flatMap u8c)) (hB : RdA B 1 v n (ys.flatMap u8c)) {j k : Nat} (hj : F[j]? = some A) (hk : F[k]? = some B) (H : St W w F) : Calls Try.prog 34 #[u, v] w (Ret fun v w' => v = .bool (decide (xs = ys)) ∧ St W w' F) := by
  have hml := (hA _ _ _ j H hj).2
  obtain ⟨pp1, cc2, rfl, hn3⟩ := Rd.shape (hA _ _ _ j H hj).1
  have hml := (hB _ _ _ k H hk).2
  obtain ⟨pp4, cc5, rfl, hn6⟩ := Rd.shape (hB _ _ _ k H hk).1
  refine calls_of_go (n := 10) Try.func34 rfl Try.ntmps34 rfl ?_
  refine g_seq ?_
  refine g_region ?_
  refine r_cons (s_assign (.bool false) rfl rfl ?_)
  refine r_nil ?_
  refine g_seq ?_
  refine g_region ?_
  refine r_cons (s_move (.slice pp1 m cc2) rfl rfl ?_)
  refine r_cons (s_bytes_str (xs := xs) rfl (by rw [bytesV_flat]; exact (hA _ _ _ (j + 0) H (by exact hj)).1) un_26 un_5 un_9 rfl ?_)
  refine r_cons (s_move (.slice pp4 n cc5) rfl rfl ?_)
  refine r_cons (s_bytes_str (xs := ys) rfl (by rw [bytesV_flat]; exact (hB _ _ _ (k + 0) H (by exact hk)).1) un_26 un_5 un_9 rfl ?_)
  refine r_cons (s_seql (decide ((⟨(xs).toArray⟩ : ByteArray) = ⟨(ys).toArray⟩)) rfl rfl rfl rfl ?_)
  refine r_cons (s_assign (.bool (decide ((⟨(xs).toArray⟩ : ByteArray) = ⟨(ys).toArray⟩))) rfl rfl ?_)
  refine r_nil ?_
  refine g_ret' [.bool (decide ((⟨(xs).toArray⟩ : ByteArray) = ⟨(ys).toArray⟩))] Try.func34 Try.results34 ⟨rfl, trivial⟩ ?_
  have H7 : St W w F := H
  exact ⟨congrArg Value.bool lit_bytes, H7⟩
set_option maxHeartbeats 4000000 in
set_option maxRecDepth 100000 in
theorem Keys1_V {W w : World} {F : List Atom} (g r l : Nat) (E : List (I64 × BytesD)) (L : List I64) (hEL : E.map (·.1) = L) (N : Nat) (J Jx : List I64 → Atom) (hN : L.length ≤ N) {i j : Nat} (hi : F[i]? = some (imm g (.cells #[.map (some r)] 60 (0, 0)))) (hj : F[j]? = some (MapA r (ents (kI .i64) evD E))) (hY : ∀ w G pre (x : I64), (pre ++ [x]).length ≤ N → St W w (J pre :: emp :: G) → YieldAt Try.prog l [.int .i64 x.v] w (fun v w' => (v = .bool true ∧ St W w' (J (pre ++ [x]) :: G)) ∨ (v = .bool false ∧ St W w' (Jx (pre ++ [x]) :: G)))) (H : St W w (J [] :: F)) : Calls Try.prog 63 #[.func (.yield l) #[] #[], .pointer (some ⟨g, 0, none⟩)] w (Ret fun v w' => ∃ M : List I64, (M.Perm L ∧ St W w' (J M :: F)) ∨ (True ∧ St W w' (Jx M :: F))) := by
  have H0 := (H.dup (i := i + 1) (by exact hi) (imm_pers _ _)).front (i := j + 2) (by exact hj)
  have H1 : St W w (MapA r (ents (kI .i64) evD E) :: imm g (.cells #[.map (some r)] 60 (0, 0)) :: J [] :: (F.set j emp)) := H0
  refine calls_of_go (n := 14) Try.func63 rfl Try.ntmps63 rfl ?_
  refine g_seq ?_
  refine g_region ?_
  refine r_cons (s_load (.map (some r)) ag_60 rfl (H1.imm_at (i := 1) rfl) rfl rfl ?_)
  refine r_cons (s_range H1 0 rfl un_60 rfl rfl ?_); intro it2 w3 H4
  have H5 : St W w3 (MapIt it2 r (ents (kI .i64) evD E) (ents (kI .i64) evD E) none :: imm g (.cells #[.map (some r)] 60 (0, 0)) :: J [] :: (F.set j emp)) := H4.drop 1 rfl
  refine r_nil ?_
  refine g_block ?_
  have H6 : St W w3 (J [] :: MapIt it2 r (ents (kI .i64) evD E) (ents (kI .i64) evD E) none :: imm g (.cells #[.map (some r)] 60 (0, 0)) :: (F.set j emp)) := (((H5.move 1 rfl).move 1 rfl).move 2 rfl)
  refine g_loop_inv (fun (x_ : (List I64) × (List (I64 × BytesD)) × (Option (Value × Value))) => match x_ with | (pre, rest, last) => [(0, .func (.yield l) #[] #[]), (5, .pointer (some ⟨it2, 0, none⟩))]) (fun (x_ : (List I64) × (List (I64 × BytesD)) × (Option (Value × Value))) w => match x_ with | (pre, rest, last) => ((pre ++ rest.map (·.1)).Perm L) ∧ St W w (J pre :: MapIt it2 r (ents (kI .i64) evD E) (ents (kI .i64) evD rest) last :: imm g (.cells #[.map (some r)] 60 (0, 0)) :: (F.set j emp))) (fun (x_ : (List I64) × (List (I64 × BytesD)) × (Option (Value × Value))) => match x_ with | (pre, rest, last) => rest.length) ([], E, none) ?_ ?_ ?_
  · exact ⟨by first | rfl | exact vint (by omega), by first | rfl | exact vint (by omega), trivial⟩
  · exact ⟨(by rw [← hEL]; exact List.Perm.refl _), H6⟩
  · rintro ⟨pre, rest, last⟩ ρ7 w8 ⟨hperm, H9⟩ nx10
    change Ends _ _ (upds ρ7 [(0, .func (.yield l) #[] #[]), (5, .pointer (some ⟨it2, 0, none⟩))]) w8
    refine g_seq ?_
    refine g_region ?_
    refine r_cons (s_nextT (ek := (kI .i64)) (ev := evD) (rest := rest) H9 1 rfl rfl rfl ?_ ?_)
    · intro h011
      refine r_cons (s_extract (.bool false) #[.bool false] rfl rfl rfl ?_)
      refine r_nil ?_
      refine g_seq ?_
      refine g_false rfl ?_
      refine g_exit (by rfl) ?_
      refine g_end' [] Try.func63 Try.results63 trivial ?_
      have H17 : St W w8 (MapIt it2 r (ents (kI .i64) evD E) (ents (kI .i64) evD rest) last :: J pre :: (F.set j emp)) := ((H9.move 1 rfl).drop 2 rfl)
      have H18 : St W w8 (MapA r (ents (kI .i64) evD E) :: (J pre :: F).set (j + 1) emp) := MapIt.shut (i := 0) H17 rfl
      have hr0 := h011
      exact ⟨_, .inl ⟨keys_endV hr0 hperm, St.back_same (i := j + 1) (by exact hj) H18⟩⟩
    · intro jn12 en13 w14 hj15 H16
      have H19 : St W w14 (J pre :: MapIt it2 r (ents (kI .i64) evD E) (ents (kI .i64) evD (rest.eraseIdx jn12)) (some ((kI .i64) en13.1, evD en13.2)) :: imm g (.cells #[.map (some r)] 60 (0, 0)) :: (F.set j emp)) := H16
      refine r_cons (s_extract (.bool true) #[.bool true, .int .i64 en13.1.v, .slice en13.2.p en13.2.data.length en13.2.c] rfl rfl rfl ?_)
      refine r_nil ?_
      refine g_seq ?_
      refine g_true rfl ?_
      refine g_skip ?_
      refine g_block ?_
      refine g_seq ?_
      refine g_region ?_
      refine r_cons (s_entry (.tuple #[.int .i64 en13.1.v, .slice en13.2.p en13.2.data.length en13.2.c]) H19 1 rfl rfl rfl rfl ?_)
      refine r_cons (s_extract (.int .i64 en13.1.v) #[.int .i64 en13.1.v, .slice en13.2.p en13.2.data.length en13.2.c] rfl rfl rfl ?_)
      refine r_cons (s_assign (.int .i64 en13.1.v) rfl rfl ?_)
      refine r_nil ?_
      refine g_seq ?_
      refine g_region ?_
      refine r_cons (s_move (.func (.yield l) #[] #[]) rfl rfl ?_)
      refine r_cons (s_move (.int .i64 en13.1.v) rfl rfl ?_)
      have hlen9 := keys_stepV hj15 hperm hN
      refine r_cons (s_yield l [.int .i64 en13.1.v] rfl rfl rfl (hY _ _ pre en13.1 hlen9 (H19.cons_emp.move 1 rfl)) ?_)
      rintro _ w20 (⟨rfl, H21⟩ | ⟨rfl, H21⟩)
      · skip
        have H22 : St W w20 (J (pre ++ [en13.1]) :: MapIt it2 r (ents (kI .i64) evD E) (ents (kI .i64) evD (rest.eraseIdx jn12)) (some ((kI .i64) en13.1, evD en13.2)) :: imm g (.cells #[.map (some r)] 60 (0, 0)) :: (F.set j emp)) := H21
        refine r_cons (s_not true rfl false rfl rfl ?_)
        refine r_nil ?_
        refine g_false rfl ?_
        refine g_skip ?_
        refine g_inBlock ?_
        have H23 : St W w20 (J (pre ++ [en13.1]) :: MapIt it2 r (ents (kI .i64) evD E) (ents (kI .i64) evD (rest.eraseIdx jn12)) (some ((kI .i64) en13.1, evD en13.2)) :: imm g (.cells #[.map (some r)] 60 (0, 0)) :: (F.set j emp)) := (((H22.move 2 rfl).move 2 rfl).move 2 rfl)
        exact nx10 ((pre ++ [en13.1]), (rest.eraseIdx jn12), (some ((kI .i64) en13.1, evD en13.2))) _ _ ⟨(perm_step hj15 hperm), H23⟩ (by first | (dsimp only; exact rest_len (by assumption)) | exact rest_len (by assumption)) ⟨by first | rfl | exact vint (by omega), by first | rfl | exact vint (by omega), trivial⟩
      · skip
        have H24 : St W w20 (Jx (pre ++ [en13.1]) :: MapIt it2 r (ents (kI .i64) evD E) (ents (kI .i64) evD (rest.eraseIdx jn12)) (some ((kI .i64) en13.1, evD en13.2)) :: imm g (.cells #[.map (some r)] 60 (0, 0)) :: (F.set j emp)) := H21
        refine r_cons (s_not false rfl true rfl rfl ?_)
        refine r_nil ?_
        refine g_true rfl ?_
        refine g_ret' [] Try.func63 Try.results63 trivial ?_
        have H25 : St W w20 (MapIt it2 r (ents (kI .i64) evD E) (ents (kI .i64) evD (rest.eraseIdx jn12)) (some ((kI .i64) en13.1, evD en13.2)) :: Jx (pre ++ [en13.1]) :: (F.set j emp)) := ((H24.move 1 rfl).drop 2 rfl)
        have H26 : St W w20 (MapA r (ents (kI .i64) evD E) :: (Jx (pre ++ [en13.1]) :: F).set (j + 1) emp) := MapIt.shut (i := 0) H25 rfl
        exact ⟨_, .inr ⟨trivial, St.back_same (i := j + 1) (by exact hj) H26⟩⟩
set_option maxHeartbeats 4000000 in
set_option maxRecDepth 100000 in
theorem Keys_V {W w : World} {F : List Atom} (r : Nat) (H : St W w F) : Calls Try.prog 52 #[.map (some r)] w (Ret fun v w' => ∃ g, v = .func (.func 63) #[] #[.pointer (some ⟨g, 0, none⟩)] ∧ St W w' (imm g (.cells #[.map (some r)] 60 (0, 0)) :: F)) := by
  refine calls_of_go (n := 4) Try.func52 rfl Try.ntmps52 rfl ?_
  refine g_seq ?_
  refine g_region ?_
  refine r_cons (s_box H 60 (.map (some r)) rfl (cs := #[.map (some r)]) rfl rfl ?_); intro bk1 w2 H3
  refine r_cons (s_assign (.nilFunc) rfl rfl ?_)
  refine r_nil ?_
  refine g_seq ?_
  refine g_region ?_
  refine r_cons (s_makeFunc (.func (.func 63) #[] #[.pointer (some ⟨bk1, 0, none⟩)]) rfl rfl ?_)
  refine r_cons (s_assign (.func (.func 63) #[] #[.pointer (some ⟨bk1, 0, none⟩)]) rfl rfl ?_)
  refine r_nil ?_
  refine g_ret' [.func (.func 63) #[] #[.pointer (some ⟨bk1, 0, none⟩)]] Try.func52 Try.results52 ⟨rfl, trivial⟩ ?_
  have H4 : St W w2 (blk bk1 (.cells #[.map (some r)] 60 (0, 0)) :: F) := H3
  exact ⟨_, rfl, blk_imm H4 (i := 0) rfl⟩
set_option maxHeartbeats 4000000 in
set_option maxRecDepth 100000 in
theorem AppendSeq_V {W w : World} {F : List Atom} (g r : Nat) (E : List (I64 × BytesD)) (L : List I64) (hEL : E.map (·.1) = L) {i j : Nat} (hi : F[i]? = some (imm g (.cells #[.map (some r)] 60 (0, 0)))) (hj : F[j]? = some (MapA r (ents (kI .i64) evD E))) (hN : L.length * 8 ≤ 140737488355328) (H : St W w F) : Calls Try.prog 66 #[.slice none 0 0, .func (.func 63) #[] #[.pointer (some ⟨g, 0, none⟩)]] w (Ret fun v w' => ∃ (M : List I64) (p : Option Addr) (c : Nat), M.Perm L ∧ v = .slice p M.length c ∧ St W w' (Row 2 1 (.slice p M.length c) M.length (M.flatMap i64c) :: F)) := by
  have H0 := (H.dup (i := i) (by exact hi) (imm_pers _ _)).front (i := j + 1) (by exact hj)
  have H1 : St W w (MapA r (ents (kI .i64) evD E) :: imm g (.cells #[.map (some r)] 60 (0, 0)) :: (F.set j emp)) := H0
  refine calls_of_go (n := 13) Try.func66 rfl Try.ntmps66 rfl ?_
  refine g_seq ?_
  refine g_region ?_
  refine r_cons (s_box H1 94 (.slice none 0 0) rfl (cs := #[.slice none 0 0]) rfl rfl ?_); intro bk2 w3 H4
  refine r_cons (s_assign (.slice none 0 0) rfl rfl ?_)
  refine r_nil ?_
  refine g_seq ?_
  refine g_seq ?_
  refine g_region ?_
  refine r_cons (s_move (.func (.func 63) #[] #[.pointer (some ⟨g, 0, none⟩)]) rfl rfl ?_)
  refine r_nil ?_
  refine g_block ?_
  have H5 := Row.nil_intro H4 2 1
  have H6 : St W w3 (blk bk2 (.cells #[.slice none 0 0] 94 (0, 0)) :: Row 2 1 (.slice none 0 0) 0 [] :: MapA r (ents (kI .i64) evD E) :: imm g (.cells #[.map (some r)] 60 (0, 0)) :: (F.set j emp)) := (H5.move 1 rfl)
  have H7 : St W w3 ((ex fun q : Option Addr × Nat => star [blk bk2 (.cells #[.slice q.1 ([] : List I64).length q.2] 94 (0, 0)), Row 2 1 (.slice q.1 ([] : List I64).length q.2) ([] : List I64).length (([] : List I64).flatMap i64c)]) :: MapA r (ents (kI .i64) evD E) :: imm g (.cells #[.map (some r)] 60 (0, 0)) :: (F.set j emp)) := St.shut_ex (none, 0) (St.shut_star (ls := [blk bk2 (.cells #[.slice none 0 0] 94 (0, 0)), Row 2 1 (.slice none 0 0) 0 []]) H6)
  refine g_range1 (W := W) (F := MapA r (ents (kI .i64) evD E) :: imm g (.cells #[.map (some r)] 60 (0, 0)) :: (F.set j emp)) 63 [.pointer (some ⟨g, 0, none⟩)] rfl rfl pl_63 (fun x_ : I64 => .int .i64 x_.v) rfl (fun x_ : I64 => emp) (fun pre_ => (ex fun q : Option Addr × Nat => star [blk bk2 (.cells #[.slice q.1 pre_.length q.2] 94 (0, 0)), Row 2 1 (.slice q.1 pre_.length q.2) pre_.length (pre_.flatMap i64c)])) (fun c_ pre_ => pure' False) (fun pre_ x_ => (pre_ ++ [x_]).length ≤ L.length) (fun L_ => L_.Perm L) (fun L_ => True) H7 ?_ ?_ ?_ ?_
  · intro l8 r9 w10 G11 pre12 x13 hr14 hr15 hok16 H17
    try dsimp only at hok16 H17
    have H18 : St W w10 (blk l8 (.loop r9) :: (ex fun q : Option Addr × Nat => star [blk bk2 (.cells #[.slice q.1 pre12.length q.2] 94 (0, 0)), Row 2 1 (.slice q.1 pre12.length q.2) pre12.length (pre12.flatMap i64c)]) :: emp :: G11) := H17
    have H19 := H18.move 1 rfl
    obtain ⟨⟨pp20, cc21⟩, H22⟩ := St.open_ex H19
    have H23 := St.open_star H22
    have H24 : St W w10 (blk bk2 (.cells #[.slice pp20 pre12.length cc21] 94 (0, 0)) :: Row 2 1 (.slice pp20 pre12.length cc21) pre12.length (pre12.flatMap i64c) :: blk l8 (.loop r9) :: emp :: G11) := H23
    have hpl : pre12.length + 1 ≤ L.length := by have h9 := hok16; simp only [List.length_append, List.length_cons, List.length_nil] at h9; omega
    refine g_region ?_
    refine r_cons (s_assign (.int .i64 x13.v) rfl rfl ?_)
    refine r_nil ?_
    refine g_beginRound H24 (i := 2) rfl hr14 ?_; intro w25 H26
    have H27 : St W w25 (blk bk2 (.cells #[.slice pp20 pre12.length cc21] 94 (0, 0)) :: Row 2 1 (.slice pp20 pre12.length cc21) pre12.length (pre12.flatMap i64c) :: blk l8 (.loop { r9 with state := .busy }) :: emp :: G11) := H26
    refine g_block ?_
    refine g_region ?_
    refine r_cons (s_load (.slice pp20 pre12.length cc21) ag_94 rfl (H27.blk_at (i := 0) rfl) rfl rfl ?_)
    refine r_cons (s_move (.int .i64 x13.v) rfl rfl ?_)
    refine r_cons (s_buildSlice H27 1 1 (cs := #[.int .i64 x13.v]) #[.int .i64 0] el_94 ze_2 (by decide) (by decide) (by kernel_rfl) rfl ?_); intro bk28 w29 H30
    refine r_cons (s_append H30 2 rfl rfl rfl (rd_blk (H30.blk_at (i := 0) rfl) rfl (Nat.le_of_ble_eq_true rfl) (by simp [Value.oneCell'])) ap_94 (by decide) (by unfold maxLen; omega) (by omega) (n' := pre12.length + 1) (xs' := pre12.flatMap i64c ++ ([.int .i64 x13.v] : List Value)) (by omega) (by first | rfl | simp) rfl ?_); intro vv31 w32 H33 hn34
    obtain ⟨pp35, cc36, rfl⟩ := Row.slice H33 (i := 2) rfl
    refine r_cons (s_store H33 1 (.slice pp35 (pre12.length + 1) cc36) rfl rfl rfl sz_94 rfl (Nat.le_of_ble_eq_true rfl) rfl (cs' := #[.slice pp35 (pre12.length + 1) cc36]) rfl ?_); intro w37 H38
    refine r_nil ?_
    refine g_inBlock ?_
    have H39 : St W w37 (blk bk28 (.cells #[.int .i64 x13.v] 2 (0, 0)) :: blk bk2 (.cells #[.slice pp35 ((pre12 ++ [x13]).length) cc36] 94 (0, 0)) :: Row 2 1 (.slice pp35 ((pre12 ++ [x13]).length) cc36) ((pre12 ++ [x13]).length) ((pre12 ++ [x13]).flatMap i64c) :: blk l8 (.loop { r9 with state := .busy }) :: emp :: G11) := by rw [List.flatMap_append, List.length_append]; exact H38
    have H40 : St W w37 (blk bk2 (.cells #[.slice pp35 ((pre12 ++ [x13]).length) cc36] 94 (0, 0)) :: Row 2 1 (.slice pp35 ((pre12 ++ [x13]).length) cc36) ((pre12 ++ [x13]).length) ((pre12 ++ [x13]).flatMap i64c) :: blk bk28 (.cells #[.int .i64 x13.v] 2 (0, 0)) :: blk l8 (.loop { r9 with state := .busy }) :: emp :: G11) := ((H39.move 2 rfl).move 2 rfl)
    have H41 : St W w37 ((ex fun q : Option Addr × Nat => star [blk bk2 (.cells #[.slice q.1 (pre12 ++ [x13]).length q.2] 94 (0, 0)), Row 2 1 (.slice q.1 (pre12 ++ [x13]).length q.2) (pre12 ++ [x13]).length ((pre12 ++ [x13]).flatMap i64c)]) :: blk bk28 (.cells #[.int .i64 x13.v] 2 (0, 0)) :: blk l8 (.loop { r9 with state := .busy }) :: emp :: G11) := St.shut_ex (pp35, cc36) (St.shut_star (ls := [blk bk2 (.cells #[.slice pp35 ((pre12 ++ [x13]).length) cc36] 94 (0, 0)), Row 2 1 (.slice pp35 ((pre12 ++ [x13]).length) cc36) ((pre12 ++ [x13]).length) ((pre12 ++ [x13]).flatMap i64c)]) H40)
    have H42 : St W w37 (blk l8 (.loop { r9 with state := .busy }) :: (ex fun q : Option Addr × Nat => star [blk bk2 (.cells #[.slice q.1 (pre12 ++ [x13]).length q.2] 94 (0, 0)), Row 2 1 (.slice q.1 (pre12 ++ [x13]).length q.2) (pre12 ++ [x13]).length ((pre12 ++ [x13]).flatMap i64c)]) :: G11) := (((H41.move 2 rfl).drop 2 rfl).drop 2 rfl)
    refine g_round_end hr14 hr15 H42 (i := 0) rfl ?_; intro w43 H44
    exact .inl ⟨rfl, H44⟩
  · intro l J Jx B w H hY; exact Keys1_V g r l E L hEL L.length J Jx (Nat.le_refl _) (i := 2) rfl (j := 1) rfl hY H
  · intro D45 L46 w47 hS48 H49
    have H51 : St W w47 ((ex fun q : Option Addr × Nat => star [blk bk2 (.cells #[.slice q.1 L46.length q.2] 94 (0, 0)), Row 2 1 (.slice q.1 L46.length q.2) L46.length (L46.flatMap i64c)]) :: blk D45 (.deferred (some [])) :: MapA r (ents (kI .i64) evD E) :: imm g (.cells #[.map (some r)] 60 (0, 0)) :: (F.set j emp)) := H49
    obtain ⟨⟨pp52, cc53⟩, H54⟩ := St.open_ex H51
    have H55 := St.open_star H54
    have H56 : St W w47 (blk bk2 (.cells #[.slice pp52 L46.length cc53] 94 (0, 0)) :: Row 2 1 (.slice pp52 L46.length cc53) L46.length (L46.flatMap i64c) :: blk D45 (.deferred (some [])) :: MapA r (ents (kI .i64) evD E) :: imm g (.cells #[.map (some r)] 60 (0, 0)) :: (F.set j emp)) := H55
    refine g_inBlock ?_
    refine g_seq ?_
    refine g_region ?_
    refine r_cons (s_load (.slice pp52 L46.length cc53) ag_94 rfl (H56.blk_at (i := 0) rfl) rfl rfl ?_)
    refine r_cons (s_assign (.slice pp52 L46.length cc53) rfl rfl ?_)
    refine r_nil ?_
    obtain ⟨hd57, H58⟩ := H56.collect (i := 2) rfl
    refine g_retD _ [.slice pp52 L46.length cc53] Try.func66 Try.results66 rfl ⟨hd57, trivial⟩ ⟨rfl, trivial⟩ ?_
    have H59 : St W (w47.putObj D45 (.deferred none)) (MapA r (ents (kI .i64) evD E) :: Row 2 1 (.slice pp52 L46.length cc53) L46.length (L46.flatMap i64c) :: (F.set j emp)) := ((((H58.move 1 rfl).move 2 rfl).drop 2 rfl).drop 2 rfl)
    have H60 : St W (w47.putObj D45 (.deferred none)) (MapA r (ents (kI .i64) evD E) :: (Row 2 1 (.slice pp52 L46.length cc53) L46.length (L46.flatMap i64c) :: F).set (j + 1) emp) := H59
    exact ⟨L46, _, _, hS48, rfl, St.back_same (i := j + 1) (by exact hj) H60⟩
  · intro D61 c66 L62 w63 hS64 H65
    have H67 : St W w63 (pure' False :: blk D61 (.deferred (some [])) :: MapA r (ents (kI .i64) evD E) :: imm g (.cells #[.map (some r)] 60 (0, 0)) :: (F.set j emp)) := H65
    exact (St.open_pure H67).1.elim
set_option maxHeartbeats 4000000 in
set_option maxRecDepth 100000 in
theorem Collect_V {W w : World} {F : List Atom} (g r : Nat) (E : List (I64 × BytesD)) (L : List I64) (hEL : E.map (·.1) = L) {i j : Nat} (hi : F[i]? = some (imm g (.cells #[.map (some r)] 60 (0, 0)))) (hj : F[j]? = some (MapA r (ents (kI .i64) evD E))) (hN : L.length * 8 ≤ 140737488355328) (H : St W w F) : Calls Try.prog 61 #[.func (.func 63) #[] #[.pointer (some ⟨g, 0, none⟩)]] w (Ret fun v w' => ∃ (M : List I64) (p : Option Addr) (c : Nat), M.Perm L ∧ v = .slice p M.length c ∧ St W w' (Row 2 1 (.slice p M.length c) M.length (M.flatMap i64c) :: F)) := by
  have H0 := (H.dup (i := i) (by exact hi) (imm_pers _ _)).front (i := j + 1) (by exact hj)
  have H1 : St W w (MapA r (ents (kI .i64) evD E) :: imm g (.cells #[.map (some r)] 60 (0, 0)) :: (F.set j emp)) := H0
  refine calls_of_go (n := 5) Try.func61 rfl Try.ntmps61 rfl ?_
  refine g_seq ?_
  refine g_region ?_
  refine r_cons (s_assign (.slice none 0 0) rfl rfl ?_)
  refine r_nil ?_
  refine g_seq ?_
  refine g_region ?_
  refine r_cons (s_move (.func (.func 63) #[] #[.pointer (some ⟨g, 0, none⟩)]) rfl rfl ?_)
  refine r_cons (s_call [.slice none 0 0, .func (.func 63) #[] #[.pointer (some ⟨g, 0, none⟩)]] pl_66 rfl rfl (AppendSeq_V g r E L hEL (i := 1) rfl (j := 0) rfl hN H1) ?_)
  rintro _ w6 ⟨M2, pp3, cc4, hp5, rfl, H7⟩
  refine r_cons (s_assign (.slice pp3 M2.length cc4) rfl rfl ?_)
  refine r_nil ?_
  refine g_ret' [.slice pp3 M2.length cc4] Try.func61 Try.results61 ⟨rfl, trivial⟩ ?_
  have H8 : St W w6 (MapA r (ents (kI .i64) evD E) :: Row 2 1 (.slice pp3 M2.length cc4) M2.length (M2.flatMap i64c) :: (F.set j emp)) := ((H7.move 1 rfl).drop 2 rfl)
  have H9 : St W w6 (MapA r (ents (kI .i64) evD E) :: (Row 2 1 (.slice pp3 M2.length cc4) M2.length (M2.flatMap i64c) :: F).set (j + 1) emp) := H8
  exact ⟨M2, _, _, hp5, rfl, St.back_same (i := j + 1) (by exact hj) H9⟩
def sortLI_ren : Shelf.Ren := ⟨fun | 5 => 62 | 8 => 68 | 7 => 67 | 19 => 78 | 20 => 79 | 10 => 69 | 11 => 70 | 12 => 71 | 13 => 72 | 14 => 73 | 15 => 74 | 16 => 75 | 17 => 76 | 18 => 77 | 30 => 80 | 31 => 81 | 32 => 82 | 33 => 83 | 34 => 84 | 35 => 85 | 40 => 86 | n => n, fun | 23 => 94 | 25 => 2 | 3 => 3 | 32 => 76 | 22 => 94 | 0 => 0 | 44 => 121 | 46 => 123 | 4 => 4 | 36 => 113 | 35 => 112 | 41 => 118 | 5 => 5 | 9 => 9 | 53 => 124 | 57 => 128 | 63 => 130 | 64 => 131 | n => n, fun n => n⟩
theorem sortLI : SlLaysM.n5 Try.prog sortLI_ren where
  mixed := by kernel_rfl
  f5 := ⟨"slices.Sort[[]int64,int64]", by decide, Try.func62.trans (congrArg some (by kernel_rfl))⟩
  f7 := ⟨"slices.pdqsortOrdered[int64]", by decide, Try.func67.trans (congrArg some (by kernel_rfl))⟩
  f8 := Try.func68.trans (congrArg some (by kernel_rfl))
  f10 := ⟨"slices.insertionSortOrdered[int64]", by decide, Try.func69.trans (congrArg some (by kernel_rfl))⟩
  f11 := ⟨"slices.heapSortOrdered[int64]", by decide, Try.func70.trans (congrArg some (by kernel_rfl))⟩
  f12 := ⟨"slices.breakPatternsOrdered[int64]", by decide, Try.func71.trans (congrArg some (by kernel_rfl))⟩
  f13 := ⟨"slices.choosePivotOrdered[int64]", by decide, Try.func72.trans (congrArg some (by kernel_rfl))⟩
  f14 := ⟨"slices.reverseRangeOrdered[int64]", by decide, Try.func73.trans (congrArg some (by kernel_rfl))⟩
  f15 := ⟨"slices.partialInsertionSortOrdered[int64]", by decide, Try.func74.trans (congrArg some (by kernel_rfl))⟩
  f16 := ⟨"cmp.Less[int64]", by decide, Try.func75.trans (congrArg some (by kernel_rfl))⟩
  f17 := ⟨"slices.partitionEqualOrdered[int64]", by decide, Try.func76.trans (congrArg some (by kernel_rfl))⟩
  f18 := ⟨"slices.partitionOrdered[int64]", by decide, Try.func77.trans (congrArg some (by kernel_rfl))⟩
  f19 := Try.func78.trans (congrArg some (by kernel_rfl))
  f20 := Try.func79.trans (congrArg some (by kernel_rfl))
  f30 := ⟨"slices.siftDownOrdered[int64]", by decide, Try.func80.trans (congrArg some (by kernel_rfl))⟩
  f31 := Try.func81.trans (congrArg some (by kernel_rfl))
  f32 := Try.func82.trans (congrArg some (by kernel_rfl))
  f33 := ⟨"slices.medianAdjacentOrdered[int64]", by decide, Try.func83.trans (congrArg some (by kernel_rfl))⟩
  f34 := ⟨"slices.medianOrdered[int64]", by decide, Try.func84.trans (congrArg some (by kernel_rfl))⟩
  f35 := ⟨"cmp.isNaN[int64]", by decide, Try.func85.trans (congrArg some (by kernel_rfl))⟩
  f40 := ⟨"slices.order2Ordered[int64]", by decide, Try.func86.trans (congrArg some (by kernel_rfl))⟩
  t0 := Try.underlying0
  a0 := Try.isAgg0
  z0 := Try.sizeOf0
  v0 := Try.zeroValue0
  t3 := Try.underlying3
  a3 := Try.isAgg3
  z3 := Try.sizeOf3
  v3 := Try.zeroValue3
  t4 := Try.underlying4
  a4 := Try.isAgg4
  z4 := Try.sizeOf4
  v4 := Try.zeroValue4
  t5 := Try.underlying5
  a5 := Try.isAgg5
  z5 := Try.sizeOf5
  v5 := Try.zeroValue5
  t9 := Try.underlying9
  a9 := Try.isAgg9
  z9 := Try.sizeOf9
  v9 := Try.zeroValue9
  t22 := Try.underlying94
  a22 := Try.isAgg94
  z22 := Try.sizeOf94
  v22 := Try.zeroValue94
  t23 := Try.underlying94
  a23 := Try.isAgg94
  z23 := Try.sizeOf94
  v23 := Try.zeroValue94
  t25 := Try.underlying2
  a25 := Try.isAgg2
  z25 := Try.sizeOf2
  v25 := Try.zeroValue2
  t32 := Try.underlying76
  a32 := Try.isAgg76
  z32 := Try.sizeOf76
  v32 := Try.zeroValue76
  t35 := Try.underlying112
  a35 := Try.isAgg112
  z35 := Try.sizeOf112
  v35 := Try.zeroValue112
  t36 := Try.underlying113
  a36 := Try.isAgg113
  z36 := Try.sizeOf113
  v36 := Try.zeroValue113
  t41 := Try.underlying118
  a41 := Try.isAgg118
  z41 := Try.sizeOf118
  v41 := Try.zeroValue118
  t44 := Try.underlying121
  a44 := Try.isAgg121
  z44 := Try.sizeOf121
  v44 := Try.zeroValue121
  t46 := Try.underlying123
  a46 := Try.isAgg123
  z46 := Try.sizeOf123
  v46 := Try.zeroValue123
  t53 := Try.underlying124
  a53 := Try.isAgg124
  z53 := Try.sizeOf124
  v53 := Try.zeroValue124
  t57 := Try.underlying128
  a57 := Try.isAgg128
  z57 := Try.sizeOf128
  v57 := Try.zeroValue128
  t63 := Try.underlying130
  a63 := Try.isAgg130
  z63 := Try.sizeOf130
  v63 := Try.zeroValue130
  t64 := Try.underlying131
  a64 := Try.isAgg131
  z64 := Try.sizeOf131
  v64 := Try.zeroValue131
set_option maxHeartbeats 4000000 in
set_option maxRecDepth 100000 in
theorem Sorted_V {W w : World} {F : List Atom} (g r : Nat) (E : List (I64 × BytesD)) (L : List I64) (hEL : E.map (·.1) = L) {i j : Nat} (hi : F[i]? = some (imm g (.cells #[.map (some r)] 60 (0, 0)))) (hj : F[j]? = some (MapA r (ents (kI .i64) evD E))) (hN : L.length * 8 ≤ 140737488355328) (H : St W w F) : Calls Try.prog 51 #[.func (.func 63) #[] #[.pointer (some ⟨g, 0, none⟩)]] w (Ret fun v w' => ∃ p c, v = .slice p L.length c ∧ St W w' (Im 1 (.slice p L.length c) L.length ((sortI L).flatMap i64c) :: F)) := by
  have H0 := (H.dup (i := i) (by exact hi) (imm_pers _ _)).front (i := j + 1) (by exact hj)
  have H1 : St W w (MapA r (ents (kI .i64) evD E) :: imm g (.cells #[.map (some r)] 60 (0, 0)) :: (F.set j emp)) := H0
  refine calls_of_go (n := 9) Try.func51 rfl Try.ntmps51 rfl ?_
  refine g_seq ?_
  refine g_region ?_
  refine r_cons (s_assign (.slice none 0 0) rfl rfl ?_)
  refine r_nil ?_
  refine g_seq ?_
  refine g_region ?_
  refine r_cons (s_move (.func (.func 63) #[] #[.pointer (some ⟨g, 0, none⟩)]) rfl rfl ?_)
  refine r_cons (s_call [.func (.func 63) #[] #[.pointer (some ⟨g, 0, none⟩)]] pl_61 rfl rfl (Collect_V g r E L hEL (i := 1) rfl (j := 0) rfl hN H1) ?_)
  rintro _ w6 ⟨M2, pp3, cc4, hp5, rfl, H7⟩
  refine r_cons (s_assign (.slice pp3 M2.length cc4) rfl rfl ?_)
  refine r_nil ?_
  refine g_seq ?_
  refine g_region ?_
  refine r_cons (s_move (.slice pp3 M2.length cc4) rfl rfl ?_)
  refine r_cons (s_call [.slice pp3 M2.length cc4] pl_62 rfl rfl (sort_int sortLI H7 (i := 0) rfl (by have h9 := hp5.length_eq; omega)) ?_)
  rintro _ w8 ⟨rfl, H9⟩
  refine r_nil ?_
  refine g_seq ?_
  refine g_region ?_
  refine r_cons (s_move (.slice pp3 M2.length cc4) rfl rfl ?_)
  refine r_cons (s_assign (.slice pp3 M2.length cc4) rfl rfl ?_)
  refine r_nil ?_
  refine g_ret' [.slice pp3 M2.length cc4] Try.func51 Try.results51 ⟨rfl, trivial⟩ ?_
  have H10 : St W w8 (MapA r (ents (kI .i64) evD E) :: Row 2 1 (.slice pp3 M2.length cc4) M2.length ((sortI M2).flatMap i64c) :: (F.set j emp)) := ((H9.move 1 rfl).drop 2 rfl)
  have H11 : St W w8 (MapA r (ents (kI .i64) evD E) :: (Row 2 1 (.slice pp3 M2.length cc4) M2.length ((sortI M2).flatMap i64c) :: F).set (j + 1) emp) := H10
  have hx := St.back_same (i := j + 1) (by exact hj) H11
  have hq := Row.im hx (i := 0) rfl
  rw [sortI_of_perm hp5, hp5.length_eq] at hq
  exact ⟨_, _, by rw [← hp5.length_eq]; rfl, hq⟩
set_option maxHeartbeats 4000000 in
set_option maxRecDepth 100000 in
theorem Lk_Held {W w : World} {F : List Atom} (g : Nat) (H : St W w F) : Calls Try.prog 28 #[.pointer (some ⟨g, 0, none⟩)] w (Ret fun v w' => ∃ bx, v = .func (.func 50) #[] #[.pointer (some ⟨bx, 0, none⟩)] ∧ St W w' (imm bx (.cells #[.pointer (some ⟨g, 0, none⟩)] 30 (0, 0)) :: F)) := by
  refine calls_of_go (n := 4) Try.func28 rfl Try.ntmps28 rfl ?_
  refine g_seq ?_
  refine g_region ?_
  refine r_cons (s_box H 30 (.pointer (some ⟨g, 0, none⟩)) rfl (cs := #[.pointer (some ⟨g, 0, none⟩)]) rfl rfl ?_); intro bk1 w2 H3
  refine r_cons (s_assign (.nilFunc) rfl rfl ?_)
  refine r_nil ?_
  refine g_seq ?_
  refine g_region ?_
  refine r_cons (s_makeFunc (.func (.func 50) #[] #[.pointer (some ⟨bk1, 0, none⟩)]) rfl rfl ?_)
  refine r_cons (s_assign (.func (.func 50) #[] #[.pointer (some ⟨bk1, 0, none⟩)]) rfl rfl ?_)
  refine r_nil ?_
  refine g_ret' [.func (.func 50) #[] #[.pointer (some ⟨bk1, 0, none⟩)]] Try.func28 Try.results28 ⟨rfl, trivial⟩ ?_
  have H4 : St W w2 (blk bk1 (.cells #[.pointer (some ⟨g, 0, none⟩)] 30 (0, 0)) :: F) := H3
  exact ⟨_, rfl, blk_imm H4 (i := 0) rfl⟩
set_option maxHeartbeats 4000000 in
set_option maxRecDepth 100000 in
theorem Held_it {W w : World} {F : List Atom} (g bx l : Nat) (s : EndV) (hv : LInv s) (hN0 : s.held.length * 8 ≤ 140737488355328) (J Jx : List (I64 × BytesD) → Atom) {i k : Nat} (hi : F[i]? = some (imm bx (.cells #[.pointer (some ⟨g, 0, none⟩)] 30 (0, 0)))) (hk : F[k]? = some (LkA g s)) (hY : ∀ w G pre (x : I64 × BytesD), mapB (pre ++ [x]) <+: sH s.held → St W w (J pre :: DtA x.2.p x.2.c x.2.data :: G) → YieldAt Try.prog l [.int .i64 x.1.v, .slice x.2.p x.2.data.length x.2.c] w (fun v w' => (v = .bool true ∧ St W w' (J (pre ++ [x]) :: G)) ∨ (v = .bool false ∧ St W w' (Jx (pre ++ [x]) :: G)))) (H : St W w (J [] :: F)) : Calls Try.prog 50 #[.func (.yield l) #[] #[], .pointer (some ⟨bx, 0, none⟩)] w (Ret fun v w' => ∃ L : List (I64 × BytesD), (mapB L = sH s.held ∧ St W w' (J L :: F)) ∨ (mapB L <+: sH s.held ∧ St W w' (Jx L :: F))) := by
  have H0 := (H.dup (i := i + 1) (by exact hi) (imm_pers _ _)).front (i := k + 2) (by exact hk)
  have H1 : St W w (LkA g s :: imm bx (.cells #[.pointer (some ⟨g, 0, none⟩)] 30 (0, 0)) :: J [] :: (F.set k emp)) := H0
  have hok := hv.ok; obtain ⟨o1, o2, o3, o4, o5, o6, o8⟩ := id hok; have o7 := i64N_0 (Nat.le_trans o4 (by decide))
  refine calls_of_go (n := 30) Try.func50 rfl Try.ntmps50 rfl ?_
  refine g_seq ?_
  refine g_seq ?_
  refine g_region ?_
  refine r_cons (s_load (.pointer (some ⟨g, 0, none⟩)) ag_30 rfl (H1.imm_at (i := 1) rfl) rfl rfl ?_)
  refine r_cons (s_call [.pointer (some ⟨g, 0, none⟩)] pl_31 rfl rfl (Lk_none g s hok (i := 0) rfl H1) ?_)
  rintro _ w2 ⟨rfl, H3⟩
  refine r_nil ?_
  refine g_false rfl ?_
  refine g_skip ?_
  refine g_seq ?_
  refine g_region ?_
  refine r_cons (s_load (.pointer (some ⟨g, 0, none⟩)) ag_30 rfl (H3.imm_at (i := 1) rfl) rfl rfl ?_)
  refine r_cons (s_nilCheck (.pointer (some ⟨g, 0, none⟩)) rfl ⟨_, rfl⟩ rfl ?_)
  refine r_cons (s_fieldAddr 62 5 6 6 60 rfl fi_62_5 rfl rfl ?_)
  have H4 := H3.move 0 rfl
  obtain ⟨⟨⟨m5, pp6, cc7, L8, E9⟩, hL10, hE11⟩, H12⟩ := St.open_ex H4
  have H13 := St.open_star H12
  change L8.map BodD.v = s.l at hL10; change mapB E9 = s.held at hE11
  have hl14 := lenOf hL10; have he15 := mapB_len hE11
  have H16 : St W w2 (blk g (.cells #[.int .i64 s.frm.v, .int .i64 s.to_.v, .int .i64 (s.slide : Int), .slice pp6 L8.length cc7, .int .i64 (s.acked : Int), .int .i64 ((i64N s.came).v), .map (some m5), .int .i64 (s.clock : Int), .bool s.owes] 62 (0, 0)) :: Row 79 3 (.slice pp6 L8.length cc7) L8.length (L8.flatMap bodCell) :: byA (L8.map BodD.by) :: MapA m5 (ents (kI .i64) evD E9) :: byA (mby E9) :: imm bx (.cells #[.pointer (some ⟨g, 0, none⟩)] 30 (0, 0)) :: J [] :: (F.set k emp)) := H13
  refine r_cons (s_load (.map (some m5)) ag_60 rfl (H16.blk_at (i := 0) rfl) rfl rfl ?_)
  refine r_cons (s_call [.map (some m5)] pl_52 rfl rfl (Keys_V m5 H16) ?_)
  rintro _ w18 ⟨bk17, rfl, H19⟩
  refine r_cons (s_call [.func (.func 63) #[] #[.pointer (some ⟨bk17, 0, none⟩)]] pl_51 rfl rfl (Sorted_V bk17 m5 E9 (kys E9) rfl (i := 0) rfl (j := 4) rfl (by have h8 := he15; show (kys _).length * 8 ≤ _; unfold kys; rw [List.length_map]; omega) H19) ?_)
  rintro _ w22 ⟨pp20, cc21, rfl, H23⟩
  refine r_cons (s_len ((kys E9).length) rfl ⟨_, un_94⟩ rfl ?_)
  refine r_cons (s_move (.int .i64 0) rfl rfl ?_)
  refine r_nil ?_
  refine g_block ?_
  have H24 : St W w22 (Im 1 (.slice pp20 ((sortI (kys E9)).length) cc21) ((sortI (kys E9)).length) ((sortI (kys E9)).flatMap i64c) :: imm bk17 (.cells #[.map (some m5)] 60 (0, 0)) :: blk g (.cells #[.int .i64 s.frm.v, .int .i64 s.to_.v, .int .i64 (s.slide : Int), .slice pp6 L8.length cc7, .int .i64 (s.acked : Int), .int .i64 ((i64N s.came).v), .map (some m5), .int .i64 (s.clock : Int), .bool s.owes] 62 (0, 0)) :: Row 79 3 (.slice pp6 L8.length cc7) L8.length (L8.flatMap bodCell) :: byA (L8.map BodD.by) :: MapA m5 (ents (kI .i64) evD E9) :: byA (mby E9) :: imm bx (.cells #[.pointer (some ⟨g, 0, none⟩)] 30 (0, 0)) :: J [] :: (F.set k emp)) := by rw [sortI_len]; exact H23
  obtain ⟨pA25, cA26, gA27, oA28, kA29, eA30, zA31, he37, hn32, hp33, hx34, hs35, hml, H36⟩ := Im.open_ H24 (i := 0) rfl
  obtain ⟨rfl, rfl⟩ : pp20 = pA25 ∧ cc21 = cA26 := by injection he37 with a_ b_ c_; exact ⟨a_, c_⟩
  have hkl : (kys E9).length = E9.length := List.length_map _
  have hsl : (sortI (kys E9)).length = (kys E9).length := sortI_len _
  have hhl := sH_len s.held
  have H38 : St W w22 (J [] :: imi (0 < (sortI (kys E9)).length) gA27 (.cells kA29 eA30 zA31) :: Im 1 (.slice pp20 ((sortI (kys E9)).length) cc21) ((sortI (kys E9)).length) ((sortI (kys E9)).flatMap i64c) :: imm bk17 (.cells #[.map (some m5)] 60 (0, 0)) :: blk g (.cells #[.int .i64 s.frm.v, .int .i64 s.to_.v, .int .i64 (s.slide : Int), .slice pp6 L8.length cc7, .int .i64 (s.acked : Int), .int .i64 ((i64N s.came).v), .map (some m5), .int .i64 (s.clock : Int), .bool s.owes] 62 (0, 0)) :: Row 79 3 (.slice pp6 L8.length cc7) L8.length (L8.flatMap bodCell) :: byA (L8.map BodD.by) :: MapA m5 (ents (kI .i64) evD E9) :: byA (mby E9) :: imm bx (.cells #[.pointer (some ⟨g, 0, none⟩)] 30 (0, 0)) :: (F.set k emp)) := (H36.move 9 rfl)
  refine g_loop_inv (fun (x_ : Nat × (List (I64 × BytesD))) => match x_ with | (j, pre) => [(0, .func (.yield l) #[] #[]), (1, .pointer (some ⟨bx, 0, none⟩)), (12, .slice pp20 ((kys E9).length) cc21), (13, .int .i64 ((kys E9).length : Int)), (14, .int .i64 (j : Int))]) (fun (x_ : Nat × (List (I64 × BytesD))) w => match x_ with | (j, pre) => (j ≤ (kys E9).length) ∧ (mapB pre = (sH s.held).take j) ∧ St W w (J pre :: imi (0 < (sortI (kys E9)).length) gA27 (.cells kA29 eA30 zA31) :: Im 1 (.slice pp20 ((sortI (kys E9)).length) cc21) ((sortI (kys E9)).length) ((sortI (kys E9)).flatMap i64c) :: imm bk17 (.cells #[.map (some m5)] 60 (0, 0)) :: blk g (.cells #[.int .i64 s.frm.v, .int .i64 s.to_.v, .int .i64 (s.slide : Int), .slice pp6 L8.length cc7, .int .i64 (s.acked : Int), .int .i64 ((i64N s.came).v), .map (some m5), .int .i64 (s.clock : Int), .bool s.owes] 62 (0, 0)) :: Row 79 3 (.slice pp6 L8.length cc7) L8.length (L8.flatMap bodCell) :: byA (L8.map BodD.by) :: MapA m5 (ents (kI .i64) evD E9) :: byA (mby E9) :: imm bx (.cells #[.pointer (some ⟨g, 0, none⟩)] 30 (0, 0)) :: (F.set k emp))) (fun (x_ : Nat × (List (I64 × BytesD))) => match x_ with | (j, pre) => (kys E9).length - j) (0, []) ?_ ?_ ?_
  · exact ⟨by first | rfl | exact vint (by omega), by first | rfl | exact vint (by omega), by first | rfl | exact vint (by omega), by first | rfl | exact vint (by omega), by first | rfl | exact vint (by omega), trivial⟩
  · exact ⟨(by omega), rfl, H38⟩
  · rintro ⟨j, pre⟩ ρ39 w40 ⟨hjn, hpj, H41⟩ nx42
    change Ends _ _ (upds ρ39 [(0, .func (.yield l) #[] #[]), (1, .pointer (some ⟨bx, 0, none⟩)), (12, .slice pp20 ((kys E9).length) cc21), (13, .int .i64 ((kys E9).length : Int)), (14, .int .i64 (j : Int))]) w40
    refine g_seq ?_
    refine g_region ?_
    by_cases hc43 : (j : Int) < ((kys E9).length : Int)
    · skip
      refine r_cons (s_lss true rfl rfl (dtrue hc43) rfl ?_)
      refine r_nil ?_
      refine g_seq ?_
      refine g_true rfl ?_
      refine g_skip ?_
      refine g_seq ?_
      refine g_block ?_
      refine g_seq ?_
      refine g_region ?_
      refine r_cons (s_indexAddr gA27 (off := oA28) (j : Int) 1 (oA28 + j * 1) (by exact congrArg (fun z_ => Value.slice z_ ((kys E9).length) cc21) (hp33 (by omega))) rfl el_94 (by omega) rfl rfl ?_)
      refine r_cons (s_load (.int .i64 (((sortI (kys E9)).getD j default).v)) ag_2 rfl (H41.imi_at (i := 1) rfl (by omega)) (elem_cell (L := (sortI (kys E9))) (i := j) i64c_len (hx34 (by omega)) (by omega) default 0 (by decide) _ rfl) rfl ?_)
      refine r_cons (s_assign (.int .i64 (((sortI (kys E9)).getD j default).v)) rfl rfl ?_)
      refine r_nil ?_
      refine g_seq ?_
      refine g_region ?_
      obtain ⟨x9, hx9, hs9, hm9⟩ := held_at hE11 (j := j) (by omega)
      have hb9 := hv.sm _ hm9; simp only at hb9
      have H44 : St W w40 (Im 1 (.slice x9.p x9.data.length x9.c) x9.data.length (x9.data.flatMap u8c) :: J pre :: imi (0 < (sortI (kys E9)).length) gA27 (.cells kA29 eA30 zA31) :: Im 1 (.slice pp20 ((sortI (kys E9)).length) cc21) ((sortI (kys E9)).length) ((sortI (kys E9)).flatMap i64c) :: imm bk17 (.cells #[.map (some m5)] 60 (0, 0)) :: blk g (.cells #[.int .i64 s.frm.v, .int .i64 s.to_.v, .int .i64 (s.slide : Int), .slice pp6 L8.length cc7, .int .i64 (s.acked : Int), .int .i64 ((i64N s.came).v), .map (some m5), .int .i64 (s.clock : Int), .bool s.owes] 62 (0, 0)) :: Row 79 3 (.slice pp6 L8.length cc7) L8.length (L8.flatMap bodCell) :: byA (L8.map BodD.by) :: MapA m5 (ents (kI .i64) evD E9) :: byA (mby E9) :: imm bx (.cells #[.pointer (some ⟨g, 0, none⟩)] 30 (0, 0)) :: (F.set k emp)) := byA_at H41 (i := 8) rfl (mby_get hx9)
      refine r_cons (s_move (.func (.yield l) #[] #[]) rfl rfl ?_)
      refine r_cons (s_move (.int .i64 (((sortI (kys E9)).getD j default).v)) rfl rfl ?_)
      refine r_cons (s_load (.pointer (some ⟨g, 0, none⟩)) ag_30 rfl (H44.imm_at (i := 10) rfl) rfl rfl ?_)
      refine r_cons (s_nilCheck (.pointer (some ⟨g, 0, none⟩)) rfl ⟨_, rfl⟩ rfl ?_)
      refine r_cons (s_fieldAddr 62 5 6 6 60 rfl fi_62_5 rfl rfl ?_)
      refine r_cons (s_load (.map (some m5)) ag_60 rfl (H44.blk_at (i := 5) rfl) rfl rfl ?_)
      refine r_cons (s_move (.int .i64 (((sortI (kys E9)).getD j default).v)) rfl rfl ?_)
      refine r_cons (s_lookup (ek := (kI .i64)) (ev := evD) (L := E9) ((sortI (kys E9)).getD j default) (.slice x9.p x9.data.length x9.c) (MapA.at H44 (i := 8) rfl) (KeyLaw.I un_2) un_60 zv_26 rfl rfl (look_some hx9) rfl ?_)
      refine r_cons (s_call [.slice x9.p x9.data.length x9.c] pl_48 rfl rfl (clone_bytes _ _ x9.data.length (x9.data.flatMap u8c) RdA.im (by first | omega | (have hlp := Nat.le_refl 0; omega)) (j := 0) rfl H44) ?_)
      rintro _ w47 ⟨pp45, cc46, rfl, H48⟩
      have H49 : St W w47 (Im 1 (.slice pp45 x9.data.length cc46) x9.data.length (x9.data.flatMap u8c) :: Im 1 (.slice x9.p x9.data.length x9.c) x9.data.length (x9.data.flatMap u8c) :: J pre :: imi (0 < (sortI (kys E9)).length) gA27 (.cells kA29 eA30 zA31) :: Im 1 (.slice pp20 ((sortI (kys E9)).length) cc21) ((sortI (kys E9)).length) ((sortI (kys E9)).flatMap i64c) :: imm bk17 (.cells #[.map (some m5)] 60 (0, 0)) :: blk g (.cells #[.int .i64 s.frm.v, .int .i64 s.to_.v, .int .i64 (s.slide : Int), .slice pp6 L8.length cc7, .int .i64 (s.acked : Int), .int .i64 ((i64N s.came).v), .map (some m5), .int .i64 (s.clock : Int), .bool s.owes] 62 (0, 0)) :: Row 79 3 (.slice pp6 L8.length cc7) L8.length (L8.flatMap bodCell) :: byA (L8.map BodD.by) :: MapA m5 (ents (kI .i64) evD E9) :: byA (mby E9) :: imm bx (.cells #[.pointer (some ⟨g, 0, none⟩)] 30 (0, 0)) :: (F.set k emp)) := Row.im H48 (i := 0) rfl
      have hst9 := held_step (x := (((sortI (kys E9)).getD j default), (⟨x9.data, pp45, cc46⟩ : BytesD))) hpj (by have h8 := he15; omega) hs9
      have H50 : St W w47 (J pre :: Im 1 (.slice pp45 x9.data.length cc46) x9.data.length (x9.data.flatMap u8c) :: Im 1 (.slice x9.p x9.data.length x9.c) x9.data.length (x9.data.flatMap u8c) :: imi (0 < (sortI (kys E9)).length) gA27 (.cells kA29 eA30 zA31) :: Im 1 (.slice pp20 ((sortI (kys E9)).length) cc21) ((sortI (kys E9)).length) ((sortI (kys E9)).flatMap i64c) :: imm bk17 (.cells #[.map (some m5)] 60 (0, 0)) :: blk g (.cells #[.int .i64 s.frm.v, .int .i64 s.to_.v, .int .i64 (s.slide : Int), .slice pp6 L8.length cc7, .int .i64 (s.acked : Int), .int .i64 ((i64N s.came).v), .map (some m5), .int .i64 (s.clock : Int), .bool s.owes] 62 (0, 0)) :: Row 79 3 (.slice pp6 L8.length cc7) L8.length (L8.flatMap bodCell) :: byA (L8.map BodD.by) :: MapA m5 (ents (kI .i64) evD E9) :: byA (mby E9) :: imm bx (.cells #[.pointer (some ⟨g, 0, none⟩)] 30 (0, 0)) :: (F.set k emp)) := (H49.move 2 rfl)
      refine r_cons (s_yield l [.int .i64 (((sortI (kys E9)).getD j default).v), .slice pp45 x9.data.length cc46] rfl rfl rfl (hY _ _ pre (((sortI (kys E9)).getD j default), (⟨x9.data, pp45, cc46⟩ : BytesD)) hst9.2 H50) ?_)
      rintro _ w51 (⟨rfl, H52⟩ | ⟨rfl, H52⟩)
      · skip
        have H53 : St W w51 (J (pre ++ [(((sortI (kys E9)).getD j default), (⟨x9.data, pp45, cc46⟩ : BytesD))]) :: Im 1 (.slice x9.p x9.data.length x9.c) x9.data.length (x9.data.flatMap u8c) :: imi (0 < (sortI (kys E9)).length) gA27 (.cells kA29 eA30 zA31) :: Im 1 (.slice pp20 ((sortI (kys E9)).length) cc21) ((sortI (kys E9)).length) ((sortI (kys E9)).flatMap i64c) :: imm bk17 (.cells #[.map (some m5)] 60 (0, 0)) :: blk g (.cells #[.int .i64 s.frm.v, .int .i64 s.to_.v, .int .i64 (s.slide : Int), .slice pp6 L8.length cc7, .int .i64 (s.acked : Int), .int .i64 ((i64N s.came).v), .map (some m5), .int .i64 (s.clock : Int), .bool s.owes] 62 (0, 0)) :: Row 79 3 (.slice pp6 L8.length cc7) L8.length (L8.flatMap bodCell) :: byA (L8.map BodD.by) :: MapA m5 (ents (kI .i64) evD E9) :: byA (mby E9) :: imm bx (.cells #[.pointer (some ⟨g, 0, none⟩)] 30 (0, 0)) :: (F.set k emp)) := H52
        refine r_cons (s_not true rfl false rfl rfl ?_)
        refine r_nil ?_
        refine g_false rfl ?_
        refine g_skip ?_
        refine g_inBlock ?_
        refine g_region ?_
        refine r_cons (s_add ((j : Int) + 1) rfl rfl (wi64 (by omega)) rfl ?_)
        refine r_cons (s_move (.int .i64 ((j : Int) + 1)) rfl rfl ?_)
        refine r_nil ?_
        have H54 : St W w51 (J (pre ++ [(((sortI (kys E9)).getD j default), (⟨x9.data, pp45, cc46⟩ : BytesD))]) :: imi (0 < (sortI (kys E9)).length) gA27 (.cells kA29 eA30 zA31) :: Im 1 (.slice pp20 ((sortI (kys E9)).length) cc21) ((sortI (kys E9)).length) ((sortI (kys E9)).flatMap i64c) :: imm bk17 (.cells #[.map (some m5)] 60 (0, 0)) :: blk g (.cells #[.int .i64 s.frm.v, .int .i64 s.to_.v, .int .i64 (s.slide : Int), .slice pp6 L8.length cc7, .int .i64 (s.acked : Int), .int .i64 ((i64N s.came).v), .map (some m5), .int .i64 (s.clock : Int), .bool s.owes] 62 (0, 0)) :: Row 79 3 (.slice pp6 L8.length cc7) L8.length (L8.flatMap bodCell) :: byA (L8.map BodD.by) :: MapA m5 (ents (kI .i64) evD E9) :: byA (mby E9) :: imm bx (.cells #[.pointer (some ⟨g, 0, none⟩)] 30 (0, 0)) :: (F.set k emp)) := (((((((((((H53.move 10 rfl).move 10 rfl).move 10 rfl).move 10 rfl).move 10 rfl).move 10 rfl).move 10 rfl).move 10 rfl).move 10 rfl).move 9 rfl).drop 10 rfl)
        exact nx42 (j + 1, (pre ++ [(((sortI (kys E9)).getD j default), (⟨x9.data, pp45, cc46⟩ : BytesD))])) _ _ ⟨(by omega), hst9.1, H54⟩ (by first | (dsimp only; omega) | omega) ⟨by first | rfl | exact vint (by omega), by first | rfl | exact vint (by omega), by first | rfl | exact vint (by omega), by first | rfl | exact vint (by omega), by first | rfl | exact vint (by omega), trivial⟩
      · skip
        have H55 : St W w51 (Jx (pre ++ [(((sortI (kys E9)).getD j default), (⟨x9.data, pp45, cc46⟩ : BytesD))]) :: Im 1 (.slice x9.p x9.data.length x9.c) x9.data.length (x9.data.flatMap u8c) :: imi (0 < (sortI (kys E9)).length) gA27 (.cells kA29 eA30 zA31) :: Im 1 (.slice pp20 ((sortI (kys E9)).length) cc21) ((sortI (kys E9)).length) ((sortI (kys E9)).flatMap i64c) :: imm bk17 (.cells #[.map (some m5)] 60 (0, 0)) :: blk g (.cells #[.int .i64 s.frm.v, .int .i64 s.to_.v, .int .i64 (s.slide : Int), .slice pp6 L8.length cc7, .int .i64 (s.acked : Int), .int .i64 ((i64N s.came).v), .map (some m5), .int .i64 (s.clock : Int), .bool s.owes] 62 (0, 0)) :: Row 79 3 (.slice pp6 L8.length cc7) L8.length (L8.flatMap bodCell) :: byA (L8.map BodD.by) :: MapA m5 (ents (kI .i64) evD E9) :: byA (mby E9) :: imm bx (.cells #[.pointer (some ⟨g, 0, none⟩)] 30 (0, 0)) :: (F.set k emp)) := H52
        refine r_cons (s_not false rfl true rfl rfl ?_)
        refine r_nil ?_
        refine g_true rfl ?_
        refine g_ret' [] Try.func50 Try.results50 trivial ?_
        have H56 : St W w51 (blk g (.cells #[.int .i64 s.frm.v, .int .i64 s.to_.v, .int .i64 (s.slide : Int), .slice pp6 L8.length cc7, .int .i64 (s.acked : Int), .int .i64 ((i64N s.came).v), .map (some m5), .int .i64 (s.clock : Int), .bool s.owes] 62 (0, 0)) :: Row 79 3 (.slice pp6 L8.length cc7) L8.length (L8.flatMap bodCell) :: byA (L8.map BodD.by) :: MapA m5 (ents (kI .i64) evD E9) :: byA (mby E9) :: Jx (pre ++ [(((sortI (kys E9)).getD j default), (⟨x9.data, pp45, cc46⟩ : BytesD))]) :: Im 1 (.slice x9.p x9.data.length x9.c) x9.data.length (x9.data.flatMap u8c) :: imi (0 < (sortI (kys E9)).length) gA27 (.cells kA29 eA30 zA31) :: Im 1 (.slice pp20 ((sortI (kys E9)).length) cc21) ((sortI (kys E9)).length) ((sortI (kys E9)).flatMap i64c) :: imm bk17 (.cells #[.map (some m5)] 60 (0, 0)) :: imm bx (.cells #[.pointer (some ⟨g, 0, none⟩)] 30 (0, 0)) :: (F.set k emp)) := (((((H55.move 9 rfl).move 9 rfl).move 9 rfl).move 9 rfl).move 9 rfl)
        have H57 : St W w51 (LkA g s :: Jx (pre ++ [(((sortI (kys E9)).getD j default), (⟨x9.data, pp45, cc46⟩ : BytesD))]) :: Im 1 (.slice x9.p x9.data.length x9.c) x9.data.length (x9.data.flatMap u8c) :: imi (0 < (sortI (kys E9)).length) gA27 (.cells kA29 eA30 zA31) :: Im 1 (.slice pp20 ((sortI (kys E9)).length) cc21) ((sortI (kys E9)).length) ((sortI (kys E9)).flatMap i64c) :: imm bk17 (.cells #[.map (some m5)] 60 (0, 0)) :: imm bx (.cells #[.pointer (some ⟨g, 0, none⟩)] 30 (0, 0)) :: (F.set k emp)) := St.shut_ex ⟨(m5, pp6, cc7, L8, E9), hL10, hE11⟩ (St.shut_star (ls := [blk g (.cells #[.int .i64 s.frm.v, .int .i64 s.to_.v, .int .i64 (s.slide : Int), .slice pp6 L8.length cc7, .int .i64 (s.acked : Int), .int .i64 ((i64N s.came).v), .map (some m5), .int .i64 (s.clock : Int), .bool s.owes] 62 (0, 0)), Row 79 3 (.slice pp6 L8.length cc7) L8.length (L8.flatMap bodCell), byA (L8.map BodD.by), MapA m5 (ents (kI .i64) evD E9), byA (mby E9)]) H56)
        have H58 : St W w51 (LkA g s :: Jx (pre ++ [(((sortI (kys E9)).getD j default), (⟨x9.data, pp45, cc46⟩ : BytesD))]) :: (F.set k emp)) := (((((((H57.move 1 rfl).move 1 rfl).drop 2 rfl).drop 2 rfl).drop 2 rfl).drop 2 rfl).drop 2 rfl)
        have H59 : St W w51 (LkA g s :: (Jx (pre ++ [(((sortI (kys E9)).getD j default), (⟨x9.data, pp45, cc46⟩ : BytesD))]) :: F).set (k + 1) emp) := H58
        exact ⟨_, .inr ⟨hst9.2, St.back_same (i := k + 1) (by exact hk) H59⟩⟩
    · skip
      refine r_cons (s_lss false rfl rfl (dfalse hc43) rfl ?_)
      refine r_nil ?_
      refine g_seq ?_
      refine g_false rfl ?_
      refine g_exit (by rfl) ?_
      refine g_end' [] Try.func50 Try.results50 trivial ?_
      have H60 : St W w40 (blk g (.cells #[.int .i64 s.frm.v, .int .i64 s.to_.v, .int .i64 (s.slide : Int), .slice pp6 L8.length cc7, .int .i64 (s.acked : Int), .int .i64 ((i64N s.came).v), .map (some m5), .int .i64 (s.clock : Int), .bool s.owes] 62 (0, 0)) :: Row 79 3 (.slice pp6 L8.length cc7) L8.length (L8.flatMap bodCell) :: byA (L8.map BodD.by) :: MapA m5 (ents (kI .i64) evD E9) :: byA (mby E9) :: J pre :: imi (0 < (sortI (kys E9)).length) gA27 (.cells kA29 eA30 zA31) :: Im 1 (.slice pp20 ((sortI (kys E9)).length) cc21) ((sortI (kys E9)).length) ((sortI (kys E9)).flatMap i64c) :: imm bk17 (.cells #[.map (some m5)] 60 (0, 0)) :: imm bx (.cells #[.pointer (some ⟨g, 0, none⟩)] 30 (0, 0)) :: (F.set k emp)) := (((((H41.move 8 rfl).move 8 rfl).move 8 rfl).move 8 rfl).move 8 rfl)
      have H61 : St W w40 (LkA g s :: J pre :: imi (0 < (sortI (kys E9)).length) gA27 (.cells kA29 eA30 zA31) :: Im 1 (.slice pp20 ((sortI (kys E9)).length) cc21) ((sortI (kys E9)).length) ((sortI (kys E9)).flatMap i64c) :: imm bk17 (.cells #[.map (some m5)] 60 (0, 0)) :: imm bx (.cells #[.pointer (some ⟨g, 0, none⟩)] 30 (0, 0)) :: (F.set k emp)) := St.shut_ex ⟨(m5, pp6, cc7, L8, E9), hL10, hE11⟩ (St.shut_star (ls := [blk g (.cells #[.int .i64 s.frm.v, .int .i64 s.to_.v, .int .i64 (s.slide : Int), .slice pp6 L8.length cc7, .int .i64 (s.acked : Int), .int .i64 ((i64N s.came).v), .map (some m5), .int .i64 (s.clock : Int), .bool s.owes] 62 (0, 0)), Row 79 3 (.slice pp6 L8.length cc7) L8.length (L8.flatMap bodCell), byA (L8.map BodD.by), MapA m5 (ents (kI .i64) evD E9), byA (mby E9)]) H60)
      have H62 : St W w40 (LkA g s :: J pre :: (F.set k emp)) := ((((((H61.move 1 rfl).move 1 rfl).drop 2 rfl).drop 2 rfl).drop 2 rfl).drop 2 rfl)
      have H63 : St W w40 (LkA g s :: (J pre :: F).set (k + 1) emp) := H62
      have hje : (sH s.held).length ≤ j := by have h8 := he15; omega
      exact ⟨_, .inl ⟨by rw [hpj, List.take_of_length_le hje], St.back_same (i := k + 1) (by exact hk) H63⟩⟩
set_option maxHeartbeats 4000000 in
set_option maxRecDepth 100000 in
theorem held_0 {W w : World} {F : List Atom} (g bx g2 : Nat) (s : EndV) (hv : LInv s) (hN0 : s.held.length * 8 ≤ 140737488355328) (H : St W w (LkA g s :: RfA g2 s :: imm bx (.cells #[.pointer (some ⟨g, 0, none⟩)] 30 (0, 0)) :: F)) : Calls Try.prog 45 #[.func (.func 50) #[] #[.pointer (some ⟨bx, 0, none⟩)], .pointer (some ⟨g2, 0, none⟩), .int .i64 0] w (Ret fun v w' => v = .bool true ∧ St W w' (LkA g s :: RfA g2 s :: F)) := by
  obtain ⟨o1, o2, o3, o4, o5, o6, o8⟩ := id hv.ok
  refine calls_of_go (n := 57) Try.func45 rfl Try.ntmps45 rfl ?_
  refine g_seq ?_
  refine g_region ?_
  refine r_cons (s_box H 51 (.pointer (some ⟨g2, 0, none⟩)) rfl (cs := #[.pointer (some ⟨g2, 0, none⟩)]) rfl rfl ?_); intro bk1 w2 H3
  refine r_cons (s_box H3 3 (.int .i64 0) rfl (cs := #[.int .i64 0]) rfl rfl ?_); intro bk4 w5 H6
  refine r_cons (s_alloc H6 4 ze_4 rfl ?_); intro bk7 w8 H9
  refine r_nil ?_
  refine g_seq ?_
  refine g_region ?_
  refine r_cons (s_alloc H9 3 ze_3 rfl ?_); intro bk10 w11 H12
  refine r_cons (s_store H12 0 (.int .i64 0) rfl rfl rfl sz_3 rfl (Nat.le_of_ble_eq_true rfl) rfl (cs' := #[.int .i64 0]) rfl ?_); intro w13 H14
  refine r_nil ?_
  refine g_seq ?_
  refine g_seq ?_
  refine g_region ?_
  refine r_cons (s_move (.func (.func 50) #[] #[.pointer (some ⟨bx, 0, none⟩)]) rfl rfl ?_)
  refine r_nil ?_
  refine g_block ?_
  have H15 : St W w13 (blk bk10 (.cells #[.int .i64 0] 3 (0, 0)) :: blk bk7 (.cells #[.bool false] 4 (0, 0)) :: blk bk4 (.cells #[.int .i64 0] 3 (0, 0)) :: blk bk1 (.cells #[.pointer (some ⟨g2, 0, none⟩)] 51 (0, 0)) :: RfA g2 s :: LkA g s :: imm bx (.cells #[.pointer (some ⟨g, 0, none⟩)] 30 (0, 0)) :: F) := (((((H14.move 5 rfl).move 4 rfl).move 4 rfl).move 4 rfl).move 4 rfl)
  have H16 : St W w13 (star [pure' (True), blk bk10 (.cells #[.int .i64 (([] : List (I64 × BytesD)).length : Int)] 3 (0, 0)), blk bk7 (.cells #[.bool false] 4 (0, 0)), blk bk4 (.cells #[.int .i64 0] 3 (0, 0)), blk bk1 (.cells #[.pointer (some ⟨g2, 0, none⟩)] 51 (0, 0)), RfA g2 s] :: LkA g s :: imm bx (.cells #[.pointer (some ⟨g, 0, none⟩)] 30 (0, 0)) :: F) := St.shut_star (ls := [pure' (True), blk bk10 (.cells #[.int .i64 0] 3 (0, 0)), blk bk7 (.cells #[.bool false] 4 (0, 0)), blk bk4 (.cells #[.int .i64 0] 3 (0, 0)), blk bk1 (.cells #[.pointer (some ⟨g2, 0, none⟩)] 51 (0, 0)), RfA g2 s]) (St.shut_pure trivial H15)
  refine g_range2 (W := W) (F := LkA g s :: imm bx (.cells #[.pointer (some ⟨g, 0, none⟩)] 30 (0, 0)) :: F) 50 [.pointer (some ⟨bx, 0, none⟩)] rfl rfl pl_50 (fun x_ : I64 × BytesD => .int .i64 x_.1.v) (fun x_ : I64 × BytesD => .slice x_.2.p x_.2.data.length x_.2.c) rfl rfl (fun x_ : I64 × BytesD => Im 1 (.slice x_.2.p x_.2.data.length x_.2.c) x_.2.data.length (x_.2.data.flatMap u8c)) (fun pre_ => star [pure' (True), blk bk10 (.cells #[.int .i64 (pre_.length : Int)] 3 (0, 0)), blk bk7 (.cells #[.bool false] 4 (0, 0)), blk bk4 (.cells #[.int .i64 0] 3 (0, 0)), blk bk1 (.cells #[.pointer (some ⟨g2, 0, none⟩)] 51 (0, 0)), RfA g2 s]) (fun c_ pre_ => star [pure' (False), blk bk7 (.cells #[.bool true] 4 (0, 0)), RfA g2 s]) (fun pre_ x_ => mapB (pre_ ++ [x_]) <+: sH s.held) (fun L_ => mapB L_ = sH s.held) (fun L_ => mapB L_ <+: sH s.held) H16 ?_ ?_ ?_ ?_
  · intro l17 r18 w19 G20 pre21 x22 hr23 hr24 hok25 H26
    try dsimp only at hok25 H26
    have H27 : St W w19 (blk l17 (.loop r18) :: star [pure' (True), blk bk10 (.cells #[.int .i64 (pre21.length : Int)] 3 (0, 0)), blk bk7 (.cells #[.bool false] 4 (0, 0)), blk bk4 (.cells #[.int .i64 0] 3 (0, 0)), blk bk1 (.cells #[.pointer (some ⟨g2, 0, none⟩)] 51 (0, 0)), RfA g2 s] :: Im 1 (.slice x22.2.p x22.2.data.length x22.2.c) x22.2.data.length (x22.2.data.flatMap u8c) :: G20) := H26
    have H28 := H27.move 1 rfl
    obtain ⟨hpre29, H30⟩ := St.open_pure (St.open_star H28)
    obtain ⟨n31, hn32⟩ : ∃ n : Nat, n = pre21.length := ⟨_, rfl⟩
    have H33 : St W w19 (blk bk10 (.cells #[.int .i64 (n31 : Int)] 3 (0, 0)) :: blk bk7 (.cells #[.bool false] 4 (0, 0)) :: blk bk4 (.cells #[.int .i64 0] 3 (0, 0)) :: blk bk1 (.cells #[.pointer (some ⟨g2, 0, none⟩)] 51 (0, 0)) :: RfA g2 s :: blk l17 (.loop r18) :: Im 1 (.slice x22.2.p x22.2.data.length x22.2.c) x22.2.data.length (x22.2.data.flatMap u8c) :: G20) := by rw [hn32]; exact H30
    obtain ⟨hx1, hx2⟩ := held_pre hok25
    rw [← hn32] at hx1 hx2; rw [sH_len] at hx1
    have hhl9 : s.held.length ≤ 17592186044416 := by omega
    refine g_seq ?_
    refine g_region ?_
    refine r_cons (s_assign (.int .i64 x22.1.v) rfl rfl ?_)
    refine r_nil ?_
    refine g_region ?_
    refine r_cons (s_assign (.slice x22.2.p x22.2.data.length x22.2.c) rfl rfl ?_)
    refine r_nil ?_
    refine g_beginRound H33 (i := 5) rfl hr23 ?_; intro w34 H35
    have H36 : St W w34 (blk bk10 (.cells #[.int .i64 (n31 : Int)] 3 (0, 0)) :: blk bk7 (.cells #[.bool false] 4 (0, 0)) :: blk bk4 (.cells #[.int .i64 0] 3 (0, 0)) :: blk bk1 (.cells #[.pointer (some ⟨g2, 0, none⟩)] 51 (0, 0)) :: RfA g2 s :: blk l17 (.loop { r18 with state := .busy }) :: Im 1 (.slice x22.2.p x22.2.data.length x22.2.c) x22.2.data.length (x22.2.data.flatMap u8c) :: G20) := H35
    refine g_block ?_
    refine g_seq ?_
    refine g_seq ?_
    have H37 := H36.move 4 rfl
    obtain ⟨⟨⟨pp38, cc39, L40, pp41, cc42, E43, A44⟩, hL45, hA46, hH47⟩, H48⟩ := St.open_ex H37
    have H49 := St.open_star H48
    change L40.map BodD.v = A44 ++ s.l at hL45; change A44.length = s.acked at hA46; change HR s.held (mapB E43) at hH47
    have hl50 := refLen hL45 hA46; have hh51 : E43.length = s.held.length := by have h9 := hH47.len; rw [mapB_len rfl] at h9; exact h9
    have H52 : St W w34 (blk g2 (.cells #[.int .i64 s.frm.v, .int .i64 s.to_.v, .int .i64 (s.slide : Int), .slice pp38 L40.length cc39, .int .i64 (s.acked : Int), .int .i64 ((i64N s.came).v), .slice pp41 E43.length cc42, .int .i64 (s.clock : Int), .bool s.owes] 86 (0, 0)) :: Row 101 3 (.slice pp38 L40.length cc39) L40.length (L40.flatMap bodCell) :: byA (L40.map BodD.by) :: Row 105 2 (.slice pp41 E43.length cc42) E43.length (E43.flatMap hlCell) :: byA (mby E43) :: blk bk10 (.cells #[.int .i64 (n31 : Int)] 3 (0, 0)) :: blk bk7 (.cells #[.bool false] 4 (0, 0)) :: blk bk4 (.cells #[.int .i64 0] 3 (0, 0)) :: blk bk1 (.cells #[.pointer (some ⟨g2, 0, none⟩)] 51 (0, 0)) :: blk l17 (.loop { r18 with state := .busy }) :: Im 1 (.slice x22.2.p x22.2.data.length x22.2.c) x22.2.data.length (x22.2.data.flatMap u8c) :: G20) := H49
    have hn9 : n31 < E43.length := by rw [hh51]; exact hx1
    rw [← hH47.eq, mapB_at] at hx2; have hx3 := congrArg (·.1) hx2; have hx4 := congrArg (·.2) hx2; simp only at hx3 hx4
    have H53 : St W w34 (Im 1 (.slice ((E43.getD n31 default).2.p) ((E43.getD n31 default).2.data.length) ((E43.getD n31 default).2.c)) (((E43.getD n31 default).2.data).length) (((E43.getD n31 default).2.data).flatMap u8c) :: blk g2 (.cells #[.int .i64 s.frm.v, .int .i64 s.to_.v, .int .i64 (s.slide : Int), .slice pp38 L40.length cc39, .int .i64 (s.acked : Int), .int .i64 ((i64N s.came).v), .slice pp41 E43.length cc42, .int .i64 (s.clock : Int), .bool s.owes] 86 (0, 0)) :: Row 101 3 (.slice pp38 L40.length cc39) L40.length (L40.flatMap bodCell) :: byA (L40.map BodD.by) :: Row 105 2 (.slice pp41 E43.length cc42) E43.length (E43.flatMap hlCell) :: byA (mby E43) :: blk bk10 (.cells #[.int .i64 (n31 : Int)] 3 (0, 0)) :: blk bk7 (.cells #[.bool false] 4 (0, 0)) :: blk bk4 (.cells #[.int .i64 0] 3 (0, 0)) :: blk bk1 (.cells #[.pointer (some ⟨g2, 0, none⟩)] 51 (0, 0)) :: blk l17 (.loop { r18 with state := .busy }) :: Im 1 (.slice x22.2.p x22.2.data.length x22.2.c) x22.2.data.length (x22.2.data.flatMap u8c) :: G20) := byA_at H52 (i := 4) rfl (mby_at hn9)
    obtain ⟨bk54, cur55, hp56, h57, h58, h59, h60, h61, H62⟩ := Row.open2 H53 (i := 4) rfl (by omega)
    have hq9 : decide (x22.2.data = (E43.getD n31 default).2.data) = true := decide_eq_true hx4.symm
    refine g_quiet (fun w' => St W w' (Im 1 (.slice ((E43.getD n31 default).2.p) ((E43.getD n31 default).2.data.length) ((E43.getD n31 default).2.c)) (((E43.getD n31 default).2.data).length) (((E43.getD n31 default).2.data).flatMap u8c) :: blk g2 (.cells #[.int .i64 s.frm.v, .int .i64 s.to_.v, .int .i64 (s.slide : Int), .slice pp38 L40.length cc39, .int .i64 (s.acked : Int), .int .i64 ((i64N s.came).v), .slice pp41 E43.length cc42, .int .i64 (s.clock : Int), .bool s.owes] 86 (0, 0)) :: Row 101 3 (.slice pp38 L40.length cc39) L40.length (L40.flatMap bodCell) :: byA (L40.map BodD.by) :: blk bk54 (.cells cur55 105 (0, 0)) :: byA (mby E43) :: blk bk10 (.cells #[.int .i64 (n31 : Int)] 3 (0, 0)) :: blk bk7 (.cells #[.bool false] 4 (0, 0)) :: blk bk4 (.cells #[.int .i64 0] 3 (0, 0)) :: blk bk1 (.cells #[.pointer (some ⟨g2, 0, none⟩)] 51 (0, 0)) :: blk l17 (.loop { r18 with state := .busy }) :: Im 1 (.slice x22.2.p x22.2.data.length x22.2.c) x22.2.data.length (x22.2.data.flatMap u8c) :: G20)) mixed (by kernel_rfl) H62.drew ?_
    refine q_cons (q_val rfl rfl rfl (by intro w hw; exact x_load (.int .i64 (n31 : Int)) ag_3 rfl (hw.blk_at (i := 6) rfl) rfl) ?_)
    refine q_cons (q_val rfl rfl rfl (by intro w hw; exact x_load (.pointer (some ⟨g2, 0, none⟩)) ag_51 rfl (hw.blk_at (i := 9) rfl) rfl) ?_)
    refine q_cons (q_val rfl rfl rfl (by intro w hw; exact x_nilCheck (.pointer (some ⟨g2, 0, none⟩)) rfl ⟨_, rfl⟩ w) ?_)
    refine q_cons (q_val rfl rfl rfl (by intro w hw; exact x_fieldAddr 86 5 6 6 84 rfl fi_86_5 rfl w) ?_)
    refine q_cons (q_val rfl rfl rfl (by intro w hw; exact x_load (.slice pp41 E43.length cc42) ag_84 rfl (hw.blk_at (i := 1) rfl) rfl) ?_)
    refine q_cons (q_val rfl rfl rfl (by intro w hw; exact x_len E43.length rfl ⟨_, un_84⟩ w) ?_)
    refine q_cons (q_val rfl rfl rfl (by intro w hw; exact x_geq false rfl rfl (dfalse (by omega)) w) ?_)
    refine q_cons (q_val rfl rfl rfl (by intro w hw; exact x_move (.bool false) rfl w) ?_)
    refine q_cons (q_take rfl rfl ?_)
    refine q_val rfl rfl rfl (by intro w hw; exact x_move (.int .i64 x22.1.v) rfl w) ?_
    refine q_cons (q_take rfl rfl ?_)
    refine q_val rfl rfl rfl (by intro w hw; exact x_load (.pointer (some ⟨g2, 0, none⟩)) ag_51 rfl (hw.blk_at (i := 9) rfl) rfl) ?_
    refine q_cons (q_take rfl rfl ?_)
    refine q_val rfl rfl rfl (by intro w hw; exact x_nilCheck (.pointer (some ⟨g2, 0, none⟩)) rfl ⟨_, rfl⟩ w) ?_
    refine q_cons (q_take rfl rfl ?_)
    refine q_val rfl rfl rfl (by intro w hw; exact x_fieldAddr 86 5 6 6 84 rfl fi_86_5 rfl w) ?_
    refine q_cons (q_take rfl rfl ?_)
    refine q_val rfl rfl rfl (by intro w hw; exact x_load (.slice pp41 E43.length cc42) ag_84 rfl (hw.blk_at (i := 1) rfl) rfl) ?_
    refine q_cons (q_take rfl rfl ?_)
    refine q_val rfl rfl rfl (by intro w hw; exact x_load (.int .i64 (n31 : Int)) ag_3 rfl (hw.blk_at (i := 6) rfl) rfl) ?_
    refine q_cons (q_take rfl rfl ?_)
    refine q_val rfl rfl rfl (by intro w hw; exact x_indexAddr bk54 (off := 0) (n31 : Int) 2 (0 + n31 * 2) (by exact congrArg (fun z_ => Value.slice z_ E43.length cc42) ((fun (_ : 0 < 1) => hp56) (by omega))) rfl el_84 (by omega) rfl w) ?_
    refine q_cons (q_take rfl rfl ?_)
    refine q_val rfl rfl rfl (by intro w hw; exact x_fieldAddr 105 0 0 (0 + n31 * 2) 2 rfl fi_105_0 rfl w) ?_
    refine q_cons (q_take rfl rfl ?_)
    refine q_val rfl rfl rfl (by intro w hw; exact x_load (.int .i64 ((E43.getD n31 default).1.v)) ag_2 rfl (hw.blk_at (i := 4) rfl) (elem_cell (L := E43) (i := n31) hlCell_len (by rw [(rfl : E43.length = E43.length)]; exact h60) (by have hh : E43.length = E43.length := (rfl : E43.length = E43.length); omega) default 0 (by decide) _ rfl)) ?_
    refine q_cons (q_take rfl rfl ?_)
    refine q_val rfl rfl rfl (by intro w hw; exact x_neq false rfl rfl (ntrue (by rw [hx3])) w) ?_
    refine q_cons (q_val rfl rfl rfl (by intro w hw; exact x_pick_f (.bool false) rfl rfl w) ?_)
    refine q_cons (q_val rfl rfl rfl (by intro w hw; exact x_move (.bool false) rfl w) ?_)
    refine q_cons (q_take rfl rfl ?_)
    refine q_val rfl rfl rfl (by intro w hw; exact x_move (.slice x22.2.p x22.2.data.length x22.2.c) rfl w) ?_
    refine q_cons (q_take rfl rfl ?_)
    refine q_val rfl rfl rfl (by intro w hw; exact x_load (.pointer (some ⟨g2, 0, none⟩)) ag_51 rfl (hw.blk_at (i := 9) rfl) rfl) ?_
    refine q_cons (q_take rfl rfl ?_)
    refine q_val rfl rfl rfl (by intro w hw; exact x_nilCheck (.pointer (some ⟨g2, 0, none⟩)) rfl ⟨_, rfl⟩ w) ?_
    refine q_cons (q_take rfl rfl ?_)
    refine q_val rfl rfl rfl (by intro w hw; exact x_fieldAddr 86 5 6 6 84 rfl fi_86_5 rfl w) ?_
    refine q_cons (q_take rfl rfl ?_)
    refine q_val rfl rfl rfl (by intro w hw; exact x_load (.slice pp41 E43.length cc42) ag_84 rfl (hw.blk_at (i := 1) rfl) rfl) ?_
    refine q_cons (q_take rfl rfl ?_)
    refine q_val rfl rfl rfl (by intro w hw; exact x_load (.int .i64 (n31 : Int)) ag_3 rfl (hw.blk_at (i := 6) rfl) rfl) ?_
    refine q_cons (q_take rfl rfl ?_)
    refine q_val rfl rfl rfl (by intro w hw; exact x_indexAddr bk54 (off := 0) (n31 : Int) 2 (0 + n31 * 2) (by exact congrArg (fun z_ => Value.slice z_ E43.length cc42) ((fun (_ : 0 < 1) => hp56) (by omega))) rfl el_84 (by omega) rfl w) ?_
    refine q_cons (q_take rfl rfl ?_)
    refine q_val rfl rfl rfl (by intro w hw; exact x_fieldAddr 105 1 1 (0 + n31 * 2 + 1) 26 rfl fi_105_1 rfl w) ?_
    refine q_cons (q_take rfl rfl ?_)
    refine q_val rfl rfl rfl (by intro w hw; exact x_load (.slice ((E43.getD n31 default).2.p) ((E43.getD n31 default).2.data.length) ((E43.getD n31 default).2.c)) ag_26 rfl (hw.blk_at (i := 4) rfl) (elem_cell (L := E43) (i := n31) hlCell_len (by rw [(rfl : E43.length = E43.length)]; exact h60) (by have hh : E43.length = E43.length := (rfl : E43.length = E43.length); omega) default 1 (by decide) _ rfl)) ?_
    refine q_cons (q_take rfl rfl ?_)
    refine q_enter (args := #[.slice x22.2.p x22.2.data.length x22.2.c, .slice ((E43.getD n31 default).2.p) ((E43.getD n31 default).2.data.length) ((E43.getD n31 default).2.c)]) (v := .bool (decide (x22.2.data = ((E43.getD n31 default).2.data)))) rfl rfl rfl (x_call pl_34 [.slice x22.2.p x22.2.data.length x22.2.c, .slice ((E43.getD n31 default).2.p) ((E43.getD n31 default).2.data.length) ((E43.getD n31 default).2.c)] rfl) (fun w hw => bytes_Equal _ _ _ _ _ _ x22.2.data ((E43.getD n31 default).2.data) RdA.im RdA.im (j := 11) rfl (k := 0) rfl hw) ?_
    refine q_cons (q_take rfl rfl ?_)
    refine q_val rfl rfl rfl (by intro w hw; exact x_not (decide (x22.2.data = ((E43.getD n31 default).2.data))) rfl false (by rw [hq9]; rfl) w) ?_
    refine q_cons (q_val rfl rfl rfl (by intro w hw; exact x_pick_f (.bool false) rfl rfl w) ?_)
    refine q_nil ?_
    intro w63 H64
    refine g_false rfl ?_
    refine g_skip ?_
    refine g_seq ?_
    refine g_region ?_
    refine r_cons (s_load (.int .i64 (n31 : Int)) ag_3 rfl (H64.blk_at (i := 6) rfl) rfl rfl ?_)
    refine r_cons (s_add ((n31 + 1 : Nat) : Int) rfl rfl ((wi64 (by omega)).trans (by omega)) rfl ?_)
    refine r_cons (s_store H64 6 (.int .i64 ((n31 + 1 : Nat) : Int)) rfl rfl rfl sz_3 rfl (Nat.le_of_ble_eq_true rfl) rfl (cs' := #[.int .i64 ((n31 + 1 : Nat) : Int)]) rfl ?_); intro w65 H66
    refine r_nil ?_
    refine g_seq ?_
    refine g_region ?_
    refine r_cons (s_load (.int .i64 ((n31 + 1 : Nat) : Int)) ag_3 rfl (H66.blk_at (i := 6) rfl) rfl rfl ?_)
    refine r_cons (s_load (.int .i64 0) ag_3 rfl (H66.blk_at (i := 8) rfl) rfl rfl ?_)
    refine r_cons (s_eql false rfl rfl (dfalse (by omega)) rfl ?_)
    refine r_nil ?_
    refine g_false rfl ?_
    refine g_skip ?_
    refine g_inBlock ?_
    have H67 := Row.shut2 (p := pp41) (n := E43.length) (c := cc42) (size := 2) (xs := E43.flatMap hlCell) H66 (i := 4) rfl hp56 h57 h58 h59 (by have hh : (cur55.toList.drop 0).take (E43.length * 2) = E43.flatMap hlCell := (by rw [(rfl : E43.length = E43.length)]; exact h60); have hk : E43.length = E43.length := (rfl : E43.length = E43.length); rw [hk] at hh; exact hh) (fun x_ hx_ => by obtain ⟨a_, _, ha_⟩ := List.mem_flatMap.1 hx_; exact one_hl a_ x_ ha_)
    have H68 : St W w65 (blk g2 (.cells #[.int .i64 s.frm.v, .int .i64 s.to_.v, .int .i64 (s.slide : Int), .slice pp38 L40.length cc39, .int .i64 (s.acked : Int), .int .i64 ((i64N s.came).v), .slice pp41 E43.length cc42, .int .i64 (s.clock : Int), .bool s.owes] 86 (0, 0)) :: Row 101 3 (.slice pp38 L40.length cc39) L40.length (L40.flatMap bodCell) :: byA (L40.map BodD.by) :: Row 105 2 (.slice pp41 E43.length cc42) E43.length (E43.flatMap hlCell) :: byA (mby E43) :: Im 1 (.slice ((E43.getD n31 default).2.p) ((E43.getD n31 default).2.data.length) ((E43.getD n31 default).2.c)) (((E43.getD n31 default).2.data).length) (((E43.getD n31 default).2.data).flatMap u8c) :: blk bk10 (.cells #[.int .i64 ((n31 + 1 : Nat) : Int)] 3 (0, 0)) :: blk bk7 (.cells #[.bool false] 4 (0, 0)) :: blk bk4 (.cells #[.int .i64 0] 3 (0, 0)) :: blk bk1 (.cells #[.pointer (some ⟨g2, 0, none⟩)] 51 (0, 0)) :: blk l17 (.loop { r18 with state := .busy }) :: Im 1 (.slice x22.2.p x22.2.data.length x22.2.c) x22.2.data.length (x22.2.data.flatMap u8c) :: G20) := (((((H67.move 5 rfl).move 5 rfl).move 5 rfl).move 5 rfl).move 5 rfl)
    have H69 : St W w65 (RfA g2 s :: Im 1 (.slice ((E43.getD n31 default).2.p) ((E43.getD n31 default).2.data.length) ((E43.getD n31 default).2.c)) (((E43.getD n31 default).2.data).length) (((E43.getD n31 default).2.data).flatMap u8c) :: blk bk10 (.cells #[.int .i64 ((n31 + 1 : Nat) : Int)] 3 (0, 0)) :: blk bk7 (.cells #[.bool false] 4 (0, 0)) :: blk bk4 (.cells #[.int .i64 0] 3 (0, 0)) :: blk bk1 (.cells #[.pointer (some ⟨g2, 0, none⟩)] 51 (0, 0)) :: blk l17 (.loop { r18 with state := .busy }) :: Im 1 (.slice x22.2.p x22.2.data.length x22.2.c) x22.2.data.length (x22.2.data.flatMap u8c) :: G20) := St.shut_ex ⟨⟨pp38, cc39, L40, pp41, cc42, E43, A44⟩, hL45, hA46, hH47⟩ (St.shut_star (ls := [blk g2 (.cells #[.int .i64 s.frm.v, .int .i64 s.to_.v, .int .i64 (s.slide : Int), .slice pp38 L40.length cc39, .int .i64 (s.acked : Int), .int .i64 ((i64N s.came).v), .slice pp41 E43.length cc42, .int .i64 (s.clock : Int), .bool s.owes] 86 (0, 0)), Row 101 3 (.slice pp38 L40.length cc39) L40.length (L40.flatMap bodCell), byA (L40.map BodD.by), Row 105 2 (.slice pp41 E43.length cc42) E43.length (E43.flatMap hlCell), byA (mby E43)]) H68)
    have H70 : St W w65 (blk bk10 (.cells #[.int .i64 ((n31 + 1 : Nat) : Int)] 3 (0, 0)) :: blk bk7 (.cells #[.bool false] 4 (0, 0)) :: blk bk4 (.cells #[.int .i64 0] 3 (0, 0)) :: blk bk1 (.cells #[.pointer (some ⟨g2, 0, none⟩)] 51 (0, 0)) :: RfA g2 s :: Im 1 (.slice ((E43.getD n31 default).2.p) ((E43.getD n31 default).2.data.length) ((E43.getD n31 default).2.c)) (((E43.getD n31 default).2.data).length) (((E43.getD n31 default).2.data).flatMap u8c) :: blk l17 (.loop { r18 with state := .busy }) :: Im 1 (.slice x22.2.p x22.2.data.length x22.2.c) x22.2.data.length (x22.2.data.flatMap u8c) :: G20) := ((((H69.move 5 rfl).move 5 rfl).move 5 rfl).move 5 rfl)
    have H71 : St W w65 (blk bk10 (.cells #[.int .i64 ((pre21 ++ [x22]).length : Int)] 3 (0, 0)) :: blk bk7 (.cells #[.bool false] 4 (0, 0)) :: blk bk4 (.cells #[.int .i64 0] 3 (0, 0)) :: blk bk1 (.cells #[.pointer (some ⟨g2, 0, none⟩)] 51 (0, 0)) :: RfA g2 s :: Im 1 (.slice ((E43.getD n31 default).2.p) ((E43.getD n31 default).2.data.length) ((E43.getD n31 default).2.c)) (((E43.getD n31 default).2.data).length) (((E43.getD n31 default).2.data).flatMap u8c) :: blk l17 (.loop { r18 with state := .busy }) :: Im 1 (.slice x22.2.p x22.2.data.length x22.2.c) x22.2.data.length (x22.2.data.flatMap u8c) :: G20) := by rw [show (pre21 ++ [x22]).length = n31 + 1 from by rw [hn32]; simp]; exact H70
    have H72 : St W w65 (star [pure' (True), blk bk10 (.cells #[.int .i64 ((pre21 ++ [x22]).length : Int)] 3 (0, 0)), blk bk7 (.cells #[.bool false] 4 (0, 0)), blk bk4 (.cells #[.int .i64 0] 3 (0, 0)), blk bk1 (.cells #[.pointer (some ⟨g2, 0, none⟩)] 51 (0, 0)), RfA g2 s] :: Im 1 (.slice ((E43.getD n31 default).2.p) ((E43.getD n31 default).2.data.length) ((E43.getD n31 default).2.c)) (((E43.getD n31 default).2.data).length) (((E43.getD n31 default).2.data).flatMap u8c) :: blk l17 (.loop { r18 with state := .busy }) :: Im 1 (.slice x22.2.p x22.2.data.length x22.2.c) x22.2.data.length (x22.2.data.flatMap u8c) :: G20) := St.shut_star (ls := [pure' (True), blk bk10 (.cells #[.int .i64 ((pre21 ++ [x22]).length : Int)] 3 (0, 0)), blk bk7 (.cells #[.bool false] 4 (0, 0)), blk bk4 (.cells #[.int .i64 0] 3 (0, 0)), blk bk1 (.cells #[.pointer (some ⟨g2, 0, none⟩)] 51 (0, 0)), RfA g2 s]) (St.shut_pure trivial H71)
    have H73 : St W w65 (blk l17 (.loop { r18 with state := .busy }) :: star [pure' (True), blk bk10 (.cells #[.int .i64 ((pre21 ++ [x22]).length : Int)] 3 (0, 0)), blk bk7 (.cells #[.bool false] 4 (0, 0)), blk bk4 (.cells #[.int .i64 0] 3 (0, 0)), blk bk1 (.cells #[.pointer (some ⟨g2, 0, none⟩)] 51 (0, 0)), RfA g2 s] :: G20) := (((H72.move 2 rfl).drop 2 rfl).drop 2 rfl)
    refine g_round_end hr23 hr24 H73 (i := 0) rfl ?_; intro w74 H75
    exact .inl ⟨rfl, H75⟩
  · intro l J Jx B w H hY; exact Held_it g bx l s hv hN0 J Jx (i := 2) rfl (k := 1) rfl hY H
  · intro D76 L77 w78 hS79 H80
    have H82 : St W w78 (star [pure' (True), blk bk10 (.cells #[.int .i64 (L77.length : Int)] 3 (0, 0)), blk bk7 (.cells #[.bool false] 4 (0, 0)), blk bk4 (.cells #[.int .i64 0] 3 (0, 0)), blk bk1 (.cells #[.pointer (some ⟨g2, 0, none⟩)] 51 (0, 0)), RfA g2 s] :: blk D76 (.deferred (some [])) :: LkA g s :: imm bx (.cells #[.pointer (some ⟨g, 0, none⟩)] 30 (0, 0)) :: F) := H80
    obtain ⟨hpre83, H84⟩ := St.open_pure (St.open_star H82)
    obtain ⟨n85, hn86⟩ : ∃ n : Nat, n = L77.length := ⟨_, rfl⟩
    have H87 : St W w78 (blk bk10 (.cells #[.int .i64 (n85 : Int)] 3 (0, 0)) :: blk bk7 (.cells #[.bool false] 4 (0, 0)) :: blk bk4 (.cells #[.int .i64 0] 3 (0, 0)) :: blk bk1 (.cells #[.pointer (some ⟨g2, 0, none⟩)] 51 (0, 0)) :: RfA g2 s :: blk D76 (.deferred (some [])) :: LkA g s :: imm bx (.cells #[.pointer (some ⟨g, 0, none⟩)] 30 (0, 0)) :: F) := by rw [hn86]; exact H84
    have hend : n85 = s.held.length := by have h8 := congrArg List.length hS79; rw [sH_len, mapB_len rfl] at h8; omega
    refine g_inBlock ?_
    refine g_seq ?_
    have H88 : St W w78 (blk bk10 (.cells #[.int .i64 (n85 : Int)] 3 (0, 0)) :: blk bk4 (.cells #[.int .i64 0] 3 (0, 0)) :: blk bk1 (.cells #[.pointer (some ⟨g2, 0, none⟩)] 51 (0, 0)) :: blk D76 (.deferred (some [])) :: LkA g s :: imm bx (.cells #[.pointer (some ⟨g, 0, none⟩)] 30 (0, 0)) :: blk bk7 (.cells #[.bool false] 4 (0, 0)) :: RfA g2 s :: F) := ((((((((H87.move 4 rfl).move 2 rfl).move 7 rfl).move 7 rfl).move 7 rfl).move 7 rfl).move 7 rfl).move 7 rfl)
    refine g_mix (fun t_ w => St W w (blk bk10 (.cells #[.int .i64 (n85 : Int)] 3 (0, 0)) :: blk bk4 (.cells #[.int .i64 0] 3 (0, 0)) :: blk bk1 (.cells #[.pointer (some ⟨g2, 0, none⟩)] 51 (0, 0)) :: blk D76 (.deferred (some [])) :: LkA g s :: imm bx (.cells #[.pointer (some ⟨g, 0, none⟩)] 30 (0, 0)) :: t_)) (blk bk7 (.cells #[.bool false] 4 (0, 0)) :: RfA g2 s :: F) mixed 8 rfl H88.drew ?_
    refine f_first 0 (listed' := #[true, false, false, false, false, false, false, false]) rfl (by kernel_rfl) (by kernel_rfl) (by kernel_rfl) rfl ?_
    refine f_val rfl rfl rfl (by intro t_ w hw; exact x_load (.int .i64 (n85 : Int)) ag_3 rfl (hw.blk_at (i := 0) rfl) rfl) ?_
    refine f_first 1 (listed' := #[true, true, false, false, false, false, false, false]) rfl (by kernel_rfl) (by kernel_rfl) (by kernel_rfl) rfl ?_
    refine f_val rfl rfl rfl (by intro t_ w hw; exact x_load (.pointer (some ⟨g2, 0, none⟩)) ag_51 rfl (hw.blk_at (i := 2) rfl) rfl) ?_
    refine f_first 2 (listed' := #[true, true, true, false, false, false, false, false]) rfl (by kernel_rfl) (by kernel_rfl) (by kernel_rfl) rfl ?_
    refine f_val rfl rfl rfl (by intro t_ w hw; exact x_nilCheck (.pointer (some ⟨g2, 0, none⟩)) rfl ⟨_, rfl⟩ w) ?_
    refine f_first 3 (listed' := #[true, true, true, true, false, false, false, false]) rfl (by kernel_rfl) (by kernel_rfl) (by kernel_rfl) rfl ?_
    refine f_val rfl rfl rfl (by intro t_ w hw; exact x_fieldAddr 86 5 6 6 84 rfl fi_86_5 rfl w) ?_
    refine f_all (rs := [4]) (by kernel_rfl) (by simp) ?_
    refine a_cons ⟨_, rfl, ?_⟩ (fun x hx => absurd hx (by simp))
    intro w89 H90
    try dsimp only at H90
    have H91 := H90.move 7 rfl
    obtain ⟨⟨⟨pp92, cc93, L94, pp95, cc96, E97, A98⟩, hL99, hA100, hH101⟩, H102⟩ := St.open_ex H91
    have H103 := St.open_star H102
    change L94.map BodD.v = A98 ++ s.l at hL99; change A98.length = s.acked at hA100; change HR s.held (mapB E97) at hH101
    have hl104 := refLen hL99 hA100; have hh105 : E97.length = s.held.length := by have h9 := hH101.len; rw [mapB_len rfl] at h9; exact h9
    have H106 : St W w89 (blk g2 (.cells #[.int .i64 s.frm.v, .int .i64 s.to_.v, .int .i64 (s.slide : Int), .slice pp92 L94.length cc93, .int .i64 (s.acked : Int), .int .i64 ((i64N s.came).v), .slice pp95 E97.length cc96, .int .i64 (s.clock : Int), .bool s.owes] 86 (0, 0)) :: Row 101 3 (.slice pp92 L94.length cc93) L94.length (L94.flatMap bodCell) :: byA (L94.map BodD.by) :: Row 105 2 (.slice pp95 E97.length cc96) E97.length (E97.flatMap hlCell) :: byA (mby E97) :: blk bk10 (.cells #[.int .i64 (n85 : Int)] 3 (0, 0)) :: blk bk4 (.cells #[.int .i64 0] 3 (0, 0)) :: blk bk1 (.cells #[.pointer (some ⟨g2, 0, none⟩)] 51 (0, 0)) :: blk D76 (.deferred (some [])) :: LkA g s :: imm bx (.cells #[.pointer (some ⟨g, 0, none⟩)] 30 (0, 0)) :: blk bk7 (.cells #[.bool false] 4 (0, 0)) :: F) := H103
    refine s_load (.slice pp95 E97.length cc96) ag_84 rfl (H106.blk_at (i := 0) rfl) rfl rfl ?_
    have H107 : St W w89 (RfA g2 s :: blk bk10 (.cells #[.int .i64 (n85 : Int)] 3 (0, 0)) :: blk bk4 (.cells #[.int .i64 0] 3 (0, 0)) :: blk bk1 (.cells #[.pointer (some ⟨g2, 0, none⟩)] 51 (0, 0)) :: blk D76 (.deferred (some [])) :: LkA g s :: imm bx (.cells #[.pointer (some ⟨g, 0, none⟩)] 30 (0, 0)) :: blk bk7 (.cells #[.bool false] 4 (0, 0)) :: F) := St.shut_ex ⟨⟨pp92, cc93, L94, pp95, cc96, E97, A98⟩, hL99, hA100, hH101⟩ (St.shut_star (ls := [blk g2 (.cells #[.int .i64 s.frm.v, .int .i64 s.to_.v, .int .i64 (s.slide : Int), .slice pp92 L94.length cc93, .int .i64 (s.acked : Int), .int .i64 ((i64N s.came).v), .slice pp95 E97.length cc96, .int .i64 (s.clock : Int), .bool s.owes] 86 (0, 0)), Row 101 3 (.slice pp92 L94.length cc93) L94.length (L94.flatMap bodCell), byA (L94.map BodD.by), Row 105 2 (.slice pp95 E97.length cc96) E97.length (E97.flatMap hlCell), byA (mby E97)]) H106)
    have H108 : St W w89 (blk bk10 (.cells #[.int .i64 (n85 : Int)] 3 (0, 0)) :: blk bk4 (.cells #[.int .i64 0] 3 (0, 0)) :: blk bk1 (.cells #[.pointer (some ⟨g2, 0, none⟩)] 51 (0, 0)) :: blk D76 (.deferred (some [])) :: LkA g s :: imm bx (.cells #[.pointer (some ⟨g, 0, none⟩)] 30 (0, 0)) :: RfA g2 s :: blk bk7 (.cells #[.bool false] 4 (0, 0)) :: F) := ((((((((H107.move 7 rfl).move 1 rfl).move 7 rfl).move 7 rfl).move 7 rfl).move 7 rfl).move 7 rfl).move 7 rfl)
    refine ⟨RfA g2 s :: blk bk7 (.cells #[.bool false] 4 (0, 0)) :: F, ?_, H108⟩
    change FReg _ _ _ _ _ #[true, true, true, true, true, false, false, false] _ _
    refine f_first 5 (listed' := #[true, true, true, true, true, true, false, false]) rfl (by kernel_rfl) (by kernel_rfl) (by kernel_rfl) rfl ?_
    refine f_val rfl rfl rfl (by intro t_ w hw; exact x_len E97.length rfl ⟨_, un_84⟩ w) ?_
    refine f_first 6 (listed' := #[true, true, true, true, true, true, true, false]) rfl (by kernel_rfl) (by kernel_rfl) (by kernel_rfl) rfl ?_
    refine f_val rfl rfl rfl (by intro t_ w hw; exact x_eql true rfl rfl (dtrue (by omega)) w) ?_
    refine f_all (rs := [7]) (by kernel_rfl) (by simp) ?_
    refine a_cons ⟨_, rfl, ?_⟩ (fun x hx => absurd hx (by simp))
    intro w109 H110
    try dsimp only at H110
    refine s_store H110 7 (.bool true) rfl rfl rfl sz_4 rfl (Nat.le_of_ble_eq_true rfl) rfl (cs' := #[.bool true]) rfl ?_; intro w111 H112
    refine ⟨RfA g2 s :: blk bk7 (.cells #[.bool true] 4 (0, 0)) :: F, ?_, H112⟩
    change FReg _ _ _ _ _ #[true, true, true, true, true, true, true, true] _ _
    refine f_done (by kernel_rfl) ?_
    intro w113 H114
    obtain ⟨hd115, H116⟩ := H114.collect (i := 3) rfl
    refine g_retD _ [.bool true] Try.func45 Try.results45 rfl ⟨hd115, trivial⟩ ⟨(res_cell1 rfl ag_4 (H116.blk_at (i := 6) rfl) rfl), trivial⟩ ?_
    have H117 : St W (w113.putObj D76 (.deferred none)) (LkA g s :: RfA g2 s :: F) := (((((((H116.move 5 rfl).move 4 rfl).drop 2 rfl).drop 2 rfl).drop 2 rfl).drop 2 rfl).drop 2 rfl)
    exact ⟨rfl, H117⟩
  · intro D118 c123 L119 w120 hS121 H122
    have H124 : St W w120 (star [pure' (False), blk bk7 (.cells #[.bool true] 4 (0, 0)), RfA g2 s] :: blk D118 (.deferred (some [])) :: LkA g s :: imm bx (.cells #[.pointer (some ⟨g, 0, none⟩)] 30 (0, 0)) :: F) := H122
    obtain ⟨hc125, H126⟩ := St.open_pure (St.open_star H124)
    exact hc125.elim
end Sl
