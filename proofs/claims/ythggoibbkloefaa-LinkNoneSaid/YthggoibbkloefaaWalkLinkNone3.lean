/- Walks of the program's functions. Printed by a program of this claim's author. No condition. -/
import Derived.Test.YthggoibbkloefaaSlBF
import Derived.Test.YthggoibbkloefaaSlQ
import Derived.Test.YthggoibbkloefaaSlG
import Derived.Test.YthggoibbkloefaaSlBB
import Derived.Test.YthggoibbkloefaaSlAB
import Derived.Test.YthggoibbkloefaaSlDC
import Derived.Test.YthggoibbkloefaaSlDJ
import Derived.Test.YthggoibbkloefaaSlEC
import Derived.Test.YthggoibbkloefaaSlBA
import Derived.Test.YthggoibbkloefaaSlEE
import Derived.Test.YthggoibbkloefaaSlEF
import Derived.Test.YthggoibbkloefaaProg
import Derived.Test.YthggoibbkloefaaWalkLinkNone2
namespace Sl
open _root_.Go _root_.Go.RowKit _root_.Go.Proofs
set_option linter.all false
set_option maxHeartbeats 4000000 in
set_option maxRecDepth 100000 in
theorem Rf_Take {W w : World} {F : List Atom} (g : Nat) (s : EndV) (hv : LInv s) (d : DgM) (v0 : Value) (hN : s.held.length ≤ 1099511627776) {i : Nat} (hi : F[i]? = some (RfA g s)) {A : Atom} (hA : RdA A 1 v0 d.body.length (d.body.flatMap u8c)) {j : Nat} (hj : (F.set i emp)[j]? = some A) (H : St W w F) : Calls Try.prog 41 #[.pointer (some ⟨g, 0, none⟩), .agg #[.int .i64 d.frm.v, .int .i64 d.to_.v, .int .i64 d.kind.v, .int .i64 d.seq.v, .int .i64 d.ack.v, v0]] w (Ret fun v w' => ∃ p c, v = .tuple #[.slice p ((takeT s d).length) c, .int .i64 (takeE s d)] ∧ St W w' (BysA p c (takeT s d) :: F.set i (RfA g (takeS s d)))) := by
 have H0 := H.front hi
 have hml := (hA _ _ _ (j + 1) H0 (by exact hj)).2
 obtain ⟨pp1, cc2, rfl, hn3⟩ := Rd.shape (hA _ _ _ (j + 1) H0 (by exact hj)).1
 obtain ⟨o1, o2, o3, o4, o5, o6, o8⟩ := id hv.ok; have o7 := i64N_0 (Nat.le_trans o4 (by decide))
 refine calls_of_go (n := 200) Try.func41 rfl Try.ntmps41 rfl ?_
 refine g_seq ?_
 refine g_region ?_
 refine r_cons (s_box H0 41 (.agg #[.int .i64 d.frm.v, .int .i64 d.to_.v, .int .i64 d.kind.v, .int .i64 d.seq.v, .int .i64 d.ack.v, .slice pp1 d.body.length cc2]) rfl (cs := #[.int .i64 d.frm.v, .int .i64 d.to_.v, .int .i64 d.kind.v, .int .i64 d.seq.v, .int .i64 d.ack.v, .slice pp1 d.body.length cc2]) rfl rfl ?_); intro bk4 w5 H6
 refine r_cons (s_assign (.slice none 0 0) rfl rfl ?_)
 refine r_cons (s_assign (.int .i64 0) rfl rfl ?_)
 refine r_nil ?_
 refine g_seq ?_
 refine g_seq ?_
 refine g_region ?_
 refine r_cons (s_loadAgg [.int .i64 d.frm.v, .int .i64 d.to_.v, .int .i64 d.kind.v, .int .i64 d.seq.v, .int .i64 d.ack.v, .slice pp1 d.body.length cc2] 6 ag_41 rfl (H6.blk_at (i := 0) rfl) (nbl rfl) rfl rfl ?_)
 refine r_cons (s_call [.agg #[.int .i64 d.frm.v, .int .i64 d.to_.v, .int .i64 d.kind.v, .int .i64 d.seq.v, .int .i64 d.ack.v, .slice pp1 d.body.length cc2]] pl_57 rfl rfl (eyrieref02_Check d _ hA (j := j + 2) (by exact hj) H6) ?_)
 rintro _ w7 ⟨rfl, H8⟩
 refine r_cons (s_assign (.int .i64 (dgE d)) rfl rfl ?_)
 refine r_nil ?_
 refine g_seq ?_
 refine g_region ?_
 refine r_cons (s_move (.int .i64 (dgE d)) rfl rfl ?_)
 by_cases hc9 : dgE d = 0
 ·skip
  refine r_cons (s_neq false rfl rfl (ntrue hc9) rfl ?_)
  refine r_nil ?_
  refine g_false rfl ?_
  refine g_skip ?_
  refine g_seq ?_
  refine g_seq ?_
  have hd0 : dgE d = 0 := by omega
  obtain ⟨q1, q2, q3, q4, q5, q6⟩ := dgE_seq hd0
  have H10 := H8.move 1 rfl
  obtain ⟨⟨⟨pp11, cc12, L13, pp14, cc15, E16, A17⟩, hL18, hA19, hH20⟩, H21⟩ := St.open_ex H10
  have H22 := St.open_star H21
  change L13.map BodD.v = A17 ++ s.l at hL18; change A17.length = s.acked at hA19; change HR s.held (mapB E16) at hH20
  have hl23 := refLen hL18 hA19; have hh24 : E16.length = s.held.length := by have h9 := hH20.len; rw [mapB_len rfl] at h9; exact h9
  have H25 : St W w7 (blk g (rfC s (.slice pp11 L13.length cc12) (.slice pp14 E16.length cc15)) :: Row 101 3 (.slice pp11 L13.length cc12) L13.length (L13.flatMap bodCell) :: byA (L13.map BodD.by) :: Row 105 2 (.slice pp14 E16.length cc15) E16.length (E16.flatMap hlCell) :: byA (mby E16) :: blk bk4 (.cells #[.int .i64 d.frm.v, .int .i64 d.to_.v, .int .i64 d.kind.v, .int .i64 d.seq.v, .int .i64 d.ack.v, .slice pp1 d.body.length cc2] 41 (0, 0)) :: (F.set i emp)) := H22
  have hu0 := under_le s
  refine g_cut (fun (x_ : Unit) => match x_ with | z_ => [(0, .pointer (some ⟨g, 0, none⟩)), (3, .pointer (some ⟨bk4, 0, none⟩)), (4, .slice none 0 0), (5, .int .i64 0), (56, .bool (stray s d))]) (fun (x_ : Unit) w => match x_ with | z_ => (True) ∧ St W w (blk g (rfC s (.slice pp11 L13.length cc12) (.slice pp14 E16.length cc15)) :: Row 101 3 (.slice pp11 L13.length cc12) L13.length (L13.flatMap bodCell) :: byA (L13.map BodD.by) :: Row 105 2 (.slice pp14 E16.length cc15) E16.length (E16.flatMap hlCell) :: byA (mby E16) :: blk bk4 (.cells #[.int .i64 d.frm.v, .int .i64 d.to_.v, .int .i64 d.kind.v, .int .i64 d.seq.v, .int .i64 d.ack.v, .slice pp1 d.body.length cc2] 41 (0, 0)) :: (F.set i emp))) ?_ ?_
  ·rintro z_ ρ29 w27 ⟨hz_, H28⟩
   change Ends _ _ (upds ρ29 [(0, .pointer (some ⟨g, 0, none⟩)), (3, .pointer (some ⟨bk4, 0, none⟩)), (4, .slice none 0 0), (5, .int .i64 0), (56, .bool (stray s d))]) w27
   by_cases hb30 : (stray s d) = true
   ·skip
    refine g_true (congrArg Value.bool hb30) ?_
    refine g_seq ?_
    refine g_region ?_
    refine r_cons (s_assign (.slice none 0 0) rfl rfl ?_)
    refine r_cons (s_assign (.int .i64 210) rfl rfl ?_)
    refine r_nil ?_
    refine g_ret' [.slice none 0 0, .int .i64 210] Try.func41 Try.results41 ⟨rfl, rfl, trivial⟩ ?_
    have H31 : St W w27 (RfA g s :: blk bk4 (.cells #[.int .i64 d.frm.v, .int .i64 d.to_.v, .int .i64 d.kind.v, .int .i64 d.seq.v, .int .i64 d.ack.v, .slice pp1 d.body.length cc2] 41 (0, 0)) :: (F.set i emp)) := St.shut_ex ⟨⟨pp11, cc12, L13, pp14, cc15, E16, A17⟩, hL18, hA19, hH20⟩ (St.shut_star (ls := [_, _, _, _, _]) H28)
    have hE : takeE s d = 210 := takeE_210 hd0 (by assumption)
    have hE0 : ¬ takeE s d = 0 := by omega
    have H32 := Row.nil_intro H31 26 1
    have H33 := byA_nil H32
    have H34 : St W w27 (Row 26 1 (.slice none 0 0) 0 [] :: byA ([] : List BytesD) :: RfA g s :: blk bk4 (.cells #[.int .i64 d.frm.v, .int .i64 d.to_.v, .int .i64 d.kind.v, .int .i64 d.seq.v, .int .i64 d.ack.v, .slice pp1 d.body.length cc2] 41 (0, 0)) :: (F.set i emp)) := (H33.move 1 rfl)
    have hT9 : takeT s d = [] := takeT_no (fun h => hE0 h.1)
    have H35 : St W w27 (BysA none 0 (takeT s d) :: RfA g s :: blk bk4 (.cells #[.int .i64 d.frm.v, .int .i64 d.to_.v, .int .i64 d.kind.v, .int .i64 d.seq.v, .int .i64 d.ack.v, .slice pp1 d.body.length cc2] 41 (0, 0)) :: (F.set i emp)) := by rw [hT9]; exact St.shut_ex ⟨[], rfl⟩ (St.shut_star (ls := [_, _]) H34)
    have H36 : St W w27 (BysA none 0 (takeT s d) :: RfA g (takeS s d) :: blk bk4 (.cells #[.int .i64 d.frm.v, .int .i64 d.to_.v, .int .i64 d.kind.v, .int .i64 d.seq.v, .int .i64 d.ack.v, .slice pp1 d.body.length cc2] 41 (0, 0)) :: (F.set i emp)) := by rw [takeS_no hE0]; exact H35
    have H37 : St W w27 (BysA none 0 (takeT s d) :: RfA g (takeS s d) :: (F.set i emp)) := (((H36.move 1 rfl).move 1 rfl).drop 2 rfl)
    have H38 : St W w27 (RfA g (takeS s d) :: (BysA none 0 (takeT s d) :: F).set (i + 1) emp) := (H37.move 1 rfl)
    exact ⟨none, 0, by rw [hE, hT9]; rfl, St.back (i := i + 1) (by exact hi) H38⟩
   ·have hb30 := eq_false_of_ne_true hb30
    refine g_false (congrArg Value.bool hb30) ?_
    refine g_skip ?_
    refine g_seq ?_
    have hst : stray s d = false := by assumption
    have hE : takeE s d = 0 := takeE_is hd0 hst
    have hs9 := stray_not hst
    have H39 : St W w27 (Row 101 3 (.slice pp11 L13.length cc12) L13.length (L13.flatMap bodCell) :: byA (L13.map BodD.by) :: Row 105 2 (.slice pp14 E16.length cc15) E16.length (E16.flatMap hlCell) :: byA (mby E16) :: blk bk4 (.cells #[.int .i64 d.frm.v, .int .i64 d.to_.v, .int .i64 d.kind.v, .int .i64 d.seq.v, .int .i64 d.ack.v, .slice pp1 d.body.length cc2] 41 (0, 0)) :: blk g (rfC s (.slice pp11 L13.length cc12) (.slice pp14 E16.length cc15)) :: (F.set i emp)) := (((((H28.move 5 rfl).move 5 rfl).move 5 rfl).move 5 rfl).move 5 rfl)
    refine g_mix (fun t_ w => St W w (Row 101 3 (.slice pp11 L13.length cc12) L13.length (L13.flatMap bodCell) :: byA (L13.map BodD.by) :: Row 105 2 (.slice pp14 E16.length cc15) E16.length (E16.flatMap hlCell) :: byA (mby E16) :: blk bk4 (.cells #[.int .i64 d.frm.v, .int .i64 d.to_.v, .int .i64 d.kind.v, .int .i64 d.seq.v, .int .i64 d.ack.v, .slice pp1 d.body.length cc2] 41 (0, 0)) :: t_)) (blk g (rfC s (.slice pp11 L13.length cc12) (.slice pp14 E16.length cc15)) :: (F.set i emp)) mixed 11 rfl H39.drew ?_
    refine f_first 0 (listed' := #[true, false, false, false, false, false, false, false, false, false, false]) rfl (by kernel_rfl) (by kernel_rfl) (by kernel_rfl) rfl ?_
    refine f_val rfl rfl rfl (by intro _ w _; exact x_move (.pointer (some ⟨g, 0, none⟩)) rfl w) ?_
    refine f_first 1 (listed' := #[true, true, false, false, false, false, false, false, false, false, false]) rfl (by kernel_rfl) (by kernel_rfl) (by kernel_rfl) rfl ?_
    refine f_val rfl rfl rfl (by intro _ w _; exact x_move (.pointer (some ⟨g, 0, none⟩)) rfl w) ?_
    refine f_first 2 (listed' := #[true, true, true, false, false, false, false, false, false, false, false]) rfl (by kernel_rfl) (by kernel_rfl) (by kernel_rfl) rfl ?_
    refine f_val rfl rfl rfl (by intro t_ w hw; exact x_nilCheck (.pointer (some ⟨g, 0, none⟩)) rfl ⟨_, rfl⟩ w) ?_
    refine f_first 3 (listed' := #[true, true, true, true, false, false, false, false, false, false, false]) rfl (by kernel_rfl) (by kernel_rfl) (by kernel_rfl) rfl ?_
    refine f_val rfl rfl rfl (by intro t_ w hw; exact x_fieldAddr 86 3 4 4 2 rfl fi_86_3 rfl w) ?_
    refine f_first 5 (listed' := #[true, true, true, true, false, true, false, false, false, false, false]) rfl (by kernel_rfl) (by kernel_rfl) (by kernel_rfl) rfl ?_
    refine f_val rfl rfl rfl (by intro t_ w hw; exact x_fieldAddr 41 4 4 4 2 rfl fi_41_4 rfl w) ?_
    refine f_first 6 (listed' := #[true, true, true, true, false, true, true, false, false, false, false]) rfl (by kernel_rfl) (by kernel_rfl) (by kernel_rfl) rfl ?_
    refine f_val rfl rfl rfl (by intro t_ w hw; exact x_load (.int .i64 d.ack.v) ag_2 rfl (hw.blk_at (i := 4) rfl) rfl) ?_
    refine f_all (rs := [4]) (by kernel_rfl) (by simp) ?_
    refine a_cons ⟨_, rfl, ?_⟩ (fun x hx => absurd hx (by simp))
    intro w40 H41
    try dsimp only at H41
    refine s_load (.int .i64 (s.acked : Int)) ag_2 rfl (H41.blk_at (i := 5) rfl) rfl rfl ?_
    refine ⟨blk g (rfC s (.slice pp11 L13.length cc12) (.slice pp14 E16.length cc15)) :: (F.set i emp), ?_, H41⟩
    change FReg _ _ _ _ _ #[true, true, true, true, true, true, true, false, false, false, false] _ _
    refine f_first 7 (listed' := #[true, true, true, true, true, true, true, true, false, false, false]) rfl (by kernel_rfl) (by kernel_rfl) (by kernel_rfl) rfl ?_
    refine f_val rfl rfl rfl (by intro t_ w hw; exact x_max2 ((ackS s d.ack.v).acked : Int) rfl rfl (ackS_max q3) w) ?_
    refine f_first 8 (listed' := #[true, true, true, true, true, true, true, true, true, false, false]) rfl (by kernel_rfl) (by kernel_rfl) (by kernel_rfl) rfl ?_
    refine f_val rfl rfl rfl (by intro t_ w hw; exact x_nilCheck (.pointer (some ⟨g, 0, none⟩)) rfl ⟨_, rfl⟩ w) ?_
    refine f_first 9 (listed' := #[true, true, true, true, true, true, true, true, true, true, false]) rfl (by kernel_rfl) (by kernel_rfl) (by kernel_rfl) rfl ?_
    refine f_val rfl rfl rfl (by intro t_ w hw; exact x_fieldAddr 86 3 4 4 2 rfl fi_86_3 rfl w) ?_
    refine f_all (rs := [10]) (by kernel_rfl) (by simp) ?_
    refine a_cons ⟨_, rfl, ?_⟩ (fun x hx => absurd hx (by simp))
    intro w42 H43
    try dsimp only at H43
    refine s_store H43 5 (.int .i64 ((ackS s d.ack.v).acked : Int)) rfl rfl rfl sz_2 rfl (nbl rfl) rfl (cs' := #[.int .i64 s.frm.v, .int .i64 s.to_.v, .int .i64 (s.slide : Int), .slice pp11 L13.length cc12, .int .i64 ((ackS s d.ack.v).acked : Int), .int .i64 ((i64N s.came).v), .slice pp14 E16.length cc15, .int .i64 (s.clock : Int), .bool s.owes]) rfl ?_; intro w44 H45
    refine ⟨blk g (.cells #[.int .i64 s.frm.v, .int .i64 s.to_.v, .int .i64 (s.slide : Int), .slice pp11 L13.length cc12, .int .i64 ((ackS s d.ack.v).acked : Int), .int .i64 ((i64N s.came).v), .slice pp14 E16.length cc15, .int .i64 (s.clock : Int), .bool s.owes] 86 (0, 0)) :: (F.set i emp), ?_, H45⟩
    change FReg _ _ _ _ _ #[true, true, true, true, true, true, true, true, true, true, true] _ _
    refine f_done (by kernel_rfl) ?_
    intro w46 H47
    refine g_seq ?_
    refine g_seq ?_
    refine g_region ?_
    refine r_cons (s_fieldAddr 41 2 2 2 3 rfl fi_41_2 rfl rfl ?_)
    obtain ⟨A9, hL9, hA9⟩ := refAck (a := d.ack.v) hL18 hA19 (by omega)
    have hca := ackS_came s d.ack.v; have hhe := ackS_held s d.ack.v; have hcy : (i64N (ackS s d.ack.v).came).v = (s.came : Int) := by rw [hca]; exact o7
    have H48 : St W w46 (blk g (.cells #[.int .i64 s.frm.v, .int .i64 s.to_.v, .int .i64 (s.slide : Int), .slice pp11 L13.length cc12, .int .i64 ((ackS s d.ack.v).acked : Int), .int .i64 ((i64N s.came).v), .slice pp14 E16.length cc15, .int .i64 (s.clock : Int), .bool s.owes] 86 (0, 0)) :: Row 101 3 (.slice pp11 L13.length cc12) L13.length (L13.flatMap bodCell) :: byA (L13.map BodD.by) :: Row 105 2 (.slice pp14 E16.length cc15) E16.length (E16.flatMap hlCell) :: byA (mby E16) :: blk bk4 (.cells #[.int .i64 d.frm.v, .int .i64 d.to_.v, .int .i64 d.kind.v, .int .i64 d.seq.v, .int .i64 d.ack.v, .slice pp1 d.body.length cc2] 41 (0, 0)) :: (F.set i emp)) := (((((H47.move 3 rfl).move 3 rfl).move 3 rfl).move 3 rfl).move 5 rfl)
    have H49 : St W w46 (RfA g ({ s with l := (ackS s d.ack.v).l, acked := (ackS s d.ack.v).acked } : EndV) :: blk bk4 (.cells #[.int .i64 d.frm.v, .int .i64 d.to_.v, .int .i64 d.kind.v, .int .i64 d.seq.v, .int .i64 d.ack.v, .slice pp1 d.body.length cc2] 41 (0, 0)) :: (F.set i emp)) := St.shut_ex ⟨⟨pp11, cc12, L13, pp14, cc15, E16, A9⟩, hL9, hA9, hH20⟩ (St.shut_star (ls := [_, _, _, _, _]) H48)
    have H50 : St W w46 (RfA g (ackS s d.ack.v) :: blk bk4 (.cells #[.int .i64 d.frm.v, .int .i64 d.to_.v, .int .i64 d.kind.v, .int .i64 d.seq.v, .int .i64 d.ack.v, .slice pp1 d.body.length cc2] 41 (0, 0)) :: (F.set i emp)) := by have hx := H49; rw [ackS_is s d.ack.v] at hx; exact hx
    refine r_cons (s_load (.int .i64 d.kind.v) ag_3 rfl (H50.blk_at (i := 1) rfl) rfl rfl ?_)
    by_cases hc51 : d.kind.v = 2
    ·skip
     refine r_cons (s_eql true rfl rfl (dtrue hc51) rfl ?_)
     refine r_nil ?_
     refine g_true rfl ?_
     refine g_seq ?_
     refine g_region ?_
     refine r_cons (s_assign (.slice none 0 0) rfl rfl ?_)
     refine r_cons (s_assign (.int .i64 0) rfl rfl ?_)
     refine r_nil ?_
     refine g_ret' [.slice none 0 0, .int .i64 0] Try.func41 Try.results41 ⟨rfl, rfl, trivial⟩ ?_
     have H52 := Row.nil_intro H50 26 1
     have H53 := byA_nil H52
     have H54 : St W w46 (Row 26 1 (.slice none 0 0) 0 [] :: byA ([] : List BytesD) :: RfA g (ackS s d.ack.v) :: blk bk4 (.cells #[.int .i64 d.frm.v, .int .i64 d.to_.v, .int .i64 d.kind.v, .int .i64 d.seq.v, .int .i64 d.ack.v, .slice pp1 d.body.length cc2] 41 (0, 0)) :: (F.set i emp)) := (H53.move 1 rfl)
     have hT9 : takeT s d = [] := takeT_no (fun h => by omega)
     have H55 : St W w46 (BysA none 0 (takeT s d) :: RfA g (ackS s d.ack.v) :: blk bk4 (.cells #[.int .i64 d.frm.v, .int .i64 d.to_.v, .int .i64 d.kind.v, .int .i64 d.seq.v, .int .i64 d.ack.v, .slice pp1 d.body.length cc2] 41 (0, 0)) :: (F.set i emp)) := by rw [hT9]; exact St.shut_ex ⟨[], rfl⟩ (St.shut_star (ls := [_, _]) H54)
     have H56 : St W w46 (BysA none 0 (takeT s d) :: RfA g (takeS s d) :: blk bk4 (.cells #[.int .i64 d.frm.v, .int .i64 d.to_.v, .int .i64 d.kind.v, .int .i64 d.seq.v, .int .i64 d.ack.v, .slice pp1 d.body.length cc2] 41 (0, 0)) :: (F.set i emp)) := by rw [takeS_ack hE (by omega)]; exact H55
     have H57 : St W w46 (BysA none 0 (takeT s d) :: RfA g (takeS s d) :: (F.set i emp)) := (((H56.move 1 rfl).move 1 rfl).drop 2 rfl)
     have H58 : St W w46 (RfA g (takeS s d) :: (BysA none 0 (takeT s d) :: F).set (i + 1) emp) := (H57.move 1 rfl)
     exact ⟨none, 0, by rw [hE, hT9]; rfl, St.back (i := i + 1) (by exact hi) H58⟩
    ·skip
     refine r_cons (s_eql false rfl rfl (dfalse hc51) rfl ?_)
     refine r_nil ?_
     refine g_false rfl ?_
     refine g_skip ?_
     refine g_seq ?_
     refine g_region ?_
     refine r_cons (s_move (.pointer (some ⟨g, 0, none⟩)) rfl rfl ?_)
     have hk1 : d.kind.v = 1 := by omega
     have H59 := H50.move 0 rfl
     obtain ⟨⟨⟨pp60, cc61, L62, pp63, cc64, E65, A66⟩, hL67, hA68, hH69⟩, H70⟩ := St.open_ex H59
     have H71 := St.open_star H70
     change L62.map BodD.v = A66 ++ (ackS s d.ack.v).l at hL67; change A66.length = (ackS s d.ack.v).acked at hA68; change HR (ackS s d.ack.v).held (mapB E65) at hH69
     have hl72 := refLen hL67 hA68; have hh73 : E65.length = (ackS s d.ack.v).held.length := by have h9 := hH69.len; rw [mapB_len rfl] at h9; exact h9
     have H74 : St W w46 (blk g (rfC (ackS s d.ack.v) (.slice pp60 L62.length cc61) (.slice pp63 E65.length cc64)) :: Row 101 3 (.slice pp60 L62.length cc61) L62.length (L62.flatMap bodCell) :: byA (L62.map BodD.by) :: Row 105 2 (.slice pp63 E65.length cc64) E65.length (E65.flatMap hlCell) :: byA (mby E65) :: blk bk4 (.cells #[.int .i64 d.frm.v, .int .i64 d.to_.v, .int .i64 d.kind.v, .int .i64 d.seq.v, .int .i64 d.ack.v, .slice pp1 d.body.length cc2] 41 (0, 0)) :: (F.set i emp)) := H71
     refine r_cons (s_nilCheck (.pointer (some ⟨g, 0, none⟩)) rfl ⟨_, rfl⟩ rfl ?_)
     refine r_cons (s_fieldAddr 86 7 8 8 4 rfl fi_86_7 rfl rfl ?_)
     refine r_cons (s_store H74 0 (.bool true) rfl rfl rfl sz_4 rfl (nbl rfl) rfl (cs' := #[.int .i64 ((ackS s d.ack.v).frm.v), .int .i64 ((ackS s d.ack.v).to_.v), .int .i64 ((ackS s d.ack.v).slide : Int), .slice pp60 L62.length cc61, .int .i64 ((ackS s d.ack.v).acked : Int), .int .i64 ((i64N (ackS s d.ack.v).came).v), .slice pp63 E65.length cc64, .int .i64 ((ackS s d.ack.v).clock : Int), .bool true]) rfl ?_); intro w75 H76
     refine r_nil ?_
     refine g_seq ?_
     refine g_region ?_
     refine r_cons (s_assign (.int .i64 0) rfl rfl ?_)
     refine r_nil ?_
     refine g_seq ?_
     have H77 : St W w75 (RfA g ({ ackS s d.ack.v with owes := true } : EndV) :: blk bk4 (.cells #[.int .i64 d.frm.v, .int .i64 d.to_.v, .int .i64 d.kind.v, .int .i64 d.seq.v, .int .i64 d.ack.v, .slice pp1 d.body.length cc2] 41 (0, 0)) :: (F.set i emp)) := St.shut_ex ⟨⟨pp60, cc61, L62, pp63, cc64, E65, A66⟩, hL67, hA68, hH69⟩ (St.shut_star (ls := [_, _, _, _, _]) H76)
     have H78 : St W w75 (RfA g (drS (ackS s d.ack.v) s.came s.held) :: blk bk4 (.cells #[.int .i64 d.frm.v, .int .i64 d.to_.v, .int .i64 d.kind.v, .int .i64 d.seq.v, .int .i64 d.ack.v, .slice pp1 d.body.length cc2] 41 (0, 0)) :: (F.set i emp)) := by rw [drS_ack]; exact H77
     have H79 := H78.move 0 rfl
     obtain ⟨⟨⟨pp80, cc81, L82, pp83, cc84, E85, A86⟩, hL87, hA88, hH89⟩, H90⟩ := St.open_ex H79
     have H91 := St.open_star H90
     change L82.map BodD.v = A86 ++ (drS (ackS s d.ack.v) s.came s.held).l at hL87; change A86.length = (drS (ackS s d.ack.v) s.came s.held).acked at hA88; change HR (drS (ackS s d.ack.v) s.came s.held).held (mapB E85) at hH89
     have hl92 := refLen hL87 hA88; have hh93 : E85.length = (drS (ackS s d.ack.v) s.came s.held).held.length := by have h9 := hH89.len; rw [mapB_len rfl] at h9; exact h9
     have H94 : St W w75 (blk g (rfC (drS (ackS s d.ack.v) s.came s.held) (.slice pp80 L82.length cc81) (.slice pp83 E85.length cc84)) :: Row 101 3 (.slice pp80 L82.length cc81) L82.length (L82.flatMap bodCell) :: byA (L82.map BodD.by) :: Row 105 2 (.slice pp83 E85.length cc84) E85.length (E85.flatMap hlCell) :: byA (mby E85) :: blk bk4 (.cells #[.int .i64 d.frm.v, .int .i64 d.to_.v, .int .i64 d.kind.v, .int .i64 d.seq.v, .int .i64 d.ack.v, .slice pp1 d.body.length cc2] 41 (0, 0)) :: (F.set i emp)) := H91
     change HR s.held (mapB E85) at hH89
     have hcS : (i64N (drS (ackS s d.ack.v) s.came s.held).came).v = (s.came : Int) := o7; have hHL : E85.length ≤ 1099511627776 := by rw [hh93]; exact hN
     refine g_cut (fun (x_ : Nat) => match x_ with | k => [(0, .pointer (some ⟨g, 0, none⟩)), (3, .pointer (some ⟨bk4, 0, none⟩)), (4, .slice none 0 0), (5, .int .i64 0), (7, .int .i64 (k : Int))]) (fun (x_ : Nat) w => match x_ with | k => (k ≤ E85.length) ∧ (∀ i, i < k → ((mapB E85).getD i default).1.v < d.seq.v) ∧ (k < E85.length → ¬ (E85.getD k default).1.v < d.seq.v) ∧ St W w (blk g (rfC (drS (ackS s d.ack.v) s.came s.held) (.slice pp80 L82.length cc81) (.slice pp83 E85.length cc84)) :: Row 101 3 (.slice pp80 L82.length cc81) L82.length (L82.flatMap bodCell) :: byA (L82.map BodD.by) :: Row 105 2 (.slice pp83 E85.length cc84) E85.length (E85.flatMap hlCell) :: byA (mby E85) :: blk bk4 (.cells #[.int .i64 d.frm.v, .int .i64 d.to_.v, .int .i64 d.kind.v, .int .i64 d.seq.v, .int .i64 d.ack.v, .slice pp1 d.body.length cc2] 41 (0, 0)) :: (F.set i emp))) ?_ ?_
     ·rintro k ρ98 w96 ⟨hkn, hlt, hex, H97⟩
      change Ends _ _ (upds ρ98 [(0, .pointer (some ⟨g, 0, none⟩)), (3, .pointer (some ⟨bk4, 0, none⟩)), (4, .slice none 0 0), (5, .int .i64 0), (7, .int .i64 (k : Int))]) w96
      refine g_seq ?_
      refine g_seq ?_
      refine g_cut (fun (x_ : Unit) => match x_ with | z_ => [(0, .pointer (some ⟨g, 0, none⟩)), (3, .pointer (some ⟨bk4, 0, none⟩)), (4, .slice none 0 0), (5, .int .i64 0), (7, .int .i64 (k : Int)), (123, .bool (decide (d.seq.v < (s.came : Int) ∨ ahas s.held d.seq = true)))]) (fun (x_ : Unit) w => match x_ with | z_ => (True) ∧ St W w (blk g (rfC (drS (ackS s d.ack.v) s.came s.held) (.slice pp80 L82.length cc81) (.slice pp83 E85.length cc84)) :: Row 101 3 (.slice pp80 L82.length cc81) L82.length (L82.flatMap bodCell) :: byA (L82.map BodD.by) :: Row 105 2 (.slice pp83 E85.length cc84) E85.length (E85.flatMap hlCell) :: byA (mby E85) :: blk bk4 (.cells #[.int .i64 d.frm.v, .int .i64 d.to_.v, .int .i64 d.kind.v, .int .i64 d.seq.v, .int .i64 d.ack.v, .slice pp1 d.body.length cc2] 41 (0, 0)) :: (F.set i emp))) ?_ ?_
      ·rintro z_ ρ102 w100 ⟨hz2, H101⟩
       change Ends _ _ (upds ρ102 [(0, .pointer (some ⟨g, 0, none⟩)), (3, .pointer (some ⟨bk4, 0, none⟩)), (4, .slice none 0 0), (5, .int .i64 0), (7, .int .i64 (k : Int)), (123, .bool (decide (d.seq.v < (s.came : Int) ∨ ahas s.held d.seq = true)))]) w100
       by_cases hb103 : (decide (d.seq.v < (s.came : Int) ∨ ahas s.held d.seq = true)) = true
       ·skip
        refine g_true (congrArg Value.bool hb103) ?_
        refine g_seq ?_
        refine g_region ?_
        refine r_cons (s_assign (.slice none 0 0) rfl rfl ?_)
        refine r_cons (s_assign (.int .i64 0) rfl rfl ?_)
        refine r_nil ?_
        refine g_ret' [.slice none 0 0, .int .i64 0] Try.func41 Try.results41 ⟨rfl, rfl, trivial⟩ ?_
        have H104 : St W w100 (RfA g (drS (ackS s d.ack.v) s.came s.held) :: blk bk4 (.cells #[.int .i64 d.frm.v, .int .i64 d.to_.v, .int .i64 d.kind.v, .int .i64 d.seq.v, .int .i64 d.ack.v, .slice pp1 d.body.length cc2] 41 (0, 0)) :: (F.set i emp)) := St.shut_ex ⟨⟨pp80, cc81, L82, pp83, cc84, E85, A86⟩, hL87, hA88, hH89⟩ (St.shut_star (ls := [_, _, _, _, _]) H101)
        have hC : takeC s d = ([], s.came, s.held) := takeC_no (of_decide_eq_true (show decide (d.seq.v < (s.came : Int) ∨ ahas s.held d.seq = true) = true by assumption))
        have H105 := Row.nil_intro H104 26 1
        have H106 := byA_nil H105
        have H107 : St W w100 (Row 26 1 (.slice none 0 0) 0 [] :: byA ([] : List BytesD) :: RfA g (drS (ackS s d.ack.v) s.came s.held) :: blk bk4 (.cells #[.int .i64 d.frm.v, .int .i64 d.to_.v, .int .i64 d.kind.v, .int .i64 d.seq.v, .int .i64 d.ack.v, .slice pp1 d.body.length cc2] 41 (0, 0)) :: (F.set i emp)) := (H106.move 1 rfl)
        have hT9 : takeT s d = [] := by rw [takeT_yes hE hk1, hC]
        have H108 : St W w100 (BysA none 0 (takeT s d) :: RfA g (drS (ackS s d.ack.v) s.came s.held) :: blk bk4 (.cells #[.int .i64 d.frm.v, .int .i64 d.to_.v, .int .i64 d.kind.v, .int .i64 d.seq.v, .int .i64 d.ack.v, .slice pp1 d.body.length cc2] 41 (0, 0)) :: (F.set i emp)) := by rw [hT9]; exact St.shut_ex ⟨[], rfl⟩ (St.shut_star (ls := [_, _]) H107)
        have H109 : St W w100 (BysA none 0 (takeT s d) :: RfA g (takeS s d) :: blk bk4 (.cells #[.int .i64 d.frm.v, .int .i64 d.to_.v, .int .i64 d.kind.v, .int .i64 d.seq.v, .int .i64 d.ack.v, .slice pp1 d.body.length cc2] 41 (0, 0)) :: (F.set i emp)) := by rw [takeS_data hE hk1, hC]; exact H108
        have H110 : St W w100 (BysA none 0 (takeT s d) :: RfA g (takeS s d) :: (F.set i emp)) := (((H109.move 1 rfl).move 1 rfl).drop 2 rfl)
        have H111 : St W w100 (RfA g (takeS s d) :: (BysA none 0 (takeT s d) :: F).set (i + 1) emp) := (H110.move 1 rfl)
        exact ⟨none, 0, by rw [hE, hT9]; rfl, St.back (i := i + 1) (by exact hi) H111⟩
       ·have hb103 := eq_false_of_ne_true hb103
        refine g_false (congrArg Value.bool hb103) ?_
        refine g_skip ?_
        refine g_seq ?_
        refine g_region ?_
        refine r_cons (s_assign (.slice none 0 0) rfl rfl ?_)
        refine r_nil ?_
        refine g_seq ?_
        refine g_region ?_
        refine r_cons (s_assign (.slice none 0 0) rfl rfl ?_)
        refine r_nil ?_
        refine g_seq ?_
        have hnc := of_decide_eq_false (show decide (d.seq.v < (s.came : Int) ∨ ahas s.held d.seq = true) = false by assumption)
        have hgt : k < (mapB E85).length → d.seq.v < ((mapB E85).getD k default).1.v := fun hk => by have h6 : ¬ ((mapB E85).getD k default).1.v = d.seq.v := fun e => hnc (.inr (hH89.at hk e)); rw [mapB_len rfl] at hk; have h7 := hex hk; rw [mapB_at] at h6 ⊢; simp only at h6 ⊢; omega
        have hkm : k ≤ (mapB E85).length := by rw [mapB_len rfl]; exact hkn
        have hno0 : ahas s.held d.seq = false := hH89.has d.seq hkm hlt hgt
        have hC := takeC_yes (s := s) (d := d) hnc
        have hhc := Row.capOf H101 (i := 3) rfl
        have H112 : St W w100 (blk g (rfC (drS (ackS s d.ack.v) s.came s.held) (.slice pp80 L82.length cc81) (.slice pp83 E85.length cc84)) :: Row 101 3 (.slice pp80 L82.length cc81) L82.length (L82.flatMap bodCell) :: byA (L82.map BodD.by) :: Im 2 (.slice pp83 E85.length cc84) E85.length (E85.flatMap hlCell) :: byA (mby E85) :: blk bk4 (.cells #[.int .i64 d.frm.v, .int .i64 d.to_.v, .int .i64 d.kind.v, .int .i64 d.seq.v, .int .i64 d.ack.v, .slice pp1 d.body.length cc2] 41 (0, 0)) :: (F.set i emp)) := Row.im H101 (i := 3) rfl
        refine g_mix (fun t_ w => St W w (blk g (rfC (drS (ackS s d.ack.v) s.came s.held) (.slice pp80 L82.length cc81) (.slice pp83 E85.length cc84)) :: Row 101 3 (.slice pp80 L82.length cc81) L82.length (L82.flatMap bodCell) :: byA (L82.map BodD.by) :: Im 2 (.slice pp83 E85.length cc84) E85.length (E85.flatMap hlCell) :: byA (mby E85) :: blk bk4 (.cells #[.int .i64 d.frm.v, .int .i64 d.to_.v, .int .i64 d.kind.v, .int .i64 d.seq.v, .int .i64 d.ack.v, .slice pp1 d.body.length cc2] 41 (0, 0)) :: t_)) (F.set i emp) mixed 18 rfl H112.drew ?_
        refine f_first 0 (listed' := #[true, false, false, false, false, false, false, false, false, false, false, false, false, false, false, false, false, false]) rfl (by kernel_rfl) (by kernel_rfl) (by kernel_rfl) rfl ?_
        refine f_val rfl rfl rfl (by intro _ w _; exact x_move (.slice none 0 0) rfl w) ?_
        refine f_first 1 (listed' := #[true, true, false, false, false, false, false, false, false, false, false, false, false, false, false, false, false, false]) rfl (by kernel_rfl) (by kernel_rfl) (by kernel_rfl) rfl ?_
        refine f_val rfl rfl rfl (by intro _ w _; exact x_move (.pointer (some ⟨g, 0, none⟩)) rfl w) ?_
        refine f_first 2 (listed' := #[true, true, true, false, false, false, false, false, false, false, false, false, false, false, false, false, false, false]) rfl (by kernel_rfl) (by kernel_rfl) (by kernel_rfl) rfl ?_
        refine f_val rfl rfl rfl (by intro t_ w hw; exact x_nilCheck (.pointer (some ⟨g, 0, none⟩)) rfl ⟨_, rfl⟩ w) ?_
        refine f_first 3 (listed' := #[true, true, true, true, false, false, false, false, false, false, false, false, false, false, false, false, false, false]) rfl (by kernel_rfl) (by kernel_rfl) (by kernel_rfl) rfl ?_
        refine f_val rfl rfl rfl (by intro t_ w hw; exact x_fieldAddr 86 5 6 6 84 rfl fi_86_5 rfl w) ?_
        refine f_first 4 (listed' := #[true, true, true, true, true, false, false, false, false, false, false, false, false, false, false, false, false, false]) rfl (by kernel_rfl) (by kernel_rfl) (by kernel_rfl) rfl ?_
        refine f_val rfl rfl rfl (by intro t_ w hw; exact x_load (.slice pp83 E85.length cc84) ag_84 rfl (hw.blk_at (i := 0) rfl) rfl) ?_
        refine f_first 5 (listed' := #[true, true, true, true, true, true, false, false, false, false, false, false, false, false, false, false, false, false]) rfl (by kernel_rfl) (by kernel_rfl) (by kernel_rfl) rfl ?_
        refine f_val rfl rfl rfl (by intro _ w _; exact x_move (.int .i64 (k : Int)) rfl w) ?_
        refine f_first 6 (listed' := #[true, true, true, true, true, true, true, false, false, false, false, false, false, false, false, false, false, false]) rfl (by kernel_rfl) (by kernel_rfl) (by kernel_rfl) rfl ?_
        have hc113 := Im.cap H112 (i := 3) rfl
        refine f_val rfl rfl rfl (by intro t_ w hw; exact x_slice_h pp83 (k : Int) 2 (.slice pp83 k cc84) rfl rfl el_84 (by omega) (by first | rfl | (congr 1; omega)) w) ?_
        refine f_first 8 (listed' := #[true, true, true, true, true, true, true, false, true, false, false, false, false, false, false, false, false, false]) rfl (by kernel_rfl) (by kernel_rfl) (by kernel_rfl) rfl ?_
        refine f_val rfl rfl rfl (by intro t_ w hw; exact x_fieldAddr 41 3 3 3 2 rfl fi_41_3 rfl w) ?_
        refine f_first 9 (listed' := #[true, true, true, true, true, true, true, false, true, true, false, false, false, false, false, false, false, false]) rfl (by kernel_rfl) (by kernel_rfl) (by kernel_rfl) rfl ?_
        refine f_val rfl rfl rfl (by intro t_ w hw; exact x_load (.int .i64 d.seq.v) ag_2 rfl (hw.blk_at (i := 5) rfl) rfl) ?_
        refine f_first 10 (listed' := #[true, true, true, true, true, true, true, false, true, true, true, false, false, false, false, false, false, false]) rfl (by kernel_rfl) (by kernel_rfl) (by kernel_rfl) rfl ?_
        refine f_val rfl rfl rfl (by intro _ w _; exact x_move (.slice none 0 0) rfl w) ?_
        refine f_first 11 (listed' := #[true, true, true, true, true, true, true, false, true, true, true, true, false, false, false, false, false, false]) rfl (by kernel_rfl) (by kernel_rfl) (by kernel_rfl) rfl ?_
        refine f_val rfl rfl rfl (by intro t_ w hw; exact x_fieldAddr 41 5 5 5 26 rfl fi_41_5 rfl w) ?_
        refine f_first 12 (listed' := #[true, true, true, true, true, true, true, false, true, true, true, true, true, false, false, false, false, false]) rfl (by kernel_rfl) (by kernel_rfl) (by kernel_rfl) rfl ?_
        refine f_val rfl rfl rfl (by intro t_ w hw; exact x_load (.slice pp1 d.body.length cc2) ag_26 rfl (hw.blk_at (i := 5) rfl) rfl) ?_
        refine f_all (rs := [7]) (by kernel_rfl) (by simp) ?_
        refine a_cons ⟨_, rfl, ?_⟩ (fun x hx => absurd hx (by simp))
        intro w114 H115
        try dsimp only at H115
        have H116 : St W w114 (Im 2 (.slice pp83 k cc84) k ((E85.take k).flatMap hlCell) :: blk g (rfC (drS (ackS s d.ack.v) s.came s.held) (.slice pp80 L82.length cc81) (.slice pp83 E85.length cc84)) :: Row 101 3 (.slice pp80 L82.length cc81) L82.length (L82.flatMap bodCell) :: byA (L82.map BodD.by) :: Im 2 (.slice pp83 E85.length cc84) E85.length (E85.flatMap hlCell) :: byA (mby E85) :: blk bk4 (.cells #[.int .i64 d.frm.v, .int .i64 d.to_.v, .int .i64 d.kind.v, .int .i64 d.seq.v, .int .i64 d.ack.v, .slice pp1 d.body.length cc2] 41 (0, 0)) :: (F.set i emp)) := Im.cutN_h hlCell_len (by decide) k H115 (i := 3) rfl (by omega)
        have H117 := Row.nil_intro H116 105 2
        refine s_append H117 0 rfl rfl rfl (Im.rd H117 (i := 1) rfl) ap_84 (by decide) (by unfold maxLen; omega) (by omega) (n' := k) (xs' := (E85.take k).flatMap hlCell) (by omega) (by first | rfl | simp) rfl ?_; intro vv118 w119 H120 hn121
        obtain ⟨pp122, cc123, rfl⟩ := Row.slice H120 (i := 0) rfl
        have H124 : St W w119 (blk g (rfC (drS (ackS s d.ack.v) s.came s.held) (.slice pp80 L82.length cc81) (.slice pp83 E85.length cc84)) :: Row 101 3 (.slice pp80 L82.length cc81) L82.length (L82.flatMap bodCell) :: byA (L82.map BodD.by) :: Im 2 (.slice pp83 E85.length cc84) E85.length (E85.flatMap hlCell) :: byA (mby E85) :: blk bk4 (.cells #[.int .i64 d.frm.v, .int .i64 d.to_.v, .int .i64 d.kind.v, .int .i64 d.seq.v, .int .i64 d.ack.v, .slice pp1 d.body.length cc2] 41 (0, 0)) :: Row 105 2 (.slice pp122 k cc123) k ((E85.take k).flatMap hlCell) :: Im 2 (.slice pp83 k cc84) k ((E85.take k).flatMap hlCell) :: (F.set i emp)) := ((((((((H120.move 1 rfl).move 1 rfl).move 7 rfl).move 7 rfl).move 7 rfl).move 7 rfl).move 7 rfl).move 7 rfl)
        refine ⟨Row 105 2 (.slice pp122 k cc123) k ((E85.take k).flatMap hlCell) :: Im 2 (.slice pp83 k cc84) k ((E85.take k).flatMap hlCell) :: (F.set i emp), ?_, H124⟩
        change FReg _ _ _ _ _ #[true, true, true, true, true, true, true, true, true, true, true, true, true, false, false, false, false, false] _ _
        refine f_all (rs := [13]) (by kernel_rfl) (by simp) ?_
        refine a_cons ⟨_, rfl, ?_⟩ (fun x hx => absurd hx (by simp))
        intro w125 H126
        try dsimp only at H126
        have H127 := Row.nil_intro H126 5 1
        refine s_append H127 0 rfl rfl rfl (hA _ _ _ (j + 9) H127 (by exact hj)).1 ap_26 (by decide) (by unfold maxLen; omega) (by omega) (n' := d.body.length) (xs' := d.body.flatMap u8c) (by omega) (by first | rfl | simp) rfl ?_; intro vv128 w129 H130 hn131
        obtain ⟨pp132, cc133, rfl⟩ := Row.slice H130 (i := 0) rfl
        have H134 : St W w129 (blk g (rfC (drS (ackS s d.ack.v) s.came s.held) (.slice pp80 L82.length cc81) (.slice pp83 E85.length cc84)) :: Row 101 3 (.slice pp80 L82.length cc81) L82.length (L82.flatMap bodCell) :: byA (L82.map BodD.by) :: Im 2 (.slice pp83 E85.length cc84) E85.length (E85.flatMap hlCell) :: byA (mby E85) :: blk bk4 (.cells #[.int .i64 d.frm.v, .int .i64 d.to_.v, .int .i64 d.kind.v, .int .i64 d.seq.v, .int .i64 d.ack.v, .slice pp1 d.body.length cc2] 41 (0, 0)) :: Row 5 1 (.slice pp132 d.body.length cc133) d.body.length (d.body.flatMap u8c) :: Row 105 2 (.slice pp122 k cc123) k ((E85.take k).flatMap hlCell) :: Im 2 (.slice pp83 k cc84) k ((E85.take k).flatMap hlCell) :: (F.set i emp)) := (((((((((H130.move 8 rfl).move 8 rfl).move 2 rfl).move 8 rfl).move 8 rfl).move 8 rfl).move 8 rfl).move 8 rfl).move 8 rfl)
        refine ⟨Row 5 1 (.slice pp132 d.body.length cc133) d.body.length (d.body.flatMap u8c) :: Row 105 2 (.slice pp122 k cc123) k ((E85.take k).flatMap hlCell) :: Im 2 (.slice pp83 k cc84) k ((E85.take k).flatMap hlCell) :: (F.set i emp), ?_, H134⟩
        change FReg _ _ _ _ _ #[true, true, true, true, true, true, true, true, true, true, true, true, true, true, false, false, false, false] _ _
        refine f_first 14 (listed' := #[true, true, true, true, true, true, true, true, true, true, true, true, true, true, true, false, false, false]) rfl (by kernel_rfl) (by kernel_rfl) (by kernel_rfl) rfl ?_
        refine f_val rfl rfl rfl (by intro t_ w hw; exact x_build (cs := #[.int .i64 d.seq.v, .slice pp132 d.body.length cc133]) (by kernel_rfl) w) ?_
        refine f_all (rs := [15]) (by kernel_rfl) (by simp) ?_
        refine a_cons ⟨_, rfl, ?_⟩ (fun x hx => absurd hx (by simp))
        intro w135 H136
        try dsimp only at H136
        refine s_buildSlice H136 2 1 (cs := #[.int .i64 d.seq.v, .slice pp132 d.body.length cc133]) #[.int .i64 0, .slice none 0 0] el_84 ze_105 (by decide) (by decide) (by kernel_rfl) rfl ?_; intro bk137 w138 H139
        have H140 : St W w138 (blk g (rfC (drS (ackS s d.ack.v) s.came s.held) (.slice pp80 L82.length cc81) (.slice pp83 E85.length cc84)) :: Row 101 3 (.slice pp80 L82.length cc81) L82.length (L82.flatMap bodCell) :: byA (L82.map BodD.by) :: Im 2 (.slice pp83 E85.length cc84) E85.length (E85.flatMap hlCell) :: byA (mby E85) :: blk bk4 (.cells #[.int .i64 d.frm.v, .int .i64 d.to_.v, .int .i64 d.kind.v, .int .i64 d.seq.v, .int .i64 d.ack.v, .slice pp1 d.body.length cc2] 41 (0, 0)) :: blk bk137 (.cells #[.int .i64 d.seq.v, .slice pp132 d.body.length cc133] 105 (0, 0)) :: Row 5 1 (.slice pp132 d.body.length cc133) d.body.length (d.body.flatMap u8c) :: Row 105 2 (.slice pp122 k cc123) k ((E85.take k).flatMap hlCell) :: Im 2 (.slice pp83 k cc84) k ((E85.take k).flatMap hlCell) :: (F.set i emp)) := ((((((((((H139.move 9 rfl).move 9 rfl).move 9 rfl).move 3 rfl).move 9 rfl).move 9 rfl).move 9 rfl).move 9 rfl).move 9 rfl).move 9 rfl)
        refine ⟨blk bk137 (.cells #[.int .i64 d.seq.v, .slice pp132 d.body.length cc133] 105 (0, 0)) :: Row 5 1 (.slice pp132 d.body.length cc133) d.body.length (d.body.flatMap u8c) :: Row 105 2 (.slice pp122 k cc123) k ((E85.take k).flatMap hlCell) :: Im 2 (.slice pp83 k cc84) k ((E85.take k).flatMap hlCell) :: (F.set i emp), ?_, H140⟩
        change FReg _ _ _ _ _ #[true, true, true, true, true, true, true, true, true, true, true, true, true, true, true, true, false, false] _ _
        refine f_all (rs := [16]) (by kernel_rfl) (by simp) ?_
        refine a_cons ⟨_, rfl, ?_⟩ (fun x hx => absurd hx (by simp))
        intro w141 H142
        try dsimp only at H142
        refine s_append H142 8 rfl rfl rfl (rd_blk (H142.blk_at (i := 6) rfl) rfl (nbl rfl) (by simp [Value.oneCell'])) ap_84 (by decide) (by unfold maxLen; omega) (by omega) (n' := k + 1) (xs' := (E85.take k).flatMap hlCell ++ ([.int .i64 d.seq.v, .slice pp132 d.body.length cc133] : List Value)) (by omega) (by first | rfl | simp) rfl ?_; intro vv143 w144 H145 hn146
        obtain ⟨pp147, cc148, rfl⟩ := Row.slice H145 (i := 8) rfl
        refine ⟨blk bk137 (.cells #[.int .i64 d.seq.v, .slice pp132 d.body.length cc133] 105 (0, 0)) :: Row 5 1 (.slice pp132 d.body.length cc133) d.body.length (d.body.flatMap u8c) :: Row 105 2 (.slice pp147 (k + 1) cc148) (k + 1) ((E85.take k).flatMap hlCell ++ ([.int .i64 d.seq.v, .slice pp132 d.body.length cc133] : List Value)) :: Im 2 (.slice pp83 k cc84) k ((E85.take k).flatMap hlCell) :: (F.set i emp), ?_, H145⟩
        change FReg _ _ _ _ _ #[true, true, true, true, true, true, true, true, true, true, true, true, true, true, true, true, true, false] _ _
        refine f_first 17 (listed' := #[true, true, true, true, true, true, true, true, true, true, true, true, true, true, true, true, true, true]) rfl (by kernel_rfl) (by kernel_rfl) (by kernel_rfl) rfl ?_
        refine f_val rfl rfl rfl (by intro t_ w hw; exact x_assign (.slice pp147 (k + 1) cc148) rfl w) ?_
        refine f_done (by kernel_rfl) ?_
        intro w149 H150
        refine g_seq ?_
        refine g_region ?_
        refine r_cons (s_move (.pointer (some ⟨g, 0, none⟩)) rfl rfl ?_)
        refine r_cons (s_move (.slice pp147 (k + 1) cc148) rfl rfl ?_)
        refine r_cons (s_move (.pointer (some ⟨g, 0, none⟩)) rfl rfl ?_)
        refine r_cons (s_nilCheck (.pointer (some ⟨g, 0, none⟩)) rfl ⟨_, rfl⟩ rfl ?_)
        refine r_cons (s_fieldAddr 86 5 6 6 84 rfl fi_86_5 rfl rfl ?_)
        refine r_cons (s_load (.slice pp83 E85.length cc84) ag_84 rfl (H150.blk_at (i := 0) rfl) rfl rfl ?_)
        refine r_cons (s_move (.int .i64 (k : Int)) rfl rfl ?_)
        have hc151 := Im.cap H150 (i := 3) rfl
        refine r_cons (s_slice_l pp83 (k : Int) 2 (.slice (cutAt pp83 k cc84 2) (E85.length - k) (cc84 - k)) rfl rfl el_84 (by omega) (by first | rfl | (congr 1; omega)) rfl ?_)
        have H152 : St W w149 (Im 2 (.slice (cutAt pp83 k cc84 2) (E85.length - k) (cc84 - k)) (E85.length - k) ((E85.drop k).flatMap hlCell) :: blk g (rfC (drS (ackS s d.ack.v) s.came s.held) (.slice pp80 L82.length cc81) (.slice pp83 E85.length cc84)) :: Row 101 3 (.slice pp80 L82.length cc81) L82.length (L82.flatMap bodCell) :: byA (L82.map BodD.by) :: Im 2 (.slice pp83 E85.length cc84) E85.length (E85.flatMap hlCell) :: byA (mby E85) :: blk bk4 (.cells #[.int .i64 d.frm.v, .int .i64 d.to_.v, .int .i64 d.kind.v, .int .i64 d.seq.v, .int .i64 d.ack.v, .slice pp1 d.body.length cc2] 41 (0, 0)) :: blk bk137 (.cells #[.int .i64 d.seq.v, .slice pp132 d.body.length cc133] 105 (0, 0)) :: Row 5 1 (.slice pp132 d.body.length cc133) d.body.length (d.body.flatMap u8c) :: Row 105 2 (.slice pp147 (k + 1) cc148) (k + 1) ((E85.take k).flatMap hlCell ++ ([.int .i64 d.seq.v, .slice pp132 d.body.length cc133] : List Value)) :: Im 2 (.slice pp83 k cc84) k ((E85.take k).flatMap hlCell) :: (F.set i emp)) := Im.cutN_l hlCell_len (by decide) k H150 (i := 3) rfl (by omega)
        refine r_cons (s_append H152 9 rfl rfl rfl (Im.rd H152 (i := 0) rfl) ap_84 (by decide) (by unfold maxLen; omega) (by omega) (n' := k + 1 + E85.length - k) (xs' := (E85.take k).flatMap hlCell ++ ([.int .i64 d.seq.v, .slice pp132 d.body.length cc133] : List Value) ++ (E85.drop k).flatMap hlCell) (by omega) (by first | rfl | simp) rfl ?_); intro vv153 w154 H155 hn156
        obtain ⟨pp157, cc158, rfl⟩ := Row.slice H155 (i := 9) rfl
        refine r_cons (s_nilCheck (.pointer (some ⟨g, 0, none⟩)) rfl ⟨_, rfl⟩ rfl ?_)
        refine r_cons (s_fieldAddr 86 5 6 6 84 rfl fi_86_5 rfl rfl ?_)
        refine r_cons (s_store H155 1 (.slice pp157 (k + 1 + E85.length - k) cc158) rfl rfl rfl sz_84 rfl (nbl rfl) rfl (cs' := #[.int .i64 ((drS (ackS s d.ack.v) s.came s.held).frm.v), .int .i64 ((drS (ackS s d.ack.v) s.came s.held).to_.v), .int .i64 ((drS (ackS s d.ack.v) s.came s.held).slide : Int), .slice pp80 L82.length cc81, .int .i64 ((drS (ackS s d.ack.v) s.came s.held).acked : Int), .int .i64 ((i64N (drS (ackS s d.ack.v) s.came s.held).came).v), .slice pp157 (k + 1 + E85.length - k) cc158, .int .i64 ((drS (ackS s d.ack.v) s.came s.held).clock : Int), .bool ((drS (ackS s d.ack.v) s.came s.held).owes)]) rfl ?_); intro w159 H160
        refine r_nil ?_
        refine g_seq ?_
        refine g_region ?_
        refine r_cons (s_assign (.slice none 0 0) rfl rfl ?_)
        refine r_nil ?_
        refine g_seq ?_
        refine g_block ?_
        have H161 : St W w159 (Im 2 (.slice (cutAt pp83 k cc84 2) (E85.length - k) (cc84 - k)) (E85.length - k) ((E85.drop k).flatMap hlCell) :: blk g (rfC (drS (ackS s d.ack.v) s.came s.held) (.slice pp80 L82.length cc81) (.slice pp157 (k + 1 + E85.length - k) cc158)) :: Row 101 3 (.slice pp80 L82.length cc81) L82.length (L82.flatMap bodCell) :: byA (L82.map BodD.by) :: Im 2 (.slice pp83 E85.length cc84) E85.length (E85.flatMap hlCell) :: byA (mby E85) :: blk bk4 (.cells #[.int .i64 d.frm.v, .int .i64 d.to_.v, .int .i64 d.kind.v, .int .i64 d.seq.v, .int .i64 d.ack.v, .slice pp1 d.body.length cc2] 41 (0, 0)) :: blk bk137 (.cells #[.int .i64 d.seq.v, .slice pp132 d.body.length cc133] 105 (0, 0)) :: Im 1 (.slice pp132 d.body.length cc133) d.body.length (d.body.flatMap u8c) :: Row 105 2 (.slice pp157 (k + 1 + E85.length - k) cc158) (k + 1 + E85.length - k) ((E85.take k).flatMap hlCell ++ ([.int .i64 d.seq.v, .slice pp132 d.body.length cc133] : List Value) ++ (E85.drop k).flatMap hlCell) :: Im 2 (.slice pp83 k cc84) k ((E85.take k).flatMap hlCell) :: (F.set i emp)) := Row.im H160 (i := 8) rfl
        have H162 := byA_add (x := (⟨d.body, pp132, cc133⟩ : BytesD)) (M := mby (E85.take k ++ [(d.seq, (⟨d.body, pp132, cc133⟩ : BytesD))] ++ E85.drop k)) H161 (i := 5) (j := 8) rfl rfl mby_ins
        have hn2 : (E85.take k ++ [(d.seq, (⟨d.body, pp132, cc133⟩ : BytesD))] ++ E85.drop k).length = k + 1 + E85.length - k := by rw [List.length_append, List.length_append, List.length_take, List.length_drop]; simp only [List.length_cons, List.length_nil]; omega
        have H163 : St W w159 (byA (mby (E85.take k ++ [(d.seq, (⟨d.body, pp132, cc133⟩ : BytesD))] ++ E85.drop k)) :: Im 2 (.slice (cutAt pp83 k cc84 2) (E85.length - k) (cc84 - k)) (E85.length - k) ((E85.drop k).flatMap hlCell) :: blk g (rfC (drS (ackS s d.ack.v) s.came s.held) (.slice pp80 L82.length cc81) (.slice pp157 ((E85.take k ++ [(d.seq, (⟨d.body, pp132, cc133⟩ : BytesD))] ++ E85.drop k).length) cc158)) :: Row 101 3 (.slice pp80 L82.length cc81) L82.length (L82.flatMap bodCell) :: byA (L82.map BodD.by) :: Im 2 (.slice pp83 E85.length cc84) E85.length (E85.flatMap hlCell) :: byA (mby E85) :: blk bk4 (.cells #[.int .i64 d.frm.v, .int .i64 d.to_.v, .int .i64 d.kind.v, .int .i64 d.seq.v, .int .i64 d.ack.v, .slice pp1 d.body.length cc2] 41 (0, 0)) :: blk bk137 (.cells #[.int .i64 d.seq.v, .slice pp132 d.body.length cc133] 105 (0, 0)) :: Im 1 (.slice pp132 d.body.length cc133) d.body.length (d.body.flatMap u8c) :: Row 105 2 (.slice pp157 ((E85.take k ++ [(d.seq, (⟨d.body, pp132, cc133⟩ : BytesD))] ++ E85.drop k).length) cc158) ((E85.take k ++ [(d.seq, (⟨d.body, pp132, cc133⟩ : BytesD))] ++ E85.drop k).length) ((E85.take k ++ [(d.seq, (⟨d.body, pp132, cc133⟩ : BytesD))] ++ E85.drop k).flatMap hlCell) :: Im 2 (.slice pp83 k cc84) k ((E85.take k).flatMap hlCell) :: (F.set i emp)) := by rw [hn2, flat_app, flat_app, flat_one]; exact H162
        have H164 : St W w159 (blk g (rfC (drS (ackS s d.ack.v) s.came s.held) (.slice pp80 L82.length cc81) (.slice pp157 ((E85.take k ++ [(d.seq, (⟨d.body, pp132, cc133⟩ : BytesD))] ++ E85.drop k).length) cc158)) :: Row 101 3 (.slice pp80 L82.length cc81) L82.length (L82.flatMap bodCell) :: byA (L82.map BodD.by) :: Row 105 2 (.slice pp157 ((E85.take k ++ [(d.seq, (⟨d.body, pp132, cc133⟩ : BytesD))] ++ E85.drop k).length) cc158) ((E85.take k ++ [(d.seq, (⟨d.body, pp132, cc133⟩ : BytesD))] ++ E85.drop k).length) ((E85.take k ++ [(d.seq, (⟨d.body, pp132, cc133⟩ : BytesD))] ++ E85.drop k).flatMap hlCell) :: byA (mby (E85.take k ++ [(d.seq, (⟨d.body, pp132, cc133⟩ : BytesD))] ++ E85.drop k)) :: Im 2 (.slice (cutAt pp83 k cc84 2) (E85.length - k) (cc84 - k)) (E85.length - k) ((E85.drop k).flatMap hlCell) :: Im 2 (.slice pp83 E85.length cc84) E85.length (E85.flatMap hlCell) :: byA (mby E85) :: blk bk4 (.cells #[.int .i64 d.frm.v, .int .i64 d.to_.v, .int .i64 d.kind.v, .int .i64 d.seq.v, .int .i64 d.ack.v, .slice pp1 d.body.length cc2] 41 (0, 0)) :: blk bk137 (.cells #[.int .i64 d.seq.v, .slice pp132 d.body.length cc133] 105 (0, 0)) :: Im 1 (.slice pp132 d.body.length cc133) d.body.length (d.body.flatMap u8c) :: Im 2 (.slice pp83 k cc84) k ((E85.take k).flatMap hlCell) :: (F.set i emp)) := ((((H163.move 10 rfl).move 5 rfl).move 5 rfl).move 5 rfl)
        have H165 : St W w159 (RfA g (drS (ackS s d.ack.v) s.came (s.held ++ [(d.seq, d.body)])) :: Im 2 (.slice (cutAt pp83 k cc84 2) (E85.length - k) (cc84 - k)) (E85.length - k) ((E85.drop k).flatMap hlCell) :: Im 2 (.slice pp83 E85.length cc84) E85.length (E85.flatMap hlCell) :: byA (mby E85) :: blk bk4 (.cells #[.int .i64 d.frm.v, .int .i64 d.to_.v, .int .i64 d.kind.v, .int .i64 d.seq.v, .int .i64 d.ack.v, .slice pp1 d.body.length cc2] 41 (0, 0)) :: blk bk137 (.cells #[.int .i64 d.seq.v, .slice pp132 d.body.length cc133] 105 (0, 0)) :: Im 1 (.slice pp132 d.body.length cc133) d.body.length (d.body.flatMap u8c) :: Im 2 (.slice pp83 k cc84) k ((E85.take k).flatMap hlCell) :: (F.set i emp)) := St.shut_ex ⟨⟨pp80, cc81, L82, pp157, cc158, (E85.take k ++ [(d.seq, (⟨d.body, pp132, cc133⟩ : BytesD))] ++ E85.drop k), A86⟩, hL87, hA88, (show HR (s.held ++ [(d.seq, d.body)]) (mapB (E85.take k ++ [(d.seq, (⟨d.body, pp132, cc133⟩ : BytesD))] ++ E85.drop k)) from by rw [mapB_ins]; exact hH89.ins hkm hlt hgt)⟩ (St.shut_star (ls := [_, _, _, _, _]) H164)
        have H166 := Row.nil_intro H165 26 1
        have H167 := byA_nil H166
        have H168 : St W w159 (Row 26 1 (.slice none 0 0) 0 [] :: byA ([] : List BytesD) :: RfA g (drS (ackS s d.ack.v) s.came (s.held ++ [(d.seq, d.body)])) :: (F.set i emp)) := ((((((((((H167.move 2 rfl).move 1 rfl).move 2 rfl).drop 3 rfl).drop 3 rfl).drop 3 rfl).drop 3 rfl).drop 3 rfl).drop 3 rfl).drop 3 rfl)
        have H169 : St W w159 (Row 26 1 (.slice none 0 0) 0 [] :: byA ([] : List BytesD) :: RfA g (drS (ackS s d.ack.v) s.came (s.held ++ [(d.seq, d.body)])) :: (F.set i emp)) := H168
        refine g_loop_inv (fun (x_ : Nat × (List (I64 × List UInt8)) × (List BytesD) × (Option Addr) × Nat) => match x_ with | (c9, h9, O, p, c) => [(0, .pointer (some ⟨g, 0, none⟩)), (4, .slice none 0 0), (5, .int .i64 0), (10, .slice p O.length c)]) (fun (x_ : Nat × (List (I64 × List UInt8)) × (List BytesD) × (Option Addr) × Nat) w => match x_ with | (c9, h9, O, p, c) => (DrI (drain (s.held ++ [(d.seq, d.body)]).length s.came (s.held ++ [(d.seq, d.body)])) (O.map BytesD.data) c9 h9) ∧ (c9 ≤ 1099511627777) ∧ (∀ x ∈ h9, x.1.v ≤ 1099511627776) ∧ (O.length + h9.length ≤ s.held.length + 1) ∧ ((h9.map (·.1)).Nodup) ∧ (∀ x ∈ h9, (c9 : Int) ≤ x.1.v) ∧ St W w (Row 26 1 (.slice p O.length c) O.length (O.flatMap byCell) :: byA O :: RfA g (drS (ackS s d.ack.v) c9 h9) :: (F.set i emp))) (fun (x_ : Nat × (List (I64 × List UInt8)) × (List BytesD) × (Option Addr) × Nat) => match x_ with | (c9, h9, O, p, c) => h9.length) (s.came, s.held ++ [(d.seq, d.body)], [], none, 0) ?_ ?_ ?_
        ·exact ⟨by first | rfl | exact vint (by omega), by first | rfl | exact vint (by omega), by first | rfl | exact vint (by omega), by first | rfl | exact vint (by omega), trivial⟩
        ·exact ⟨(DrI.start _ _), (by omega), (fun x hx => (List.mem_append.1 hx).elim (o8 x) (fun h => by rw [List.mem_singleton] at h; subst h; exact q2)), (by simp), (hH89.ins (k := d.seq) (b := d.body) hkm hlt hgt).nd, (fun x hx => (List.mem_append.1 hx).elim (fun h => Int.le_of_lt (hv.hi x h)) (fun h => by rw [List.mem_singleton] at h; subst h; show (s.came : Int) ≤ d.seq.v; omega)), H169⟩
        ·rintro ⟨c9, h9, O, p, c⟩ ρ170 w171 ⟨hDr, hc9, hh9, hl9, hn9, hlo, H172⟩ nx173
         change Ends _ _ (upds ρ170 [(0, .pointer (some ⟨g, 0, none⟩)), (4, .slice none 0 0), (5, .int .i64 0), (10, .slice p O.length c)]) w171
         refine g_seq ?_
         refine g_seq ?_
         have H174 := H172.move 2 rfl
         obtain ⟨⟨⟨pp175, cc176, L177, pp178, cc179, E180, A181⟩, hL182, hA183, hH184⟩, H185⟩ := St.open_ex H174
         have H186 := St.open_star H185
         change L177.map BodD.v = A181 ++ (drS (ackS s d.ack.v) c9 h9).l at hL182; change A181.length = (drS (ackS s d.ack.v) c9 h9).acked at hA183; change HR (drS (ackS s d.ack.v) c9 h9).held (mapB E180) at hH184
         have hl187 := refLen hL182 hA183; have hh188 : E180.length = (drS (ackS s d.ack.v) c9 h9).held.length := by have h9 := hH184.len; rw [mapB_len rfl] at h9; exact h9
         have H189 : St W w171 (blk g (rfC (drS (ackS s d.ack.v) c9 h9) (.slice pp175 L177.length cc176) (.slice pp178 E180.length cc179)) :: Row 101 3 (.slice pp175 L177.length cc176) L177.length (L177.flatMap bodCell) :: byA (L177.map BodD.by) :: Row 105 2 (.slice pp178 E180.length cc179) E180.length (E180.flatMap hlCell) :: byA (mby E180) :: Row 26 1 (.slice p O.length c) O.length (O.flatMap byCell) :: byA O :: (F.set i emp)) := H186
         change HR h9 (mapB E180) at hH184
         change E180.length = h9.length at hh188
         have hcv : (i64N (drS (ackS s d.ack.v) c9 h9).came).v = (c9 : Int) := i64N_v (n := c9) (by omega); have hcw := i64N_v (n := c9) (by omega)
         by_cases hc190 : (0 : Int) < (E180.length : Int)
         ·skip
          obtain ⟨bk191, cur192, hp193, h194, h195, h196, h197, h198, H199⟩ := Row.open2 H189 (i := 3) rfl (by omega)
          refine g_quiet (fun w' => St W w' (blk g (rfC (drS (ackS s d.ack.v) c9 h9) (.slice pp175 L177.length cc176) (.slice pp178 E180.length cc179)) :: Row 101 3 (.slice pp175 L177.length cc176) L177.length (L177.flatMap bodCell) :: byA (L177.map BodD.by) :: blk bk191 (.cells cur192 105 (0, 0)) :: byA (mby E180) :: Row 26 1 (.slice p O.length c) O.length (O.flatMap byCell) :: byA O :: (F.set i emp))) mixed (by kernel_rfl) H199.drew ?_
          refine q_cons (q_val rfl rfl rfl (by intro w hw; exact x_move (.pointer (some ⟨g, 0, none⟩)) rfl w) ?_)
          refine q_cons (q_val rfl rfl rfl (by intro w hw; exact x_nilCheck (.pointer (some ⟨g, 0, none⟩)) rfl ⟨_, rfl⟩ w) ?_)
          refine q_cons (q_val rfl rfl rfl (by intro w hw; exact x_fieldAddr 86 5 6 6 84 rfl fi_86_5 rfl w) ?_)
          refine q_cons (q_val rfl rfl rfl (by intro w hw; exact x_load (.slice pp178 E180.length cc179) ag_84 rfl (hw.blk_at (i := 0) rfl) rfl) ?_)
          refine q_cons (q_val rfl rfl rfl (by intro w hw; exact x_len E180.length rfl ⟨_, un_84⟩ w) ?_)
          refine q_cons (q_val rfl rfl rfl (by intro w hw; exact x_gtr true rfl rfl (dtrue hc190) w) ?_)
          refine q_cons (q_val rfl rfl rfl (by intro w hw; exact x_move (.bool true) rfl w) ?_)
          refine q_cons (q_take rfl rfl ?_)
          refine q_val rfl rfl rfl (by intro w hw; exact x_move (.pointer (some ⟨g, 0, none⟩)) rfl w) ?_
          refine q_cons (q_take rfl rfl ?_)
          refine q_val rfl rfl rfl (by intro w hw; exact x_nilCheck (.pointer (some ⟨g, 0, none⟩)) rfl ⟨_, rfl⟩ w) ?_
          refine q_cons (q_take rfl rfl ?_)
          refine q_val rfl rfl rfl (by intro w hw; exact x_fieldAddr 86 5 6 6 84 rfl fi_86_5 rfl w) ?_
          refine q_cons (q_take rfl rfl ?_)
          refine q_val rfl rfl rfl (by intro w hw; exact x_load (.slice pp178 E180.length cc179) ag_84 rfl (hw.blk_at (i := 0) rfl) rfl) ?_
          refine q_cons (q_take rfl rfl ?_)
          refine q_val rfl rfl rfl (by intro w hw; exact x_indexAddr bk191 (off := 0) 0 2 (0 + 0 * 2) (by exact congrArg (fun z_ => Value.slice z_ E180.length cc179) ((fun (_ : 0 < 1) => hp193) (by omega))) rfl el_84 (by omega) rfl w) ?_
          refine q_cons (q_take rfl rfl ?_)
          refine q_val rfl rfl rfl (by intro w hw; exact x_fieldAddr 105 0 0 (0 + 0 * 2) 2 rfl fi_105_0 rfl w) ?_
          refine q_cons (q_take rfl rfl ?_)
          refine q_val rfl rfl rfl (by intro w hw; exact x_load (.int .i64 ((E180.getD 0 default).1.v)) ag_2 rfl (hw.blk_at (i := 3) rfl) (elem_cell (L := E180) (i := 0) hlCell_len (by rw [(rfl : E180.length = E180.length)]; exact h197) (by have hh : E180.length = E180.length := (rfl : E180.length = E180.length); omega) default 0 (by decide) _ rfl)) ?_
          refine q_cons (q_take rfl rfl ?_)
          refine q_val rfl rfl rfl (by intro w hw; exact x_move (.pointer (some ⟨g, 0, none⟩)) rfl w) ?_
          refine q_cons (q_take rfl rfl ?_)
          refine q_val rfl rfl rfl (by intro w hw; exact x_nilCheck (.pointer (some ⟨g, 0, none⟩)) rfl ⟨_, rfl⟩ w) ?_
          refine q_cons (q_take rfl rfl ?_)
          refine q_val rfl rfl rfl (by intro w hw; exact x_fieldAddr 86 4 5 5 2 rfl fi_86_4 rfl w) ?_
          refine q_cons (q_take rfl rfl ?_)
          refine q_val rfl rfl rfl (by intro w hw; exact x_load (.int .i64 ((i64N (drS (ackS s d.ack.v) c9 h9).came).v)) ag_2 rfl (hw.blk_at (i := 0) rfl) rfl) ?_
          refine q_cons (q_take rfl rfl ?_)
          by_cases hc200 : (E180.getD 0 default).1.v = (i64N (drS (ackS s d.ack.v) c9 h9).came).v
          ·skip
           refine q_val rfl rfl rfl (by intro w hw; exact x_eql true rfl rfl (dtrue hc200) w) ?_
           refine q_cons (q_val rfl rfl rfl (by intro w hw; exact x_pick_t (.bool true) rfl rfl w) ?_)
           refine q_nil ?_
           intro w201 H202
           refine g_true rfl ?_
           refine g_skip ?_
           refine g_block ?_
           refine g_seq ?_
           refine g_region ?_
           refine r_cons (s_move (.slice p O.length c) rfl rfl ?_)
           refine r_cons (s_move (.pointer (some ⟨g, 0, none⟩)) rfl rfl ?_)
           refine r_cons (s_nilCheck (.pointer (some ⟨g, 0, none⟩)) rfl ⟨_, rfl⟩ rfl ?_)
           refine r_cons (s_fieldAddr 86 5 6 6 84 rfl fi_86_5 rfl rfl ?_)
           refine r_cons (s_load (.slice pp178 E180.length cc179) ag_84 rfl (H202.blk_at (i := 0) rfl) rfl rfl ?_)
           refine r_cons (s_indexAddr bk191 (off := 0) 0 2 (0 + 0 * 2) (by exact congrArg (fun z_ => Value.slice z_ E180.length cc179) ((fun (_ : 0 < 1) => hp193) (by omega))) rfl el_84 (by omega) rfl rfl ?_)
           refine r_cons (s_fieldAddr 105 1 1 (0 + 0 * 2 + 1) 26 rfl fi_105_1 rfl rfl ?_)
           refine r_cons (s_load (.slice ((E180.getD 0 default).2.p) ((E180.getD 0 default).2.data.length) ((E180.getD 0 default).2.c)) ag_26 rfl (H202.blk_at (i := 3) rfl) (elem_cell (L := E180) (i := 0) hlCell_len (by rw [(rfl : E180.length = E180.length)]; exact h197) (by have hh : E180.length = E180.length := (rfl : E180.length = E180.length); omega) default 1 (by decide) _ rfl) rfl ?_)
           refine r_cons (s_buildSlice H202 1 1 (cs := #[.slice ((E180.getD 0 default).2.p) ((E180.getD 0 default).2.data.length) ((E180.getD 0 default).2.c)]) #[.slice none 0 0] el_32 ze_26 (by decide) (by decide) (by kernel_rfl) rfl ?_); intro bk203 w204 H205
           refine r_cons (s_append H205 6 rfl rfl rfl (rd_blk (H205.blk_at (i := 0) rfl) rfl (nbl rfl) (by simp [Value.oneCell'])) ap_32 (by decide) (by unfold maxLen; omega) (by omega) (n' := O.length + 1) (xs' := O.flatMap byCell ++ ([.slice ((E180.getD 0 default).2.p) ((E180.getD 0 default).2.data.length) ((E180.getD 0 default).2.c)] : List Value)) (by omega) (by first | rfl | simp) rfl ?_); intro vv206 w207 H208 hn209
           obtain ⟨pp210, cc211, rfl⟩ := Row.slice H208 (i := 6) rfl
           refine r_cons (s_assign (.slice pp210 (O.length + 1) cc211) rfl rfl ?_)
           refine r_nil ?_
           refine g_seq ?_
           refine g_region ?_
           refine r_cons (s_assign (.slice none 0 0) rfl rfl ?_)
           refine r_nil ?_
           refine g_seq ?_
           refine g_region ?_
           have H212 := Row.shut2 (p := pp178) (n := E180.length) (c := cc179) (size := 2) (xs := E180.flatMap hlCell) H208 (i := 4) rfl hp193 h194 h195 h196 (by have hh : (cur192.toList.drop 0).take (E180.length * 2) = E180.flatMap hlCell := (by rw [(rfl : E180.length = E180.length)]; exact h197); have hk : E180.length = E180.length := (rfl : E180.length = E180.length); rw [hk] at hh; exact hh) (fun x_ hx_ => by obtain ⟨a_, _, ha_⟩ := List.mem_flatMap.1 hx_; exact one_hl a_ x_ ha_)
           have H213 : St W w207 (blk bk203 (.cells #[.slice ((E180.getD 0 default).2.p) ((E180.getD 0 default).2.data.length) ((E180.getD 0 default).2.c)] 26 (0, 0)) :: blk g (rfC (drS (ackS s d.ack.v) c9 h9) (.slice pp175 L177.length cc176) (.slice pp178 E180.length cc179)) :: Row 101 3 (.slice pp175 L177.length cc176) L177.length (L177.flatMap bodCell) :: byA (L177.map BodD.by) :: Im 2 (.slice pp178 E180.length cc179) E180.length (E180.flatMap hlCell) :: byA (mby E180) :: Row 26 1 (.slice pp210 (O.length + 1) cc211) (O.length + 1) (O.flatMap byCell ++ ([.slice ((E180.getD 0 default).2.p) ((E180.getD 0 default).2.data.length) ((E180.getD 0 default).2.c)] : List Value)) :: byA O :: (F.set i emp)) := Row.im H212 (i := 4) rfl
           refine r_cons (s_move (.pointer (some ⟨g, 0, none⟩)) rfl rfl ?_)
           refine r_cons (s_move (.slice none 0 0) rfl rfl ?_)
           refine r_cons (s_move (.pointer (some ⟨g, 0, none⟩)) rfl rfl ?_)
           refine r_cons (s_nilCheck (.pointer (some ⟨g, 0, none⟩)) rfl ⟨_, rfl⟩ rfl ?_)
           refine r_cons (s_fieldAddr 86 5 6 6 84 rfl fi_86_5 rfl rfl ?_)
           refine r_cons (s_load (.slice pp178 E180.length cc179) ag_84 rfl (H213.blk_at (i := 1) rfl) rfl rfl ?_)
           have hc214 := Im.cap H213 (i := 4) rfl
           refine r_cons (s_slice_l pp178 1 2 (.slice (cutAt pp178 1 cc179 2) (E180.length - 1) (cc179 - 1)) rfl rfl el_84 (by omega) (by first | rfl | (congr 1; omega)) rfl ?_)
           have H215 : St W w207 (Im 2 (.slice (cutAt pp178 1 cc179 2) (E180.length - 1) (cc179 - 1)) (E180.length - 1) ((E180.drop 1).flatMap hlCell) :: blk bk203 (.cells #[.slice ((E180.getD 0 default).2.p) ((E180.getD 0 default).2.data.length) ((E180.getD 0 default).2.c)] 26 (0, 0)) :: blk g (rfC (drS (ackS s d.ack.v) c9 h9) (.slice pp175 L177.length cc176) (.slice pp178 E180.length cc179)) :: Row 101 3 (.slice pp175 L177.length cc176) L177.length (L177.flatMap bodCell) :: byA (L177.map BodD.by) :: Im 2 (.slice pp178 E180.length cc179) E180.length (E180.flatMap hlCell) :: byA (mby E180) :: Row 26 1 (.slice pp210 (O.length + 1) cc211) (O.length + 1) (O.flatMap byCell ++ ([.slice ((E180.getD 0 default).2.p) ((E180.getD 0 default).2.data.length) ((E180.getD 0 default).2.c)] : List Value)) :: byA O :: (F.set i emp)) := Im.cutN_l hlCell_len (by decide) 1 H213 (i := 4) rfl (by omega)
           have H216 := Row.nil_intro H215 105 2
           refine r_cons (s_append H216 0 rfl rfl rfl (Im.rd H216 (i := 1) rfl) ap_84 (by decide) (by unfold maxLen; omega) (by omega) (n' := E180.length - 1) (xs' := (E180.drop 1).flatMap hlCell) (by omega) (by first | rfl | simp) rfl ?_); intro vv217 w218 H219 hn220
           obtain ⟨pp221, cc222, rfl⟩ := Row.slice H219 (i := 0) rfl
           refine r_cons (s_nilCheck (.pointer (some ⟨g, 0, none⟩)) rfl ⟨_, rfl⟩ rfl ?_)
           refine r_cons (s_fieldAddr 86 5 6 6 84 rfl fi_86_5 rfl rfl ?_)
           refine r_cons (s_store H219 3 (.slice pp221 (E180.length - 1) cc222) rfl rfl rfl sz_84 rfl (nbl rfl) rfl (cs' := #[.int .i64 ((drS (ackS s d.ack.v) c9 h9).frm.v), .int .i64 ((drS (ackS s d.ack.v) c9 h9).to_.v), .int .i64 ((drS (ackS s d.ack.v) c9 h9).slide : Int), .slice pp175 L177.length cc176, .int .i64 ((drS (ackS s d.ack.v) c9 h9).acked : Int), .int .i64 ((i64N (drS (ackS s d.ack.v) c9 h9).came).v), .slice pp221 (E180.length - 1) cc222, .int .i64 ((drS (ackS s d.ack.v) c9 h9).clock : Int), .bool ((drS (ackS s d.ack.v) c9 h9).owes)]) rfl ?_); intro w223 H224
           refine r_nil ?_
           refine g_region ?_
           refine r_cons (s_move (.pointer (some ⟨g, 0, none⟩)) rfl rfl ?_)
           refine r_cons (s_nilCheck (.pointer (some ⟨g, 0, none⟩)) rfl ⟨_, rfl⟩ rfl ?_)
           refine r_cons (s_fieldAddr 86 4 5 5 2 rfl fi_86_4 rfl rfl ?_)
           refine r_cons (s_load (.int .i64 ((i64N (drS (ackS s d.ack.v) c9 h9).came).v)) ag_2 rfl (H224.blk_at (i := 3) rfl) rfl rfl ?_)
           refine r_cons (s_add ((c9 + 1 : Nat) : Int) rfl rfl ((wi64 (by omega)).trans (by omega)) rfl ?_)
           refine r_cons (s_nilCheck (.pointer (some ⟨g, 0, none⟩)) rfl ⟨_, rfl⟩ rfl ?_)
           refine r_cons (s_fieldAddr 86 4 5 5 2 rfl fi_86_4 rfl rfl ?_)
           refine r_cons (s_store H224 3 (.int .i64 ((c9 + 1 : Nat) : Int)) rfl rfl rfl sz_2 rfl (nbl rfl) rfl (cs' := #[.int .i64 ((drS (ackS s d.ack.v) c9 h9).frm.v), .int .i64 ((drS (ackS s d.ack.v) c9 h9).to_.v), .int .i64 ((drS (ackS s d.ack.v) c9 h9).slide : Int), .slice pp175 L177.length cc176, .int .i64 ((drS (ackS s d.ack.v) c9 h9).acked : Int), .int .i64 ((c9 + 1 : Nat) : Int), .slice pp221 (E180.length - 1) cc222, .int .i64 ((drS (ackS s d.ack.v) c9 h9).clock : Int), .bool ((drS (ackS s d.ack.v) c9 h9).owes)]) rfl ?_); intro w225 H226
           refine r_nil ?_
           refine g_inBlock ?_
           have H227 : St W w225 (Row 105 2 (.slice pp221 ((E180.drop 1).length) cc222) ((E180.drop 1).length) ((E180.drop 1).flatMap hlCell) :: Im 2 (.slice (cutAt pp178 1 cc179 2) (E180.length - 1) (cc179 - 1)) (E180.length - 1) ((E180.drop 1).flatMap hlCell) :: blk bk203 (.cells #[.slice ((E180.getD 0 default).2.p) ((E180.getD 0 default).2.data.length) ((E180.getD 0 default).2.c)] 26 (0, 0)) :: blk g (.cells #[.int .i64 ((drS (ackS s d.ack.v) c9 h9).frm.v), .int .i64 ((drS (ackS s d.ack.v) c9 h9).to_.v), .int .i64 ((drS (ackS s d.ack.v) c9 h9).slide : Int), .slice pp175 L177.length cc176, .int .i64 ((drS (ackS s d.ack.v) c9 h9).acked : Int), .int .i64 ((i64N (c9 + 1)).v), .slice pp221 ((E180.drop 1).length) cc222, .int .i64 ((drS (ackS s d.ack.v) c9 h9).clock : Int), .bool ((drS (ackS s d.ack.v) c9 h9).owes)] 86 (0, 0)) :: Row 101 3 (.slice pp175 L177.length cc176) L177.length (L177.flatMap bodCell) :: byA (L177.map BodD.by) :: Im 2 (.slice pp178 E180.length cc179) E180.length (E180.flatMap hlCell) :: byA (mby E180) :: Row 26 1 (.slice pp210 ((O ++ [(E180.getD 0 default).2]).length) cc211) ((O ++ [(E180.getD 0 default).2]).length) ((O ++ [(E180.getD 0 default).2]).flatMap byCell) :: byA O :: (F.set i emp)) := by rw [i64N_v (n := c9 + 1) (by omega), flat_app, flat_one, List.length_append, List.length_drop]; exact H226
           have H228 : St W w225 (Im 1 (.slice ((E180.getD 0 default).2.p) ((E180.getD 0 default).2.data.length) ((E180.getD 0 default).2.c)) (((E180.getD 0 default).2.data).length) (((E180.getD 0 default).2.data).flatMap u8c) :: Row 105 2 (.slice pp221 ((E180.drop 1).length) cc222) ((E180.drop 1).length) ((E180.drop 1).flatMap hlCell) :: Im 2 (.slice (cutAt pp178 1 cc179 2) (E180.length - 1) (cc179 - 1)) (E180.length - 1) ((E180.drop 1).flatMap hlCell) :: blk bk203 (.cells #[.slice ((E180.getD 0 default).2.p) ((E180.getD 0 default).2.data.length) ((E180.getD 0 default).2.c)] 26 (0, 0)) :: blk g (.cells #[.int .i64 ((drS (ackS s d.ack.v) c9 h9).frm.v), .int .i64 ((drS (ackS s d.ack.v) c9 h9).to_.v), .int .i64 ((drS (ackS s d.ack.v) c9 h9).slide : Int), .slice pp175 L177.length cc176, .int .i64 ((drS (ackS s d.ack.v) c9 h9).acked : Int), .int .i64 ((i64N (c9 + 1)).v), .slice pp221 ((E180.drop 1).length) cc222, .int .i64 ((drS (ackS s d.ack.v) c9 h9).clock : Int), .bool ((drS (ackS s d.ack.v) c9 h9).owes)] 86 (0, 0)) :: Row 101 3 (.slice pp175 L177.length cc176) L177.length (L177.flatMap bodCell) :: byA (L177.map BodD.by) :: Im 2 (.slice pp178 E180.length cc179) E180.length (E180.flatMap hlCell) :: byA (mby E180) :: Row 26 1 (.slice pp210 ((O ++ [(E180.getD 0 default).2]).length) cc211) ((O ++ [(E180.getD 0 default).2]).length) ((O ++ [(E180.getD 0 default).2]).flatMap byCell) :: byA O :: (F.set i emp)) := byA_at H227 (i := 7) rfl (mby_at (k := 0) (by omega))
           have H229 := byA_add (x := (E180.getD 0 default).2) H228 (i := 10) (j := 0) rfl rfl snoc_b
           have H230 := byA_sub (M := mby (E180.drop 1)) H229 (i := 9) rfl mby_drop
           have hk9 : (E180.getD 0 default).1 = i64N c9 := I64.eq (by rw [hcw]; omega)
           have hg9 : aget h9 (i64N c9) = some (E180.getD 0 default).2.data := by have hx := hH184.get (mapB_one (by omega)); simp only [hk9] at hx; exact hx
           have hr9 : HR (adel h9 (i64N c9)) (mapB (E180.drop 1)) := by have hx := hH184.del (mapB_one (by omega)); simp only [hk9] at hx; exact hx
           have hkk := hh9 _ (aget_mem hg9); simp only at hkk
           have H231 : St W w225 (blk g (.cells #[.int .i64 ((drS (ackS s d.ack.v) c9 h9).frm.v), .int .i64 ((drS (ackS s d.ack.v) c9 h9).to_.v), .int .i64 ((drS (ackS s d.ack.v) c9 h9).slide : Int), .slice pp175 L177.length cc176, .int .i64 ((drS (ackS s d.ack.v) c9 h9).acked : Int), .int .i64 ((i64N (c9 + 1)).v), .slice pp221 ((E180.drop 1).length) cc222, .int .i64 ((drS (ackS s d.ack.v) c9 h9).clock : Int), .bool ((drS (ackS s d.ack.v) c9 h9).owes)] 86 (0, 0)) :: Row 101 3 (.slice pp175 L177.length cc176) L177.length (L177.flatMap bodCell) :: byA (L177.map BodD.by) :: Row 105 2 (.slice pp221 ((E180.drop 1).length) cc222) ((E180.drop 1).length) ((E180.drop 1).flatMap hlCell) :: byA (mby (E180.drop 1)) :: byA (O ++ [(E180.getD 0 default).2]) :: Im 1 (.slice ((E180.getD 0 default).2.p) ((E180.getD 0 default).2.data.length) ((E180.getD 0 default).2.c)) (((E180.getD 0 default).2.data).length) (((E180.getD 0 default).2.data).flatMap u8c) :: Im 2 (.slice (cutAt pp178 1 cc179 2) (E180.length - 1) (cc179 - 1)) (E180.length - 1) ((E180.drop 1).flatMap hlCell) :: blk bk203 (.cells #[.slice ((E180.getD 0 default).2.p) ((E180.getD 0 default).2.data.length) ((E180.getD 0 default).2.c)] 26 (0, 0)) :: Im 2 (.slice pp178 E180.length cc179) E180.length (E180.flatMap hlCell) :: byA (mby E180) :: Row 26 1 (.slice pp210 ((O ++ [(E180.getD 0 default).2]).length) cc211) ((O ++ [(E180.getD 0 default).2]).length) ((O ++ [(E180.getD 0 default).2]).flatMap byCell) :: byA O :: (F.set i emp)) := ((((H230.move 3 rfl).move 8 rfl).move 8 rfl).move 8 rfl)
           have H232 : St W w225 (RfA g (drS (ackS s d.ack.v) (c9 + 1) (adel h9 (i64N c9))) :: byA (O ++ [(E180.getD 0 default).2]) :: Im 1 (.slice ((E180.getD 0 default).2.p) ((E180.getD 0 default).2.data.length) ((E180.getD 0 default).2.c)) (((E180.getD 0 default).2.data).length) (((E180.getD 0 default).2.data).flatMap u8c) :: Im 2 (.slice (cutAt pp178 1 cc179 2) (E180.length - 1) (cc179 - 1)) (E180.length - 1) ((E180.drop 1).flatMap hlCell) :: blk bk203 (.cells #[.slice ((E180.getD 0 default).2.p) ((E180.getD 0 default).2.data.length) ((E180.getD 0 default).2.c)] 26 (0, 0)) :: Im 2 (.slice pp178 E180.length cc179) E180.length (E180.flatMap hlCell) :: byA (mby E180) :: Row 26 1 (.slice pp210 ((O ++ [(E180.getD 0 default).2]).length) cc211) ((O ++ [(E180.getD 0 default).2]).length) ((O ++ [(E180.getD 0 default).2]).flatMap byCell) :: byA O :: (F.set i emp)) := St.shut_ex ⟨⟨pp175, cc176, L177, pp221, cc222, (E180.drop 1), A181⟩, hL182, hA183, hr9⟩ (St.shut_star (ls := [_, _, _, _, _]) H231)
           have H233 : St W w225 (Row 26 1 (.slice pp210 ((O ++ [(E180.getD 0 default).2]).length) cc211) ((O ++ [(E180.getD 0 default).2]).length) ((O ++ [(E180.getD 0 default).2]).flatMap byCell) :: byA (O ++ [(E180.getD 0 default).2]) :: RfA g (drS (ackS s d.ack.v) (c9 + 1) (adel h9 (i64N c9))) :: (F.set i emp)) := ((((((((H232.move 1 rfl).move 7 rfl).drop 3 rfl).drop 3 rfl).drop 3 rfl).drop 3 rfl).drop 3 rfl).drop 3 rfl)
           exact nx173 (c9 + 1, adel h9 (i64N c9), (O ++ [(E180.getD 0 default).2]), pp210, cc211) _ _ ⟨(by rw [List.map_append]; exact hDr.step hg9), (by omega), (fun x hx => hh9 x (adel_sub hx)), (by rw [List.length_append]; have := adel_len (has_of_get hg9); simp only [List.length_cons, List.length_nil]; omega), (adel_nd hn9), (fun x hx => keyNext (hlo x (adel_sub hx)) (keys_ne hn9 x hx) hcw), H233⟩ (by first | (dsimp only; (have := adel_len (has_of_get hg9); omega)) | (have := adel_len (has_of_get hg9); omega)) ⟨by first | rfl | exact vint (by omega), by first | rfl | exact vint (by omega), by first | rfl | exact vint (by omega), by first | rfl | (show Value.slice _ _ _ = _; rw [List.length_append]; rfl), trivial⟩
          ·skip
           refine q_val rfl rfl rfl (by intro w hw; exact x_eql false rfl rfl (dfalse hc200) w) ?_
           refine q_cons (q_val rfl rfl rfl (by intro w hw; exact x_pick_t (.bool false) rfl rfl w) ?_)
           refine q_nil ?_
           intro w234 H235
           refine g_false rfl ?_
           refine g_exit (by rfl) ?_
           refine g_seq ?_
           refine g_region ?_
           refine r_cons (s_move (.slice p O.length c) rfl rfl ?_)
           refine r_cons (s_assign (.slice p O.length c) rfl rfl ?_)
           refine r_cons (s_assign (.int .i64 0) rfl rfl ?_)
           refine r_nil ?_
           refine g_ret' [.slice p O.length c, .int .i64 0] Try.func41 Try.results41 ⟨rfl, rfl, trivial⟩ ?_
           have hno : ahas h9 (i64N c9) = false := hH184.stop (by omega) hlo (by rw [mapB_len rfl, mapB_at]; show _ ∨ ¬ (E180.getD 0 default).1.v = (c9 : Int); omega)
           have H236 := Row.shut2 (p := pp178) (n := E180.length) (c := cc179) (size := 2) (xs := E180.flatMap hlCell) H235 (i := 3) rfl hp193 h194 h195 h196 (by have hh : (cur192.toList.drop 0).take (E180.length * 2) = E180.flatMap hlCell := (by rw [(rfl : E180.length = E180.length)]; exact h197); have hk : E180.length = E180.length := (rfl : E180.length = E180.length); rw [hk] at hh; exact hh) (fun x_ hx_ => by obtain ⟨a_, _, ha_⟩ := List.mem_flatMap.1 hx_; exact one_hl a_ x_ ha_)
           have H237 : St W w234 (RfA g (drS (ackS s d.ack.v) c9 h9) :: Row 26 1 (.slice p O.length c) O.length (O.flatMap byCell) :: byA O :: (F.set i emp)) := St.shut_ex ⟨⟨pp175, cc176, L177, pp178, cc179, E180, A181⟩, hL182, hA183, hH184⟩ (St.shut_star (ls := [_, _, _, _, _]) H236)
           have hd9 := hDr.stop hno
           have hT9 : takeT s d = O.map BytesD.data := by rw [takeT_yes hE hk1, hC, hd9]
           have H238 : St W w234 (Row 26 1 (.slice p O.length c) O.length (O.flatMap byCell) :: byA O :: RfA g (drS (ackS s d.ack.v) c9 h9) :: (F.set i emp)) := ((H237.move 2 rfl).move 2 rfl)
           have hn239 : (takeT s d).length = O.length := (by rw [hT9, List.length_map])
           have H240 : St W w234 (Row 26 1 (.slice p ((takeT s d).length) c) ((takeT s d).length) (O.flatMap byCell) :: byA O :: RfA g (drS (ackS s d.ack.v) c9 h9) :: (F.set i emp)) := by rw [hn239]; exact H238
           have H241 : St W w234 (BysA p c (takeT s d) :: RfA g (drS (ackS s d.ack.v) c9 h9) :: (F.set i emp)) := St.shut_ex ⟨O, hT9.symm⟩ (St.shut_star (ls := [_, _]) H240)
           have H242 : St W w234 (BysA p c (takeT s d) :: RfA g (takeS s d) :: (F.set i emp)) := by rw [takeS_data hE hk1, hC, hd9]; exact H241
           have H243 : St W w234 (BysA p c (takeT s d) :: RfA g (takeS s d) :: (F.set i emp)) := ((H242.move 1 rfl).move 1 rfl)
           have H244 : St W w234 (RfA g (takeS s d) :: (BysA p c (takeT s d) :: F).set (i + 1) emp) := (H243.move 1 rfl)
           exact ⟨_, _, by rw [hE, hn239]; rfl, St.back (i := i + 1) (by exact hi) H244⟩
         ·skip
          refine g_quiet (fun w' => St W w' (blk g (rfC (drS (ackS s d.ack.v) c9 h9) (.slice pp175 L177.length cc176) (.slice pp178 E180.length cc179)) :: Row 101 3 (.slice pp175 L177.length cc176) L177.length (L177.flatMap bodCell) :: byA (L177.map BodD.by) :: Row 105 2 (.slice pp178 E180.length cc179) E180.length (E180.flatMap hlCell) :: byA (mby E180) :: Row 26 1 (.slice p O.length c) O.length (O.flatMap byCell) :: byA O :: (F.set i emp))) mixed (by kernel_rfl) H189.drew ?_
          refine q_cons (q_val rfl rfl rfl (by intro w hw; exact x_move (.pointer (some ⟨g, 0, none⟩)) rfl w) ?_)
          refine q_cons (q_val rfl rfl rfl (by intro w hw; exact x_nilCheck (.pointer (some ⟨g, 0, none⟩)) rfl ⟨_, rfl⟩ w) ?_)
          refine q_cons (q_val rfl rfl rfl (by intro w hw; exact x_fieldAddr 86 5 6 6 84 rfl fi_86_5 rfl w) ?_)
          refine q_cons (q_val rfl rfl rfl (by intro w hw; exact x_load (.slice pp178 E180.length cc179) ag_84 rfl (hw.blk_at (i := 0) rfl) rfl) ?_)
          refine q_cons (q_val rfl rfl rfl (by intro w hw; exact x_len E180.length rfl ⟨_, un_84⟩ w) ?_)
          refine q_cons (q_val rfl rfl rfl (by intro w hw; exact x_gtr false rfl rfl (dfalse hc190) w) ?_)
          refine q_cons (q_val rfl rfl rfl (by intro w hw; exact x_move (.bool false) rfl w) ?_)
          refine q_cons (q_pass rfl rfl rfl rfl rfl ?_)
          refine q_cons (q_pass rfl rfl rfl rfl rfl ?_)
          refine q_cons (q_pass rfl rfl rfl rfl rfl ?_)
          refine q_cons (q_pass rfl rfl rfl rfl rfl ?_)
          refine q_cons (q_pass rfl rfl rfl rfl rfl ?_)
          refine q_cons (q_pass rfl rfl rfl rfl rfl ?_)
          refine q_cons (q_pass rfl rfl rfl rfl rfl ?_)
          refine q_cons (q_pass rfl rfl rfl rfl rfl ?_)
          refine q_cons (q_pass rfl rfl rfl rfl rfl ?_)
          refine q_cons (q_pass rfl rfl rfl rfl rfl ?_)
          refine q_cons (q_pass rfl rfl rfl rfl rfl ?_)
          refine q_cons (q_pass rfl rfl rfl rfl rfl ?_)
          refine q_cons (q_val rfl rfl rfl (by intro w hw; exact x_pick_f (.bool false) rfl rfl w) ?_)
          refine q_nil ?_
          intro w245 H246
          refine g_false rfl ?_
          refine g_exit (by rfl) ?_
          refine g_seq ?_
          refine g_region ?_
          refine r_cons (s_move (.slice p O.length c) rfl rfl ?_)
          refine r_cons (s_assign (.slice p O.length c) rfl rfl ?_)
          refine r_cons (s_assign (.int .i64 0) rfl rfl ?_)
          refine r_nil ?_
          refine g_ret' [.slice p O.length c, .int .i64 0] Try.func41 Try.results41 ⟨rfl, rfl, trivial⟩ ?_
          have hno : ahas h9 (i64N c9) = false := hH184.stop (by omega) hlo (by rw [mapB_len rfl, mapB_at]; show _ ∨ ¬ (E180.getD 0 default).1.v = (c9 : Int); omega)
          have H247 : St W w245 (RfA g (drS (ackS s d.ack.v) c9 h9) :: Row 26 1 (.slice p O.length c) O.length (O.flatMap byCell) :: byA O :: (F.set i emp)) := St.shut_ex ⟨⟨pp175, cc176, L177, pp178, cc179, E180, A181⟩, hL182, hA183, hH184⟩ (St.shut_star (ls := [_, _, _, _, _]) H246)
          have hd9 := hDr.stop hno
          have hT9 : takeT s d = O.map BytesD.data := by rw [takeT_yes hE hk1, hC, hd9]
          have H248 : St W w245 (Row 26 1 (.slice p O.length c) O.length (O.flatMap byCell) :: byA O :: RfA g (drS (ackS s d.ack.v) c9 h9) :: (F.set i emp)) := ((H247.move 2 rfl).move 2 rfl)
          have hn249 : (takeT s d).length = O.length := (by rw [hT9, List.length_map])
          have H250 : St W w245 (Row 26 1 (.slice p ((takeT s d).length) c) ((takeT s d).length) (O.flatMap byCell) :: byA O :: RfA g (drS (ackS s d.ack.v) c9 h9) :: (F.set i emp)) := by rw [hn249]; exact H248
          have H251 : St W w245 (BysA p c (takeT s d) :: RfA g (drS (ackS s d.ack.v) c9 h9) :: (F.set i emp)) := St.shut_ex ⟨O, hT9.symm⟩ (St.shut_star (ls := [_, _]) H250)
          have H252 : St W w245 (BysA p c (takeT s d) :: RfA g (takeS s d) :: (F.set i emp)) := by rw [takeS_data hE hk1, hC, hd9]; exact H251
          have H253 : St W w245 (BysA p c (takeT s d) :: RfA g (takeS s d) :: (F.set i emp)) := ((H252.move 1 rfl).move 1 rfl)
          have H254 : St W w245 (RfA g (takeS s d) :: (BysA p c (takeT s d) :: F).set (i + 1) emp) := (H253.move 1 rfl)
          exact ⟨_, _, by rw [hE, hn249]; rfl, St.back (i := i + 1) (by exact hi) H254⟩
      ·intro join99
       by_cases hc255 : (k : Int) < (E85.length : Int)
       ·skip
        obtain ⟨bk256, cur257, hp258, h259, h260, h261, h262, h263, H264⟩ := Row.open2 H97 (i := 3) rfl (by omega)
        refine g_quiet (fun w' => St W w' (blk g (rfC (drS (ackS s d.ack.v) s.came s.held) (.slice pp80 L82.length cc81) (.slice pp83 E85.length cc84)) :: Row 101 3 (.slice pp80 L82.length cc81) L82.length (L82.flatMap bodCell) :: byA (L82.map BodD.by) :: blk bk256 (.cells cur257 105 (0, 0)) :: byA (mby E85) :: blk bk4 (.cells #[.int .i64 d.frm.v, .int .i64 d.to_.v, .int .i64 d.kind.v, .int .i64 d.seq.v, .int .i64 d.ack.v, .slice pp1 d.body.length cc2] 41 (0, 0)) :: (F.set i emp))) mixed (by kernel_rfl) H264.drew ?_
        refine q_cons (q_val rfl rfl rfl (by intro w hw; exact x_fieldAddr 41 3 3 3 2 rfl fi_41_3 rfl w) ?_)
        refine q_cons (q_val rfl rfl rfl (by intro w hw; exact x_load (.int .i64 d.seq.v) ag_2 rfl (hw.blk_at (i := 5) rfl) rfl) ?_)
        refine q_cons (q_val rfl rfl rfl (by intro w hw; exact x_move (.pointer (some ⟨g, 0, none⟩)) rfl w) ?_)
        refine q_cons (q_val rfl rfl rfl (by intro w hw; exact x_nilCheck (.pointer (some ⟨g, 0, none⟩)) rfl ⟨_, rfl⟩ w) ?_)
        refine q_cons (q_val rfl rfl rfl (by intro w hw; exact x_fieldAddr 86 4 5 5 2 rfl fi_86_4 rfl w) ?_)
        refine q_cons (q_val rfl rfl rfl (by intro w hw; exact x_load (.int .i64 ((i64N (drS (ackS s d.ack.v) s.came s.held).came).v)) ag_2 rfl (hw.blk_at (i := 0) rfl) rfl) ?_)
        by_cases hc265 : d.seq.v < (i64N (drS (ackS s d.ack.v) s.came s.held).came).v
        ·skip
         refine q_cons (q_val rfl rfl rfl (by intro w hw; exact x_lss true rfl rfl (dtrue hc265) w) ?_)
         refine q_cons (q_val rfl rfl rfl (by intro w hw; exact x_move (.bool true) rfl w) ?_)
         refine q_cons (q_pass rfl rfl rfl rfl rfl ?_)
         refine q_cons (q_pass rfl rfl rfl rfl rfl ?_)
         refine q_cons (q_pass rfl rfl rfl rfl rfl ?_)
         refine q_cons (q_pass rfl rfl rfl rfl rfl ?_)
         refine q_cons (q_pass rfl rfl rfl rfl rfl ?_)
         refine q_cons (q_pass rfl rfl rfl rfl rfl ?_)
         refine q_cons (q_pass rfl rfl rfl rfl rfl ?_)
         refine q_cons (q_pass rfl rfl rfl rfl rfl ?_)
         refine q_cons (q_passN rfl rfl rfl rfl ?_)
         refine q_cons (q_passN rfl rfl rfl rfl ?_)
         refine q_cons (q_passN rfl rfl rfl rfl ?_)
         refine q_cons (q_passN rfl rfl rfl rfl ?_)
         refine q_cons (q_passN rfl rfl rfl rfl ?_)
         refine q_cons (q_passN rfl rfl rfl rfl ?_)
         refine q_cons (q_passN rfl rfl rfl rfl ?_)
         refine q_cons (q_passN rfl rfl rfl rfl ?_)
         refine q_cons (q_passN rfl rfl rfl rfl ?_)
         refine q_cons (q_passN rfl rfl rfl rfl ?_)
         refine q_cons (q_passN rfl rfl rfl rfl ?_)
         refine q_cons (q_pass rfl rfl rfl rfl rfl ?_)
         refine q_cons (q_val rfl rfl rfl (by intro w hw; exact x_pick_t (.bool true) rfl rfl w) ?_)
         refine q_nil ?_
         intro w266 H267
         have H268 := Row.shut2 (p := pp83) (n := E85.length) (c := cc84) (size := 2) (xs := E85.flatMap hlCell) H267 (i := 3) rfl hp258 h259 h260 h261 (by have hh : (cur257.toList.drop 0).take (E85.length * 2) = E85.flatMap hlCell := (by rw [(rfl : E85.length = E85.length)]; exact h262); have hk : E85.length = E85.length := (rfl : E85.length = E85.length); rw [hk] at hh; exact hh) (fun x_ hx_ => by obtain ⟨a_, _, ha_⟩ := List.mem_flatMap.1 hx_; exact one_hl a_ x_ ha_)
         have H269 : St W w266 (blk g (rfC (drS (ackS s d.ack.v) s.came s.held) (.slice pp80 L82.length cc81) (.slice pp83 E85.length cc84)) :: Row 101 3 (.slice pp80 L82.length cc81) L82.length (L82.flatMap bodCell) :: byA (L82.map BodD.by) :: Row 105 2 (.slice pp83 E85.length cc84) E85.length (E85.flatMap hlCell) :: byA (mby E85) :: blk bk4 (.cells #[.int .i64 d.frm.v, .int .i64 d.to_.v, .int .i64 d.kind.v, .int .i64 d.seq.v, .int .i64 d.ack.v, .slice pp1 d.body.length cc2] 41 (0, 0)) :: (F.set i emp)) := ((((((H268.move 5 rfl).move 5 rfl).move 5 rfl).move 5 rfl).move 5 rfl).move 5 rfl)
         exact join99 (()) _ _ ⟨trivial, H269⟩ ⟨by first | rfl | exact vint (by omega), by first | rfl | exact vint (by omega), by first | rfl | exact vint (by omega), by first | rfl | exact vint (by omega), by first | rfl | exact vint (by omega), congrArg Value.bool (show true = decide (d.seq.v < (s.came : Int) ∨ ahas s.held d.seq = true) from (decide_eq_true (by first | exact .inl (by omega) | exact .inr (hH89.at (j := k) (by rw [mapB_len rfl]; omega) (by rw [mapB_at]; assumption)))).symm), trivial⟩
        ·skip
         refine q_cons (q_val rfl rfl rfl (by intro w hw; exact x_lss false rfl rfl (dfalse hc265) w) ?_)
         refine q_cons (q_val rfl rfl rfl (by intro w hw; exact x_move (.bool false) rfl w) ?_)
         refine q_cons (q_take rfl rfl ?_)
         refine q_val rfl rfl rfl (by intro w hw; exact x_move (.int .i64 (k : Int)) rfl w) ?_
         refine q_cons (q_take rfl rfl ?_)
         refine q_val rfl rfl rfl (by intro w hw; exact x_move (.pointer (some ⟨g, 0, none⟩)) rfl w) ?_
         refine q_cons (q_take rfl rfl ?_)
         refine q_val rfl rfl rfl (by intro w hw; exact x_nilCheck (.pointer (some ⟨g, 0, none⟩)) rfl ⟨_, rfl⟩ w) ?_
         refine q_cons (q_take rfl rfl ?_)
         refine q_val rfl rfl rfl (by intro w hw; exact x_fieldAddr 86 5 6 6 84 rfl fi_86_5 rfl w) ?_
         refine q_cons (q_take rfl rfl ?_)
         refine q_val rfl rfl rfl (by intro w hw; exact x_load (.slice pp83 E85.length cc84) ag_84 rfl (hw.blk_at (i := 0) rfl) rfl) ?_
         refine q_cons (q_take rfl rfl ?_)
         refine q_val rfl rfl rfl (by intro w hw; exact x_len E85.length rfl ⟨_, un_84⟩ w) ?_
         refine q_cons (q_take rfl rfl ?_)
         refine q_val rfl rfl rfl (by intro w hw; exact x_lss true rfl rfl (dtrue hc255) w) ?_
         refine q_cons (q_take rfl rfl ?_)
         refine q_val rfl rfl rfl (by intro w hw; exact x_move (.bool true) rfl w) ?_
         refine q_cons (q_take rfl rfl ?_)
         refine q_val rfl rfl rfl (by intro w hw; exact x_move (.pointer (some ⟨g, 0, none⟩)) rfl w) ?_
         refine q_cons (q_take rfl rfl ?_)
         refine q_val rfl rfl rfl (by intro w hw; exact x_nilCheck (.pointer (some ⟨g, 0, none⟩)) rfl ⟨_, rfl⟩ w) ?_
         refine q_cons (q_take rfl rfl ?_)
         refine q_val rfl rfl rfl (by intro w hw; exact x_fieldAddr 86 5 6 6 84 rfl fi_86_5 rfl w) ?_
         refine q_cons (q_take rfl rfl ?_)
         refine q_val rfl rfl rfl (by intro w hw; exact x_load (.slice pp83 E85.length cc84) ag_84 rfl (hw.blk_at (i := 0) rfl) rfl) ?_
         refine q_cons (q_take rfl rfl ?_)
         refine q_val rfl rfl rfl (by intro w hw; exact x_move (.int .i64 (k : Int)) rfl w) ?_
         refine q_cons (q_take rfl rfl ?_)
         refine q_val rfl rfl rfl (by intro w hw; exact x_indexAddr bk256 (off := 0) (k : Int) 2 (0 + k * 2) (by exact congrArg (fun z_ => Value.slice z_ E85.length cc84) ((fun (_ : 0 < 1) => hp258) (by omega))) rfl el_84 (by omega) rfl w) ?_
         refine q_cons (q_take rfl rfl ?_)
         refine q_val rfl rfl rfl (by intro w hw; exact x_fieldAddr 105 0 0 (0 + k * 2) 2 rfl fi_105_0 rfl w) ?_
         refine q_cons (q_take rfl rfl ?_)
         refine q_val rfl rfl rfl (by intro w hw; exact x_load (.int .i64 ((E85.getD k default).1.v)) ag_2 rfl (hw.blk_at (i := 3) rfl) (elem_cell (L := E85) (i := k) hlCell_len (by rw [(rfl : E85.length = E85.length)]; exact h262) (by have hh : E85.length = E85.length := (rfl : E85.length = E85.length); omega) default 0 (by decide) _ rfl)) ?_
         refine q_cons (q_take rfl rfl ?_)
         refine q_val rfl rfl rfl (by intro w hw; exact x_fieldAddr 41 3 3 3 2 rfl fi_41_3 rfl w) ?_
         refine q_cons (q_take rfl rfl ?_)
         refine q_val rfl rfl rfl (by intro w hw; exact x_load (.int .i64 d.seq.v) ag_2 rfl (hw.blk_at (i := 5) rfl) rfl) ?_
         refine q_cons (q_take rfl rfl ?_)
         by_cases hc270 : (E85.getD k default).1.v = d.seq.v
         ·skip
          refine q_val rfl rfl rfl (by intro w hw; exact x_eql true rfl rfl (dtrue hc270) w) ?_
          refine q_cons (q_take rfl rfl ?_)
          refine q_val rfl rfl rfl (by intro w hw; exact x_pick_t (.bool true) rfl rfl w) ?_
          refine q_cons (q_val rfl rfl rfl (by intro w hw; exact x_pick_f (.bool true) rfl rfl w) ?_)
          refine q_nil ?_
          intro w271 H272
          have H273 := Row.shut2 (p := pp83) (n := E85.length) (c := cc84) (size := 2) (xs := E85.flatMap hlCell) H272 (i := 3) rfl hp258 h259 h260 h261 (by have hh : (cur257.toList.drop 0).take (E85.length * 2) = E85.flatMap hlCell := (by rw [(rfl : E85.length = E85.length)]; exact h262); have hk : E85.length = E85.length := (rfl : E85.length = E85.length); rw [hk] at hh; exact hh) (fun x_ hx_ => by obtain ⟨a_, _, ha_⟩ := List.mem_flatMap.1 hx_; exact one_hl a_ x_ ha_)
          have H274 : St W w271 (blk g (rfC (drS (ackS s d.ack.v) s.came s.held) (.slice pp80 L82.length cc81) (.slice pp83 E85.length cc84)) :: Row 101 3 (.slice pp80 L82.length cc81) L82.length (L82.flatMap bodCell) :: byA (L82.map BodD.by) :: Row 105 2 (.slice pp83 E85.length cc84) E85.length (E85.flatMap hlCell) :: byA (mby E85) :: blk bk4 (.cells #[.int .i64 d.frm.v, .int .i64 d.to_.v, .int .i64 d.kind.v, .int .i64 d.seq.v, .int .i64 d.ack.v, .slice pp1 d.body.length cc2] 41 (0, 0)) :: (F.set i emp)) := ((((((H273.move 5 rfl).move 5 rfl).move 5 rfl).move 5 rfl).move 5 rfl).move 5 rfl)
          exact join99 (()) _ _ ⟨trivial, H274⟩ ⟨by first | rfl | exact vint (by omega), by first | rfl | exact vint (by omega), by first | rfl | exact vint (by omega), by first | rfl | exact vint (by omega), by first | rfl | exact vint (by omega), congrArg Value.bool (show true = decide (d.seq.v < (s.came : Int) ∨ ahas s.held d.seq = true) from (decide_eq_true (by first | exact .inl (by omega) | exact .inr (hH89.at (j := k) (by rw [mapB_len rfl]; omega) (by rw [mapB_at]; assumption)))).symm), trivial⟩
         ·skip
          refine q_val rfl rfl rfl (by intro w hw; exact x_eql false rfl rfl (dfalse hc270) w) ?_
          refine q_cons (q_take rfl rfl ?_)
          refine q_val rfl rfl rfl (by intro w hw; exact x_pick_t (.bool false) rfl rfl w) ?_
          refine q_cons (q_val rfl rfl rfl (by intro w hw; exact x_pick_f (.bool false) rfl rfl w) ?_)
          refine q_nil ?_
          intro w275 H276
          have H277 := Row.shut2 (p := pp83) (n := E85.length) (c := cc84) (size := 2) (xs := E85.flatMap hlCell) H276 (i := 3) rfl hp258 h259 h260 h261 (by have hh : (cur257.toList.drop 0).take (E85.length * 2) = E85.flatMap hlCell := (by rw [(rfl : E85.length = E85.length)]; exact h262); have hk : E85.length = E85.length := (rfl : E85.length = E85.length); rw [hk] at hh; exact hh) (fun x_ hx_ => by obtain ⟨a_, _, ha_⟩ := List.mem_flatMap.1 hx_; exact one_hl a_ x_ ha_)
          have hno0 : ahas s.held d.seq = false := hH89.has (j := k) d.seq (by rw [mapB_len rfl]; exact hkn) hlt (fun hk => by rw [mapB_len rfl] at hk; rw [mapB_at]; show d.seq.v < (E85.getD k default).1.v; have h8 := hex hk; omega)
          have H278 : St W w275 (blk g (rfC (drS (ackS s d.ack.v) s.came s.held) (.slice pp80 L82.length cc81) (.slice pp83 E85.length cc84)) :: Row 101 3 (.slice pp80 L82.length cc81) L82.length (L82.flatMap bodCell) :: byA (L82.map BodD.by) :: Row 105 2 (.slice pp83 E85.length cc84) E85.length (E85.flatMap hlCell) :: byA (mby E85) :: blk bk4 (.cells #[.int .i64 d.frm.v, .int .i64 d.to_.v, .int .i64 d.kind.v, .int .i64 d.seq.v, .int .i64 d.ack.v, .slice pp1 d.body.length cc2] 41 (0, 0)) :: (F.set i emp)) := ((((((H277.move 5 rfl).move 5 rfl).move 5 rfl).move 5 rfl).move 5 rfl).move 5 rfl)
          exact join99 (()) _ _ ⟨trivial, H278⟩ ⟨by first | rfl | exact vint (by omega), by first | rfl | exact vint (by omega), by first | rfl | exact vint (by omega), by first | rfl | exact vint (by omega), by first | rfl | exact vint (by omega), congrArg Value.bool (show false = decide (d.seq.v < (s.came : Int) ∨ ahas s.held d.seq = true) from (decide_eq_false (by rw [hno0]; simp only [Bool.false_eq_true, or_false]; omega)).symm), trivial⟩
       ·skip
        refine g_quiet (fun w' => St W w' (blk g (rfC (drS (ackS s d.ack.v) s.came s.held) (.slice pp80 L82.length cc81) (.slice pp83 E85.length cc84)) :: Row 101 3 (.slice pp80 L82.length cc81) L82.length (L82.flatMap bodCell) :: byA (L82.map BodD.by) :: Row 105 2 (.slice pp83 E85.length cc84) E85.length (E85.flatMap hlCell) :: byA (mby E85) :: blk bk4 (.cells #[.int .i64 d.frm.v, .int .i64 d.to_.v, .int .i64 d.kind.v, .int .i64 d.seq.v, .int .i64 d.ack.v, .slice pp1 d.body.length cc2] 41 (0, 0)) :: (F.set i emp))) mixed (by kernel_rfl) H97.drew ?_
        refine q_cons (q_val rfl rfl rfl (by intro w hw; exact x_fieldAddr 41 3 3 3 2 rfl fi_41_3 rfl w) ?_)
        refine q_cons (q_val rfl rfl rfl (by intro w hw; exact x_load (.int .i64 d.seq.v) ag_2 rfl (hw.blk_at (i := 5) rfl) rfl) ?_)
        refine q_cons (q_val rfl rfl rfl (by intro w hw; exact x_move (.pointer (some ⟨g, 0, none⟩)) rfl w) ?_)
        refine q_cons (q_val rfl rfl rfl (by intro w hw; exact x_nilCheck (.pointer (some ⟨g, 0, none⟩)) rfl ⟨_, rfl⟩ w) ?_)
        refine q_cons (q_val rfl rfl rfl (by intro w hw; exact x_fieldAddr 86 4 5 5 2 rfl fi_86_4 rfl w) ?_)
        refine q_cons (q_val rfl rfl rfl (by intro w hw; exact x_load (.int .i64 ((i64N (drS (ackS s d.ack.v) s.came s.held).came).v)) ag_2 rfl (hw.blk_at (i := 0) rfl) rfl) ?_)
        by_cases hc279 : d.seq.v < (i64N (drS (ackS s d.ack.v) s.came s.held).came).v
        ·skip
         refine q_cons (q_val rfl rfl rfl (by intro w hw; exact x_lss true rfl rfl (dtrue hc279) w) ?_)
         refine q_cons (q_val rfl rfl rfl (by intro w hw; exact x_move (.bool true) rfl w) ?_)
         refine q_cons (q_pass rfl rfl rfl rfl rfl ?_)
         refine q_cons (q_pass rfl rfl rfl rfl rfl ?_)
         refine q_cons (q_pass rfl rfl rfl rfl rfl ?_)
         refine q_cons (q_pass rfl rfl rfl rfl rfl ?_)
         refine q_cons (q_pass rfl rfl rfl rfl rfl ?_)
         refine q_cons (q_pass rfl rfl rfl rfl rfl ?_)
         refine q_cons (q_pass rfl rfl rfl rfl rfl ?_)
         refine q_cons (q_pass rfl rfl rfl rfl rfl ?_)
         refine q_cons (q_passN rfl rfl rfl rfl ?_)
         refine q_cons (q_passN rfl rfl rfl rfl ?_)
         refine q_cons (q_passN rfl rfl rfl rfl ?_)
         refine q_cons (q_passN rfl rfl rfl rfl ?_)
         refine q_cons (q_passN rfl rfl rfl rfl ?_)
         refine q_cons (q_passN rfl rfl rfl rfl ?_)
         refine q_cons (q_passN rfl rfl rfl rfl ?_)
         refine q_cons (q_passN rfl rfl rfl rfl ?_)
         refine q_cons (q_passN rfl rfl rfl rfl ?_)
         refine q_cons (q_passN rfl rfl rfl rfl ?_)
         refine q_cons (q_passN rfl rfl rfl rfl ?_)
         refine q_cons (q_pass rfl rfl rfl rfl rfl ?_)
         refine q_cons (q_val rfl rfl rfl (by intro w hw; exact x_pick_t (.bool true) rfl rfl w) ?_)
         refine q_nil ?_
         intro w280 H281
         have H282 : St W w280 (blk g (rfC (drS (ackS s d.ack.v) s.came s.held) (.slice pp80 L82.length cc81) (.slice pp83 E85.length cc84)) :: Row 101 3 (.slice pp80 L82.length cc81) L82.length (L82.flatMap bodCell) :: byA (L82.map BodD.by) :: Row 105 2 (.slice pp83 E85.length cc84) E85.length (E85.flatMap hlCell) :: byA (mby E85) :: blk bk4 (.cells #[.int .i64 d.frm.v, .int .i64 d.to_.v, .int .i64 d.kind.v, .int .i64 d.seq.v, .int .i64 d.ack.v, .slice pp1 d.body.length cc2] 41 (0, 0)) :: (F.set i emp)) := ((((((H281.move 5 rfl).move 5 rfl).move 5 rfl).move 5 rfl).move 5 rfl).move 5 rfl)
         exact join99 (()) _ _ ⟨trivial, H282⟩ ⟨by first | rfl | exact vint (by omega), by first | rfl | exact vint (by omega), by first | rfl | exact vint (by omega), by first | rfl | exact vint (by omega), by first | rfl | exact vint (by omega), congrArg Value.bool (show true = decide (d.seq.v < (s.came : Int) ∨ ahas s.held d.seq = true) from (decide_eq_true (by first | exact .inl (by omega) | exact .inr (hH89.at (j := k) (by rw [mapB_len rfl]; omega) (by rw [mapB_at]; assumption)))).symm), trivial⟩
        ·skip
         refine q_cons (q_val rfl rfl rfl (by intro w hw; exact x_lss false rfl rfl (dfalse hc279) w) ?_)
         refine q_cons (q_val rfl rfl rfl (by intro w hw; exact x_move (.bool false) rfl w) ?_)
         refine q_cons (q_take rfl rfl ?_)
         refine q_val rfl rfl rfl (by intro w hw; exact x_move (.int .i64 (k : Int)) rfl w) ?_
         refine q_cons (q_take rfl rfl ?_)
         refine q_val rfl rfl rfl (by intro w hw; exact x_move (.pointer (some ⟨g, 0, none⟩)) rfl w) ?_
         refine q_cons (q_take rfl rfl ?_)
         refine q_val rfl rfl rfl (by intro w hw; exact x_nilCheck (.pointer (some ⟨g, 0, none⟩)) rfl ⟨_, rfl⟩ w) ?_
         refine q_cons (q_take rfl rfl ?_)
         refine q_val rfl rfl rfl (by intro w hw; exact x_fieldAddr 86 5 6 6 84 rfl fi_86_5 rfl w) ?_
         refine q_cons (q_take rfl rfl ?_)
         refine q_val rfl rfl rfl (by intro w hw; exact x_load (.slice pp83 E85.length cc84) ag_84 rfl (hw.blk_at (i := 0) rfl) rfl) ?_
         refine q_cons (q_take rfl rfl ?_)
         refine q_val rfl rfl rfl (by intro w hw; exact x_len E85.length rfl ⟨_, un_84⟩ w) ?_
         refine q_cons (q_take rfl rfl ?_)
         refine q_val rfl rfl rfl (by intro w hw; exact x_lss false rfl rfl (dfalse hc255) w) ?_
         refine q_cons (q_take rfl rfl ?_)
         refine q_val rfl rfl rfl (by intro w hw; exact x_move (.bool false) rfl w) ?_
         refine q_cons (q_pass rfl rfl rfl rfl rfl ?_)
         refine q_cons (q_pass rfl rfl rfl rfl rfl ?_)
         refine q_cons (q_pass rfl rfl rfl rfl rfl ?_)
         refine q_cons (q_pass rfl rfl rfl rfl rfl ?_)
         refine q_cons (q_pass rfl rfl rfl rfl rfl ?_)
         refine q_cons (q_pass rfl rfl rfl rfl rfl ?_)
         refine q_cons (q_pass rfl rfl rfl rfl rfl ?_)
         refine q_cons (q_pass rfl rfl rfl rfl rfl ?_)
         refine q_cons (q_pass rfl rfl rfl rfl rfl ?_)
         refine q_cons (q_pass rfl rfl rfl rfl rfl ?_)
         refine q_cons (q_pass rfl rfl rfl rfl rfl ?_)
         refine q_cons (q_take rfl rfl ?_)
         refine q_val rfl rfl rfl (by intro w hw; exact x_pick_f (.bool false) rfl rfl w) ?_
         refine q_cons (q_val rfl rfl rfl (by intro w hw; exact x_pick_f (.bool false) rfl rfl w) ?_)
         refine q_nil ?_
         intro w283 H284
         have hno0 : ahas s.held d.seq = false := hH89.has (j := k) d.seq (by rw [mapB_len rfl]; exact hkn) hlt (fun hk => by rw [mapB_len rfl] at hk; rw [mapB_at]; show d.seq.v < (E85.getD k default).1.v; have h8 := hex hk; omega)
         have H285 : St W w283 (blk g (rfC (drS (ackS s d.ack.v) s.came s.held) (.slice pp80 L82.length cc81) (.slice pp83 E85.length cc84)) :: Row 101 3 (.slice pp80 L82.length cc81) L82.length (L82.flatMap bodCell) :: byA (L82.map BodD.by) :: Row 105 2 (.slice pp83 E85.length cc84) E85.length (E85.flatMap hlCell) :: byA (mby E85) :: blk bk4 (.cells #[.int .i64 d.frm.v, .int .i64 d.to_.v, .int .i64 d.kind.v, .int .i64 d.seq.v, .int .i64 d.ack.v, .slice pp1 d.body.length cc2] 41 (0, 0)) :: (F.set i emp)) := ((((((H284.move 5 rfl).move 5 rfl).move 5 rfl).move 5 rfl).move 5 rfl).move 5 rfl)
         exact join99 (()) _ _ ⟨trivial, H285⟩ ⟨by first | rfl | exact vint (by omega), by first | rfl | exact vint (by omega), by first | rfl | exact vint (by omega), by first | rfl | exact vint (by omega), by first | rfl | exact vint (by omega), congrArg Value.bool (show false = decide (d.seq.v < (s.came : Int) ∨ ahas s.held d.seq = true) from (decide_eq_false (by rw [hno0]; simp only [Bool.false_eq_true, or_false]; omega)).symm), trivial⟩
     ·intro join95
      refine g_block ?_
      refine g_loop_inv (fun (x_ : Nat) => match x_ with | k => [(0, .pointer (some ⟨g, 0, none⟩)), (3, .pointer (some ⟨bk4, 0, none⟩)), (4, .slice none 0 0), (5, .int .i64 0), (7, .int .i64 (k : Int))]) (fun (x_ : Nat) w => match x_ with | k => (k ≤ E85.length) ∧ (∀ i, i < k → ((mapB E85).getD i default).1.v < d.seq.v) ∧ St W w (blk g (rfC (drS (ackS s d.ack.v) s.came s.held) (.slice pp80 L82.length cc81) (.slice pp83 E85.length cc84)) :: Row 101 3 (.slice pp80 L82.length cc81) L82.length (L82.flatMap bodCell) :: byA (L82.map BodD.by) :: Row 105 2 (.slice pp83 E85.length cc84) E85.length (E85.flatMap hlCell) :: byA (mby E85) :: blk bk4 (.cells #[.int .i64 d.frm.v, .int .i64 d.to_.v, .int .i64 d.kind.v, .int .i64 d.seq.v, .int .i64 d.ack.v, .slice pp1 d.body.length cc2] 41 (0, 0)) :: (F.set i emp))) (fun (x_ : Nat) => match x_ with | k => E85.length - k) (0) ?_ ?_ ?_
      ·exact ⟨by first | rfl | exact vint (by omega), by first | rfl | exact vint (by omega), by first | rfl | exact vint (by omega), by first | rfl | exact vint (by omega), by first | rfl | exact vint (by omega), trivial⟩
      ·exact ⟨(by omega), (fun i hi => absurd hi (by omega)), H94⟩
      ·rintro k ρ286 w287 ⟨hkn, hlt, H288⟩ nx289
       change Ends _ _ (upds ρ286 [(0, .pointer (some ⟨g, 0, none⟩)), (3, .pointer (some ⟨bk4, 0, none⟩)), (4, .slice none 0 0), (5, .int .i64 0), (7, .int .i64 (k : Int))]) w287
       refine g_seq ?_
       refine g_seq ?_
       by_cases hc290 : (k : Int) < (E85.length : Int)
       ·skip
        obtain ⟨bk291, cur292, hp293, h294, h295, h296, h297, h298, H299⟩ := Row.open2 H288 (i := 3) rfl (by omega)
        refine g_quiet (fun w' => St W w' (blk g (rfC (drS (ackS s d.ack.v) s.came s.held) (.slice pp80 L82.length cc81) (.slice pp83 E85.length cc84)) :: Row 101 3 (.slice pp80 L82.length cc81) L82.length (L82.flatMap bodCell) :: byA (L82.map BodD.by) :: blk bk291 (.cells cur292 105 (0, 0)) :: byA (mby E85) :: blk bk4 (.cells #[.int .i64 d.frm.v, .int .i64 d.to_.v, .int .i64 d.kind.v, .int .i64 d.seq.v, .int .i64 d.ack.v, .slice pp1 d.body.length cc2] 41 (0, 0)) :: (F.set i emp))) mixed (by kernel_rfl) H299.drew ?_
        refine q_cons (q_val rfl rfl rfl (by intro w hw; exact x_move (.int .i64 (k : Int)) rfl w) ?_)
        refine q_cons (q_val rfl rfl rfl (by intro w hw; exact x_move (.pointer (some ⟨g, 0, none⟩)) rfl w) ?_)
        refine q_cons (q_val rfl rfl rfl (by intro w hw; exact x_nilCheck (.pointer (some ⟨g, 0, none⟩)) rfl ⟨_, rfl⟩ w) ?_)
        refine q_cons (q_val rfl rfl rfl (by intro w hw; exact x_fieldAddr 86 5 6 6 84 rfl fi_86_5 rfl w) ?_)
        refine q_cons (q_val rfl rfl rfl (by intro w hw; exact x_load (.slice pp83 E85.length cc84) ag_84 rfl (hw.blk_at (i := 0) rfl) rfl) ?_)
        refine q_cons (q_val rfl rfl rfl (by intro w hw; exact x_len E85.length rfl ⟨_, un_84⟩ w) ?_)
        refine q_cons (q_val rfl rfl rfl (by intro w hw; exact x_lss true rfl rfl (dtrue hc290) w) ?_)
        refine q_cons (q_val rfl rfl rfl (by intro w hw; exact x_move (.bool true) rfl w) ?_)
        refine q_cons (q_take rfl rfl ?_)
        refine q_val rfl rfl rfl (by intro w hw; exact x_move (.pointer (some ⟨g, 0, none⟩)) rfl w) ?_
        refine q_cons (q_take rfl rfl ?_)
        refine q_val rfl rfl rfl (by intro w hw; exact x_nilCheck (.pointer (some ⟨g, 0, none⟩)) rfl ⟨_, rfl⟩ w) ?_
        refine q_cons (q_take rfl rfl ?_)
        refine q_val rfl rfl rfl (by intro w hw; exact x_fieldAddr 86 5 6 6 84 rfl fi_86_5 rfl w) ?_
        refine q_cons (q_take rfl rfl ?_)
        refine q_val rfl rfl rfl (by intro w hw; exact x_load (.slice pp83 E85.length cc84) ag_84 rfl (hw.blk_at (i := 0) rfl) rfl) ?_
        refine q_cons (q_take rfl rfl ?_)
        refine q_val rfl rfl rfl (by intro w hw; exact x_move (.int .i64 (k : Int)) rfl w) ?_
        refine q_cons (q_take rfl rfl ?_)
        refine q_val rfl rfl rfl (by intro w hw; exact x_indexAddr bk291 (off := 0) (k : Int) 2 (0 + k * 2) (by exact congrArg (fun z_ => Value.slice z_ E85.length cc84) ((fun (_ : 0 < 1) => hp293) (by omega))) rfl el_84 (by omega) rfl w) ?_
        refine q_cons (q_take rfl rfl ?_)
        refine q_val rfl rfl rfl (by intro w hw; exact x_fieldAddr 105 0 0 (0 + k * 2) 2 rfl fi_105_0 rfl w) ?_
        refine q_cons (q_take rfl rfl ?_)
        refine q_val rfl rfl rfl (by intro w hw; exact x_load (.int .i64 ((E85.getD k default).1.v)) ag_2 rfl (hw.blk_at (i := 3) rfl) (elem_cell (L := E85) (i := k) hlCell_len (by rw [(rfl : E85.length = E85.length)]; exact h297) (by have hh : E85.length = E85.length := (rfl : E85.length = E85.length); omega) default 0 (by decide) _ rfl)) ?_
        refine q_cons (q_take rfl rfl ?_)
        refine q_val rfl rfl rfl (by intro w hw; exact x_fieldAddr 41 3 3 3 2 rfl fi_41_3 rfl w) ?_
        refine q_cons (q_take rfl rfl ?_)
        refine q_val rfl rfl rfl (by intro w hw; exact x_load (.int .i64 d.seq.v) ag_2 rfl (hw.blk_at (i := 5) rfl) rfl) ?_
        refine q_cons (q_take rfl rfl ?_)
        by_cases hc300 : (E85.getD k default).1.v < d.seq.v
        ·skip
         refine q_val rfl rfl rfl (by intro w hw; exact x_lss true rfl rfl (dtrue hc300) w) ?_
         refine q_cons (q_val rfl rfl rfl (by intro w hw; exact x_pick_t (.bool true) rfl rfl w) ?_)
         refine q_nil ?_
         intro w301 H302
         refine g_true rfl ?_
         refine g_skip ?_
         refine g_block ?_
         refine g_region ?_
         refine r_cons (s_move (.int .i64 (k : Int)) rfl rfl ?_)
         refine r_cons (s_add ((k : Int) + 1) rfl rfl (wi64 (by omega)) rfl ?_)
         refine r_cons (s_assign (.int .i64 ((k : Int) + 1)) rfl rfl ?_)
         refine r_nil ?_
         refine g_inBlock ?_
         have H303 := Row.shut2 (p := pp83) (n := E85.length) (c := cc84) (size := 2) (xs := E85.flatMap hlCell) H302 (i := 3) rfl hp293 h294 h295 h296 (by have hh : (cur292.toList.drop 0).take (E85.length * 2) = E85.flatMap hlCell := (by rw [(rfl : E85.length = E85.length)]; exact h297); have hk : E85.length = E85.length := (rfl : E85.length = E85.length); rw [hk] at hh; exact hh) (fun x_ hx_ => by obtain ⟨a_, _, ha_⟩ := List.mem_flatMap.1 hx_; exact one_hl a_ x_ ha_)
         have H304 : St W w301 (blk g (rfC (drS (ackS s d.ack.v) s.came s.held) (.slice pp80 L82.length cc81) (.slice pp83 E85.length cc84)) :: Row 101 3 (.slice pp80 L82.length cc81) L82.length (L82.flatMap bodCell) :: byA (L82.map BodD.by) :: Row 105 2 (.slice pp83 E85.length cc84) E85.length (E85.flatMap hlCell) :: byA (mby E85) :: blk bk4 (.cells #[.int .i64 d.frm.v, .int .i64 d.to_.v, .int .i64 d.kind.v, .int .i64 d.seq.v, .int .i64 d.ack.v, .slice pp1 d.body.length cc2] 41 (0, 0)) :: (F.set i emp)) := ((((((H303.move 5 rfl).move 5 rfl).move 5 rfl).move 5 rfl).move 5 rfl).move 5 rfl)
         exact nx289 (k + 1) _ _ ⟨(by omega), (fun i hi => (Nat.lt_succ_iff_lt_or_eq.1 hi).elim (hlt i) (fun e => by rw [e, mapB_at]; assumption)), H304⟩ (by first | (dsimp only; omega) | omega) ⟨by first | rfl | exact vint (by omega), by first | rfl | exact vint (by omega), by first | rfl | exact vint (by omega), by first | rfl | exact vint (by omega), by first | rfl | exact vint (by omega), trivial⟩
        ·skip
         refine q_val rfl rfl rfl (by intro w hw; exact x_lss false rfl rfl (dfalse hc300) w) ?_
         refine q_cons (q_val rfl rfl rfl (by intro w hw; exact x_pick_t (.bool false) rfl rfl w) ?_)
         refine q_nil ?_
         intro w305 H306
         refine g_false rfl ?_
         refine g_exit (by rfl) ?_
         have H307 := Row.shut2 (p := pp83) (n := E85.length) (c := cc84) (size := 2) (xs := E85.flatMap hlCell) H306 (i := 3) rfl hp293 h294 h295 h296 (by have hh : (cur292.toList.drop 0).take (E85.length * 2) = E85.flatMap hlCell := (by rw [(rfl : E85.length = E85.length)]; exact h297); have hk : E85.length = E85.length := (rfl : E85.length = E85.length); rw [hk] at hh; exact hh) (fun x_ hx_ => by obtain ⟨a_, _, ha_⟩ := List.mem_flatMap.1 hx_; exact one_hl a_ x_ ha_)
         have H308 : St W w305 (blk g (rfC (drS (ackS s d.ack.v) s.came s.held) (.slice pp80 L82.length cc81) (.slice pp83 E85.length cc84)) :: Row 101 3 (.slice pp80 L82.length cc81) L82.length (L82.flatMap bodCell) :: byA (L82.map BodD.by) :: Row 105 2 (.slice pp83 E85.length cc84) E85.length (E85.flatMap hlCell) :: byA (mby E85) :: blk bk4 (.cells #[.int .i64 d.frm.v, .int .i64 d.to_.v, .int .i64 d.kind.v, .int .i64 d.seq.v, .int .i64 d.ack.v, .slice pp1 d.body.length cc2] 41 (0, 0)) :: (F.set i emp)) := ((((((H307.move 5 rfl).move 5 rfl).move 5 rfl).move 5 rfl).move 5 rfl).move 5 rfl)
         exact join95 (k) _ _ ⟨hkn, hlt, (fun hk => by omega), H308⟩ ⟨by first | rfl | exact vint (by omega), by first | rfl | exact vint (by omega), by first | rfl | exact vint (by omega), by first | rfl | exact vint (by omega), by first | rfl | exact vint (by omega), trivial⟩
       ·skip
        refine g_quiet (fun w' => St W w' (blk g (rfC (drS (ackS s d.ack.v) s.came s.held) (.slice pp80 L82.length cc81) (.slice pp83 E85.length cc84)) :: Row 101 3 (.slice pp80 L82.length cc81) L82.length (L82.flatMap bodCell) :: byA (L82.map BodD.by) :: Row 105 2 (.slice pp83 E85.length cc84) E85.length (E85.flatMap hlCell) :: byA (mby E85) :: blk bk4 (.cells #[.int .i64 d.frm.v, .int .i64 d.to_.v, .int .i64 d.kind.v, .int .i64 d.seq.v, .int .i64 d.ack.v, .slice pp1 d.body.length cc2] 41 (0, 0)) :: (F.set i emp))) mixed (by kernel_rfl) H288.drew ?_
        refine q_cons (q_val rfl rfl rfl (by intro w hw; exact x_move (.int .i64 (k : Int)) rfl w) ?_)
        refine q_cons (q_val rfl rfl rfl (by intro w hw; exact x_move (.pointer (some ⟨g, 0, none⟩)) rfl w) ?_)
        refine q_cons (q_val rfl rfl rfl (by intro w hw; exact x_nilCheck (.pointer (some ⟨g, 0, none⟩)) rfl ⟨_, rfl⟩ w) ?_)
        refine q_cons (q_val rfl rfl rfl (by intro w hw; exact x_fieldAddr 86 5 6 6 84 rfl fi_86_5 rfl w) ?_)
        refine q_cons (q_val rfl rfl rfl (by intro w hw; exact x_load (.slice pp83 E85.length cc84) ag_84 rfl (hw.blk_at (i := 0) rfl) rfl) ?_)
        refine q_cons (q_val rfl rfl rfl (by intro w hw; exact x_len E85.length rfl ⟨_, un_84⟩ w) ?_)
        refine q_cons (q_val rfl rfl rfl (by intro w hw; exact x_lss false rfl rfl (dfalse hc290) w) ?_)
        refine q_cons (q_val rfl rfl rfl (by intro w hw; exact x_move (.bool false) rfl w) ?_)
        refine q_cons (q_pass rfl rfl rfl rfl rfl ?_)
        refine q_cons (q_pass rfl rfl rfl rfl rfl ?_)
        refine q_cons (q_pass rfl rfl rfl rfl rfl ?_)
        refine q_cons (q_pass rfl rfl rfl rfl rfl ?_)
        refine q_cons (q_pass rfl rfl rfl rfl rfl ?_)
        refine q_cons (q_pass rfl rfl rfl rfl rfl ?_)
        refine q_cons (q_pass rfl rfl rfl rfl rfl ?_)
        refine q_cons (q_pass rfl rfl rfl rfl rfl ?_)
        refine q_cons (q_pass rfl rfl rfl rfl rfl ?_)
        refine q_cons (q_pass rfl rfl rfl rfl rfl ?_)
        refine q_cons (q_pass rfl rfl rfl rfl rfl ?_)
        refine q_cons (q_val rfl rfl rfl (by intro w hw; exact x_pick_f (.bool false) rfl rfl w) ?_)
        refine q_nil ?_
        intro w309 H310
        refine g_false rfl ?_
        refine g_exit (by rfl) ?_
        have H311 : St W w309 (blk g (rfC (drS (ackS s d.ack.v) s.came s.held) (.slice pp80 L82.length cc81) (.slice pp83 E85.length cc84)) :: Row 101 3 (.slice pp80 L82.length cc81) L82.length (L82.flatMap bodCell) :: byA (L82.map BodD.by) :: Row 105 2 (.slice pp83 E85.length cc84) E85.length (E85.flatMap hlCell) :: byA (mby E85) :: blk bk4 (.cells #[.int .i64 d.frm.v, .int .i64 d.to_.v, .int .i64 d.kind.v, .int .i64 d.seq.v, .int .i64 d.ack.v, .slice pp1 d.body.length cc2] 41 (0, 0)) :: (F.set i emp)) := ((((((H310.move 5 rfl).move 5 rfl).move 5 rfl).move 5 rfl).move 5 rfl).move 5 rfl)
        exact join95 (k) _ _ ⟨hkn, hlt, (fun hk => by omega), H311⟩ ⟨by first | rfl | exact vint (by omega), by first | rfl | exact vint (by omega), by first | rfl | exact vint (by omega), by first | rfl | exact vint (by omega), by first | rfl | exact vint (by omega), trivial⟩
  ·intro join26
   refine g_quiet (fun w' => St W w' (blk g (rfC s (.slice pp11 L13.length cc12) (.slice pp14 E16.length cc15)) :: Row 101 3 (.slice pp11 L13.length cc12) L13.length (L13.flatMap bodCell) :: byA (L13.map BodD.by) :: Row 105 2 (.slice pp14 E16.length cc15) E16.length (E16.flatMap hlCell) :: byA (mby E16) :: blk bk4 (.cells #[.int .i64 d.frm.v, .int .i64 d.to_.v, .int .i64 d.kind.v, .int .i64 d.seq.v, .int .i64 d.ack.v, .slice pp1 d.body.length cc2] 41 (0, 0)) :: (F.set i emp))) mixed (by kernel_rfl) H25.drew ?_
   refine q_cons (q_val rfl rfl rfl (by intro w hw; exact x_fieldAddr 41 0 0 0 3 rfl fi_41_0 rfl w) ?_)
   refine q_cons (q_val rfl rfl rfl (by intro w hw; exact x_load (.int .i64 d.frm.v) ag_3 rfl (hw.blk_at (i := 5) rfl) rfl) ?_)
   refine q_cons (q_val rfl rfl rfl (by intro w hw; exact x_move (.pointer (some ⟨g, 0, none⟩)) rfl w) ?_)
   refine q_cons (q_val rfl rfl rfl (by intro w hw; exact x_nilCheck (.pointer (some ⟨g, 0, none⟩)) rfl ⟨_, rfl⟩ w) ?_)
   refine q_cons (q_val rfl rfl rfl (by intro w hw; exact x_fieldAddr 86 0 0 0 46 rfl fi_86_0 rfl w) ?_)
   refine q_cons (q_val rfl rfl rfl (by intro w hw; exact x_fieldAddr 46 1 1 1 3 rfl fi_46_1 rfl w) ?_)
   refine q_cons (q_val rfl rfl rfl (by intro w hw; exact x_load (.int .i64 s.to_.v) ag_3 rfl (hw.blk_at (i := 0) rfl) rfl) ?_)
   by_cases hc312 : d.frm.v = s.to_.v
   ·skip
    refine q_cons (q_val rfl rfl rfl (by intro w hw; exact x_neq false rfl rfl (ntrue hc312) w) ?_)
    refine q_cons (q_val rfl rfl rfl (by intro w hw; exact x_move (.bool false) rfl w) ?_)
    refine q_cons (q_take rfl rfl ?_)
    refine q_val rfl rfl rfl (by intro w hw; exact x_fieldAddr 41 1 1 1 3 rfl fi_41_1 rfl w) ?_
    refine q_cons (q_take rfl rfl ?_)
    refine q_val rfl rfl rfl (by intro w hw; exact x_load (.int .i64 d.to_.v) ag_3 rfl (hw.blk_at (i := 5) rfl) rfl) ?_
    refine q_cons (q_take rfl rfl ?_)
    refine q_val rfl rfl rfl (by intro w hw; exact x_move (.pointer (some ⟨g, 0, none⟩)) rfl w) ?_
    refine q_cons (q_take rfl rfl ?_)
    refine q_val rfl rfl rfl (by intro w hw; exact x_nilCheck (.pointer (some ⟨g, 0, none⟩)) rfl ⟨_, rfl⟩ w) ?_
    refine q_cons (q_take rfl rfl ?_)
    refine q_val rfl rfl rfl (by intro w hw; exact x_fieldAddr 86 0 0 0 46 rfl fi_86_0 rfl w) ?_
    refine q_cons (q_take rfl rfl ?_)
    refine q_val rfl rfl rfl (by intro w hw; exact x_fieldAddr 46 0 0 0 3 rfl fi_46_0 rfl w) ?_
    refine q_cons (q_take rfl rfl ?_)
    refine q_val rfl rfl rfl (by intro w hw; exact x_load (.int .i64 s.frm.v) ag_3 rfl (hw.blk_at (i := 0) rfl) rfl) ?_
    refine q_cons (q_take rfl rfl ?_)
    by_cases hc313 : d.to_.v = s.frm.v
    ·skip
     refine q_val rfl rfl rfl (by intro w hw; exact x_neq false rfl rfl (ntrue hc313) w) ?_
     refine q_cons (q_val rfl rfl rfl (by intro w hw; exact x_pick_f (.bool false) rfl rfl w) ?_)
     refine q_cons (q_val rfl rfl rfl (by intro w hw; exact x_move (.bool false) rfl w) ?_)
     refine q_cons (q_take rfl rfl ?_)
     refine q_val rfl rfl rfl (by intro w hw; exact x_fieldAddr 41 4 4 4 2 rfl fi_41_4 rfl w) ?_
     refine q_cons (q_take rfl rfl ?_)
     refine q_val rfl rfl rfl (by intro w hw; exact x_load (.int .i64 d.ack.v) ag_2 rfl (hw.blk_at (i := 5) rfl) rfl) ?_
     refine q_cons (q_take rfl rfl ?_)
     refine q_val rfl rfl rfl (by intro w hw; exact x_move (.pointer (some ⟨g, 0, none⟩)) rfl w) ?_
     refine q_cons (q_take rfl rfl ?_)
     refine q_enter (args := #[.pointer (some ⟨g, 0, none⟩)]) (v := .int .i64 ((s.acked + under s : Nat) : Int)) rfl rfl rfl (x_call pl_58 [.pointer (some ⟨g, 0, none⟩)] rfl) (fun w hw => Ro_sent g s pp11 cc12 L13 pp14 E16.length cc15 A17 hL18 hA19 hv.ok.2.2.1 (i := 0) (j := 1) rfl rfl hw) ?_
     refine q_cons (q_take rfl rfl ?_)
     by_cases hc314 : ((s.acked + under s : Nat) : Int) < d.ack.v
     ·skip
      refine q_val rfl rfl rfl (by intro w hw; exact x_gtr true rfl rfl (dtrue hc314) w) ?_
      refine q_cons (q_val rfl rfl rfl (by intro w hw; exact x_pick_f (.bool true) rfl rfl w) ?_)
      refine q_cons (q_val rfl rfl rfl (by intro w hw; exact x_move (.bool true) rfl w) ?_)
      refine q_cons (q_pass rfl rfl rfl rfl rfl ?_)
      refine q_cons (q_pass rfl rfl rfl rfl rfl ?_)
      refine q_cons (q_pass rfl rfl rfl rfl rfl ?_)
      refine q_cons (q_pass rfl rfl rfl rfl rfl ?_)
      refine q_cons (q_passN rfl rfl rfl rfl ?_)
      refine q_cons (q_passN rfl rfl rfl rfl ?_)
      refine q_cons (q_passN rfl rfl rfl rfl ?_)
      refine q_cons (q_passN rfl rfl rfl rfl ?_)
      refine q_cons (q_passN rfl rfl rfl rfl ?_)
      refine q_cons (q_passN rfl rfl rfl rfl ?_)
      refine q_cons (q_passN rfl rfl rfl rfl ?_)
      refine q_cons (q_passN rfl rfl rfl rfl ?_)
      refine q_cons (q_pass rfl rfl rfl rfl rfl ?_)
      refine q_cons (q_val rfl rfl rfl (by intro w hw; exact x_pick_t (.bool true) rfl rfl w) ?_)
      refine q_nil ?_
      intro w315 H316
      have H317 : St W w315 (blk g (rfC s (.slice pp11 L13.length cc12) (.slice pp14 E16.length cc15)) :: Row 101 3 (.slice pp11 L13.length cc12) L13.length (L13.flatMap bodCell) :: byA (L13.map BodD.by) :: Row 105 2 (.slice pp14 E16.length cc15) E16.length (E16.flatMap hlCell) :: byA (mby E16) :: blk bk4 (.cells #[.int .i64 d.frm.v, .int .i64 d.to_.v, .int .i64 d.kind.v, .int .i64 d.seq.v, .int .i64 d.ack.v, .slice pp1 d.body.length cc2] 41 (0, 0)) :: (F.set i emp)) := ((((((H316.move 5 rfl).move 5 rfl).move 5 rfl).move 5 rfl).move 5 rfl).move 5 rfl)
      exact join26 (()) _ _ ⟨trivial, H317⟩ ⟨by first | rfl | exact vint (by omega), by first | rfl | exact vint (by omega), by first | rfl | exact vint (by omega), by first | rfl | exact vint (by omega), congrArg Value.bool (show true = stray s d from (decide_eq_true (by omega)).symm), trivial⟩
     ·skip
      refine q_val rfl rfl rfl (by intro w hw; exact x_gtr false rfl rfl (dfalse hc314) w) ?_
      refine q_cons (q_val rfl rfl rfl (by intro w hw; exact x_pick_f (.bool false) rfl rfl w) ?_)
      refine q_cons (q_val rfl rfl rfl (by intro w hw; exact x_move (.bool false) rfl w) ?_)
      refine q_cons (q_take rfl rfl ?_)
      refine q_val rfl rfl rfl (by intro w hw; exact x_fieldAddr 41 2 2 2 3 rfl fi_41_2 rfl w) ?_
      refine q_cons (q_take rfl rfl ?_)
      refine q_val rfl rfl rfl (by intro w hw; exact x_load (.int .i64 d.kind.v) ag_3 rfl (hw.blk_at (i := 5) rfl) rfl) ?_
      refine q_cons (q_take rfl rfl ?_)
      by_cases hc318 : d.kind.v = 1
      ·skip
       refine q_val rfl rfl rfl (by intro w hw; exact x_eql true rfl rfl (dtrue hc318) w) ?_
       refine q_cons (q_take rfl rfl ?_)
       refine q_val rfl rfl rfl (by intro w hw; exact x_move (.bool true) rfl w) ?_
       refine q_cons (q_take rfl rfl ?_)
       refine q_val rfl rfl rfl (by intro w hw; exact x_fieldAddr 41 3 3 3 2 rfl fi_41_3 rfl w) ?_
       refine q_cons (q_take rfl rfl ?_)
       refine q_val rfl rfl rfl (by intro w hw; exact x_load (.int .i64 d.seq.v) ag_2 rfl (hw.blk_at (i := 5) rfl) rfl) ?_
       refine q_cons (q_take rfl rfl ?_)
       refine q_val rfl rfl rfl (by intro w hw; exact x_move (.pointer (some ⟨g, 0, none⟩)) rfl w) ?_
       refine q_cons (q_take rfl rfl ?_)
       refine q_val rfl rfl rfl (by intro w hw; exact x_nilCheck (.pointer (some ⟨g, 0, none⟩)) rfl ⟨_, rfl⟩ w) ?_
       refine q_cons (q_take rfl rfl ?_)
       refine q_val rfl rfl rfl (by intro w hw; exact x_fieldAddr 86 4 5 5 2 rfl fi_86_4 rfl w) ?_
       refine q_cons (q_take rfl rfl ?_)
       refine q_val rfl rfl rfl (by intro w hw; exact x_load (.int .i64 ((i64N s.came).v)) ag_2 rfl (hw.blk_at (i := 0) rfl) rfl) ?_
       refine q_cons (q_take rfl rfl ?_)
       refine q_val rfl rfl rfl (by intro w hw; exact x_add ((i64N s.came).v + 64) rfl rfl (wi64 (by omega)) w) ?_
       refine q_cons (q_take rfl rfl ?_)
       by_cases hc319 : (i64N s.came).v + 64 ≤ d.seq.v
       ·skip
        refine q_val rfl rfl rfl (by intro w hw; exact x_geq true rfl rfl (dtrue hc319) w) ?_
        refine q_cons (q_take rfl rfl ?_)
        refine q_val rfl rfl rfl (by intro w hw; exact x_pick_t (.bool true) rfl rfl w) ?_
        refine q_cons (q_val rfl rfl rfl (by intro w hw; exact x_pick_f (.bool true) rfl rfl w) ?_)
        refine q_nil ?_
        intro w320 H321
        have H322 : St W w320 (blk g (rfC s (.slice pp11 L13.length cc12) (.slice pp14 E16.length cc15)) :: Row 101 3 (.slice pp11 L13.length cc12) L13.length (L13.flatMap bodCell) :: byA (L13.map BodD.by) :: Row 105 2 (.slice pp14 E16.length cc15) E16.length (E16.flatMap hlCell) :: byA (mby E16) :: blk bk4 (.cells #[.int .i64 d.frm.v, .int .i64 d.to_.v, .int .i64 d.kind.v, .int .i64 d.seq.v, .int .i64 d.ack.v, .slice pp1 d.body.length cc2] 41 (0, 0)) :: (F.set i emp)) := ((((((H321.move 5 rfl).move 5 rfl).move 5 rfl).move 5 rfl).move 5 rfl).move 5 rfl)
        exact join26 (()) _ _ ⟨trivial, H322⟩ ⟨by first | rfl | exact vint (by omega), by first | rfl | exact vint (by omega), by first | rfl | exact vint (by omega), by first | rfl | exact vint (by omega), congrArg Value.bool (show true = stray s d from (decide_eq_true (by omega)).symm), trivial⟩
       ·skip
        refine q_val rfl rfl rfl (by intro w hw; exact x_geq false rfl rfl (dfalse hc319) w) ?_
        refine q_cons (q_take rfl rfl ?_)
        refine q_val rfl rfl rfl (by intro w hw; exact x_pick_t (.bool false) rfl rfl w) ?_
        refine q_cons (q_val rfl rfl rfl (by intro w hw; exact x_pick_f (.bool false) rfl rfl w) ?_)
        refine q_nil ?_
        intro w323 H324
        have H325 : St W w323 (blk g (rfC s (.slice pp11 L13.length cc12) (.slice pp14 E16.length cc15)) :: Row 101 3 (.slice pp11 L13.length cc12) L13.length (L13.flatMap bodCell) :: byA (L13.map BodD.by) :: Row 105 2 (.slice pp14 E16.length cc15) E16.length (E16.flatMap hlCell) :: byA (mby E16) :: blk bk4 (.cells #[.int .i64 d.frm.v, .int .i64 d.to_.v, .int .i64 d.kind.v, .int .i64 d.seq.v, .int .i64 d.ack.v, .slice pp1 d.body.length cc2] 41 (0, 0)) :: (F.set i emp)) := ((((((H324.move 5 rfl).move 5 rfl).move 5 rfl).move 5 rfl).move 5 rfl).move 5 rfl)
        exact join26 (()) _ _ ⟨trivial, H325⟩ ⟨by first | rfl | exact vint (by omega), by first | rfl | exact vint (by omega), by first | rfl | exact vint (by omega), by first | rfl | exact vint (by omega), congrArg Value.bool (show false = stray s d from (decide_eq_false (by omega)).symm), trivial⟩
      ·skip
       refine q_val rfl rfl rfl (by intro w hw; exact x_eql false rfl rfl (dfalse hc318) w) ?_
       refine q_cons (q_take rfl rfl ?_)
       refine q_val rfl rfl rfl (by intro w hw; exact x_move (.bool false) rfl w) ?_
       refine q_cons (q_pass rfl rfl rfl rfl rfl ?_)
       refine q_cons (q_pass rfl rfl rfl rfl rfl ?_)
       refine q_cons (q_pass rfl rfl rfl rfl rfl ?_)
       refine q_cons (q_pass rfl rfl rfl rfl rfl ?_)
       refine q_cons (q_pass rfl rfl rfl rfl rfl ?_)
       refine q_cons (q_pass rfl rfl rfl rfl rfl ?_)
       refine q_cons (q_pass rfl rfl rfl rfl rfl ?_)
       refine q_cons (q_pass rfl rfl rfl rfl rfl ?_)
       refine q_cons (q_take rfl rfl ?_)
       refine q_val rfl rfl rfl (by intro w hw; exact x_pick_f (.bool false) rfl rfl w) ?_
       refine q_cons (q_val rfl rfl rfl (by intro w hw; exact x_pick_f (.bool false) rfl rfl w) ?_)
       refine q_nil ?_
       intro w326 H327
       have H328 : St W w326 (blk g (rfC s (.slice pp11 L13.length cc12) (.slice pp14 E16.length cc15)) :: Row 101 3 (.slice pp11 L13.length cc12) L13.length (L13.flatMap bodCell) :: byA (L13.map BodD.by) :: Row 105 2 (.slice pp14 E16.length cc15) E16.length (E16.flatMap hlCell) :: byA (mby E16) :: blk bk4 (.cells #[.int .i64 d.frm.v, .int .i64 d.to_.v, .int .i64 d.kind.v, .int .i64 d.seq.v, .int .i64 d.ack.v, .slice pp1 d.body.length cc2] 41 (0, 0)) :: (F.set i emp)) := ((((((H327.move 5 rfl).move 5 rfl).move 5 rfl).move 5 rfl).move 5 rfl).move 5 rfl)
       exact join26 (()) _ _ ⟨trivial, H328⟩ ⟨by first | rfl | exact vint (by omega), by first | rfl | exact vint (by omega), by first | rfl | exact vint (by omega), by first | rfl | exact vint (by omega), congrArg Value.bool (show false = stray s d from (decide_eq_false (by omega)).symm), trivial⟩
    ·skip
     refine q_val rfl rfl rfl (by intro w hw; exact x_neq true rfl rfl (nfalse hc313) w) ?_
     refine q_cons (q_val rfl rfl rfl (by intro w hw; exact x_pick_f (.bool true) rfl rfl w) ?_)
     refine q_cons (q_val rfl rfl rfl (by intro w hw; exact x_move (.bool true) rfl w) ?_)
     refine q_cons (q_pass rfl rfl rfl rfl rfl ?_)
     refine q_cons (q_pass rfl rfl rfl rfl rfl ?_)
     refine q_cons (q_pass rfl rfl rfl rfl rfl ?_)
     refine q_cons (q_pass rfl rfl rfl rfl rfl ?_)
     refine q_cons (q_pass rfl rfl rfl rfl rfl ?_)
     refine q_cons (q_val rfl rfl rfl (by intro w hw; exact x_pick_t (.bool true) rfl rfl w) ?_)
     refine q_cons (q_val rfl rfl rfl (by intro w hw; exact x_move (.bool true) rfl w) ?_)
     refine q_cons (q_pass rfl rfl rfl rfl rfl ?_)
     refine q_cons (q_pass rfl rfl rfl rfl rfl ?_)
     refine q_cons (q_pass rfl rfl rfl rfl rfl ?_)
     refine q_cons (q_pass rfl rfl rfl rfl rfl ?_)
     refine q_cons (q_passN rfl rfl rfl rfl ?_)
     refine q_cons (q_passN rfl rfl rfl rfl ?_)
     refine q_cons (q_passN rfl rfl rfl rfl ?_)
     refine q_cons (q_passN rfl rfl rfl rfl ?_)
     refine q_cons (q_passN rfl rfl rfl rfl ?_)
     refine q_cons (q_passN rfl rfl rfl rfl ?_)
     refine q_cons (q_passN rfl rfl rfl rfl ?_)
     refine q_cons (q_passN rfl rfl rfl rfl ?_)
     refine q_cons (q_pass rfl rfl rfl rfl rfl ?_)
     refine q_cons (q_val rfl rfl rfl (by intro w hw; exact x_pick_t (.bool true) rfl rfl w) ?_)
     refine q_nil ?_
     intro w329 H330
     have H331 : St W w329 (blk g (rfC s (.slice pp11 L13.length cc12) (.slice pp14 E16.length cc15)) :: Row 101 3 (.slice pp11 L13.length cc12) L13.length (L13.flatMap bodCell) :: byA (L13.map BodD.by) :: Row 105 2 (.slice pp14 E16.length cc15) E16.length (E16.flatMap hlCell) :: byA (mby E16) :: blk bk4 (.cells #[.int .i64 d.frm.v, .int .i64 d.to_.v, .int .i64 d.kind.v, .int .i64 d.seq.v, .int .i64 d.ack.v, .slice pp1 d.body.length cc2] 41 (0, 0)) :: (F.set i emp)) := ((((((H330.move 5 rfl).move 5 rfl).move 5 rfl).move 5 rfl).move 5 rfl).move 5 rfl)
     exact join26 (()) _ _ ⟨trivial, H331⟩ ⟨by first | rfl | exact vint (by omega), by first | rfl | exact vint (by omega), by first | rfl | exact vint (by omega), by first | rfl | exact vint (by omega), congrArg Value.bool (show true = stray s d from (decide_eq_true (by omega)).symm), trivial⟩
   ·skip
    refine q_cons (q_val rfl rfl rfl (by intro w hw; exact x_neq true rfl rfl (nfalse hc312) w) ?_)
    refine q_cons (q_val rfl rfl rfl (by intro w hw; exact x_move (.bool true) rfl w) ?_)
    refine q_cons (q_pass rfl rfl rfl rfl rfl ?_)
    refine q_cons (q_pass rfl rfl rfl rfl rfl ?_)
    refine q_cons (q_pass rfl rfl rfl rfl rfl ?_)
    refine q_cons (q_pass rfl rfl rfl rfl rfl ?_)
    refine q_cons (q_pass rfl rfl rfl rfl rfl ?_)
    refine q_cons (q_pass rfl rfl rfl rfl rfl ?_)
    refine q_cons (q_pass rfl rfl rfl rfl rfl ?_)
    refine q_cons (q_pass rfl rfl rfl rfl rfl ?_)
    refine q_cons (q_val rfl rfl rfl (by intro w hw; exact x_pick_t (.bool true) rfl rfl w) ?_)
    refine q_cons (q_val rfl rfl rfl (by intro w hw; exact x_move (.bool true) rfl w) ?_)
    refine q_cons (q_pass rfl rfl rfl rfl rfl ?_)
    refine q_cons (q_pass rfl rfl rfl rfl rfl ?_)
    refine q_cons (q_pass rfl rfl rfl rfl rfl ?_)
    refine q_cons (q_pass rfl rfl rfl rfl rfl ?_)
    refine q_cons (q_pass rfl rfl rfl rfl rfl ?_)
    refine q_cons (q_val rfl rfl rfl (by intro w hw; exact x_pick_t (.bool true) rfl rfl w) ?_)
    refine q_cons (q_val rfl rfl rfl (by intro w hw; exact x_move (.bool true) rfl w) ?_)
    refine q_cons (q_pass rfl rfl rfl rfl rfl ?_)
    refine q_cons (q_pass rfl rfl rfl rfl rfl ?_)
    refine q_cons (q_pass rfl rfl rfl rfl rfl ?_)
    refine q_cons (q_pass rfl rfl rfl rfl rfl ?_)
    refine q_cons (q_passN rfl rfl rfl rfl ?_)
    refine q_cons (q_passN rfl rfl rfl rfl ?_)
    refine q_cons (q_passN rfl rfl rfl rfl ?_)
    refine q_cons (q_passN rfl rfl rfl rfl ?_)
    refine q_cons (q_passN rfl rfl rfl rfl ?_)
    refine q_cons (q_passN rfl rfl rfl rfl ?_)
    refine q_cons (q_passN rfl rfl rfl rfl ?_)
    refine q_cons (q_passN rfl rfl rfl rfl ?_)
    refine q_cons (q_pass rfl rfl rfl rfl rfl ?_)
    refine q_cons (q_val rfl rfl rfl (by intro w hw; exact x_pick_t (.bool true) rfl rfl w) ?_)
    refine q_nil ?_
    intro w332 H333
    have H334 : St W w332 (blk g (rfC s (.slice pp11 L13.length cc12) (.slice pp14 E16.length cc15)) :: Row 101 3 (.slice pp11 L13.length cc12) L13.length (L13.flatMap bodCell) :: byA (L13.map BodD.by) :: Row 105 2 (.slice pp14 E16.length cc15) E16.length (E16.flatMap hlCell) :: byA (mby E16) :: blk bk4 (.cells #[.int .i64 d.frm.v, .int .i64 d.to_.v, .int .i64 d.kind.v, .int .i64 d.seq.v, .int .i64 d.ack.v, .slice pp1 d.body.length cc2] 41 (0, 0)) :: (F.set i emp)) := ((((((H333.move 5 rfl).move 5 rfl).move 5 rfl).move 5 rfl).move 5 rfl).move 5 rfl)
    exact join26 (()) _ _ ⟨trivial, H334⟩ ⟨by first | rfl | exact vint (by omega), by first | rfl | exact vint (by omega), by first | rfl | exact vint (by omega), by first | rfl | exact vint (by omega), congrArg Value.bool (show true = stray s d from (decide_eq_true (by omega)).symm), trivial⟩
 ·skip
  refine r_cons (s_neq true rfl rfl (nfalse hc9) rfl ?_)
  refine r_nil ?_
  refine g_true rfl ?_
  refine g_seq ?_
  refine g_region ?_
  refine r_cons (s_move (.int .i64 (dgE d)) rfl rfl ?_)
  refine r_cons (s_assign (.slice none 0 0) rfl rfl ?_)
  refine r_cons (s_assign (.int .i64 (dgE d)) rfl rfl ?_)
  refine r_nil ?_
  refine g_ret' [.slice none 0 0, .int .i64 (dgE d)] Try.func41 Try.results41 ⟨rfl, rfl, trivial⟩ ?_
  have hE : takeE s d = dgE d := takeE_no (by omega)
  have hE0 : ¬ takeE s d = 0 := by omega
  have H335 := Row.nil_intro H8 26 1
  have H336 := byA_nil H335
  have H337 : St W w7 (Row 26 1 (.slice none 0 0) 0 [] :: byA ([] : List BytesD) :: blk bk4 (.cells #[.int .i64 d.frm.v, .int .i64 d.to_.v, .int .i64 d.kind.v, .int .i64 d.seq.v, .int .i64 d.ack.v, .slice pp1 d.body.length cc2] 41 (0, 0)) :: RfA g s :: (F.set i emp)) := (H336.move 1 rfl)
  have hT9 : takeT s d = [] := takeT_no (fun h => hE0 h.1)
  have H338 : St W w7 (BysA none 0 (takeT s d) :: blk bk4 (.cells #[.int .i64 d.frm.v, .int .i64 d.to_.v, .int .i64 d.kind.v, .int .i64 d.seq.v, .int .i64 d.ack.v, .slice pp1 d.body.length cc2] 41 (0, 0)) :: RfA g s :: (F.set i emp)) := by rw [hT9]; exact St.shut_ex ⟨[], rfl⟩ (St.shut_star (ls := [_, _]) H337)
  have H339 : St W w7 (BysA none 0 (takeT s d) :: blk bk4 (.cells #[.int .i64 d.frm.v, .int .i64 d.to_.v, .int .i64 d.kind.v, .int .i64 d.seq.v, .int .i64 d.ack.v, .slice pp1 d.body.length cc2] 41 (0, 0)) :: RfA g (takeS s d) :: (F.set i emp)) := by rw [takeS_no hE0]; exact H338
  have H340 : St W w7 (BysA none 0 (takeT s d) :: RfA g (takeS s d) :: (F.set i emp)) := (((H339.move 2 rfl).move 1 rfl).drop 2 rfl)
  have H341 : St W w7 (RfA g (takeS s d) :: (BysA none 0 (takeT s d) :: F).set (i + 1) emp) := (H340.move 1 rfl)
  exact ⟨none, 0, by rw [hE, hT9]; rfl, St.back (i := i + 1) (by exact hi) H341⟩
set_option maxHeartbeats 4000000 in
set_option maxRecDepth 100000 in
theorem bytes_Equal {W w : World} {F : List Atom} (A B : Atom) (u v : Value) (m n : Nat) (xs ys : List UInt8) (hA : RdA A 1 u m (xs.flatMap u8c)) (hB : RdA B 1 v n (ys.flatMap u8c)) {j k : Nat} (hj : F[j]? = some A) (hk : F[k]? = some B) (H : St W w F) : Calls Try.prog 34 #[u, v] w (Ret fun v w' => v = .bool (decide (xs = ys)) ∧ St W w' F) := by
 have hml := (hA _ _ _ j H hj).2
 obtain ⟨pp1, cc2, rfl, hn3⟩ := Rd.shape (hA _ _ _ j H hj).1
 have hml := (hB _ _ _ k H hk).2
 obtain ⟨pp4, cc5, rfl, hn6⟩ := Rd.shape (hB _ _ _ k H hk).1
 refine calls_of_go (n := 10) Try.func34 rfl Try.ntmps34 rfl ?_
 refine g_seq ?_
 refine g_region ?_
 refine r_cons (s_assign (.bool false) rfl rfl ?_)
 refine r_nil ?_
 refine g_seq ?_
 refine g_region ?_
 refine r_cons (s_move (.slice pp1 m cc2) rfl rfl ?_)
 refine r_cons (s_bytes_str (xs := xs) rfl (by rw [bytesV_flat]; exact (hA _ _ _ (j + 0) H (by exact hj)).1) un_26 un_5 un_9 rfl ?_)
 refine r_cons (s_move (.slice pp4 n cc5) rfl rfl ?_)
 refine r_cons (s_bytes_str (xs := ys) rfl (by rw [bytesV_flat]; exact (hB _ _ _ (k + 0) H (by exact hk)).1) un_26 un_5 un_9 rfl ?_)
 refine r_cons (s_seql (decide ((⟨(xs).toArray⟩ : ByteArray) = ⟨(ys).toArray⟩)) rfl rfl rfl rfl ?_)
 refine r_cons (s_assign (.bool (decide ((⟨(xs).toArray⟩ : ByteArray) = ⟨(ys).toArray⟩))) rfl rfl ?_)
 refine r_nil ?_
 refine g_ret' [.bool (decide ((⟨(xs).toArray⟩ : ByteArray) = ⟨(ys).toArray⟩))] Try.func34 Try.results34 ⟨rfl, trivial⟩ ?_
 have H7 : St W w F := H
 exact ⟨congrArg Value.bool lit_bytes, H7⟩
set_option maxHeartbeats 4000000 in
set_option maxRecDepth 100000 in
theorem Keys1_V {W w : World} {F : List Atom} (g r l : Nat) (E : List (I64 × BytesD)) (L : List I64) (hEL : E.map (·.1) = L) (N : Nat) (J Jx : List I64 → Atom) (hN : L.length ≤ N) {i j : Nat} (hi : F[i]? = some (imm g (.cells #[.map (some r)] 60 (0, 0)))) (hj : F[j]? = some (MapA r (ents (kI .i64) evD E))) (hY : ∀ w G pre (x : I64), (pre ++ [x]).length ≤ N → St W w (J pre :: emp :: G) → YieldAt Try.prog l [.int .i64 x.v] w (fun v w' => (v = .bool true ∧ St W w' (J (pre ++ [x]) :: G)) ∨ (v = .bool false ∧ St W w' (Jx (pre ++ [x]) :: G)))) (H : St W w (J [] :: F)) : Calls Try.prog 63 #[.func (.yield l) #[] #[], .pointer (some ⟨g, 0, none⟩)] w (Ret fun v w' => ∃ M : List I64, (M.Perm L ∧ St W w' (J M :: F)) ∨ (True ∧ St W w' (Jx M :: F))) := by
 have H0 := (H.dup (i := i + 1) (by exact hi) (imm_pers _ _)).front (i := j + 2) (by exact hj)
 have H1 : St W w (MapA r (ents (kI .i64) evD E) :: imm g (.cells #[.map (some r)] 60 (0, 0)) :: J [] :: (F.set j emp)) := H0
 refine calls_of_go (n := 14) Try.func63 rfl Try.ntmps63 rfl ?_
 refine g_seq ?_
 refine g_region ?_
 refine r_cons (s_load (.map (some r)) ag_60 rfl (H1.imm_at (i := 1) rfl) rfl rfl ?_)
 refine r_cons (s_range H1 0 rfl un_60 rfl rfl ?_); intro it2 w3 H4
 have H5 : St W w3 (MapIt it2 r (ents (kI .i64) evD E) (ents (kI .i64) evD E) none :: imm g (.cells #[.map (some r)] 60 (0, 0)) :: J [] :: (F.set j emp)) := H4.drop 1 rfl
 refine r_nil ?_
 refine g_block ?_
 have H6 : St W w3 (J [] :: MapIt it2 r (ents (kI .i64) evD E) (ents (kI .i64) evD E) none :: imm g (.cells #[.map (some r)] 60 (0, 0)) :: (F.set j emp)) := (((H5.move 1 rfl).move 1 rfl).move 2 rfl)
 refine g_loop_inv (fun (x_ : (List I64) × (List (I64 × BytesD)) × (Option (Value × Value))) => match x_ with | (pre, rest, last) => [(0, .func (.yield l) #[] #[]), (5, .pointer (some ⟨it2, 0, none⟩))]) (fun (x_ : (List I64) × (List (I64 × BytesD)) × (Option (Value × Value))) w => match x_ with | (pre, rest, last) => ((pre ++ rest.map (·.1)).Perm L) ∧ St W w (J pre :: MapIt it2 r (ents (kI .i64) evD E) (ents (kI .i64) evD rest) last :: imm g (.cells #[.map (some r)] 60 (0, 0)) :: (F.set j emp))) (fun (x_ : (List I64) × (List (I64 × BytesD)) × (Option (Value × Value))) => match x_ with | (pre, rest, last) => rest.length) ([], E, none) ?_ ?_ ?_
 ·exact ⟨by first | rfl | exact vint (by omega), by first | rfl | exact vint (by omega), trivial⟩
 ·exact ⟨(by rw [← hEL]; exact List.Perm.refl _), H6⟩
 ·rintro ⟨pre, rest, last⟩ ρ7 w8 ⟨hperm, H9⟩ nx10
  change Ends _ _ (upds ρ7 [(0, .func (.yield l) #[] #[]), (5, .pointer (some ⟨it2, 0, none⟩))]) w8
  refine g_seq ?_
  refine g_region ?_
  refine r_cons (s_nextT (ek := (kI .i64)) (ev := evD) (rest := rest) H9 1 rfl rfl rfl ?_ ?_)
  ·intro h011
   refine r_cons (s_extract (.bool false) #[.bool false] rfl rfl rfl ?_)
   refine r_nil ?_
   refine g_seq ?_
   refine g_false rfl ?_
   refine g_exit (by rfl) ?_
   refine g_end' [] Try.func63 Try.results63 trivial ?_
   have H17 : St W w8 (MapIt it2 r (ents (kI .i64) evD E) (ents (kI .i64) evD rest) last :: J pre :: (F.set j emp)) := ((H9.move 1 rfl).drop 2 rfl)
   have H18 : St W w8 (MapA r (ents (kI .i64) evD E) :: (J pre :: F).set (j + 1) emp) := MapIt.shut (i := 0) H17 rfl
   have hr0 := h011
   exact ⟨_, .inl ⟨keys_endV hr0 hperm, St.back_same (i := j + 1) (by exact hj) H18⟩⟩
  ·intro jn12 en13 w14 hj15 H16
   have H19 : St W w14 (J pre :: MapIt it2 r (ents (kI .i64) evD E) (ents (kI .i64) evD (rest.eraseIdx jn12)) (some ((kI .i64) en13.1, evD en13.2)) :: imm g (.cells #[.map (some r)] 60 (0, 0)) :: (F.set j emp)) := H16
   refine r_cons (s_extract (.bool true) #[.bool true, .int .i64 en13.1.v, .slice en13.2.p en13.2.data.length en13.2.c] rfl rfl rfl ?_)
   refine r_nil ?_
   refine g_seq ?_
   refine g_true rfl ?_
   refine g_skip ?_
   refine g_block ?_
   refine g_seq ?_
   refine g_region ?_
   refine r_cons (s_entry (.tuple #[.int .i64 en13.1.v, .slice en13.2.p en13.2.data.length en13.2.c]) H19 1 rfl rfl rfl rfl ?_)
   refine r_cons (s_extract (.int .i64 en13.1.v) #[.int .i64 en13.1.v, .slice en13.2.p en13.2.data.length en13.2.c] rfl rfl rfl ?_)
   refine r_cons (s_assign (.int .i64 en13.1.v) rfl rfl ?_)
   refine r_nil ?_
   refine g_seq ?_
   refine g_region ?_
   refine r_cons (s_move (.func (.yield l) #[] #[]) rfl rfl ?_)
   refine r_cons (s_move (.int .i64 en13.1.v) rfl rfl ?_)
   have hlen9 := keys_stepV hj15 hperm hN
   refine r_cons (s_yield l [.int .i64 en13.1.v] rfl rfl rfl (hY _ _ pre en13.1 hlen9 (H19.cons_emp.move 1 rfl)) ?_)
   rintro _ w20 (⟨rfl, H21⟩ | ⟨rfl, H21⟩)
   ·skip
    have H22 : St W w20 (J (pre ++ [en13.1]) :: MapIt it2 r (ents (kI .i64) evD E) (ents (kI .i64) evD (rest.eraseIdx jn12)) (some ((kI .i64) en13.1, evD en13.2)) :: imm g (.cells #[.map (some r)] 60 (0, 0)) :: (F.set j emp)) := H21
    refine r_cons (s_not true rfl false rfl rfl ?_)
    refine r_nil ?_
    refine g_false rfl ?_
    refine g_skip ?_
    refine g_inBlock ?_
    have H23 : St W w20 (J (pre ++ [en13.1]) :: MapIt it2 r (ents (kI .i64) evD E) (ents (kI .i64) evD (rest.eraseIdx jn12)) (some ((kI .i64) en13.1, evD en13.2)) :: imm g (.cells #[.map (some r)] 60 (0, 0)) :: (F.set j emp)) := (((H22.move 2 rfl).move 2 rfl).move 2 rfl)
    exact nx10 ((pre ++ [en13.1]), (rest.eraseIdx jn12), (some ((kI .i64) en13.1, evD en13.2))) _ _ ⟨(perm_step hj15 hperm), H23⟩ (by first | (dsimp only; exact rest_len (by assumption)) | exact rest_len (by assumption)) ⟨by first | rfl | exact vint (by omega), by first | rfl | exact vint (by omega), trivial⟩
   ·skip
    have H24 : St W w20 (Jx (pre ++ [en13.1]) :: MapIt it2 r (ents (kI .i64) evD E) (ents (kI .i64) evD (rest.eraseIdx jn12)) (some ((kI .i64) en13.1, evD en13.2)) :: imm g (.cells #[.map (some r)] 60 (0, 0)) :: (F.set j emp)) := H21
    refine r_cons (s_not false rfl true rfl rfl ?_)
    refine r_nil ?_
    refine g_true rfl ?_
    refine g_ret' [] Try.func63 Try.results63 trivial ?_
    have H25 : St W w20 (MapIt it2 r (ents (kI .i64) evD E) (ents (kI .i64) evD (rest.eraseIdx jn12)) (some ((kI .i64) en13.1, evD en13.2)) :: Jx (pre ++ [en13.1]) :: (F.set j emp)) := ((H24.move 1 rfl).drop 2 rfl)
    have H26 : St W w20 (MapA r (ents (kI .i64) evD E) :: (Jx (pre ++ [en13.1]) :: F).set (j + 1) emp) := MapIt.shut (i := 0) H25 rfl
    exact ⟨_, .inr ⟨trivial, St.back_same (i := j + 1) (by exact hj) H26⟩⟩
set_option maxHeartbeats 4000000 in
set_option maxRecDepth 100000 in
theorem Keys_V {W w : World} {F : List Atom} (r : Nat) (H : St W w F) : Calls Try.prog 52 #[.map (some r)] w (Ret fun v w' => ∃ g, v = .func (.func 63) #[] #[.pointer (some ⟨g, 0, none⟩)] ∧ St W w' (imm g (.cells #[.map (some r)] 60 (0, 0)) :: F)) := by
 refine calls_of_go (n := 4) Try.func52 rfl Try.ntmps52 rfl ?_
 refine g_seq ?_
 refine g_region ?_
 refine r_cons (s_box H 60 (.map (some r)) rfl (cs := #[.map (some r)]) rfl rfl ?_); intro bk1 w2 H3
 refine r_cons (s_assign (.nilFunc) rfl rfl ?_)
 refine r_nil ?_
 refine g_seq ?_
 refine g_region ?_
 refine r_cons (s_makeFunc (.func (.func 63) #[] #[.pointer (some ⟨bk1, 0, none⟩)]) rfl rfl ?_)
 refine r_cons (s_assign (.func (.func 63) #[] #[.pointer (some ⟨bk1, 0, none⟩)]) rfl rfl ?_)
 refine r_nil ?_
 refine g_ret' [.func (.func 63) #[] #[.pointer (some ⟨bk1, 0, none⟩)]] Try.func52 Try.results52 ⟨rfl, trivial⟩ ?_
 have H4 : St W w2 (blk bk1 (.cells #[.map (some r)] 60 (0, 0)) :: F) := H3
 exact ⟨_, rfl, blk_imm H4 (i := 0) rfl⟩
set_option maxHeartbeats 4000000 in
set_option maxRecDepth 100000 in
theorem AppendSeq_V {W w : World} {F : List Atom} (g r : Nat) (E : List (I64 × BytesD)) (L : List I64) (hEL : E.map (·.1) = L) {i j : Nat} (hi : F[i]? = some (imm g (.cells #[.map (some r)] 60 (0, 0)))) (hj : F[j]? = some (MapA r (ents (kI .i64) evD E))) (hN : L.length * 8 ≤ 140737488355328) (H : St W w F) : Calls Try.prog 66 #[.slice none 0 0, .func (.func 63) #[] #[.pointer (some ⟨g, 0, none⟩)]] w (Ret fun v w' => ∃ (M : List I64) (p : Option Addr) (c : Nat), M.Perm L ∧ v = .slice p M.length c ∧ St W w' (Row 2 1 (.slice p M.length c) M.length (M.flatMap i64c) :: F)) := by
 have H0 := (H.dup (i := i) (by exact hi) (imm_pers _ _)).front (i := j + 1) (by exact hj)
 have H1 : St W w (MapA r (ents (kI .i64) evD E) :: imm g (.cells #[.map (some r)] 60 (0, 0)) :: (F.set j emp)) := H0
 refine calls_of_go (n := 13) Try.func66 rfl Try.ntmps66 rfl ?_
 refine g_seq ?_
 refine g_region ?_
 refine r_cons (s_box H1 94 (.slice none 0 0) rfl (cs := #[.slice none 0 0]) rfl rfl ?_); intro bk2 w3 H4
 refine r_cons (s_assign (.slice none 0 0) rfl rfl ?_)
 refine r_nil ?_
 refine g_seq ?_
 refine g_seq ?_
 refine g_region ?_
 refine r_cons (s_move (.func (.func 63) #[] #[.pointer (some ⟨g, 0, none⟩)]) rfl rfl ?_)
 refine r_nil ?_
 refine g_block ?_
 have H5 := Row.nil_intro H4 2 1
 have H6 : St W w3 (blk bk2 (.cells #[.slice none 0 0] 94 (0, 0)) :: Row 2 1 (.slice none 0 0) 0 [] :: MapA r (ents (kI .i64) evD E) :: imm g (.cells #[.map (some r)] 60 (0, 0)) :: (F.set j emp)) := (H5.move 1 rfl)
 have H7 : St W w3 ((ex fun q : Option Addr × Nat => star [blk bk2 (.cells #[.slice q.1 ([] : List I64).length q.2] 94 (0, 0)), Row 2 1 (.slice q.1 ([] : List I64).length q.2) ([] : List I64).length (([] : List I64).flatMap i64c)]) :: MapA r (ents (kI .i64) evD E) :: imm g (.cells #[.map (some r)] 60 (0, 0)) :: (F.set j emp)) := St.shut_ex (none, 0) (St.shut_star (ls := [blk bk2 (.cells #[.slice none 0 0] 94 (0, 0)), Row 2 1 (.slice none 0 0) 0 []]) H6)
 refine g_range1 (W := W) (F := MapA r (ents (kI .i64) evD E) :: imm g (.cells #[.map (some r)] 60 (0, 0)) :: (F.set j emp)) 63 [.pointer (some ⟨g, 0, none⟩)] rfl rfl pl_63 (fun x_ : I64 => .int .i64 x_.v) rfl (fun x_ : I64 => emp) (fun pre_ => (ex fun q : Option Addr × Nat => star [blk bk2 (.cells #[.slice q.1 pre_.length q.2] 94 (0, 0)), Row 2 1 (.slice q.1 pre_.length q.2) pre_.length (pre_.flatMap i64c)])) (fun c_ pre_ => pure' False) (fun pre_ x_ => (pre_ ++ [x_]).length ≤ L.length) (fun L_ => L_.Perm L) (fun L_ => True) H7 ?_ ?_ ?_ ?_
 ·intro l8 r9 w10 G11 pre12 x13 hr14 hr15 hok16 H17
  try dsimp only at hok16 H17
  have H18 : St W w10 (blk l8 (.loop r9) :: (ex fun q : Option Addr × Nat => star [blk bk2 (.cells #[.slice q.1 pre12.length q.2] 94 (0, 0)), Row 2 1 (.slice q.1 pre12.length q.2) pre12.length (pre12.flatMap i64c)]) :: emp :: G11) := H17
  have H19 := H18.move 1 rfl
  obtain ⟨⟨pp20, cc21⟩, H22⟩ := St.open_ex H19
  have H23 := St.open_star H22
  have H24 : St W w10 (blk bk2 (.cells #[.slice pp20 pre12.length cc21] 94 (0, 0)) :: Row 2 1 (.slice pp20 pre12.length cc21) pre12.length (pre12.flatMap i64c) :: blk l8 (.loop r9) :: emp :: G11) := H23
  have hpl : pre12.length + 1 ≤ L.length := by have h9 := hok16; simp only [List.length_append, List.length_cons, List.length_nil] at h9; omega
  refine g_region ?_
  refine r_cons (s_assign (.int .i64 x13.v) rfl rfl ?_)
  refine r_nil ?_
  refine g_beginRound H24 (i := 2) rfl hr14 ?_; intro w25 H26
  have H27 : St W w25 (blk bk2 (.cells #[.slice pp20 pre12.length cc21] 94 (0, 0)) :: Row 2 1 (.slice pp20 pre12.length cc21) pre12.length (pre12.flatMap i64c) :: blk l8 (.loop { r9 with state := .busy }) :: emp :: G11) := H26
  refine g_block ?_
  refine g_region ?_
  refine r_cons (s_load (.slice pp20 pre12.length cc21) ag_94 rfl (H27.blk_at (i := 0) rfl) rfl rfl ?_)
  refine r_cons (s_move (.int .i64 x13.v) rfl rfl ?_)
  refine r_cons (s_buildSlice H27 1 1 (cs := #[.int .i64 x13.v]) #[.int .i64 0] el_94 ze_2 (by decide) (by decide) (by kernel_rfl) rfl ?_); intro bk28 w29 H30
  refine r_cons (s_append H30 2 rfl rfl rfl (rd_blk (H30.blk_at (i := 0) rfl) rfl (nbl rfl) (by simp [Value.oneCell'])) ap_94 (by decide) (by unfold maxLen; omega) (by omega) (n' := pre12.length + 1) (xs' := pre12.flatMap i64c ++ ([.int .i64 x13.v] : List Value)) (by omega) (by first | rfl | simp) rfl ?_); intro vv31 w32 H33 hn34
  obtain ⟨pp35, cc36, rfl⟩ := Row.slice H33 (i := 2) rfl
  refine r_cons (s_store H33 1 (.slice pp35 (pre12.length + 1) cc36) rfl rfl rfl sz_94 rfl (nbl rfl) rfl (cs' := #[.slice pp35 (pre12.length + 1) cc36]) rfl ?_); intro w37 H38
  refine r_nil ?_
  refine g_inBlock ?_
  have H39 : St W w37 (blk bk28 (.cells #[.int .i64 x13.v] 2 (0, 0)) :: blk bk2 (.cells #[.slice pp35 ((pre12 ++ [x13]).length) cc36] 94 (0, 0)) :: Row 2 1 (.slice pp35 ((pre12 ++ [x13]).length) cc36) ((pre12 ++ [x13]).length) ((pre12 ++ [x13]).flatMap i64c) :: blk l8 (.loop { r9 with state := .busy }) :: emp :: G11) := by rw [List.flatMap_append, List.length_append]; exact H38
  have H40 : St W w37 (blk bk2 (.cells #[.slice pp35 ((pre12 ++ [x13]).length) cc36] 94 (0, 0)) :: Row 2 1 (.slice pp35 ((pre12 ++ [x13]).length) cc36) ((pre12 ++ [x13]).length) ((pre12 ++ [x13]).flatMap i64c) :: blk bk28 (.cells #[.int .i64 x13.v] 2 (0, 0)) :: blk l8 (.loop { r9 with state := .busy }) :: emp :: G11) := ((H39.move 2 rfl).move 2 rfl)
  have H41 : St W w37 ((ex fun q : Option Addr × Nat => star [blk bk2 (.cells #[.slice q.1 (pre12 ++ [x13]).length q.2] 94 (0, 0)), Row 2 1 (.slice q.1 (pre12 ++ [x13]).length q.2) (pre12 ++ [x13]).length ((pre12 ++ [x13]).flatMap i64c)]) :: blk bk28 (.cells #[.int .i64 x13.v] 2 (0, 0)) :: blk l8 (.loop { r9 with state := .busy }) :: emp :: G11) := St.shut_ex (pp35, cc36) (St.shut_star (ls := [blk bk2 (.cells #[.slice pp35 ((pre12 ++ [x13]).length) cc36] 94 (0, 0)), Row 2 1 (.slice pp35 ((pre12 ++ [x13]).length) cc36) ((pre12 ++ [x13]).length) ((pre12 ++ [x13]).flatMap i64c)]) H40)
  have H42 : St W w37 (blk l8 (.loop { r9 with state := .busy }) :: (ex fun q : Option Addr × Nat => star [blk bk2 (.cells #[.slice q.1 (pre12 ++ [x13]).length q.2] 94 (0, 0)), Row 2 1 (.slice q.1 (pre12 ++ [x13]).length q.2) (pre12 ++ [x13]).length ((pre12 ++ [x13]).flatMap i64c)]) :: G11) := (((H41.move 2 rfl).drop 2 rfl).drop 2 rfl)
  refine g_round_end hr14 hr15 H42 (i := 0) rfl ?_; intro w43 H44
  exact .inl ⟨rfl, H44⟩
 ·intro l J Jx B w H hY; exact Keys1_V g r l E L hEL L.length J Jx (Nat.le_refl _) (i := 2) rfl (j := 1) rfl hY H
 ·intro D45 L46 w47 hS48 H49
  have H51 : St W w47 ((ex fun q : Option Addr × Nat => star [blk bk2 (.cells #[.slice q.1 L46.length q.2] 94 (0, 0)), Row 2 1 (.slice q.1 L46.length q.2) L46.length (L46.flatMap i64c)]) :: blk D45 (.deferred (some [])) :: MapA r (ents (kI .i64) evD E) :: imm g (.cells #[.map (some r)] 60 (0, 0)) :: (F.set j emp)) := H49
  obtain ⟨⟨pp52, cc53⟩, H54⟩ := St.open_ex H51
  have H55 := St.open_star H54
  have H56 : St W w47 (blk bk2 (.cells #[.slice pp52 L46.length cc53] 94 (0, 0)) :: Row 2 1 (.slice pp52 L46.length cc53) L46.length (L46.flatMap i64c) :: blk D45 (.deferred (some [])) :: MapA r (ents (kI .i64) evD E) :: imm g (.cells #[.map (some r)] 60 (0, 0)) :: (F.set j emp)) := H55
  refine g_inBlock ?_
  refine g_seq ?_
  refine g_region ?_
  refine r_cons (s_load (.slice pp52 L46.length cc53) ag_94 rfl (H56.blk_at (i := 0) rfl) rfl rfl ?_)
  refine r_cons (s_assign (.slice pp52 L46.length cc53) rfl rfl ?_)
  refine r_nil ?_
  obtain ⟨hd57, H58⟩ := H56.collect (i := 2) rfl
  refine g_retD _ [.slice pp52 L46.length cc53] Try.func66 Try.results66 rfl ⟨hd57, trivial⟩ ⟨rfl, trivial⟩ ?_
  have H59 : St W (w47.putObj D45 (.deferred none)) (MapA r (ents (kI .i64) evD E) :: Row 2 1 (.slice pp52 L46.length cc53) L46.length (L46.flatMap i64c) :: (F.set j emp)) := ((((H58.move 1 rfl).move 2 rfl).drop 2 rfl).drop 2 rfl)
  have H60 : St W (w47.putObj D45 (.deferred none)) (MapA r (ents (kI .i64) evD E) :: (Row 2 1 (.slice pp52 L46.length cc53) L46.length (L46.flatMap i64c) :: F).set (j + 1) emp) := H59
  exact ⟨L46, _, _, hS48, rfl, St.back_same (i := j + 1) (by exact hj) H60⟩
 ·intro D61 c66 L62 w63 hS64 H65
  have H67 : St W w63 (pure' False :: blk D61 (.deferred (some [])) :: MapA r (ents (kI .i64) evD E) :: imm g (.cells #[.map (some r)] 60 (0, 0)) :: (F.set j emp)) := H65
  exact (St.open_pure H67).1.elim
set_option maxHeartbeats 4000000 in
set_option maxRecDepth 100000 in
theorem Collect_V {W w : World} {F : List Atom} (g r : Nat) (E : List (I64 × BytesD)) (L : List I64) (hEL : E.map (·.1) = L) {i j : Nat} (hi : F[i]? = some (imm g (.cells #[.map (some r)] 60 (0, 0)))) (hj : F[j]? = some (MapA r (ents (kI .i64) evD E))) (hN : L.length * 8 ≤ 140737488355328) (H : St W w F) : Calls Try.prog 61 #[.func (.func 63) #[] #[.pointer (some ⟨g, 0, none⟩)]] w (Ret fun v w' => ∃ (M : List I64) (p : Option Addr) (c : Nat), M.Perm L ∧ v = .slice p M.length c ∧ St W w' (Row 2 1 (.slice p M.length c) M.length (M.flatMap i64c) :: F)) := by
 have H0 := (H.dup (i := i) (by exact hi) (imm_pers _ _)).front (i := j + 1) (by exact hj)
 have H1 : St W w (MapA r (ents (kI .i64) evD E) :: imm g (.cells #[.map (some r)] 60 (0, 0)) :: (F.set j emp)) := H0
 refine calls_of_go (n := 5) Try.func61 rfl Try.ntmps61 rfl ?_
 refine g_seq ?_
 refine g_region ?_
 refine r_cons (s_assign (.slice none 0 0) rfl rfl ?_)
 refine r_nil ?_
 refine g_seq ?_
 refine g_region ?_
 refine r_cons (s_move (.func (.func 63) #[] #[.pointer (some ⟨g, 0, none⟩)]) rfl rfl ?_)
 refine r_cons (s_call [.slice none 0 0, .func (.func 63) #[] #[.pointer (some ⟨g, 0, none⟩)]] pl_66 rfl rfl (AppendSeq_V g r E L hEL (i := 1) rfl (j := 0) rfl hN H1) ?_)
 rintro _ w6 ⟨M2, pp3, cc4, hp5, rfl, H7⟩
 refine r_cons (s_assign (.slice pp3 M2.length cc4) rfl rfl ?_)
 refine r_nil ?_
 refine g_ret' [.slice pp3 M2.length cc4] Try.func61 Try.results61 ⟨rfl, trivial⟩ ?_
 have H8 : St W w6 (MapA r (ents (kI .i64) evD E) :: Row 2 1 (.slice pp3 M2.length cc4) M2.length (M2.flatMap i64c) :: (F.set j emp)) := ((H7.move 1 rfl).drop 2 rfl)
 have H9 : St W w6 (MapA r (ents (kI .i64) evD E) :: (Row 2 1 (.slice pp3 M2.length cc4) M2.length (M2.flatMap i64c) :: F).set (j + 1) emp) := H8
 exact ⟨M2, _, _, hp5, rfl, St.back_same (i := j + 1) (by exact hj) H9⟩
def sortLI_ren : Shelf.Ren := ⟨fun | 5 => 62 | 8 => 68 | 7 => 67 | 19 => 78 | 20 => 79 | 10 => 69 | 11 => 70 | 12 => 71 | 13 => 72 | 14 => 73 | 15 => 74 | 16 => 75 | 17 => 76 | 18 => 77 | 30 => 80 | 31 => 81 | 32 => 82 | 33 => 83 | 34 => 84 | 35 => 85 | 40 => 86 | n => n, fun | 23 => 94 | 25 => 2 | 3 => 3 | 32 => 76 | 22 => 94 | 0 => 0 | 44 => 121 | 46 => 123 | 4 => 4 | 36 => 113 | 35 => 112 | 41 => 118 | 5 => 5 | 9 => 9 | 53 => 124 | 57 => 128 | 63 => 130 | 64 => 131 | n => n, fun n => n⟩
theorem sortLI : SlLaysM.n5 Try.prog sortLI_ren where
 mixed := by kernel_rfl
 f5 := ⟨"slices.Sort[[]int64,int64]", by decide, Try.func62.trans (congrArg some (by kernel_rfl))⟩
 f7 := ⟨"slices.pdqsortOrdered[int64]", by decide, Try.func67.trans (congrArg some (by kernel_rfl))⟩
 f8 := Try.func68.trans (congrArg some (by kernel_rfl))
 f10 := ⟨"slices.insertionSortOrdered[int64]", by decide, Try.func69.trans (congrArg some (by kernel_rfl))⟩
 f11 := ⟨"slices.heapSortOrdered[int64]", by decide, Try.func70.trans (congrArg some (by kernel_rfl))⟩
 f12 := ⟨"slices.breakPatternsOrdered[int64]", by decide, Try.func71.trans (congrArg some (by kernel_rfl))⟩
 f13 := ⟨"slices.choosePivotOrdered[int64]", by decide, Try.func72.trans (congrArg some (by kernel_rfl))⟩
 f14 := ⟨"slices.reverseRangeOrdered[int64]", by decide, Try.func73.trans (congrArg some (by kernel_rfl))⟩
 f15 := ⟨"slices.partialInsertionSortOrdered[int64]", by decide, Try.func74.trans (congrArg some (by kernel_rfl))⟩
 f16 := ⟨"cmp.Less[int64]", by decide, Try.func75.trans (congrArg some (by kernel_rfl))⟩
 f17 := ⟨"slices.partitionEqualOrdered[int64]", by decide, Try.func76.trans (congrArg some (by kernel_rfl))⟩
 f18 := ⟨"slices.partitionOrdered[int64]", by decide, Try.func77.trans (congrArg some (by kernel_rfl))⟩
 f19 := Try.func78.trans (congrArg some (by kernel_rfl))
 f20 := Try.func79.trans (congrArg some (by kernel_rfl))
 f30 := ⟨"slices.siftDownOrdered[int64]", by decide, Try.func80.trans (congrArg some (by kernel_rfl))⟩
 f31 := Try.func81.trans (congrArg some (by kernel_rfl))
 f32 := Try.func82.trans (congrArg some (by kernel_rfl))
 f33 := ⟨"slices.medianAdjacentOrdered[int64]", by decide, Try.func83.trans (congrArg some (by kernel_rfl))⟩
 f34 := ⟨"slices.medianOrdered[int64]", by decide, Try.func84.trans (congrArg some (by kernel_rfl))⟩
 f35 := ⟨"cmp.isNaN[int64]", by decide, Try.func85.trans (congrArg some (by kernel_rfl))⟩
 f40 := ⟨"slices.order2Ordered[int64]", by decide, Try.func86.trans (congrArg some (by kernel_rfl))⟩
 t0 := Try.underlying0
 a0 := Try.isAgg0
 z0 := Try.sizeOf0
 v0 := Try.zeroValue0
 t3 := Try.underlying3
 a3 := Try.isAgg3
 z3 := Try.sizeOf3
 v3 := Try.zeroValue3
 t4 := Try.underlying4
 a4 := Try.isAgg4
 z4 := Try.sizeOf4
 v4 := Try.zeroValue4
 t5 := Try.underlying5
 a5 := Try.isAgg5
 z5 := Try.sizeOf5
 v5 := Try.zeroValue5
 t9 := Try.underlying9
 a9 := Try.isAgg9
 z9 := Try.sizeOf9
 v9 := Try.zeroValue9
 t22 := Try.underlying94
 a22 := Try.isAgg94
 z22 := Try.sizeOf94
 v22 := Try.zeroValue94
 t23 := Try.underlying94
 a23 := Try.isAgg94
 z23 := Try.sizeOf94
 v23 := Try.zeroValue94
 t25 := Try.underlying2
 a25 := Try.isAgg2
 z25 := Try.sizeOf2
 v25 := Try.zeroValue2
 t32 := Try.underlying76
 a32 := Try.isAgg76
 z32 := Try.sizeOf76
 v32 := Try.zeroValue76
 t35 := Try.underlying112
 a35 := Try.isAgg112
 z35 := Try.sizeOf112
 v35 := Try.zeroValue112
 t36 := Try.underlying113
 a36 := Try.isAgg113
 z36 := Try.sizeOf113
 v36 := Try.zeroValue113
 t41 := Try.underlying118
 a41 := Try.isAgg118
 z41 := Try.sizeOf118
 v41 := Try.zeroValue118
 t44 := Try.underlying121
 a44 := Try.isAgg121
 z44 := Try.sizeOf121
 v44 := Try.zeroValue121
 t46 := Try.underlying123
 a46 := Try.isAgg123
 z46 := Try.sizeOf123
 v46 := Try.zeroValue123
 t53 := Try.underlying124
 a53 := Try.isAgg124
 z53 := Try.sizeOf124
 v53 := Try.zeroValue124
 t57 := Try.underlying128
 a57 := Try.isAgg128
 z57 := Try.sizeOf128
 v57 := Try.zeroValue128
 t63 := Try.underlying130
 a63 := Try.isAgg130
 z63 := Try.sizeOf130
 v63 := Try.zeroValue130
 t64 := Try.underlying131
 a64 := Try.isAgg131
 z64 := Try.sizeOf131
 v64 := Try.zeroValue131
set_option maxHeartbeats 4000000 in
set_option maxRecDepth 100000 in
theorem Sorted_V {W w : World} {F : List Atom} (g r : Nat) (E : List (I64 × BytesD)) (L : List I64) (hEL : E.map (·.1) = L) {i j : Nat} (hi : F[i]? = some (imm g (.cells #[.map (some r)] 60 (0, 0)))) (hj : F[j]? = some (MapA r (ents (kI .i64) evD E))) (hN : L.length * 8 ≤ 140737488355328) (H : St W w F) : Calls Try.prog 51 #[.func (.func 63) #[] #[.pointer (some ⟨g, 0, none⟩)]] w (Ret fun v w' => ∃ p c, v = .slice p L.length c ∧ St W w' (Im 1 (.slice p L.length c) L.length ((sortI L).flatMap i64c) :: F)) := by
 have H0 := (H.dup (i := i) (by exact hi) (imm_pers _ _)).front (i := j + 1) (by exact hj)
 have H1 : St W w (MapA r (ents (kI .i64) evD E) :: imm g (.cells #[.map (some r)] 60 (0, 0)) :: (F.set j emp)) := H0
 refine calls_of_go (n := 9) Try.func51 rfl Try.ntmps51 rfl ?_
 refine g_seq ?_
 refine g_region ?_
 refine r_cons (s_assign (.slice none 0 0) rfl rfl ?_)
 refine r_nil ?_
 refine g_seq ?_
 refine g_region ?_
 refine r_cons (s_move (.func (.func 63) #[] #[.pointer (some ⟨g, 0, none⟩)]) rfl rfl ?_)
 refine r_cons (s_call [.func (.func 63) #[] #[.pointer (some ⟨g, 0, none⟩)]] pl_61 rfl rfl (Collect_V g r E L hEL (i := 1) rfl (j := 0) rfl hN H1) ?_)
 rintro _ w6 ⟨M2, pp3, cc4, hp5, rfl, H7⟩
 refine r_cons (s_assign (.slice pp3 M2.length cc4) rfl rfl ?_)
 refine r_nil ?_
 refine g_seq ?_
 refine g_region ?_
 refine r_cons (s_move (.slice pp3 M2.length cc4) rfl rfl ?_)
 refine r_cons (s_call [.slice pp3 M2.length cc4] pl_62 rfl rfl (sort_int sortLI H7 (i := 0) rfl (by have h9 := hp5.length_eq; omega)) ?_)
 rintro _ w8 ⟨rfl, H9⟩
 refine r_nil ?_
 refine g_seq ?_
 refine g_region ?_
 refine r_cons (s_move (.slice pp3 M2.length cc4) rfl rfl ?_)
 refine r_cons (s_assign (.slice pp3 M2.length cc4) rfl rfl ?_)
 refine r_nil ?_
 refine g_ret' [.slice pp3 M2.length cc4] Try.func51 Try.results51 ⟨rfl, trivial⟩ ?_
 have H10 : St W w8 (MapA r (ents (kI .i64) evD E) :: Row 2 1 (.slice pp3 M2.length cc4) M2.length ((sortI M2).flatMap i64c) :: (F.set j emp)) := ((H9.move 1 rfl).drop 2 rfl)
 have H11 : St W w8 (MapA r (ents (kI .i64) evD E) :: (Row 2 1 (.slice pp3 M2.length cc4) M2.length ((sortI M2).flatMap i64c) :: F).set (j + 1) emp) := H10
 have hx := St.back_same (i := j + 1) (by exact hj) H11
 have hq := Row.im hx (i := 0) rfl
 rw [sortI_of_perm hp5, hp5.length_eq] at hq
 exact ⟨_, _, by rw [← hp5.length_eq]; rfl, hq⟩
set_option maxHeartbeats 4000000 in
set_option maxRecDepth 100000 in
theorem Lk_Held {W w : World} {F : List Atom} (g : Nat) (H : St W w F) : Calls Try.prog 28 #[.pointer (some ⟨g, 0, none⟩)] w (Ret fun v w' => ∃ bx, v = .func (.func 50) #[] #[.pointer (some ⟨bx, 0, none⟩)] ∧ St W w' (imm bx (.cells #[.pointer (some ⟨g, 0, none⟩)] 30 (0, 0)) :: F)) := by
 refine calls_of_go (n := 4) Try.func28 rfl Try.ntmps28 rfl ?_
 refine g_seq ?_
 refine g_region ?_
 refine r_cons (s_box H 30 (.pointer (some ⟨g, 0, none⟩)) rfl (cs := #[.pointer (some ⟨g, 0, none⟩)]) rfl rfl ?_); intro bk1 w2 H3
 refine r_cons (s_assign (.nilFunc) rfl rfl ?_)
 refine r_nil ?_
 refine g_seq ?_
 refine g_region ?_
 refine r_cons (s_makeFunc (.func (.func 50) #[] #[.pointer (some ⟨bk1, 0, none⟩)]) rfl rfl ?_)
 refine r_cons (s_assign (.func (.func 50) #[] #[.pointer (some ⟨bk1, 0, none⟩)]) rfl rfl ?_)
 refine r_nil ?_
 refine g_ret' [.func (.func 50) #[] #[.pointer (some ⟨bk1, 0, none⟩)]] Try.func28 Try.results28 ⟨rfl, trivial⟩ ?_
 have H4 : St W w2 (blk bk1 (.cells #[.pointer (some ⟨g, 0, none⟩)] 30 (0, 0)) :: F) := H3
 exact ⟨_, rfl, blk_imm H4 (i := 0) rfl⟩
set_option maxHeartbeats 4000000 in
set_option maxRecDepth 100000 in
theorem Held_it {W w : World} {F : List Atom} (g bx l : Nat) (s : EndV) (hv : LInv s) (hN0 : s.held.length * 8 ≤ 140737488355328) (J Jx : List (I64 × BytesD) → Atom) {i k : Nat} (hi : F[i]? = some (imm bx (.cells #[.pointer (some ⟨g, 0, none⟩)] 30 (0, 0)))) (hk : F[k]? = some (LkA g s)) (hY : ∀ w G pre (x : I64 × BytesD), mapB (pre ++ [x]) <+: sH s.held → St W w (J pre :: DtA x.2.p x.2.c x.2.data :: G) → YieldAt Try.prog l [.int .i64 x.1.v, .slice x.2.p x.2.data.length x.2.c] w (fun v w' => (v = .bool true ∧ St W w' (J (pre ++ [x]) :: G)) ∨ (v = .bool false ∧ St W w' (Jx (pre ++ [x]) :: G)))) (H : St W w (J [] :: F)) : Calls Try.prog 50 #[.func (.yield l) #[] #[], .pointer (some ⟨bx, 0, none⟩)] w (Ret fun v w' => ∃ L : List (I64 × BytesD), (mapB L = sH s.held ∧ St W w' (J L :: F)) ∨ (mapB L <+: sH s.held ∧ St W w' (Jx L :: F))) := by
 have H0 := (H.dup (i := i + 1) (by exact hi) (imm_pers _ _)).front (i := k + 2) (by exact hk)
 have H1 : St W w (LkA g s :: imm bx (.cells #[.pointer (some ⟨g, 0, none⟩)] 30 (0, 0)) :: J [] :: (F.set k emp)) := H0
 have hok := hv.ok; obtain ⟨o1, o2, o3, o4, o5, o6, o8⟩ := id hok; have o7 := i64N_0 (Nat.le_trans o4 (by decide))
 refine calls_of_go (n := 30) Try.func50 rfl Try.ntmps50 rfl ?_
 refine g_seq ?_
 refine g_seq ?_
 refine g_region ?_
 refine r_cons (s_load (.pointer (some ⟨g, 0, none⟩)) ag_30 rfl (H1.imm_at (i := 1) rfl) rfl rfl ?_)
 refine r_cons (s_call [.pointer (some ⟨g, 0, none⟩)] pl_31 rfl rfl (Lk_none g s hok (i := 0) rfl H1) ?_)
 rintro _ w2 ⟨rfl, H3⟩
 refine r_nil ?_
 refine g_false rfl ?_
 refine g_skip ?_
 refine g_seq ?_
 refine g_region ?_
 refine r_cons (s_load (.pointer (some ⟨g, 0, none⟩)) ag_30 rfl (H3.imm_at (i := 1) rfl) rfl rfl ?_)
 refine r_cons (s_nilCheck (.pointer (some ⟨g, 0, none⟩)) rfl ⟨_, rfl⟩ rfl ?_)
 refine r_cons (s_fieldAddr 62 5 6 6 60 rfl fi_62_5 rfl rfl ?_)
 have H4 := H3.move 0 rfl
 obtain ⟨⟨⟨m5, pp6, cc7, L8, E9⟩, hL10, hE11⟩, H12⟩ := St.open_ex H4
 have H13 := St.open_star H12
 change L8.map BodD.v = s.l at hL10; change mapB E9 = s.held at hE11
 have hl14 := lenOf hL10; have he15 := mapB_len hE11
 have H16 : St W w2 (blk g (lkC s m5 (.slice pp6 L8.length cc7)) :: Row 79 3 (.slice pp6 L8.length cc7) L8.length (L8.flatMap bodCell) :: byA (L8.map BodD.by) :: MapA m5 (ents (kI .i64) evD E9) :: byA (mby E9) :: imm bx (.cells #[.pointer (some ⟨g, 0, none⟩)] 30 (0, 0)) :: J [] :: (F.set k emp)) := H13
 refine r_cons (s_load (.map (some m5)) ag_60 rfl (H16.blk_at (i := 0) rfl) rfl rfl ?_)
 refine r_cons (s_call [.map (some m5)] pl_52 rfl rfl (Keys_V m5 H16) ?_)
 rintro _ w18 ⟨bk17, rfl, H19⟩
 refine r_cons (s_call [.func (.func 63) #[] #[.pointer (some ⟨bk17, 0, none⟩)]] pl_51 rfl rfl (Sorted_V bk17 m5 E9 (kys E9) rfl (i := 0) rfl (j := 4) rfl (by have h8 := he15; show (kys _).length * 8 ≤ _; unfold kys; rw [List.length_map]; omega) H19) ?_)
 rintro _ w22 ⟨pp20, cc21, rfl, H23⟩
 refine r_cons (s_len ((kys E9).length) rfl ⟨_, un_94⟩ rfl ?_)
 refine r_cons (s_move (.int .i64 0) rfl rfl ?_)
 refine r_nil ?_
 refine g_block ?_
 have H24 : St W w22 (Im 1 (.slice pp20 ((sortI (kys E9)).length) cc21) ((sortI (kys E9)).length) ((sortI (kys E9)).flatMap i64c) :: imm bk17 (.cells #[.map (some m5)] 60 (0, 0)) :: blk g (lkC s m5 (.slice pp6 L8.length cc7)) :: Row 79 3 (.slice pp6 L8.length cc7) L8.length (L8.flatMap bodCell) :: byA (L8.map BodD.by) :: MapA m5 (ents (kI .i64) evD E9) :: byA (mby E9) :: imm bx (.cells #[.pointer (some ⟨g, 0, none⟩)] 30 (0, 0)) :: J [] :: (F.set k emp)) := by rw [sortI_len]; exact H23
 obtain ⟨pA25, cA26, gA27, oA28, kA29, eA30, zA31, he37, hn32, hp33, hx34, hs35, hml, H36⟩ := Im.open_ H24 (i := 0) rfl
 obtain ⟨rfl, rfl⟩ : pp20 = pA25 ∧ cc21 = cA26 := by injection he37 with a_ b_ c_; exact ⟨a_, c_⟩
 have hkl : (kys E9).length = E9.length := List.length_map _
 have hsl : (sortI (kys E9)).length = (kys E9).length := sortI_len _
 have hhl := sH_len s.held
 have H38 : St W w22 (J [] :: imi (0 < (sortI (kys E9)).length) gA27 (.cells kA29 eA30 zA31) :: Im 1 (.slice pp20 ((sortI (kys E9)).length) cc21) ((sortI (kys E9)).length) ((sortI (kys E9)).flatMap i64c) :: imm bk17 (.cells #[.map (some m5)] 60 (0, 0)) :: blk g (lkC s m5 (.slice pp6 L8.length cc7)) :: Row 79 3 (.slice pp6 L8.length cc7) L8.length (L8.flatMap bodCell) :: byA (L8.map BodD.by) :: MapA m5 (ents (kI .i64) evD E9) :: byA (mby E9) :: imm bx (.cells #[.pointer (some ⟨g, 0, none⟩)] 30 (0, 0)) :: (F.set k emp)) := (H36.move 9 rfl)
 refine g_loop_inv (fun (x_ : Nat × (List (I64 × BytesD))) => match x_ with | (j, pre) => [(0, .func (.yield l) #[] #[]), (1, .pointer (some ⟨bx, 0, none⟩)), (12, .slice pp20 ((kys E9).length) cc21), (13, .int .i64 ((kys E9).length : Int)), (14, .int .i64 (j : Int))]) (fun (x_ : Nat × (List (I64 × BytesD))) w => match x_ with | (j, pre) => (j ≤ (kys E9).length) ∧ (mapB pre = (sH s.held).take j) ∧ St W w (J pre :: imi (0 < (sortI (kys E9)).length) gA27 (.cells kA29 eA30 zA31) :: Im 1 (.slice pp20 ((sortI (kys E9)).length) cc21) ((sortI (kys E9)).length) ((sortI (kys E9)).flatMap i64c) :: imm bk17 (.cells #[.map (some m5)] 60 (0, 0)) :: blk g (lkC s m5 (.slice pp6 L8.length cc7)) :: Row 79 3 (.slice pp6 L8.length cc7) L8.length (L8.flatMap bodCell) :: byA (L8.map BodD.by) :: MapA m5 (ents (kI .i64) evD E9) :: byA (mby E9) :: imm bx (.cells #[.pointer (some ⟨g, 0, none⟩)] 30 (0, 0)) :: (F.set k emp))) (fun (x_ : Nat × (List (I64 × BytesD))) => match x_ with | (j, pre) => (kys E9).length - j) (0, []) ?_ ?_ ?_
 ·exact ⟨by first | rfl | exact vint (by omega), by first | rfl | exact vint (by omega), by first | rfl | exact vint (by omega), by first | rfl | exact vint (by omega), by first | rfl | exact vint (by omega), trivial⟩
 ·exact ⟨(by omega), rfl, H38⟩
 ·rintro ⟨j, pre⟩ ρ39 w40 ⟨hjn, hpj, H41⟩ nx42
  change Ends _ _ (upds ρ39 [(0, .func (.yield l) #[] #[]), (1, .pointer (some ⟨bx, 0, none⟩)), (12, .slice pp20 ((kys E9).length) cc21), (13, .int .i64 ((kys E9).length : Int)), (14, .int .i64 (j : Int))]) w40
  refine g_seq ?_
  refine g_region ?_
  by_cases hc43 : (j : Int) < ((kys E9).length : Int)
  ·skip
   refine r_cons (s_lss true rfl rfl (dtrue hc43) rfl ?_)
   refine r_nil ?_
   refine g_seq ?_
   refine g_true rfl ?_
   refine g_skip ?_
   refine g_seq ?_
   refine g_block ?_
   refine g_seq ?_
   refine g_region ?_
   refine r_cons (s_indexAddr gA27 (off := oA28) (j : Int) 1 (oA28 + j * 1) (by exact congrArg (fun z_ => Value.slice z_ ((kys E9).length) cc21) (hp33 (by omega))) rfl el_94 (by omega) rfl rfl ?_)
   refine r_cons (s_load (.int .i64 (((sortI (kys E9)).getD j default).v)) ag_2 rfl (H41.imi_at (i := 1) rfl (by omega)) (elem_cell (L := (sortI (kys E9))) (i := j) i64c_len (hx34 (by omega)) (by omega) default 0 (by decide) _ rfl) rfl ?_)
   refine r_cons (s_assign (.int .i64 (((sortI (kys E9)).getD j default).v)) rfl rfl ?_)
   refine r_nil ?_
   refine g_seq ?_
   refine g_region ?_
   obtain ⟨x9, hx9, hs9, hm9⟩ := held_at hE11 (j := j) (by omega)
   have hb9 := hv.sm _ hm9; simp only at hb9
   have H44 : St W w40 (Im 1 (.slice x9.p x9.data.length x9.c) x9.data.length (x9.data.flatMap u8c) :: J pre :: imi (0 < (sortI (kys E9)).length) gA27 (.cells kA29 eA30 zA31) :: Im 1 (.slice pp20 ((sortI (kys E9)).length) cc21) ((sortI (kys E9)).length) ((sortI (kys E9)).flatMap i64c) :: imm bk17 (.cells #[.map (some m5)] 60 (0, 0)) :: blk g (lkC s m5 (.slice pp6 L8.length cc7)) :: Row 79 3 (.slice pp6 L8.length cc7) L8.length (L8.flatMap bodCell) :: byA (L8.map BodD.by) :: MapA m5 (ents (kI .i64) evD E9) :: byA (mby E9) :: imm bx (.cells #[.pointer (some ⟨g, 0, none⟩)] 30 (0, 0)) :: (F.set k emp)) := byA_at H41 (i := 8) rfl (mby_get hx9)
   refine r_cons (s_move (.func (.yield l) #[] #[]) rfl rfl ?_)
   refine r_cons (s_move (.int .i64 (((sortI (kys E9)).getD j default).v)) rfl rfl ?_)
   refine r_cons (s_load (.pointer (some ⟨g, 0, none⟩)) ag_30 rfl (H44.imm_at (i := 10) rfl) rfl rfl ?_)
   refine r_cons (s_nilCheck (.pointer (some ⟨g, 0, none⟩)) rfl ⟨_, rfl⟩ rfl ?_)
   refine r_cons (s_fieldAddr 62 5 6 6 60 rfl fi_62_5 rfl rfl ?_)
   refine r_cons (s_load (.map (some m5)) ag_60 rfl (H44.blk_at (i := 5) rfl) rfl rfl ?_)
   refine r_cons (s_move (.int .i64 (((sortI (kys E9)).getD j default).v)) rfl rfl ?_)
   refine r_cons (s_lookup (ek := (kI .i64)) (ev := evD) (L := E9) ((sortI (kys E9)).getD j default) (.slice x9.p x9.data.length x9.c) (MapA.at H44 (i := 8) rfl) (KeyLaw.I un_2) un_60 zv_26 rfl rfl (look_some hx9) rfl ?_)
   refine r_cons (s_call [.slice x9.p x9.data.length x9.c] pl_48 rfl rfl (clone_bytes _ _ x9.data.length (x9.data.flatMap u8c) RdA.im (by first | omega | (have hlp := Nat.le_refl 0; omega)) (j := 0) rfl H44) ?_)
   rintro _ w47 ⟨pp45, cc46, rfl, H48⟩
   have H49 : St W w47 (Im 1 (.slice pp45 x9.data.length cc46) x9.data.length (x9.data.flatMap u8c) :: Im 1 (.slice x9.p x9.data.length x9.c) x9.data.length (x9.data.flatMap u8c) :: J pre :: imi (0 < (sortI (kys E9)).length) gA27 (.cells kA29 eA30 zA31) :: Im 1 (.slice pp20 ((sortI (kys E9)).length) cc21) ((sortI (kys E9)).length) ((sortI (kys E9)).flatMap i64c) :: imm bk17 (.cells #[.map (some m5)] 60 (0, 0)) :: blk g (lkC s m5 (.slice pp6 L8.length cc7)) :: Row 79 3 (.slice pp6 L8.length cc7) L8.length (L8.flatMap bodCell) :: byA (L8.map BodD.by) :: MapA m5 (ents (kI .i64) evD E9) :: byA (mby E9) :: imm bx (.cells #[.pointer (some ⟨g, 0, none⟩)] 30 (0, 0)) :: (F.set k emp)) := Row.im H48 (i := 0) rfl
   have hst9 := held_step (x := (((sortI (kys E9)).getD j default), (⟨x9.data, pp45, cc46⟩ : BytesD))) hpj (by have h8 := he15; omega) hs9
   have H50 : St W w47 (J pre :: Im 1 (.slice pp45 x9.data.length cc46) x9.data.length (x9.data.flatMap u8c) :: Im 1 (.slice x9.p x9.data.length x9.c) x9.data.length (x9.data.flatMap u8c) :: imi (0 < (sortI (kys E9)).length) gA27 (.cells kA29 eA30 zA31) :: Im 1 (.slice pp20 ((sortI (kys E9)).length) cc21) ((sortI (kys E9)).length) ((sortI (kys E9)).flatMap i64c) :: imm bk17 (.cells #[.map (some m5)] 60 (0, 0)) :: blk g (lkC s m5 (.slice pp6 L8.length cc7)) :: Row 79 3 (.slice pp6 L8.length cc7) L8.length (L8.flatMap bodCell) :: byA (L8.map BodD.by) :: MapA m5 (ents (kI .i64) evD E9) :: byA (mby E9) :: imm bx (.cells #[.pointer (some ⟨g, 0, none⟩)] 30 (0, 0)) :: (F.set k emp)) := (H49.move 2 rfl)
   refine r_cons (s_yield l [.int .i64 (((sortI (kys E9)).getD j default).v), .slice pp45 x9.data.length cc46] rfl rfl rfl (hY _ _ pre (((sortI (kys E9)).getD j default), (⟨x9.data, pp45, cc46⟩ : BytesD)) hst9.2 H50) ?_)
   rintro _ w51 (⟨rfl, H52⟩ | ⟨rfl, H52⟩)
   ·skip
    have H53 : St W w51 (J (pre ++ [(((sortI (kys E9)).getD j default), (⟨x9.data, pp45, cc46⟩ : BytesD))]) :: Im 1 (.slice x9.p x9.data.length x9.c) x9.data.length (x9.data.flatMap u8c) :: imi (0 < (sortI (kys E9)).length) gA27 (.cells kA29 eA30 zA31) :: Im 1 (.slice pp20 ((sortI (kys E9)).length) cc21) ((sortI (kys E9)).length) ((sortI (kys E9)).flatMap i64c) :: imm bk17 (.cells #[.map (some m5)] 60 (0, 0)) :: blk g (lkC s m5 (.slice pp6 L8.length cc7)) :: Row 79 3 (.slice pp6 L8.length cc7) L8.length (L8.flatMap bodCell) :: byA (L8.map BodD.by) :: MapA m5 (ents (kI .i64) evD E9) :: byA (mby E9) :: imm bx (.cells #[.pointer (some ⟨g, 0, none⟩)] 30 (0, 0)) :: (F.set k emp)) := H52
    refine r_cons (s_not true rfl false rfl rfl ?_)
    refine r_nil ?_
    refine g_false rfl ?_
    refine g_skip ?_
    refine g_inBlock ?_
    refine g_region ?_
    refine r_cons (s_add ((j : Int) + 1) rfl rfl (wi64 (by omega)) rfl ?_)
    refine r_cons (s_move (.int .i64 ((j : Int) + 1)) rfl rfl ?_)
    refine r_nil ?_
    have H54 : St W w51 (J (pre ++ [(((sortI (kys E9)).getD j default), (⟨x9.data, pp45, cc46⟩ : BytesD))]) :: imi (0 < (sortI (kys E9)).length) gA27 (.cells kA29 eA30 zA31) :: Im 1 (.slice pp20 ((sortI (kys E9)).length) cc21) ((sortI (kys E9)).length) ((sortI (kys E9)).flatMap i64c) :: imm bk17 (.cells #[.map (some m5)] 60 (0, 0)) :: blk g (lkC s m5 (.slice pp6 L8.length cc7)) :: Row 79 3 (.slice pp6 L8.length cc7) L8.length (L8.flatMap bodCell) :: byA (L8.map BodD.by) :: MapA m5 (ents (kI .i64) evD E9) :: byA (mby E9) :: imm bx (.cells #[.pointer (some ⟨g, 0, none⟩)] 30 (0, 0)) :: (F.set k emp)) := (((((((((((H53.move 10 rfl).move 10 rfl).move 10 rfl).move 10 rfl).move 10 rfl).move 10 rfl).move 10 rfl).move 10 rfl).move 10 rfl).move 9 rfl).drop 10 rfl)
    exact nx42 (j + 1, (pre ++ [(((sortI (kys E9)).getD j default), (⟨x9.data, pp45, cc46⟩ : BytesD))])) _ _ ⟨(by omega), hst9.1, H54⟩ (by first | (dsimp only; omega) | omega) ⟨by first | rfl | exact vint (by omega), by first | rfl | exact vint (by omega), by first | rfl | exact vint (by omega), by first | rfl | exact vint (by omega), by first | rfl | exact vint (by omega), trivial⟩
   ·skip
    have H55 : St W w51 (Jx (pre ++ [(((sortI (kys E9)).getD j default), (⟨x9.data, pp45, cc46⟩ : BytesD))]) :: Im 1 (.slice x9.p x9.data.length x9.c) x9.data.length (x9.data.flatMap u8c) :: imi (0 < (sortI (kys E9)).length) gA27 (.cells kA29 eA30 zA31) :: Im 1 (.slice pp20 ((sortI (kys E9)).length) cc21) ((sortI (kys E9)).length) ((sortI (kys E9)).flatMap i64c) :: imm bk17 (.cells #[.map (some m5)] 60 (0, 0)) :: blk g (lkC s m5 (.slice pp6 L8.length cc7)) :: Row 79 3 (.slice pp6 L8.length cc7) L8.length (L8.flatMap bodCell) :: byA (L8.map BodD.by) :: MapA m5 (ents (kI .i64) evD E9) :: byA (mby E9) :: imm bx (.cells #[.pointer (some ⟨g, 0, none⟩)] 30 (0, 0)) :: (F.set k emp)) := H52
    refine r_cons (s_not false rfl true rfl rfl ?_)
    refine r_nil ?_
    refine g_true rfl ?_
    refine g_ret' [] Try.func50 Try.results50 trivial ?_
    have H56 : St W w51 (blk g (lkC s m5 (.slice pp6 L8.length cc7)) :: Row 79 3 (.slice pp6 L8.length cc7) L8.length (L8.flatMap bodCell) :: byA (L8.map BodD.by) :: MapA m5 (ents (kI .i64) evD E9) :: byA (mby E9) :: Jx (pre ++ [(((sortI (kys E9)).getD j default), (⟨x9.data, pp45, cc46⟩ : BytesD))]) :: Im 1 (.slice x9.p x9.data.length x9.c) x9.data.length (x9.data.flatMap u8c) :: imi (0 < (sortI (kys E9)).length) gA27 (.cells kA29 eA30 zA31) :: Im 1 (.slice pp20 ((sortI (kys E9)).length) cc21) ((sortI (kys E9)).length) ((sortI (kys E9)).flatMap i64c) :: imm bk17 (.cells #[.map (some m5)] 60 (0, 0)) :: imm bx (.cells #[.pointer (some ⟨g, 0, none⟩)] 30 (0, 0)) :: (F.set k emp)) := (((((H55.move 9 rfl).move 9 rfl).move 9 rfl).move 9 rfl).move 9 rfl)
    have H57 : St W w51 (LkA g s :: Jx (pre ++ [(((sortI (kys E9)).getD j default), (⟨x9.data, pp45, cc46⟩ : BytesD))]) :: Im 1 (.slice x9.p x9.data.length x9.c) x9.data.length (x9.data.flatMap u8c) :: imi (0 < (sortI (kys E9)).length) gA27 (.cells kA29 eA30 zA31) :: Im 1 (.slice pp20 ((sortI (kys E9)).length) cc21) ((sortI (kys E9)).length) ((sortI (kys E9)).flatMap i64c) :: imm bk17 (.cells #[.map (some m5)] 60 (0, 0)) :: imm bx (.cells #[.pointer (some ⟨g, 0, none⟩)] 30 (0, 0)) :: (F.set k emp)) := St.shut_ex ⟨(m5, pp6, cc7, L8, E9), hL10, hE11⟩ (St.shut_star (ls := [_, _, _, _, _]) H56)
    have H58 : St W w51 (LkA g s :: Jx (pre ++ [(((sortI (kys E9)).getD j default), (⟨x9.data, pp45, cc46⟩ : BytesD))]) :: (F.set k emp)) := (((((((H57.move 1 rfl).move 1 rfl).drop 2 rfl).drop 2 rfl).drop 2 rfl).drop 2 rfl).drop 2 rfl)
    have H59 : St W w51 (LkA g s :: (Jx (pre ++ [(((sortI (kys E9)).getD j default), (⟨x9.data, pp45, cc46⟩ : BytesD))]) :: F).set (k + 1) emp) := H58
    exact ⟨_, .inr ⟨hst9.2, St.back_same (i := k + 1) (by exact hk) H59⟩⟩
  ·skip
   refine r_cons (s_lss false rfl rfl (dfalse hc43) rfl ?_)
   refine r_nil ?_
   refine g_seq ?_
   refine g_false rfl ?_
   refine g_exit (by rfl) ?_
   refine g_end' [] Try.func50 Try.results50 trivial ?_
   have H60 : St W w40 (blk g (lkC s m5 (.slice pp6 L8.length cc7)) :: Row 79 3 (.slice pp6 L8.length cc7) L8.length (L8.flatMap bodCell) :: byA (L8.map BodD.by) :: MapA m5 (ents (kI .i64) evD E9) :: byA (mby E9) :: J pre :: imi (0 < (sortI (kys E9)).length) gA27 (.cells kA29 eA30 zA31) :: Im 1 (.slice pp20 ((sortI (kys E9)).length) cc21) ((sortI (kys E9)).length) ((sortI (kys E9)).flatMap i64c) :: imm bk17 (.cells #[.map (some m5)] 60 (0, 0)) :: imm bx (.cells #[.pointer (some ⟨g, 0, none⟩)] 30 (0, 0)) :: (F.set k emp)) := (((((H41.move 8 rfl).move 8 rfl).move 8 rfl).move 8 rfl).move 8 rfl)
   have H61 : St W w40 (LkA g s :: J pre :: imi (0 < (sortI (kys E9)).length) gA27 (.cells kA29 eA30 zA31) :: Im 1 (.slice pp20 ((sortI (kys E9)).length) cc21) ((sortI (kys E9)).length) ((sortI (kys E9)).flatMap i64c) :: imm bk17 (.cells #[.map (some m5)] 60 (0, 0)) :: imm bx (.cells #[.pointer (some ⟨g, 0, none⟩)] 30 (0, 0)) :: (F.set k emp)) := St.shut_ex ⟨(m5, pp6, cc7, L8, E9), hL10, hE11⟩ (St.shut_star (ls := [_, _, _, _, _]) H60)
   have H62 : St W w40 (LkA g s :: J pre :: (F.set k emp)) := ((((((H61.move 1 rfl).move 1 rfl).drop 2 rfl).drop 2 rfl).drop 2 rfl).drop 2 rfl)
   have H63 : St W w40 (LkA g s :: (J pre :: F).set (k + 1) emp) := H62
   have hje : (sH s.held).length ≤ j := by have h8 := he15; omega
   exact ⟨_, .inl ⟨by rw [hpj, List.take_of_length_le hje], St.back_same (i := k + 1) (by exact hk) H63⟩⟩
set_option maxHeartbeats 4000000 in
set_option maxRecDepth 100000 in
theorem held_0 {W w : World} {F : List Atom} (g bx g2 : Nat) (s : EndV) (hv : LInv s) (hN0 : s.held.length * 8 ≤ 140737488355328) (H : St W w (LkA g s :: RfA g2 s :: imm bx (.cells #[.pointer (some ⟨g, 0, none⟩)] 30 (0, 0)) :: F)) : Calls Try.prog 45 #[.func (.func 50) #[] #[.pointer (some ⟨bx, 0, none⟩)], .pointer (some ⟨g2, 0, none⟩), .int .i64 0] w (Ret fun v w' => v = .bool true ∧ St W w' (LkA g s :: RfA g2 s :: F)) := by
 obtain ⟨o1, o2, o3, o4, o5, o6, o8⟩ := id hv.ok
 refine calls_of_go (n := 57) Try.func45 rfl Try.ntmps45 rfl ?_
 refine g_seq ?_
 refine g_region ?_
 refine r_cons (s_box H 51 (.pointer (some ⟨g2, 0, none⟩)) rfl (cs := #[.pointer (some ⟨g2, 0, none⟩)]) rfl rfl ?_); intro bk1 w2 H3
 refine r_cons (s_box H3 3 (.int .i64 0) rfl (cs := #[.int .i64 0]) rfl rfl ?_); intro bk4 w5 H6
 refine r_cons (s_alloc H6 4 ze_4 rfl ?_); intro bk7 w8 H9
 refine r_nil ?_
 refine g_seq ?_
 refine g_region ?_
 refine r_cons (s_alloc H9 3 ze_3 rfl ?_); intro bk10 w11 H12
 refine r_cons (s_store H12 0 (.int .i64 0) rfl rfl rfl sz_3 rfl (nbl rfl) rfl (cs' := #[.int .i64 0]) rfl ?_); intro w13 H14
 refine r_nil ?_
 refine g_seq ?_
 refine g_seq ?_
 refine g_region ?_
 refine r_cons (s_move (.func (.func 50) #[] #[.pointer (some ⟨bx, 0, none⟩)]) rfl rfl ?_)
 refine r_nil ?_
 refine g_block ?_
 have H15 : St W w13 (blk bk10 (.cells #[.int .i64 0] 3 (0, 0)) :: blk bk7 (.cells #[.bool false] 4 (0, 0)) :: blk bk4 (.cells #[.int .i64 0] 3 (0, 0)) :: blk bk1 (.cells #[.pointer (some ⟨g2, 0, none⟩)] 51 (0, 0)) :: RfA g2 s :: LkA g s :: imm bx (.cells #[.pointer (some ⟨g, 0, none⟩)] 30 (0, 0)) :: F) := (((((H14.move 5 rfl).move 4 rfl).move 4 rfl).move 4 rfl).move 4 rfl)
 have H16 : St W w13 (star [pure' (True), blk bk10 (.cells #[.int .i64 (([] : List (I64 × BytesD)).length : Int)] 3 (0, 0)), blk bk7 (.cells #[.bool false] 4 (0, 0)), blk bk4 (.cells #[.int .i64 0] 3 (0, 0)), blk bk1 (.cells #[.pointer (some ⟨g2, 0, none⟩)] 51 (0, 0)), RfA g2 s] :: LkA g s :: imm bx (.cells #[.pointer (some ⟨g, 0, none⟩)] 30 (0, 0)) :: F) := St.shut_star (ls := [pure' (True), _, _, _, _, _]) (St.shut_pure trivial H15)
 refine g_range2 (W := W) (F := LkA g s :: imm bx (.cells #[.pointer (some ⟨g, 0, none⟩)] 30 (0, 0)) :: F) 50 [.pointer (some ⟨bx, 0, none⟩)] rfl rfl pl_50 (fun x_ : I64 × BytesD => .int .i64 x_.1.v) (fun x_ : I64 × BytesD => .slice x_.2.p x_.2.data.length x_.2.c) rfl rfl (fun x_ : I64 × BytesD => Im 1 (.slice x_.2.p x_.2.data.length x_.2.c) x_.2.data.length (x_.2.data.flatMap u8c)) (fun pre_ => star [pure' (True), blk bk10 (.cells #[.int .i64 (pre_.length : Int)] 3 (0, 0)), blk bk7 (.cells #[.bool false] 4 (0, 0)), blk bk4 (.cells #[.int .i64 0] 3 (0, 0)), blk bk1 (.cells #[.pointer (some ⟨g2, 0, none⟩)] 51 (0, 0)), RfA g2 s]) (fun c_ pre_ => star [pure' (False), blk bk7 (.cells #[.bool true] 4 (0, 0)), RfA g2 s]) (fun pre_ x_ => mapB (pre_ ++ [x_]) <+: sH s.held) (fun L_ => mapB L_ = sH s.held) (fun L_ => mapB L_ <+: sH s.held) H16 ?_ ?_ ?_ ?_
 ·intro l17 r18 w19 G20 pre21 x22 hr23 hr24 hok25 H26
  try dsimp only at hok25 H26
  have H27 : St W w19 (blk l17 (.loop r18) :: star [pure' (True), blk bk10 (.cells #[.int .i64 (pre21.length : Int)] 3 (0, 0)), blk bk7 (.cells #[.bool false] 4 (0, 0)), blk bk4 (.cells #[.int .i64 0] 3 (0, 0)), blk bk1 (.cells #[.pointer (some ⟨g2, 0, none⟩)] 51 (0, 0)), RfA g2 s] :: Im 1 (.slice x22.2.p x22.2.data.length x22.2.c) x22.2.data.length (x22.2.data.flatMap u8c) :: G20) := H26
  have H28 := H27.move 1 rfl
  obtain ⟨hpre29, H30⟩ := St.open_pure (St.open_star H28)
  obtain ⟨n31, hn32⟩ : ∃ n : Nat, n = pre21.length := ⟨_, rfl⟩
  have H33 : St W w19 (blk bk10 (.cells #[.int .i64 (n31 : Int)] 3 (0, 0)) :: blk bk7 (.cells #[.bool false] 4 (0, 0)) :: blk bk4 (.cells #[.int .i64 0] 3 (0, 0)) :: blk bk1 (.cells #[.pointer (some ⟨g2, 0, none⟩)] 51 (0, 0)) :: RfA g2 s :: blk l17 (.loop r18) :: Im 1 (.slice x22.2.p x22.2.data.length x22.2.c) x22.2.data.length (x22.2.data.flatMap u8c) :: G20) := by rw [hn32]; exact H30
  obtain ⟨hx1, hx2⟩ := held_pre hok25
  rw [← hn32] at hx1 hx2; rw [sH_len] at hx1
  have hhl9 : s.held.length ≤ 17592186044416 := by omega
  refine g_seq ?_
  refine g_region ?_
  refine r_cons (s_assign (.int .i64 x22.1.v) rfl rfl ?_)
  refine r_nil ?_
  refine g_region ?_
  refine r_cons (s_assign (.slice x22.2.p x22.2.data.length x22.2.c) rfl rfl ?_)
  refine r_nil ?_
  refine g_beginRound H33 (i := 5) rfl hr23 ?_; intro w34 H35
  have H36 : St W w34 (blk bk10 (.cells #[.int .i64 (n31 : Int)] 3 (0, 0)) :: blk bk7 (.cells #[.bool false] 4 (0, 0)) :: blk bk4 (.cells #[.int .i64 0] 3 (0, 0)) :: blk bk1 (.cells #[.pointer (some ⟨g2, 0, none⟩)] 51 (0, 0)) :: RfA g2 s :: blk l17 (.loop { r18 with state := .busy }) :: Im 1 (.slice x22.2.p x22.2.data.length x22.2.c) x22.2.data.length (x22.2.data.flatMap u8c) :: G20) := H35
  refine g_block ?_
  refine g_seq ?_
  refine g_seq ?_
  have H37 := H36.move 4 rfl
  obtain ⟨⟨⟨pp38, cc39, L40, pp41, cc42, E43, A44⟩, hL45, hA46, hH47⟩, H48⟩ := St.open_ex H37
  have H49 := St.open_star H48
  change L40.map BodD.v = A44 ++ s.l at hL45; change A44.length = s.acked at hA46; change HR s.held (mapB E43) at hH47
  have hl50 := refLen hL45 hA46; have hh51 : E43.length = s.held.length := by have h9 := hH47.len; rw [mapB_len rfl] at h9; exact h9
  have H52 : St W w34 (blk g2 (rfC s (.slice pp38 L40.length cc39) (.slice pp41 E43.length cc42)) :: Row 101 3 (.slice pp38 L40.length cc39) L40.length (L40.flatMap bodCell) :: byA (L40.map BodD.by) :: Row 105 2 (.slice pp41 E43.length cc42) E43.length (E43.flatMap hlCell) :: byA (mby E43) :: blk bk10 (.cells #[.int .i64 (n31 : Int)] 3 (0, 0)) :: blk bk7 (.cells #[.bool false] 4 (0, 0)) :: blk bk4 (.cells #[.int .i64 0] 3 (0, 0)) :: blk bk1 (.cells #[.pointer (some ⟨g2, 0, none⟩)] 51 (0, 0)) :: blk l17 (.loop { r18 with state := .busy }) :: Im 1 (.slice x22.2.p x22.2.data.length x22.2.c) x22.2.data.length (x22.2.data.flatMap u8c) :: G20) := H49
  have hn9 : n31 < E43.length := by rw [hh51]; exact hx1
  rw [← hH47.eq, mapB_at] at hx2; have hx3 := congrArg (·.1) hx2; have hx4 := congrArg (·.2) hx2; simp only at hx3 hx4
  have H53 : St W w34 (Im 1 (.slice ((E43.getD n31 default).2.p) ((E43.getD n31 default).2.data.length) ((E43.getD n31 default).2.c)) (((E43.getD n31 default).2.data).length) (((E43.getD n31 default).2.data).flatMap u8c) :: blk g2 (rfC s (.slice pp38 L40.length cc39) (.slice pp41 E43.length cc42)) :: Row 101 3 (.slice pp38 L40.length cc39) L40.length (L40.flatMap bodCell) :: byA (L40.map BodD.by) :: Row 105 2 (.slice pp41 E43.length cc42) E43.length (E43.flatMap hlCell) :: byA (mby E43) :: blk bk10 (.cells #[.int .i64 (n31 : Int)] 3 (0, 0)) :: blk bk7 (.cells #[.bool false] 4 (0, 0)) :: blk bk4 (.cells #[.int .i64 0] 3 (0, 0)) :: blk bk1 (.cells #[.pointer (some ⟨g2, 0, none⟩)] 51 (0, 0)) :: blk l17 (.loop { r18 with state := .busy }) :: Im 1 (.slice x22.2.p x22.2.data.length x22.2.c) x22.2.data.length (x22.2.data.flatMap u8c) :: G20) := byA_at H52 (i := 4) rfl (mby_at hn9)
  obtain ⟨bk54, cur55, hp56, h57, h58, h59, h60, h61, H62⟩ := Row.open2 H53 (i := 4) rfl (by omega)
  have hq9 : decide (x22.2.data = (E43.getD n31 default).2.data) = true := decide_eq_true hx4.symm
  refine g_quiet (fun w' => St W w' (Im 1 (.slice ((E43.getD n31 default).2.p) ((E43.getD n31 default).2.data.length) ((E43.getD n31 default).2.c)) (((E43.getD n31 default).2.data).length) (((E43.getD n31 default).2.data).flatMap u8c) :: blk g2 (rfC s (.slice pp38 L40.length cc39) (.slice pp41 E43.length cc42)) :: Row 101 3 (.slice pp38 L40.length cc39) L40.length (L40.flatMap bodCell) :: byA (L40.map BodD.by) :: blk bk54 (.cells cur55 105 (0, 0)) :: byA (mby E43) :: blk bk10 (.cells #[.int .i64 (n31 : Int)] 3 (0, 0)) :: blk bk7 (.cells #[.bool false] 4 (0, 0)) :: blk bk4 (.cells #[.int .i64 0] 3 (0, 0)) :: blk bk1 (.cells #[.pointer (some ⟨g2, 0, none⟩)] 51 (0, 0)) :: blk l17 (.loop { r18 with state := .busy }) :: Im 1 (.slice x22.2.p x22.2.data.length x22.2.c) x22.2.data.length (x22.2.data.flatMap u8c) :: G20)) mixed (by kernel_rfl) H62.drew ?_
  refine q_cons (q_val rfl rfl rfl (by intro w hw; exact x_load (.int .i64 (n31 : Int)) ag_3 rfl (hw.blk_at (i := 6) rfl) rfl) ?_)
  refine q_cons (q_val rfl rfl rfl (by intro w hw; exact x_load (.pointer (some ⟨g2, 0, none⟩)) ag_51 rfl (hw.blk_at (i := 9) rfl) rfl) ?_)
  refine q_cons (q_val rfl rfl rfl (by intro w hw; exact x_nilCheck (.pointer (some ⟨g2, 0, none⟩)) rfl ⟨_, rfl⟩ w) ?_)
  refine q_cons (q_val rfl rfl rfl (by intro w hw; exact x_fieldAddr 86 5 6 6 84 rfl fi_86_5 rfl w) ?_)
  refine q_cons (q_val rfl rfl rfl (by intro w hw; exact x_load (.slice pp41 E43.length cc42) ag_84 rfl (hw.blk_at (i := 1) rfl) rfl) ?_)
  refine q_cons (q_val rfl rfl rfl (by intro w hw; exact x_len E43.length rfl ⟨_, un_84⟩ w) ?_)
  refine q_cons (q_val rfl rfl rfl (by intro w hw; exact x_geq false rfl rfl (dfalse (by omega)) w) ?_)
  refine q_cons (q_val rfl rfl rfl (by intro w hw; exact x_move (.bool false) rfl w) ?_)
  refine q_cons (q_take rfl rfl ?_)
  refine q_val rfl rfl rfl (by intro w hw; exact x_move (.int .i64 x22.1.v) rfl w) ?_
  refine q_cons (q_take rfl rfl ?_)
  refine q_val rfl rfl rfl (by intro w hw; exact x_load (.pointer (some ⟨g2, 0, none⟩)) ag_51 rfl (hw.blk_at (i := 9) rfl) rfl) ?_
  refine q_cons (q_take rfl rfl ?_)
  refine q_val rfl rfl rfl (by intro w hw; exact x_nilCheck (.pointer (some ⟨g2, 0, none⟩)) rfl ⟨_, rfl⟩ w) ?_
  refine q_cons (q_take rfl rfl ?_)
  refine q_val rfl rfl rfl (by intro w hw; exact x_fieldAddr 86 5 6 6 84 rfl fi_86_5 rfl w) ?_
  refine q_cons (q_take rfl rfl ?_)
  refine q_val rfl rfl rfl (by intro w hw; exact x_load (.slice pp41 E43.length cc42) ag_84 rfl (hw.blk_at (i := 1) rfl) rfl) ?_
  refine q_cons (q_take rfl rfl ?_)
  refine q_val rfl rfl rfl (by intro w hw; exact x_load (.int .i64 (n31 : Int)) ag_3 rfl (hw.blk_at (i := 6) rfl) rfl) ?_
  refine q_cons (q_take rfl rfl ?_)
  refine q_val rfl rfl rfl (by intro w hw; exact x_indexAddr bk54 (off := 0) (n31 : Int) 2 (0 + n31 * 2) (by exact congrArg (fun z_ => Value.slice z_ E43.length cc42) ((fun (_ : 0 < 1) => hp56) (by omega))) rfl el_84 (by omega) rfl w) ?_
  refine q_cons (q_take rfl rfl ?_)
  refine q_val rfl rfl rfl (by intro w hw; exact x_fieldAddr 105 0 0 (0 + n31 * 2) 2 rfl fi_105_0 rfl w) ?_
  refine q_cons (q_take rfl rfl ?_)
  refine q_val rfl rfl rfl (by intro w hw; exact x_load (.int .i64 ((E43.getD n31 default).1.v)) ag_2 rfl (hw.blk_at (i := 4) rfl) (elem_cell (L := E43) (i := n31) hlCell_len (by rw [(rfl : E43.length = E43.length)]; exact h60) (by have hh : E43.length = E43.length := (rfl : E43.length = E43.length); omega) default 0 (by decide) _ rfl)) ?_
  refine q_cons (q_take rfl rfl ?_)
  refine q_val rfl rfl rfl (by intro w hw; exact x_neq false rfl rfl (ntrue (by rw [hx3])) w) ?_
  refine q_cons (q_val rfl rfl rfl (by intro w hw; exact x_pick_f (.bool false) rfl rfl w) ?_)
  refine q_cons (q_val rfl rfl rfl (by intro w hw; exact x_move (.bool false) rfl w) ?_)
  refine q_cons (q_take rfl rfl ?_)
  refine q_val rfl rfl rfl (by intro w hw; exact x_move (.slice x22.2.p x22.2.data.length x22.2.c) rfl w) ?_
  refine q_cons (q_take rfl rfl ?_)
  refine q_val rfl rfl rfl (by intro w hw; exact x_load (.pointer (some ⟨g2, 0, none⟩)) ag_51 rfl (hw.blk_at (i := 9) rfl) rfl) ?_
  refine q_cons (q_take rfl rfl ?_)
  refine q_val rfl rfl rfl (by intro w hw; exact x_nilCheck (.pointer (some ⟨g2, 0, none⟩)) rfl ⟨_, rfl⟩ w) ?_
  refine q_cons (q_take rfl rfl ?_)
  refine q_val rfl rfl rfl (by intro w hw; exact x_fieldAddr 86 5 6 6 84 rfl fi_86_5 rfl w) ?_
  refine q_cons (q_take rfl rfl ?_)
  refine q_val rfl rfl rfl (by intro w hw; exact x_load (.slice pp41 E43.length cc42) ag_84 rfl (hw.blk_at (i := 1) rfl) rfl) ?_
  refine q_cons (q_take rfl rfl ?_)
  refine q_val rfl rfl rfl (by intro w hw; exact x_load (.int .i64 (n31 : Int)) ag_3 rfl (hw.blk_at (i := 6) rfl) rfl) ?_
  refine q_cons (q_take rfl rfl ?_)
  refine q_val rfl rfl rfl (by intro w hw; exact x_indexAddr bk54 (off := 0) (n31 : Int) 2 (0 + n31 * 2) (by exact congrArg (fun z_ => Value.slice z_ E43.length cc42) ((fun (_ : 0 < 1) => hp56) (by omega))) rfl el_84 (by omega) rfl w) ?_
  refine q_cons (q_take rfl rfl ?_)
  refine q_val rfl rfl rfl (by intro w hw; exact x_fieldAddr 105 1 1 (0 + n31 * 2 + 1) 26 rfl fi_105_1 rfl w) ?_
  refine q_cons (q_take rfl rfl ?_)
  refine q_val rfl rfl rfl (by intro w hw; exact x_load (.slice ((E43.getD n31 default).2.p) ((E43.getD n31 default).2.data.length) ((E43.getD n31 default).2.c)) ag_26 rfl (hw.blk_at (i := 4) rfl) (elem_cell (L := E43) (i := n31) hlCell_len (by rw [(rfl : E43.length = E43.length)]; exact h60) (by have hh : E43.length = E43.length := (rfl : E43.length = E43.length); omega) default 1 (by decide) _ rfl)) ?_
  refine q_cons (q_take rfl rfl ?_)
  refine q_enter (args := #[.slice x22.2.p x22.2.data.length x22.2.c, .slice ((E43.getD n31 default).2.p) ((E43.getD n31 default).2.data.length) ((E43.getD n31 default).2.c)]) (v := .bool (decide (x22.2.data = ((E43.getD n31 default).2.data)))) rfl rfl rfl (x_call pl_34 [.slice x22.2.p x22.2.data.length x22.2.c, .slice ((E43.getD n31 default).2.p) ((E43.getD n31 default).2.data.length) ((E43.getD n31 default).2.c)] rfl) (fun w hw => bytes_Equal _ _ _ _ _ _ x22.2.data ((E43.getD n31 default).2.data) RdA.im RdA.im (j := 11) rfl (k := 0) rfl hw) ?_
  refine q_cons (q_take rfl rfl ?_)
  refine q_val rfl rfl rfl (by intro w hw; exact x_not (decide (x22.2.data = ((E43.getD n31 default).2.data))) rfl false (by rw [hq9]; rfl) w) ?_
  refine q_cons (q_val rfl rfl rfl (by intro w hw; exact x_pick_f (.bool false) rfl rfl w) ?_)
  refine q_nil ?_
  intro w63 H64
  refine g_false rfl ?_
  refine g_skip ?_
  refine g_seq ?_
  refine g_region ?_
  refine r_cons (s_load (.int .i64 (n31 : Int)) ag_3 rfl (H64.blk_at (i := 6) rfl) rfl rfl ?_)
  refine r_cons (s_add ((n31 + 1 : Nat) : Int) rfl rfl ((wi64 (by omega)).trans (by omega)) rfl ?_)
  refine r_cons (s_store H64 6 (.int .i64 ((n31 + 1 : Nat) : Int)) rfl rfl rfl sz_3 rfl (nbl rfl) rfl (cs' := #[.int .i64 ((n31 + 1 : Nat) : Int)]) rfl ?_); intro w65 H66
  refine r_nil ?_
  refine g_seq ?_
  refine g_region ?_
  refine r_cons (s_load (.int .i64 ((n31 + 1 : Nat) : Int)) ag_3 rfl (H66.blk_at (i := 6) rfl) rfl rfl ?_)
  refine r_cons (s_load (.int .i64 0) ag_3 rfl (H66.blk_at (i := 8) rfl) rfl rfl ?_)
  refine r_cons (s_eql false rfl rfl (dfalse (by omega)) rfl ?_)
  refine r_nil ?_
  refine g_false rfl ?_
  refine g_skip ?_
  refine g_inBlock ?_
  have H67 := Row.shut2 (p := pp41) (n := E43.length) (c := cc42) (size := 2) (xs := E43.flatMap hlCell) H66 (i := 4) rfl hp56 h57 h58 h59 (by have hh : (cur55.toList.drop 0).take (E43.length * 2) = E43.flatMap hlCell := (by rw [(rfl : E43.length = E43.length)]; exact h60); have hk : E43.length = E43.length := (rfl : E43.length = E43.length); rw [hk] at hh; exact hh) (fun x_ hx_ => by obtain ⟨a_, _, ha_⟩ := List.mem_flatMap.1 hx_; exact one_hl a_ x_ ha_)
  have H68 : St W w65 (blk g2 (rfC s (.slice pp38 L40.length cc39) (.slice pp41 E43.length cc42)) :: Row 101 3 (.slice pp38 L40.length cc39) L40.length (L40.flatMap bodCell) :: byA (L40.map BodD.by) :: Row 105 2 (.slice pp41 E43.length cc42) E43.length (E43.flatMap hlCell) :: byA (mby E43) :: Im 1 (.slice ((E43.getD n31 default).2.p) ((E43.getD n31 default).2.data.length) ((E43.getD n31 default).2.c)) (((E43.getD n31 default).2.data).length) (((E43.getD n31 default).2.data).flatMap u8c) :: blk bk10 (.cells #[.int .i64 ((n31 + 1 : Nat) : Int)] 3 (0, 0)) :: blk bk7 (.cells #[.bool false] 4 (0, 0)) :: blk bk4 (.cells #[.int .i64 0] 3 (0, 0)) :: blk bk1 (.cells #[.pointer (some ⟨g2, 0, none⟩)] 51 (0, 0)) :: blk l17 (.loop { r18 with state := .busy }) :: Im 1 (.slice x22.2.p x22.2.data.length x22.2.c) x22.2.data.length (x22.2.data.flatMap u8c) :: G20) := (((((H67.move 5 rfl).move 5 rfl).move 5 rfl).move 5 rfl).move 5 rfl)
  have H69 : St W w65 (RfA g2 s :: Im 1 (.slice ((E43.getD n31 default).2.p) ((E43.getD n31 default).2.data.length) ((E43.getD n31 default).2.c)) (((E43.getD n31 default).2.data).length) (((E43.getD n31 default).2.data).flatMap u8c) :: blk bk10 (.cells #[.int .i64 ((n31 + 1 : Nat) : Int)] 3 (0, 0)) :: blk bk7 (.cells #[.bool false] 4 (0, 0)) :: blk bk4 (.cells #[.int .i64 0] 3 (0, 0)) :: blk bk1 (.cells #[.pointer (some ⟨g2, 0, none⟩)] 51 (0, 0)) :: blk l17 (.loop { r18 with state := .busy }) :: Im 1 (.slice x22.2.p x22.2.data.length x22.2.c) x22.2.data.length (x22.2.data.flatMap u8c) :: G20) := St.shut_ex ⟨⟨pp38, cc39, L40, pp41, cc42, E43, A44⟩, hL45, hA46, hH47⟩ (St.shut_star (ls := [_, _, _, _, _]) H68)
  have H70 : St W w65 (blk bk10 (.cells #[.int .i64 ((n31 + 1 : Nat) : Int)] 3 (0, 0)) :: blk bk7 (.cells #[.bool false] 4 (0, 0)) :: blk bk4 (.cells #[.int .i64 0] 3 (0, 0)) :: blk bk1 (.cells #[.pointer (some ⟨g2, 0, none⟩)] 51 (0, 0)) :: RfA g2 s :: Im 1 (.slice ((E43.getD n31 default).2.p) ((E43.getD n31 default).2.data.length) ((E43.getD n31 default).2.c)) (((E43.getD n31 default).2.data).length) (((E43.getD n31 default).2.data).flatMap u8c) :: blk l17 (.loop { r18 with state := .busy }) :: Im 1 (.slice x22.2.p x22.2.data.length x22.2.c) x22.2.data.length (x22.2.data.flatMap u8c) :: G20) := ((((H69.move 5 rfl).move 5 rfl).move 5 rfl).move 5 rfl)
  have H71 : St W w65 (blk bk10 (.cells #[.int .i64 ((pre21 ++ [x22]).length : Int)] 3 (0, 0)) :: blk bk7 (.cells #[.bool false] 4 (0, 0)) :: blk bk4 (.cells #[.int .i64 0] 3 (0, 0)) :: blk bk1 (.cells #[.pointer (some ⟨g2, 0, none⟩)] 51 (0, 0)) :: RfA g2 s :: Im 1 (.slice ((E43.getD n31 default).2.p) ((E43.getD n31 default).2.data.length) ((E43.getD n31 default).2.c)) (((E43.getD n31 default).2.data).length) (((E43.getD n31 default).2.data).flatMap u8c) :: blk l17 (.loop { r18 with state := .busy }) :: Im 1 (.slice x22.2.p x22.2.data.length x22.2.c) x22.2.data.length (x22.2.data.flatMap u8c) :: G20) := by rw [show (pre21 ++ [x22]).length = n31 + 1 from by rw [hn32]; simp]; exact H70
  have H72 : St W w65 (star [pure' (True), blk bk10 (.cells #[.int .i64 ((pre21 ++ [x22]).length : Int)] 3 (0, 0)), blk bk7 (.cells #[.bool false] 4 (0, 0)), blk bk4 (.cells #[.int .i64 0] 3 (0, 0)), blk bk1 (.cells #[.pointer (some ⟨g2, 0, none⟩)] 51 (0, 0)), RfA g2 s] :: Im 1 (.slice ((E43.getD n31 default).2.p) ((E43.getD n31 default).2.data.length) ((E43.getD n31 default).2.c)) (((E43.getD n31 default).2.data).length) (((E43.getD n31 default).2.data).flatMap u8c) :: blk l17 (.loop { r18 with state := .busy }) :: Im 1 (.slice x22.2.p x22.2.data.length x22.2.c) x22.2.data.length (x22.2.data.flatMap u8c) :: G20) := St.shut_star (ls := [pure' (True), _, _, _, _, _]) (St.shut_pure trivial H71)
  have H73 : St W w65 (blk l17 (.loop { r18 with state := .busy }) :: star [pure' (True), blk bk10 (.cells #[.int .i64 ((pre21 ++ [x22]).length : Int)] 3 (0, 0)), blk bk7 (.cells #[.bool false] 4 (0, 0)), blk bk4 (.cells #[.int .i64 0] 3 (0, 0)), blk bk1 (.cells #[.pointer (some ⟨g2, 0, none⟩)] 51 (0, 0)), RfA g2 s] :: G20) := (((H72.move 2 rfl).drop 2 rfl).drop 2 rfl)
  refine g_round_end hr23 hr24 H73 (i := 0) rfl ?_; intro w74 H75
  exact .inl ⟨rfl, H75⟩
 ·intro l J Jx B w H hY; exact Held_it g bx l s hv hN0 J Jx (i := 2) rfl (k := 1) rfl hY H
 ·intro D76 L77 w78 hS79 H80
  have H82 : St W w78 (star [pure' (True), blk bk10 (.cells #[.int .i64 (L77.length : Int)] 3 (0, 0)), blk bk7 (.cells #[.bool false] 4 (0, 0)), blk bk4 (.cells #[.int .i64 0] 3 (0, 0)), blk bk1 (.cells #[.pointer (some ⟨g2, 0, none⟩)] 51 (0, 0)), RfA g2 s] :: blk D76 (.deferred (some [])) :: LkA g s :: imm bx (.cells #[.pointer (some ⟨g, 0, none⟩)] 30 (0, 0)) :: F) := H80
  obtain ⟨hpre83, H84⟩ := St.open_pure (St.open_star H82)
  obtain ⟨n85, hn86⟩ : ∃ n : Nat, n = L77.length := ⟨_, rfl⟩
  have H87 : St W w78 (blk bk10 (.cells #[.int .i64 (n85 : Int)] 3 (0, 0)) :: blk bk7 (.cells #[.bool false] 4 (0, 0)) :: blk bk4 (.cells #[.int .i64 0] 3 (0, 0)) :: blk bk1 (.cells #[.pointer (some ⟨g2, 0, none⟩)] 51 (0, 0)) :: RfA g2 s :: blk D76 (.deferred (some [])) :: LkA g s :: imm bx (.cells #[.pointer (some ⟨g, 0, none⟩)] 30 (0, 0)) :: F) := by rw [hn86]; exact H84
  have hend : n85 = s.held.length := by have h8 := congrArg List.length hS79; rw [sH_len, mapB_len rfl] at h8; omega
  refine g_inBlock ?_
  refine g_seq ?_
  have H88 : St W w78 (blk bk10 (.cells #[.int .i64 (n85 : Int)] 3 (0, 0)) :: blk bk4 (.cells #[.int .i64 0] 3 (0, 0)) :: blk bk1 (.cells #[.pointer (some ⟨g2, 0, none⟩)] 51 (0, 0)) :: blk D76 (.deferred (some [])) :: LkA g s :: imm bx (.cells #[.pointer (some ⟨g, 0, none⟩)] 30 (0, 0)) :: blk bk7 (.cells #[.bool false] 4 (0, 0)) :: RfA g2 s :: F) := ((((((((H87.move 4 rfl).move 2 rfl).move 7 rfl).move 7 rfl).move 7 rfl).move 7 rfl).move 7 rfl).move 7 rfl)
  refine g_mix (fun t_ w => St W w (blk bk10 (.cells #[.int .i64 (n85 : Int)] 3 (0, 0)) :: blk bk4 (.cells #[.int .i64 0] 3 (0, 0)) :: blk bk1 (.cells #[.pointer (some ⟨g2, 0, none⟩)] 51 (0, 0)) :: blk D76 (.deferred (some [])) :: LkA g s :: imm bx (.cells #[.pointer (some ⟨g, 0, none⟩)] 30 (0, 0)) :: t_)) (blk bk7 (.cells #[.bool false] 4 (0, 0)) :: RfA g2 s :: F) mixed 8 rfl H88.drew ?_
  refine f_first 0 (listed' := #[true, false, false, false, false, false, false, false]) rfl (by kernel_rfl) (by kernel_rfl) (by kernel_rfl) rfl ?_
  refine f_val rfl rfl rfl (by intro t_ w hw; exact x_load (.int .i64 (n85 : Int)) ag_3 rfl (hw.blk_at (i := 0) rfl) rfl) ?_
  refine f_first 1 (listed' := #[true, true, false, false, false, false, false, false]) rfl (by kernel_rfl) (by kernel_rfl) (by kernel_rfl) rfl ?_
  refine f_val rfl rfl rfl (by intro t_ w hw; exact x_load (.pointer (some ⟨g2, 0, none⟩)) ag_51 rfl (hw.blk_at (i := 2) rfl) rfl) ?_
  refine f_first 2 (listed' := #[true, true, true, false, false, false, false, false]) rfl (by kernel_rfl) (by kernel_rfl) (by kernel_rfl) rfl ?_
  refine f_val rfl rfl rfl (by intro t_ w hw; exact x_nilCheck (.pointer (some ⟨g2, 0, none⟩)) rfl ⟨_, rfl⟩ w) ?_
  refine f_first 3 (listed' := #[true, true, true, true, false, false, false, false]) rfl (by kernel_rfl) (by kernel_rfl) (by kernel_rfl) rfl ?_
  refine f_val rfl rfl rfl (by intro t_ w hw; exact x_fieldAddr 86 5 6 6 84 rfl fi_86_5 rfl w) ?_
  refine f_all (rs := [4]) (by kernel_rfl) (by simp) ?_
  refine a_cons ⟨_, rfl, ?_⟩ (fun x hx => absurd hx (by simp))
  intro w89 H90
  try dsimp only at H90
  have H91 := H90.move 7 rfl
  obtain ⟨⟨⟨pp92, cc93, L94, pp95, cc96, E97, A98⟩, hL99, hA100, hH101⟩, H102⟩ := St.open_ex H91
  have H103 := St.open_star H102
  change L94.map BodD.v = A98 ++ s.l at hL99; change A98.length = s.acked at hA100; change HR s.held (mapB E97) at hH101
  have hl104 := refLen hL99 hA100; have hh105 : E97.length = s.held.length := by have h9 := hH101.len; rw [mapB_len rfl] at h9; exact h9
  have H106 : St W w89 (blk g2 (rfC s (.slice pp92 L94.length cc93) (.slice pp95 E97.length cc96)) :: Row 101 3 (.slice pp92 L94.length cc93) L94.length (L94.flatMap bodCell) :: byA (L94.map BodD.by) :: Row 105 2 (.slice pp95 E97.length cc96) E97.length (E97.flatMap hlCell) :: byA (mby E97) :: blk bk10 (.cells #[.int .i64 (n85 : Int)] 3 (0, 0)) :: blk bk4 (.cells #[.int .i64 0] 3 (0, 0)) :: blk bk1 (.cells #[.pointer (some ⟨g2, 0, none⟩)] 51 (0, 0)) :: blk D76 (.deferred (some [])) :: LkA g s :: imm bx (.cells #[.pointer (some ⟨g, 0, none⟩)] 30 (0, 0)) :: blk bk7 (.cells #[.bool false] 4 (0, 0)) :: F) := H103
  refine s_load (.slice pp95 E97.length cc96) ag_84 rfl (H106.blk_at (i := 0) rfl) rfl rfl ?_
  have H107 : St W w89 (RfA g2 s :: blk bk10 (.cells #[.int .i64 (n85 : Int)] 3 (0, 0)) :: blk bk4 (.cells #[.int .i64 0] 3 (0, 0)) :: blk bk1 (.cells #[.pointer (some ⟨g2, 0, none⟩)] 51 (0, 0)) :: blk D76 (.deferred (some [])) :: LkA g s :: imm bx (.cells #[.pointer (some ⟨g, 0, none⟩)] 30 (0, 0)) :: blk bk7 (.cells #[.bool false] 4 (0, 0)) :: F) := St.shut_ex ⟨⟨pp92, cc93, L94, pp95, cc96, E97, A98⟩, hL99, hA100, hH101⟩ (St.shut_star (ls := [_, _, _, _, _]) H106)
  have H108 : St W w89 (blk bk10 (.cells #[.int .i64 (n85 : Int)] 3 (0, 0)) :: blk bk4 (.cells #[.int .i64 0] 3 (0, 0)) :: blk bk1 (.cells #[.pointer (some ⟨g2, 0, none⟩)] 51 (0, 0)) :: blk D76 (.deferred (some [])) :: LkA g s :: imm bx (.cells #[.pointer (some ⟨g, 0, none⟩)] 30 (0, 0)) :: RfA g2 s :: blk bk7 (.cells #[.bool false] 4 (0, 0)) :: F) := ((((((((H107.move 7 rfl).move 1 rfl).move 7 rfl).move 7 rfl).move 7 rfl).move 7 rfl).move 7 rfl).move 7 rfl)
  refine ⟨RfA g2 s :: blk bk7 (.cells #[.bool false] 4 (0, 0)) :: F, ?_, H108⟩
  change FReg _ _ _ _ _ #[true, true, true, true, true, false, false, false] _ _
  refine f_first 5 (listed' := #[true, true, true, true, true, true, false, false]) rfl (by kernel_rfl) (by kernel_rfl) (by kernel_rfl) rfl ?_
  refine f_val rfl rfl rfl (by intro t_ w hw; exact x_len E97.length rfl ⟨_, un_84⟩ w) ?_
  refine f_first 6 (listed' := #[true, true, true, true, true, true, true, false]) rfl (by kernel_rfl) (by kernel_rfl) (by kernel_rfl) rfl ?_
  refine f_val rfl rfl rfl (by intro t_ w hw; exact x_eql true rfl rfl (dtrue (by omega)) w) ?_
  refine f_all (rs := [7]) (by kernel_rfl) (by simp) ?_
  refine a_cons ⟨_, rfl, ?_⟩ (fun x hx => absurd hx (by simp))
  intro w109 H110
  try dsimp only at H110
  refine s_store H110 7 (.bool true) rfl rfl rfl sz_4 rfl (nbl rfl) rfl (cs' := #[.bool true]) rfl ?_; intro w111 H112
  refine ⟨RfA g2 s :: blk bk7 (.cells #[.bool true] 4 (0, 0)) :: F, ?_, H112⟩
  change FReg _ _ _ _ _ #[true, true, true, true, true, true, true, true] _ _
  refine f_done (by kernel_rfl) ?_
  intro w113 H114
  obtain ⟨hd115, H116⟩ := H114.collect (i := 3) rfl
  refine g_retD _ [.bool true] Try.func45 Try.results45 rfl ⟨hd115, trivial⟩ ⟨(res_cell1 rfl ag_4 (H116.blk_at (i := 6) rfl) rfl), trivial⟩ ?_
  have H117 : St W (w113.putObj D76 (.deferred none)) (LkA g s :: RfA g2 s :: F) := (((((((H116.move 5 rfl).move 4 rfl).drop 2 rfl).drop 2 rfl).drop 2 rfl).drop 2 rfl).drop 2 rfl)
  exact ⟨rfl, H117⟩
 ·intro D118 c123 L119 w120 hS121 H122
  have H124 : St W w120 (star [pure' (False), blk bk7 (.cells #[.bool true] 4 (0, 0)), RfA g2 s] :: blk D118 (.deferred (some [])) :: LkA g s :: imm bx (.cells #[.pointer (some ⟨g, 0, none⟩)] 30 (0, 0)) :: F) := H122
  obtain ⟨hc125, H126⟩ := St.open_pure (St.open_star H124)
  exact hc125.elim
set_option maxHeartbeats 4000000 in
set_option maxRecDepth 100000 in
theorem held_1 {W w : World} {F : List Atom} (g bx g2 : Nat) (s : EndV) (hv : LInv s) (hN0 : s.held.length * 8 ≤ 140737488355328) (H : St W w (LkA g s :: RfA g2 s :: imm bx (.cells #[.pointer (some ⟨g, 0, none⟩)] 30 (0, 0)) :: F)) : Calls Try.prog 45 #[.func (.func 50) #[] #[.pointer (some ⟨bx, 0, none⟩)], .pointer (some ⟨g2, 0, none⟩), .int .i64 1] w (Ret fun v w' => v = .bool true ∧ St W w' (LkA g s :: RfA g2 s :: F)) := by
 obtain ⟨o1, o2, o3, o4, o5, o6, o8⟩ := id hv.ok
 refine calls_of_go (n := 57) Try.func45 rfl Try.ntmps45 rfl ?_
 refine g_seq ?_
 refine g_region ?_
 refine r_cons (s_box H 51 (.pointer (some ⟨g2, 0, none⟩)) rfl (cs := #[.pointer (some ⟨g2, 0, none⟩)]) rfl rfl ?_); intro bk1 w2 H3
 refine r_cons (s_box H3 3 (.int .i64 1) rfl (cs := #[.int .i64 1]) rfl rfl ?_); intro bk4 w5 H6
 refine r_cons (s_alloc H6 4 ze_4 rfl ?_); intro bk7 w8 H9
 refine r_nil ?_
 refine g_seq ?_
 refine g_region ?_
 refine r_cons (s_alloc H9 3 ze_3 rfl ?_); intro bk10 w11 H12
 refine r_cons (s_store H12 0 (.int .i64 0) rfl rfl rfl sz_3 rfl (nbl rfl) rfl (cs' := #[.int .i64 0]) rfl ?_); intro w13 H14
 refine r_nil ?_
 refine g_seq ?_
 refine g_seq ?_
 refine g_region ?_
 refine r_cons (s_move (.func (.func 50) #[] #[.pointer (some ⟨bx, 0, none⟩)]) rfl rfl ?_)
 refine r_nil ?_
 refine g_block ?_
 have H15 : St W w13 (blk bk10 (.cells #[.int .i64 0] 3 (0, 0)) :: blk bk7 (.cells #[.bool false] 4 (0, 0)) :: blk bk4 (.cells #[.int .i64 1] 3 (0, 0)) :: blk bk1 (.cells #[.pointer (some ⟨g2, 0, none⟩)] 51 (0, 0)) :: RfA g2 s :: LkA g s :: imm bx (.cells #[.pointer (some ⟨g, 0, none⟩)] 30 (0, 0)) :: F) := (((((H14.move 5 rfl).move 4 rfl).move 4 rfl).move 4 rfl).move 4 rfl)
 have H16 : St W w13 (star [pure' (([] : List (I64 × BytesD)).length = 0), blk bk10 (.cells #[.int .i64 (([] : List (I64 × BytesD)).length : Int)] 3 (0, 0)), blk bk7 (.cells #[.bool false] 4 (0, 0)), blk bk4 (.cells #[.int .i64 1] 3 (0, 0)), blk bk1 (.cells #[.pointer (some ⟨g2, 0, none⟩)] 51 (0, 0)), RfA g2 s] :: LkA g s :: imm bx (.cells #[.pointer (some ⟨g, 0, none⟩)] 30 (0, 0)) :: F) := St.shut_star (ls := [pure' (([] : List (I64 × BytesD)).length = 0), _, _, _, _, _]) (St.shut_pure rfl H15)
 refine g_range2 (W := W) (F := LkA g s :: imm bx (.cells #[.pointer (some ⟨g, 0, none⟩)] 30 (0, 0)) :: F) 50 [.pointer (some ⟨bx, 0, none⟩)] rfl rfl pl_50 (fun x_ : I64 × BytesD => .int .i64 x_.1.v) (fun x_ : I64 × BytesD => .slice x_.2.p x_.2.data.length x_.2.c) rfl rfl (fun x_ : I64 × BytesD => Im 1 (.slice x_.2.p x_.2.data.length x_.2.c) x_.2.data.length (x_.2.data.flatMap u8c)) (fun pre_ => star [pure' (pre_.length = 0), blk bk10 (.cells #[.int .i64 (pre_.length : Int)] 3 (0, 0)), blk bk7 (.cells #[.bool false] 4 (0, 0)), blk bk4 (.cells #[.int .i64 1] 3 (0, 0)), blk bk1 (.cells #[.pointer (some ⟨g2, 0, none⟩)] 51 (0, 0)), RfA g2 s]) (fun c_ pre_ => star [pure' (c_ = .ret), blk bk7 (.cells #[.bool true] 4 (0, 0)), RfA g2 s]) (fun pre_ x_ => mapB (pre_ ++ [x_]) <+: sH s.held) (fun L_ => mapB L_ = sH s.held) (fun L_ => mapB L_ <+: sH s.held) H16 ?_ ?_ ?_ ?_
 ·intro l17 r18 w19 G20 pre21 x22 hr23 hr24 hok25 H26
  try dsimp only at hok25 H26
  have H27 : St W w19 (blk l17 (.loop r18) :: star [pure' (pre21.length = 0), blk bk10 (.cells #[.int .i64 (pre21.length : Int)] 3 (0, 0)), blk bk7 (.cells #[.bool false] 4 (0, 0)), blk bk4 (.cells #[.int .i64 1] 3 (0, 0)), blk bk1 (.cells #[.pointer (some ⟨g2, 0, none⟩)] 51 (0, 0)), RfA g2 s] :: Im 1 (.slice x22.2.p x22.2.data.length x22.2.c) x22.2.data.length (x22.2.data.flatMap u8c) :: G20) := H26
  have H28 := H27.move 1 rfl
  obtain ⟨hpre29, H30⟩ := St.open_pure (St.open_star H28)
  obtain ⟨n31, hn32⟩ : ∃ n : Nat, n = pre21.length := ⟨_, rfl⟩
  have H33 : St W w19 (blk bk10 (.cells #[.int .i64 (n31 : Int)] 3 (0, 0)) :: blk bk7 (.cells #[.bool false] 4 (0, 0)) :: blk bk4 (.cells #[.int .i64 1] 3 (0, 0)) :: blk bk1 (.cells #[.pointer (some ⟨g2, 0, none⟩)] 51 (0, 0)) :: RfA g2 s :: blk l17 (.loop r18) :: Im 1 (.slice x22.2.p x22.2.data.length x22.2.c) x22.2.data.length (x22.2.data.flatMap u8c) :: G20) := by rw [hn32]; exact H30
  obtain ⟨hx1, hx2⟩ := held_pre hok25
  rw [← hn32] at hx1 hx2; rw [sH_len] at hx1
  have hhl9 : s.held.length ≤ 17592186044416 := by omega
  refine g_seq ?_
  refine g_region ?_
  refine r_cons (s_assign (.int .i64 x22.1.v) rfl rfl ?_)
  refine r_nil ?_
  refine g_region ?_
  refine r_cons (s_assign (.slice x22.2.p x22.2.data.length x22.2.c) rfl rfl ?_)
  refine r_nil ?_
  refine g_beginRound H33 (i := 5) rfl hr23 ?_; intro w34 H35
  have H36 : St W w34 (blk bk10 (.cells #[.int .i64 (n31 : Int)] 3 (0, 0)) :: blk bk7 (.cells #[.bool false] 4 (0, 0)) :: blk bk4 (.cells #[.int .i64 1] 3 (0, 0)) :: blk bk1 (.cells #[.pointer (some ⟨g2, 0, none⟩)] 51 (0, 0)) :: RfA g2 s :: blk l17 (.loop { r18 with state := .busy }) :: Im 1 (.slice x22.2.p x22.2.data.length x22.2.c) x22.2.data.length (x22.2.data.flatMap u8c) :: G20) := H35
  refine g_block ?_
  refine g_seq ?_
  refine g_seq ?_
  have H37 := H36.move 4 rfl
  obtain ⟨⟨⟨pp38, cc39, L40, pp41, cc42, E43, A44⟩, hL45, hA46, hH47⟩, H48⟩ := St.open_ex H37
  have H49 := St.open_star H48
  change L40.map BodD.v = A44 ++ s.l at hL45; change A44.length = s.acked at hA46; change HR s.held (mapB E43) at hH47
  have hl50 := refLen hL45 hA46; have hh51 : E43.length = s.held.length := by have h9 := hH47.len; rw [mapB_len rfl] at h9; exact h9
  have H52 : St W w34 (blk g2 (rfC s (.slice pp38 L40.length cc39) (.slice pp41 E43.length cc42)) :: Row 101 3 (.slice pp38 L40.length cc39) L40.length (L40.flatMap bodCell) :: byA (L40.map BodD.by) :: Row 105 2 (.slice pp41 E43.length cc42) E43.length (E43.flatMap hlCell) :: byA (mby E43) :: blk bk10 (.cells #[.int .i64 (n31 : Int)] 3 (0, 0)) :: blk bk7 (.cells #[.bool false] 4 (0, 0)) :: blk bk4 (.cells #[.int .i64 1] 3 (0, 0)) :: blk bk1 (.cells #[.pointer (some ⟨g2, 0, none⟩)] 51 (0, 0)) :: blk l17 (.loop { r18 with state := .busy }) :: Im 1 (.slice x22.2.p x22.2.data.length x22.2.c) x22.2.data.length (x22.2.data.flatMap u8c) :: G20) := H49
  have hn9 : n31 < E43.length := by rw [hh51]; exact hx1
  rw [← hH47.eq, mapB_at] at hx2; have hx3 := congrArg (·.1) hx2; have hx4 := congrArg (·.2) hx2; simp only at hx3 hx4
  have H53 : St W w34 (Im 1 (.slice ((E43.getD n31 default).2.p) ((E43.getD n31 default).2.data.length) ((E43.getD n31 default).2.c)) (((E43.getD n31 default).2.data).length) (((E43.getD n31 default).2.data).flatMap u8c) :: blk g2 (rfC s (.slice pp38 L40.length cc39) (.slice pp41 E43.length cc42)) :: Row 101 3 (.slice pp38 L40.length cc39) L40.length (L40.flatMap bodCell) :: byA (L40.map BodD.by) :: Row 105 2 (.slice pp41 E43.length cc42) E43.length (E43.flatMap hlCell) :: byA (mby E43) :: blk bk10 (.cells #[.int .i64 (n31 : Int)] 3 (0, 0)) :: blk bk7 (.cells #[.bool false] 4 (0, 0)) :: blk bk4 (.cells #[.int .i64 1] 3 (0, 0)) :: blk bk1 (.cells #[.pointer (some ⟨g2, 0, none⟩)] 51 (0, 0)) :: blk l17 (.loop { r18 with state := .busy }) :: Im 1 (.slice x22.2.p x22.2.data.length x22.2.c) x22.2.data.length (x22.2.data.flatMap u8c) :: G20) := byA_at H52 (i := 4) rfl (mby_at hn9)
  obtain ⟨bk54, cur55, hp56, h57, h58, h59, h60, h61, H62⟩ := Row.open2 H53 (i := 4) rfl (by omega)
  have hq9 : decide (x22.2.data = (E43.getD n31 default).2.data) = true := decide_eq_true hx4.symm
  refine g_quiet (fun w' => St W w' (Im 1 (.slice ((E43.getD n31 default).2.p) ((E43.getD n31 default).2.data.length) ((E43.getD n31 default).2.c)) (((E43.getD n31 default).2.data).length) (((E43.getD n31 default).2.data).flatMap u8c) :: blk g2 (rfC s (.slice pp38 L40.length cc39) (.slice pp41 E43.length cc42)) :: Row 101 3 (.slice pp38 L40.length cc39) L40.length (L40.flatMap bodCell) :: byA (L40.map BodD.by) :: blk bk54 (.cells cur55 105 (0, 0)) :: byA (mby E43) :: blk bk10 (.cells #[.int .i64 (n31 : Int)] 3 (0, 0)) :: blk bk7 (.cells #[.bool false] 4 (0, 0)) :: blk bk4 (.cells #[.int .i64 1] 3 (0, 0)) :: blk bk1 (.cells #[.pointer (some ⟨g2, 0, none⟩)] 51 (0, 0)) :: blk l17 (.loop { r18 with state := .busy }) :: Im 1 (.slice x22.2.p x22.2.data.length x22.2.c) x22.2.data.length (x22.2.data.flatMap u8c) :: G20)) mixed (by kernel_rfl) H62.drew ?_
  refine q_cons (q_val rfl rfl rfl (by intro w hw; exact x_load (.int .i64 (n31 : Int)) ag_3 rfl (hw.blk_at (i := 6) rfl) rfl) ?_)
  refine q_cons (q_val rfl rfl rfl (by intro w hw; exact x_load (.pointer (some ⟨g2, 0, none⟩)) ag_51 rfl (hw.blk_at (i := 9) rfl) rfl) ?_)
  refine q_cons (q_val rfl rfl rfl (by intro w hw; exact x_nilCheck (.pointer (some ⟨g2, 0, none⟩)) rfl ⟨_, rfl⟩ w) ?_)
  refine q_cons (q_val rfl rfl rfl (by intro w hw; exact x_fieldAddr 86 5 6 6 84 rfl fi_86_5 rfl w) ?_)
  refine q_cons (q_val rfl rfl rfl (by intro w hw; exact x_load (.slice pp41 E43.length cc42) ag_84 rfl (hw.blk_at (i := 1) rfl) rfl) ?_)
  refine q_cons (q_val rfl rfl rfl (by intro w hw; exact x_len E43.length rfl ⟨_, un_84⟩ w) ?_)
  refine q_cons (q_val rfl rfl rfl (by intro w hw; exact x_geq false rfl rfl (dfalse (by omega)) w) ?_)
  refine q_cons (q_val rfl rfl rfl (by intro w hw; exact x_move (.bool false) rfl w) ?_)
  refine q_cons (q_take rfl rfl ?_)
  refine q_val rfl rfl rfl (by intro w hw; exact x_move (.int .i64 x22.1.v) rfl w) ?_
  refine q_cons (q_take rfl rfl ?_)
  refine q_val rfl rfl rfl (by intro w hw; exact x_load (.pointer (some ⟨g2, 0, none⟩)) ag_51 rfl (hw.blk_at (i := 9) rfl) rfl) ?_
  refine q_cons (q_take rfl rfl ?_)
  refine q_val rfl rfl rfl (by intro w hw; exact x_nilCheck (.pointer (some ⟨g2, 0, none⟩)) rfl ⟨_, rfl⟩ w) ?_
  refine q_cons (q_take rfl rfl ?_)
  refine q_val rfl rfl rfl (by intro w hw; exact x_fieldAddr 86 5 6 6 84 rfl fi_86_5 rfl w) ?_
  refine q_cons (q_take rfl rfl ?_)
  refine q_val rfl rfl rfl (by intro w hw; exact x_load (.slice pp41 E43.length cc42) ag_84 rfl (hw.blk_at (i := 1) rfl) rfl) ?_
  refine q_cons (q_take rfl rfl ?_)
  refine q_val rfl rfl rfl (by intro w hw; exact x_load (.int .i64 (n31 : Int)) ag_3 rfl (hw.blk_at (i := 6) rfl) rfl) ?_
  refine q_cons (q_take rfl rfl ?_)
  refine q_val rfl rfl rfl (by intro w hw; exact x_indexAddr bk54 (off := 0) (n31 : Int) 2 (0 + n31 * 2) (by exact congrArg (fun z_ => Value.slice z_ E43.length cc42) ((fun (_ : 0 < 1) => hp56) (by omega))) rfl el_84 (by omega) rfl w) ?_
  refine q_cons (q_take rfl rfl ?_)
  refine q_val rfl rfl rfl (by intro w hw; exact x_fieldAddr 105 0 0 (0 + n31 * 2) 2 rfl fi_105_0 rfl w) ?_
  refine q_cons (q_take rfl rfl ?_)
  refine q_val rfl rfl rfl (by intro w hw; exact x_load (.int .i64 ((E43.getD n31 default).1.v)) ag_2 rfl (hw.blk_at (i := 4) rfl) (elem_cell (L := E43) (i := n31) hlCell_len (by rw [(rfl : E43.length = E43.length)]; exact h60) (by have hh : E43.length = E43.length := (rfl : E43.length = E43.length); omega) default 0 (by decide) _ rfl)) ?_
  refine q_cons (q_take rfl rfl ?_)
  refine q_val rfl rfl rfl (by intro w hw; exact x_neq false rfl rfl (ntrue (by rw [hx3])) w) ?_
  refine q_cons (q_val rfl rfl rfl (by intro w hw; exact x_pick_f (.bool false) rfl rfl w) ?_)
  refine q_cons (q_val rfl rfl rfl (by intro w hw; exact x_move (.bool false) rfl w) ?_)
  refine q_cons (q_take rfl rfl ?_)
  refine q_val rfl rfl rfl (by intro w hw; exact x_move (.slice x22.2.p x22.2.data.length x22.2.c) rfl w) ?_
  refine q_cons (q_take rfl rfl ?_)
  refine q_val rfl rfl rfl (by intro w hw; exact x_load (.pointer (some ⟨g2, 0, none⟩)) ag_51 rfl (hw.blk_at (i := 9) rfl) rfl) ?_
  refine q_cons (q_take rfl rfl ?_)
  refine q_val rfl rfl rfl (by intro w hw; exact x_nilCheck (.pointer (some ⟨g2, 0, none⟩)) rfl ⟨_, rfl⟩ w) ?_
  refine q_cons (q_take rfl rfl ?_)
  refine q_val rfl rfl rfl (by intro w hw; exact x_fieldAddr 86 5 6 6 84 rfl fi_86_5 rfl w) ?_
  refine q_cons (q_take rfl rfl ?_)
  refine q_val rfl rfl rfl (by intro w hw; exact x_load (.slice pp41 E43.length cc42) ag_84 rfl (hw.blk_at (i := 1) rfl) rfl) ?_
  refine q_cons (q_take rfl rfl ?_)
  refine q_val rfl rfl rfl (by intro w hw; exact x_load (.int .i64 (n31 : Int)) ag_3 rfl (hw.blk_at (i := 6) rfl) rfl) ?_
  refine q_cons (q_take rfl rfl ?_)
  refine q_val rfl rfl rfl (by intro w hw; exact x_indexAddr bk54 (off := 0) (n31 : Int) 2 (0 + n31 * 2) (by exact congrArg (fun z_ => Value.slice z_ E43.length cc42) ((fun (_ : 0 < 1) => hp56) (by omega))) rfl el_84 (by omega) rfl w) ?_
  refine q_cons (q_take rfl rfl ?_)
  refine q_val rfl rfl rfl (by intro w hw; exact x_fieldAddr 105 1 1 (0 + n31 * 2 + 1) 26 rfl fi_105_1 rfl w) ?_
  refine q_cons (q_take rfl rfl ?_)
  refine q_val rfl rfl rfl (by intro w hw; exact x_load (.slice ((E43.getD n31 default).2.p) ((E43.getD n31 default).2.data.length) ((E43.getD n31 default).2.c)) ag_26 rfl (hw.blk_at (i := 4) rfl) (elem_cell (L := E43) (i := n31) hlCell_len (by rw [(rfl : E43.length = E43.length)]; exact h60) (by have hh : E43.length = E43.length := (rfl : E43.length = E43.length); omega) default 1 (by decide) _ rfl)) ?_
  refine q_cons (q_take rfl rfl ?_)
  refine q_enter (args := #[.slice x22.2.p x22.2.data.length x22.2.c, .slice ((E43.getD n31 default).2.p) ((E43.getD n31 default).2.data.length) ((E43.getD n31 default).2.c)]) (v := .bool (decide (x22.2.data = ((E43.getD n31 default).2.data)))) rfl rfl rfl (x_call pl_34 [.slice x22.2.p x22.2.data.length x22.2.c, .slice ((E43.getD n31 default).2.p) ((E43.getD n31 default).2.data.length) ((E43.getD n31 default).2.c)] rfl) (fun w hw => bytes_Equal _ _ _ _ _ _ x22.2.data ((E43.getD n31 default).2.data) RdA.im RdA.im (j := 11) rfl (k := 0) rfl hw) ?_
  refine q_cons (q_take rfl rfl ?_)
  refine q_val rfl rfl rfl (by intro w hw; exact x_not (decide (x22.2.data = ((E43.getD n31 default).2.data))) rfl false (by rw [hq9]; rfl) w) ?_
  refine q_cons (q_val rfl rfl rfl (by intro w hw; exact x_pick_f (.bool false) rfl rfl w) ?_)
  refine q_nil ?_
  intro w63 H64
  refine g_false rfl ?_
  refine g_skip ?_
  refine g_seq ?_
  refine g_region ?_
  refine r_cons (s_load (.int .i64 (n31 : Int)) ag_3 rfl (H64.blk_at (i := 6) rfl) rfl rfl ?_)
  refine r_cons (s_add ((n31 + 1 : Nat) : Int) rfl rfl ((wi64 (by omega)).trans (by omega)) rfl ?_)
  refine r_cons (s_store H64 6 (.int .i64 ((n31 + 1 : Nat) : Int)) rfl rfl rfl sz_3 rfl (nbl rfl) rfl (cs' := #[.int .i64 ((n31 + 1 : Nat) : Int)]) rfl ?_); intro w65 H66
  refine r_nil ?_
  refine g_seq ?_
  refine g_region ?_
  refine r_cons (s_load (.int .i64 ((n31 + 1 : Nat) : Int)) ag_3 rfl (H66.blk_at (i := 6) rfl) rfl rfl ?_)
  refine r_cons (s_load (.int .i64 1) ag_3 rfl (H66.blk_at (i := 8) rfl) rfl rfl ?_)
  refine r_cons (s_eql true rfl rfl (dtrue (by omega)) rfl ?_)
  refine r_nil ?_
  refine g_true rfl ?_
  refine g_seq ?_
  refine g_region ?_
  refine r_cons (s_store H66 7 (.bool true) rfl rfl rfl sz_4 rfl (nbl rfl) rfl (cs' := #[.bool true]) rfl ?_); intro w67 H68
  refine r_nil ?_
  have H69 := Row.shut2 (p := pp41) (n := E43.length) (c := cc42) (size := 2) (xs := E43.flatMap hlCell) H68 (i := 4) rfl hp56 h57 h58 h59 (by have hh : (cur55.toList.drop 0).take (E43.length * 2) = E43.flatMap hlCell := (by rw [(rfl : E43.length = E43.length)]; exact h60); have hk : E43.length = E43.length := (rfl : E43.length = E43.length); rw [hk] at hh; exact hh) (fun x_ hx_ => by obtain ⟨a_, _, ha_⟩ := List.mem_flatMap.1 hx_; exact one_hl a_ x_ ha_)
  have H70 : St W w67 (blk g2 (rfC s (.slice pp38 L40.length cc39) (.slice pp41 E43.length cc42)) :: Row 101 3 (.slice pp38 L40.length cc39) L40.length (L40.flatMap bodCell) :: byA (L40.map BodD.by) :: Row 105 2 (.slice pp41 E43.length cc42) E43.length (E43.flatMap hlCell) :: byA (mby E43) :: Im 1 (.slice ((E43.getD n31 default).2.p) ((E43.getD n31 default).2.data.length) ((E43.getD n31 default).2.c)) (((E43.getD n31 default).2.data).length) (((E43.getD n31 default).2.data).flatMap u8c) :: blk bk10 (.cells #[.int .i64 ((n31 + 1 : Nat) : Int)] 3 (0, 0)) :: blk bk7 (.cells #[.bool true] 4 (0, 0)) :: blk bk4 (.cells #[.int .i64 1] 3 (0, 0)) :: blk bk1 (.cells #[.pointer (some ⟨g2, 0, none⟩)] 51 (0, 0)) :: blk l17 (.loop { r18 with state := .busy }) :: Im 1 (.slice x22.2.p x22.2.data.length x22.2.c) x22.2.data.length (x22.2.data.flatMap u8c) :: G20) := (((((H69.move 5 rfl).move 5 rfl).move 5 rfl).move 5 rfl).move 5 rfl)
  have H71 : St W w67 (RfA g2 s :: Im 1 (.slice ((E43.getD n31 default).2.p) ((E43.getD n31 default).2.data.length) ((E43.getD n31 default).2.c)) (((E43.getD n31 default).2.data).length) (((E43.getD n31 default).2.data).flatMap u8c) :: blk bk10 (.cells #[.int .i64 ((n31 + 1 : Nat) : Int)] 3 (0, 0)) :: blk bk7 (.cells #[.bool true] 4 (0, 0)) :: blk bk4 (.cells #[.int .i64 1] 3 (0, 0)) :: blk bk1 (.cells #[.pointer (some ⟨g2, 0, none⟩)] 51 (0, 0)) :: blk l17 (.loop { r18 with state := .busy }) :: Im 1 (.slice x22.2.p x22.2.data.length x22.2.c) x22.2.data.length (x22.2.data.flatMap u8c) :: G20) := St.shut_ex ⟨⟨pp38, cc39, L40, pp41, cc42, E43, A44⟩, hL45, hA46, hH47⟩ (St.shut_star (ls := [_, _, _, _, _]) H70)
  have H72 : St W w67 (blk bk7 (.cells #[.bool true] 4 (0, 0)) :: RfA g2 s :: Im 1 (.slice ((E43.getD n31 default).2.p) ((E43.getD n31 default).2.data.length) ((E43.getD n31 default).2.c)) (((E43.getD n31 default).2.data).length) (((E43.getD n31 default).2.data).flatMap u8c) :: blk bk10 (.cells #[.int .i64 ((n31 + 1 : Nat) : Int)] 3 (0, 0)) :: blk bk4 (.cells #[.int .i64 1] 3 (0, 0)) :: blk bk1 (.cells #[.pointer (some ⟨g2, 0, none⟩)] 51 (0, 0)) :: blk l17 (.loop { r18 with state := .busy }) :: Im 1 (.slice x22.2.p x22.2.data.length x22.2.c) x22.2.data.length (x22.2.data.flatMap u8c) :: G20) := (H71.move 3 rfl)
  have H73 : St W w67 (star [pure' ((.ret : Code) = .ret), blk bk7 (.cells #[.bool true] 4 (0, 0)), RfA g2 s] :: Im 1 (.slice ((E43.getD n31 default).2.p) ((E43.getD n31 default).2.data.length) ((E43.getD n31 default).2.c)) (((E43.getD n31 default).2.data).length) (((E43.getD n31 default).2.data).flatMap u8c) :: blk bk10 (.cells #[.int .i64 ((n31 + 1 : Nat) : Int)] 3 (0, 0)) :: blk bk4 (.cells #[.int .i64 1] 3 (0, 0)) :: blk bk1 (.cells #[.pointer (some ⟨g2, 0, none⟩)] 51 (0, 0)) :: blk l17 (.loop { r18 with state := .busy }) :: Im 1 (.slice x22.2.p x22.2.data.length x22.2.c) x22.2.data.length (x22.2.data.flatMap u8c) :: G20) := St.shut_star (ls := [pure' ((.ret : Code) = .ret), blk bk7 (.cells #[.bool true] 4 (0, 0)), RfA g2 s]) (St.shut_pure rfl H72)
  have H74 : St W w67 (blk l17 (.loop { r18 with state := .busy }) :: star [pure' ((.ret : Code) = .ret), blk bk7 (.cells #[.bool true] 4 (0, 0)), RfA g2 s] :: G20) := ((((((H73.move 5 rfl).drop 2 rfl).drop 2 rfl).drop 2 rfl).drop 2 rfl).drop 2 rfl)
  refine g_round_ret H74 (i := 0) rfl ?_; intro w75 H76
  exact .inr ⟨rfl, _, H76⟩
 ·intro l J Jx B w H hY; exact Held_it g bx l s hv hN0 J Jx (i := 2) rfl (k := 1) rfl hY H
 ·intro D77 L78 w79 hS80 H81
  have H83 : St W w79 (star [pure' (L78.length = 0), blk bk10 (.cells #[.int .i64 (L78.length : Int)] 3 (0, 0)), blk bk7 (.cells #[.bool false] 4 (0, 0)), blk bk4 (.cells #[.int .i64 1] 3 (0, 0)), blk bk1 (.cells #[.pointer (some ⟨g2, 0, none⟩)] 51 (0, 0)), RfA g2 s] :: blk D77 (.deferred (some [])) :: LkA g s :: imm bx (.cells #[.pointer (some ⟨g, 0, none⟩)] 30 (0, 0)) :: F) := H81
  obtain ⟨hpre84, H85⟩ := St.open_pure (St.open_star H83)
  obtain ⟨n86, hn87⟩ : ∃ n : Nat, n = L78.length := ⟨_, rfl⟩
  have H88 : St W w79 (blk bk10 (.cells #[.int .i64 (n86 : Int)] 3 (0, 0)) :: blk bk7 (.cells #[.bool false] 4 (0, 0)) :: blk bk4 (.cells #[.int .i64 1] 3 (0, 0)) :: blk bk1 (.cells #[.pointer (some ⟨g2, 0, none⟩)] 51 (0, 0)) :: RfA g2 s :: blk D77 (.deferred (some [])) :: LkA g s :: imm bx (.cells #[.pointer (some ⟨g, 0, none⟩)] 30 (0, 0)) :: F) := by rw [hn87]; exact H85
  have hend : n86 = s.held.length := by have h8 := congrArg List.length hS80; rw [sH_len, mapB_len rfl] at h8; omega
  refine g_inBlock ?_
  refine g_seq ?_
  have H89 : St W w79 (blk bk10 (.cells #[.int .i64 (n86 : Int)] 3 (0, 0)) :: blk bk4 (.cells #[.int .i64 1] 3 (0, 0)) :: blk bk1 (.cells #[.pointer (some ⟨g2, 0, none⟩)] 51 (0, 0)) :: blk D77 (.deferred (some [])) :: LkA g s :: imm bx (.cells #[.pointer (some ⟨g, 0, none⟩)] 30 (0, 0)) :: blk bk7 (.cells #[.bool false] 4 (0, 0)) :: RfA g2 s :: F) := ((((((((H88.move 4 rfl).move 2 rfl).move 7 rfl).move 7 rfl).move 7 rfl).move 7 rfl).move 7 rfl).move 7 rfl)
  refine g_mix (fun t_ w => St W w (blk bk10 (.cells #[.int .i64 (n86 : Int)] 3 (0, 0)) :: blk bk4 (.cells #[.int .i64 1] 3 (0, 0)) :: blk bk1 (.cells #[.pointer (some ⟨g2, 0, none⟩)] 51 (0, 0)) :: blk D77 (.deferred (some [])) :: LkA g s :: imm bx (.cells #[.pointer (some ⟨g, 0, none⟩)] 30 (0, 0)) :: t_)) (blk bk7 (.cells #[.bool false] 4 (0, 0)) :: RfA g2 s :: F) mixed 8 rfl H89.drew ?_
  refine f_first 0 (listed' := #[true, false, false, false, false, false, false, false]) rfl (by kernel_rfl) (by kernel_rfl) (by kernel_rfl) rfl ?_
  refine f_val rfl rfl rfl (by intro t_ w hw; exact x_load (.int .i64 (n86 : Int)) ag_3 rfl (hw.blk_at (i := 0) rfl) rfl) ?_
  refine f_first 1 (listed' := #[true, true, false, false, false, false, false, false]) rfl (by kernel_rfl) (by kernel_rfl) (by kernel_rfl) rfl ?_
  refine f_val rfl rfl rfl (by intro t_ w hw; exact x_load (.pointer (some ⟨g2, 0, none⟩)) ag_51 rfl (hw.blk_at (i := 2) rfl) rfl) ?_
  refine f_first 2 (listed' := #[true, true, true, false, false, false, false, false]) rfl (by kernel_rfl) (by kernel_rfl) (by kernel_rfl) rfl ?_
  refine f_val rfl rfl rfl (by intro t_ w hw; exact x_nilCheck (.pointer (some ⟨g2, 0, none⟩)) rfl ⟨_, rfl⟩ w) ?_
  refine f_first 3 (listed' := #[true, true, true, true, false, false, false, false]) rfl (by kernel_rfl) (by kernel_rfl) (by kernel_rfl) rfl ?_
  refine f_val rfl rfl rfl (by intro t_ w hw; exact x_fieldAddr 86 5 6 6 84 rfl fi_86_5 rfl w) ?_
  refine f_all (rs := [4]) (by kernel_rfl) (by simp) ?_
  refine a_cons ⟨_, rfl, ?_⟩ (fun x hx => absurd hx (by simp))
  intro w90 H91
  try dsimp only at H91
  have H92 := H91.move 7 rfl
  obtain ⟨⟨⟨pp93, cc94, L95, pp96, cc97, E98, A99⟩, hL100, hA101, hH102⟩, H103⟩ := St.open_ex H92
  have H104 := St.open_star H103
  change L95.map BodD.v = A99 ++ s.l at hL100; change A99.length = s.acked at hA101; change HR s.held (mapB E98) at hH102
  have hl105 := refLen hL100 hA101; have hh106 : E98.length = s.held.length := by have h9 := hH102.len; rw [mapB_len rfl] at h9; exact h9
  have H107 : St W w90 (blk g2 (rfC s (.slice pp93 L95.length cc94) (.slice pp96 E98.length cc97)) :: Row 101 3 (.slice pp93 L95.length cc94) L95.length (L95.flatMap bodCell) :: byA (L95.map BodD.by) :: Row 105 2 (.slice pp96 E98.length cc97) E98.length (E98.flatMap hlCell) :: byA (mby E98) :: blk bk10 (.cells #[.int .i64 (n86 : Int)] 3 (0, 0)) :: blk bk4 (.cells #[.int .i64 1] 3 (0, 0)) :: blk bk1 (.cells #[.pointer (some ⟨g2, 0, none⟩)] 51 (0, 0)) :: blk D77 (.deferred (some [])) :: LkA g s :: imm bx (.cells #[.pointer (some ⟨g, 0, none⟩)] 30 (0, 0)) :: blk bk7 (.cells #[.bool false] 4 (0, 0)) :: F) := H104
  refine s_load (.slice pp96 E98.length cc97) ag_84 rfl (H107.blk_at (i := 0) rfl) rfl rfl ?_
  have H108 : St W w90 (RfA g2 s :: blk bk10 (.cells #[.int .i64 (n86 : Int)] 3 (0, 0)) :: blk bk4 (.cells #[.int .i64 1] 3 (0, 0)) :: blk bk1 (.cells #[.pointer (some ⟨g2, 0, none⟩)] 51 (0, 0)) :: blk D77 (.deferred (some [])) :: LkA g s :: imm bx (.cells #[.pointer (some ⟨g, 0, none⟩)] 30 (0, 0)) :: blk bk7 (.cells #[.bool false] 4 (0, 0)) :: F) := St.shut_ex ⟨⟨pp93, cc94, L95, pp96, cc97, E98, A99⟩, hL100, hA101, hH102⟩ (St.shut_star (ls := [_, _, _, _, _]) H107)
  have H109 : St W w90 (blk bk10 (.cells #[.int .i64 (n86 : Int)] 3 (0, 0)) :: blk bk4 (.cells #[.int .i64 1] 3 (0, 0)) :: blk bk1 (.cells #[.pointer (some ⟨g2, 0, none⟩)] 51 (0, 0)) :: blk D77 (.deferred (some [])) :: LkA g s :: imm bx (.cells #[.pointer (some ⟨g, 0, none⟩)] 30 (0, 0)) :: RfA g2 s :: blk bk7 (.cells #[.bool false] 4 (0, 0)) :: F) := ((((((((H108.move 7 rfl).move 1 rfl).move 7 rfl).move 7 rfl).move 7 rfl).move 7 rfl).move 7 rfl).move 7 rfl)
  refine ⟨RfA g2 s :: blk bk7 (.cells #[.bool false] 4 (0, 0)) :: F, ?_, H109⟩
  change FReg _ _ _ _ _ #[true, true, true, true, true, false, false, false] _ _
  refine f_first 5 (listed' := #[true, true, true, true, true, true, false, false]) rfl (by kernel_rfl) (by kernel_rfl) (by kernel_rfl) rfl ?_
  refine f_val rfl rfl rfl (by intro t_ w hw; exact x_len E98.length rfl ⟨_, un_84⟩ w) ?_
  refine f_first 6 (listed' := #[true, true, true, true, true, true, true, false]) rfl (by kernel_rfl) (by kernel_rfl) (by kernel_rfl) rfl ?_
  refine f_val rfl rfl rfl (by intro t_ w hw; exact x_eql true rfl rfl (dtrue (by omega)) w) ?_
  refine f_all (rs := [7]) (by kernel_rfl) (by simp) ?_
  refine a_cons ⟨_, rfl, ?_⟩ (fun x hx => absurd hx (by simp))
  intro w110 H111
  try dsimp only at H111
  refine s_store H111 7 (.bool true) rfl rfl rfl sz_4 rfl (nbl rfl) rfl (cs' := #[.bool true]) rfl ?_; intro w112 H113
  refine ⟨RfA g2 s :: blk bk7 (.cells #[.bool true] 4 (0, 0)) :: F, ?_, H113⟩
  change FReg _ _ _ _ _ #[true, true, true, true, true, true, true, true] _ _
  refine f_done (by kernel_rfl) ?_
  intro w114 H115
  obtain ⟨hd116, H117⟩ := H115.collect (i := 3) rfl
  refine g_retD _ [.bool true] Try.func45 Try.results45 rfl ⟨hd116, trivial⟩ ⟨(res_cell1 rfl ag_4 (H117.blk_at (i := 6) rfl) rfl), trivial⟩ ?_
  have H118 : St W (w114.putObj D77 (.deferred none)) (LkA g s :: RfA g2 s :: F) := (((((((H117.move 5 rfl).move 4 rfl).drop 2 rfl).drop 2 rfl).drop 2 rfl).drop 2 rfl).drop 2 rfl)
  exact ⟨rfl, H118⟩
 ·intro D119 c124 L120 w121 hS122 H123
  have H125 : St W w121 (star [pure' (c124 = .ret), blk bk7 (.cells #[.bool true] 4 (0, 0)), RfA g2 s] :: blk D119 (.deferred (some [])) :: LkA g s :: imm bx (.cells #[.pointer (some ⟨g, 0, none⟩)] 30 (0, 0)) :: F) := H123
  obtain ⟨hc126, H127⟩ := St.open_pure (St.open_star H125)
  subst hc126
  have H128 : St W w121 (blk bk7 (.cells #[.bool true] 4 (0, 0)) :: RfA g2 s :: blk D119 (.deferred (some [])) :: LkA g s :: imm bx (.cells #[.pointer (some ⟨g, 0, none⟩)] 30 (0, 0)) :: F) := H127
  obtain ⟨hd129, H130⟩ := H128.collect (i := 2) rfl
  refine g_retD _ [.bool true] Try.func45 Try.results45 rfl ⟨hd129, trivial⟩ ⟨(res_cell1 rfl ag_4 (H130.blk_at (i := 0) rfl) rfl), trivial⟩ ?_
  have H131 : St W (w121.putObj D119 (.deferred none)) (LkA g s :: RfA g2 s :: F) := ((((H130.move 1 rfl).move 2 rfl).drop 2 rfl).drop 2 rfl)
  exact ⟨rfl, H131⟩
set_option maxHeartbeats 4000000 in
set_option maxRecDepth 100000 in
theorem sameBodies_im {W w : World} {F : List Atom} (D M L : List BytesD) (p1 p2 : Option Addr) (d1 d2 : Nat) (heq : D.map BytesD.data = M.map BytesD.data) (hDL : ∀ x ∈ D, x ∈ L) (hML : ∀ x ∈ M, x ∈ L) {i j a : Nat} (hi : F[i]? = some (Im 1 (.slice p1 D.length d1) D.length (D.flatMap byCell))) (hj : F[j]? = some (Im 1 (.slice p2 M.length d2) M.length (M.flatMap byCell))) (ha : F[a]? = some (byA L)) (H : St W w F) : Calls Try.prog 14 #[.slice p1 D.length d1, .slice p2 M.length d2] w (Ret fun v w' => v = .bool true ∧ St W w' F) := by
 have H0 := ((H.dup hi (Im_pers _ _ _ _)).dup (i := j + 1) (by exact hj) (Im_pers _ _ _ _)).dup (i := a + 2) (by exact ha) (byA_pers _)
 have H1 : St W w (byA L :: Im 1 (.slice p2 M.length d2) M.length (M.flatMap byCell) :: Im 1 (.slice p1 D.length d1) D.length (D.flatMap byCell) :: F) := H0
 have hl : D.length = M.length := by have h9 := congrArg List.length heq; rw [List.length_map, List.length_map] at h9; exact h9
 refine calls_of_go (n := 27) Try.func14 rfl Try.ntmps14 rfl ?_
 refine g_seq ?_
 refine g_region ?_
 refine r_cons (s_assign (.bool false) rfl rfl ?_)
 refine r_nil ?_
 refine g_seq ?_
 refine g_seq ?_
 refine g_region ?_
 refine r_cons (s_move (.slice p1 D.length d1) rfl rfl ?_)
 refine r_cons (s_len D.length rfl ⟨_, un_32⟩ rfl ?_)
 refine r_cons (s_move (.slice p2 M.length d2) rfl rfl ?_)
 refine r_cons (s_len M.length rfl ⟨_, un_32⟩ rfl ?_)
 refine r_cons (s_neq false rfl rfl (ntrue (by omega)) rfl ?_)
 refine r_nil ?_
 refine g_false rfl ?_
 refine g_skip ?_
 refine g_seq ?_
 refine g_seq ?_
 refine g_region ?_
 refine r_cons (s_move (.slice p1 D.length d1) rfl rfl ?_)
 refine r_cons (s_len D.length rfl ⟨_, un_32⟩ rfl ?_)
 refine r_cons (s_move (.int .i64 0) rfl rfl ?_)
 refine r_nil ?_
 refine g_block ?_
 obtain ⟨pA2, cA3, gA4, oA5, kA6, eA7, zA8, he14, hn9, hp10, hx11, hs12, hml, H13⟩ := Im.open_ H1 (i := 2) rfl
 obtain ⟨rfl, rfl⟩ : p1 = pA2 ∧ d1 = cA3 := by injection he14 with a_ b_ c_; exact ⟨a_, c_⟩
 obtain ⟨pA15, cA16, gA17, oA18, kA19, eA20, zA21, he27, hn22, hp23, hx24, hs25, hml, H26⟩ := Im.open_ H13 (i := 2) rfl
 obtain ⟨rfl, rfl⟩ : p2 = pA15 ∧ d2 = cA16 := by injection he27 with a_ b_ c_; exact ⟨a_, c_⟩
 refine g_loop_inv (fun (x_ : Nat) => match x_ with | j2 => [(0, .slice p1 D.length d1), (1, .slice p2 M.length d2), (4, .bool false), (12, .int .i64 (D.length : Int)), (13, .int .i64 (j2 : Int))]) (fun (x_ : Nat) w => match x_ with | j2 => (j2 ≤ D.length) ∧ St W w (imi (0 < M.length) gA17 (.cells kA19 eA20 zA21) :: imi (0 < D.length) gA4 (.cells kA6 eA7 zA8) :: byA L :: Im 1 (.slice p2 M.length d2) M.length (M.flatMap byCell) :: Im 1 (.slice p1 D.length d1) D.length (D.flatMap byCell) :: F)) (fun (x_ : Nat) => match x_ with | j2 => D.length - j2) (0) ?_ ?_ ?_
 ·exact ⟨by first | rfl | exact vint (by omega), by first | rfl | exact vint (by omega), by first | rfl | exact vint (by omega), by first | rfl | exact vint (by omega), by first | rfl | exact vint (by omega), trivial⟩
 ·exact ⟨(by omega), H26⟩
 ·rintro j2 ρ28 w29 ⟨hjn, H30⟩ nx31
  change Ends _ _ (upds ρ28 [(0, .slice p1 D.length d1), (1, .slice p2 M.length d2), (4, .bool false), (12, .int .i64 (D.length : Int)), (13, .int .i64 (j2 : Int))]) w29
  refine g_seq ?_
  refine g_region ?_
  by_cases hc32 : (j2 : Int) < (D.length : Int)
  ·skip
   refine r_cons (s_lss true rfl rfl (dtrue hc32) rfl ?_)
   refine r_nil ?_
   refine g_seq ?_
   refine g_true rfl ?_
   refine g_skip ?_
   refine g_seq ?_
   refine g_block ?_
   refine g_seq ?_
   refine g_region ?_
   refine r_cons (s_move (.int .i64 (j2 : Int)) rfl rfl ?_)
   refine r_cons (s_assign (.int .i64 (j2 : Int)) rfl rfl ?_)
   refine r_nil ?_
   refine g_seq ?_
   have H33 : St W w29 (Im 1 (.slice ((D.getD j2 default).p) ((D.getD j2 default).data.length) ((D.getD j2 default).c)) (((D.getD j2 default).data).length) (((D.getD j2 default).data).flatMap u8c) :: imi (0 < M.length) gA17 (.cells kA19 eA20 zA21) :: imi (0 < D.length) gA4 (.cells kA6 eA7 zA8) :: byA L :: Im 1 (.slice p2 M.length d2) M.length (M.flatMap byCell) :: Im 1 (.slice p1 D.length d1) D.length (D.flatMap byCell) :: F) := byA_at H30 (i := 2) rfl (hDL _ (by_in (k := j2) (by omega)))
   have H34 : St W w29 (Im 1 (.slice ((M.getD j2 default).p) ((M.getD j2 default).data.length) ((M.getD j2 default).c)) (((M.getD j2 default).data).length) (((M.getD j2 default).data).flatMap u8c) :: Im 1 (.slice ((D.getD j2 default).p) ((D.getD j2 default).data.length) ((D.getD j2 default).c)) (((D.getD j2 default).data).length) (((D.getD j2 default).data).flatMap u8c) :: imi (0 < M.length) gA17 (.cells kA19 eA20 zA21) :: imi (0 < D.length) gA4 (.cells kA6 eA7 zA8) :: byA L :: Im 1 (.slice p2 M.length d2) M.length (M.flatMap byCell) :: Im 1 (.slice p1 D.length d1) D.length (D.flatMap byCell) :: F) := byA_at H33 (i := 3) rfl (hML _ (by_in (k := j2) (by omega)))
   have hsm : decide ((D.getD j2 default).data = (M.getD j2 default).data) = true := decide_eq_true (same_at heq j2)
   refine g_quiet (fun w' => St W w' (Im 1 (.slice ((M.getD j2 default).p) ((M.getD j2 default).data.length) ((M.getD j2 default).c)) (((M.getD j2 default).data).length) (((M.getD j2 default).data).flatMap u8c) :: Im 1 (.slice ((D.getD j2 default).p) ((D.getD j2 default).data.length) ((D.getD j2 default).c)) (((D.getD j2 default).data).length) (((D.getD j2 default).data).flatMap u8c) :: imi (0 < M.length) gA17 (.cells kA19 eA20 zA21) :: imi (0 < D.length) gA4 (.cells kA6 eA7 zA8) :: byA L :: Im 1 (.slice p2 M.length d2) M.length (M.flatMap byCell) :: Im 1 (.slice p1 D.length d1) D.length (D.flatMap byCell) :: F)) mixed (by kernel_rfl) H34.drew ?_
   refine q_cons (q_val rfl rfl rfl (by intro w hw; exact x_move (.slice p1 D.length d1) rfl w) ?_)
   refine q_cons (q_val rfl rfl rfl (by intro w hw; exact x_move (.int .i64 (j2 : Int)) rfl w) ?_)
   refine q_cons (q_val rfl rfl rfl (by intro w hw; exact x_indexAddr gA4 (off := oA5) (j2 : Int) 1 (oA5 + j2 * 1) (by exact congrArg (fun z_ => Value.slice z_ D.length d1) (hp10 (by omega))) rfl el_32 (by omega) rfl w) ?_)
   refine q_cons (q_val rfl rfl rfl (by intro w hw; exact x_load (.slice ((D.getD j2 default).p) ((D.getD j2 default).data.length) ((D.getD j2 default).c)) ag_26 rfl (hw.imi_at (i := 3) rfl (by omega)) (elem_cell (L := D) (i := j2) byCell_len (hx11 (by omega)) (by omega) default 0 (by decide) _ rfl)) ?_)
   refine q_cons (q_val rfl rfl rfl (by intro w hw; exact x_move (.slice p2 M.length d2) rfl w) ?_)
   refine q_cons (q_val rfl rfl rfl (by intro w hw; exact x_move (.int .i64 (j2 : Int)) rfl w) ?_)
   refine q_cons (q_val rfl rfl rfl (by intro w hw; exact x_indexAddr gA17 (off := oA18) (j2 : Int) 1 (oA18 + j2 * 1) (by exact congrArg (fun z_ => Value.slice z_ M.length d2) (hp23 (by omega))) rfl el_32 (by omega) rfl w) ?_)
   refine q_cons (q_val rfl rfl rfl (by intro w hw; exact x_load (.slice ((M.getD j2 default).p) ((M.getD j2 default).data.length) ((M.getD j2 default).c)) ag_26 rfl (hw.imi_at (i := 2) rfl (by omega)) (elem_cell (L := M) (i := j2) byCell_len (hx24 (by omega)) (by omega) default 0 (by decide) _ rfl)) ?_)
   refine q_cons (q_enter (args := #[.slice ((D.getD j2 default).p) ((D.getD j2 default).data.length) ((D.getD j2 default).c), .slice ((M.getD j2 default).p) ((M.getD j2 default).data.length) ((M.getD j2 default).c)]) (v := .bool (decide (((D.getD j2 default).data) = ((M.getD j2 default).data)))) rfl rfl rfl (x_call pl_34 [.slice ((D.getD j2 default).p) ((D.getD j2 default).data.length) ((D.getD j2 default).c), .slice ((M.getD j2 default).p) ((M.getD j2 default).data.length) ((M.getD j2 default).c)] rfl) (fun w hw => bytes_Equal _ _ _ _ _ _ ((D.getD j2 default).data) ((M.getD j2 default).data) RdA.im RdA.im (j := 1) rfl (k := 0) rfl hw) ?_)
   refine q_cons (q_val rfl rfl rfl (by intro w hw; exact x_not (decide (((D.getD j2 default).data) = ((M.getD j2 default).data))) rfl false (by rw [hsm]; rfl) w) ?_)
   refine q_nil ?_
   intro w35 H36
   refine g_false rfl ?_
   refine g_skip ?_
   refine g_inBlock ?_
   refine g_region ?_
   refine r_cons (s_add ((j2 : Int) + 1) rfl rfl (wi64 (by omega)) rfl ?_)
   refine r_cons (s_move (.int .i64 ((j2 : Int) + 1)) rfl rfl ?_)
   refine r_nil ?_
   have H37 : St W w35 (imi (0 < M.length) gA17 (.cells kA19 eA20 zA21) :: imi (0 < D.length) gA4 (.cells kA6 eA7 zA8) :: byA L :: Im 1 (.slice p2 M.length d2) M.length (M.flatMap byCell) :: Im 1 (.slice p1 D.length d1) D.length (D.flatMap byCell) :: F) := (((((((H36.move 6 rfl).move 6 rfl).move 6 rfl).move 6 rfl).move 6 rfl).drop 5 rfl).drop 5 rfl)
   exact nx31 (j2 + 1) _ _ ⟨(by omega), H37⟩ (by first | (dsimp only; omega) | omega) ⟨by first | rfl | exact vint (by omega), by first | rfl | exact vint (by omega), by first | rfl | exact vint (by omega), by first | rfl | exact vint (by omega), by first | rfl | exact vint (by omega), trivial⟩
  ·skip
   refine r_cons (s_lss false rfl rfl (dfalse hc32) rfl ?_)
   refine r_nil ?_
   refine g_seq ?_
   refine g_false rfl ?_
   refine g_exit (by rfl) ?_
   refine g_seq ?_
   refine g_region ?_
   refine r_cons (s_assign (.bool true) rfl rfl ?_)
   refine r_nil ?_
   refine g_ret' [.bool true] Try.func14 Try.results14 ⟨rfl, trivial⟩ ?_
   have H38 : St W w29 F := (((((H30.drop 0 rfl).drop 0 rfl).drop 0 rfl).drop 0 rfl).drop 0 rfl)
   exact ⟨rfl, H38⟩
theorem sameBodies_rows {W w : World} {F : List Atom} (D E : List BytesD) (k n1 n2 : Nat) (p1 p2 : Option Addr) (d1 d2 : Nat) (h1 : D.length = n1) (h2 : E.length = n2) (hk : k ≤ n2) (hkD : k = n1) (heq : D.map BytesD.data = (E.map BytesD.data).take k) {i j a : Nat} (hi : F[i]? = some (Row 26 1 (.slice p1 n1 d1) n1 (D.flatMap byCell))) (hj : (F.set i emp)[j]? = some (Row 26 1 (.slice p2 n2 d2) n2 (E.flatMap byCell))) (ha : ((F.set i emp).set j emp)[a]? = some (byA (D ++ E))) (H : St W w F) : Calls Try.prog 14 #[.slice p1 n1 d1, .slice p2 k d2] w (Ret fun v w' => v = .bool true ∧ St W w' F) := by
 subst h1 h2 hkD
 refine rows_lend (q := fun v => v = .bool true) hi hj ha H fun G g0 g1 g2 HG => ?_
 have HG2 : St W w (Im 1 (.slice p2 D.length d2) D.length ((E.take D.length).flatMap byCell) :: G) := Im.cut_h byCell_len D.length HG (i := 1) g1 hk
 have hl : (E.take D.length).length = D.length := by rw [List.length_take]; omega
 have HG3 : St W w (Im 1 (.slice p2 (E.take D.length).length d2) (E.take D.length).length ((E.take D.length).flatMap byCell) :: G) := by rw [hl]; exact HG2
 have h := sameBodies_im D (E.take D.length) (D ++ E) p1 p2 d1 d2 (by rw [heq, List.map_take]) (fun x hx => List.mem_append_left _ hx) (fun x hx => List.mem_append_right _ (take_by x hx)) (i := 1) (j := 0) (a := 3) (by exact g0) rfl (by exact g2) HG3
 rw [hl] at h
 refine h.mono fun e w' hh => ?_
 cases e with
 | returned v => exact ⟨hh.1, hh.2.drop 0 rfl⟩
 | _ => exact hh.elim
end Sl
