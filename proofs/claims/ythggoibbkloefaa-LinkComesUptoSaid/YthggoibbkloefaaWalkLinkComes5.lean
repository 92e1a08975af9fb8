/- Walks of the program's functions. Printed by a program of this claim's author. No condition. -/
import Derived.Test.YthggoibbkloefaaSlBF
import Derived.Test.YthggoibbkloefaaSlQ
import Derived.Test.YthggoibbkloefaaSlP
import Derived.Test.YthggoibbkloefaaSlDB
import Derived.Test.YthggoibbkloefaaSlDC
import Derived.Test.YthggoibbkloefaaSlDJ
import Derived.Test.YthggoibbkloefaaSlEC
import Derived.Test.YthggoibbkloefaaSlED
import Derived.Test.YthggoibbkloefaaProg
import Derived.Test.YthggoibbkloefaaWalkLinkComes4
namespace Sl
open _root_.Go _root_.Go.RowKit _root_.Go.Proofs
set_option linter.all false
set_option maxHeartbeats 4000000 in
set_option maxRecDepth 100000 in
theorem LinkComes_ {W w : World} {F : List Atom} (x : I64) (l : List ActD) (u : Value) (hlen : l.length < 268435456) {j a : Nat} (hj : F[j]? = some (Im 4 u l.length (l.flatMap actCell))) (ha : F[a]? = some (byA (l.map ActD.by))) (H : St W w F) : Calls Try.prog 3 #[.int .i64 x.v, u] w (Ret fun v w' => v = .bool true ∧ St W w' F) := by
  obtain ⟨pp1, cc2, rfl, hsh3⟩ := Rd.shape (Im.rd H (i := j) hj)
  have H4 := H.dup (i := j) hj (Im_pers _ _ _ _)
  have hmlH4 := Im.len H4 (i := 0) rfl
  have hsl := slN_le x.v; have hH9 := H4.dup (i := a + 1) (by exact ha) (byA_pers _)
  have H5 : St W w (byA (l.map ActD.by) :: Im 4 (.slice pp1 l.length cc2) l.length (l.flatMap actCell) :: F) := hH9
  refine calls_of_go (n := 123) Try.func3 rfl Try.ntmps3 rfl ?_
  refine g_seq ?_
  refine g_region ?_
  refine r_cons (s_assign (.bool false) rfl rfl ?_)
  refine r_nil ?_
  refine g_seq ?_
  refine g_region ?_
  refine r_cons (s_move (.int .i64 x.v) rfl rfl ?_)
  refine r_cons (s_and ((maskN x.v 255 : Nat) : Int) rfl rfl (and_mask x.v (m := 255) (by decide)) rfl ?_)
  refine r_cons (s_rem ((maskN x.v 255 % 64 : Nat) : Int) rfl rfl (by omega) (tmod_pos (by omega)) rfl ?_)
  refine r_cons (s_add ((slN x.v : Nat) : Int) rfl rfl ((wi64 (by omega)).trans (by unfold slN; omega)) rfl ?_)
  refine r_cons (s_assign (.int .i64 ((slN x.v : Nat) : Int)) rfl rfl ?_)
  refine r_nil ?_
  refine g_seq ?_
  refine g_region ?_
  refine r_cons (s_move (.int .i64 ((slN x.v : Nat) : Int)) rfl rfl ?_)
  refine r_cons (s_call [.int .i64 ((slN x.v : Nat) : Int)] pl_7 rfl rfl (ends_ (slN x.v) (by omega) (by omega) H5) ?_)
  rintro _ w7 ⟨bk6, rfl, H8⟩
  refine r_cons (s_assign (.pointer (some ⟨bk6, 0, none⟩)) rfl rfl ?_)
  refine r_nil ?_
  refine g_seq ?_
  refine g_seq ?_
  refine g_region ?_
  refine r_cons (s_move (.pointer (some ⟨bk6, 0, none⟩)) rfl rfl ?_)
  refine r_cons (s_peql false un_23 rfl rfl rfl rfl ?_)
  refine r_cons (s_move (.bool false) rfl rfl ?_)
  refine r_cons (r_take rfl rfl ?_)
  refine s_call [] pl_8 rfl rfl (live_ H8) ?_
  rintro _ w9 ⟨rfl, H10⟩
  refine r_cons (r_take rfl rfl ?_)
  refine s_not true rfl false rfl rfl ?_
  refine r_cons (s_pick_f (.bool false) rfl rfl rfl ?_)
  refine r_nil ?_
  refine g_false rfl ?_
  refine g_skip ?_
  refine g_seq ?_
  refine g_seq ?_
  refine g_region ?_
  refine r_cons (s_move (.slice pp1 l.length cc2) rfl rfl ?_)
  refine r_cons (s_len l.length rfl ⟨_, un_22⟩ rfl ?_)
  refine r_cons (s_move (.int .i64 0) rfl rfl ?_)
  refine r_nil ?_
  refine g_block ?_
  obtain ⟨pA11, cA12, gA13, oA14, kA15, eA16, zA17, he23, hn18, hp19, hx20, hs21, hml, H22⟩ := Im.open_ H10 (i := 2) rfl
  obtain ⟨rfl, rfl⟩ : pp1 = pA11 ∧ cc2 = cA12 := by injection he23 with a_ b_ c_; exact ⟨a_, c_⟩
  have H24 : St W w9 (PairA bk6 (pairN (slN x.v)) :: imi (0 < l.length) gA13 (.cells kA15 eA16 zA17) :: byA (l.map ActD.by) :: F) := ((((H22.move 2 rfl).move 1 rfl).move 2 rfl).drop 3 rfl)
  have H25 : St W w9 (PairA bk6 (pairN (slN x.v)) :: imi (0 < l.length) gA13 (.cells kA15 eA16 zA17) :: byA (l.map ActD.by) :: F) := H24
  refine g_loop_inv (fun (x_ : Nat × PairV) => match x_ with | (k, P) => [(0, .int .i64 ((slN x.v : Nat) : Int)), (4, .bool false), (5, .pointer (some ⟨bk6, 0, none⟩)), (25, .slice pp1 l.length cc2), (26, .int .i64 (l.length : Int)), (27, .int .i64 (k : Int))]) (fun (x_ : Nat × PairV) w => match x_ with | (k, P) => (k ≤ l.length) ∧ (Inv (slN x.v) k P) ∧ St W w (PairA bk6 P :: imi (0 < l.length) gA13 (.cells kA15 eA16 zA17) :: byA (l.map ActD.by) :: F)) (fun (x_ : Nat × PairV) => match x_ with | (k, P) => l.length - k) (0, (pairN (slN x.v))) ?_ ?_ ?_
  · exact ⟨by first | rfl | exact vint (by omega), by first | rfl | exact vint (by omega), by first | rfl | exact vint (by omega), by first | rfl | exact vint (by omega), by first | rfl | exact vint (by omega), by first | rfl | exact vint (by omega), trivial⟩
  · exact ⟨(by omega), (Inv.new hsl.1 hsl.2), H25⟩
  · rintro ⟨k, P⟩ ρ26 w27 ⟨hkn, hI, H28⟩ nx29
    change Ends _ _ (upds ρ26 [(0, .int .i64 ((slN x.v : Nat) : Int)), (4, .bool false), (5, .pointer (some ⟨bk6, 0, none⟩)), (25, .slice pp1 l.length cc2), (26, .int .i64 (l.length : Int)), (27, .int .i64 (k : Int))]) w27
    refine g_seq ?_
    refine g_region ?_
    by_cases hc30 : (k : Int) < (l.length : Int)
    · skip
      refine r_cons (s_lss true rfl rfl (dtrue hc30) rfl ?_)
      refine r_nil ?_
      refine g_seq ?_
      refine g_true rfl ?_
      refine g_skip ?_
      refine g_seq ?_
      refine g_block ?_
      refine g_seq ?_
      refine g_region ?_
      refine r_cons (s_indexAddr gA13 (off := oA14) (k : Int) 4 (oA14 + k * 4) (by exact congrArg (fun z_ => Value.slice z_ l.length cc2) (hp19 (by omega))) rfl el_22 (by omega) rfl rfl ?_)
      refine r_cons (s_loadAgg [.int .i64 ((l.getD k default).v.do_.v), .int .i64 ((l.getD k default).v.who.v), .int .i64 ((l.getD k default).v.n.v), .slice ((l.getD k default).p) ((l.getD k default).v.body.length) ((l.getD k default).c)] 4 ag_28 rfl (H28.imi_at (i := 1) rfl (by omega)) (by have := elem_size (i := k) (s := 4) (hs21 (by omega)) (by omega); omega) (elem_take actCell_len (hx20 (by omega)) (by omega) default) rfl ?_)
      refine r_cons (s_alloc H28 28 ze_28 rfl ?_); intro bk31 w32 H33
      refine r_cons (s_storeAgg H33 0 #[.int .i64 ((l.getD k default).v.do_.v), .int .i64 ((l.getD k default).v.who.v), .int .i64 ((l.getD k default).v.n.v), .slice ((l.getD k default).p) ((l.getD k default).v.body.length) ((l.getD k default).c)] 4 rfl rfl rfl sz_28 rfl (by simp [Value.oneCell']) (Nat.le_of_ble_eq_true rfl) (fun o h1 h2 => by first | (simp; done) | (simp; omega)) (cs' := #[.int .i64 ((l.getD k default).v.do_.v), .int .i64 ((l.getD k default).v.who.v), .int .i64 ((l.getD k default).v.n.v), .slice ((l.getD k default).p) ((l.getD k default).v.body.length) ((l.getD k default).c)]) rfl ?_); intro w34 H35
      refine r_nil ?_
      refine g_seq ?_
      refine g_region ?_
      have H36 : St W w34 (Im 1 (.slice ((l.getD k default).p) ((l.getD k default).v.body.length) ((l.getD k default).c)) (((l.getD k default).v.body).length) (((l.getD k default).v.body).flatMap u8c) :: blk bk31 (.cells #[.int .i64 ((l.getD k default).v.do_.v), .int .i64 ((l.getD k default).v.who.v), .int .i64 ((l.getD k default).v.n.v), .slice ((l.getD k default).p) ((l.getD k default).v.body.length) ((l.getD k default).c)] 28 (0, 0)) :: PairA bk6 P :: imi (0 < l.length) gA13 (.cells kA15 eA16 zA17) :: byA (l.map ActD.by) :: F) := byA_at H35 (i := 3) rfl (act_at (k := k) (by omega))
      have hI2 := hI.act (by omega) (l.getD k default).v
      refine r_cons (s_move (.pointer (some ⟨bk6, 0, none⟩)) rfl rfl ?_)
      refine r_cons (s_loadAgg [.int .i64 ((l.getD k default).v.do_.v), .int .i64 ((l.getD k default).v.who.v), .int .i64 ((l.getD k default).v.n.v), .slice ((l.getD k default).p) ((l.getD k default).v.body.length) ((l.getD k default).c)] 4 ag_28 rfl (H36.blk_at (i := 1) rfl) (Nat.le_of_ble_eq_true rfl) rfl rfl ?_)
      have H37 : St W w34 (PairA bk6 P :: Im 1 (.slice ((l.getD k default).p) ((l.getD k default).v.body.length) ((l.getD k default).c)) (((l.getD k default).v.body).length) (((l.getD k default).v.body).flatMap u8c) :: blk bk31 (.cells #[.int .i64 ((l.getD k default).v.do_.v), .int .i64 ((l.getD k default).v.who.v), .int .i64 ((l.getD k default).v.n.v), .slice ((l.getD k default).p) ((l.getD k default).v.body.length) ((l.getD k default).c)] 28 (0, 0)) :: imi (0 < l.length) gA13 (.cells kA15 eA16 zA17) :: byA (l.map ActD.by) :: F) := (H36.move 2 rfl)
      refine r_cons (s_call [.pointer (some ⟨bk6, 0, none⟩), .agg #[.int .i64 ((l.getD k default).v.do_.v), .int .i64 ((l.getD k default).v.who.v), .int .i64 ((l.getD k default).v.n.v), .slice ((l.getD k default).p) ((l.getD k default).v.body.length) ((l.getD k default).c)]] pl_9 rfl rfl (act_ (slN x.v) k bk6 P (l.getD k default).v (.slice ((l.getD k default).p) ((l.getD k default).v.body.length) ((l.getD k default).c)) hI (by omega) (j := 0) rfl H37) ?_)
      rintro _ w38 ⟨rfl, H39⟩
      refine r_cons (s_not true rfl false rfl rfl ?_)
      refine r_nil ?_
      refine g_false rfl ?_
      refine g_skip ?_
      refine g_inBlock ?_
      refine g_region ?_
      refine r_cons (s_add ((k : Int) + 1) rfl rfl (wi64 (by omega)) rfl ?_)
      refine r_cons (s_move (.int .i64 ((k : Int) + 1)) rfl rfl ?_)
      refine r_nil ?_
      have H40 : St W w38 (PairA bk6 (actP P (l.getD k default).v) :: imi (0 < l.length) gA13 (.cells kA15 eA16 zA17) :: byA (l.map ActD.by) :: F) := (((((H39.move 4 rfl).move 4 rfl).move 2 rfl).drop 3 rfl).drop 3 rfl)
      exact nx29 (k + 1, (actP P (l.getD k default).v)) _ _ ⟨(by omega), hI2, H40⟩ (by first | (dsimp only; omega) | omega) ⟨by first | rfl | exact vint (by omega), by first | rfl | exact vint (by omega), by first | rfl | exact vint (by omega), by first | rfl | exact vint (by omega), by first | rfl | exact vint (by omega), by first | rfl | exact vint (by omega), trivial⟩
    · skip
      refine r_cons (s_lss false rfl rfl (dfalse hc30) rfl ?_)
      refine r_nil ?_
      refine g_seq ?_
      refine g_false rfl ?_
      refine g_exit (by rfl) ?_
      refine g_seq ?_
      have H41 := H28.move 0 rfl
      obtain ⟨⟨l42, l43, pp44, cc45, pp46, cc47, pp48, cc49, pp50, cc51, pp52, cc53, pp54, cc55⟩, H56⟩ := St.open_ex H41
      have H57 := St.open_star H56
      have H58 : St W w27 (blk bk6 (.cells #[.pointer (some ⟨l42, 0, none⟩), .pointer (some ⟨l43, 0, none⟩), .slice pp44 P.g0.length cc45, .slice pp46 P.g1.length cc47, .slice pp48 P.c0.length cc49, .slice pp50 P.c1.length cc51, .slice pp52 P.t0.length cc53, .slice pp54 P.t1.length cc55] 37 (0, 0)) :: LkA l42 P.e0 :: LkA l43 P.e1 :: BysA pp44 cc45 P.g0 :: BysA pp46 cc47 P.g1 :: BysA pp48 cc49 P.c0 :: BysA pp50 cc51 P.c1 :: DgsA pp52 cc53 P.t0 :: DgsA pp54 cc55 P.t1 :: imi (0 < l.length) gA13 (.cells kA15 eA16 zA17) :: byA (l.map ActD.by) :: F) := H57
      have y1 := hI.a.d.len; have y2 := hI.b.d.len; have y3 := hI.a.g; have y4 := hI.b.g
      change P.e1.acked + P.e1.l.length = P.g1.length at y2; change P.g1.length ≤ k at y4
      obtain ⟨q9, hq9⟩ : ∃ q, q = (P.e0.l.length + P.e1.l.length + slN x.v - 1) / slN x.v := ⟨_, rfl⟩
      have y5 : q9 ≤ P.e0.l.length + P.e1.l.length + slN x.v - 1 := by rw [hq9]; exact Nat.div_le_self _ _
      have y6 : P.e0.l.length + P.e1.l.length ≤ q9 * slN x.v := by rw [hq9]; exact ceil_ok hsl.1
      refine g_quiet (fun w' => St W w' (blk bk6 (.cells #[.pointer (some ⟨l42, 0, none⟩), .pointer (some ⟨l43, 0, none⟩), .slice pp44 P.g0.length cc45, .slice pp46 P.g1.length cc47, .slice pp48 P.c0.length cc49, .slice pp50 P.c1.length cc51, .slice pp52 P.t0.length cc53, .slice pp54 P.t1.length cc55] 37 (0, 0)) :: LkA l42 P.e0 :: LkA l43 P.e1 :: BysA pp44 cc45 P.g0 :: BysA pp46 cc47 P.g1 :: BysA pp48 cc49 P.c0 :: BysA pp50 cc51 P.c1 :: DgsA pp52 cc53 P.t0 :: DgsA pp54 cc55 P.t1 :: imi (0 < l.length) gA13 (.cells kA15 eA16 zA17) :: byA (l.map ActD.by) :: F)) mixed (by kernel_rfl) H58.drew ?_
      refine q_cons (q_val rfl rfl rfl (by intro w hw; exact x_move (.pointer (some ⟨bk6, 0, none⟩)) rfl w) ?_)
      refine q_cons (q_val rfl rfl rfl (by intro w hw; exact x_nilCheck (.pointer (some ⟨bk6, 0, none⟩)) rfl ⟨_, rfl⟩ w) ?_)
      refine q_cons (q_val rfl rfl rfl (by intro w hw; exact x_fieldAddr 37 0 0 0 31 rfl fi_37_0 rfl w) ?_)
      refine q_cons (q_val rfl rfl rfl (by intro w hw; exact x_indexAddr_arr 0 1 0 rfl rfl ar_31 (by omega) rfl w) ?_)
      refine q_cons (q_val rfl rfl rfl (by intro w hw; exact x_load (.pointer (some ⟨l42, 0, none⟩)) ag_30 rfl (hw.blk_at (i := 0) rfl) rfl) ?_)
      refine q_cons (q_enter (args := #[.pointer (some ⟨l42, 0, none⟩)]) (v := .int .i64 (P.e0.l.length : Int)) rfl rfl rfl (x_call pl_10 [.pointer (some ⟨l42, 0, none⟩)] rfl) (fun w hw => Lk_Waiting l42 P.e0 hI.a.ok (i := 1) rfl hw) ?_)
      refine q_cons (q_val rfl rfl rfl (by intro w hw; exact x_move (.pointer (some ⟨bk6, 0, none⟩)) rfl w) ?_)
      refine q_cons (q_val rfl rfl rfl (by intro w hw; exact x_nilCheck (.pointer (some ⟨bk6, 0, none⟩)) rfl ⟨_, rfl⟩ w) ?_)
      refine q_cons (q_val rfl rfl rfl (by intro w hw; exact x_fieldAddr 37 0 0 0 31 rfl fi_37_0 rfl w) ?_)
      refine q_cons (q_val rfl rfl rfl (by intro w hw; exact x_indexAddr_arr 1 1 1 rfl rfl ar_31 (by omega) rfl w) ?_)
      refine q_cons (q_val rfl rfl rfl (by intro w hw; exact x_load (.pointer (some ⟨l43, 0, none⟩)) ag_30 rfl (hw.blk_at (i := 0) rfl) rfl) ?_)
      refine q_cons (q_enter (args := #[.pointer (some ⟨l43, 0, none⟩)]) (v := .int .i64 (P.e1.l.length : Int)) rfl rfl rfl (x_call pl_10 [.pointer (some ⟨l43, 0, none⟩)] rfl) (fun w hw => Lk_Waiting l43 P.e1 hI.b.ok (i := 2) rfl hw) ?_)
      refine q_cons (q_val rfl rfl rfl (by intro w hw; exact x_add ((P.e0.l.length : Int) + (P.e1.l.length : Int)) rfl rfl (wi64 (by omega)) w) ?_)
      refine q_cons (q_val rfl rfl rfl (by intro w hw; exact x_assign (.int .i64 ((P.e0.l.length : Int) + (P.e1.l.length : Int))) rfl w) ?_)
      refine q_nil ?_
      intro w59 H60
      refine g_seq ?_
      refine g_region ?_
      refine r_cons (s_move (.int .i64 ((P.e0.l.length : Int) + (P.e1.l.length : Int))) rfl rfl ?_)
      refine r_cons (s_move (.int .i64 ((slN x.v : Nat) : Int)) rfl rfl ?_)
      refine r_cons (s_add ((P.e0.l.length : Int) + (P.e1.l.length : Int) + ((slN x.v : Nat) : Int)) rfl rfl (wi64 (by omega)) rfl ?_)
      refine r_cons (s_sub ((P.e0.l.length : Int) + (P.e1.l.length : Int) + ((slN x.v : Nat) : Int) - 1) rfl rfl (wi64 (by omega)) rfl ?_)
      refine r_cons (s_move (.int .i64 ((slN x.v : Nat) : Int)) rfl rfl ?_)
      refine r_cons (s_quo ((q9 : Nat) : Int) rfl rfl (by omega) ((quoN hsl.1 (by omega)).trans (by rw [hq9])) rfl ?_)
      refine r_cons (s_add ((2 + q9 : Nat) : Int) rfl rfl ((wi64 (by omega)).trans (by omega)) rfl ?_)
      refine r_cons (s_mul ((5 * (2 + q9) : Nat) : Int) rfl rfl ((wi64 (by omega)).trans (by omega)) rfl ?_)
      refine r_cons (s_assign (.int .i64 ((5 * (2 + q9) : Nat) : Int)) rfl rfl ?_)
      refine r_nil ?_
      refine g_seq ?_
      refine g_seq ?_
      refine g_region ?_
      refine r_cons (s_move (.int .i64 ((5 * (2 + q9) : Nat) : Int)) rfl rfl ?_)
      refine r_cons (s_move (.int .i64 0) rfl rfl ?_)
      refine r_nil ?_
      refine g_block ?_
      have H61 : St W w59 (PairA bk6 P :: imi (0 < l.length) gA13 (.cells kA15 eA16 zA17) :: byA (l.map ActD.by) :: F) := St.shut_ex (⟨l42, l43, pp44, cc45, pp46, cc47, pp48, cc49, pp50, cc51, pp52, cc53, pp54, cc55⟩ : PairQ) (St.shut_star (ls := [blk bk6 (.cells #[.pointer (some ⟨l42, 0, none⟩), .pointer (some ⟨l43, 0, none⟩), .slice pp44 P.g0.length cc45, .slice pp46 P.g1.length cc47, .slice pp48 P.c0.length cc49, .slice pp50 P.c1.length cc51, .slice pp52 P.t0.length cc53, .slice pp54 P.t1.length cc55] 37 (0, 0)), LkA l42 P.e0, LkA l43 P.e1, BysA pp44 cc45 P.g0, BysA pp46 cc47 P.g1, BysA pp48 cc49 P.c0, BysA pp50 cc51 P.c1, DgsA pp52 cc53 P.t0, DgsA pp54 cc55 P.t1]) H60)
      have H62 : St W w59 (PairA bk6 P :: F) := ((H61.drop 1 rfl).drop 1 rfl)
      have H63 : St W w59 (PairA bk6 (rounds 0 P) :: F) := H62
      refine g_loop_inv (fun (x_ : Nat) => match x_ with | m => [(4, .bool false), (5, .pointer (some ⟨bk6, 0, none⟩)), (57, .int .i64 ((5 * (2 + q9) : Nat) : Int)), (58, .int .i64 (m : Int))]) (fun (x_ : Nat) w => match x_ with | m => (m ≤ 5 * (2 + q9)) ∧ St W w (PairA bk6 (rounds m P) :: F)) (fun (x_ : Nat) => match x_ with | m => 5 * (2 + q9) - m) (0) ?_ ?_ ?_
      · exact ⟨by first | rfl | exact vint (by omega), by first | rfl | exact vint (by omega), by first | rfl | exact vint (by omega), by first | rfl | exact vint (by omega), trivial⟩
      · exact ⟨(by omega), H63⟩
      · rintro m ρ64 w65 ⟨hm, H66⟩ nx67
        change Ends _ _ (upds ρ64 [(4, .bool false), (5, .pointer (some ⟨bk6, 0, none⟩)), (57, .int .i64 ((5 * (2 + q9) : Nat) : Int)), (58, .int .i64 (m : Int))]) w65
        obtain ⟨R9, hR9⟩ : ∃ z, z = rounds m P := ⟨_, rfl⟩
        have hcm : m = 5 * (2 + q9) → _ := fun e => by have hc := comes hI q9 (by omega) y6 hsl.1; rw [← e, ← hR9] at hc; exact hc
        have hI9 : m ≤ 4294967296 → Inv (slN x.v) (k + 2 * m) R9 := fun hm => by rw [hR9]; exact (rounds_is hI m (by omega)).1
        replace hI9 := hI9 (by omega)
        have H68 : St W w65 (PairA bk6 R9 :: F) := by rw [hR9]; exact H66
        refine g_seq ?_
        refine g_region ?_
        by_cases hc69 : (m : Int) < ((5 * (2 + q9) : Nat) : Int)
        · skip
          refine r_cons (s_lss true rfl rfl (dtrue hc69) rfl ?_)
          refine r_nil ?_
          refine g_seq ?_
          refine g_true rfl ?_
          refine g_skip ?_
          refine g_seq ?_
          refine g_block ?_
          refine g_seq ?_
          refine g_region ?_
          refine r_cons (s_move (.int .i64 0) rfl rfl ?_)
          refine r_nil ?_
          refine g_block ?_
          refine g_loop ?_
          refine g_seq ?_
          refine g_region ?_
          refine r_cons (s_lss true rfl rfl (dtrue (by decide)) rfl ?_)
          refine r_nil ?_
          refine g_seq ?_
          refine g_true rfl ?_
          refine g_skip ?_
          refine g_seq ?_
          refine g_block ?_
          refine g_seq ?_
          refine g_region ?_
          refine r_cons (s_move (.int .i64 0) rfl rfl ?_)
          refine r_cons (s_assign (.int .i64 0) rfl rfl ?_)
          refine r_nil ?_
          refine g_seq ?_
          refine g_region ?_
          refine r_cons (s_move (.pointer (some ⟨bk6, 0, none⟩)) rfl rfl ?_)
          refine r_cons (s_move (.int .i64 0) rfl rfl ?_)
          refine r_cons (s_nilCheck (.pointer (some ⟨bk6, 0, none⟩)) rfl ⟨_, rfl⟩ rfl ?_)
          refine r_cons (s_fieldAddr 37 0 0 0 31 rfl fi_37_0 rfl rfl ?_)
          refine r_cons (s_indexAddr_arr 0 1 0 rfl rfl ar_31 (by omega) rfl rfl ?_)
          have H70 := H68.move 0 rfl
          obtain ⟨⟨l71, l72, pp73, cc74, pp75, cc76, pp77, cc78, pp79, cc80, pp81, cc82, pp83, cc84⟩, H85⟩ := St.open_ex H70
          have H86 := St.open_star H85
          have H87 : St W w65 (blk bk6 (.cells #[.pointer (some ⟨l71, 0, none⟩), .pointer (some ⟨l72, 0, none⟩), .slice pp73 R9.g0.length cc74, .slice pp75 R9.g1.length cc76, .slice pp77 R9.c0.length cc78, .slice pp79 R9.c1.length cc80, .slice pp81 R9.t0.length cc82, .slice pp83 R9.t1.length cc84] 37 (0, 0)) :: LkA l71 R9.e0 :: LkA l72 R9.e1 :: BysA pp73 cc74 R9.g0 :: BysA pp75 cc76 R9.g1 :: BysA pp77 cc78 R9.c0 :: BysA pp79 cc80 R9.c1 :: DgsA pp81 cc82 R9.t0 :: DgsA pp83 cc84 R9.t1 :: F) := H86
          refine r_cons (s_load (.pointer (some ⟨l71, 0, none⟩)) ag_30 rfl (H87.blk_at (i := 0) rfl) rfl rfl ?_)
          refine r_cons (s_call [.pointer (some ⟨l71, 0, none⟩)] pl_11 rfl rfl (Lk_Tick l71 R9.e0 hI9.a.ok (by have h9 := hI9.a.clk; omega) (i := 1) rfl H87) ?_)
          rintro _ w90 ⟨pp88, cc89, rfl, H91⟩
          refine r_cons (s_len ((tickT R9.e0).length) rfl ⟨_, un_34⟩ rfl ?_)
          refine r_cons (s_move (.int .i64 0) rfl rfl ?_)
          refine r_nil ?_
          refine g_block ?_
          have H92 := H91.move 0 rfl
          obtain ⟨⟨D93, hD94⟩, H95⟩ := St.open_ex H92
          have H96 := St.open_star H95
          change D93.map DgD.d = (tickT R9.e0) at hD94
          have hlhD94 := lenOf hD94
          have H97 : St W w90 (Row 41 6 (.slice pp88 D93.length cc89) D93.length (D93.flatMap dgdCell) :: byA (D93.map DgD.by) :: blk bk6 (.cells #[.pointer (some ⟨l71, 0, none⟩), .pointer (some ⟨l72, 0, none⟩), .slice pp73 R9.g0.length cc74, .slice pp75 R9.g1.length cc76, .slice pp77 R9.c0.length cc78, .slice pp79 R9.c1.length cc80, .slice pp81 R9.t0.length cc82, .slice pp83 R9.t1.length cc84] 37 (0, 0)) :: LkA l71 (tickS R9.e0) :: LkA l72 R9.e1 :: BysA pp73 cc74 R9.g0 :: BysA pp75 cc76 R9.g1 :: BysA pp77 cc78 R9.c0 :: BysA pp79 cc80 R9.c1 :: DgsA pp81 cc82 R9.t0 :: DgsA pp83 cc84 R9.t1 :: F) := by rw [show D93.length = (tickT R9.e0).length from hlhD94]; exact H96
          have hDlD93 := lenOf hD94
          have H98 : St W w90 (Im 6 (.slice pp88 D93.length cc89) D93.length (D93.flatMap dgdCell) :: byA (D93.map DgD.by) :: blk bk6 (.cells #[.pointer (some ⟨l71, 0, none⟩), .pointer (some ⟨l72, 0, none⟩), .slice pp73 R9.g0.length cc74, .slice pp75 R9.g1.length cc76, .slice pp77 R9.c0.length cc78, .slice pp79 R9.c1.length cc80, .slice pp81 R9.t0.length cc82, .slice pp83 R9.t1.length cc84] 37 (0, 0)) :: LkA l71 (tickS R9.e0) :: LkA l72 R9.e1 :: BysA pp73 cc74 R9.g0 :: BysA pp75 cc76 R9.g1 :: BysA pp77 cc78 R9.c0 :: BysA pp79 cc80 R9.c1 :: DgsA pp81 cc82 R9.t0 :: DgsA pp83 cc84 R9.t1 :: F) := Row.im H97 (i := 0) rfl
          obtain ⟨pA99, cA100, gA101, oA102, kA103, eA104, zA105, he111, hn106, hp107, hx108, hs109, hml, H110⟩ := Im.open_ H98 (i := 0) rfl
          obtain ⟨rfl, rfl⟩ : pp88 = pA99 ∧ cc89 = cA100 := by injection he111 with a_ b_ c_; exact ⟨a_, c_⟩
          have H112 : St W w90 (blk bk6 (.cells #[.pointer (some ⟨l71, 0, none⟩), .pointer (some ⟨l72, 0, none⟩), .slice pp73 R9.g0.length cc74, .slice pp75 R9.g1.length cc76, .slice pp77 R9.c0.length cc78, .slice pp79 R9.c1.length cc80, .slice pp81 R9.t0.length cc82, .slice pp83 R9.t1.length cc84] 37 (0, 0)) :: LkA l71 (tickS R9.e0) :: LkA l72 R9.e1 :: BysA pp73 cc74 R9.g0 :: BysA pp75 cc76 R9.g1 :: BysA pp77 cc78 R9.c0 :: BysA pp79 cc80 R9.c1 :: DgsA pp81 cc82 R9.t0 :: DgsA pp83 cc84 R9.t1 :: imi (0 < D93.length) gA101 (.cells kA103 eA104 zA105) :: Im 6 (.slice pp88 D93.length cc89) D93.length (D93.flatMap dgdCell) :: byA (D93.map DgD.by) :: F) := (((((((((H110.move 11 rfl).move 11 rfl).move 11 rfl).move 11 rfl).move 11 rfl).move 11 rfl).move 11 rfl).move 11 rfl).move 11 rfl)
          have H113 : St W w90 (PairA bk6 (passL (go0 R9) ((tickT R9.e0).take 0)) :: imi (0 < D93.length) gA101 (.cells kA103 eA104 zA105) :: Im 6 (.slice pp88 D93.length cc89) D93.length (D93.flatMap dgdCell) :: byA (D93.map DgD.by) :: F) := St.shut_ex (⟨l71, l72, pp73, cc74, pp75, cc76, pp77, cc78, pp79, cc80, pp81, cc82, pp83, cc84⟩ : PairQ) (St.shut_star (ls := [blk bk6 (.cells #[.pointer (some ⟨l71, 0, none⟩), .pointer (some ⟨l72, 0, none⟩), .slice pp73 R9.g0.length cc74, .slice pp75 R9.g1.length cc76, .slice pp77 R9.c0.length cc78, .slice pp79 R9.c1.length cc80, .slice pp81 R9.t0.length cc82, .slice pp83 R9.t1.length cc84] 37 (0, 0)), LkA l71 (tickS R9.e0), LkA l72 R9.e1, BysA pp73 cc74 R9.g0, BysA pp75 cc76 R9.g1, BysA pp77 cc78 R9.c0, BysA pp79 cc80 R9.c1, DgsA pp81 cc82 R9.t0, DgsA pp83 cc84 R9.t1]) H112)
          have H114 : St W w90 (PairA bk6 (passL (go0 R9) ((tickT R9.e0).take 0)) :: imi (0 < D93.length) gA101 (.cells kA103 eA104 zA105) :: byA (D93.map DgD.by) :: F) := ((((H113.move 3 rfl).move 2 rfl).move 2 rfl).drop 3 rfl)
          refine g_loop_inv (fun (x_ : Nat) => match x_ with | i5 => [(4, .bool false), (5, .pointer (some ⟨bk6, 0, none⟩)), (57, .int .i64 ((5 * (2 + q9) : Nat) : Int)), (58, .int .i64 (m : Int)), (60, .int .i64 0), (10, .int .i64 0), (69, .slice pp88 ((tickT R9.e0).length) cc89), (70, .int .i64 ((tickT R9.e0).length : Int)), (71, .int .i64 (i5 : Int))]) (fun (x_ : Nat) w => match x_ with | i5 => (i5 ≤ D93.length) ∧ St W w (PairA bk6 (passL (go0 R9) ((tickT R9.e0).take i5)) :: imi (0 < D93.length) gA101 (.cells kA103 eA104 zA105) :: byA (D93.map DgD.by) :: F)) (fun (x_ : Nat) => match x_ with | i5 => D93.length - i5) (0) ?_ ?_ ?_
          · exact ⟨by first | rfl | exact vint (by omega), by first | rfl | exact vint (by omega), by first | rfl | exact vint (by omega), by first | rfl | exact vint (by omega), by first | rfl | exact vint (by omega), by first | rfl | exact vint (by omega), by first | rfl | exact vint (by omega), by first | rfl | exact vint (by omega), by first | rfl | exact vint (by omega), trivial⟩
          · exact ⟨(by omega), H114⟩
          · rintro i5 ρ115 w116 ⟨hi5, H117⟩ nx118
            change Ends _ _ (upds ρ115 [(4, .bool false), (5, .pointer (some ⟨bk6, 0, none⟩)), (57, .int .i64 ((5 * (2 + q9) : Nat) : Int)), (58, .int .i64 (m : Int)), (60, .int .i64 0), (10, .int .i64 0), (69, .slice pp88 ((tickT R9.e0).length) cc89), (70, .int .i64 ((tickT R9.e0).length : Int)), (71, .int .i64 (i5 : Int))]) w116
            refine g_seq ?_
            refine g_region ?_
            by_cases hc119 : (i5 : Int) < ((tickT R9.e0).length : Int)
            · skip
              refine r_cons (s_lss true rfl rfl (dtrue hc119) rfl ?_)
              refine r_nil ?_
              refine g_seq ?_
              refine g_true rfl ?_
              refine g_skip ?_
              refine g_seq ?_
              refine g_block ?_
              refine g_seq ?_
              refine g_region ?_
              refine r_cons (s_indexAddr gA101 (off := oA102) (i5 : Int) 6 (oA102 + i5 * 6) (by exact congrArg (fun z_ => Value.slice z_ ((tickT R9.e0).length) cc89) (hp107 (by omega))) rfl el_34 (by omega) rfl rfl ?_)
              refine r_cons (s_loadAgg [.int .i64 ((D93.getD i5 default).d.frm.v), .int .i64 ((D93.getD i5 default).d.to_.v), .int .i64 ((D93.getD i5 default).d.kind.v), .int .i64 ((D93.getD i5 default).d.seq.v), .int .i64 ((D93.getD i5 default).d.ack.v), .slice ((D93.getD i5 default).p) ((D93.getD i5 default).d.body.length) ((D93.getD i5 default).c)] 6 ag_41 rfl (H117.imi_at (i := 1) rfl (by omega)) (by have := elem_size (i := i5) (s := 6) (hs109 (by omega)) (by omega); omega) (elem_take dgdCell_len (hx108 (by omega)) (by omega) default) rfl ?_)
              refine r_cons (s_alloc H117 41 ze_41 rfl ?_); intro bk120 w121 H122
              refine r_cons (s_storeAgg H122 0 #[.int .i64 ((D93.getD i5 default).d.frm.v), .int .i64 ((D93.getD i5 default).d.to_.v), .int .i64 ((D93.getD i5 default).d.kind.v), .int .i64 ((D93.getD i5 default).d.seq.v), .int .i64 ((D93.getD i5 default).d.ack.v), .slice ((D93.getD i5 default).p) ((D93.getD i5 default).d.body.length) ((D93.getD i5 default).c)] 6 rfl rfl rfl sz_41 rfl (by simp [Value.oneCell']) (Nat.le_of_ble_eq_true rfl) (fun o h1 h2 => by first | (simp; done) | (simp; omega)) (cs' := #[.int .i64 ((D93.getD i5 default).d.frm.v), .int .i64 ((D93.getD i5 default).d.to_.v), .int .i64 ((D93.getD i5 default).d.kind.v), .int .i64 ((D93.getD i5 default).d.seq.v), .int .i64 ((D93.getD i5 default).d.ack.v), .slice ((D93.getD i5 default).p) ((D93.getD i5 default).d.body.length) ((D93.getD i5 default).c)]) rfl ?_); intro w123 H124
              refine r_nil ?_
              refine g_seq ?_
              refine g_region ?_
              have H125 : St W w123 (Im 1 (.slice ((D93.getD i5 default).p) ((D93.getD i5 default).d.body.length) ((D93.getD i5 default).c)) (((D93.getD i5 default).d.body).length) (((D93.getD i5 default).d.body).flatMap u8c) :: blk bk120 (.cells #[.int .i64 ((D93.getD i5 default).d.frm.v), .int .i64 ((D93.getD i5 default).d.to_.v), .int .i64 ((D93.getD i5 default).d.kind.v), .int .i64 ((D93.getD i5 default).d.seq.v), .int .i64 ((D93.getD i5 default).d.ack.v), .slice ((D93.getD i5 default).p) ((D93.getD i5 default).d.body.length) ((D93.getD i5 default).c)] 41 (0, 0)) :: PairA bk6 (passL (go0 R9) ((tickT R9.e0).take i5)) :: imi (0 < D93.length) gA101 (.cells kA103 eA104 zA105) :: byA (D93.map DgD.by) :: F) := byA_at H124 (i := 3) rfl (dg_at (k := i5) (by omega))
              have hTi := passTake hI9 (by omega) i5; have hTd := hTi.2 i5 (by show i5 < (tickT R9.e0).length; omega); rw [show (tickT R9.e0).getD i5 default = (D93.getD i5 default).d from (dgAt hD94 i5).symm] at hTd
              refine r_cons (s_move (.pointer (some ⟨bk6, 0, none⟩)) rfl rfl ?_)
              refine r_cons (s_move (.int .i64 0) rfl rfl ?_)
              refine r_cons (s_loadAgg [.int .i64 ((D93.getD i5 default).d.frm.v), .int .i64 ((D93.getD i5 default).d.to_.v), .int .i64 ((D93.getD i5 default).d.kind.v), .int .i64 ((D93.getD i5 default).d.seq.v), .int .i64 ((D93.getD i5 default).d.ack.v), .slice ((D93.getD i5 default).p) ((D93.getD i5 default).d.body.length) ((D93.getD i5 default).c)] 6 ag_41 rfl (H125.blk_at (i := 1) rfl) (Nat.le_of_ble_eq_true rfl) rfl rfl ?_)
              have H126 : St W w123 (PairA bk6 (passL (go0 R9) ((tickT R9.e0).take i5)) :: Im 1 (.slice ((D93.getD i5 default).p) ((D93.getD i5 default).d.body.length) ((D93.getD i5 default).c)) (((D93.getD i5 default).d.body).length) (((D93.getD i5 default).d.body).flatMap u8c) :: blk bk120 (.cells #[.int .i64 ((D93.getD i5 default).d.frm.v), .int .i64 ((D93.getD i5 default).d.to_.v), .int .i64 ((D93.getD i5 default).d.kind.v), .int .i64 ((D93.getD i5 default).d.seq.v), .int .i64 ((D93.getD i5 default).d.ack.v), .slice ((D93.getD i5 default).p) ((D93.getD i5 default).d.body.length) ((D93.getD i5 default).c)] 41 (0, 0)) :: imi (0 < D93.length) gA101 (.cells kA103 eA104 zA105) :: byA (D93.map DgD.by) :: F) := (H125.move 2 rfl)
              refine r_cons (s_call [.pointer (some ⟨bk6, 0, none⟩), .int .i64 0, .agg #[.int .i64 ((D93.getD i5 default).d.frm.v), .int .i64 ((D93.getD i5 default).d.to_.v), .int .i64 ((D93.getD i5 default).d.kind.v), .int .i64 ((D93.getD i5 default).d.seq.v), .int .i64 ((D93.getD i5 default).d.ack.v), .slice ((D93.getD i5 default).p) ((D93.getD i5 default).d.body.length) ((D93.getD i5 default).c)]] pl_12 rfl rfl (passes_0 bk6 (passL (go0 R9) ((tickT R9.e0).take i5)) ((D93.getD i5 default).d) (.slice ((D93.getD i5 default).p) ((D93.getD i5 default).d.body.length) ((D93.getD i5 default).c)) hTi.1.b.ok (hTi.1.takes hTd) (hTi.1.heldN (by omega)) (Nat.le_trans hTi.1.begins.2.1 (Nat.le_trans hTi.1.a.g (by omega))) (hTi.1.takeN (by omega) hTd) (j := 0) rfl H126) ?_)
              rintro _ w127 ⟨rfl, H128⟩
              refine r_cons (s_not true rfl false rfl rfl ?_)
              refine r_nil ?_
              refine g_false rfl ?_
              refine g_skip ?_
              refine g_inBlock ?_
              refine g_region ?_
              refine r_cons (s_add ((i5 : Int) + 1) rfl rfl (wi64 (by omega)) rfl ?_)
              refine r_cons (s_move (.int .i64 ((i5 : Int) + 1)) rfl rfl ?_)
              refine r_nil ?_
              have H129 : St W w127 (PairA bk6 (passL (go0 R9) ((tickT R9.e0).take (i5 + 1))) :: Im 1 (.slice ((D93.getD i5 default).p) ((D93.getD i5 default).d.body.length) ((D93.getD i5 default).c)) (((D93.getD i5 default).d.body).length) (((D93.getD i5 default).d.body).flatMap u8c) :: blk bk120 (.cells #[.int .i64 ((D93.getD i5 default).d.frm.v), .int .i64 ((D93.getD i5 default).d.to_.v), .int .i64 ((D93.getD i5 default).d.kind.v), .int .i64 ((D93.getD i5 default).d.seq.v), .int .i64 ((D93.getD i5 default).d.ack.v), .slice ((D93.getD i5 default).p) ((D93.getD i5 default).d.body.length) ((D93.getD i5 default).c)] 41 (0, 0)) :: imi (0 < D93.length) gA101 (.cells kA103 eA104 zA105) :: byA (D93.map DgD.by) :: F) := by rw [passL_snoc (go0 R9) (tickT R9.e0) (i := i5) (by omega), ← dgAt hD94 i5]; exact H128
              have H130 : St W w127 (PairA bk6 (passL (go0 R9) ((tickT R9.e0).take (i5 + 1))) :: imi (0 < D93.length) gA101 (.cells kA103 eA104 zA105) :: byA (D93.map DgD.by) :: F) := (((((H129.move 4 rfl).move 4 rfl).move 2 rfl).drop 3 rfl).drop 3 rfl)
              exact nx118 (i5 + 1) _ _ ⟨(by omega), H130⟩ (by first | (dsimp only; omega) | omega) ⟨by first | rfl | exact vint (by omega), by first | rfl | exact vint (by omega), by first | rfl | exact vint (by omega), by first | rfl | exact vint (by omega), by first | rfl | exact vint (by omega), by first | rfl | exact vint (by omega), by first | rfl | exact vint (by omega), by first | rfl | exact vint (by omega), by first | rfl | exact vint (by omega), trivial⟩
            · skip
              refine r_cons (s_lss false rfl rfl (dfalse hc119) rfl ?_)
              refine r_nil ?_
              refine g_seq ?_
              refine g_false rfl ?_
              refine g_exit (by rfl) ?_
              refine g_inBlock ?_
              refine g_region ?_
              obtain ⟨R8, hR8⟩ : ∃ z, z = half0 R9 := ⟨_, rfl⟩
              have hI8 : Inv (slN x.v) (k + 2 * m + 1) (swp R8) := by rw [hR8]; exact (half_is hI9 (by omega)).1.swp
              have H131 : St W w116 (PairA bk6 R8 :: imi (0 < D93.length) gA101 (.cells kA103 eA104 zA105) :: byA (D93.map DgD.by) :: F) := by rw [hR8, ← passAll R9 (i := i5) (by omega)]; exact H117
              refine r_cons (s_add 1 rfl rfl (wi64 (by omega)) rfl ?_)
              refine r_cons (s_move (.int .i64 1) rfl rfl ?_)
              refine r_nil ?_
              refine g_inLoop ?_
              refine g_seq ?_
              refine g_region ?_
              refine r_cons (s_lss true rfl rfl (dtrue (by decide)) rfl ?_)
              refine r_nil ?_
              refine g_seq ?_
              refine g_true rfl ?_
              refine g_skip ?_
              refine g_seq ?_
              refine g_block ?_
              refine g_seq ?_
              refine g_region ?_
              refine r_cons (s_move (.int .i64 1) rfl rfl ?_)
              refine r_cons (s_assign (.int .i64 1) rfl rfl ?_)
              refine r_nil ?_
              refine g_seq ?_
              refine g_region ?_
              refine r_cons (s_move (.pointer (some ⟨bk6, 0, none⟩)) rfl rfl ?_)
              refine r_cons (s_move (.int .i64 1) rfl rfl ?_)
              refine r_cons (s_nilCheck (.pointer (some ⟨bk6, 0, none⟩)) rfl ⟨_, rfl⟩ rfl ?_)
              refine r_cons (s_fieldAddr 37 0 0 0 31 rfl fi_37_0 rfl rfl ?_)
              refine r_cons (s_indexAddr_arr 1 1 1 rfl rfl ar_31 (by omega) rfl rfl ?_)
              have H132 := H131.move 0 rfl
              obtain ⟨⟨l133, l134, pp135, cc136, pp137, cc138, pp139, cc140, pp141, cc142, pp143, cc144, pp145, cc146⟩, H147⟩ := St.open_ex H132
              have H148 := St.open_star H147
              have H149 : St W w116 (blk bk6 (.cells #[.pointer (some ⟨l133, 0, none⟩), .pointer (some ⟨l134, 0, none⟩), .slice pp135 R8.g0.length cc136, .slice pp137 R8.g1.length cc138, .slice pp139 R8.c0.length cc140, .slice pp141 R8.c1.length cc142, .slice pp143 R8.t0.length cc144, .slice pp145 R8.t1.length cc146] 37 (0, 0)) :: LkA l133 R8.e0 :: LkA l134 R8.e1 :: BysA pp135 cc136 R8.g0 :: BysA pp137 cc138 R8.g1 :: BysA pp139 cc140 R8.c0 :: BysA pp141 cc142 R8.c1 :: DgsA pp143 cc144 R8.t0 :: DgsA pp145 cc146 R8.t1 :: imi (0 < D93.length) gA101 (.cells kA103 eA104 zA105) :: byA (D93.map DgD.by) :: F) := H148
              refine r_cons (s_load (.pointer (some ⟨l134, 0, none⟩)) ag_30 rfl (H149.blk_at (i := 0) rfl) rfl rfl ?_)
              refine r_cons (s_call [.pointer (some ⟨l134, 0, none⟩)] pl_11 rfl rfl (Lk_Tick l134 R8.e1 hI8.a.ok (by have h9 := (show R8.e1.clock ≤ k + 2 * m + 1 from hI8.a.clk); omega) (i := 2) rfl H149) ?_)
              rintro _ w152 ⟨pp150, cc151, rfl, H153⟩
              refine r_cons (s_len ((tickT R8.e1).length) rfl ⟨_, un_34⟩ rfl ?_)
              refine r_cons (s_move (.int .i64 0) rfl rfl ?_)
              refine r_nil ?_
              refine g_block ?_
              have H154 := H153.move 0 rfl
              obtain ⟨⟨D155, hD156⟩, H157⟩ := St.open_ex H154
              have H158 := St.open_star H157
              change D155.map DgD.d = (tickT R8.e1) at hD156
              have hlhD156 := lenOf hD156
              have H159 : St W w152 (Row 41 6 (.slice pp150 D155.length cc151) D155.length (D155.flatMap dgdCell) :: byA (D155.map DgD.by) :: blk bk6 (.cells #[.pointer (some ⟨l133, 0, none⟩), .pointer (some ⟨l134, 0, none⟩), .slice pp135 R8.g0.length cc136, .slice pp137 R8.g1.length cc138, .slice pp139 R8.c0.length cc140, .slice pp141 R8.c1.length cc142, .slice pp143 R8.t0.length cc144, .slice pp145 R8.t1.length cc146] 37 (0, 0)) :: LkA l133 R8.e0 :: LkA l134 (tickS R8.e1) :: BysA pp135 cc136 R8.g0 :: BysA pp137 cc138 R8.g1 :: BysA pp139 cc140 R8.c0 :: BysA pp141 cc142 R8.c1 :: DgsA pp143 cc144 R8.t0 :: DgsA pp145 cc146 R8.t1 :: imi (0 < D93.length) gA101 (.cells kA103 eA104 zA105) :: byA (D93.map DgD.by) :: F) := by rw [show D155.length = (tickT R8.e1).length from hlhD156]; exact H158
              have hDlD155 := lenOf hD156
              have H160 : St W w152 (Im 6 (.slice pp150 D155.length cc151) D155.length (D155.flatMap dgdCell) :: byA (D155.map DgD.by) :: blk bk6 (.cells #[.pointer (some ⟨l133, 0, none⟩), .pointer (some ⟨l134, 0, none⟩), .slice pp135 R8.g0.length cc136, .slice pp137 R8.g1.length cc138, .slice pp139 R8.c0.length cc140, .slice pp141 R8.c1.length cc142, .slice pp143 R8.t0.length cc144, .slice pp145 R8.t1.length cc146] 37 (0, 0)) :: LkA l133 R8.e0 :: LkA l134 (tickS R8.e1) :: BysA pp135 cc136 R8.g0 :: BysA pp137 cc138 R8.g1 :: BysA pp139 cc140 R8.c0 :: BysA pp141 cc142 R8.c1 :: DgsA pp143 cc144 R8.t0 :: DgsA pp145 cc146 R8.t1 :: imi (0 < D93.length) gA101 (.cells kA103 eA104 zA105) :: byA (D93.map DgD.by) :: F) := Row.im H159 (i := 0) rfl
              obtain ⟨pA161, cA162, gA163, oA164, kA165, eA166, zA167, he173, hn168, hp169, hx170, hs171, hml, H172⟩ := Im.open_ H160 (i := 0) rfl
              obtain ⟨rfl, rfl⟩ : pp150 = pA161 ∧ cc151 = cA162 := by injection he173 with a_ b_ c_; exact ⟨a_, c_⟩
              have H174 : St W w152 (blk bk6 (.cells #[.pointer (some ⟨l133, 0, none⟩), .pointer (some ⟨l134, 0, none⟩), .slice pp135 R8.g0.length cc136, .slice pp137 R8.g1.length cc138, .slice pp139 R8.c0.length cc140, .slice pp141 R8.c1.length cc142, .slice pp143 R8.t0.length cc144, .slice pp145 R8.t1.length cc146] 37 (0, 0)) :: LkA l133 R8.e0 :: LkA l134 (tickS R8.e1) :: BysA pp135 cc136 R8.g0 :: BysA pp137 cc138 R8.g1 :: BysA pp139 cc140 R8.c0 :: BysA pp141 cc142 R8.c1 :: DgsA pp143 cc144 R8.t0 :: DgsA pp145 cc146 R8.t1 :: imi (0 < D155.length) gA163 (.cells kA165 eA166 zA167) :: Im 6 (.slice pp150 D155.length cc151) D155.length (D155.flatMap dgdCell) :: byA (D155.map DgD.by) :: imi (0 < D93.length) gA101 (.cells kA103 eA104 zA105) :: byA (D93.map DgD.by) :: F) := (((((((((H172.move 11 rfl).move 11 rfl).move 11 rfl).move 11 rfl).move 11 rfl).move 11 rfl).move 11 rfl).move 11 rfl).move 11 rfl)
              have H175 : St W w152 (PairA bk6 (swp (passL (go0 (swp R8)) ((tickT R8.e1).take 0))) :: imi (0 < D155.length) gA163 (.cells kA165 eA166 zA167) :: Im 6 (.slice pp150 D155.length cc151) D155.length (D155.flatMap dgdCell) :: byA (D155.map DgD.by) :: imi (0 < D93.length) gA101 (.cells kA103 eA104 zA105) :: byA (D93.map DgD.by) :: F) := St.shut_ex (⟨l133, l134, pp135, cc136, pp137, cc138, pp139, cc140, pp141, cc142, pp143, cc144, pp145, cc146⟩ : PairQ) (St.shut_star (ls := [blk bk6 (.cells #[.pointer (some ⟨l133, 0, none⟩), .pointer (some ⟨l134, 0, none⟩), .slice pp135 R8.g0.length cc136, .slice pp137 R8.g1.length cc138, .slice pp139 R8.c0.length cc140, .slice pp141 R8.c1.length cc142, .slice pp143 R8.t0.length cc144, .slice pp145 R8.t1.length cc146] 37 (0, 0)), LkA l133 R8.e0, LkA l134 (tickS R8.e1), BysA pp135 cc136 R8.g0, BysA pp137 cc138 R8.g1, BysA pp139 cc140 R8.c0, BysA pp141 cc142 R8.c1, DgsA pp143 cc144 R8.t0, DgsA pp145 cc146 R8.t1]) H174)
              have H176 : St W w152 (PairA bk6 (swp (passL (go0 (swp R8)) ((tickT R8.e1).take 0))) :: imi (0 < D155.length) gA163 (.cells kA165 eA166 zA167) :: byA (D155.map DgD.by) :: F) := ((((((H175.move 3 rfl).move 2 rfl).move 2 rfl).drop 3 rfl).drop 3 rfl).drop 3 rfl)
              refine g_loop_inv (fun (x_ : Nat) => match x_ with | i5 => [(4, .bool false), (5, .pointer (some ⟨bk6, 0, none⟩)), (57, .int .i64 ((5 * (2 + q9) : Nat) : Int)), (58, .int .i64 (m : Int)), (60, .int .i64 1), (10, .int .i64 1), (69, .slice pp150 ((tickT R8.e1).length) cc151), (70, .int .i64 ((tickT R8.e1).length : Int)), (71, .int .i64 (i5 : Int))]) (fun (x_ : Nat) w => match x_ with | i5 => (i5 ≤ D155.length) ∧ St W w (PairA bk6 (swp (passL (go0 (swp R8)) ((tickT R8.e1).take i5))) :: imi (0 < D155.length) gA163 (.cells kA165 eA166 zA167) :: byA (D155.map DgD.by) :: F)) (fun (x_ : Nat) => match x_ with | i5 => D155.length - i5) (0) ?_ ?_ ?_
              · exact ⟨by first | rfl | exact vint (by omega), by first | rfl | exact vint (by omega), by first | rfl | exact vint (by omega), by first | rfl | exact vint (by omega), by first | rfl | exact vint (by omega), by first | rfl | exact vint (by omega), by first | rfl | exact vint (by omega), by first | rfl | exact vint (by omega), by first | rfl | exact vint (by omega), trivial⟩
              · exact ⟨(by omega), H176⟩
              · rintro i5 ρ177 w178 ⟨hi5, H179⟩ nx180
                change Ends _ _ (upds ρ177 [(4, .bool false), (5, .pointer (some ⟨bk6, 0, none⟩)), (57, .int .i64 ((5 * (2 + q9) : Nat) : Int)), (58, .int .i64 (m : Int)), (60, .int .i64 1), (10, .int .i64 1), (69, .slice pp150 ((tickT R8.e1).length) cc151), (70, .int .i64 ((tickT R8.e1).length : Int)), (71, .int .i64 (i5 : Int))]) w178
                refine g_seq ?_
                refine g_region ?_
                by_cases hc181 : (i5 : Int) < ((tickT R8.e1).length : Int)
                · skip
                  refine r_cons (s_lss true rfl rfl (dtrue hc181) rfl ?_)
                  refine r_nil ?_
                  refine g_seq ?_
                  refine g_true rfl ?_
                  refine g_skip ?_
                  refine g_seq ?_
                  refine g_block ?_
                  refine g_seq ?_
                  refine g_region ?_
                  refine r_cons (s_indexAddr gA163 (off := oA164) (i5 : Int) 6 (oA164 + i5 * 6) (by exact congrArg (fun z_ => Value.slice z_ ((tickT R8.e1).length) cc151) (hp169 (by omega))) rfl el_34 (by omega) rfl rfl ?_)
                  refine r_cons (s_loadAgg [.int .i64 ((D155.getD i5 default).d.frm.v), .int .i64 ((D155.getD i5 default).d.to_.v), .int .i64 ((D155.getD i5 default).d.kind.v), .int .i64 ((D155.getD i5 default).d.seq.v), .int .i64 ((D155.getD i5 default).d.ack.v), .slice ((D155.getD i5 default).p) ((D155.getD i5 default).d.body.length) ((D155.getD i5 default).c)] 6 ag_41 rfl (H179.imi_at (i := 1) rfl (by omega)) (by have := elem_size (i := i5) (s := 6) (hs171 (by omega)) (by omega); omega) (elem_take dgdCell_len (hx170 (by omega)) (by omega) default) rfl ?_)
                  refine r_cons (s_alloc H179 41 ze_41 rfl ?_); intro bk182 w183 H184
                  refine r_cons (s_storeAgg H184 0 #[.int .i64 ((D155.getD i5 default).d.frm.v), .int .i64 ((D155.getD i5 default).d.to_.v), .int .i64 ((D155.getD i5 default).d.kind.v), .int .i64 ((D155.getD i5 default).d.seq.v), .int .i64 ((D155.getD i5 default).d.ack.v), .slice ((D155.getD i5 default).p) ((D155.getD i5 default).d.body.length) ((D155.getD i5 default).c)] 6 rfl rfl rfl sz_41 rfl (by simp [Value.oneCell']) (Nat.le_of_ble_eq_true rfl) (fun o h1 h2 => by first | (simp; done) | (simp; omega)) (cs' := #[.int .i64 ((D155.getD i5 default).d.frm.v), .int .i64 ((D155.getD i5 default).d.to_.v), .int .i64 ((D155.getD i5 default).d.kind.v), .int .i64 ((D155.getD i5 default).d.seq.v), .int .i64 ((D155.getD i5 default).d.ack.v), .slice ((D155.getD i5 default).p) ((D155.getD i5 default).d.body.length) ((D155.getD i5 default).c)]) rfl ?_); intro w185 H186
                  refine r_nil ?_
                  refine g_seq ?_
                  refine g_region ?_
                  have H187 : St W w185 (Im 1 (.slice ((D155.getD i5 default).p) ((D155.getD i5 default).d.body.length) ((D155.getD i5 default).c)) (((D155.getD i5 default).d.body).length) (((D155.getD i5 default).d.body).flatMap u8c) :: blk bk182 (.cells #[.int .i64 ((D155.getD i5 default).d.frm.v), .int .i64 ((D155.getD i5 default).d.to_.v), .int .i64 ((D155.getD i5 default).d.kind.v), .int .i64 ((D155.getD i5 default).d.seq.v), .int .i64 ((D155.getD i5 default).d.ack.v), .slice ((D155.getD i5 default).p) ((D155.getD i5 default).d.body.length) ((D155.getD i5 default).c)] 41 (0, 0)) :: PairA bk6 (swp (passL (go0 (swp R8)) ((tickT R8.e1).take i5))) :: imi (0 < D155.length) gA163 (.cells kA165 eA166 zA167) :: byA (D155.map DgD.by) :: F) := byA_at H186 (i := 3) rfl (dg_at (k := i5) (by omega))
                  have hTi := passTake hI8 (by omega) i5; have hTd := hTi.2 i5 (by show i5 < (tickT R8.e1).length; omega); rw [show (tickT (swp R8).e0).getD i5 default = (D155.getD i5 default).d from (dgAt hD156 i5).symm] at hTd
                  refine r_cons (s_move (.pointer (some ⟨bk6, 0, none⟩)) rfl rfl ?_)
                  refine r_cons (s_move (.int .i64 1) rfl rfl ?_)
                  refine r_cons (s_loadAgg [.int .i64 ((D155.getD i5 default).d.frm.v), .int .i64 ((D155.getD i5 default).d.to_.v), .int .i64 ((D155.getD i5 default).d.kind.v), .int .i64 ((D155.getD i5 default).d.seq.v), .int .i64 ((D155.getD i5 default).d.ack.v), .slice ((D155.getD i5 default).p) ((D155.getD i5 default).d.body.length) ((D155.getD i5 default).c)] 6 ag_41 rfl (H187.blk_at (i := 1) rfl) (Nat.le_of_ble_eq_true rfl) rfl rfl ?_)
                  have H188 : St W w185 (PairA bk6 (swp (passL (go0 (swp R8)) ((tickT R8.e1).take i5))) :: Im 1 (.slice ((D155.getD i5 default).p) ((D155.getD i5 default).d.body.length) ((D155.getD i5 default).c)) (((D155.getD i5 default).d.body).length) (((D155.getD i5 default).d.body).flatMap u8c) :: blk bk182 (.cells #[.int .i64 ((D155.getD i5 default).d.frm.v), .int .i64 ((D155.getD i5 default).d.to_.v), .int .i64 ((D155.getD i5 default).d.kind.v), .int .i64 ((D155.getD i5 default).d.seq.v), .int .i64 ((D155.getD i5 default).d.ack.v), .slice ((D155.getD i5 default).p) ((D155.getD i5 default).d.body.length) ((D155.getD i5 default).c)] 41 (0, 0)) :: imi (0 < D155.length) gA163 (.cells kA165 eA166 zA167) :: byA (D155.map DgD.by) :: F) := (H187.move 2 rfl)
                  refine r_cons (s_call [.pointer (some ⟨bk6, 0, none⟩), .int .i64 1, .agg #[.int .i64 ((D155.getD i5 default).d.frm.v), .int .i64 ((D155.getD i5 default).d.to_.v), .int .i64 ((D155.getD i5 default).d.kind.v), .int .i64 ((D155.getD i5 default).d.seq.v), .int .i64 ((D155.getD i5 default).d.ack.v), .slice ((D155.getD i5 default).p) ((D155.getD i5 default).d.body.length) ((D155.getD i5 default).c)]] pl_12 rfl rfl (passes_1 bk6 (swp (passL (go0 (swp R8)) ((tickT R8.e1).take i5))) ((D155.getD i5 default).d) (.slice ((D155.getD i5 default).p) ((D155.getD i5 default).d.body.length) ((D155.getD i5 default).c)) hTi.1.b.ok (hTi.1.takes hTd) (hTi.1.heldN (by omega)) (Nat.le_trans hTi.1.begins.2.1 (Nat.le_trans hTi.1.a.g (by omega))) (hTi.1.takeN (by omega) hTd) (j := 0) rfl H188) ?_)
                  rintro _ w189 ⟨rfl, H190⟩
                  refine r_cons (s_not true rfl false rfl rfl ?_)
                  refine r_nil ?_
                  refine g_false rfl ?_
                  refine g_skip ?_
                  refine g_inBlock ?_
                  refine g_region ?_
                  refine r_cons (s_add ((i5 : Int) + 1) rfl rfl (wi64 (by omega)) rfl ?_)
                  refine r_cons (s_move (.int .i64 ((i5 : Int) + 1)) rfl rfl ?_)
                  refine r_nil ?_
                  have H191 : St W w189 (PairA bk6 (swp (passL (go0 (swp R8)) ((tickT R8.e1).take (i5 + 1)))) :: Im 1 (.slice ((D155.getD i5 default).p) ((D155.getD i5 default).d.body.length) ((D155.getD i5 default).c)) (((D155.getD i5 default).d.body).length) (((D155.getD i5 default).d.body).flatMap u8c) :: blk bk182 (.cells #[.int .i64 ((D155.getD i5 default).d.frm.v), .int .i64 ((D155.getD i5 default).d.to_.v), .int .i64 ((D155.getD i5 default).d.kind.v), .int .i64 ((D155.getD i5 default).d.seq.v), .int .i64 ((D155.getD i5 default).d.ack.v), .slice ((D155.getD i5 default).p) ((D155.getD i5 default).d.body.length) ((D155.getD i5 default).c)] 41 (0, 0)) :: imi (0 < D155.length) gA163 (.cells kA165 eA166 zA167) :: byA (D155.map DgD.by) :: F) := by rw [passL_snoc (go0 (swp R8)) (tickT R8.e1) (i := i5) (by omega), ← dgAt hD156 i5]; exact H190
                  have H192 : St W w189 (PairA bk6 (swp (passL (go0 (swp R8)) ((tickT R8.e1).take (i5 + 1)))) :: imi (0 < D155.length) gA163 (.cells kA165 eA166 zA167) :: byA (D155.map DgD.by) :: F) := (((((H191.move 4 rfl).move 4 rfl).move 2 rfl).drop 3 rfl).drop 3 rfl)
                  exact nx180 (i5 + 1) _ _ ⟨(by omega), H192⟩ (by first | (dsimp only; omega) | omega) ⟨by first | rfl | exact vint (by omega), by first | rfl | exact vint (by omega), by first | rfl | exact vint (by omega), by first | rfl | exact vint (by omega), by first | rfl | exact vint (by omega), by first | rfl | exact vint (by omega), by first | rfl | exact vint (by omega), by first | rfl | exact vint (by omega), by first | rfl | exact vint (by omega), trivial⟩
                · skip
                  refine r_cons (s_lss false rfl rfl (dfalse hc181) rfl ?_)
                  refine r_nil ?_
                  refine g_seq ?_
                  refine g_false rfl ?_
                  refine g_exit (by rfl) ?_
                  refine g_inBlock ?_
                  refine g_region ?_
                  refine r_cons (s_add 2 rfl rfl (wi64 (by omega)) rfl ?_)
                  refine r_cons (s_move (.int .i64 2) rfl rfl ?_)
                  refine r_nil ?_
                  refine g_inLoop ?_
                  refine g_seq ?_
                  refine g_region ?_
                  refine r_cons (s_lss false rfl rfl (dfalse (by decide)) rfl ?_)
                  refine r_nil ?_
                  refine g_seq ?_
                  refine g_false rfl ?_
                  refine g_exit (by rfl) ?_
                  refine g_inBlock ?_
                  refine g_region ?_
                  refine r_cons (s_add ((m : Int) + 1) rfl rfl (wi64 (by omega)) rfl ?_)
                  refine r_cons (s_move (.int .i64 ((m : Int) + 1)) rfl rfl ?_)
                  refine r_nil ?_
                  have H193 : St W w178 (PairA bk6 (swp (passL (go0 (swp R8)) ((tickT R8.e1).take i5))) :: F) := ((H179.drop 1 rfl).drop 1 rfl)
                  have H194 : St W w178 (PairA bk6 (rounds (m + 1) P) :: F) := by rw [rounds_succ, ← hR9]; unfold round; rw [← hR8, ← passAll (swp R8) (i := i5) (by show (tickT R8.e1).length ≤ i5; omega)]; exact H193
                  have H195 : St W w178 (PairA bk6 (rounds (m + 1) P) :: F) := H194
                  exact nx67 (m + 1) _ _ ⟨(by omega), H195⟩ (by first | (dsimp only; omega) | omega) ⟨by first | rfl | exact vint (by omega), by first | rfl | exact vint (by omega), by first | rfl | exact vint (by omega), by first | rfl | exact vint (by omega), trivial⟩
        · skip
          refine r_cons (s_lss false rfl rfl (dfalse hc69) rfl ?_)
          refine r_nil ?_
          refine g_seq ?_
          refine g_false rfl ?_
          refine g_exit (by rfl) ?_
          refine g_seq ?_
          obtain ⟨z1, z2, z3, z4⟩ := hcm (by omega)
          have H196 := H68.move 0 rfl
          obtain ⟨⟨l197, l198, pp199, cc200, pp201, cc202, pp203, cc204, pp205, cc206, pp207, cc208, pp209, cc210⟩, H211⟩ := St.open_ex H196
          have H212 := St.open_star H211
          have H213 : St W w65 (blk bk6 (.cells #[.pointer (some ⟨l197, 0, none⟩), .pointer (some ⟨l198, 0, none⟩), .slice pp199 R9.g0.length cc200, .slice pp201 R9.g1.length cc202, .slice pp203 R9.c0.length cc204, .slice pp205 R9.c1.length cc206, .slice pp207 R9.t0.length cc208, .slice pp209 R9.t1.length cc210] 37 (0, 0)) :: LkA l197 R9.e0 :: LkA l198 R9.e1 :: BysA pp199 cc200 R9.g0 :: BysA pp201 cc202 R9.g1 :: BysA pp203 cc204 R9.c0 :: BysA pp205 cc206 R9.c1 :: DgsA pp207 cc208 R9.t0 :: DgsA pp209 cc210 R9.t1 :: F) := H212
          have H214 := H213.move 5 rfl
          obtain ⟨⟨D215, hD216⟩, H217⟩ := St.open_ex H214
          have H218 := St.open_star H217
          change D215.map BytesD.data = R9.c0 at hD216
          have H219 : St W w65 (Row 26 1 (.slice pp203 R9.c0.length cc204) R9.c0.length (D215.flatMap byCell) :: byA D215 :: blk bk6 (.cells #[.pointer (some ⟨l197, 0, none⟩), .pointer (some ⟨l198, 0, none⟩), .slice pp199 R9.g0.length cc200, .slice pp201 R9.g1.length cc202, .slice pp203 R9.c0.length cc204, .slice pp205 R9.c1.length cc206, .slice pp207 R9.t0.length cc208, .slice pp209 R9.t1.length cc210] 37 (0, 0)) :: LkA l197 R9.e0 :: LkA l198 R9.e1 :: BysA pp199 cc200 R9.g0 :: BysA pp201 cc202 R9.g1 :: BysA pp205 cc206 R9.c1 :: DgsA pp207 cc208 R9.t0 :: DgsA pp209 cc210 R9.t1 :: F) := H218
          have hzqc0 := Row.lenOf H219 (i := 0) rfl
          have H220 := H219.move 6 rfl
          obtain ⟨⟨D221, hD222⟩, H223⟩ := St.open_ex H220
          have H224 := St.open_star H223
          change D221.map BytesD.data = R9.g1 at hD222
          have H225 : St W w65 (Row 26 1 (.slice pp201 R9.g1.length cc202) R9.g1.length (D221.flatMap byCell) :: byA D221 :: Row 26 1 (.slice pp203 R9.c0.length cc204) R9.c0.length (D215.flatMap byCell) :: byA D215 :: blk bk6 (.cells #[.pointer (some ⟨l197, 0, none⟩), .pointer (some ⟨l198, 0, none⟩), .slice pp199 R9.g0.length cc200, .slice pp201 R9.g1.length cc202, .slice pp203 R9.c0.length cc204, .slice pp205 R9.c1.length cc206, .slice pp207 R9.t0.length cc208, .slice pp209 R9.t1.length cc210] 37 (0, 0)) :: LkA l197 R9.e0 :: LkA l198 R9.e1 :: BysA pp199 cc200 R9.g0 :: BysA pp205 cc206 R9.c1 :: DgsA pp207 cc208 R9.t0 :: DgsA pp209 cc210 R9.t1 :: F) := H224
          have hzqg1 := Row.lenOf H225 (i := 0) rfl
          have H226 := H225.move 8 rfl
          obtain ⟨⟨D227, hD228⟩, H229⟩ := St.open_ex H226
          have H230 := St.open_star H229
          change D227.map BytesD.data = R9.c1 at hD228
          have H231 : St W w65 (Row 26 1 (.slice pp205 R9.c1.length cc206) R9.c1.length (D227.flatMap byCell) :: byA D227 :: Row 26 1 (.slice pp201 R9.g1.length cc202) R9.g1.length (D221.flatMap byCell) :: byA D221 :: Row 26 1 (.slice pp203 R9.c0.length cc204) R9.c0.length (D215.flatMap byCell) :: byA D215 :: blk bk6 (.cells #[.pointer (some ⟨l197, 0, none⟩), .pointer (some ⟨l198, 0, none⟩), .slice pp199 R9.g0.length cc200, .slice pp201 R9.g1.length cc202, .slice pp203 R9.c0.length cc204, .slice pp205 R9.c1.length cc206, .slice pp207 R9.t0.length cc208, .slice pp209 R9.t1.length cc210] 37 (0, 0)) :: LkA l197 R9.e0 :: LkA l198 R9.e1 :: BysA pp199 cc200 R9.g0 :: DgsA pp207 cc208 R9.t0 :: DgsA pp209 cc210 R9.t1 :: F) := H230
          have hzqc1 := Row.lenOf H231 (i := 0) rfl
          have H232 := H231.move 9 rfl
          obtain ⟨⟨D233, hD234⟩, H235⟩ := St.open_ex H232
          have H236 := St.open_star H235
          change D233.map BytesD.data = R9.g0 at hD234
          have H237 : St W w65 (Row 26 1 (.slice pp199 R9.g0.length cc200) R9.g0.length (D233.flatMap byCell) :: byA D233 :: Row 26 1 (.slice pp205 R9.c1.length cc206) R9.c1.length (D227.flatMap byCell) :: byA D227 :: Row 26 1 (.slice pp201 R9.g1.length cc202) R9.g1.length (D221.flatMap byCell) :: byA D221 :: Row 26 1 (.slice pp203 R9.c0.length cc204) R9.c0.length (D215.flatMap byCell) :: byA D215 :: blk bk6 (.cells #[.pointer (some ⟨l197, 0, none⟩), .pointer (some ⟨l198, 0, none⟩), .slice pp199 R9.g0.length cc200, .slice pp201 R9.g1.length cc202, .slice pp203 R9.c0.length cc204, .slice pp205 R9.c1.length cc206, .slice pp207 R9.t0.length cc208, .slice pp209 R9.t1.length cc210] 37 (0, 0)) :: LkA l197 R9.e0 :: LkA l198 R9.e1 :: DgsA pp207 cc208 R9.t0 :: DgsA pp209 cc210 R9.t1 :: F) := H236
          have hzqg0 := Row.lenOf H237 (i := 0) rfl
          have z5 := congrArg List.length z3; have z6 := congrArg List.length z4
          have H238 := byA_app (M := (D215 ++ D221)) H237 (i := 7) (j := 5) rfl rfl app_b
          have H239 := byA_app (M := (D227 ++ D233)) H238 (i := 4) (j := 2) rfl rfl app_b
          refine g_quiet (fun w' => St W w' (byA (D227 ++ D233) :: byA (D215 ++ D221) :: Row 26 1 (.slice pp199 R9.g0.length cc200) R9.g0.length (D233.flatMap byCell) :: byA D233 :: Row 26 1 (.slice pp205 R9.c1.length cc206) R9.c1.length (D227.flatMap byCell) :: byA D227 :: Row 26 1 (.slice pp201 R9.g1.length cc202) R9.g1.length (D221.flatMap byCell) :: byA D221 :: Row 26 1 (.slice pp203 R9.c0.length cc204) R9.c0.length (D215.flatMap byCell) :: byA D215 :: blk bk6 (.cells #[.pointer (some ⟨l197, 0, none⟩), .pointer (some ⟨l198, 0, none⟩), .slice pp199 R9.g0.length cc200, .slice pp201 R9.g1.length cc202, .slice pp203 R9.c0.length cc204, .slice pp205 R9.c1.length cc206, .slice pp207 R9.t0.length cc208, .slice pp209 R9.t1.length cc210] 37 (0, 0)) :: LkA l197 R9.e0 :: LkA l198 R9.e1 :: DgsA pp207 cc208 R9.t0 :: DgsA pp209 cc210 R9.t1 :: F)) mixed (by kernel_rfl) H239.drew ?_
          refine q_cons (q_val rfl rfl rfl (by intro w hw; exact x_move (.pointer (some ⟨bk6, 0, none⟩)) rfl w) ?_)
          refine q_cons (q_val rfl rfl rfl (by intro w hw; exact x_nilCheck (.pointer (some ⟨bk6, 0, none⟩)) rfl ⟨_, rfl⟩ w) ?_)
          refine q_cons (q_val rfl rfl rfl (by intro w hw; exact x_fieldAddr 37 0 0 0 31 rfl fi_37_0 rfl w) ?_)
          refine q_cons (q_val rfl rfl rfl (by intro w hw; exact x_indexAddr_arr 0 1 0 rfl rfl ar_31 (by omega) rfl w) ?_)
          refine q_cons (q_val rfl rfl rfl (by intro w hw; exact x_load (.pointer (some ⟨l197, 0, none⟩)) ag_30 rfl (hw.blk_at (i := 10) rfl) rfl) ?_)
          refine q_cons (q_enter (args := #[.pointer (some ⟨l197, 0, none⟩)]) (v := .bool (idle R9.e0)) rfl rfl rfl (x_call pl_13 [.pointer (some ⟨l197, 0, none⟩)] rfl) (fun w hw => Lk_Idle l197 R9.e0 hI9.a.ok (i := 11) rfl hw) ?_)
          refine q_cons (q_val rfl rfl rfl (by intro w hw; exact x_move (.bool (idle R9.e0)) rfl w) ?_)
          refine q_cons (q_take rfl (congrArg some z1) ?_)
          refine q_val rfl rfl rfl (by intro w hw; exact x_move (.pointer (some ⟨bk6, 0, none⟩)) rfl w) ?_
          refine q_cons (q_take rfl (congrArg some z1) ?_)
          refine q_val rfl rfl rfl (by intro w hw; exact x_nilCheck (.pointer (some ⟨bk6, 0, none⟩)) rfl ⟨_, rfl⟩ w) ?_
          refine q_cons (q_take rfl (congrArg some z1) ?_)
          refine q_val rfl rfl rfl (by intro w hw; exact x_fieldAddr 37 0 0 0 31 rfl fi_37_0 rfl w) ?_
          refine q_cons (q_take rfl (congrArg some z1) ?_)
          refine q_val rfl rfl rfl (by intro w hw; exact x_indexAddr_arr 1 1 1 rfl rfl ar_31 (by omega) rfl w) ?_
          refine q_cons (q_take rfl (congrArg some z1) ?_)
          refine q_val rfl rfl rfl (by intro w hw; exact x_load (.pointer (some ⟨l198, 0, none⟩)) ag_30 rfl (hw.blk_at (i := 10) rfl) rfl) ?_
          refine q_cons (q_take rfl (congrArg some z1) ?_)
          refine q_enter (args := #[.pointer (some ⟨l198, 0, none⟩)]) (v := .bool (idle R9.e1)) rfl rfl rfl (x_call pl_13 [.pointer (some ⟨l198, 0, none⟩)] rfl) (fun w hw => Lk_Idle l198 R9.e1 hI9.b.ok (i := 12) rfl hw) ?_
          refine q_cons (q_val rfl rfl rfl (by intro w hw; exact x_pick_t (.bool (idle R9.e1)) (by exact congrArg Value.bool z1) rfl w) ?_)
          refine q_cons (q_val rfl rfl rfl (by intro w hw; exact x_move (.bool (idle R9.e1)) rfl w) ?_)
          refine q_cons (q_take rfl (congrArg some z2) ?_)
          refine q_val rfl rfl rfl (by intro w hw; exact x_move (.pointer (some ⟨bk6, 0, none⟩)) rfl w) ?_
          refine q_cons (q_take rfl (congrArg some z2) ?_)
          refine q_val rfl rfl rfl (by intro w hw; exact x_nilCheck (.pointer (some ⟨bk6, 0, none⟩)) rfl ⟨_, rfl⟩ w) ?_
          refine q_cons (q_take rfl (congrArg some z2) ?_)
          refine q_val rfl rfl rfl (by intro w hw; exact x_fieldAddr 37 2 4 4 33 rfl fi_37_2 rfl w) ?_
          refine q_cons (q_take rfl (congrArg some z2) ?_)
          refine q_val rfl rfl rfl (by intro w hw; exact x_indexAddr_arr 0 1 4 rfl rfl ar_33 (by omega) rfl w) ?_
          refine q_cons (q_take rfl (congrArg some z2) ?_)
          refine q_val rfl rfl rfl (by intro w hw; exact x_load (.slice pp203 R9.c0.length cc204) ag_32 rfl (hw.blk_at (i := 10) rfl) rfl) ?_
          refine q_cons (q_take rfl (congrArg some z2) ?_)
          refine q_val rfl rfl rfl (by intro w hw; exact x_move (.pointer (some ⟨bk6, 0, none⟩)) rfl w) ?_
          refine q_cons (q_take rfl (congrArg some z2) ?_)
          refine q_val rfl rfl rfl (by intro w hw; exact x_nilCheck (.pointer (some ⟨bk6, 0, none⟩)) rfl ⟨_, rfl⟩ w) ?_
          refine q_cons (q_take rfl (congrArg some z2) ?_)
          refine q_val rfl rfl rfl (by intro w hw; exact x_fieldAddr 37 1 2 2 33 rfl fi_37_1 rfl w) ?_
          refine q_cons (q_take rfl (congrArg some z2) ?_)
          refine q_val rfl rfl rfl (by intro w hw; exact x_indexAddr_arr 1 1 3 rfl rfl ar_33 (by omega) rfl w) ?_
          refine q_cons (q_take rfl (congrArg some z2) ?_)
          refine q_val rfl rfl rfl (by intro w hw; exact x_load (.slice pp201 R9.g1.length cc202) ag_32 rfl (hw.blk_at (i := 10) rfl) rfl) ?_
          refine q_cons (q_take rfl (congrArg some z2) ?_)
          refine q_enter (args := #[.slice pp203 R9.c0.length cc204, .slice pp201 R9.g1.length cc202]) (v := .bool true) rfl rfl rfl (x_call pl_14 [.slice pp203 R9.c0.length cc204, .slice pp201 R9.g1.length cc202] rfl) (fun w hw => sameBodies_rows D215 D221 R9.g1.length R9.c0.length R9.g1.length pp203 pp201 cc204 cc202 (lenOf hD216) (lenOf hD222) (by omega) (by omega) (by rw [hD216, hD222, List.take_length]; exact z3) (i := 8) (j := 6) (a := 1) rfl rfl rfl hw) ?_
          refine q_cons (q_val rfl rfl rfl (by intro w hw; exact x_pick_t (.bool true) (by exact congrArg Value.bool z2) rfl w) ?_)
          refine q_cons (q_val rfl rfl rfl (by intro w hw; exact x_move (.bool true) rfl w) ?_)
          refine q_cons (q_take rfl rfl ?_)
          refine q_val rfl rfl rfl (by intro w hw; exact x_move (.pointer (some ⟨bk6, 0, none⟩)) rfl w) ?_
          refine q_cons (q_take rfl rfl ?_)
          refine q_val rfl rfl rfl (by intro w hw; exact x_nilCheck (.pointer (some ⟨bk6, 0, none⟩)) rfl ⟨_, rfl⟩ w) ?_
          refine q_cons (q_take rfl rfl ?_)
          refine q_val rfl rfl rfl (by intro w hw; exact x_fieldAddr 37 2 4 4 33 rfl fi_37_2 rfl w) ?_
          refine q_cons (q_take rfl rfl ?_)
          refine q_val rfl rfl rfl (by intro w hw; exact x_indexAddr_arr 1 1 5 rfl rfl ar_33 (by omega) rfl w) ?_
          refine q_cons (q_take rfl rfl ?_)
          refine q_val rfl rfl rfl (by intro w hw; exact x_load (.slice pp205 R9.c1.length cc206) ag_32 rfl (hw.blk_at (i := 10) rfl) rfl) ?_
          refine q_cons (q_take rfl rfl ?_)
          refine q_val rfl rfl rfl (by intro w hw; exact x_move (.pointer (some ⟨bk6, 0, none⟩)) rfl w) ?_
          refine q_cons (q_take rfl rfl ?_)
          refine q_val rfl rfl rfl (by intro w hw; exact x_nilCheck (.pointer (some ⟨bk6, 0, none⟩)) rfl ⟨_, rfl⟩ w) ?_
          refine q_cons (q_take rfl rfl ?_)
          refine q_val rfl rfl rfl (by intro w hw; exact x_fieldAddr 37 1 2 2 33 rfl fi_37_1 rfl w) ?_
          refine q_cons (q_take rfl rfl ?_)
          refine q_val rfl rfl rfl (by intro w hw; exact x_indexAddr_arr 0 1 2 rfl rfl ar_33 (by omega) rfl w) ?_
          refine q_cons (q_take rfl rfl ?_)
          refine q_val rfl rfl rfl (by intro w hw; exact x_load (.slice pp199 R9.g0.length cc200) ag_32 rfl (hw.blk_at (i := 10) rfl) rfl) ?_
          refine q_cons (q_take rfl rfl ?_)
          refine q_enter (args := #[.slice pp205 R9.c1.length cc206, .slice pp199 R9.g0.length cc200]) (v := .bool true) rfl rfl rfl (x_call pl_14 [.slice pp205 R9.c1.length cc206, .slice pp199 R9.g0.length cc200] rfl) (fun w hw => sameBodies_rows D227 D233 R9.g0.length R9.c1.length R9.g0.length pp205 pp199 cc206 cc200 (lenOf hD228) (lenOf hD234) (by omega) (by omega) (by rw [hD228, hD234, List.take_length]; exact z4) (i := 4) (j := 2) (a := 0) rfl rfl rfl hw) ?_
          refine q_cons (q_val rfl rfl rfl (by intro w hw; exact x_pick_t (.bool true) rfl rfl w) ?_)
          refine q_cons (q_val rfl rfl rfl (by intro w hw; exact x_assign (.bool true) rfl w) ?_)
          refine q_nil ?_
          intro w240 H241
          refine g_ret' [.bool true] Try.func3 Try.results3 ⟨rfl, trivial⟩ ?_
          have H242 : St W w240 (Row 26 1 (.slice pp203 R9.c0.length cc204) R9.c0.length (D215.flatMap byCell) :: byA D215 :: byA (D227 ++ D233) :: byA (D215 ++ D221) :: Row 26 1 (.slice pp199 R9.g0.length cc200) R9.g0.length (D233.flatMap byCell) :: byA D233 :: Row 26 1 (.slice pp205 R9.c1.length cc206) R9.c1.length (D227.flatMap byCell) :: byA D227 :: Row 26 1 (.slice pp201 R9.g1.length cc202) R9.g1.length (D221.flatMap byCell) :: byA D221 :: blk bk6 (.cells #[.pointer (some ⟨l197, 0, none⟩), .pointer (some ⟨l198, 0, none⟩), .slice pp199 R9.g0.length cc200, .slice pp201 R9.g1.length cc202, .slice pp203 R9.c0.length cc204, .slice pp205 R9.c1.length cc206, .slice pp207 R9.t0.length cc208, .slice pp209 R9.t1.length cc210] 37 (0, 0)) :: LkA l197 R9.e0 :: LkA l198 R9.e1 :: DgsA pp207 cc208 R9.t0 :: DgsA pp209 cc210 R9.t1 :: F) := ((H241.move 9 rfl).move 9 rfl)
          have H243 : St W w240 (BysA pp203 cc204 R9.c0 :: byA (D227 ++ D233) :: byA (D215 ++ D221) :: Row 26 1 (.slice pp199 R9.g0.length cc200) R9.g0.length (D233.flatMap byCell) :: byA D233 :: Row 26 1 (.slice pp205 R9.c1.length cc206) R9.c1.length (D227.flatMap byCell) :: byA D227 :: Row 26 1 (.slice pp201 R9.g1.length cc202) R9.g1.length (D221.flatMap byCell) :: byA D221 :: blk bk6 (.cells #[.pointer (some ⟨l197, 0, none⟩), .pointer (some ⟨l198, 0, none⟩), .slice pp199 R9.g0.length cc200, .slice pp201 R9.g1.length cc202, .slice pp203 R9.c0.length cc204, .slice pp205 R9.c1.length cc206, .slice pp207 R9.t0.length cc208, .slice pp209 R9.t1.length cc210] 37 (0, 0)) :: LkA l197 R9.e0 :: LkA l198 R9.e1 :: DgsA pp207 cc208 R9.t0 :: DgsA pp209 cc210 R9.t1 :: F) := St.shut_ex ⟨D215, hD216⟩ (St.shut_star (ls := [Row 26 1 (.slice pp203 R9.c0.length cc204) R9.c0.length (D215.flatMap byCell), byA D215]) H242)
          have H244 : St W w240 (Row 26 1 (.slice pp201 R9.g1.length cc202) R9.g1.length (D221.flatMap byCell) :: byA D221 :: BysA pp203 cc204 R9.c0 :: byA (D227 ++ D233) :: byA (D215 ++ D221) :: Row 26 1 (.slice pp199 R9.g0.length cc200) R9.g0.length (D233.flatMap byCell) :: byA D233 :: Row 26 1 (.slice pp205 R9.c1.length cc206) R9.c1.length (D227.flatMap byCell) :: byA D227 :: blk bk6 (.cells #[.pointer (some ⟨l197, 0, none⟩), .pointer (some ⟨l198, 0, none⟩), .slice pp199 R9.g0.length cc200, .slice pp201 R9.g1.length cc202, .slice pp203 R9.c0.length cc204, .slice pp205 R9.c1.length cc206, .slice pp207 R9.t0.length cc208, .slice pp209 R9.t1.length cc210] 37 (0, 0)) :: LkA l197 R9.e0 :: LkA l198 R9.e1 :: DgsA pp207 cc208 R9.t0 :: DgsA pp209 cc210 R9.t1 :: F) := ((H243.move 8 rfl).move 8 rfl)
          have H245 : St W w240 (BysA pp201 cc202 R9.g1 :: BysA pp203 cc204 R9.c0 :: byA (D227 ++ D233) :: byA (D215 ++ D221) :: Row 26 1 (.slice pp199 R9.g0.length cc200) R9.g0.length (D233.flatMap byCell) :: byA D233 :: Row 26 1 (.slice pp205 R9.c1.length cc206) R9.c1.length (D227.flatMap byCell) :: byA D227 :: blk bk6 (.cells #[.pointer (some ⟨l197, 0, none⟩), .pointer (some ⟨l198, 0, none⟩), .slice pp199 R9.g0.length cc200, .slice pp201 R9.g1.length cc202, .slice pp203 R9.c0.length cc204, .slice pp205 R9.c1.length cc206, .slice pp207 R9.t0.length cc208, .slice pp209 R9.t1.length cc210] 37 (0, 0)) :: LkA l197 R9.e0 :: LkA l198 R9.e1 :: DgsA pp207 cc208 R9.t0 :: DgsA pp209 cc210 R9.t1 :: F) := St.shut_ex ⟨D221, hD222⟩ (St.shut_star (ls := [Row 26 1 (.slice pp201 R9.g1.length cc202) R9.g1.length (D221.flatMap byCell), byA D221]) H244)
          have H246 : St W w240 (Row 26 1 (.slice pp205 R9.c1.length cc206) R9.c1.length (D227.flatMap byCell) :: byA D227 :: BysA pp201 cc202 R9.g1 :: BysA pp203 cc204 R9.c0 :: byA (D227 ++ D233) :: byA (D215 ++ D221) :: Row 26 1 (.slice pp199 R9.g0.length cc200) R9.g0.length (D233.flatMap byCell) :: byA D233 :: blk bk6 (.cells #[.pointer (some ⟨l197, 0, none⟩), .pointer (some ⟨l198, 0, none⟩), .slice pp199 R9.g0.length cc200, .slice pp201 R9.g1.length cc202, .slice pp203 R9.c0.length cc204, .slice pp205 R9.c1.length cc206, .slice pp207 R9.t0.length cc208, .slice pp209 R9.t1.length cc210] 37 (0, 0)) :: LkA l197 R9.e0 :: LkA l198 R9.e1 :: DgsA pp207 cc208 R9.t0 :: DgsA pp209 cc210 R9.t1 :: F) := ((H245.move 7 rfl).move 7 rfl)
          have H247 : St W w240 (BysA pp205 cc206 R9.c1 :: BysA pp201 cc202 R9.g1 :: BysA pp203 cc204 R9.c0 :: byA (D227 ++ D233) :: byA (D215 ++ D221) :: Row 26 1 (.slice pp199 R9.g0.length cc200) R9.g0.length (D233.flatMap byCell) :: byA D233 :: blk bk6 (.cells #[.pointer (some ⟨l197, 0, none⟩), .pointer (some ⟨l198, 0, none⟩), .slice pp199 R9.g0.length cc200, .slice pp201 R9.g1.length cc202, .slice pp203 R9.c0.length cc204, .slice pp205 R9.c1.length cc206, .slice pp207 R9.t0.length cc208, .slice pp209 R9.t1.length cc210] 37 (0, 0)) :: LkA l197 R9.e0 :: LkA l198 R9.e1 :: DgsA pp207 cc208 R9.t0 :: DgsA pp209 cc210 R9.t1 :: F) := St.shut_ex ⟨D227, hD228⟩ (St.shut_star (ls := [Row 26 1 (.slice pp205 R9.c1.length cc206) R9.c1.length (D227.flatMap byCell), byA D227]) H246)
          have H248 : St W w240 (Row 26 1 (.slice pp199 R9.g0.length cc200) R9.g0.length (D233.flatMap byCell) :: byA D233 :: BysA pp205 cc206 R9.c1 :: BysA pp201 cc202 R9.g1 :: BysA pp203 cc204 R9.c0 :: byA (D227 ++ D233) :: byA (D215 ++ D221) :: blk bk6 (.cells #[.pointer (some ⟨l197, 0, none⟩), .pointer (some ⟨l198, 0, none⟩), .slice pp199 R9.g0.length cc200, .slice pp201 R9.g1.length cc202, .slice pp203 R9.c0.length cc204, .slice pp205 R9.c1.length cc206, .slice pp207 R9.t0.length cc208, .slice pp209 R9.t1.length cc210] 37 (0, 0)) :: LkA l197 R9.e0 :: LkA l198 R9.e1 :: DgsA pp207 cc208 R9.t0 :: DgsA pp209 cc210 R9.t1 :: F) := ((H247.move 6 rfl).move 6 rfl)
          have H249 : St W w240 (BysA pp199 cc200 R9.g0 :: BysA pp205 cc206 R9.c1 :: BysA pp201 cc202 R9.g1 :: BysA pp203 cc204 R9.c0 :: byA (D227 ++ D233) :: byA (D215 ++ D221) :: blk bk6 (.cells #[.pointer (some ⟨l197, 0, none⟩), .pointer (some ⟨l198, 0, none⟩), .slice pp199 R9.g0.length cc200, .slice pp201 R9.g1.length cc202, .slice pp203 R9.c0.length cc204, .slice pp205 R9.c1.length cc206, .slice pp207 R9.t0.length cc208, .slice pp209 R9.t1.length cc210] 37 (0, 0)) :: LkA l197 R9.e0 :: LkA l198 R9.e1 :: DgsA pp207 cc208 R9.t0 :: DgsA pp209 cc210 R9.t1 :: F) := St.shut_ex ⟨D233, hD234⟩ (St.shut_star (ls := [Row 26 1 (.slice pp199 R9.g0.length cc200) R9.g0.length (D233.flatMap byCell), byA D233]) H248)
          have H250 : St W w240 (blk bk6 (.cells #[.pointer (some ⟨l197, 0, none⟩), .pointer (some ⟨l198, 0, none⟩), .slice pp199 R9.g0.length cc200, .slice pp201 R9.g1.length cc202, .slice pp203 R9.c0.length cc204, .slice pp205 R9.c1.length cc206, .slice pp207 R9.t0.length cc208, .slice pp209 R9.t1.length cc210] 37 (0, 0)) :: LkA l197 R9.e0 :: LkA l198 R9.e1 :: BysA pp199 cc200 R9.g0 :: BysA pp201 cc202 R9.g1 :: BysA pp203 cc204 R9.c0 :: BysA pp205 cc206 R9.c1 :: DgsA pp207 cc208 R9.t0 :: DgsA pp209 cc210 R9.t1 :: byA (D227 ++ D233) :: byA (D215 ++ D221) :: F) := (((((((((H249.move 10 rfl).move 10 rfl).move 3 rfl).move 5 rfl).move 5 rfl).move 5 rfl).move 10 rfl).move 10 rfl).move 10 rfl)
          have H251 : St W w240 (PairA bk6 R9 :: byA (D227 ++ D233) :: byA (D215 ++ D221) :: F) := St.shut_ex (⟨l197, l198, pp199, cc200, pp201, cc202, pp203, cc204, pp205, cc206, pp207, cc208, pp209, cc210⟩ : PairQ) (St.shut_star (ls := [blk bk6 (.cells #[.pointer (some ⟨l197, 0, none⟩), .pointer (some ⟨l198, 0, none⟩), .slice pp199 R9.g0.length cc200, .slice pp201 R9.g1.length cc202, .slice pp203 R9.c0.length cc204, .slice pp205 R9.c1.length cc206, .slice pp207 R9.t0.length cc208, .slice pp209 R9.t1.length cc210] 37 (0, 0)), LkA l197 R9.e0, LkA l198 R9.e1, BysA pp199 cc200 R9.g0, BysA pp201 cc202 R9.g1, BysA pp203 cc204 R9.c0, BysA pp205 cc206 R9.c1, DgsA pp207 cc208 R9.t0, DgsA pp209 cc210 R9.t1]) H250)
          have H252 : St W w240 F := (((H251.drop 0 rfl).drop 0 rfl).drop 0 rfl)
          exact ⟨rfl, H252⟩
end Sl
