/- Walks of the program's functions. Printed by a program of this claim's author. No condition. -/
import Derived.Test.YthggoibbkloefaaSlBF
import Derived.Test.YthggoibbkloefaaSlQ
import Derived.Test.YthggoibbkloefaaSlP
import Derived.Test.YthggoibbkloefaaSlDB
import Derived.Test.YthggoibbkloefaaSlDC
import Derived.Test.YthggoibbkloefaaSlDJ
import Derived.Test.YthggoibbkloefaaSlEC
import Derived.Test.YthggoibbkloefaaProg
import Derived.Test.YthggoibbkloefaaWalkLinkOrder4
namespace Sl
open _root_.Go _root_.Go.RowKit _root_.Go.Proofs
set_option linter.all false
set_option maxHeartbeats 4000000 in
set_option maxRecDepth 100000 in
theorem LinkOrder_ {W w : World} {F : List Atom} (x : I64) (l : List ActD) (u : Value) (hlen : l.length < 268435456) {j a : Nat} (hj : F[j]? = some (Im 4 u l.length (l.flatMap actCell))) (ha : F[a]? = some (byA (l.map ActD.by))) (H : St W w F) : Calls Try.prog 4 #[.int .i64 x.v, u] w (Ret fun v w' => v = .bool true ∧ St W w' F) := by
  obtain ⟨pp1, cc2, rfl, hsh3⟩ := Rd.shape (Im.rd H (i := j) hj)
  have H4 := H.dup (i := j) hj (Im_pers _ _ _ _)
  have hmlH4 := Im.len H4 (i := 0) rfl
  have hsl := slN_le x.v; have hH9 := H4.dup (i := a + 1) (by exact ha) (byA_pers _)
  have H5 : St W w (byA (l.map ActD.by) :: Im 4 (.slice pp1 l.length cc2) l.length (l.flatMap actCell) :: F) := hH9
  refine calls_of_go (n := 56) Try.func4 rfl Try.ntmps4 rfl ?_
  refine g_seq ?_
  refine g_region ?_
  refine r_cons (s_assign (.bool false) rfl rfl ?_)
  refine r_nil ?_
  refine g_seq ?_
  refine g_region ?_
  refine r_cons (s_move (.int .i64 x.v) rfl rfl ?_)
  refine r_cons (s_and ((maskN x.v 255 : Nat) : Int) rfl rfl (and_mask x.v (m := 255) (by decide)) rfl ?_)
  refine r_cons (s_rem ((maskN x.v 255 % 64 : Nat) : Int) rfl rfl (by omega) (tmod_pos (by omega)) rfl ?_)
  refine r_cons (s_add ((slN x.v : Nat) : Int) rfl rfl ((wi64 (by omega)).trans (by unfold slN; omega)) rfl ?_)
  refine r_cons (s_assign (.int .i64 ((slN x.v : Nat) : Int)) rfl rfl ?_)
  refine r_nil ?_
  refine g_seq ?_
  refine g_region ?_
  refine r_cons (s_move (.int .i64 ((slN x.v : Nat) : Int)) rfl rfl ?_)
  refine r_cons (s_call [.int .i64 ((slN x.v : Nat) : Int)] pl_7 rfl rfl (ends_ (slN x.v) (by omega) (by omega) H5) ?_)
  rintro _ w7 ⟨bk6, rfl, H8⟩
  refine r_cons (s_assign (.pointer (some ⟨bk6, 0, none⟩)) rfl rfl ?_)
  refine r_nil ?_
  refine g_seq ?_
  refine g_seq ?_
  refine g_region ?_
  refine r_cons (s_move (.pointer (some ⟨bk6, 0, none⟩)) rfl rfl ?_)
  refine r_cons (s_peql false un_23 rfl rfl rfl rfl ?_)
  refine r_cons (s_move (.bool false) rfl rfl ?_)
  refine r_cons (r_take rfl rfl ?_)
  refine s_call [] pl_8 rfl rfl (live_ H8) ?_
  rintro _ w9 ⟨rfl, H10⟩
  refine r_cons (r_take rfl rfl ?_)
  refine s_not true rfl false rfl rfl ?_
  refine r_cons (s_pick_f (.bool false) rfl rfl rfl ?_)
  refine r_nil ?_
  refine g_false rfl ?_
  refine g_skip ?_
  refine g_seq ?_
  refine g_seq ?_
  refine g_region ?_
  refine r_cons (s_move (.slice pp1 l.length cc2) rfl rfl ?_)
  refine r_cons (s_len l.length rfl ⟨_, un_22⟩ rfl ?_)
  refine r_cons (s_move (.int .i64 0) rfl rfl ?_)
  refine r_nil ?_
  refine g_block ?_
  obtain ⟨pA11, cA12, gA13, oA14, kA15, eA16, zA17, he23, hn18, hp19, hx20, hs21, hml, H22⟩ := Im.open_ H10 (i := 2) rfl
  obtain ⟨rfl, rfl⟩ : pp1 = pA11 ∧ cc2 = cA12 := by injection he23 with a_ b_ c_; exact ⟨a_, c_⟩
  have H24 : St W w9 (PairA bk6 (pairN (slN x.v)) :: imi (0 < l.length) gA13 (.cells kA15 eA16 zA17) :: byA (l.map ActD.by) :: F) := ((((H22.move 2 rfl).move 1 rfl).move 2 rfl).drop 3 rfl)
  have H25 : St W w9 (PairA bk6 (pairN (slN x.v)) :: imi (0 < l.length) gA13 (.cells kA15 eA16 zA17) :: byA (l.map ActD.by) :: F) := H24
  refine g_loop_inv (fun (x_ : Nat × PairV) => match x_ with | (k, P) => [(0, .int .i64 ((slN x.v : Nat) : Int)), (4, .bool false), (5, .pointer (some ⟨bk6, 0, none⟩)), (20, .slice pp1 l.length cc2), (21, .int .i64 (l.length : Int)), (22, .int .i64 (k : Int))]) (fun (x_ : Nat × PairV) w => match x_ with | (k, P) => (k ≤ l.length) ∧ (Inv (slN x.v) k P) ∧ St W w (PairA bk6 P :: imi (0 < l.length) gA13 (.cells kA15 eA16 zA17) :: byA (l.map ActD.by) :: F)) (fun (x_ : Nat × PairV) => match x_ with | (k, P) => l.length - k) (0, (pairN (slN x.v))) ?_ ?_ ?_
  · exact ⟨by first | rfl | exact vint (by omega), by first | rfl | exact vint (by omega), by first | rfl | exact vint (by omega), by first | rfl | exact vint (by omega), by first | rfl | exact vint (by omega), by first | rfl | exact vint (by omega), trivial⟩
  · exact ⟨(by omega), (Inv.new hsl.1 hsl.2), H25⟩
  · rintro ⟨k, P⟩ ρ26 w27 ⟨hkn, hI, H28⟩ nx29
    change Ends _ _ (upds ρ26 [(0, .int .i64 ((slN x.v : Nat) : Int)), (4, .bool false), (5, .pointer (some ⟨bk6, 0, none⟩)), (20, .slice pp1 l.length cc2), (21, .int .i64 (l.length : Int)), (22, .int .i64 (k : Int))]) w27
    refine g_seq ?_
    refine g_region ?_
    by_cases hc30 : (k : Int) < (l.length : Int)
    · skip
      refine r_cons (s_lss true rfl rfl (dtrue hc30) rfl ?_)
      refine r_nil ?_
      refine g_seq ?_
      refine g_true rfl ?_
      refine g_skip ?_
      refine g_seq ?_
      refine g_block ?_
      refine g_seq ?_
      refine g_region ?_
      refine r_cons (s_indexAddr gA13 (off := oA14) (k : Int) 4 (oA14 + k * 4) (by exact congrArg (fun z_ => Value.slice z_ l.length cc2) (hp19 (by omega))) rfl el_22 (by omega) rfl rfl ?_)
      refine r_cons (s_loadAgg [.int .i64 ((l.getD k default).v.do_.v), .int .i64 ((l.getD k default).v.who.v), .int .i64 ((l.getD k default).v.n.v), .slice ((l.getD k default).p) ((l.getD k default).v.body.length) ((l.getD k default).c)] 4 ag_28 rfl (H28.imi_at (i := 1) rfl (by omega)) (by have := elem_size (i := k) (s := 4) (hs21 (by omega)) (by omega); omega) (elem_take actCell_len (hx20 (by omega)) (by omega) default) rfl ?_)
      refine r_cons (s_alloc H28 28 ze_28 rfl ?_); intro bk31 w32 H33
      refine r_cons (s_storeAgg H33 0 #[.int .i64 ((l.getD k default).v.do_.v), .int .i64 ((l.getD k default).v.who.v), .int .i64 ((l.getD k default).v.n.v), .slice ((l.getD k default).p) ((l.getD k default).v.body.length) ((l.getD k default).c)] 4 rfl rfl rfl sz_28 rfl (by simp [Value.oneCell']) (Nat.le_of_ble_eq_true rfl) (fun o h1 h2 => by first | (simp; done) | (simp; omega)) (cs' := #[.int .i64 ((l.getD k default).v.do_.v), .int .i64 ((l.getD k default).v.who.v), .int .i64 ((l.getD k default).v.n.v), .slice ((l.getD k default).p) ((l.getD k default).v.body.length) ((l.getD k default).c)]) rfl ?_); intro w34 H35
      refine r_nil ?_
      refine g_seq ?_
      refine g_region ?_
      have H36 : St W w34 (Im 1 (.slice ((l.getD k default).p) ((l.getD k default).v.body.length) ((l.getD k default).c)) (((l.getD k default).v.body).length) (((l.getD k default).v.body).flatMap u8c) :: blk bk31 (.cells #[.int .i64 ((l.getD k default).v.do_.v), .int .i64 ((l.getD k default).v.who.v), .int .i64 ((l.getD k default).v.n.v), .slice ((l.getD k default).p) ((l.getD k default).v.body.length) ((l.getD k default).c)] 28 (0, 0)) :: PairA bk6 P :: imi (0 < l.length) gA13 (.cells kA15 eA16 zA17) :: byA (l.map ActD.by) :: F) := byA_at H35 (i := 3) rfl (act_at (k := k) (by omega))
      have hI2 := hI.act (by omega) (l.getD k default).v
      refine r_cons (s_move (.pointer (some ⟨bk6, 0, none⟩)) rfl rfl ?_)
      refine r_cons (s_loadAgg [.int .i64 ((l.getD k default).v.do_.v), .int .i64 ((l.getD k default).v.who.v), .int .i64 ((l.getD k default).v.n.v), .slice ((l.getD k default).p) ((l.getD k default).v.body.length) ((l.getD k default).c)] 4 ag_28 rfl (H36.blk_at (i := 1) rfl) (Nat.le_of_ble_eq_true rfl) rfl rfl ?_)
      have H37 : St W w34 (PairA bk6 P :: Im 1 (.slice ((l.getD k default).p) ((l.getD k default).v.body.length) ((l.getD k default).c)) (((l.getD k default).v.body).length) (((l.getD k default).v.body).flatMap u8c) :: blk bk31 (.cells #[.int .i64 ((l.getD k default).v.do_.v), .int .i64 ((l.getD k default).v.who.v), .int .i64 ((l.getD k default).v.n.v), .slice ((l.getD k default).p) ((l.getD k default).v.body.length) ((l.getD k default).c)] 28 (0, 0)) :: imi (0 < l.length) gA13 (.cells kA15 eA16 zA17) :: byA (l.map ActD.by) :: F) := (H36.move 2 rfl)
      refine r_cons (s_call [.pointer (some ⟨bk6, 0, none⟩), .agg #[.int .i64 ((l.getD k default).v.do_.v), .int .i64 ((l.getD k default).v.who.v), .int .i64 ((l.getD k default).v.n.v), .slice ((l.getD k default).p) ((l.getD k default).v.body.length) ((l.getD k default).c)]] pl_9 rfl rfl (act_ (slN x.v) k bk6 P (l.getD k default).v (.slice ((l.getD k default).p) ((l.getD k default).v.body.length) ((l.getD k default).c)) hI (by omega) (j := 0) rfl H37) ?_)
      rintro _ w38 ⟨rfl, H39⟩
      refine r_cons (s_not true rfl false rfl rfl ?_)
      refine r_cons (s_move (.bool false) rfl rfl ?_)
      refine r_cons (r_take rfl rfl ?_)
      refine s_move (.pointer (some ⟨bk6, 0, none⟩)) rfl rfl ?_
      refine r_cons (r_take rfl rfl ?_)
      refine s_call [.pointer (some ⟨bk6, 0, none⟩)] pl_15 rfl rfl (beginning_ (slN x.v) (k + 1) bk6 (actP P (l.getD k default).v) hI2 H39) ?_
      rintro _ w40 ⟨rfl, H41⟩
      refine r_cons (r_take rfl rfl ?_)
      refine s_not true rfl false rfl rfl ?_
      refine r_cons (s_pick_f (.bool false) rfl rfl rfl ?_)
      refine r_cons (s_move (.bool false) rfl rfl ?_)
      refine r_cons (r_take rfl rfl ?_)
      have hu1 := hI2.begins.2.2.2; have hu2 := hI2.swp.begins.2.2.2
      change under (actP P (l.getD k default).v).e0 ≤ slN x.v at hu1; change under (actP P (l.getD k default).v).e1 ≤ slN x.v at hu2
      refine s_move (.pointer (some ⟨bk6, 0, none⟩)) rfl rfl ?_
      refine r_cons (r_take rfl rfl ?_)
      refine s_nilCheck (.pointer (some ⟨bk6, 0, none⟩)) rfl ⟨_, rfl⟩ rfl ?_
      refine r_cons (r_take rfl rfl ?_)
      refine s_fieldAddr 37 0 0 0 31 rfl fi_37_0 rfl rfl ?_
      refine r_cons (r_take rfl rfl ?_)
      refine s_indexAddr_arr 0 1 0 rfl rfl ar_31 (by omega) rfl rfl ?_
      refine r_cons (r_take rfl rfl ?_)
      have H42 := H41.move 0 rfl
      obtain ⟨⟨l43, l44, pp45, cc46, pp47, cc48, pp49, cc50, pp51, cc52, pp53, cc54, pp55, cc56⟩, H57⟩ := St.open_ex H42
      have H58 := St.open_star H57
      have H59 : St W w40 (blk bk6 (.cells #[.pointer (some ⟨l43, 0, none⟩), .pointer (some ⟨l44, 0, none⟩), .slice pp45 ((actP P (l.getD k default).v).g0.length) cc46, .slice pp47 ((actP P (l.getD k default).v).g1.length) cc48, .slice pp49 ((actP P (l.getD k default).v).c0.length) cc50, .slice pp51 ((actP P (l.getD k default).v).c1.length) cc52, .slice pp53 ((actP P (l.getD k default).v).t0.length) cc54, .slice pp55 ((actP P (l.getD k default).v).t1.length) cc56] 37 (0, 0)) :: LkA l43 ((actP P (l.getD k default).v).e0) :: LkA l44 ((actP P (l.getD k default).v).e1) :: BysA pp45 cc46 ((actP P (l.getD k default).v).g0) :: BysA pp47 cc48 ((actP P (l.getD k default).v).g1) :: BysA pp49 cc50 ((actP P (l.getD k default).v).c0) :: BysA pp51 cc52 ((actP P (l.getD k default).v).c1) :: DgsA pp53 cc54 ((actP P (l.getD k default).v).t0) :: DgsA pp55 cc56 ((actP P (l.getD k default).v).t1) :: Im 1 (.slice ((l.getD k default).p) ((l.getD k default).v.body.length) ((l.getD k default).c)) (((l.getD k default).v.body).length) (((l.getD k default).v.body).flatMap u8c) :: blk bk31 (.cells #[.int .i64 ((l.getD k default).v.do_.v), .int .i64 ((l.getD k default).v.who.v), .int .i64 ((l.getD k default).v.n.v), .slice ((l.getD k default).p) ((l.getD k default).v.body.length) ((l.getD k default).c)] 28 (0, 0)) :: imi (0 < l.length) gA13 (.cells kA15 eA16 zA17) :: byA (l.map ActD.by) :: F) := H58
      refine s_load (.pointer (some ⟨l43, 0, none⟩)) ag_30 rfl (H59.blk_at (i := 0) rfl) rfl rfl ?_
      refine r_cons (r_take rfl rfl ?_)
      refine s_call [.pointer (some ⟨l43, 0, none⟩)] pl_16 rfl rfl (Lk_Under l43 ((actP P (l.getD k default).v).e0) hI2.a.ok (i := 1) rfl H59) ?_
      rintro _ w60 ⟨rfl, H61⟩
      refine r_cons (r_take rfl rfl ?_)
      refine s_move (.int .i64 ((slN x.v : Nat) : Int)) rfl rfl ?_
      refine r_cons (r_take rfl rfl ?_)
      refine s_gtr false rfl rfl (dfalse (by omega)) rfl ?_
      refine r_cons (s_pick_f (.bool false) rfl rfl rfl ?_)
      refine r_cons (s_move (.bool false) rfl rfl ?_)
      refine r_cons (r_take rfl rfl ?_)
      refine s_move (.pointer (some ⟨bk6, 0, none⟩)) rfl rfl ?_
      refine r_cons (r_take rfl rfl ?_)
      refine s_nilCheck (.pointer (some ⟨bk6, 0, none⟩)) rfl ⟨_, rfl⟩ rfl ?_
      refine r_cons (r_take rfl rfl ?_)
      refine s_fieldAddr 37 0 0 0 31 rfl fi_37_0 rfl rfl ?_
      refine r_cons (r_take rfl rfl ?_)
      refine s_indexAddr_arr 1 1 1 rfl rfl ar_31 (by omega) rfl rfl ?_
      refine r_cons (r_take rfl rfl ?_)
      refine s_load (.pointer (some ⟨l44, 0, none⟩)) ag_30 rfl (H61.blk_at (i := 0) rfl) rfl rfl ?_
      refine r_cons (r_take rfl rfl ?_)
      refine s_call [.pointer (some ⟨l44, 0, none⟩)] pl_16 rfl rfl (Lk_Under l44 ((actP P (l.getD k default).v).e1) hI2.b.ok (i := 2) rfl H61) ?_
      rintro _ w62 ⟨rfl, H63⟩
      refine r_cons (r_take rfl rfl ?_)
      refine s_move (.int .i64 ((slN x.v : Nat) : Int)) rfl rfl ?_
      refine r_cons (r_take rfl rfl ?_)
      refine s_gtr false rfl rfl (dfalse (by omega)) rfl ?_
      refine r_cons (s_pick_f (.bool false) rfl rfl rfl ?_)
      refine r_nil ?_
      refine g_false rfl ?_
      refine g_skip ?_
      refine g_inBlock ?_
      refine g_region ?_
      refine r_cons (s_add ((k : Int) + 1) rfl rfl (wi64 (by omega)) rfl ?_)
      refine r_cons (s_move (.int .i64 ((k : Int) + 1)) rfl rfl ?_)
      refine r_nil ?_
      have H64 : St W w62 (PairA bk6 (actP P (l.getD k default).v) :: Im 1 (.slice ((l.getD k default).p) ((l.getD k default).v.body.length) ((l.getD k default).c)) (((l.getD k default).v.body).length) (((l.getD k default).v.body).flatMap u8c) :: blk bk31 (.cells #[.int .i64 ((l.getD k default).v.do_.v), .int .i64 ((l.getD k default).v.who.v), .int .i64 ((l.getD k default).v.n.v), .slice ((l.getD k default).p) ((l.getD k default).v.body.length) ((l.getD k default).c)] 28 (0, 0)) :: imi (0 < l.length) gA13 (.cells kA15 eA16 zA17) :: byA (l.map ActD.by) :: F) := St.shut_ex (⟨l43, l44, pp45, cc46, pp47, cc48, pp49, cc50, pp51, cc52, pp53, cc54, pp55, cc56⟩ : PairQ) (St.shut_star (ls := [blk bk6 (.cells #[.pointer (some ⟨l43, 0, none⟩), .pointer (some ⟨l44, 0, none⟩), .slice pp45 ((actP P (l.getD k default).v).g0.length) cc46, .slice pp47 ((actP P (l.getD k default).v).g1.length) cc48, .slice pp49 ((actP P (l.getD k default).v).c0.length) cc50, .slice pp51 ((actP P (l.getD k default).v).c1.length) cc52, .slice pp53 ((actP P (l.getD k default).v).t0.length) cc54, .slice pp55 ((actP P (l.getD k default).v).t1.length) cc56] 37 (0, 0)), LkA l43 ((actP P (l.getD k default).v).e0), LkA l44 ((actP P (l.getD k default).v).e1), BysA pp45 cc46 ((actP P (l.getD k default).v).g0), BysA pp47 cc48 ((actP P (l.getD k default).v).g1), BysA pp49 cc50 ((actP P (l.getD k default).v).c0), BysA pp51 cc52 ((actP P (l.getD k default).v).c1), DgsA pp53 cc54 ((actP P (l.getD k default).v).t0), DgsA pp55 cc56 ((actP P (l.getD k default).v).t1)]) H63)
      have H65 : St W w62 (PairA bk6 (actP P (l.getD k default).v) :: imi (0 < l.length) gA13 (.cells kA15 eA16 zA17) :: byA (l.map ActD.by) :: F) := (((((H64.move 4 rfl).move 4 rfl).move 2 rfl).drop 3 rfl).drop 3 rfl)
      exact nx29 (k + 1, (actP P (l.getD k default).v)) _ _ ⟨(by omega), hI2, H65⟩ (by first | (dsimp only; omega) | omega) ⟨by first | rfl | exact vint (by omega), by first | rfl | exact vint (by omega), by first | rfl | exact vint (by omega), by first | rfl | exact vint (by omega), by first | rfl | exact vint (by omega), by first | rfl | exact vint (by omega), trivial⟩
    · skip
      refine r_cons (s_lss false rfl rfl (dfalse hc30) rfl ?_)
      refine r_nil ?_
      refine g_seq ?_
      refine g_false rfl ?_
      refine g_exit (by rfl) ?_
      refine g_seq ?_
      refine g_region ?_
      refine r_cons (s_assign (.bool true) rfl rfl ?_)
      refine r_nil ?_
      refine g_ret' [.bool true] Try.func4 Try.results4 ⟨rfl, trivial⟩ ?_
      have H66 : St W w27 F := (((H28.drop 0 rfl).drop 0 rfl).drop 0 rfl)
      exact ⟨rfl, H66⟩
end Sl
