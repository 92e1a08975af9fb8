/- Walks of the program's functions. Printed by a program of this claim's author. No condition. -/
import Derived.Test.YthggoibbkloefaaSlBF
import Derived.Test.YthggoibbkloefaaSlQ
import Derived.Test.YthggoibbkloefaaSlG
import Derived.Test.YthggoibbkloefaaSlBB
import Derived.Test.YthggoibbkloefaaSlAB
import Derived.Test.YthggoibbkloefaaSlDC
import Derived.Test.YthggoibbkloefaaSlDJ
import Derived.Test.YthggoibbkloefaaSlEC
import Derived.Test.YthggoibbkloefaaSlBA
import Derived.Test.YthggoibbkloefaaSlEE
import Derived.Test.YthggoibbkloefaaProg
import Derived.Test.YthggoibbkloefaaWalkLinkDoes0
namespace Sl
open _root_.Go _root_.Go.RowKit _root_.Go.Proofs
set_option linter.all false
set_option maxHeartbeats 4000000 in
set_option maxRecDepth 100000 in
theorem these_2 {W w : World} {F : List Atom} (g bx : Nat) (s : EndV) (hok : endOk s) (H : St W w (LkA g s :: blk bx (.cells #[.pointer (some ⟨g, 0, none⟩)] 30 (0, 0)) :: F)) : Calls Try.prog 32 #[.pointer (some ⟨g, 0, none⟩), .func (.func 33) #[] #[.pointer (some ⟨bx, 0, none⟩)]] w (Ret fun v w' => ∃ p c, v = .slice p ((thT (rs s.clock) s).length) c ∧ St W w' (DgsA p c (thT (rs s.clock) s) :: LkA g (thS (rs s.clock) s) :: blk bx (.cells #[.pointer (some ⟨g, 0, none⟩)] 30 (0, 0)) :: F)) := by
  obtain ⟨o1, o2, o3, o4, o5, o6, o8⟩ := id hok; have o7 := i64N_0 (Nat.le_trans o4 (by decide))
  refine calls_of_go (n := 37) Try.func32 rfl Try.ntmps32 rfl ?_
  refine g_seq ?_
  refine g_region ?_
  refine r_cons (s_assign (.slice none 0 0) rfl rfl ?_)
  refine r_nil ?_
  refine g_seq ?_
  refine g_region ?_
  refine r_cons (s_assign (.slice none 0 0) rfl rfl ?_)
  refine r_nil ?_
  refine g_seq ?_
  refine g_seq ?_
  have H1 := H.move 0 rfl
  obtain ⟨⟨⟨m2, pp3, cc4, L5, E6⟩, hL7, hE8⟩, H9⟩ := St.open_ex H1
  have H10 := St.open_star H9
  change L5.map BodD.v = s.l at hL7; change mapB E6 = s.held at hE8
  have hl11 := lenOf hL7; have he12 := mapB_len hE8
  have H13 : St W w (blk g (.cells #[.int .i64 s.frm.v, .int .i64 s.to_.v, .int .i64 (s.slide : Int), .slice pp3 L5.length cc4, .int .i64 (s.acked : Int), .int .i64 ((i64N s.came).v), .map (some m2), .int .i64 (s.clock : Int), .bool s.owes] 62 (0, 0)) :: Row 79 3 (.slice pp3 L5.length cc4) L5.length (L5.flatMap bodCell) :: byA (L5.map BodD.by) :: MapA m2 (ents (kI .i64) evD E6) :: byA (mby E6) :: blk bx (.cells #[.pointer (some ⟨g, 0, none⟩)] 30 (0, 0)) :: F) := H10
  refine g_quiet (fun w' => St W w' (blk g (.cells #[.int .i64 s.frm.v, .int .i64 s.to_.v, .int .i64 (s.slide : Int), .slice pp3 L5.length cc4, .int .i64 (s.acked : Int), .int .i64 ((i64N s.came).v), .map (some m2), .int .i64 (s.clock : Int), .bool s.owes] 62 (0, 0)) :: Row 79 3 (.slice pp3 L5.length cc4) L5.length (L5.flatMap bodCell) :: byA (L5.map BodD.by) :: MapA m2 (ents (kI .i64) evD E6) :: byA (mby E6) :: blk bx (.cells #[.pointer (some ⟨g, 0, none⟩)] 30 (0, 0)) :: F)) mixed (by kernel_rfl) H13.drew ?_
  refine q_cons (q_val rfl rfl rfl (by intro w hw; exact x_move (.pointer (some ⟨g, 0, none⟩)) rfl w) ?_)
  refine q_cons (q_val rfl rfl rfl (by intro w hw; exact x_nilCheck (.pointer (some ⟨g, 0, none⟩)) rfl ⟨_, rfl⟩ w) ?_)
  refine q_cons (q_val rfl rfl rfl (by intro w hw; exact x_fieldAddr 62 1 2 2 3 rfl fi_62_1 rfl w) ?_)
  refine q_cons (q_val rfl rfl rfl (by intro w hw; exact x_load (.int .i64 (s.slide : Int)) ag_3 rfl (hw.blk_at (i := 0) rfl) rfl) ?_)
  refine q_cons (q_val rfl rfl rfl (by intro w hw; exact x_move (.pointer (some ⟨g, 0, none⟩)) rfl w) ?_)
  refine q_cons (q_val rfl rfl rfl (by intro w hw; exact x_nilCheck (.pointer (some ⟨g, 0, none⟩)) rfl ⟨_, rfl⟩ w) ?_)
  refine q_cons (q_val rfl rfl rfl (by intro w hw; exact x_fieldAddr 62 2 3 3 59 rfl fi_62_2 rfl w) ?_)
  refine q_cons (q_val rfl rfl rfl (by intro w hw; exact x_load (.slice pp3 L5.length cc4) ag_59 rfl (hw.blk_at (i := 0) rfl) rfl) ?_)
  refine q_cons (q_val rfl rfl rfl (by intro w hw; exact x_len L5.length rfl ⟨_, un_59⟩ w) ?_)
  refine q_cons (q_val rfl rfl rfl (by intro w hw; exact x_min2 ((winN s : Nat) : Int) rfl rfl (by unfold winN; omega) w) ?_)
  refine q_cons (q_val rfl rfl rfl (by intro w hw; exact x_move (.int .i64 0) rfl w) ?_)
  refine q_nil ?_
  intro w14 H15
  refine g_block ?_
  have H16 : St W w14 (LkA g s :: blk bx (.cells #[.pointer (some ⟨g, 0, none⟩)] 30 (0, 0)) :: F) := St.shut_ex ⟨(m2, pp3, cc4, L5, E6), hL7, hE8⟩ (St.shut_star (ls := [blk g (.cells #[.int .i64 s.frm.v, .int .i64 s.to_.v, .int .i64 (s.slide : Int), .slice pp3 L5.length cc4, .int .i64 (s.acked : Int), .int .i64 ((i64N s.came).v), .map (some m2), .int .i64 (s.clock : Int), .bool s.owes] 62 (0, 0)), Row 79 3 (.slice pp3 L5.length cc4) L5.length (L5.flatMap bodCell), byA (L5.map BodD.by), MapA m2 (ents (kI .i64) evD E6), byA (mby E6)]) H15)
  have H17 := Row.nil_intro H16 41 6
  have H18 := byA_nil H17
  have H19 : St W w14 (Row 41 6 (.slice none 0 0) 0 [] :: byA (([] : List DgD).map DgD.by) :: LkA g s :: blk bx (.cells #[.pointer (some ⟨g, 0, none⟩)] 30 (0, 0)) :: F) := ((((H18.move 3 rfl).move 3 rfl).move 2 rfl).move 3 rfl)
  have H20 : St W w14 (Row 41 6 (.slice none 0 0) 0 [] :: byA (([] : List DgD).map DgD.by) :: LkA g (thK (rs s.clock) s 0) :: blk bx (.cells #[.pointer (some ⟨g, 0, none⟩)] 30 (0, 0)) :: F) := by rw [thK_0]; exact H19
  refine g_loop_inv (fun (x_ : Nat × (List DgD) × (Option Addr) × Nat) => match x_ with | (k, D, p, c) => [(0, .pointer (some ⟨g, 0, none⟩)), (1, .func (.func 33) #[] #[.pointer (some ⟨bx, 0, none⟩)]), (4, .slice none 0 0), (5, .slice p D.length c), (16, .int .i64 ((winN s : Nat) : Int)), (17, .int .i64 (k : Int))]) (fun (x_ : Nat × (List DgD) × (Option Addr) × Nat) w => match x_ with | (k, D, p, c) => (k ≤ winN s) ∧ (D.map DgD.d = goT (rs s.clock) s k) ∧ St W w (Row 41 6 (.slice p D.length c) D.length (D.flatMap dgdCell) :: byA (D.map DgD.by) :: LkA g (thK (rs s.clock) s k) :: blk bx (.cells #[.pointer (some ⟨g, 0, none⟩)] 30 (0, 0)) :: F)) (fun (x_ : Nat × (List DgD) × (Option Addr) × Nat) => match x_ with | (k, D, p, c) => winN s - k) (0, [], none, 0) ?_ ?_ ?_
  · exact ⟨by first | rfl | exact vint (by omega), by first | rfl | exact vint (by omega), by first | rfl | exact vint (by omega), by first | rfl | exact vint (by omega), by first | rfl | exact vint (by omega), by first | rfl | exact vint (by omega), trivial⟩
  · exact ⟨(by omega), rfl, H20⟩
  · rintro ⟨k, D, p, c⟩ ρ21 w22 ⟨hkn, hD, H23⟩ nx24
    change Ends _ _ (upds ρ21 [(0, .pointer (some ⟨g, 0, none⟩)), (1, .func (.func 33) #[] #[.pointer (some ⟨bx, 0, none⟩)]), (4, .slice none 0 0), (5, .slice p D.length c), (16, .int .i64 ((winN s : Nat) : Int)), (17, .int .i64 (k : Int))]) w22
    have hDl := lenOf hD; have hDl2 := goT_len (rs s.clock) s k; have hw1 : winN s ≤ s.l.length := Nat.min_le_right _ _; have hw2 : winN s ≤ 64 := Nat.le_trans (Nat.min_le_left _ _) o6
    refine g_seq ?_
    refine g_region ?_
    by_cases hc25 : (k : Int) < ((winN s : Nat) : Int)
    · skip
      refine r_cons (s_lss true rfl rfl (dtrue hc25) rfl ?_)
      refine r_nil ?_
      refine g_seq ?_
      refine g_true rfl ?_
      refine g_skip ?_
      refine g_seq ?_
      refine g_block ?_
      refine g_seq ?_
      refine g_region ?_
      refine r_cons (s_move (.int .i64 (k : Int)) rfl rfl ?_)
      refine r_cons (s_assign (.int .i64 (k : Int)) rfl rfl ?_)
      refine r_nil ?_
      refine g_seq ?_
      refine g_region ?_
      refine r_cons (s_move (.func (.func 33) #[] #[.pointer (some ⟨bx, 0, none⟩)]) rfl rfl ?_)
      refine r_cons (s_move (.pointer (some ⟨g, 0, none⟩)) rfl rfl ?_)
      refine r_cons (s_nilCheck (.pointer (some ⟨g, 0, none⟩)) rfl ⟨_, rfl⟩ rfl ?_)
      have H26 := H23.move 2 rfl
      obtain ⟨⟨⟨m27, pp28, cc29, L30, E31⟩, hL32, hE33⟩, H34⟩ := St.open_ex H26
      have H35 := St.open_star H34
      change L30.map BodD.v = (thK (rs s.clock) s k).l at hL32; change mapB E31 = (thK (rs s.clock) s k).held at hE33
      have hl36 := lenOf hL32; have he37 := mapB_len hE33
      have H38 : St W w22 (blk g (.cells #[.int .i64 ((thK (rs s.clock) s k).frm.v), .int .i64 ((thK (rs s.clock) s k).to_.v), .int .i64 ((thK (rs s.clock) s k).slide : Int), .slice pp28 L30.length cc29, .int .i64 ((thK (rs s.clock) s k).acked : Int), .int .i64 ((i64N (thK (rs s.clock) s k).came).v), .map (some m27), .int .i64 ((thK (rs s.clock) s k).clock : Int), .bool ((thK (rs s.clock) s k).owes)] 62 (0, 0)) :: Row 79 3 (.slice pp28 L30.length cc29) L30.length (L30.flatMap bodCell) :: byA (L30.map BodD.by) :: MapA m27 (ents (kI .i64) evD E31) :: byA (mby E31) :: Row 41 6 (.slice p D.length c) D.length (D.flatMap dgdCell) :: byA (D.map DgD.by) :: blk bx (.cells #[.pointer (some ⟨g, 0, none⟩)] 30 (0, 0)) :: F) := H35
      have hk9 : k < L30.length := by rw [hl36, thK_len]; omega
      obtain ⟨bk39, cur40, hp41, h42, h43, h44, h45, h46, H47⟩ := Row.open2 H38 (i := 1) rfl (by omega)
      refine r_cons (s_fieldAddr 62 2 3 3 59 rfl fi_62_2 rfl rfl ?_)
      refine r_cons (s_load (.slice pp28 L30.length cc29) ag_59 rfl (H47.blk_at (i := 0) rfl) rfl rfl ?_)
      refine r_cons (s_move (.int .i64 (k : Int)) rfl rfl ?_)
      refine r_cons (s_indexAddr bk39 (off := 0) (k : Int) 3 (0 + k * 3) (by exact congrArg (fun z_ => Value.slice z_ L30.length cc29) ((fun (_ : 0 < 1) => hp41) (by omega))) rfl el_59 (by omega) rfl rfl ?_)
      refine r_cons (s_loadAgg [.slice ((L30.getD k default).p) ((L30.getD k default).v.b.length) ((L30.getD k default).c), .bool ((L30.getD k default).v.sent), .int .i64 ((L30.getD k default).v.tm : Int)] 3 ag_79 rfl (H47.blk_at (i := 1) rfl) (by have := elem_size (i := k) (s := 3) (show 0 + L30.length * 3 ≤ cur40.size by have := (show L30.length * 3 ≤ cur40.size by rw [(rfl : L30.length = L30.length), h44]; exact Nat.mul_le_mul_right 3 h42); omega) (by have hh : L30.length = L30.length := (rfl : L30.length = L30.length); omega); omega) (elem_take bodCell_len (by rw [(rfl : L30.length = L30.length)]; exact h45) (by have hh : L30.length = L30.length := (rfl : L30.length = L30.length); omega) default) rfl ?_)
      have H48 := Row.shut2 (p := pp28) (n := L30.length) (c := cc29) (size := 3) (xs := L30.flatMap bodCell) H47 (i := 1) rfl hp41 h42 h43 h44 (by have hh : (cur40.toList.drop 0).take (L30.length * 3) = L30.flatMap bodCell := (by rw [(rfl : L30.length = L30.length)]; exact h45); have hk : L30.length = L30.length := (rfl : L30.length = L30.length); rw [hk] at hh; exact hh) (fun x_ hx_ => by obtain ⟨a_, _, ha_⟩ := List.mem_flatMap.1 hx_; exact one_bod a_ x_ ha_)
      have H49 : St W w22 (LkA g (thK (rs s.clock) s k) :: Row 41 6 (.slice p D.length c) D.length (D.flatMap dgdCell) :: byA (D.map DgD.by) :: blk bx (.cells #[.pointer (some ⟨g, 0, none⟩)] 30 (0, 0)) :: F) := St.shut_ex ⟨(m27, pp28, cc29, L30, E31), hL32, hE33⟩ (St.shut_star (ls := [blk g (.cells #[.int .i64 ((thK (rs s.clock) s k).frm.v), .int .i64 ((thK (rs s.clock) s k).to_.v), .int .i64 ((thK (rs s.clock) s k).slide : Int), .slice pp28 L30.length cc29, .int .i64 ((thK (rs s.clock) s k).acked : Int), .int .i64 ((i64N (thK (rs s.clock) s k).came).v), .map (some m27), .int .i64 ((thK (rs s.clock) s k).clock : Int), .bool ((thK (rs s.clock) s k).owes)] 62 (0, 0)), Row 79 3 (.slice pp28 L30.length cc29) L30.length (L30.flatMap bodCell), byA (L30.map BodD.by), MapA m27 (ents (kI .i64) evD E31), byA (mby E31)]) H48)
      have H50 : St W w22 (LkA g (thK (rs s.clock) s k) :: blk bx (.cells #[.pointer (some ⟨g, 0, none⟩)] 30 (0, 0)) :: Row 41 6 (.slice p D.length c) D.length (D.flatMap dgdCell) :: byA (D.map DgD.by) :: F) := ((H49.move 3 rfl).move 1 rfl)
      refine r_cons (s_callv [.pointer (some ⟨bx, 0, none⟩)] [.agg #[.slice ((L30.getD k default).p) ((L30.getD k default).v.b.length) ((L30.getD k default).c), .bool ((L30.getD k default).v.sent), .int .i64 ((L30.getD k default).v.tm : Int)], .pointer (some ⟨bx, 0, none⟩)] rfl pl_33 rfl rfl (Tick_1 g bx (thK (rs s.clock) s k) (endOk_thK hok k) (L30.getD k default) (by rw [bodAt hL32 k]; exact ((endOk_thK (q := (rs s.clock)) hok k).2.1 k (by rw [thK_len]; unfold winN at *; omega)).1) H50) ?_)
      rintro _ w51 ⟨rfl, H52⟩
      refine r_nil ?_
      by_cases hb53 : (rs (thK (rs s.clock) s k).clock (L30.getD k default).v) = true
      · skip
        refine g_true (congrArg Value.bool hb53) ?_
        refine g_region ?_
        refine r_cons (s_move (.slice p D.length c) rfl rfl ?_)
        refine r_cons (s_move (.pointer (some ⟨g, 0, none⟩)) rfl rfl ?_)
        refine r_cons (s_move (.int .i64 (k : Int)) rfl rfl ?_)
        refine r_cons (s_call [.pointer (some ⟨g, 0, none⟩), .int .i64 (k : Int)] pl_53 rfl rfl (Lk_data g (thK (rs s.clock) s k) (endOk_thK hok k) k (by rw [thK_len]; unfold winN at *; omega) (by rw [thK_at]; exact Nat.le_trans (o2 k (by unfold winN at *; omega)).2 (by decide)) (i := 0) rfl H52) ?_)
        rintro _ w56 ⟨pp54, cc55, rfl, H57⟩
        refine r_cons (s_buildSlice H57 6 1 (cs := #[.int .i64 ((dgOf (thK (rs s.clock) s k) k ((thK (rs s.clock) s k).l.getD k default).b).frm.v), .int .i64 ((dgOf (thK (rs s.clock) s k) k ((thK (rs s.clock) s k).l.getD k default).b).to_.v), .int .i64 ((dgOf (thK (rs s.clock) s k) k ((thK (rs s.clock) s k).l.getD k default).b).kind.v), .int .i64 ((dgOf (thK (rs s.clock) s k) k ((thK (rs s.clock) s k).l.getD k default).b).seq.v), .int .i64 ((dgOf (thK (rs s.clock) s k) k ((thK (rs s.clock) s k).l.getD k default).b).ack.v), .slice pp54 ((dgOf (thK (rs s.clock) s k) k ((thK (rs s.clock) s k).l.getD k default).b).body.length) cc55]) #[.int .i64 0, .int .i64 0, .int .i64 0, .int .i64 0, .int .i64 0, .slice none 0 0] el_34 ze_41 (by decide) (by decide) (by kernel_rfl) rfl ?_); intro bk58 w59 H60
        refine r_cons (s_append H60 4 rfl rfl rfl (rd_blk (H60.blk_at (i := 0) rfl) rfl (Nat.le_of_ble_eq_true rfl) (by simp [Value.oneCell'])) ap_34 (by decide) (by unfold maxLen; omega) (by omega) (n' := D.length + 1) (xs' := D.flatMap dgdCell ++ ([.int .i64 ((dgOf (thK (rs s.clock) s k) k ((thK (rs s.clock) s k).l.getD k default).b).frm.v), .int .i64 ((dgOf (thK (rs s.clock) s k) k ((thK (rs s.clock) s k).l.getD k default).b).to_.v), .int .i64 ((dgOf (thK (rs s.clock) s k) k ((thK (rs s.clock) s k).l.getD k default).b).kind.v), .int .i64 ((dgOf (thK (rs s.clock) s k) k ((thK (rs s.clock) s k).l.getD k default).b).seq.v), .int .i64 ((dgOf (thK (rs s.clock) s k) k ((thK (rs s.clock) s k).l.getD k default).b).ack.v), .slice pp54 ((dgOf (thK (rs s.clock) s k) k ((thK (rs s.clock) s k).l.getD k default).b).body.length) cc55] : List Value)) (by omega) (by first | rfl | simp) rfl ?_); intro vv61 w62 H63 hn64
        obtain ⟨pp65, cc66, rfl⟩ := Row.slice H63 (i := 4) rfl
        refine r_cons (s_assign (.slice pp65 (D.length + 1) cc66) rfl rfl ?_)
        refine r_nil ?_
        refine g_inBlock ?_
        refine g_region ?_
        refine r_cons (s_add ((k : Int) + 1) rfl rfl (wi64 (by omega)) rfl ?_)
        refine r_cons (s_move (.int .i64 ((k : Int) + 1)) rfl rfl ?_)
        refine r_nil ?_
        have hq67 : (rs s.clock) (s.l.getD k default) = true := by rw [← thK_at (rs s.clock) s k, ← bodAt hL32 k]; exact hb53
        have H68 : St W w62 (blk bk58 (.cells #[.int .i64 ((dgOf (thK (rs s.clock) s k) k ((thK (rs s.clock) s k).l.getD k default).b).frm.v), .int .i64 ((dgOf (thK (rs s.clock) s k) k ((thK (rs s.clock) s k).l.getD k default).b).to_.v), .int .i64 ((dgOf (thK (rs s.clock) s k) k ((thK (rs s.clock) s k).l.getD k default).b).kind.v), .int .i64 ((dgOf (thK (rs s.clock) s k) k ((thK (rs s.clock) s k).l.getD k default).b).seq.v), .int .i64 ((dgOf (thK (rs s.clock) s k) k ((thK (rs s.clock) s k).l.getD k default).b).ack.v), .slice pp54 ((dgOf (thK (rs s.clock) s k) k ((thK (rs s.clock) s k).l.getD k default).b).body.length) cc55] 41 (0, 0)) :: Im 1 (.slice pp54 ((dgOf (thK (rs s.clock) s k) k ((thK (rs s.clock) s k).l.getD k default).b).body.length) cc55) (((dgOf (thK (rs s.clock) s k) k ((thK (rs s.clock) s k).l.getD k default).b).body).length) (((dgOf (thK (rs s.clock) s k) k ((thK (rs s.clock) s k).l.getD k default).b).body).flatMap u8c) :: LkA g (thK (rs s.clock) s (k + 1)) :: blk bx (.cells #[.pointer (some ⟨g, 0, none⟩)] 30 (0, 0)) :: Row 41 6 (.slice pp65 (D.length + 1) cc66) (D.length + 1) (D.flatMap dgdCell ++ ([.int .i64 ((dgOf (thK (rs s.clock) s k) k ((thK (rs s.clock) s k).l.getD k default).b).frm.v), .int .i64 ((dgOf (thK (rs s.clock) s k) k ((thK (rs s.clock) s k).l.getD k default).b).to_.v), .int .i64 ((dgOf (thK (rs s.clock) s k) k ((thK (rs s.clock) s k).l.getD k default).b).kind.v), .int .i64 ((dgOf (thK (rs s.clock) s k) k ((thK (rs s.clock) s k).l.getD k default).b).seq.v), .int .i64 ((dgOf (thK (rs s.clock) s k) k ((thK (rs s.clock) s k).l.getD k default).b).ack.v), .slice pp54 ((dgOf (thK (rs s.clock) s k) k ((thK (rs s.clock) s k).l.getD k default).b).body.length) cc55] : List Value)) :: byA (D.map DgD.by) :: F) := by rw [← thK_yes hq67]; exact H63
        have H69 : St W w62 (blk bk58 (.cells #[.int .i64 ((dgOf (thK (rs s.clock) s k) k ((thK (rs s.clock) s k).l.getD k default).b).frm.v), .int .i64 ((dgOf (thK (rs s.clock) s k) k ((thK (rs s.clock) s k).l.getD k default).b).to_.v), .int .i64 ((dgOf (thK (rs s.clock) s k) k ((thK (rs s.clock) s k).l.getD k default).b).kind.v), .int .i64 ((dgOf (thK (rs s.clock) s k) k ((thK (rs s.clock) s k).l.getD k default).b).seq.v), .int .i64 ((dgOf (thK (rs s.clock) s k) k ((thK (rs s.clock) s k).l.getD k default).b).ack.v), .slice pp54 ((dgOf (thK (rs s.clock) s k) k ((thK (rs s.clock) s k).l.getD k default).b).body.length) cc55] 41 (0, 0)) :: Im 1 (.slice pp54 ((dgOf (thK (rs s.clock) s k) k ((thK (rs s.clock) s k).l.getD k default).b).body.length) cc55) (((dgOf (thK (rs s.clock) s k) k ((thK (rs s.clock) s k).l.getD k default).b).body).length) (((dgOf (thK (rs s.clock) s k) k ((thK (rs s.clock) s k).l.getD k default).b).body).flatMap u8c) :: LkA g (thK (rs s.clock) s (k + 1)) :: blk bx (.cells #[.pointer (some ⟨g, 0, none⟩)] 30 (0, 0)) :: Row 41 6 (.slice pp65 ((D ++ [(⟨(dgOf (thK (rs s.clock) s k) k ((thK (rs s.clock) s k).l.getD k default).b), pp54, cc55⟩ : DgD)]).length) cc66) ((D ++ [(⟨(dgOf (thK (rs s.clock) s k) k ((thK (rs s.clock) s k).l.getD k default).b), pp54, cc55⟩ : DgD)]).length) ((D ++ [(⟨(dgOf (thK (rs s.clock) s k) k ((thK (rs s.clock) s k).l.getD k default).b), pp54, cc55⟩ : DgD)]).flatMap dgdCell) :: byA (D.map DgD.by) :: F) := by rw [flat_app, flat_one, List.length_append]; exact H68
        have H70 := byA_add (x := (⟨(dgOf (thK (rs s.clock) s k) k ((thK (rs s.clock) s k).l.getD k default).b), pp54, cc55⟩ : DgD).by) H69 (i := 5) (j := 1) rfl rfl snoc_dg
        have H71 : St W w62 (Row 41 6 (.slice pp65 ((D ++ [(⟨(dgOf (thK (rs s.clock) s k) k ((thK (rs s.clock) s k).l.getD k default).b), pp54, cc55⟩ : DgD)]).length) cc66) ((D ++ [(⟨(dgOf (thK (rs s.clock) s k) k ((thK (rs s.clock) s k).l.getD k default).b), pp54, cc55⟩ : DgD)]).length) ((D ++ [(⟨(dgOf (thK (rs s.clock) s k) k ((thK (rs s.clock) s k).l.getD k default).b), pp54, cc55⟩ : DgD)]).flatMap dgdCell) :: byA ((D ++ [(⟨(dgOf (thK (rs s.clock) s k) k ((thK (rs s.clock) s k).l.getD k default).b), pp54, cc55⟩ : DgD)]).map DgD.by) :: LkA g (thK (rs s.clock) s (k + 1)) :: blk bx (.cells #[.pointer (some ⟨g, 0, none⟩)] 30 (0, 0)) :: F) := (((((((H70.move 4 rfl).move 4 rfl).move 2 rfl).move 5 rfl).drop 4 rfl).drop 4 rfl).drop 4 rfl)
        exact nx24 (k + 1, (D ++ [(⟨(dgOf (thK (rs s.clock) s k) k ((thK (rs s.clock) s k).l.getD k default).b), pp54, cc55⟩ : DgD)]), pp65, cc66) _ _ ⟨(by omega), (by rw [List.map_append, hD, goT_yes hq67]; show _ ++ [dgOf (thK (rs s.clock) s k) k ((thK (rs s.clock) s k).l.getD k default).b] = _; rw [thK_at]; rfl), H71⟩ (by first | (dsimp only; omega) | omega) ⟨by first | rfl | exact vint (by omega), by first | rfl | exact vint (by omega), by first | rfl | exact vint (by omega), by first | rfl | (show Value.slice _ _ _ = _; rw [List.length_append]; rfl), by first | rfl | exact vint (by omega), by first | rfl | exact vint (by omega), trivial⟩
      · have hb53 := eq_false_of_ne_true hb53
        refine g_false (congrArg Value.bool hb53) ?_
        refine g_skip ?_
        refine g_inBlock ?_
        refine g_region ?_
        refine r_cons (s_add ((k : Int) + 1) rfl rfl (wi64 (by omega)) rfl ?_)
        refine r_cons (s_move (.int .i64 ((k : Int) + 1)) rfl rfl ?_)
        refine r_nil ?_
        have hq72 : (rs s.clock) (s.l.getD k default) = false := by rw [← thK_at (rs s.clock) s k, ← bodAt hL32 k]; exact hb53
        have H73 : St W w51 (LkA g (thK (rs s.clock) s (k + 1)) :: blk bx (.cells #[.pointer (some ⟨g, 0, none⟩)] 30 (0, 0)) :: Row 41 6 (.slice p D.length c) D.length (D.flatMap dgdCell) :: byA (D.map DgD.by) :: F) := by rw [← thK_no hq72]; exact H52
        have H74 : St W w51 (Row 41 6 (.slice p D.length c) D.length (D.flatMap dgdCell) :: byA (D.map DgD.by) :: LkA g (thK (rs s.clock) s (k + 1)) :: blk bx (.cells #[.pointer (some ⟨g, 0, none⟩)] 30 (0, 0)) :: F) := ((((H73.move 1 rfl).move 1 rfl).move 3 rfl).move 3 rfl)
        exact nx24 (k + 1, D, p, c) _ _ ⟨(by omega), (by rw [goT_no hq72]; exact hD), H74⟩ (by first | (dsimp only; omega) | omega) ⟨by first | rfl | exact vint (by omega), by first | rfl | exact vint (by omega), by first | rfl | exact vint (by omega), by first | rfl | exact vint (by omega), by first | rfl | exact vint (by omega), by first | rfl | exact vint (by omega), trivial⟩
    · skip
      refine r_cons (s_lss false rfl rfl (dfalse hc25) rfl ?_)
      refine r_nil ?_
      refine g_seq ?_
      refine g_false rfl ?_
      refine g_exit (by rfl) ?_
      refine g_seq ?_
      refine g_region ?_
      refine r_cons (s_move (.slice p D.length c) rfl rfl ?_)
      refine r_cons (s_assign (.slice p D.length c) rfl rfl ?_)
      refine r_nil ?_
      refine g_ret' [.slice p D.length c] Try.func32 Try.results32 ⟨rfl, trivial⟩ ?_
      have hk0 : k = winN s := by omega
      have H75 : St W w22 (Row 41 6 (.slice p ((thT (rs s.clock) s).length) c) ((thT (rs s.clock) s).length) (D.flatMap dgdCell) :: byA (D.map DgD.by) :: LkA g (thK (rs s.clock) s k) :: blk bx (.cells #[.pointer (some ⟨g, 0, none⟩)] 30 (0, 0)) :: F) := by rw [show (thT (rs s.clock) s).length = D.length from (lenOf (show D.map DgD.d = thT (rs s.clock) s from by rw [hD, hk0]; rfl)).symm]; exact H23
      have H76 : St W w22 (DgsA p c (thT (rs s.clock) s) :: LkA g (thK (rs s.clock) s k) :: blk bx (.cells #[.pointer (some ⟨g, 0, none⟩)] 30 (0, 0)) :: F) := St.shut_ex ⟨D, (show D.map DgD.d = thT (rs s.clock) s from by rw [hD, hk0]; rfl)⟩ (St.shut_star (ls := [Row 41 6 (.slice p ((thT (rs s.clock) s).length) c) ((thT (rs s.clock) s).length) (D.flatMap dgdCell), byA (D.map DgD.by)]) H75)
      have H77 : St W w22 (DgsA p c (thT (rs s.clock) s) :: LkA g (thS (rs s.clock) s) :: blk bx (.cells #[.pointer (some ⟨g, 0, none⟩)] 30 (0, 0)) :: F) := by rw [show thS (rs s.clock) s = thK (rs s.clock) s k from by rw [hk0]; rfl]; exact H76
      have H78 : St W w22 (DgsA p c (thT (rs s.clock) s) :: LkA g (thS (rs s.clock) s) :: blk bx (.cells #[.pointer (some ⟨g, 0, none⟩)] 30 (0, 0)) :: F) := (((H77.move 2 rfl).move 2 rfl).move 2 rfl)
      exact ⟨_, _, by rw [hDl, hk0]; rfl, H78⟩
set_option maxHeartbeats 4000000 in
set_option maxRecDepth 100000 in
theorem Lk_Out {W w : World} {F : List Atom} (g : Nat) (s : EndV) (hok : endOk s)  {i : Nat} (hi : F[i]? = some (LkA g s)) (H : St W w F) : Calls Try.prog 23 #[.pointer (some ⟨g, 0, none⟩)] w (Ret fun v w' => ∃ p c, v = .slice p ((outT s).length) c ∧ St W w' (DgsA p c (outT s) :: F.set i (LkA g (outS s)))) := by
  have H0 := H.front hi
  obtain ⟨o1, o2, o3, o4, o5, o6, o8⟩ := id hok; have o7 := i64N_0 (Nat.le_trans o4 (by decide))
  refine calls_of_go (n := 39) Try.func23 rfl Try.ntmps23 rfl ?_
  refine g_seq ?_
  refine g_region ?_
  refine r_cons (s_assign (.slice none 0 0) rfl rfl ?_)
  refine r_nil ?_
  refine g_seq ?_
  refine g_seq ?_
  refine g_region ?_
  refine r_cons (s_move (.pointer (some ⟨g, 0, none⟩)) rfl rfl ?_)
  refine r_cons (s_call [.pointer (some ⟨g, 0, none⟩)] pl_31 rfl rfl (Lk_none g s hok (i := 0) rfl H0) ?_)
  rintro _ w1 ⟨rfl, H2⟩
  refine r_nil ?_
  refine g_false rfl ?_
  refine g_skip ?_
  refine g_seq ?_
  refine g_region ?_
  refine r_cons (s_move (.pointer (some ⟨g, 0, none⟩)) rfl rfl ?_)
  refine r_cons (s_call [.pointer (some ⟨g, 0, none⟩), .func (.func 49) #[] #[]] pl_32 rfl rfl (these_1 g s hok H2) ?_)
  rintro _ w5 ⟨pp3, cc4, rfl, H6⟩
  refine r_cons (s_assign (.slice pp3 ((thT ns s).length) cc4) rfl rfl ?_)
  refine r_nil ?_
  refine g_seq ?_
  refine g_seq ?_
  refine g_region ?_
  refine r_cons (s_move (.slice pp3 ((thT ns s).length) cc4) rfl rfl ?_)
  refine r_cons (s_len ((thT ns s).length) rfl ⟨_, un_34⟩ rfl ?_)
  by_cases hc7 : ((thT ns s).length : Int) = 0
  · skip
    refine r_cons (s_eql true rfl rfl (dtrue hc7) rfl ?_)
    refine r_cons (s_move (.bool true) rfl rfl ?_)
    refine r_cons (r_take rfl rfl ?_)
    refine s_move (.pointer (some ⟨g, 0, none⟩)) rfl rfl ?_
    refine r_cons (r_take rfl rfl ?_)
    refine s_nilCheck (.pointer (some ⟨g, 0, none⟩)) rfl ⟨_, rfl⟩ rfl ?_
    refine r_cons (r_take rfl rfl ?_)
    refine s_fieldAddr 62 7 8 8 4 rfl fi_62_7 rfl rfl ?_
    refine r_cons (r_take rfl rfl ?_)
    have H8 := H6.move 1 rfl
    obtain ⟨⟨⟨m9, pp10, cc11, L12, E13⟩, hL14, hE15⟩, H16⟩ := St.open_ex H8
    have H17 := St.open_star H16
    change L12.map BodD.v = (thS ns s).l at hL14; change mapB E13 = (thS ns s).held at hE15
    have hl18 := lenOf hL14; have he19 := mapB_len hE15
    have H20 : St W w5 (blk g (.cells #[.int .i64 ((thS ns s).frm.v), .int .i64 ((thS ns s).to_.v), .int .i64 ((thS ns s).slide : Int), .slice pp10 L12.length cc11, .int .i64 ((thS ns s).acked : Int), .int .i64 ((i64N (thS ns s).came).v), .map (some m9), .int .i64 ((thS ns s).clock : Int), .bool ((thS ns s).owes)] 62 (0, 0)) :: Row 79 3 (.slice pp10 L12.length cc11) L12.length (L12.flatMap bodCell) :: byA (L12.map BodD.by) :: MapA m9 (ents (kI .i64) evD E13) :: byA (mby E13) :: DgsA pp3 cc4 (thT ns s) :: (F.set i emp)) := H17
    refine s_load (.bool ((thS ns s).owes)) ag_4 rfl (H20.blk_at (i := 0) rfl) rfl rfl ?_
    refine r_cons (s_pick_t (.bool ((thS ns s).owes)) rfl rfl rfl ?_)
    refine r_nil ?_
    by_cases hb21 : ((thS ns s).owes) = true
    · skip
      refine g_true (congrArg Value.bool hb21) ?_
      refine g_seq ?_
      refine g_region ?_
      refine r_cons (s_move (.pointer (some ⟨g, 0, none⟩)) rfl rfl ?_)
      refine r_cons (s_nilCheck (.pointer (some ⟨g, 0, none⟩)) rfl ⟨_, rfl⟩ rfl ?_)
      refine r_cons (s_fieldAddr 62 7 8 8 4 rfl fi_62_7 rfl rfl ?_)
      refine r_cons (s_store H20 0 (.bool false) rfl rfl rfl sz_4 rfl (Nat.le_of_ble_eq_true rfl) rfl (cs' := #[.int .i64 ((thS ns s).frm.v), .int .i64 ((thS ns s).to_.v), .int .i64 ((thS ns s).slide : Int), .slice pp10 L12.length cc11, .int .i64 ((thS ns s).acked : Int), .int .i64 ((i64N (thS ns s).came).v), .map (some m9), .int .i64 ((thS ns s).clock : Int), .bool false]) rfl ?_); intro w22 H23
      refine r_nil ?_
      have H24 := H23.move 5 rfl
      obtain ⟨⟨D25, hD26⟩, H27⟩ := St.open_ex H24
      have H28 := St.open_star H27
      change D25.map DgD.d = (thT ns s) at hD26
      have H29 : St W w22 (Row 41 6 (.slice pp3 ((thT ns s).length) cc4) ((thT ns s).length) (D25.flatMap dgdCell) :: byA (D25.map DgD.by) :: blk g (.cells #[.int .i64 ((thS ns s).frm.v), .int .i64 ((thS ns s).to_.v), .int .i64 ((thS ns s).slide : Int), .slice pp10 L12.length cc11, .int .i64 ((thS ns s).acked : Int), .int .i64 ((i64N (thS ns s).came).v), .map (some m9), .int .i64 ((thS ns s).clock : Int), .bool false] 62 (0, 0)) :: Row 79 3 (.slice pp10 L12.length cc11) L12.length (L12.flatMap bodCell) :: byA (L12.map BodD.by) :: MapA m9 (ents (kI .i64) evD E13) :: byA (mby E13) :: (F.set i emp)) := H28
      have hT0 : (thT ns s).length = 0 := by omega
      have hT1 : D25 = [] := lenNil hD26 hT0
      have hO1 := outT_yes hT0 (by assumption)
      have H30 : St W w22 (byA (D25.map DgD.by) :: blk g (.cells #[.int .i64 ((thS ns s).frm.v), .int .i64 ((thS ns s).to_.v), .int .i64 ((thS ns s).slide : Int), .slice pp10 L12.length cc11, .int .i64 ((thS ns s).acked : Int), .int .i64 ((i64N (thS ns s).came).v), .map (some m9), .int .i64 ((thS ns s).clock : Int), .bool false] 62 (0, 0)) :: Row 79 3 (.slice pp10 L12.length cc11) L12.length (L12.flatMap bodCell) :: byA (L12.map BodD.by) :: MapA m9 (ents (kI .i64) evD E13) :: byA (mby E13) :: Row 41 6 (.slice pp3 ((thT ns s).length) cc4) ((thT ns s).length) (D25.flatMap dgdCell) :: (F.set i emp)) := ((((((H29.move 6 rfl).move 6 rfl).move 6 rfl).move 6 rfl).move 6 rfl).move 6 rfl)
      refine g_mix (fun t_ w => St W w (byA (D25.map DgD.by) :: blk g (.cells #[.int .i64 ((thS ns s).frm.v), .int .i64 ((thS ns s).to_.v), .int .i64 ((thS ns s).slide : Int), .slice pp10 L12.length cc11, .int .i64 ((thS ns s).acked : Int), .int .i64 ((i64N (thS ns s).came).v), .map (some m9), .int .i64 ((thS ns s).clock : Int), .bool false] 62 (0, 0)) :: Row 79 3 (.slice pp10 L12.length cc11) L12.length (L12.flatMap bodCell) :: byA (L12.map BodD.by) :: MapA m9 (ents (kI .i64) evD E13) :: byA (mby E13) :: t_)) (Row 41 6 (.slice pp3 ((thT ns s).length) cc4) ((thT ns s).length) (D25.flatMap dgdCell) :: (F.set i emp)) mixed 19 rfl H30.drew ?_
      refine f_first 0 (listed' := #[true, false, false, false, false, false, false, false, false, false, false, false, false, false, false, false, false, false, false]) rfl (by kernel_rfl) (by kernel_rfl) (by kernel_rfl) rfl ?_
      refine f_val rfl rfl rfl (by intro t_ w hw; exact x_move (.slice pp3 ((thT ns s).length) cc4) rfl w) ?_
      refine f_first 1 (listed' := #[true, true, false, false, false, false, false, false, false, false, false, false, false, false, false, false, false, false, false]) rfl (by kernel_rfl) (by kernel_rfl) (by kernel_rfl) rfl ?_
      refine f_val rfl rfl rfl (by intro t_ w hw; exact x_move (.pointer (some ⟨g, 0, none⟩)) rfl w) ?_
      refine f_first 2 (listed' := #[true, true, true, false, false, false, false, false, false, false, false, false, false, false, false, false, false, false, false]) rfl (by kernel_rfl) (by kernel_rfl) (by kernel_rfl) rfl ?_
      refine f_val rfl rfl rfl (by intro t_ w hw; exact x_nilCheck (.pointer (some ⟨g, 0, none⟩)) rfl ⟨_, rfl⟩ w) ?_
      refine f_first 3 (listed' := #[true, true, true, true, false, false, false, false, false, false, false, false, false, false, false, false, false, false, false]) rfl (by kernel_rfl) (by kernel_rfl) (by kernel_rfl) rfl ?_
      refine f_val rfl rfl rfl (by intro t_ w hw; exact x_fieldAddr 62 0 0 0 46 rfl fi_62_0 rfl w) ?_
      refine f_first 4 (listed' := #[true, true, true, true, true, false, false, false, false, false, false, false, false, false, false, false, false, false, false]) rfl (by kernel_rfl) (by kernel_rfl) (by kernel_rfl) rfl ?_
      refine f_val rfl rfl rfl (by intro t_ w hw; exact x_fieldAddr 46 0 0 0 3 rfl fi_46_0 rfl w) ?_
      refine f_first 5 (listed' := #[true, true, true, true, true, true, false, false, false, false, false, false, false, false, false, false, false, false, false]) rfl (by kernel_rfl) (by kernel_rfl) (by kernel_rfl) rfl ?_
      refine f_val rfl rfl rfl (by intro t_ w hw; exact x_load (.int .i64 ((thS ns s).frm.v)) ag_3 rfl (hw.blk_at (i := 1) rfl) rfl) ?_
      refine f_first 6 (listed' := #[true, true, true, true, true, true, true, false, false, false, false, false, false, false, false, false, false, false, false]) rfl (by kernel_rfl) (by kernel_rfl) (by kernel_rfl) rfl ?_
      refine f_val rfl rfl rfl (by intro t_ w hw; exact x_move (.pointer (some ⟨g, 0, none⟩)) rfl w) ?_
      refine f_first 7 (listed' := #[true, true, true, true, true, true, true, true, false, false, false, false, false, false, false, false, false, false, false]) rfl (by kernel_rfl) (by kernel_rfl) (by kernel_rfl) rfl ?_
      refine f_val rfl rfl rfl (by intro t_ w hw; exact x_nilCheck (.pointer (some ⟨g, 0, none⟩)) rfl ⟨_, rfl⟩ w) ?_
      refine f_first 8 (listed' := #[true, true, true, true, true, true, true, true, true, false, false, false, false, false, false, false, false, false, false]) rfl (by kernel_rfl) (by kernel_rfl) (by kernel_rfl) rfl ?_
      refine f_val rfl rfl rfl (by intro t_ w hw; exact x_fieldAddr 62 0 0 0 46 rfl fi_62_0 rfl w) ?_
      refine f_first 9 (listed' := #[true, true, true, true, true, true, true, true, true, true, false, false, false, false, false, false, false, false, false]) rfl (by kernel_rfl) (by kernel_rfl) (by kernel_rfl) rfl ?_
      refine f_val rfl rfl rfl (by intro t_ w hw; exact x_fieldAddr 46 1 1 1 3 rfl fi_46_1 rfl w) ?_
      refine f_first 10 (listed' := #[true, true, true, true, true, true, true, true, true, true, true, false, false, false, false, false, false, false, false]) rfl (by kernel_rfl) (by kernel_rfl) (by kernel_rfl) rfl ?_
      refine f_val rfl rfl rfl (by intro t_ w hw; exact x_load (.int .i64 ((thS ns s).to_.v)) ag_3 rfl (hw.blk_at (i := 1) rfl) rfl) ?_
      refine f_first 11 (listed' := #[true, true, true, true, true, true, true, true, true, true, true, true, false, false, false, false, false, false, false]) rfl (by kernel_rfl) (by kernel_rfl) (by kernel_rfl) rfl ?_
      refine f_val rfl rfl rfl (by intro t_ w hw; exact x_move (.pointer (some ⟨g, 0, none⟩)) rfl w) ?_
      refine f_first 12 (listed' := #[true, true, true, true, true, true, true, true, true, true, true, true, true, false, false, false, false, false, false]) rfl (by kernel_rfl) (by kernel_rfl) (by kernel_rfl) rfl ?_
      refine f_val rfl rfl rfl (by intro t_ w hw; exact x_nilCheck (.pointer (some ⟨g, 0, none⟩)) rfl ⟨_, rfl⟩ w) ?_
      refine f_first 13 (listed' := #[true, true, true, true, true, true, true, true, true, true, true, true, true, true, false, false, false, false, false]) rfl (by kernel_rfl) (by kernel_rfl) (by kernel_rfl) rfl ?_
      refine f_val rfl rfl rfl (by intro t_ w hw; exact x_fieldAddr 62 4 5 5 2 rfl fi_62_4 rfl w) ?_
      refine f_first 14 (listed' := #[true, true, true, true, true, true, true, true, true, true, true, true, true, true, true, false, false, false, false]) rfl (by kernel_rfl) (by kernel_rfl) (by kernel_rfl) rfl ?_
      refine f_val rfl rfl rfl (by intro t_ w hw; exact x_load (.int .i64 ((i64N (thS ns s).came).v)) ag_2 rfl (hw.blk_at (i := 1) rfl) rfl) ?_
      refine f_first 15 (listed' := #[true, true, true, true, true, true, true, true, true, true, true, true, true, true, true, true, false, false, false]) rfl (by kernel_rfl) (by kernel_rfl) (by kernel_rfl) rfl ?_
      refine f_val rfl rfl rfl (by intro t_ w hw; exact x_build (cs := #[.int .i64 ((thS ns s).frm.v), .int .i64 ((thS ns s).to_.v), .int .i64 2, .int .i64 0, .int .i64 ((i64N (thS ns s).came).v), .slice none 0 0]) (by kernel_rfl) w) ?_
      refine f_all (rs := [16]) (by kernel_rfl) (by simp) ?_
      refine a_cons ⟨_, rfl, ?_⟩ (fun x hx => absurd hx (by simp))
      intro w31 H32
      try dsimp only at H32
      refine s_buildSlice H32 6 1 (cs := #[.int .i64 ((thS ns s).frm.v), .int .i64 ((thS ns s).to_.v), .int .i64 2, .int .i64 0, .int .i64 ((i64N (thS ns s).came).v), .slice none 0 0]) #[.int .i64 0, .int .i64 0, .int .i64 0, .int .i64 0, .int .i64 0, .slice none 0 0] el_34 ze_41 (by decide) (by decide) (by kernel_rfl) rfl ?_; intro bk33 w34 H35
      have H36 : St W w34 (byA (D25.map DgD.by) :: blk g (.cells #[.int .i64 ((thS ns s).frm.v), .int .i64 ((thS ns s).to_.v), .int .i64 ((thS ns s).slide : Int), .slice pp10 L12.length cc11, .int .i64 ((thS ns s).acked : Int), .int .i64 ((i64N (thS ns s).came).v), .map (some m9), .int .i64 ((thS ns s).clock : Int), .bool false] 62 (0, 0)) :: Row 79 3 (.slice pp10 L12.length cc11) L12.length (L12.flatMap bodCell) :: byA (L12.map BodD.by) :: MapA m9 (ents (kI .i64) evD E13) :: byA (mby E13) :: blk bk33 (.cells #[.int .i64 ((thS ns s).frm.v), .int .i64 ((thS ns s).to_.v), .int .i64 2, .int .i64 0, .int .i64 ((i64N (thS ns s).came).v), .slice none 0 0] 41 (0, 0)) :: Row 41 6 (.slice pp3 ((thT ns s).length) cc4) ((thT ns s).length) (D25.flatMap dgdCell) :: (F.set i emp)) := ((((((((H35.move 7 rfl).move 1 rfl).move 7 rfl).move 7 rfl).move 7 rfl).move 7 rfl).move 7 rfl).move 7 rfl)
      refine ⟨blk bk33 (.cells #[.int .i64 ((thS ns s).frm.v), .int .i64 ((thS ns s).to_.v), .int .i64 2, .int .i64 0, .int .i64 ((i64N (thS ns s).came).v), .slice none 0 0] 41 (0, 0)) :: Row 41 6 (.slice pp3 ((thT ns s).length) cc4) ((thT ns s).length) (D25.flatMap dgdCell) :: (F.set i emp), ?_, H36⟩
      change FReg _ _ _ _ _ #[true, true, true, true, true, true, true, true, true, true, true, true, true, true, true, true, true, false, false] _ _
      refine f_all (rs := [17]) (by kernel_rfl) (by simp) ?_
      refine a_cons ⟨_, rfl, ?_⟩ (fun x hx => absurd hx (by simp))
      intro w37 H38
      try dsimp only at H38
      refine s_append H38 7 rfl rfl rfl (rd_blk (H38.blk_at (i := 6) rfl) rfl (Nat.le_of_ble_eq_true rfl) (by simp [Value.oneCell'])) ap_34 (by decide) (by unfold maxLen; omega) (by omega) (n' := (thT ns s).length + 1) (xs' := D25.flatMap dgdCell ++ ([.int .i64 ((thS ns s).frm.v), .int .i64 ((thS ns s).to_.v), .int .i64 2, .int .i64 0, .int .i64 ((i64N (thS ns s).came).v), .slice none 0 0] : List Value)) (by omega) (by first | rfl | simp) rfl ?_; intro vv39 w40 H41 hn42
      obtain ⟨pp43, cc44, rfl⟩ := Row.slice H41 (i := 7) rfl
      refine ⟨blk bk33 (.cells #[.int .i64 ((thS ns s).frm.v), .int .i64 ((thS ns s).to_.v), .int .i64 2, .int .i64 0, .int .i64 ((i64N (thS ns s).came).v), .slice none 0 0] 41 (0, 0)) :: Row 41 6 (.slice pp43 ((thT ns s).length + 1) cc44) ((thT ns s).length + 1) (D25.flatMap dgdCell ++ ([.int .i64 ((thS ns s).frm.v), .int .i64 ((thS ns s).to_.v), .int .i64 2, .int .i64 0, .int .i64 ((i64N (thS ns s).came).v), .slice none 0 0] : List Value)) :: (F.set i emp), ?_, H41⟩
      change FReg _ _ _ _ _ #[true, true, true, true, true, true, true, true, true, true, true, true, true, true, true, true, true, true, false] _ _
      refine f_first 18 (listed' := #[true, true, true, true, true, true, true, true, true, true, true, true, true, true, true, true, true, true, true]) rfl (by kernel_rfl) (by kernel_rfl) (by kernel_rfl) rfl ?_
      refine f_val rfl rfl rfl (by intro t_ w hw; exact x_assign (.slice pp43 ((thT ns s).length + 1) cc44) rfl w) ?_
      refine f_done (by kernel_rfl) ?_
      intro w45 H46
      refine g_seq ?_
      refine g_region ?_
      refine r_cons (s_move (.slice pp43 ((thT ns s).length + 1) cc44) rfl rfl ?_)
      refine r_cons (s_assign (.slice pp43 ((thT ns s).length + 1) cc44) rfl rfl ?_)
      refine r_nil ?_
      refine g_ret' [.slice pp43 ((thT ns s).length + 1) cc44] Try.func23 Try.results23 ⟨rfl, trivial⟩ ?_
      have H47 : St W w45 (blk g (.cells #[.int .i64 ((thS ns s).frm.v), .int .i64 ((thS ns s).to_.v), .int .i64 ((thS ns s).slide : Int), .slice pp10 L12.length cc11, .int .i64 ((thS ns s).acked : Int), .int .i64 ((i64N (thS ns s).came).v), .map (some m9), .int .i64 ((thS ns s).clock : Int), .bool false] 62 (0, 0)) :: Row 79 3 (.slice pp10 L12.length cc11) L12.length (L12.flatMap bodCell) :: byA (L12.map BodD.by) :: MapA m9 (ents (kI .i64) evD E13) :: byA (mby E13) :: byA (D25.map DgD.by) :: blk bk33 (.cells #[.int .i64 ((thS ns s).frm.v), .int .i64 ((thS ns s).to_.v), .int .i64 2, .int .i64 0, .int .i64 ((i64N (thS ns s).came).v), .slice none 0 0] 41 (0, 0)) :: Row 41 6 (.slice pp43 ((thT ns s).length + 1) cc44) ((thT ns s).length + 1) (D25.flatMap dgdCell ++ ([.int .i64 ((thS ns s).frm.v), .int .i64 ((thS ns s).to_.v), .int .i64 2, .int .i64 0, .int .i64 ((i64N (thS ns s).came).v), .slice none 0 0] : List Value)) :: (F.set i emp)) := (((((H46.move 5 rfl).move 5 rfl).move 5 rfl).move 5 rfl).move 5 rfl)
      have H48 : St W w45 (LkA g (outS s) :: byA (D25.map DgD.by) :: blk bk33 (.cells #[.int .i64 ((thS ns s).frm.v), .int .i64 ((thS ns s).to_.v), .int .i64 2, .int .i64 0, .int .i64 ((i64N (thS ns s).came).v), .slice none 0 0] 41 (0, 0)) :: Row 41 6 (.slice pp43 ((thT ns s).length + 1) cc44) ((thT ns s).length + 1) (D25.flatMap dgdCell ++ ([.int .i64 ((thS ns s).frm.v), .int .i64 ((thS ns s).to_.v), .int .i64 2, .int .i64 0, .int .i64 ((i64N (thS ns s).came).v), .slice none 0 0] : List Value)) :: (F.set i emp)) := St.shut_ex ⟨(m9, pp10, cc11, L12, E13), hL14, hE15⟩ (St.shut_star (ls := [blk g (.cells #[.int .i64 ((thS ns s).frm.v), .int .i64 ((thS ns s).to_.v), .int .i64 ((thS ns s).slide : Int), .slice pp10 L12.length cc11, .int .i64 ((thS ns s).acked : Int), .int .i64 ((i64N (thS ns s).came).v), .map (some m9), .int .i64 ((thS ns s).clock : Int), .bool false] 62 (0, 0)), Row 79 3 (.slice pp10 L12.length cc11) L12.length (L12.flatMap bodCell), byA (L12.map BodD.by), MapA m9 (ents (kI .i64) evD E13), byA (mby E13)]) H47)
      have H49 := Row.im (Row.nil_intro H48 5 1) (i := 0) rfl
      have H50 : St W w45 (Im 1 (.slice none 0 0) (([] : List UInt8).length) (([] : List UInt8).flatMap u8c) :: LkA g (outS s) :: byA (D25.map DgD.by) :: blk bk33 (.cells #[.int .i64 ((thS ns s).frm.v), .int .i64 ((thS ns s).to_.v), .int .i64 2, .int .i64 0, .int .i64 ((i64N (thS ns s).came).v), .slice none 0 0] 41 (0, 0)) :: Row 41 6 (.slice pp43 ((thT ns s).length + 1) cc44) ((thT ns s).length + 1) (D25.flatMap dgdCell ++ ([.int .i64 ((thS ns s).frm.v), .int .i64 ((thS ns s).to_.v), .int .i64 2, .int .i64 0, .int .i64 ((i64N (thS ns s).came).v), .slice none 0 0] : List Value)) :: (F.set i emp)) := H49
      have H51 := byA_add (x := (⟨ackOf s, none, 0⟩ : DgD).by) H50 (i := 2) (j := 0) rfl rfl snoc_dg
      have H52 : St W w45 (Row 41 6 (.slice pp43 ((thT ns s).length + 1) cc44) ((thT ns s).length + 1) (D25.flatMap dgdCell ++ ([.int .i64 ((thS ns s).frm.v), .int .i64 ((thS ns s).to_.v), .int .i64 2, .int .i64 0, .int .i64 ((i64N (thS ns s).came).v), .slice none 0 0] : List Value)) :: byA ((D25 ++ [(⟨ackOf s, none, 0⟩ : DgD)]).map DgD.by) :: Im 1 (.slice none 0 0) (([] : List UInt8).length) (([] : List UInt8).flatMap u8c) :: LkA g (outS s) :: byA (D25.map DgD.by) :: blk bk33 (.cells #[.int .i64 ((thS ns s).frm.v), .int .i64 ((thS ns s).to_.v), .int .i64 2, .int .i64 0, .int .i64 ((i64N (thS ns s).came).v), .slice none 0 0] 41 (0, 0)) :: (F.set i emp)) := (H51.move 5 rfl)
      have hn53 : (outT s).length = (thT ns s).length + 1 := (by rw [hO1, hT0]; rfl)
      have H54 : St W w45 (Row 41 6 (.slice pp43 ((outT s).length) cc44) ((outT s).length) ((D25 ++ [(⟨ackOf s, none, 0⟩ : DgD)]).flatMap dgdCell) :: byA ((D25 ++ [(⟨ackOf s, none, 0⟩ : DgD)]).map DgD.by) :: Im 1 (.slice none 0 0) (([] : List UInt8).length) (([] : List UInt8).flatMap u8c) :: LkA g (outS s) :: byA (D25.map DgD.by) :: blk bk33 (.cells #[.int .i64 ((thS ns s).frm.v), .int .i64 ((thS ns s).to_.v), .int .i64 2, .int .i64 0, .int .i64 ((i64N (thS ns s).came).v), .slice none 0 0] 41 (0, 0)) :: (F.set i emp)) := by rw [hn53]; rw [flat_app]; exact H52
      have H55 : St W w45 (DgsA pp43 cc44 (outT s) :: Im 1 (.slice none 0 0) (([] : List UInt8).length) (([] : List UInt8).flatMap u8c) :: LkA g (outS s) :: byA (D25.map DgD.by) :: blk bk33 (.cells #[.int .i64 ((thS ns s).frm.v), .int .i64 ((thS ns s).to_.v), .int .i64 2, .int .i64 0, .int .i64 ((i64N (thS ns s).came).v), .slice none 0 0] 41 (0, 0)) :: (F.set i emp)) := St.shut_ex ⟨(D25 ++ [(⟨ackOf s, none, 0⟩ : DgD)]), (show (D25 ++ [(⟨ackOf s, none, 0⟩ : DgD)]).map DgD.d = outT s from by rw [hO1, hT1]; rfl)⟩ (St.shut_star (ls := [Row 41 6 (.slice pp43 ((outT s).length) cc44) ((outT s).length) ((D25 ++ [(⟨ackOf s, none, 0⟩ : DgD)]).flatMap dgdCell), byA ((D25 ++ [(⟨ackOf s, none, 0⟩ : DgD)]).map DgD.by)]) H54)
      have H56 : St W w45 (DgsA pp43 cc44 (outT s) :: LkA g (outS s) :: (F.set i emp)) := (((((H55.move 2 rfl).move 1 rfl).drop 2 rfl).drop 2 rfl).drop 2 rfl)
      have H57 : St W w45 (LkA g (outS s) :: (DgsA pp43 cc44 (outT s) :: F).set (i + 1) emp) := (H56.move 1 rfl)
      exact ⟨_, _, by rw [hn53]; rfl, St.back (i := i + 1) (by exact hi) H57⟩
    · have hb21 := eq_false_of_ne_true hb21
      refine g_false (congrArg Value.bool hb21) ?_
      refine g_skip ?_
      refine g_seq ?_
      refine g_region ?_
      refine r_cons (s_move (.slice pp3 ((thT ns s).length) cc4) rfl rfl ?_)
      refine r_cons (s_assign (.slice pp3 ((thT ns s).length) cc4) rfl rfl ?_)
      refine r_nil ?_
      refine g_ret' [.slice pp3 ((thT ns s).length) cc4] Try.func23 Try.results23 ⟨rfl, trivial⟩ ?_
      have H58 : St W w5 (LkA g (thS ns s) :: DgsA pp3 cc4 (thT ns s) :: (F.set i emp)) := St.shut_ex ⟨(m9, pp10, cc11, L12, E13), hL14, hE15⟩ (St.shut_star (ls := [blk g (.cells #[.int .i64 ((thS ns s).frm.v), .int .i64 ((thS ns s).to_.v), .int .i64 ((thS ns s).slide : Int), .slice pp10 L12.length cc11, .int .i64 ((thS ns s).acked : Int), .int .i64 ((i64N (thS ns s).came).v), .map (some m9), .int .i64 ((thS ns s).clock : Int), .bool ((thS ns s).owes)] 62 (0, 0)), Row 79 3 (.slice pp10 L12.length cc11) L12.length (L12.flatMap bodCell), byA (L12.map BodD.by), MapA m9 (ents (kI .i64) evD E13), byA (mby E13)]) H20)
      have hw9 : (thS ns s).owes = false := by first | assumption | exact th_owes (by omega)
      have H59 : St W w5 (LkA g (outS s) :: DgsA pp3 cc4 (outT s) :: (F.set i emp)) := by rw [outT_no hw9, ← outS_no hw9]; exact H58
      have H60 : St W w5 (DgsA pp3 cc4 (outT s) :: LkA g (outS s) :: (F.set i emp)) := (H59.move 1 rfl)
      have H61 : St W w5 (LkA g (outS s) :: (DgsA pp3 cc4 (outT s) :: F).set (i + 1) emp) := (H60.move 1 rfl)
      exact ⟨_, _, by rw [outT_no hw9]; rfl, St.back (i := i + 1) (by exact hi) H61⟩
  · skip
    refine r_cons (s_eql false rfl rfl (dfalse hc7) rfl ?_)
    refine r_cons (s_move (.bool false) rfl rfl ?_)
    refine r_cons (r_pass rfl rfl rfl rfl rfl ?_)
    refine r_cons (r_pass rfl rfl rfl rfl rfl ?_)
    refine r_cons (r_pass rfl rfl rfl rfl rfl ?_)
    refine r_cons (r_pass rfl rfl rfl rfl rfl ?_)
    refine r_cons (s_pick_f (.bool false) rfl rfl rfl ?_)
    refine r_nil ?_
    refine g_false rfl ?_
    refine g_skip ?_
    refine g_seq ?_
    refine g_region ?_
    refine r_cons (s_move (.slice pp3 ((thT ns s).length) cc4) rfl rfl ?_)
    refine r_cons (s_assign (.slice pp3 ((thT ns s).length) cc4) rfl rfl ?_)
    refine r_nil ?_
    refine g_ret' [.slice pp3 ((thT ns s).length) cc4] Try.func23 Try.results23 ⟨rfl, trivial⟩ ?_
    have hw9 : (thS ns s).owes = false := by first | assumption | exact th_owes (by omega)
    have H62 : St W w5 (DgsA pp3 cc4 (outT s) :: LkA g (outS s) :: (F.set i emp)) := by rw [outT_no hw9, ← outS_no hw9]; exact H6
    have H63 : St W w5 (DgsA pp3 cc4 (outT s) :: LkA g (outS s) :: (F.set i emp)) := ((H62.move 1 rfl).move 1 rfl)
    have H64 : St W w5 (LkA g (outS s) :: (DgsA pp3 cc4 (outT s) :: F).set (i + 1) emp) := (H63.move 1 rfl)
    exact ⟨_, _, by rw [outT_no hw9]; rfl, St.back (i := i + 1) (by exact hi) H64⟩
set_option maxHeartbeats 4000000 in
set_option maxRecDepth 100000 in
theorem Lk_Tick {W w : World} {F : List Atom} (g : Nat) (s : EndV) (hok : endOk s) (hck : s.clock + 1 ≤ 4611686018427387904) {i : Nat} (hi : F[i]? = some (LkA g s)) (H : St W w F) : Calls Try.prog 11 #[.pointer (some ⟨g, 0, none⟩)] w (Ret fun v w' => ∃ p c, v = .slice p ((tickT s).length) c ∧ St W w' (DgsA p c (tickT s) :: F.set i (LkA g (tickS s)))) := by
  have H0 := H.front hi
  obtain ⟨o1, o2, o3, o4, o5, o6, o8⟩ := id hok; have o7 := i64N_0 (Nat.le_trans o4 (by decide))
  refine calls_of_go (n := 20) Try.func11 rfl Try.ntmps11 rfl ?_
  refine g_seq ?_
  refine g_region ?_
  refine r_cons (s_box H0 30 (.pointer (some ⟨g, 0, none⟩)) rfl (cs := #[.pointer (some ⟨g, 0, none⟩)]) rfl rfl ?_); intro bk1 w2 H3
  refine r_cons (s_assign (.slice none 0 0) rfl rfl ?_)
  refine r_nil ?_
  refine g_seq ?_
  refine g_seq ?_
  refine g_region ?_
  refine r_cons (s_load (.pointer (some ⟨g, 0, none⟩)) ag_30 rfl (H3.blk_at (i := 0) rfl) rfl rfl ?_)
  refine r_cons (s_call [.pointer (some ⟨g, 0, none⟩)] pl_31 rfl rfl (Lk_none g s hok (i := 1) rfl H3) ?_)
  rintro _ w4 ⟨rfl, H5⟩
  refine r_nil ?_
  refine g_false rfl ?_
  refine g_skip ?_
  refine g_seq ?_
  refine g_region ?_
  refine r_cons (s_load (.pointer (some ⟨g, 0, none⟩)) ag_30 rfl (H5.blk_at (i := 0) rfl) rfl rfl ?_)
  refine r_cons (s_nilCheck (.pointer (some ⟨g, 0, none⟩)) rfl ⟨_, rfl⟩ rfl ?_)
  refine r_cons (s_fieldAddr 62 6 7 7 2 rfl fi_62_6 rfl rfl ?_)
  have H6 := H5.move 1 rfl
  obtain ⟨⟨⟨m7, pp8, cc9, L10, E11⟩, hL12, hE13⟩, H14⟩ := St.open_ex H6
  have H15 := St.open_star H14
  change L10.map BodD.v = s.l at hL12; change mapB E11 = s.held at hE13
  have hl16 := lenOf hL12; have he17 := mapB_len hE13
  have H18 : St W w4 (blk g (.cells #[.int .i64 s.frm.v, .int .i64 s.to_.v, .int .i64 (s.slide : Int), .slice pp8 L10.length cc9, .int .i64 (s.acked : Int), .int .i64 ((i64N s.came).v), .map (some m7), .int .i64 (s.clock : Int), .bool s.owes] 62 (0, 0)) :: Row 79 3 (.slice pp8 L10.length cc9) L10.length (L10.flatMap bodCell) :: byA (L10.map BodD.by) :: MapA m7 (ents (kI .i64) evD E11) :: byA (mby E11) :: blk bk1 (.cells #[.pointer (some ⟨g, 0, none⟩)] 30 (0, 0)) :: (F.set i emp)) := H15
  refine r_cons (s_load (.int .i64 (s.clock : Int)) ag_2 rfl (H18.blk_at (i := 0) rfl) rfl rfl ?_)
  refine r_cons (s_add ((s.clock + 1 : Nat) : Int) rfl rfl ((wi64 (by omega)).trans (by omega)) rfl ?_)
  refine r_cons (s_nilCheck (.pointer (some ⟨g, 0, none⟩)) rfl ⟨_, rfl⟩ rfl ?_)
  refine r_cons (s_fieldAddr 62 6 7 7 2 rfl fi_62_6 rfl rfl ?_)
  refine r_cons (s_store H18 0 (.int .i64 ((s.clock + 1 : Nat) : Int)) rfl rfl rfl sz_2 rfl (Nat.le_of_ble_eq_true rfl) rfl (cs' := #[.int .i64 s.frm.v, .int .i64 s.to_.v, .int .i64 (s.slide : Int), .slice pp8 L10.length cc9, .int .i64 (s.acked : Int), .int .i64 ((i64N s.came).v), .map (some m7), .int .i64 ((s.clock + 1 : Nat) : Int), .bool s.owes]) rfl ?_); intro w19 H20
  refine r_nil ?_
  refine g_seq ?_
  refine g_region ?_
  refine r_cons (s_load (.pointer (some ⟨g, 0, none⟩)) ag_30 rfl (H20.blk_at (i := 5) rfl) rfl rfl ?_)
  have H21 : St W w19 (LkA g (tick1 s) :: blk bk1 (.cells #[.pointer (some ⟨g, 0, none⟩)] 30 (0, 0)) :: (F.set i emp)) := St.shut_ex ⟨(m7, pp8, cc9, L10, E11), hL12, hE13⟩ (St.shut_star (ls := [blk g (.cells #[.int .i64 s.frm.v, .int .i64 s.to_.v, .int .i64 (s.slide : Int), .slice pp8 L10.length cc9, .int .i64 (s.acked : Int), .int .i64 ((i64N s.came).v), .map (some m7), .int .i64 ((s.clock + 1 : Nat) : Int), .bool s.owes] 62 (0, 0)), Row 79 3 (.slice pp8 L10.length cc9) L10.length (L10.flatMap bodCell), byA (L10.map BodD.by), MapA m7 (ents (kI .i64) evD E11), byA (mby E11)]) H20)
  refine r_cons (s_makeFunc (.func (.func 33) #[] #[.pointer (some ⟨bk1, 0, none⟩)]) rfl rfl ?_)
  refine r_cons (s_call [.pointer (some ⟨g, 0, none⟩), .func (.func 33) #[] #[.pointer (some ⟨bk1, 0, none⟩)]] pl_32 rfl rfl (these_2 g bk1 (tick1 s) (endOk_tick1 hok hck) H21) ?_)
  rintro _ w24 ⟨pp22, cc23, rfl, H25⟩
  refine r_cons (s_assign (.slice pp22 ((thT (rs (tick1 s).clock) (tick1 s)).length) cc23) rfl rfl ?_)
  refine r_nil ?_
  refine g_seq ?_
  refine g_region ?_
  refine r_cons (s_move (.slice pp22 ((thT (rs (tick1 s).clock) (tick1 s)).length) cc23) rfl rfl ?_)
  refine r_cons (s_load (.pointer (some ⟨g, 0, none⟩)) ag_30 rfl (H25.blk_at (i := 2) rfl) rfl rfl ?_)
  refine r_cons (s_call [.pointer (some ⟨g, 0, none⟩)] pl_23 rfl rfl (Lk_Out g (thS (rs (tick1 s).clock) (tick1 s)) (endOk_th (endOk_tick1 hok hck)) (i := 1) rfl H25) ?_)
  rintro _ w28 ⟨pp26, cc27, rfl, H29⟩
  have hn1 := thT_len (rs (tick1 s).clock) (tick1 s) (endOk_tick1 hok hck); have hn2 := outT_len (thS (rs (tick1 s).clock) (tick1 s)) (endOk_th (endOk_tick1 hok hck))
  have H30 := H29.move 0 rfl
  obtain ⟨⟨D31, hD32⟩, H33⟩ := St.open_ex H30
  have H34 := St.open_star H33
  change D31.map DgD.d = (outT (thS (rs (tick1 s).clock) (tick1 s))) at hD32
  have H35 : St W w28 (Row 41 6 (.slice pp26 ((outT (thS (rs (tick1 s).clock) (tick1 s))).length) cc27) ((outT (thS (rs (tick1 s).clock) (tick1 s))).length) (D31.flatMap dgdCell) :: byA (D31.map DgD.by) :: DgsA pp22 cc23 (thT (rs (tick1 s).clock) (tick1 s)) :: LkA g (outS (thS (rs (tick1 s).clock) (tick1 s))) :: blk bk1 (.cells #[.pointer (some ⟨g, 0, none⟩)] 30 (0, 0)) :: (F.set i emp)) := H34
  have H36 := H35.move 2 rfl
  obtain ⟨⟨D37, hD38⟩, H39⟩ := St.open_ex H36
  have H40 := St.open_star H39
  change D37.map DgD.d = (thT (rs (tick1 s).clock) (tick1 s)) at hD38
  have H41 : St W w28 (Row 41 6 (.slice pp22 ((thT (rs (tick1 s).clock) (tick1 s)).length) cc23) ((thT (rs (tick1 s).clock) (tick1 s)).length) (D37.flatMap dgdCell) :: byA (D37.map DgD.by) :: Row 41 6 (.slice pp26 ((outT (thS (rs (tick1 s).clock) (tick1 s))).length) cc27) ((outT (thS (rs (tick1 s).clock) (tick1 s))).length) (D31.flatMap dgdCell) :: byA (D31.map DgD.by) :: LkA g (outS (thS (rs (tick1 s).clock) (tick1 s))) :: blk bk1 (.cells #[.pointer (some ⟨g, 0, none⟩)] 30 (0, 0)) :: (F.set i emp)) := H40
  refine r_cons (s_append H41 0 rfl rfl rfl (Row.rd H41 (i := 2) rfl) ap_34 (by decide) (by unfold maxLen; omega) (by omega) (n' := (thT (rs (tick1 s).clock) (tick1 s)).length + (outT (thS (rs (tick1 s).clock) (tick1 s))).length) (xs' := D37.flatMap dgdCell ++ D31.flatMap dgdCell) (by omega) (by first | rfl | simp) rfl ?_); intro vv42 w43 H44 hn45
  obtain ⟨pp46, cc47, rfl⟩ := Row.slice H44 (i := 0) rfl
  refine r_cons (s_assign (.slice pp46 ((thT (rs (tick1 s).clock) (tick1 s)).length + (outT (thS (rs (tick1 s).clock) (tick1 s))).length) cc47) rfl rfl ?_)
  refine r_nil ?_
  refine g_ret' [.slice pp46 ((thT (rs (tick1 s).clock) (tick1 s)).length + (outT (thS (rs (tick1 s).clock) (tick1 s))).length) cc47] Try.func11 Try.results11 ⟨rfl, trivial⟩ ?_
  have H48 := byA_app (M := (D37 ++ D31).map DgD.by) H44 (i := 1) (j := 3) rfl rfl app_dg
  have H49 : St W w43 (Row 41 6 (.slice pp46 ((thT (rs (tick1 s).clock) (tick1 s)).length + (outT (thS (rs (tick1 s).clock) (tick1 s))).length) cc47) ((thT (rs (tick1 s).clock) (tick1 s)).length + (outT (thS (rs (tick1 s).clock) (tick1 s))).length) (D37.flatMap dgdCell ++ D31.flatMap dgdCell) :: byA ((D37 ++ D31).map DgD.by) :: byA (D37.map DgD.by) :: Row 41 6 (.slice pp26 ((outT (thS (rs (tick1 s).clock) (tick1 s))).length) cc27) ((outT (thS (rs (tick1 s).clock) (tick1 s))).length) (D31.flatMap dgdCell) :: byA (D31.map DgD.by) :: LkA g (outS (thS (rs (tick1 s).clock) (tick1 s))) :: blk bk1 (.cells #[.pointer (some ⟨g, 0, none⟩)] 30 (0, 0)) :: (F.set i emp)) := (H48.move 1 rfl)
  have hn50 : (tickT s).length = (thT (rs (tick1 s).clock) (tick1 s)).length + (outT (thS (rs (tick1 s).clock) (tick1 s))).length := (List.length_append ..)
  have H51 : St W w43 (Row 41 6 (.slice pp46 ((tickT s).length) cc47) ((tickT s).length) ((D37 ++ D31).flatMap dgdCell) :: byA ((D37 ++ D31).map DgD.by) :: byA (D37.map DgD.by) :: Row 41 6 (.slice pp26 ((outT (thS (rs (tick1 s).clock) (tick1 s))).length) cc27) ((outT (thS (rs (tick1 s).clock) (tick1 s))).length) (D31.flatMap dgdCell) :: byA (D31.map DgD.by) :: LkA g (outS (thS (rs (tick1 s).clock) (tick1 s))) :: blk bk1 (.cells #[.pointer (some ⟨g, 0, none⟩)] 30 (0, 0)) :: (F.set i emp)) := by rw [hn50]; rw [flat_app]; exact H49
  have H52 : St W w43 (DgsA pp46 cc47 (tickT s) :: byA (D37.map DgD.by) :: Row 41 6 (.slice pp26 ((outT (thS (rs (tick1 s).clock) (tick1 s))).length) cc27) ((outT (thS (rs (tick1 s).clock) (tick1 s))).length) (D31.flatMap dgdCell) :: byA (D31.map DgD.by) :: LkA g (outS (thS (rs (tick1 s).clock) (tick1 s))) :: blk bk1 (.cells #[.pointer (some ⟨g, 0, none⟩)] 30 (0, 0)) :: (F.set i emp)) := St.shut_ex ⟨(D37 ++ D31), (show (D37 ++ D31).map DgD.d = tickT s from app_map hD38 hD32)⟩ (St.shut_star (ls := [Row 41 6 (.slice pp46 ((tickT s).length) cc47) ((tickT s).length) ((D37 ++ D31).flatMap dgdCell), byA ((D37 ++ D31).map DgD.by)]) H51)
  have H53 : St W w43 (DgsA pp46 cc47 (tickT s) :: byA (D37.map DgD.by) :: Row 41 6 (.slice pp26 ((outT (thS (rs (tick1 s).clock) (tick1 s))).length) cc27) ((outT (thS (rs (tick1 s).clock) (tick1 s))).length) (D31.flatMap dgdCell) :: byA (D31.map DgD.by) :: LkA g (tickS s) :: blk bk1 (.cells #[.pointer (some ⟨g, 0, none⟩)] 30 (0, 0)) :: (F.set i emp)) := H52
  have H54 : St W w43 (DgsA pp46 cc47 (tickT s) :: LkA g (tickS s) :: (F.set i emp)) := ((((((H53.move 4 rfl).move 1 rfl).drop 2 rfl).drop 2 rfl).drop 2 rfl).drop 2 rfl)
  have H55 : St W w43 (LkA g (tickS s) :: (DgsA pp46 cc47 (tickT s) :: F).set (i + 1) emp) := (H54.move 1 rfl)
  exact ⟨_, _, by rw [hn50]; rfl, St.back (i := i + 1) (by exact hi) H55⟩
set_option maxHeartbeats 4000000 in
set_option maxRecDepth 100000 in
theorem New_1 {W w : World} {F : List Atom} (n : Int) (H : St W w F) : Calls Try.prog 35 #[.int .i64 n] w (Ret fun v w' => v = .bool (brB n) ∧ St W w' F) := by
  refine calls_of_go (n := 9) Try.func35 rfl Try.ntmps35 rfl ?_
  refine g_seq ?_
  refine g_region ?_
  refine r_cons (s_assign (.bool false) rfl rfl ?_)
  refine r_nil ?_
  refine g_seq ?_
  refine g_region ?_
  refine r_cons (s_move (.int .i64 n) rfl rfl ?_)
  by_cases hc1 : (0 : Int) ≤ n
  · skip
    refine r_cons (s_geq true rfl rfl (dtrue hc1) rfl ?_)
    refine r_cons (s_move (.bool true) rfl rfl ?_)
    refine r_cons (r_take rfl rfl ?_)
    refine s_move (.int .i64 n) rfl rfl ?_
    refine r_cons (r_take rfl rfl ?_)
    by_cases hc2 : n < 16
    · skip
      refine s_lss true rfl rfl (dtrue hc2) rfl ?_
      refine r_cons (s_pick_t (.bool true) rfl rfl rfl ?_)
      refine r_cons (s_assign (.bool true) rfl rfl ?_)
      refine r_nil ?_
      refine g_ret' [.bool true] Try.func35 Try.results35 ⟨rfl, trivial⟩ ?_
      exact ⟨congrArg Value.bool (by simp only [brB]; first | (exact (decide_eq_true (by omega)).symm) | (exact (decide_eq_false (by omega)).symm)), H⟩
    · skip
      refine s_lss false rfl rfl (dfalse hc2) rfl ?_
      refine r_cons (s_pick_t (.bool false) rfl rfl rfl ?_)
      refine r_cons (s_assign (.bool false) rfl rfl ?_)
      refine r_nil ?_
      refine g_ret' [.bool false] Try.func35 Try.results35 ⟨rfl, trivial⟩ ?_
      exact ⟨congrArg Value.bool (by simp only [brB]; first | (exact (decide_eq_true (by omega)).symm) | (exact (decide_eq_false (by omega)).symm)), H⟩
  · skip
    refine r_cons (s_geq false rfl rfl (dfalse hc1) rfl ?_)
    refine r_cons (s_move (.bool false) rfl rfl ?_)
    refine r_cons (r_pass rfl rfl rfl rfl rfl ?_)
    refine r_cons (r_pass rfl rfl rfl rfl rfl ?_)
    refine r_cons (s_pick_f (.bool false) rfl rfl rfl ?_)
    refine r_cons (s_assign (.bool false) rfl rfl ?_)
    refine r_nil ?_
    refine g_ret' [.bool false] Try.func35 Try.results35 ⟨rfl, trivial⟩ ?_
    exact ⟨congrArg Value.bool (by simp only [brB]; first | (exact (decide_eq_true (by omega)).symm) | (exact (decide_eq_false (by omega)).symm)), H⟩
set_option maxHeartbeats 4000000 in
set_option maxRecDepth 100000 in
theorem Link_New {W w : World} {F : List Atom} (f t : I64) (n : Nat) (hf : brB f.v = true) (ht : brB t.v = true) (hne : ¬ f.v = t.v) (hn : 1 ≤ n) (hn2 : n ≤ 64) (H : St W w F) : Calls Try.prog 17 #[.agg #[.int .i64 f.v, .int .i64 t.v], .int .i64 (n : Int)] w (Ret fun v w' => ∃ g, v = .tuple #[.pointer (some ⟨g, 0, none⟩), .int .i64 0] ∧ St W w' (LkA g (newS f t n) :: F)) := by
  refine calls_of_go (n := 39) Try.func17 rfl Try.ntmps17 rfl ?_
  refine g_seq ?_
  refine g_region ?_
  refine r_cons (s_box H 46 (.agg #[.int .i64 f.v, .int .i64 t.v]) rfl (cs := #[.int .i64 f.v, .int .i64 t.v]) rfl rfl ?_); intro bk1 w2 H3
  refine r_cons (s_assign (.pointer none) rfl rfl ?_)
  refine r_cons (s_assign (.int .i64 0) rfl rfl ?_)
  refine r_nil ?_
  refine g_seq ?_
  refine g_region ?_
  refine r_cons (s_assign (.func (.func 35) #[] #[]) rfl rfl ?_)
  refine r_nil ?_
  refine g_seq ?_
  refine g_seq ?_
  refine g_region ?_
  refine r_cons (s_move (.func (.func 35) #[] #[]) rfl rfl ?_)
  refine r_cons (s_fieldAddr 46 0 0 0 3 rfl fi_46_0 rfl rfl ?_)
  refine r_cons (s_load (.int .i64 f.v) ag_3 rfl (H3.blk_at (i := 0) rfl) rfl rfl ?_)
  refine r_cons (s_callv [] [.int .i64 f.v] rfl pl_35 rfl rfl (New_1 f.v H3) ?_)
  rintro _ w4 ⟨rfl, H5⟩
  refine r_cons (s_not (brB f.v) rfl false (by rw [hf]; rfl) rfl ?_)
  refine r_cons (s_move (.bool false) rfl rfl ?_)
  refine r_cons (r_take rfl rfl ?_)
  refine s_move (.func (.func 35) #[] #[]) rfl rfl ?_
  refine r_cons (r_take rfl rfl ?_)
  refine s_fieldAddr 46 1 1 1 3 rfl fi_46_1 rfl rfl ?_
  refine r_cons (r_take rfl rfl ?_)
  refine s_load (.int .i64 t.v) ag_3 rfl (H5.blk_at (i := 0) rfl) rfl rfl ?_
  refine r_cons (r_take rfl rfl ?_)
  refine s_callv [] [.int .i64 t.v] rfl pl_35 rfl rfl (New_1 t.v H5) ?_
  rintro _ w6 ⟨rfl, H7⟩
  refine r_cons (r_take rfl rfl ?_)
  refine s_not (brB t.v) rfl false (by rw [ht]; rfl) rfl ?_
  refine r_cons (s_pick_f (.bool false) rfl rfl rfl ?_)
  refine r_cons (s_move (.bool false) rfl rfl ?_)
  refine r_cons (r_take rfl rfl ?_)
  refine s_fieldAddr 46 0 0 0 3 rfl fi_46_0 rfl rfl ?_
  refine r_cons (r_take rfl rfl ?_)
  refine s_load (.int .i64 f.v) ag_3 rfl (H7.blk_at (i := 0) rfl) rfl rfl ?_
  refine r_cons (r_take rfl rfl ?_)
  refine s_fieldAddr 46 1 1 1 3 rfl fi_46_1 rfl rfl ?_
  refine r_cons (r_take rfl rfl ?_)
  refine s_load (.int .i64 t.v) ag_3 rfl (H7.blk_at (i := 0) rfl) rfl rfl ?_
  refine r_cons (r_take rfl rfl ?_)
  refine s_eql false rfl rfl (dfalse hne) rfl ?_
  refine r_cons (s_pick_f (.bool false) rfl rfl rfl ?_)
  refine r_cons (s_move (.bool false) rfl rfl ?_)
  refine r_cons (r_take rfl rfl ?_)
  refine s_move (.int .i64 (n : Int)) rfl rfl ?_
  refine r_cons (r_take rfl rfl ?_)
  refine s_lss false rfl rfl (dfalse (by omega)) rfl ?_
  refine r_cons (s_pick_f (.bool false) rfl rfl rfl ?_)
  refine r_cons (s_move (.bool false) rfl rfl ?_)
  refine r_cons (r_take rfl rfl ?_)
  refine s_move (.int .i64 (n : Int)) rfl rfl ?_
  refine r_cons (r_take rfl rfl ?_)
  refine s_gtr false rfl rfl (dfalse (by omega)) rfl ?_
  refine r_cons (s_pick_f (.bool false) rfl rfl rfl ?_)
  refine r_nil ?_
  refine g_false rfl ?_
  refine g_skip ?_
  refine g_seq ?_
  refine g_region ?_
  refine r_cons (s_loadAgg [.int .i64 f.v, .int .i64 t.v] 2 ag_46 rfl (H7.blk_at (i := 0) rfl) (Nat.le_of_ble_eq_true rfl) rfl rfl ?_)
  refine r_cons (s_move (.int .i64 (n : Int)) rfl rfl ?_)
  refine r_cons (s_makeMap H7 rfl ?_); intro mp8 w9 H10
  have H11 : St W w9 (MapA mp8 (ents (kI .i64) evD ([] : List (I64 × BytesD))) :: blk bk1 (.cells #[.int .i64 f.v, .int .i64 t.v] 46 (0, 0)) :: F) := H10
  refine r_cons (s_build (cs := #[.int .i64 f.v, .int .i64 t.v, .int .i64 (n : Int), .slice none 0 0, .int .i64 0, .int .i64 0, .map (some mp8), .int .i64 0, .bool false]) (by kernel_rfl) rfl ?_)
  refine r_cons (s_box H11 62 (.agg #[.int .i64 f.v, .int .i64 t.v, .int .i64 (n : Int), .slice none 0 0, .int .i64 0, .int .i64 0, .map (some mp8), .int .i64 0, .bool false]) rfl (cs := #[.int .i64 f.v, .int .i64 t.v, .int .i64 (n : Int), .slice none 0 0, .int .i64 0, .int .i64 0, .map (some mp8), .int .i64 0, .bool false]) rfl rfl ?_); intro bk12 w13 H14
  refine r_cons (s_assign (.pointer (some ⟨bk12, 0, none⟩)) rfl rfl ?_)
  refine r_cons (s_assign (.int .i64 0) rfl rfl ?_)
  refine r_nil ?_
  refine g_ret' [.pointer (some ⟨bk12, 0, none⟩), .int .i64 0] Try.func17 Try.results17 ⟨rfl, rfl, trivial⟩ ?_
  have H15 : St W w13 (blk bk12 (.cells #[.int .i64 f.v, .int .i64 t.v, .int .i64 (n : Int), .slice none 0 0, .int .i64 0, .int .i64 0, .map (some mp8), .int .i64 0, .bool false] 62 (0, 0)) :: MapA mp8 (ents (kI .i64) evD ([] : List (I64 × BytesD))) :: F) := (((H14.move 1 rfl).move 1 rfl).drop 2 rfl)
  have H16 := Row.nil_intro H15 79 3
  have H17 := byA_nil H16
  have H18 := byA_nil H17
  have H19 : St W w13 (blk bk12 (.cells #[.int .i64 f.v, .int .i64 t.v, .int .i64 (n : Int), .slice none 0 0, .int .i64 0, .int .i64 0, .map (some mp8), .int .i64 0, .bool false] 62 (0, 0)) :: Row 79 3 (.slice none 0 0) 0 [] :: byA [] :: MapA mp8 (ents (kI .i64) evD ([] : List (I64 × BytesD))) :: byA [] :: F) := (((((H18.move 1 rfl).move 4 rfl).move 2 rfl).move 3 rfl).move 4 rfl)
  exact ⟨bk12, rfl, St.shut_ex ⟨(mp8, none, 0, [], []), rfl, rfl⟩ (St.shut_star (ls := [blk bk12 (.cells #[.int .i64 f.v, .int .i64 t.v, .int .i64 (n : Int), .slice none 0 0, .int .i64 0, .int .i64 0, .map (some mp8), .int .i64 0, .bool false] 62 (0, 0)), Row 79 3 (.slice none 0 0) 0 [], byA [], MapA mp8 (ents (kI .i64) evD ([] : List (I64 × BytesD))), byA []]) H19)⟩
set_option maxHeartbeats 4000000 in
set_option maxRecDepth 100000 in
theorem clone_bodies {W w : World} {F : List Atom} (A : Atom) (v0 : Value) (n : Nat) (xs : List Value) (hA : RdA A 3 v0 n xs) (hn : n ≤ 1099511627776) {j : Nat} (hj : F[j]? = some A) (H : St W w F) : Calls Try.prog 47 #[v0] w (Ret fun v w' => ∃ p c, v = .slice p n c ∧ St W w' (Row 79 3 (.slice p n c) n xs :: F)) := by
  have hml := (hA _ _ _ j H hj).2
  obtain ⟨pp1, cc2, rfl, hn3⟩ := Rd.shape (hA _ _ _ j H hj).1
  refine calls_of_go (n := 8) Try.func47 rfl Try.ntmps47 rfl ?_
  refine g_seq ?_
  refine g_region ?_
  refine r_cons (s_assign (.slice none 0 0) rfl rfl ?_)
  refine r_nil ?_
  refine g_seq ?_
  refine g_seq ?_
  refine g_region ?_
  refine r_cons (s_move (.slice pp1 n cc2) rfl rfl ?_)
  by_cases hc4 : pp1 = none
  · skip
    refine r_cons (s_sleql true un_59 rfl rfl (isNone_t hc4) rfl ?_)
    refine r_nil ?_
    refine g_true rfl ?_
    refine g_seq ?_
    refine g_region ?_
    refine r_cons (s_assign (.slice none 0 0) rfl rfl ?_)
    refine r_nil ?_
    refine g_ret' [.slice none 0 0] Try.func47 Try.results47 ⟨rfl, trivial⟩ ?_
    have H5 : St W w F := H
    obtain ⟨h1, h2, h3⟩ := hn3 ‹_›
    subst h1 h3
    exact ⟨none, 0, rfl, Row.nil_intro H5 79 3⟩
  · skip
    refine r_cons (s_sleql false un_59 rfl rfl (isNone_f hc4) rfl ?_)
    refine r_nil ?_
    refine g_false rfl ?_
    refine g_skip ?_
    refine g_seq ?_
    refine g_region ?_
    refine r_cons (s_buildSlice0 H 3 el_59 rfl ?_); intro bk6 w7 H8
    have H9 := Row.of_blk (n := 0) (size := 3) H8 (i := 0) rfl (by unfold maxLen; omega) (by simp) (by simp)
    refine r_cons (s_move (.slice pp1 n cc2) rfl rfl ?_)
    refine r_cons (s_append H9 0 rfl rfl rfl (hA _ _ _ (j + 1) H9 (by exact hj)).1 ap_59 (by decide) (by unfold maxLen; omega) (by omega) (n' := n) (xs' := xs) (by omega) (by first | rfl | simp) rfl ?_); intro vv10 w11 H12 hn13
    obtain ⟨pp14, cc15, rfl⟩ := Row.slice H12 (i := 0) rfl
    refine r_cons (s_assign (.slice pp14 n cc15) rfl rfl ?_)
    refine r_nil ?_
    refine g_ret' [.slice pp14 n cc15] Try.func47 Try.results47 ⟨rfl, trivial⟩ ?_
    have H16 : St W w11 (Row 79 3 (.slice pp14 n cc15) n xs :: F) := H12
    exact ⟨_, _, rfl, H16⟩
set_option maxHeartbeats 4000000 in
set_option maxRecDepth 100000 in
theorem Lo_none {W w : World} {F : List Atom} (g m : Nat) (s : EndV) (p : Option Addr) (c : Nat) (L : List BodD) {i : Nat} (hi : F[i]? = some (blk g (.cells #[.int .i64 s.frm.v, .int .i64 s.to_.v, .int .i64 (s.slide : Int), .slice p L.length c, .int .i64 (s.acked : Int), .int .i64 ((i64N s.came).v), .map (some m), .int .i64 (s.clock : Int), .bool s.owes] 62 (0, 0)))) (H : St W w F) : Calls Try.prog 31 #[.pointer (some ⟨g, 0, none⟩)] w (Ret fun v w' => v = .bool false ∧ St W w' F) := by
  have H0 := H.front hi
  refine calls_of_go (n := 12) Try.func31 rfl Try.ntmps31 rfl ?_
  refine g_seq ?_
  refine g_region ?_
  refine r_cons (s_assign (.bool false) rfl rfl ?_)
  refine r_nil ?_
  refine g_seq ?_
  refine g_region ?_
  refine r_cons (s_move (.pointer (some ⟨g, 0, none⟩)) rfl rfl ?_)
  refine r_cons (s_peql false un_30 rfl rfl rfl rfl ?_)
  refine r_cons (s_move (.bool false) rfl rfl ?_)
  refine r_cons (r_take rfl rfl ?_)
  refine s_move (.pointer (some ⟨g, 0, none⟩)) rfl rfl ?_
  refine r_cons (r_take rfl rfl ?_)
  refine s_nilCheck (.pointer (some ⟨g, 0, none⟩)) rfl ⟨_, rfl⟩ rfl ?_
  refine r_cons (r_take rfl rfl ?_)
  refine s_fieldAddr 62 5 6 6 60 rfl fi_62_5 rfl rfl ?_
  refine r_cons (r_take rfl rfl ?_)
  refine s_load (.map (some m)) ag_60 rfl (H0.blk_at (i := 0) rfl) rfl rfl ?_
  refine r_cons (r_take rfl rfl ?_)
  refine s_meql false un_60 rfl rfl rfl rfl ?_
  refine r_cons (s_pick_f (.bool false) rfl rfl rfl ?_)
  refine r_cons (s_assign (.bool false) rfl rfl ?_)
  refine r_nil ?_
  refine g_ret' [.bool false] Try.func31 Try.results31 ⟨rfl, trivial⟩ ?_
  have H1 : St W w (blk g (.cells #[.int .i64 s.frm.v, .int .i64 s.to_.v, .int .i64 (s.slide : Int), .slice p L.length c, .int .i64 (s.acked : Int), .int .i64 ((i64N s.came).v), .map (some m), .int .i64 (s.clock : Int), .bool s.owes] 62 (0, 0)) :: (F.set i emp)) := H0
  exact ⟨rfl, St.back_same hi H1⟩
set_option maxHeartbeats 4000000 in
set_option maxRecDepth 100000 in
theorem Lo_Waiting {W w : World} {F : List Atom} (g m : Nat) (s : EndV) (p : Option Addr) (c : Nat) (L : List BodD) {i : Nat} (hi : F[i]? = some (blk g (.cells #[.int .i64 s.frm.v, .int .i64 s.to_.v, .int .i64 (s.slide : Int), .slice p L.length c, .int .i64 (s.acked : Int), .int .i64 ((i64N s.came).v), .map (some m), .int .i64 (s.clock : Int), .bool s.owes] 62 (0, 0)))) (H : St W w F) : Calls Try.prog 10 #[.pointer (some ⟨g, 0, none⟩)] w (Ret fun v w' => v = .int .i64 (L.length : Int) ∧ St W w' F) := by
  have H0 := H.front hi
  refine calls_of_go (n := 10) Try.func10 rfl Try.ntmps10 rfl ?_
  refine g_seq ?_
  refine g_region ?_
  refine r_cons (s_assign (.int .i64 0) rfl rfl ?_)
  refine r_nil ?_
  refine g_seq ?_
  refine g_seq ?_
  refine g_region ?_
  refine r_cons (s_move (.pointer (some ⟨g, 0, none⟩)) rfl rfl ?_)
  refine r_cons (s_call [.pointer (some ⟨g, 0, none⟩)] pl_31 rfl rfl (Lo_none g m s p c L (i := 0) rfl H0) ?_)
  rintro _ w1 ⟨rfl, H2⟩
  refine r_nil ?_
  refine g_false rfl ?_
  refine g_skip ?_
  refine g_seq ?_
  refine g_region ?_
  refine r_cons (s_move (.pointer (some ⟨g, 0, none⟩)) rfl rfl ?_)
  refine r_cons (s_nilCheck (.pointer (some ⟨g, 0, none⟩)) rfl ⟨_, rfl⟩ rfl ?_)
  refine r_cons (s_fieldAddr 62 2 3 3 59 rfl fi_62_2 rfl rfl ?_)
  refine r_cons (s_load (.slice p L.length c) ag_59 rfl (H2.blk_at (i := 0) rfl) rfl rfl ?_)
  refine r_cons (s_len L.length rfl ⟨_, un_59⟩ rfl ?_)
  refine r_cons (s_assign (.int .i64 (L.length : Int)) rfl rfl ?_)
  refine r_nil ?_
  refine g_ret' [.int .i64 (L.length : Int)] Try.func10 Try.results10 ⟨rfl, trivial⟩ ?_
  have H3 : St W w1 (blk g (.cells #[.int .i64 s.frm.v, .int .i64 s.to_.v, .int .i64 (s.slide : Int), .slice p L.length c, .int .i64 (s.acked : Int), .int .i64 ((i64N s.came).v), .map (some m), .int .i64 (s.clock : Int), .bool s.owes] 62 (0, 0)) :: (F.set i emp)) := H2
  exact ⟨rfl, St.back_same hi H3⟩
set_option maxHeartbeats 4000000 in
set_option maxRecDepth 100000 in
theorem Lo_Under {W w : World} {F : List Atom} (g m : Nat) (s : EndV) (p : Option Addr) (c : Nat) (L : List BodD) (hL : L.map BodD.v = s.l) (hc : s.l.length ≤ 1099511627776) {i j : Nat} (hi : F[i]? = some (blk g (.cells #[.int .i64 s.frm.v, .int .i64 s.to_.v, .int .i64 (s.slide : Int), .slice p L.length c, .int .i64 (s.acked : Int), .int .i64 ((i64N s.came).v), .map (some m), .int .i64 (s.clock : Int), .bool s.owes] 62 (0, 0)))) (hj : (F.set i emp)[j]? = some (Row 79 3 (.slice p L.length c) L.length (L.flatMap bodCell))) (H : St W w F) : Calls Try.prog 16 #[.pointer (some ⟨g, 0, none⟩)] w (Ret fun v w' => v = .int .i64 (under s : Int) ∧ St W w' F) := by
  have H0 := (H.front hi).front (i := j + 1) (by exact hj)
  have H1 : St W w (Row 79 3 (.slice p L.length c) L.length (L.flatMap bodCell) :: blk g (.cells #[.int .i64 s.frm.v, .int .i64 s.to_.v, .int .i64 (s.slide : Int), .slice p L.length c, .int .i64 (s.acked : Int), .int .i64 ((i64N s.came).v), .map (some m), .int .i64 (s.clock : Int), .bool s.owes] 62 (0, 0)) :: ((F.set i emp).set j emp)) := H0
  have hl := lenOf hL
  refine calls_of_go (n := 21) Try.func16 rfl Try.ntmps16 rfl ?_
  refine g_seq ?_
  refine g_region ?_
  refine r_cons (s_assign (.int .i64 0) rfl rfl ?_)
  refine r_nil ?_
  refine g_seq ?_
  refine g_region ?_
  refine r_cons (s_assign (.int .i64 0) rfl rfl ?_)
  refine r_nil ?_
  refine g_seq ?_
  refine g_block ?_
  refine g_loop_inv (fun (x_ : Nat) => match x_ with | n => [(0, .pointer (some ⟨g, 0, none⟩)), (2, .int .i64 0), (3, .int .i64 (n : Int))]) (fun (x_ : Nat) w => match x_ with | n => (n ≤ s.l.length) ∧ (∀ j, j < n → (s.l.getD j default).sent = true) ∧ St W w (Row 79 3 (.slice p L.length c) L.length (L.flatMap bodCell) :: blk g (.cells #[.int .i64 s.frm.v, .int .i64 s.to_.v, .int .i64 (s.slide : Int), .slice p L.length c, .int .i64 (s.acked : Int), .int .i64 ((i64N s.came).v), .map (some m), .int .i64 (s.clock : Int), .bool s.owes] 62 (0, 0)) :: ((F.set i emp).set j emp))) (fun (x_ : Nat) => match x_ with | n => s.l.length - n) (0) ?_ ?_ ?_
  · exact ⟨by first | rfl | exact vint (by omega), by first | rfl | exact vint (by omega), by first | rfl | exact vint (by omega), trivial⟩
  · exact ⟨(by omega), (fun j hj => absurd hj (by omega)), H1⟩
  · rintro n ρ2 w3 ⟨hn, hs, H4⟩ nx5
    change Ends _ _ (upds ρ2 [(0, .pointer (some ⟨g, 0, none⟩)), (2, .int .i64 0), (3, .int .i64 (n : Int))]) w3
    refine g_seq ?_
    refine g_seq ?_
    refine g_region ?_
    refine r_cons (s_move (.int .i64 (n : Int)) rfl rfl ?_)
    refine r_cons (s_move (.pointer (some ⟨g, 0, none⟩)) rfl rfl ?_)
    refine r_cons (s_call [.pointer (some ⟨g, 0, none⟩)] pl_10 rfl rfl (Lo_Waiting g m s p c L (i := 1) rfl H4) ?_)
    rintro _ w6 ⟨rfl, H7⟩
    by_cases hc8 : (n : Int) < (L.length : Int)
    · skip
      refine r_cons (s_lss true rfl rfl (dtrue hc8) rfl ?_)
      refine r_cons (s_move (.bool true) rfl rfl ?_)
      refine r_cons (r_take rfl rfl ?_)
      refine s_move (.pointer (some ⟨g, 0, none⟩)) rfl rfl ?_
      refine r_cons (r_take rfl rfl ?_)
      refine s_nilCheck (.pointer (some ⟨g, 0, none⟩)) rfl ⟨_, rfl⟩ rfl ?_
      refine r_cons (r_take rfl rfl ?_)
      obtain ⟨bk9, cur10, hp11, h12, h13, h14, h15, h16, H17⟩ := Row.open2 H7 (i := 0) rfl (by omega)
      refine s_fieldAddr 62 2 3 3 59 rfl fi_62_2 rfl rfl ?_
      refine r_cons (r_take rfl rfl ?_)
      refine s_load (.slice p L.length c) ag_59 rfl (H17.blk_at (i := 1) rfl) rfl rfl ?_
      refine r_cons (r_take rfl rfl ?_)
      refine s_move (.int .i64 (n : Int)) rfl rfl ?_
      refine r_cons (r_take rfl rfl ?_)
      refine s_indexAddr bk9 (off := 0) (n : Int) 3 (0 + n * 3) (by exact congrArg (fun z_ => Value.slice z_ L.length c) ((fun (_ : 0 < 1) => hp11) (by omega))) rfl el_59 (by omega) rfl rfl ?_
      refine r_cons (r_take rfl rfl ?_)
      refine s_fieldAddr 79 1 1 (0 + n * 3 + 1) 4 rfl fi_79_1 rfl rfl ?_
      refine r_cons (r_take rfl rfl ?_)
      refine s_load (.bool ((L.getD n default).v.sent)) ag_4 rfl (H17.blk_at (i := 0) rfl) (elem_cell (L := L) (i := n) bodCell_len (by rw [(rfl : L.length = L.length)]; exact h15) (by have hh : L.length = L.length := (rfl : L.length = L.length); omega) default 1 (by decide) _ rfl) rfl ?_
      refine r_cons (s_pick_t (.bool ((L.getD n default).v.sent)) rfl rfl rfl ?_)
      refine r_nil ?_
      by_cases hb18 : ((L.getD n default).v.sent) = true
      · skip
        refine g_true (congrArg Value.bool hb18) ?_
        refine g_skip ?_
        refine g_block ?_
        refine g_region ?_
        refine r_cons (s_move (.int .i64 (n : Int)) rfl rfl ?_)
        refine r_cons (s_add ((n : Int) + 1) rfl rfl (wi64 (by omega)) rfl ?_)
        refine r_cons (s_assign (.int .i64 ((n : Int) + 1)) rfl rfl ?_)
        refine r_nil ?_
        refine g_inBlock ?_
        have H19 := Row.shut2 (p := p) (n := L.length) (c := c) (size := 3) (xs := L.flatMap bodCell) H17 (i := 0) rfl hp11 h12 h13 h14 (by have hh : (cur10.toList.drop 0).take (L.length * 3) = L.flatMap bodCell := (by rw [(rfl : L.length = L.length)]; exact h15); have hk : L.length = L.length := (rfl : L.length = L.length); rw [hk] at hh; exact hh) (fun x_ hx_ => by obtain ⟨a_, _, ha_⟩ := List.mem_flatMap.1 hx_; exact one_bod a_ x_ ha_)
        have hs9 : (s.l.getD n default).sent = true := by rw [← bodAt hL n]; assumption
        have H20 : St W w6 (Row 79 3 (.slice p L.length c) L.length (L.flatMap bodCell) :: blk g (.cells #[.int .i64 s.frm.v, .int .i64 s.to_.v, .int .i64 (s.slide : Int), .slice p L.length c, .int .i64 (s.acked : Int), .int .i64 ((i64N s.came).v), .map (some m), .int .i64 (s.clock : Int), .bool s.owes] 62 (0, 0)) :: ((F.set i emp).set j emp)) := ((H19.move 1 rfl).move 1 rfl)
        exact nx5 (n + 1) _ _ ⟨(by omega), (fun j hj => (Nat.lt_succ_iff_lt_or_eq.1 hj).elim (hs j) (fun e => by rw [e]; exact hs9)), H20⟩ (by first | (dsimp only; omega) | omega) ⟨by first | rfl | exact vint (by omega), by first | rfl | exact vint (by omega), by first | rfl | exact vint (by omega), trivial⟩
      · have hb18 := eq_false_of_ne_true hb18
        refine g_false (congrArg Value.bool hb18) ?_
        refine g_exit (by rfl) ?_
        refine g_seq ?_
        refine g_region ?_
        refine r_cons (s_move (.int .i64 (n : Int)) rfl rfl ?_)
        refine r_cons (s_assign (.int .i64 (n : Int)) rfl rfl ?_)
        refine r_nil ?_
        refine g_ret' [.int .i64 (n : Int)] Try.func16 Try.results16 ⟨rfl, trivial⟩ ?_
        have H21 := Row.shut2 (p := p) (n := L.length) (c := c) (size := 3) (xs := L.flatMap bodCell) H17 (i := 0) rfl hp11 h12 h13 h14 (by have hh : (cur10.toList.drop 0).take (L.length * 3) = L.flatMap bodCell := (by rw [(rfl : L.length = L.length)]; exact h15); have hk : L.length = L.length := (rfl : L.length = L.length); rw [hk] at hh; exact hh) (fun x_ hx_ => by obtain ⟨a_, _, ha_⟩ := List.mem_flatMap.1 hx_; exact one_bod a_ x_ ha_)
        have hu := under_eq hs hn (fun hlt => by rw [← bodAt hL n]; first | exact hb18 | simpa using hb18)
        have H23 : St W w6 (Row 79 3 (.slice p L.length c) L.length (L.flatMap bodCell) :: blk g (.cells #[.int .i64 s.frm.v, .int .i64 s.to_.v, .int .i64 (s.slide : Int), .slice p L.length c, .int .i64 (s.acked : Int), .int .i64 ((i64N s.came).v), .map (some m), .int .i64 (s.clock : Int), .bool s.owes] 62 (0, 0)) :: ((F.set i emp).set j emp)) := ((H21.move 1 rfl).move 1 rfl)
        have H22 : St W w6 (Row 79 3 (.slice p L.length c) L.length (L.flatMap bodCell) :: (blk g (.cells #[.int .i64 s.frm.v, .int .i64 s.to_.v, .int .i64 (s.slide : Int), .slice p L.length c, .int .i64 (s.acked : Int), .int .i64 ((i64N s.came).v), .map (some m), .int .i64 (s.clock : Int), .bool s.owes] 62 (0, 0)) :: F.set i emp).set (j + 1) emp) := H23
        exact ⟨by rw [hu]; rfl, St.back_same hi (St.back_same (i := j + 1) (by exact hj) H22)⟩
    · skip
      refine r_cons (s_lss false rfl rfl (dfalse hc8) rfl ?_)
      refine r_cons (s_move (.bool false) rfl rfl ?_)
      refine r_cons (r_pass rfl rfl rfl rfl rfl ?_)
      refine r_cons (r_pass rfl rfl rfl rfl rfl ?_)
      refine r_cons (r_pass rfl rfl rfl rfl rfl ?_)
      refine r_cons (r_pass rfl rfl rfl rfl rfl ?_)
      refine r_cons (r_pass rfl rfl rfl rfl rfl ?_)
      refine r_cons (r_pass rfl rfl rfl rfl rfl ?_)
      refine r_cons (r_pass rfl rfl rfl rfl rfl ?_)
      refine r_cons (r_pass rfl rfl rfl rfl rfl ?_)
      refine r_cons (s_pick_f (.bool false) rfl rfl rfl ?_)
      refine r_nil ?_
      refine g_false rfl ?_
      refine g_exit (by rfl) ?_
      refine g_seq ?_
      refine g_region ?_
      refine r_cons (s_move (.int .i64 (n : Int)) rfl rfl ?_)
      refine r_cons (s_assign (.int .i64 (n : Int)) rfl rfl ?_)
      refine r_nil ?_
      refine g_ret' [.int .i64 (n : Int)] Try.func16 Try.results16 ⟨rfl, trivial⟩ ?_
      have hu := under_eq hs hn (fun hlt => by omega)
      have H25 : St W w6 (Row 79 3 (.slice p L.length c) L.length (L.flatMap bodCell) :: blk g (.cells #[.int .i64 s.frm.v, .int .i64 s.to_.v, .int .i64 (s.slide : Int), .slice p L.length c, .int .i64 (s.acked : Int), .int .i64 ((i64N s.came).v), .map (some m), .int .i64 (s.clock : Int), .bool s.owes] 62 (0, 0)) :: ((F.set i emp).set j emp)) := ((H7.move 1 rfl).move 1 rfl)
      have H24 : St W w6 (Row 79 3 (.slice p L.length c) L.length (L.flatMap bodCell) :: (blk g (.cells #[.int .i64 s.frm.v, .int .i64 s.to_.v, .int .i64 (s.slide : Int), .slice p L.length c, .int .i64 (s.acked : Int), .int .i64 ((i64N s.came).v), .map (some m), .int .i64 (s.clock : Int), .bool s.owes] 62 (0, 0)) :: F.set i emp).set (j + 1) emp) := H25
      exact ⟨by rw [hu]; rfl, St.back_same hi (St.back_same (i := j + 1) (by exact hj) H24)⟩
set_option maxHeartbeats 4000000 in
set_option maxRecDepth 100000 in
theorem Lk_Take {W w : World} {F : List Atom} (g : Nat) (s : EndV) (hok : endOk s) (d : DgM) (v0 : Value) (hN : s.held.length ≤ 1099511627776) {j : Nat} (hj : F[j]? = some (Im 1 v0 d.body.length (d.body.flatMap u8c))) {i : Nat} (hi : F[i]? = some (LkA g s)) (H : St W w F) : Calls Try.prog 21 #[.pointer (some ⟨g, 0, none⟩), .agg #[.int .i64 d.frm.v, .int .i64 d.to_.v, .int .i64 d.kind.v, .int .i64 d.seq.v, .int .i64 d.ack.v, v0]] w (Ret fun v w' => ∃ p c, v = .tuple #[.slice p ((takeT s d).length) c, .int .i64 (takeE s d)] ∧ St W w' (BysA p c (takeT s d) :: F.set i (LkA g (takeS s d)))) := by
  obtain ⟨pp1, cc2, rfl, hsh3⟩ := Rd.shape (Im.rd H (i := j) hj)
  have H4 := H.dup (i := j) hj (Im_pers _ _ _ _)
  have hmlH4 := Im.len H4 (i := 0) rfl
  have H5 := H4.front (i := i + 1) (by exact hi)
  have H6 : St W w (LkA g s :: Im 1 (.slice pp1 d.body.length cc2) d.body.length (d.body.flatMap u8c) :: (F.set i emp)) := H5
  obtain ⟨o1, o2, o3, o4, o5, o6, o8⟩ := id hok; have o7 := i64N_0 (Nat.le_trans o4 (by decide))
  refine calls_of_go (n := 158) Try.func21 rfl Try.ntmps21 rfl ?_
  refine g_seq ?_
  refine g_region ?_
  refine r_cons (s_box H6 41 (.agg #[.int .i64 d.frm.v, .int .i64 d.to_.v, .int .i64 d.kind.v, .int .i64 d.seq.v, .int .i64 d.ack.v, .slice pp1 d.body.length cc2]) rfl (cs := #[.int .i64 d.frm.v, .int .i64 d.to_.v, .int .i64 d.kind.v, .int .i64 d.seq.v, .int .i64 d.ack.v, .slice pp1 d.body.length cc2]) rfl rfl ?_); intro bk7 w8 H9
  refine r_cons (s_assign (.slice none 0 0) rfl rfl ?_)
  refine r_cons (s_assign (.int .i64 0) rfl rfl ?_)
  refine r_nil ?_
  refine g_seq ?_
  refine g_seq ?_
  refine g_region ?_
  refine r_cons (s_move (.pointer (some ⟨g, 0, none⟩)) rfl rfl ?_)
  refine r_cons (s_call [.pointer (some ⟨g, 0, none⟩)] pl_31 rfl rfl (Lk_none g s hok (i := 1) rfl H9) ?_)
  rintro _ w10 ⟨rfl, H11⟩
  refine r_nil ?_
  refine g_false rfl ?_
  refine g_skip ?_
  refine g_seq ?_
  refine g_seq ?_
  refine g_region ?_
  refine r_cons (s_loadAgg [.int .i64 d.frm.v, .int .i64 d.to_.v, .int .i64 d.kind.v, .int .i64 d.seq.v, .int .i64 d.ack.v, .slice pp1 d.body.length cc2] 6 ag_41 rfl (H11.blk_at (i := 0) rfl) (Nat.le_of_ble_eq_true rfl) rfl rfl ?_)
  refine r_cons (s_call [.agg #[.int .i64 d.frm.v, .int .i64 d.to_.v, .int .i64 d.kind.v, .int .i64 d.seq.v, .int .i64 d.ack.v, .slice pp1 d.body.length cc2]] pl_46 rfl rfl (frame_Check d _ RdA.im (j := 2) rfl H11) ?_)
  rintro _ w12 ⟨rfl, H13⟩
  refine r_cons (s_assign (.int .i64 (dgE d)) rfl rfl ?_)
  refine r_nil ?_
  refine g_seq ?_
  refine g_region ?_
  refine r_cons (s_move (.int .i64 (dgE d)) rfl rfl ?_)
  by_cases hc14 : dgE d = 0
  · skip
    refine r_cons (s_neq false rfl rfl (ntrue hc14) rfl ?_)
    refine r_nil ?_
    refine g_false rfl ?_
    refine g_skip ?_
    refine g_seq ?_
    refine g_seq ?_
    have hd0 : dgE d = 0 := by omega
    obtain ⟨q1, q2, q3, q4, q5, q6⟩ := dgE_seq hd0
    have H15 := H13.move 1 rfl
    obtain ⟨⟨⟨m16, pp17, cc18, L19, E20⟩, hL21, hE22⟩, H23⟩ := St.open_ex H15
    have H24 := St.open_star H23
    change L19.map BodD.v = s.l at hL21; change mapB E20 = s.held at hE22
    have hl25 := lenOf hL21; have he26 := mapB_len hE22
    have H27 : St W w12 (blk g (.cells #[.int .i64 s.frm.v, .int .i64 s.to_.v, .int .i64 (s.slide : Int), .slice pp17 L19.length cc18, .int .i64 (s.acked : Int), .int .i64 ((i64N s.came).v), .map (some m16), .int .i64 (s.clock : Int), .bool s.owes] 62 (0, 0)) :: Row 79 3 (.slice pp17 L19.length cc18) L19.length (L19.flatMap bodCell) :: byA (L19.map BodD.by) :: MapA m16 (ents (kI .i64) evD E20) :: byA (mby E20) :: blk bk7 (.cells #[.int .i64 d.frm.v, .int .i64 d.to_.v, .int .i64 d.kind.v, .int .i64 d.seq.v, .int .i64 d.ack.v, .slice pp1 d.body.length cc2] 41 (0, 0)) :: Im 1 (.slice pp1 d.body.length cc2) d.body.length (d.body.flatMap u8c) :: (F.set i emp)) := H24
    have hu0 := under_le s
    refine g_cut (fun (x_ : Unit) => match x_ with | z_ => [(0, .pointer (some ⟨g, 0, none⟩)), (3, .pointer (some ⟨bk7, 0, none⟩)), (4, .slice none 0 0), (5, .int .i64 0), (64, .bool (stray s d))]) (fun (x_ : Unit) w => match x_ with | z_ => (True) ∧ St W w (blk g (.cells #[.int .i64 s.frm.v, .int .i64 s.to_.v, .int .i64 (s.slide : Int), .slice pp17 L19.length cc18, .int .i64 (s.acked : Int), .int .i64 ((i64N s.came).v), .map (some m16), .int .i64 (s.clock : Int), .bool s.owes] 62 (0, 0)) :: Row 79 3 (.slice pp17 L19.length cc18) L19.length (L19.flatMap bodCell) :: byA (L19.map BodD.by) :: MapA m16 (ents (kI .i64) evD E20) :: byA (mby E20) :: blk bk7 (.cells #[.int .i64 d.frm.v, .int .i64 d.to_.v, .int .i64 d.kind.v, .int .i64 d.seq.v, .int .i64 d.ack.v, .slice pp1 d.body.length cc2] 41 (0, 0)) :: Im 1 (.slice pp1 d.body.length cc2) d.body.length (d.body.flatMap u8c) :: (F.set i emp))) ?_ ?_
    · rintro z_ ρ31 w29 ⟨hz_, H30⟩
      change Ends _ _ (upds ρ31 [(0, .pointer (some ⟨g, 0, none⟩)), (3, .pointer (some ⟨bk7, 0, none⟩)), (4, .slice none 0 0), (5, .int .i64 0), (64, .bool (stray s d))]) w29
      by_cases hb32 : (stray s d) = true
      · skip
        refine g_true (congrArg Value.bool hb32) ?_
        refine g_seq ?_
        refine g_region ?_
        refine r_cons (s_assign (.slice none 0 0) rfl rfl ?_)
        refine r_cons (s_assign (.int .i64 210) rfl rfl ?_)
        refine r_nil ?_
        refine g_ret' [.slice none 0 0, .int .i64 210] Try.func21 Try.results21 ⟨rfl, rfl, trivial⟩ ?_
        have H33 : St W w29 (LkA g s :: blk bk7 (.cells #[.int .i64 d.frm.v, .int .i64 d.to_.v, .int .i64 d.kind.v, .int .i64 d.seq.v, .int .i64 d.ack.v, .slice pp1 d.body.length cc2] 41 (0, 0)) :: Im 1 (.slice pp1 d.body.length cc2) d.body.length (d.body.flatMap u8c) :: (F.set i emp)) := St.shut_ex ⟨(m16, pp17, cc18, L19, E20), hL21, hE22⟩ (St.shut_star (ls := [blk g (.cells #[.int .i64 s.frm.v, .int .i64 s.to_.v, .int .i64 (s.slide : Int), .slice pp17 L19.length cc18, .int .i64 (s.acked : Int), .int .i64 ((i64N s.came).v), .map (some m16), .int .i64 (s.clock : Int), .bool s.owes] 62 (0, 0)), Row 79 3 (.slice pp17 L19.length cc18) L19.length (L19.flatMap bodCell), byA (L19.map BodD.by), MapA m16 (ents (kI .i64) evD E20), byA (mby E20)]) H30)
        have hE : takeE s d = 210 := takeE_210 hd0 (by assumption)
        have hE0 : ¬ takeE s d = 0 := by omega
        have H34 := Row.nil_intro H33 26 1
        have H35 := byA_nil H34
        have H36 : St W w29 (Row 26 1 (.slice none 0 0) 0 [] :: byA ([] : List BytesD) :: LkA g s :: blk bk7 (.cells #[.int .i64 d.frm.v, .int .i64 d.to_.v, .int .i64 d.kind.v, .int .i64 d.seq.v, .int .i64 d.ack.v, .slice pp1 d.body.length cc2] 41 (0, 0)) :: Im 1 (.slice pp1 d.body.length cc2) d.body.length (d.body.flatMap u8c) :: (F.set i emp)) := (H35.move 1 rfl)
        have hT9 : takeT s d = [] := takeT_no (fun h => hE0 h.1)
        have H37 : St W w29 (BysA none 0 (takeT s d) :: LkA g s :: blk bk7 (.cells #[.int .i64 d.frm.v, .int .i64 d.to_.v, .int .i64 d.kind.v, .int .i64 d.seq.v, .int .i64 d.ack.v, .slice pp1 d.body.length cc2] 41 (0, 0)) :: Im 1 (.slice pp1 d.body.length cc2) d.body.length (d.body.flatMap u8c) :: (F.set i emp)) := by rw [hT9]; exact St.shut_ex ⟨[], rfl⟩ (St.shut_star (ls := [Row 26 1 (.slice none 0 0) 0 [], byA ([] : List BytesD)]) H36)
        have H38 : St W w29 (BysA none 0 (takeT s d) :: LkA g (takeS s d) :: blk bk7 (.cells #[.int .i64 d.frm.v, .int .i64 d.to_.v, .int .i64 d.kind.v, .int .i64 d.seq.v, .int .i64 d.ack.v, .slice pp1 d.body.length cc2] 41 (0, 0)) :: Im 1 (.slice pp1 d.body.length cc2) d.body.length (d.body.flatMap u8c) :: (F.set i emp)) := by rw [takeS_no hE0]; exact H37
        have H39 : St W w29 (BysA none 0 (takeT s d) :: LkA g (takeS s d) :: (F.set i emp)) := ((((H38.move 1 rfl).move 1 rfl).drop 2 rfl).drop 2 rfl)
        have H40 : St W w29 (LkA g (takeS s d) :: (BysA none 0 (takeT s d) :: F).set (i + 1) emp) := (H39.move 1 rfl)
        exact ⟨none, 0, by rw [hE, hT9]; rfl, St.back (i := i + 1) (by exact hi) H40⟩
      · have hb32 := eq_false_of_ne_true hb32
        refine g_false (congrArg Value.bool hb32) ?_
        refine g_skip ?_
        refine g_seq ?_
        refine g_seq ?_
        have hst : stray s d = false := by assumption
        have hE : takeE s d = 0 := takeE_is hd0 hst
        have hs9 := stray_not hst
        refine g_quiet (fun w' => St W w' (blk g (.cells #[.int .i64 s.frm.v, .int .i64 s.to_.v, .int .i64 (s.slide : Int), .slice pp17 L19.length cc18, .int .i64 (s.acked : Int), .int .i64 ((i64N s.came).v), .map (some m16), .int .i64 (s.clock : Int), .bool s.owes] 62 (0, 0)) :: Row 79 3 (.slice pp17 L19.length cc18) L19.length (L19.flatMap bodCell) :: byA (L19.map BodD.by) :: MapA m16 (ents (kI .i64) evD E20) :: byA (mby E20) :: blk bk7 (.cells #[.int .i64 d.frm.v, .int .i64 d.to_.v, .int .i64 d.kind.v, .int .i64 d.seq.v, .int .i64 d.ack.v, .slice pp1 d.body.length cc2] 41 (0, 0)) :: Im 1 (.slice pp1 d.body.length cc2) d.body.length (d.body.flatMap u8c) :: (F.set i emp))) mixed (by kernel_rfl) H30.drew ?_
        refine q_cons (q_val rfl rfl rfl (by intro w hw; exact x_fieldAddr 41 4 4 4 2 rfl fi_41_4 rfl w) ?_)
        refine q_cons (q_val rfl rfl rfl (by intro w hw; exact x_load (.int .i64 d.ack.v) ag_2 rfl (hw.blk_at (i := 5) rfl) rfl) ?_)
        refine q_cons (q_val rfl rfl rfl (by intro w hw; exact x_move (.pointer (some ⟨g, 0, none⟩)) rfl w) ?_)
        refine q_cons (q_val rfl rfl rfl (by intro w hw; exact x_nilCheck (.pointer (some ⟨g, 0, none⟩)) rfl ⟨_, rfl⟩ w) ?_)
        refine q_cons (q_val rfl rfl rfl (by intro w hw; exact x_fieldAddr 62 3 4 4 2 rfl fi_62_3 rfl w) ?_)
        refine q_cons (q_val rfl rfl rfl (by intro w hw; exact x_load (.int .i64 (s.acked : Int)) ag_2 rfl (hw.blk_at (i := 0) rfl) rfl) ?_)
        refine q_cons (q_val rfl rfl rfl (by intro w hw; exact x_sub (d.ack.v - (s.acked : Int)) rfl rfl (wi64 (by omega)) w) ?_)
        refine q_cons (q_val rfl rfl rfl (by intro w hw; exact x_assign (.int .i64 (d.ack.v - (s.acked : Int))) rfl w) ?_)
        refine q_nil ?_
        intro w41 H42
        refine g_seq ?_
        refine g_region ?_
        refine r_cons (s_move (.int .i64 (d.ack.v - (s.acked : Int))) rfl rfl ?_)
        by_cases hc43 : (0 : Int) < d.ack.v - (s.acked : Int)
        · skip
          refine r_cons (s_gtr true rfl rfl (dtrue hc43) rfl ?_)
          refine r_nil ?_
          refine g_cut (fun (x_ : Unit) => match x_ with | z_ => [(0, .pointer (some ⟨g, 0, none⟩)), (3, .pointer (some ⟨bk7, 0, none⟩)), (4, .slice none 0 0), (5, .int .i64 0)]) (fun (x_ : Unit) w => match x_ with | z_ => (True) ∧ St W w (LkA g (ackS s d.ack.v) :: blk bk7 (.cells #[.int .i64 d.frm.v, .int .i64 d.to_.v, .int .i64 d.kind.v, .int .i64 d.seq.v, .int .i64 d.ack.v, .slice pp1 d.body.length cc2] 41 (0, 0)) :: Im 1 (.slice pp1 d.body.length cc2) d.body.length (d.body.flatMap u8c) :: (F.set i emp))) ?_ ?_
          · rintro z_ ρ47 w45 ⟨hz_, H46⟩
            change Ends _ _ (upds ρ47 [(0, .pointer (some ⟨g, 0, none⟩)), (3, .pointer (some ⟨bk7, 0, none⟩)), (4, .slice none 0 0), (5, .int .i64 0)]) w45
            have hca := ackS_came s d.ack.v; have hhe := ackS_held s d.ack.v; have hcy : (i64N (ackS s d.ack.v).came).v = (s.came : Int) := by rw [hca]; exact o7
            refine g_seq ?_
            refine g_seq ?_
            refine g_region ?_
            refine r_cons (s_fieldAddr 41 2 2 2 3 rfl fi_41_2 rfl rfl ?_)
            refine r_cons (s_load (.int .i64 d.kind.v) ag_3 rfl (H46.blk_at (i := 1) rfl) rfl rfl ?_)
            by_cases hc48 : d.kind.v = 1
            · skip
              refine r_cons (s_neq false rfl rfl (ntrue hc48) rfl ?_)
              refine r_nil ?_
              refine g_false rfl ?_
              refine g_skip ?_
              refine g_seq ?_
              refine g_region ?_
              refine r_cons (s_move (.pointer (some ⟨g, 0, none⟩)) rfl rfl ?_)
              have hk1 : d.kind.v = 1 := by omega
              have H49 := H46.move 0 rfl
              obtain ⟨⟨⟨m50, pp51, cc52, L53, E54⟩, hL55, hE56⟩, H57⟩ := St.open_ex H49
              have H58 := St.open_star H57
              change L53.map BodD.v = (ackS s d.ack.v).l at hL55; change mapB E54 = (ackS s d.ack.v).held at hE56
              have hl59 := lenOf hL55; have he60 := mapB_len hE56
              have H61 : St W w45 (blk g (.cells #[.int .i64 ((ackS s d.ack.v).frm.v), .int .i64 ((ackS s d.ack.v).to_.v), .int .i64 ((ackS s d.ack.v).slide : Int), .slice pp51 L53.length cc52, .int .i64 ((ackS s d.ack.v).acked : Int), .int .i64 ((i64N (ackS s d.ack.v).came).v), .map (some m50), .int .i64 ((ackS s d.ack.v).clock : Int), .bool ((ackS s d.ack.v).owes)] 62 (0, 0)) :: Row 79 3 (.slice pp51 L53.length cc52) L53.length (L53.flatMap bodCell) :: byA (L53.map BodD.by) :: MapA m50 (ents (kI .i64) evD E54) :: byA (mby E54) :: blk bk7 (.cells #[.int .i64 d.frm.v, .int .i64 d.to_.v, .int .i64 d.kind.v, .int .i64 d.seq.v, .int .i64 d.ack.v, .slice pp1 d.body.length cc2] 41 (0, 0)) :: Im 1 (.slice pp1 d.body.length cc2) d.body.length (d.body.flatMap u8c) :: (F.set i emp)) := H58
              refine r_cons (s_nilCheck (.pointer (some ⟨g, 0, none⟩)) rfl ⟨_, rfl⟩ rfl ?_)
              refine r_cons (s_fieldAddr 62 7 8 8 4 rfl fi_62_7 rfl rfl ?_)
              refine r_cons (s_store H61 0 (.bool true) rfl rfl rfl sz_4 rfl (Nat.le_of_ble_eq_true rfl) rfl (cs' := #[.int .i64 ((ackS s d.ack.v).frm.v), .int .i64 ((ackS s d.ack.v).to_.v), .int .i64 ((ackS s d.ack.v).slide : Int), .slice pp51 L53.length cc52, .int .i64 ((ackS s d.ack.v).acked : Int), .int .i64 ((i64N (ackS s d.ack.v).came).v), .map (some m50), .int .i64 ((ackS s d.ack.v).clock : Int), .bool true]) rfl ?_); intro w62 H63
              refine r_nil ?_
              refine g_seq ?_
              refine g_seq ?_
              refine g_quiet (fun w' => St W w' (blk g (.cells #[.int .i64 ((ackS s d.ack.v).frm.v), .int .i64 ((ackS s d.ack.v).to_.v), .int .i64 ((ackS s d.ack.v).slide : Int), .slice pp51 L53.length cc52, .int .i64 ((ackS s d.ack.v).acked : Int), .int .i64 ((i64N (ackS s d.ack.v).came).v), .map (some m50), .int .i64 ((ackS s d.ack.v).clock : Int), .bool true] 62 (0, 0)) :: Row 79 3 (.slice pp51 L53.length cc52) L53.length (L53.flatMap bodCell) :: byA (L53.map BodD.by) :: MapA m50 (ents (kI .i64) evD E54) :: byA (mby E54) :: blk bk7 (.cells #[.int .i64 d.frm.v, .int .i64 d.to_.v, .int .i64 d.kind.v, .int .i64 d.seq.v, .int .i64 d.ack.v, .slice pp1 d.body.length cc2] 41 (0, 0)) :: Im 1 (.slice pp1 d.body.length cc2) d.body.length (d.body.flatMap u8c) :: (F.set i emp))) mixed (by kernel_rfl) H63.drew ?_
              refine q_cons (q_val rfl rfl rfl (by intro w hw; exact x_move (.pointer (some ⟨g, 0, none⟩)) rfl w) ?_)
              refine q_cons (q_val rfl rfl rfl (by intro w hw; exact x_nilCheck (.pointer (some ⟨g, 0, none⟩)) rfl ⟨_, rfl⟩ w) ?_)
              refine q_cons (q_val rfl rfl rfl (by intro w hw; exact x_fieldAddr 62 5 6 6 60 rfl fi_62_5 rfl w) ?_)
              refine q_cons (q_val rfl rfl rfl (by intro w hw; exact x_load (.map (some m50)) ag_60 rfl (hw.blk_at (i := 0) rfl) rfl) ?_)
              refine q_cons (q_val rfl rfl rfl (by intro w hw; exact x_fieldAddr 41 3 3 3 2 rfl fi_41_3 rfl w) ?_)
              refine q_cons (q_val rfl rfl rfl (by intro w hw; exact x_load (.int .i64 d.seq.v) ag_2 rfl (hw.blk_at (i := 5) rfl) rfl) ?_)
              refine q_cons (q_val rfl rfl rfl (by intro w hw; exact x_lookup2 (ek := (kI .i64)) (ev := evD) (L := E54) d.seq ((lookV evD (.slice none 0 0) E54 d.seq)) (ahas E54 d.seq) (MapA.at hw (i := 3) rfl) (KeyLaw.I un_2) un_60 zv_26 rfl rfl (rfl) rfl) ?_)
              refine q_cons (q_val rfl rfl rfl (by intro w hw; exact x_move (.tuple #[(lookV evD (.slice none 0 0) E54 d.seq), .bool (ahas E54 d.seq)]) rfl w) ?_)
              refine q_cons (q_val rfl rfl rfl (by intro w hw; exact x_extract ((lookV evD (.slice none 0 0) E54 d.seq)) #[(lookV evD (.slice none 0 0) E54 d.seq), .bool (ahas E54 d.seq)] rfl rfl w) ?_)
              refine q_cons (q_val rfl rfl rfl (by intro w hw; exact x_extract (.bool (ahas E54 d.seq)) #[(lookV evD (.slice none 0 0) E54 d.seq), .bool (ahas E54 d.seq)] rfl rfl w) ?_)
              refine q_cons (q_val rfl rfl rfl (by intro w hw; exact x_assign ((lookV evD (.slice none 0 0) E54 d.seq)) rfl w) ?_)
              refine q_cons (q_val rfl rfl rfl (by intro w hw; exact x_assign (.bool (ahas E54 d.seq)) rfl w) ?_)
              refine q_nil ?_
              intro w64 H65
              refine g_seq ?_
              refine g_quiet (fun w' => St W w' (blk g (.cells #[.int .i64 ((ackS s d.ack.v).frm.v), .int .i64 ((ackS s d.ack.v).to_.v), .int .i64 ((ackS s d.ack.v).slide : Int), .slice pp51 L53.length cc52, .int .i64 ((ackS s d.ack.v).acked : Int), .int .i64 ((i64N (ackS s d.ack.v).came).v), .map (some m50), .int .i64 ((ackS s d.ack.v).clock : Int), .bool true] 62 (0, 0)) :: Row 79 3 (.slice pp51 L53.length cc52) L53.length (L53.flatMap bodCell) :: byA (L53.map BodD.by) :: MapA m50 (ents (kI .i64) evD E54) :: byA (mby E54) :: blk bk7 (.cells #[.int .i64 d.frm.v, .int .i64 d.to_.v, .int .i64 d.kind.v, .int .i64 d.seq.v, .int .i64 d.ack.v, .slice pp1 d.body.length cc2] 41 (0, 0)) :: Im 1 (.slice pp1 d.body.length cc2) d.body.length (d.body.flatMap u8c) :: (F.set i emp))) mixed (by kernel_rfl) H65.drew ?_
              refine q_cons (q_val rfl rfl rfl (by intro w hw; exact x_fieldAddr 41 3 3 3 2 rfl fi_41_3 rfl w) ?_)
              refine q_cons (q_val rfl rfl rfl (by intro w hw; exact x_load (.int .i64 d.seq.v) ag_2 rfl (hw.blk_at (i := 5) rfl) rfl) ?_)
              refine q_cons (q_val rfl rfl rfl (by intro w hw; exact x_move (.pointer (some ⟨g, 0, none⟩)) rfl w) ?_)
              refine q_cons (q_val rfl rfl rfl (by intro w hw; exact x_nilCheck (.pointer (some ⟨g, 0, none⟩)) rfl ⟨_, rfl⟩ w) ?_)
              refine q_cons (q_val rfl rfl rfl (by intro w hw; exact x_fieldAddr 62 4 5 5 2 rfl fi_62_4 rfl w) ?_)
              refine q_cons (q_val rfl rfl rfl (by intro w hw; exact x_load (.int .i64 ((i64N (ackS s d.ack.v).came).v)) ag_2 rfl (hw.blk_at (i := 0) rfl) rfl) ?_)
              by_cases hc66 : d.seq.v < (i64N (ackS s d.ack.v).came).v
              · skip
                refine q_cons (q_val rfl rfl rfl (by intro w hw; exact x_lss true rfl rfl (dtrue hc66) w) ?_)
                refine q_cons (q_val rfl rfl rfl (by intro w hw; exact x_move (.bool true) rfl w) ?_)
                refine q_cons (q_pass rfl rfl rfl rfl rfl ?_)
                refine q_cons (q_val rfl rfl rfl (by intro w hw; exact x_pick_t (.bool true) rfl rfl w) ?_)
                refine q_nil ?_
                intro w67 H68
                refine g_true rfl ?_
                refine g_seq ?_
                refine g_region ?_
                refine r_cons (s_assign (.slice none 0 0) rfl rfl ?_)
                refine r_cons (s_assign (.int .i64 0) rfl rfl ?_)
                refine r_nil ?_
                refine g_ret' [.slice none 0 0, .int .i64 0] Try.func21 Try.results21 ⟨rfl, rfl, trivial⟩ ?_
                have H69 : St W w67 (LkA g ({ ackS s d.ack.v with owes := true } : EndV) :: blk bk7 (.cells #[.int .i64 d.frm.v, .int .i64 d.to_.v, .int .i64 d.kind.v, .int .i64 d.seq.v, .int .i64 d.ack.v, .slice pp1 d.body.length cc2] 41 (0, 0)) :: Im 1 (.slice pp1 d.body.length cc2) d.body.length (d.body.flatMap u8c) :: (F.set i emp)) := St.shut_ex ⟨(m50, pp51, cc52, L53, E54), hL55, hE56⟩ (St.shut_star (ls := [blk g (.cells #[.int .i64 ((ackS s d.ack.v).frm.v), .int .i64 ((ackS s d.ack.v).to_.v), .int .i64 ((ackS s d.ack.v).slide : Int), .slice pp51 L53.length cc52, .int .i64 ((ackS s d.ack.v).acked : Int), .int .i64 ((i64N (ackS s d.ack.v).came).v), .map (some m50), .int .i64 ((ackS s d.ack.v).clock : Int), .bool true] 62 (0, 0)), Row 79 3 (.slice pp51 L53.length cc52) L53.length (L53.flatMap bodCell), byA (L53.map BodD.by), MapA m50 (ents (kI .i64) evD E54), byA (mby E54)]) H68)
                have hC : takeC s d = ([], s.came, s.held) := takeC_no (by first | exact .inl (by omega) | (right; rw [← hhe, mapB_has hE56]; assumption))
                have H70 := Row.nil_intro H69 26 1
                have H71 := byA_nil H70
                have H72 : St W w67 (Row 26 1 (.slice none 0 0) 0 [] :: byA ([] : List BytesD) :: LkA g ({ ackS s d.ack.v with owes := true } : EndV) :: blk bk7 (.cells #[.int .i64 d.frm.v, .int .i64 d.to_.v, .int .i64 d.kind.v, .int .i64 d.seq.v, .int .i64 d.ack.v, .slice pp1 d.body.length cc2] 41 (0, 0)) :: Im 1 (.slice pp1 d.body.length cc2) d.body.length (d.body.flatMap u8c) :: (F.set i emp)) := (H71.move 1 rfl)
                have hT9 : takeT s d = [] := by rw [takeT_yes hE hk1, hC]
                have H73 : St W w67 (BysA none 0 (takeT s d) :: LkA g ({ ackS s d.ack.v with owes := true } : EndV) :: blk bk7 (.cells #[.int .i64 d.frm.v, .int .i64 d.to_.v, .int .i64 d.kind.v, .int .i64 d.seq.v, .int .i64 d.ack.v, .slice pp1 d.body.length cc2] 41 (0, 0)) :: Im 1 (.slice pp1 d.body.length cc2) d.body.length (d.body.flatMap u8c) :: (F.set i emp)) := by rw [hT9]; exact St.shut_ex ⟨[], rfl⟩ (St.shut_star (ls := [Row 26 1 (.slice none 0 0) 0 [], byA ([] : List BytesD)]) H72)
                have H74 : St W w67 (BysA none 0 (takeT s d) :: LkA g (takeS s d) :: blk bk7 (.cells #[.int .i64 d.frm.v, .int .i64 d.to_.v, .int .i64 d.kind.v, .int .i64 d.seq.v, .int .i64 d.ack.v, .slice pp1 d.body.length cc2] 41 (0, 0)) :: Im 1 (.slice pp1 d.body.length cc2) d.body.length (d.body.flatMap u8c) :: (F.set i emp)) := by rw [takeS_data hE hk1, hC, ← hca, ← hhe]; exact H73
                have H75 : St W w67 (BysA none 0 (takeT s d) :: LkA g (takeS s d) :: (F.set i emp)) := ((((H74.move 1 rfl).move 1 rfl).drop 2 rfl).drop 2 rfl)
                have H76 : St W w67 (LkA g (takeS s d) :: (BysA none 0 (takeT s d) :: F).set (i + 1) emp) := (H75.move 1 rfl)
                exact ⟨none, 0, by rw [hE, hT9]; rfl, St.back (i := i + 1) (by exact hi) H76⟩
              · skip
                refine q_cons (q_val rfl rfl rfl (by intro w hw; exact x_lss false rfl rfl (dfalse hc66) w) ?_)
                refine q_cons (q_val rfl rfl rfl (by intro w hw; exact x_move (.bool false) rfl w) ?_)
                refine q_cons (q_take rfl rfl ?_)
                refine q_val rfl rfl rfl (by intro w hw; exact x_move (.bool (ahas E54 d.seq)) rfl w) ?_
                refine q_cons (q_val rfl rfl rfl (by intro w hw; exact x_pick_f (.bool (ahas E54 d.seq)) rfl rfl w) ?_)
                refine q_nil ?_
                intro w77 H78
                by_cases hb79 : (ahas E54 d.seq) = true
                · skip
                  refine g_true (congrArg Value.bool hb79) ?_
                  refine g_seq ?_
                  refine g_region ?_
                  refine r_cons (s_assign (.slice none 0 0) rfl rfl ?_)
                  refine r_cons (s_assign (.int .i64 0) rfl rfl ?_)
                  refine r_nil ?_
                  refine g_ret' [.slice none 0 0, .int .i64 0] Try.func21 Try.results21 ⟨rfl, rfl, trivial⟩ ?_
                  have H80 : St W w77 (LkA g ({ ackS s d.ack.v with owes := true } : EndV) :: blk bk7 (.cells #[.int .i64 d.frm.v, .int .i64 d.to_.v, .int .i64 d.kind.v, .int .i64 d.seq.v, .int .i64 d.ack.v, .slice pp1 d.body.length cc2] 41 (0, 0)) :: Im 1 (.slice pp1 d.body.length cc2) d.body.length (d.body.flatMap u8c) :: (F.set i emp)) := St.shut_ex ⟨(m50, pp51, cc52, L53, E54), hL55, hE56⟩ (St.shut_star (ls := [blk g (.cells #[.int .i64 ((ackS s d.ack.v).frm.v), .int .i64 ((ackS s d.ack.v).to_.v), .int .i64 ((ackS s d.ack.v).slide : Int), .slice pp51 L53.length cc52, .int .i64 ((ackS s d.ack.v).acked : Int), .int .i64 ((i64N (ackS s d.ack.v).came).v), .map (some m50), .int .i64 ((ackS s d.ack.v).clock : Int), .bool true] 62 (0, 0)), Row 79 3 (.slice pp51 L53.length cc52) L53.length (L53.flatMap bodCell), byA (L53.map BodD.by), MapA m50 (ents (kI .i64) evD E54), byA (mby E54)]) H78)
                  have hC : takeC s d = ([], s.came, s.held) := takeC_no (by first | exact .inl (by omega) | (right; rw [← hhe, mapB_has hE56]; assumption))
                  have H81 := Row.nil_intro H80 26 1
                  have H82 := byA_nil H81
                  have H83 : St W w77 (Row 26 1 (.slice none 0 0) 0 [] :: byA ([] : List BytesD) :: LkA g ({ ackS s d.ack.v with owes := true } : EndV) :: blk bk7 (.cells #[.int .i64 d.frm.v, .int .i64 d.to_.v, .int .i64 d.kind.v, .int .i64 d.seq.v, .int .i64 d.ack.v, .slice pp1 d.body.length cc2] 41 (0, 0)) :: Im 1 (.slice pp1 d.body.length cc2) d.body.length (d.body.flatMap u8c) :: (F.set i emp)) := (H82.move 1 rfl)
                  have hT9 : takeT s d = [] := by rw [takeT_yes hE hk1, hC]
                  have H84 : St W w77 (BysA none 0 (takeT s d) :: LkA g ({ ackS s d.ack.v with owes := true } : EndV) :: blk bk7 (.cells #[.int .i64 d.frm.v, .int .i64 d.to_.v, .int .i64 d.kind.v, .int .i64 d.seq.v, .int .i64 d.ack.v, .slice pp1 d.body.length cc2] 41 (0, 0)) :: Im 1 (.slice pp1 d.body.length cc2) d.body.length (d.body.flatMap u8c) :: (F.set i emp)) := by rw [hT9]; exact St.shut_ex ⟨[], rfl⟩ (St.shut_star (ls := [Row 26 1 (.slice none 0 0) 0 [], byA ([] : List BytesD)]) H83)
                  have H85 : St W w77 (BysA none 0 (takeT s d) :: LkA g (takeS s d) :: blk bk7 (.cells #[.int .i64 d.frm.v, .int .i64 d.to_.v, .int .i64 d.kind.v, .int .i64 d.seq.v, .int .i64 d.ack.v, .slice pp1 d.body.length cc2] 41 (0, 0)) :: Im 1 (.slice pp1 d.body.length cc2) d.body.length (d.body.flatMap u8c) :: (F.set i emp)) := by rw [takeS_data hE hk1, hC, ← hca, ← hhe]; exact H84
                  have H86 : St W w77 (BysA none 0 (takeT s d) :: LkA g (takeS s d) :: (F.set i emp)) := ((((H85.move 1 rfl).move 1 rfl).drop 2 rfl).drop 2 rfl)
                  have H87 : St W w77 (LkA g (takeS s d) :: (BysA none 0 (takeT s d) :: F).set (i + 1) emp) := (H86.move 1 rfl)
                  exact ⟨none, 0, by rw [hE, hT9]; rfl, St.back (i := i + 1) (by exact hi) H87⟩
                · have hb79 := eq_false_of_ne_true hb79
                  refine g_false (congrArg Value.bool hb79) ?_
                  refine g_skip ?_
                  refine g_seq ?_
                  have hno0 : ahas s.held d.seq = false := by rw [← hhe, mapB_has hE56]; assumption
                  have hC := takeC_yes (s := s) (d := d) (by rw [hno0]; simp only [Bool.false_eq_true, or_false]; omega)
                  have H88 : St W w77 (blk g (.cells #[.int .i64 ((ackS s d.ack.v).frm.v), .int .i64 ((ackS s d.ack.v).to_.v), .int .i64 ((ackS s d.ack.v).slide : Int), .slice pp51 L53.length cc52, .int .i64 ((ackS s d.ack.v).acked : Int), .int .i64 ((i64N (ackS s d.ack.v).came).v), .map (some m50), .int .i64 ((ackS s d.ack.v).clock : Int), .bool true] 62 (0, 0)) :: Row 79 3 (.slice pp51 L53.length cc52) L53.length (L53.flatMap bodCell) :: byA (L53.map BodD.by) :: byA (mby E54) :: blk bk7 (.cells #[.int .i64 d.frm.v, .int .i64 d.to_.v, .int .i64 d.kind.v, .int .i64 d.seq.v, .int .i64 d.ack.v, .slice pp1 d.body.length cc2] 41 (0, 0)) :: Im 1 (.slice pp1 d.body.length cc2) d.body.length (d.body.flatMap u8c) :: MapA m50 (ents (kI .i64) evD E54) :: (F.set i emp)) := (((((((H78.move 3 rfl).move 6 rfl).move 6 rfl).move 6 rfl).move 6 rfl).move 6 rfl).move 6 rfl)
                  refine g_mix (fun t_ w => St W w (blk g (.cells #[.int .i64 ((ackS s d.ack.v).frm.v), .int .i64 ((ackS s d.ack.v).to_.v), .int .i64 ((ackS s d.ack.v).slide : Int), .slice pp51 L53.length cc52, .int .i64 ((ackS s d.ack.v).acked : Int), .int .i64 ((i64N (ackS s d.ack.v).came).v), .map (some m50), .int .i64 ((ackS s d.ack.v).clock : Int), .bool true] 62 (0, 0)) :: Row 79 3 (.slice pp51 L53.length cc52) L53.length (L53.flatMap bodCell) :: byA (L53.map BodD.by) :: byA (mby E54) :: blk bk7 (.cells #[.int .i64 d.frm.v, .int .i64 d.to_.v, .int .i64 d.kind.v, .int .i64 d.seq.v, .int .i64 d.ack.v, .slice pp1 d.body.length cc2] 41 (0, 0)) :: Im 1 (.slice pp1 d.body.length cc2) d.body.length (d.body.flatMap u8c) :: t_)) (MapA m50 (ents (kI .i64) evD E54) :: (F.set i emp)) mixed 10 rfl H88.drew ?_
                  refine f_first 0 (listed' := #[true, false, false, false, false, false, false, false, false, false]) rfl (by kernel_rfl) (by kernel_rfl) (by kernel_rfl) rfl ?_
                  refine f_val rfl rfl rfl (by intro t_ w hw; exact x_move (.pointer (some ⟨g, 0, none⟩)) rfl w) ?_
                  refine f_first 1 (listed' := #[true, true, false, false, false, false, false, false, false, false]) rfl (by kernel_rfl) (by kernel_rfl) (by kernel_rfl) rfl ?_
                  refine f_val rfl rfl rfl (by intro t_ w hw; exact x_nilCheck (.pointer (some ⟨g, 0, none⟩)) rfl ⟨_, rfl⟩ w) ?_
                  refine f_first 2 (listed' := #[true, true, true, false, false, false, false, false, false, false]) rfl (by kernel_rfl) (by kernel_rfl) (by kernel_rfl) rfl ?_
                  refine f_val rfl rfl rfl (by intro t_ w hw; exact x_fieldAddr 62 5 6 6 60 rfl fi_62_5 rfl w) ?_
                  refine f_first 3 (listed' := #[true, true, true, true, false, false, false, false, false, false]) rfl (by kernel_rfl) (by kernel_rfl) (by kernel_rfl) rfl ?_
                  refine f_val rfl rfl rfl (by intro t_ w hw; exact x_load (.map (some m50)) ag_60 rfl (hw.blk_at (i := 0) rfl) rfl) ?_
                  refine f_first 4 (listed' := #[true, true, true, true, true, false, false, false, false, false]) rfl (by kernel_rfl) (by kernel_rfl) (by kernel_rfl) rfl ?_
                  refine f_val rfl rfl rfl (by intro t_ w hw; exact x_fieldAddr 41 3 3 3 2 rfl fi_41_3 rfl w) ?_
                  refine f_first 5 (listed' := #[true, true, true, true, true, true, false, false, false, false]) rfl (by kernel_rfl) (by kernel_rfl) (by kernel_rfl) rfl ?_
                  refine f_val rfl rfl rfl (by intro t_ w hw; exact x_load (.int .i64 d.seq.v) ag_2 rfl (hw.blk_at (i := 4) rfl) rfl) ?_
                  refine f_first 6 (listed' := #[true, true, true, true, true, true, true, false, false, false]) rfl (by kernel_rfl) (by kernel_rfl) (by kernel_rfl) rfl ?_
                  refine f_val rfl rfl rfl (by intro t_ w hw; exact x_fieldAddr 41 5 5 5 26 rfl fi_41_5 rfl w) ?_
                  refine f_first 7 (listed' := #[true, true, true, true, true, true, true, true, false, false]) rfl (by kernel_rfl) (by kernel_rfl) (by kernel_rfl) rfl ?_
                  refine f_val rfl rfl rfl (by intro t_ w hw; exact x_load (.slice pp1 d.body.length cc2) ag_26 rfl (hw.blk_at (i := 4) rfl) rfl) ?_
                  refine f_all (rs := [8]) (by kernel_rfl) (by simp) ?_
                  refine a_cons ⟨_, rfl, ?_⟩ (fun x hx => absurd hx (by simp))
                  intro w89 H90
                  try dsimp only at H90
                  refine s_call [.slice pp1 d.body.length cc2] pl_48 rfl rfl (clone_bytes _ _ d.body.length (d.body.flatMap u8c) RdA.im (by first | omega | (have hlp := Nat.le_refl 0; omega)) (j := 5) rfl H90) ?_
                  rintro _ w93 ⟨pp91, cc92, rfl, H94⟩
                  have H95 : St W w93 (blk g (.cells #[.int .i64 ((ackS s d.ack.v).frm.v), .int .i64 ((ackS s d.ack.v).to_.v), .int .i64 ((ackS s d.ack.v).slide : Int), .slice pp51 L53.length cc52, .int .i64 ((ackS s d.ack.v).acked : Int), .int .i64 ((i64N (ackS s d.ack.v).came).v), .map (some m50), .int .i64 ((ackS s d.ack.v).clock : Int), .bool true] 62 (0, 0)) :: Row 79 3 (.slice pp51 L53.length cc52) L53.length (L53.flatMap bodCell) :: byA (L53.map BodD.by) :: byA (mby E54) :: blk bk7 (.cells #[.int .i64 d.frm.v, .int .i64 d.to_.v, .int .i64 d.kind.v, .int .i64 d.seq.v, .int .i64 d.ack.v, .slice pp1 d.body.length cc2] 41 (0, 0)) :: Im 1 (.slice pp1 d.body.length cc2) d.body.length (d.body.flatMap u8c) :: Row 5 1 (.slice pp91 d.body.length cc92) d.body.length (d.body.flatMap u8c) :: MapA m50 (ents (kI .i64) evD E54) :: (F.set i emp)) := ((((((((H94.move 7 rfl).move 1 rfl).move 7 rfl).move 7 rfl).move 7 rfl).move 7 rfl).move 7 rfl).move 7 rfl)
                  refine ⟨Row 5 1 (.slice pp91 d.body.length cc92) d.body.length (d.body.flatMap u8c) :: MapA m50 (ents (kI .i64) evD E54) :: (F.set i emp), ?_, H95⟩
                  change FReg _ _ _ _ _ #[true, true, true, true, true, true, true, true, true, false] _ _
                  refine f_all (rs := [9]) (by kernel_rfl) (by simp) ?_
                  refine a_cons ⟨_, rfl, ?_⟩ (fun x hx => absurd hx (by simp))
                  intro w96 H97
                  try dsimp only at H97
                  refine s_mapUpdate (ek := (kI .i64)) (ev := evD) (L := E54) d.seq (⟨d.body, pp91, cc92⟩ : BytesD) H97 (i := 7) rfl (KeyLaw.I un_2) un_60 rfl rfl rfl ?_; intro w98 H99
                  have H100 : St W w98 (blk g (.cells #[.int .i64 ((ackS s d.ack.v).frm.v), .int .i64 ((ackS s d.ack.v).to_.v), .int .i64 ((ackS s d.ack.v).slide : Int), .slice pp51 L53.length cc52, .int .i64 ((ackS s d.ack.v).acked : Int), .int .i64 ((i64N (ackS s d.ack.v).came).v), .map (some m50), .int .i64 ((ackS s d.ack.v).clock : Int), .bool true] 62 (0, 0)) :: Row 79 3 (.slice pp51 L53.length cc52) L53.length (L53.flatMap bodCell) :: byA (L53.map BodD.by) :: byA (mby E54) :: blk bk7 (.cells #[.int .i64 d.frm.v, .int .i64 d.to_.v, .int .i64 d.kind.v, .int .i64 d.seq.v, .int .i64 d.ack.v, .slice pp1 d.body.length cc2] 41 (0, 0)) :: Im 1 (.slice pp1 d.body.length cc2) d.body.length (d.body.flatMap u8c) :: Row 5 1 (.slice pp91 d.body.length cc92) d.body.length (d.body.flatMap u8c) :: MapA m50 (ents (kI .i64) evD (aset E54 d.seq (⟨d.body, pp91, cc92⟩ : BytesD))) :: (F.set i emp)) := H99
                  refine ⟨Row 5 1 (.slice pp91 d.body.length cc92) d.body.length (d.body.flatMap u8c) :: MapA m50 (ents (kI .i64) evD (aset E54 d.seq (⟨d.body, pp91, cc92⟩ : BytesD))) :: (F.set i emp), ?_, H100⟩
                  change FReg _ _ _ _ _ #[true, true, true, true, true, true, true, true, true, true] _ _
                  refine f_done (by kernel_rfl) ?_
                  intro w101 H102
                  refine g_seq ?_
                  refine g_region ?_
                  refine r_cons (s_assign (.slice none 0 0) rfl rfl ?_)
                  refine r_nil ?_
                  refine g_block ?_
                  have H103 : St W w101 (blk g (.cells #[.int .i64 ((ackS s d.ack.v).frm.v), .int .i64 ((ackS s d.ack.v).to_.v), .int .i64 ((ackS s d.ack.v).slide : Int), .slice pp51 L53.length cc52, .int .i64 ((ackS s d.ack.v).acked : Int), .int .i64 ((i64N (ackS s d.ack.v).came).v), .map (some m50), .int .i64 ((ackS s d.ack.v).clock : Int), .bool true] 62 (0, 0)) :: Row 79 3 (.slice pp51 L53.length cc52) L53.length (L53.flatMap bodCell) :: byA (L53.map BodD.by) :: byA (mby E54) :: blk bk7 (.cells #[.int .i64 d.frm.v, .int .i64 d.to_.v, .int .i64 d.kind.v, .int .i64 d.seq.v, .int .i64 d.ack.v, .slice pp1 d.body.length cc2] 41 (0, 0)) :: Im 1 (.slice pp1 d.body.length cc2) d.body.length (d.body.flatMap u8c) :: Im 1 (.slice pp91 d.body.length cc92) d.body.length (d.body.flatMap u8c) :: MapA m50 (ents (kI .i64) evD (aset E54 d.seq (⟨d.body, pp91, cc92⟩ : BytesD))) :: (F.set i emp)) := Row.im H102 (i := 6) rfl
                  have H104 := byA_add (x := (⟨d.body, pp91, cc92⟩ : BytesD)) (M := mby (aset E54 d.seq (⟨d.body, pp91, cc92⟩ : BytesD))) H103 (i := 3) (j := 6) rfl rfl (mby_set (by rw [← mapB_has hE56, hhe]; exact hno0))
                  have H105 : St W w101 (byA (mby (aset E54 d.seq (⟨d.body, pp91, cc92⟩ : BytesD))) :: blk g (.cells #[.int .i64 ((ackS s d.ack.v).frm.v), .int .i64 ((ackS s d.ack.v).to_.v), .int .i64 ((ackS s d.ack.v).slide : Int), .slice pp51 L53.length cc52, .int .i64 ((ackS s d.ack.v).acked : Int), .int .i64 ((i64N s.came).v), .map (some m50), .int .i64 ((ackS s d.ack.v).clock : Int), .bool true] 62 (0, 0)) :: Row 79 3 (.slice pp51 L53.length cc52) L53.length (L53.flatMap bodCell) :: byA (L53.map BodD.by) :: byA (mby E54) :: blk bk7 (.cells #[.int .i64 d.frm.v, .int .i64 d.to_.v, .int .i64 d.kind.v, .int .i64 d.seq.v, .int .i64 d.ack.v, .slice pp1 d.body.length cc2] 41 (0, 0)) :: Im 1 (.slice pp1 d.body.length cc2) d.body.length (d.body.flatMap u8c) :: Im 1 (.slice pp91 d.body.length cc92) d.body.length (d.body.flatMap u8c) :: MapA m50 (ents (kI .i64) evD (aset E54 d.seq (⟨d.body, pp91, cc92⟩ : BytesD))) :: (F.set i emp)) := by rw [← hca]; exact H104
                  have H106 : St W w101 (blk g (.cells #[.int .i64 ((ackS s d.ack.v).frm.v), .int .i64 ((ackS s d.ack.v).to_.v), .int .i64 ((ackS s d.ack.v).slide : Int), .slice pp51 L53.length cc52, .int .i64 ((ackS s d.ack.v).acked : Int), .int .i64 ((i64N s.came).v), .map (some m50), .int .i64 ((ackS s d.ack.v).clock : Int), .bool true] 62 (0, 0)) :: Row 79 3 (.slice pp51 L53.length cc52) L53.length (L53.flatMap bodCell) :: byA (L53.map BodD.by) :: MapA m50 (ents (kI .i64) evD (aset E54 d.seq (⟨d.body, pp91, cc92⟩ : BytesD))) :: byA (mby (aset E54 d.seq (⟨d.body, pp91, cc92⟩ : BytesD))) :: byA (mby E54) :: blk bk7 (.cells #[.int .i64 d.frm.v, .int .i64 d.to_.v, .int .i64 d.kind.v, .int .i64 d.seq.v, .int .i64 d.ack.v, .slice pp1 d.body.length cc2] 41 (0, 0)) :: Im 1 (.slice pp1 d.body.length cc2) d.body.length (d.body.flatMap u8c) :: Im 1 (.slice pp91 d.body.length cc92) d.body.length (d.body.flatMap u8c) :: (F.set i emp)) := ((((H105.move 8 rfl).move 4 rfl).move 4 rfl).move 4 rfl)
                  have H107 : St W w101 (LkA g (drS (ackS s d.ack.v) s.came (s.held ++ [(d.seq, d.body)])) :: byA (mby E54) :: blk bk7 (.cells #[.int .i64 d.frm.v, .int .i64 d.to_.v, .int .i64 d.kind.v, .int .i64 d.seq.v, .int .i64 d.ack.v, .slice pp1 d.body.length cc2] 41 (0, 0)) :: Im 1 (.slice pp1 d.body.length cc2) d.body.length (d.body.flatMap u8c) :: Im 1 (.slice pp91 d.body.length cc92) d.body.length (d.body.flatMap u8c) :: (F.set i emp)) := St.shut_ex ⟨(m50, pp51, cc52, L53, (aset E54 d.seq (⟨d.body, pp91, cc92⟩ : BytesD))), hL55, (show mapB (aset E54 d.seq (⟨d.body, pp91, cc92⟩ : BytesD)) = s.held ++ [(d.seq, d.body)] from by rw [mapB_set hE56 (⟨d.body, pp91, cc92⟩ : BytesD) (by rw [hhe]; exact hno0), hhe])⟩ (St.shut_star (ls := [blk g (.cells #[.int .i64 ((ackS s d.ack.v).frm.v), .int .i64 ((ackS s d.ack.v).to_.v), .int .i64 ((ackS s d.ack.v).slide : Int), .slice pp51 L53.length cc52, .int .i64 ((ackS s d.ack.v).acked : Int), .int .i64 ((i64N s.came).v), .map (some m50), .int .i64 ((ackS s d.ack.v).clock : Int), .bool true] 62 (0, 0)), Row 79 3 (.slice pp51 L53.length cc52) L53.length (L53.flatMap bodCell), byA (L53.map BodD.by), MapA m50 (ents (kI .i64) evD (aset E54 d.seq (⟨d.body, pp91, cc92⟩ : BytesD))), byA (mby (aset E54 d.seq (⟨d.body, pp91, cc92⟩ : BytesD)))]) H106)
                  have H108 := Row.nil_intro H107 26 1
                  have H109 := byA_nil H108
                  have H110 : St W w101 (Row 26 1 (.slice none 0 0) 0 [] :: byA ([] : List BytesD) :: LkA g (drS (ackS s d.ack.v) s.came (s.held ++ [(d.seq, d.body)])) :: (F.set i emp)) := (((((((H109.move 2 rfl).move 1 rfl).move 2 rfl).drop 3 rfl).drop 3 rfl).drop 3 rfl).drop 3 rfl)
                  have H111 : St W w101 (Row 26 1 (.slice none 0 0) 0 [] :: byA ([] : List BytesD) :: LkA g (drS (ackS s d.ack.v) s.came (s.held ++ [(d.seq, d.body)])) :: (F.set i emp)) := H110
                  refine g_loop_inv (fun (x_ : Nat × (List (I64 × List UInt8)) × (List BytesD) × (Option Addr) × Nat) => match x_ with | (c9, h9, O, p, c) => [(0, .pointer (some ⟨g, 0, none⟩)), (4, .slice none 0 0), (5, .int .i64 0), (10, .slice p O.length c)]) (fun (x_ : Nat × (List (I64 × List UInt8)) × (List BytesD) × (Option Addr) × Nat) w => match x_ with | (c9, h9, O, p, c) => (DrI (drain (s.held ++ [(d.seq, d.body)]).length s.came (s.held ++ [(d.seq, d.body)])) (O.map BytesD.data) c9 h9) ∧ (c9 ≤ 1099511627777) ∧ (∀ x ∈ h9, x.1.v ≤ 1099511627776) ∧ (O.length + h9.length ≤ s.held.length + 1) ∧ St W w (Row 26 1 (.slice p O.length c) O.length (O.flatMap byCell) :: byA O :: LkA g (drS (ackS s d.ack.v) c9 h9) :: (F.set i emp))) (fun (x_ : Nat × (List (I64 × List UInt8)) × (List BytesD) × (Option Addr) × Nat) => match x_ with | (c9, h9, O, p, c) => h9.length) (s.came, s.held ++ [(d.seq, d.body)], [], none, 0) ?_ ?_ ?_
                  · exact ⟨by first | rfl | exact vint (by omega), by first | rfl | exact vint (by omega), by first | rfl | exact vint (by omega), by first | rfl | exact vint (by omega), trivial⟩
                  · exact ⟨(DrI.start _ _), (by omega), (fun x hx => (List.mem_append.1 hx).elim (o8 x) (fun h => by rw [List.mem_singleton] at h; subst h; exact q2)), (by simp), H111⟩
                  · rintro ⟨c9, h9, O, p, c⟩ ρ112 w113 ⟨hDr, hc9, hh9, hl9, H114⟩ nx115
                    change Ends _ _ (upds ρ112 [(0, .pointer (some ⟨g, 0, none⟩)), (4, .slice none 0 0), (5, .int .i64 0), (10, .slice p O.length c)]) w113
                    refine g_block ?_
                    refine g_seq ?_
                    have H116 := H114.move 2 rfl
                    obtain ⟨⟨⟨m117, pp118, cc119, L120, E121⟩, hL122, hE123⟩, H124⟩ := St.open_ex H116
                    have H125 := St.open_star H124
                    change L120.map BodD.v = (drS (ackS s d.ack.v) c9 h9).l at hL122; change mapB E121 = (drS (ackS s d.ack.v) c9 h9).held at hE123
                    have hl126 := lenOf hL122; have he127 := mapB_len hE123
                    have H128 : St W w113 (blk g (.cells #[.int .i64 ((drS (ackS s d.ack.v) c9 h9).frm.v), .int .i64 ((drS (ackS s d.ack.v) c9 h9).to_.v), .int .i64 ((drS (ackS s d.ack.v) c9 h9).slide : Int), .slice pp118 L120.length cc119, .int .i64 ((drS (ackS s d.ack.v) c9 h9).acked : Int), .int .i64 ((i64N (drS (ackS s d.ack.v) c9 h9).came).v), .map (some m117), .int .i64 ((drS (ackS s d.ack.v) c9 h9).clock : Int), .bool ((drS (ackS s d.ack.v) c9 h9).owes)] 62 (0, 0)) :: Row 79 3 (.slice pp118 L120.length cc119) L120.length (L120.flatMap bodCell) :: byA (L120.map BodD.by) :: MapA m117 (ents (kI .i64) evD E121) :: byA (mby E121) :: Row 26 1 (.slice p O.length c) O.length (O.flatMap byCell) :: byA O :: (F.set i emp)) := H125
                    have hcv : (i64N (drS (ackS s d.ack.v) c9 h9).came).v = (c9 : Int) := i64N_v (n := c9) (by omega); have hcw := i64N_v (n := c9) (by omega)
                    refine g_quiet (fun w' => St W w' (blk g (.cells #[.int .i64 ((drS (ackS s d.ack.v) c9 h9).frm.v), .int .i64 ((drS (ackS s d.ack.v) c9 h9).to_.v), .int .i64 ((drS (ackS s d.ack.v) c9 h9).slide : Int), .slice pp118 L120.length cc119, .int .i64 ((drS (ackS s d.ack.v) c9 h9).acked : Int), .int .i64 ((i64N (drS (ackS s d.ack.v) c9 h9).came).v), .map (some m117), .int .i64 ((drS (ackS s d.ack.v) c9 h9).clock : Int), .bool ((drS (ackS s d.ack.v) c9 h9).owes)] 62 (0, 0)) :: Row 79 3 (.slice pp118 L120.length cc119) L120.length (L120.flatMap bodCell) :: byA (L120.map BodD.by) :: MapA m117 (ents (kI .i64) evD E121) :: byA (mby E121) :: Row 26 1 (.slice p O.length c) O.length (O.flatMap byCell) :: byA O :: (F.set i emp))) mixed (by kernel_rfl) H128.drew ?_
                    refine q_cons (q_val rfl rfl rfl (by intro w hw; exact x_move (.pointer (some ⟨g, 0, none⟩)) rfl w) ?_)
                    refine q_cons (q_val rfl rfl rfl (by intro w hw; exact x_nilCheck (.pointer (some ⟨g, 0, none⟩)) rfl ⟨_, rfl⟩ w) ?_)
                    refine q_cons (q_val rfl rfl rfl (by intro w hw; exact x_fieldAddr 62 5 6 6 60 rfl fi_62_5 rfl w) ?_)
                    refine q_cons (q_val rfl rfl rfl (by intro w hw; exact x_load (.map (some m117)) ag_60 rfl (hw.blk_at (i := 0) rfl) rfl) ?_)
                    refine q_cons (q_val rfl rfl rfl (by intro w hw; exact x_move (.pointer (some ⟨g, 0, none⟩)) rfl w) ?_)
                    refine q_cons (q_val rfl rfl rfl (by intro w hw; exact x_nilCheck (.pointer (some ⟨g, 0, none⟩)) rfl ⟨_, rfl⟩ w) ?_)
                    refine q_cons (q_val rfl rfl rfl (by intro w hw; exact x_fieldAddr 62 4 5 5 2 rfl fi_62_4 rfl w) ?_)
                    refine q_cons (q_val rfl rfl rfl (by intro w hw; exact x_load (.int .i64 ((i64N (drS (ackS s d.ack.v) c9 h9).came).v)) ag_2 rfl (hw.blk_at (i := 0) rfl) rfl) ?_)
                    refine q_cons (q_val rfl rfl rfl (by intro w hw; exact x_lookup2 (ek := (kI .i64)) (ev := evD) (L := E121) (i64N (drS (ackS s d.ack.v) c9 h9).came) ((lookV evD (.slice none 0 0) E121 (i64N (drS (ackS s d.ack.v) c9 h9).came))) (ahas E121 (i64N (drS (ackS s d.ack.v) c9 h9).came)) (MapA.at hw (i := 3) rfl) (KeyLaw.I un_2) un_60 zv_26 rfl rfl (rfl) rfl) ?_)
                    refine q_cons (q_val rfl rfl rfl (by intro w hw; exact x_move (.tuple #[(lookV evD (.slice none 0 0) E121 (i64N (drS (ackS s d.ack.v) c9 h9).came)), .bool (ahas E121 (i64N (drS (ackS s d.ack.v) c9 h9).came))]) rfl w) ?_)
                    refine q_cons (q_val rfl rfl rfl (by intro w hw; exact x_extract ((lookV evD (.slice none 0 0) E121 (i64N (drS (ackS s d.ack.v) c9 h9).came))) #[(lookV evD (.slice none 0 0) E121 (i64N (drS (ackS s d.ack.v) c9 h9).came)), .bool (ahas E121 (i64N (drS (ackS s d.ack.v) c9 h9).came))] rfl rfl w) ?_)
                    refine q_cons (q_val rfl rfl rfl (by intro w hw; exact x_extract (.bool (ahas E121 (i64N (drS (ackS s d.ack.v) c9 h9).came))) #[(lookV evD (.slice none 0 0) E121 (i64N (drS (ackS s d.ack.v) c9 h9).came)), .bool (ahas E121 (i64N (drS (ackS s d.ack.v) c9 h9).came))] rfl rfl w) ?_)
                    refine q_cons (q_val rfl rfl rfl (by intro w hw; exact x_assign ((lookV evD (.slice none 0 0) E121 (i64N (drS (ackS s d.ack.v) c9 h9).came))) rfl w) ?_)
                    refine q_cons (q_val rfl rfl rfl (by intro w hw; exact x_assign (.bool (ahas E121 (i64N (drS (ackS s d.ack.v) c9 h9).came))) rfl w) ?_)
                    refine q_nil ?_
                    intro w129 H130
                    refine g_seq ?_
                    refine g_seq ?_
                    refine g_region ?_
                    refine r_cons (s_move (.bool (ahas E121 (i64N (drS (ackS s d.ack.v) c9 h9).came))) rfl rfl ?_)
                    refine r_cons (s_not (ahas E121 (i64N (drS (ackS s d.ack.v) c9 h9).came)) rfl (!(ahas E121 (i64N (drS (ackS s d.ack.v) c9 h9).came))) rfl rfl ?_)
                    refine r_nil ?_
                    by_cases hb131 : (!(ahas E121 (i64N (drS (ackS s d.ack.v) c9 h9).came))) = true
                    · skip
                      refine g_true (congrArg Value.bool hb131) ?_
                      refine g_seq ?_
                      refine g_region ?_
                      have hno : ahas h9 (i64N c9) = false := by rw [mapB_has (show mapB E121 = h9 from hE123)]; show ahas E121 (i64N (drS (ackS s d.ack.v) c9 h9).came) = false; simpa using hb131
                      refine r_cons (s_move (.slice p O.length c) rfl rfl ?_)
                      refine r_cons (s_assign (.slice p O.length c) rfl rfl ?_)
                      refine r_cons (s_assign (.int .i64 0) rfl rfl ?_)
                      refine r_nil ?_
                      refine g_ret' [.slice p O.length c, .int .i64 0] Try.func21 Try.results21 ⟨rfl, rfl, trivial⟩ ?_
                      have H132 : St W w129 (LkA g (drS (ackS s d.ack.v) c9 h9) :: Row 26 1 (.slice p O.length c) O.length (O.flatMap byCell) :: byA O :: (F.set i emp)) := St.shut_ex ⟨(m117, pp118, cc119, L120, E121), hL122, hE123⟩ (St.shut_star (ls := [blk g (.cells #[.int .i64 ((drS (ackS s d.ack.v) c9 h9).frm.v), .int .i64 ((drS (ackS s d.ack.v) c9 h9).to_.v), .int .i64 ((drS (ackS s d.ack.v) c9 h9).slide : Int), .slice pp118 L120.length cc119, .int .i64 ((drS (ackS s d.ack.v) c9 h9).acked : Int), .int .i64 ((i64N (drS (ackS s d.ack.v) c9 h9).came).v), .map (some m117), .int .i64 ((drS (ackS s d.ack.v) c9 h9).clock : Int), .bool ((drS (ackS s d.ack.v) c9 h9).owes)] 62 (0, 0)), Row 79 3 (.slice pp118 L120.length cc119) L120.length (L120.flatMap bodCell), byA (L120.map BodD.by), MapA m117 (ents (kI .i64) evD E121), byA (mby E121)]) H130)
                      have hd9 := hDr.stop hno
                      have hT9 : takeT s d = O.map BytesD.data := by rw [takeT_yes hE hk1, hC, hd9]
                      have H133 : St W w129 (Row 26 1 (.slice p O.length c) O.length (O.flatMap byCell) :: byA O :: LkA g (drS (ackS s d.ack.v) c9 h9) :: (F.set i emp)) := ((H132.move 2 rfl).move 2 rfl)
                      have hn134 : (takeT s d).length = O.length := (by rw [hT9, List.length_map])
                      have H135 : St W w129 (Row 26 1 (.slice p ((takeT s d).length) c) ((takeT s d).length) (O.flatMap byCell) :: byA O :: LkA g (drS (ackS s d.ack.v) c9 h9) :: (F.set i emp)) := by rw [hn134]; exact H133
                      have H136 : St W w129 (BysA p c (takeT s d) :: LkA g (drS (ackS s d.ack.v) c9 h9) :: (F.set i emp)) := St.shut_ex ⟨O, hT9.symm⟩ (St.shut_star (ls := [Row 26 1 (.slice p ((takeT s d).length) c) ((takeT s d).length) (O.flatMap byCell), byA O]) H135)
                      have H137 : St W w129 (BysA p c (takeT s d) :: LkA g (takeS s d) :: (F.set i emp)) := by rw [takeS_data hE hk1, hC, hd9]; exact H136
                      have H138 : St W w129 (BysA p c (takeT s d) :: LkA g (takeS s d) :: (F.set i emp)) := ((H137.move 1 rfl).move 1 rfl)
                      have H139 : St W w129 (LkA g (takeS s d) :: (BysA p c (takeT s d) :: F).set (i + 1) emp) := (H138.move 1 rfl)
                      exact ⟨_, _, by rw [hE, hn134]; rfl, St.back (i := i + 1) (by exact hi) H139⟩
                    · have hb131 := eq_false_of_ne_true hb131
                      refine g_false (congrArg Value.bool hb131) ?_
                      refine g_skip ?_
                      refine g_seq ?_
                      obtain ⟨x9, hx9⟩ : ∃ x, aget E121 (i64N (drS (ackS s d.ack.v) c9 h9).came) = some x := Option.isSome_iff_exists.1 (by rw [aget_has]; simpa using hb131)
                      have hg9 : aget h9 (i64N c9) = some x9.data := by rw [mapB_get (show mapB E121 = h9 from hE123)]; exact congrArg (Option.map BytesD.data) hx9
                      have hk9 := hh9 _ (aget_mem hg9); simp only at hk9
                      have hhl := adel_len (has_of_get hg9)
                      rw [look_some hx9]
                      have H140 : St W w129 (blk g (.cells #[.int .i64 ((drS (ackS s d.ack.v) c9 h9).frm.v), .int .i64 ((drS (ackS s d.ack.v) c9 h9).to_.v), .int .i64 ((drS (ackS s d.ack.v) c9 h9).slide : Int), .slice pp118 L120.length cc119, .int .i64 ((drS (ackS s d.ack.v) c9 h9).acked : Int), .int .i64 ((i64N (drS (ackS s d.ack.v) c9 h9).came).v), .map (some m117), .int .i64 ((drS (ackS s d.ack.v) c9 h9).clock : Int), .bool ((drS (ackS s d.ack.v) c9 h9).owes)] 62 (0, 0)) :: Row 79 3 (.slice pp118 L120.length cc119) L120.length (L120.flatMap bodCell) :: byA (L120.map BodD.by) :: byA (mby E121) :: Row 26 1 (.slice p O.length c) O.length (O.flatMap byCell) :: byA O :: MapA m117 (ents (kI .i64) evD E121) :: (F.set i emp)) := (((((((H130.move 3 rfl).move 6 rfl).move 6 rfl).move 6 rfl).move 6 rfl).move 6 rfl).move 6 rfl)
                      refine g_mix (fun t_ w => St W w (blk g (.cells #[.int .i64 ((drS (ackS s d.ack.v) c9 h9).frm.v), .int .i64 ((drS (ackS s d.ack.v) c9 h9).to_.v), .int .i64 ((drS (ackS s d.ack.v) c9 h9).slide : Int), .slice pp118 L120.length cc119, .int .i64 ((drS (ackS s d.ack.v) c9 h9).acked : Int), .int .i64 ((i64N (drS (ackS s d.ack.v) c9 h9).came).v), .map (some m117), .int .i64 ((drS (ackS s d.ack.v) c9 h9).clock : Int), .bool ((drS (ackS s d.ack.v) c9 h9).owes)] 62 (0, 0)) :: Row 79 3 (.slice pp118 L120.length cc119) L120.length (L120.flatMap bodCell) :: byA (L120.map BodD.by) :: byA (mby E121) :: Row 26 1 (.slice p O.length c) O.length (O.flatMap byCell) :: byA O :: t_)) (MapA m117 (ents (kI .i64) evD E121) :: (F.set i emp)) mixed 9 rfl H140.drew ?_
                      refine f_first 0 (listed' := #[true, false, false, false, false, false, false, false, false]) rfl (by kernel_rfl) (by kernel_rfl) (by kernel_rfl) rfl ?_
                      refine f_val rfl rfl rfl (by intro t_ w hw; exact x_move (.pointer (some ⟨g, 0, none⟩)) rfl w) ?_
                      refine f_first 1 (listed' := #[true, true, false, false, false, false, false, false, false]) rfl (by kernel_rfl) (by kernel_rfl) (by kernel_rfl) rfl ?_
                      refine f_val rfl rfl rfl (by intro t_ w hw; exact x_nilCheck (.pointer (some ⟨g, 0, none⟩)) rfl ⟨_, rfl⟩ w) ?_
                      refine f_first 2 (listed' := #[true, true, true, false, false, false, false, false, false]) rfl (by kernel_rfl) (by kernel_rfl) (by kernel_rfl) rfl ?_
                      refine f_val rfl rfl rfl (by intro t_ w hw; exact x_fieldAddr 62 5 6 6 60 rfl fi_62_5 rfl w) ?_
                      refine f_first 3 (listed' := #[true, true, true, true, false, false, false, false, false]) rfl (by kernel_rfl) (by kernel_rfl) (by kernel_rfl) rfl ?_
                      refine f_val rfl rfl rfl (by intro t_ w hw; exact x_load (.map (some m117)) ag_60 rfl (hw.blk_at (i := 0) rfl) rfl) ?_
                      refine f_first 4 (listed' := #[true, true, true, true, true, false, false, false, false]) rfl (by kernel_rfl) (by kernel_rfl) (by kernel_rfl) rfl ?_
                      refine f_val rfl rfl rfl (by intro t_ w hw; exact x_move (.pointer (some ⟨g, 0, none⟩)) rfl w) ?_
                      refine f_first 5 (listed' := #[true, true, true, true, true, true, false, false, false]) rfl (by kernel_rfl) (by kernel_rfl) (by kernel_rfl) rfl ?_
                      refine f_val rfl rfl rfl (by intro t_ w hw; exact x_nilCheck (.pointer (some ⟨g, 0, none⟩)) rfl ⟨_, rfl⟩ w) ?_
                      refine f_first 6 (listed' := #[true, true, true, true, true, true, true, false, false]) rfl (by kernel_rfl) (by kernel_rfl) (by kernel_rfl) rfl ?_
                      refine f_val rfl rfl rfl (by intro t_ w hw; exact x_fieldAddr 62 4 5 5 2 rfl fi_62_4 rfl w) ?_
                      refine f_first 7 (listed' := #[true, true, true, true, true, true, true, true, false]) rfl (by kernel_rfl) (by kernel_rfl) (by kernel_rfl) rfl ?_
                      refine f_val rfl rfl rfl (by intro t_ w hw; exact x_load (.int .i64 ((i64N (drS (ackS s d.ack.v) c9 h9).came).v)) ag_2 rfl (hw.blk_at (i := 0) rfl) rfl) ?_
                      refine f_all (rs := [8]) (by kernel_rfl) (by simp) ?_
                      refine a_cons ⟨_, rfl, ?_⟩ (fun x hx => absurd hx (by simp))
                      intro w141 H142
                      try dsimp only at H142
                      refine s_delete (ek := (kI .i64)) (ev := evD) (L := E121) (i64N (drS (ackS s d.ack.v) c9 h9).came) H142 (i := 6) rfl (KeyLaw.I un_2) un_60 rfl rfl ?_; intro w143 H144
                      have H145 : St W w143 (blk g (.cells #[.int .i64 ((drS (ackS s d.ack.v) c9 h9).frm.v), .int .i64 ((drS (ackS s d.ack.v) c9 h9).to_.v), .int .i64 ((drS (ackS s d.ack.v) c9 h9).slide : Int), .slice pp118 L120.length cc119, .int .i64 ((drS (ackS s d.ack.v) c9 h9).acked : Int), .int .i64 ((i64N (drS (ackS s d.ack.v) c9 h9).came).v), .map (some m117), .int .i64 ((drS (ackS s d.ack.v) c9 h9).clock : Int), .bool ((drS (ackS s d.ack.v) c9 h9).owes)] 62 (0, 0)) :: Row 79 3 (.slice pp118 L120.length cc119) L120.length (L120.flatMap bodCell) :: byA (L120.map BodD.by) :: byA (mby E121) :: Row 26 1 (.slice p O.length c) O.length (O.flatMap byCell) :: byA O :: MapA m117 (ents (kI .i64) evD (adel E121 (i64N (drS (ackS s d.ack.v) c9 h9).came))) :: (F.set i emp)) := H144
                      refine ⟨MapA m117 (ents (kI .i64) evD (adel E121 (i64N (drS (ackS s d.ack.v) c9 h9).came))) :: (F.set i emp), ?_, H145⟩
                      change FReg _ _ _ _ _ #[true, true, true, true, true, true, true, true, true] _ _
                      refine f_done (by kernel_rfl) ?_
                      intro w146 H147
                      refine g_seq ?_
                      refine g_region ?_
                      refine r_cons (s_move (.pointer (some ⟨g, 0, none⟩)) rfl rfl ?_)
                      refine r_cons (s_nilCheck (.pointer (some ⟨g, 0, none⟩)) rfl ⟨_, rfl⟩ rfl ?_)
                      refine r_cons (s_fieldAddr 62 4 5 5 2 rfl fi_62_4 rfl rfl ?_)
                      refine r_cons (s_load (.int .i64 ((i64N (drS (ackS s d.ack.v) c9 h9).came).v)) ag_2 rfl (H147.blk_at (i := 0) rfl) rfl rfl ?_)
                      refine r_cons (s_add ((c9 + 1 : Nat) : Int) rfl rfl ((wi64 (by omega)).trans (by omega)) rfl ?_)
                      refine r_cons (s_nilCheck (.pointer (some ⟨g, 0, none⟩)) rfl ⟨_, rfl⟩ rfl ?_)
                      refine r_cons (s_fieldAddr 62 4 5 5 2 rfl fi_62_4 rfl rfl ?_)
                      refine r_cons (s_store H147 0 (.int .i64 ((c9 + 1 : Nat) : Int)) rfl rfl rfl sz_2 rfl (Nat.le_of_ble_eq_true rfl) rfl (cs' := #[.int .i64 ((drS (ackS s d.ack.v) c9 h9).frm.v), .int .i64 ((drS (ackS s d.ack.v) c9 h9).to_.v), .int .i64 ((drS (ackS s d.ack.v) c9 h9).slide : Int), .slice pp118 L120.length cc119, .int .i64 ((drS (ackS s d.ack.v) c9 h9).acked : Int), .int .i64 ((c9 + 1 : Nat) : Int), .map (some m117), .int .i64 ((drS (ackS s d.ack.v) c9 h9).clock : Int), .bool ((drS (ackS s d.ack.v) c9 h9).owes)]) rfl ?_); intro w148 H149
                      refine r_nil ?_
                      refine g_region ?_
                      refine r_cons (s_move (.slice p O.length c) rfl rfl ?_)
                      refine r_cons (s_move (.slice x9.p x9.data.length x9.c) rfl rfl ?_)
                      refine r_cons (s_buildSlice H149 1 1 (cs := #[.slice x9.p x9.data.length x9.c]) #[.slice none 0 0] el_32 ze_26 (by decide) (by decide) (by kernel_rfl) rfl ?_); intro bk150 w151 H152
                      refine r_cons (s_append H152 5 rfl rfl rfl (rd_blk (H152.blk_at (i := 0) rfl) rfl (Nat.le_of_ble_eq_true rfl) (by simp [Value.oneCell'])) ap_32 (by decide) (by unfold maxLen; omega) (by omega) (n' := O.length + 1) (xs' := O.flatMap byCell ++ ([.slice x9.p x9.data.length x9.c] : List Value)) (by omega) (by first | rfl | simp) rfl ?_); intro vv153 w154 H155 hn156
                      obtain ⟨pp157, cc158, rfl⟩ := Row.slice H155 (i := 5) rfl
                      refine r_cons (s_assign (.slice pp157 (O.length + 1) cc158) rfl rfl ?_)
                      refine r_nil ?_
                      refine g_inBlock ?_
                      have H159 : St W w154 (blk bk150 (.cells #[.slice x9.p x9.data.length x9.c] 26 (0, 0)) :: blk g (.cells #[.int .i64 ((drS (ackS s d.ack.v) c9 h9).frm.v), .int .i64 ((drS (ackS s d.ack.v) c9 h9).to_.v), .int .i64 ((drS (ackS s d.ack.v) c9 h9).slide : Int), .slice pp118 L120.length cc119, .int .i64 ((drS (ackS s d.ack.v) c9 h9).acked : Int), .int .i64 ((i64N (c9 + 1)).v), .map (some m117), .int .i64 ((drS (ackS s d.ack.v) c9 h9).clock : Int), .bool ((drS (ackS s d.ack.v) c9 h9).owes)] 62 (0, 0)) :: Row 79 3 (.slice pp118 L120.length cc119) L120.length (L120.flatMap bodCell) :: byA (L120.map BodD.by) :: byA (mby E121) :: Row 26 1 (.slice pp157 ((O ++ [x9]).length) cc158) ((O ++ [x9]).length) ((O ++ [x9]).flatMap byCell) :: byA O :: MapA m117 (ents (kI .i64) evD (adel E121 (i64N (drS (ackS s d.ack.v) c9 h9).came))) :: (F.set i emp)) := by rw [i64N_v (n := c9 + 1) (by omega), flat_app, flat_one, List.length_append]; exact H155
                      have H160 : St W w154 (Im 1 (.slice x9.p x9.data.length x9.c) x9.data.length (x9.data.flatMap u8c) :: blk bk150 (.cells #[.slice x9.p x9.data.length x9.c] 26 (0, 0)) :: blk g (.cells #[.int .i64 ((drS (ackS s d.ack.v) c9 h9).frm.v), .int .i64 ((drS (ackS s d.ack.v) c9 h9).to_.v), .int .i64 ((drS (ackS s d.ack.v) c9 h9).slide : Int), .slice pp118 L120.length cc119, .int .i64 ((drS (ackS s d.ack.v) c9 h9).acked : Int), .int .i64 ((i64N (c9 + 1)).v), .map (some m117), .int .i64 ((drS (ackS s d.ack.v) c9 h9).clock : Int), .bool ((drS (ackS s d.ack.v) c9 h9).owes)] 62 (0, 0)) :: Row 79 3 (.slice pp118 L120.length cc119) L120.length (L120.flatMap bodCell) :: byA (L120.map BodD.by) :: byA (mby E121) :: Row 26 1 (.slice pp157 ((O ++ [x9]).length) cc158) ((O ++ [x9]).length) ((O ++ [x9]).flatMap byCell) :: byA O :: MapA m117 (ents (kI .i64) evD (adel E121 (i64N (drS (ackS s d.ack.v) c9 h9).came))) :: (F.set i emp)) := byA_at H159 (i := 4) rfl (mby_get hx9)
                      have H161 := byA_add (x := x9) H160 (i := 7) (j := 0) rfl rfl snoc_b
                      have H162 := byA_sub (M := mby (adel E121 (i64N (drS (ackS s d.ack.v) c9 h9).came))) H161 (i := 6) rfl mby_del
                      have H163 : St W w154 (blk g (.cells #[.int .i64 ((drS (ackS s d.ack.v) c9 h9).frm.v), .int .i64 ((drS (ackS s d.ack.v) c9 h9).to_.v), .int .i64 ((drS (ackS s d.ack.v) c9 h9).slide : Int), .slice pp118 L120.length cc119, .int .i64 ((drS (ackS s d.ack.v) c9 h9).acked : Int), .int .i64 ((i64N (c9 + 1)).v), .map (some m117), .int .i64 ((drS (ackS s d.ack.v) c9 h9).clock : Int), .bool ((drS (ackS s d.ack.v) c9 h9).owes)] 62 (0, 0)) :: Row 79 3 (.slice pp118 L120.length cc119) L120.length (L120.flatMap bodCell) :: byA (L120.map BodD.by) :: MapA m117 (ents (kI .i64) evD (adel E121 (i64N (drS (ackS s d.ack.v) c9 h9).came))) :: byA (mby (adel E121 (i64N (drS (ackS s d.ack.v) c9 h9).came))) :: byA (O ++ [x9]) :: Im 1 (.slice x9.p x9.data.length x9.c) x9.data.length (x9.data.flatMap u8c) :: blk bk150 (.cells #[.slice x9.p x9.data.length x9.c] 26 (0, 0)) :: byA (mby E121) :: Row 26 1 (.slice pp157 ((O ++ [x9]).length) cc158) ((O ++ [x9]).length) ((O ++ [x9]).flatMap byCell) :: byA O :: (F.set i emp)) := ((((H162.move 10 rfl).move 7 rfl).move 7 rfl).move 7 rfl)
                      have H164 : St W w154 (LkA g (drS (ackS s d.ack.v) (c9 + 1) (adel h9 (i64N c9))) :: byA (O ++ [x9]) :: Im 1 (.slice x9.p x9.data.length x9.c) x9.data.length (x9.data.flatMap u8c) :: blk bk150 (.cells #[.slice x9.p x9.data.length x9.c] 26 (0, 0)) :: byA (mby E121) :: Row 26 1 (.slice pp157 ((O ++ [x9]).length) cc158) ((O ++ [x9]).length) ((O ++ [x9]).flatMap byCell) :: byA O :: (F.set i emp)) := St.shut_ex ⟨(m117, pp118, cc119, L120, (adel E121 (i64N (drS (ackS s d.ack.v) c9 h9).came))), hL122, (show mapB (adel E121 (i64N (drS (ackS s d.ack.v) c9 h9).came)) = adel h9 (i64N c9) from mapB_del hE123 _)⟩ (St.shut_star (ls := [blk g (.cells #[.int .i64 ((drS (ackS s d.ack.v) c9 h9).frm.v), .int .i64 ((drS (ackS s d.ack.v) c9 h9).to_.v), .int .i64 ((drS (ackS s d.ack.v) c9 h9).slide : Int), .slice pp118 L120.length cc119, .int .i64 ((drS (ackS s d.ack.v) c9 h9).acked : Int), .int .i64 ((i64N (c9 + 1)).v), .map (some m117), .int .i64 ((drS (ackS s d.ack.v) c9 h9).clock : Int), .bool ((drS (ackS s d.ack.v) c9 h9).owes)] 62 (0, 0)), Row 79 3 (.slice pp118 L120.length cc119) L120.length (L120.flatMap bodCell), byA (L120.map BodD.by), MapA m117 (ents (kI .i64) evD (adel E121 (i64N (drS (ackS s d.ack.v) c9 h9).came))), byA (mby (adel E121 (i64N (drS (ackS s d.ack.v) c9 h9).came)))]) H163)
                      have H165 : St W w154 (Row 26 1 (.slice pp157 ((O ++ [x9]).length) cc158) ((O ++ [x9]).length) ((O ++ [x9]).flatMap byCell) :: byA (O ++ [x9]) :: LkA g (drS (ackS s d.ack.v) (c9 + 1) (adel h9 (i64N c9))) :: (F.set i emp)) := ((((((H164.move 1 rfl).move 5 rfl).drop 3 rfl).drop 3 rfl).drop 3 rfl).drop 3 rfl)
                      exact nx115 (c9 + 1, adel h9 (i64N c9), (O ++ [x9]), pp157, cc158) _ _ ⟨(by rw [List.map_append]; exact hDr.step hg9), (by omega), (fun x hx => hh9 x (adel_sub hx)), (by rw [List.length_append]; have := adel_len (has_of_get hg9); simp only [List.length_cons, List.length_nil]; omega), H165⟩ (by first | (dsimp only; (have := adel_len (has_of_get hg9); omega)) | (have := adel_len (has_of_get hg9); omega)) ⟨by first | rfl | exact vint (by omega), by first | rfl | exact vint (by omega), by first | rfl | exact vint (by omega), by first | rfl | (show Value.slice _ _ _ = _; rw [List.length_append]; rfl), trivial⟩
            · skip
              refine r_cons (s_neq true rfl rfl (nfalse hc48) rfl ?_)
              refine r_nil ?_
              refine g_true rfl ?_
              refine g_seq ?_
              refine g_region ?_
              refine r_cons (s_assign (.slice none 0 0) rfl rfl ?_)
              refine r_cons (s_assign (.int .i64 0) rfl rfl ?_)
              refine r_nil ?_
              refine g_ret' [.slice none 0 0, .int .i64 0] Try.func21 Try.results21 ⟨rfl, rfl, trivial⟩ ?_
              have H166 := Row.nil_intro H46 26 1
              have H167 := byA_nil H166
              have H168 : St W w45 (Row 26 1 (.slice none 0 0) 0 [] :: byA ([] : List BytesD) :: LkA g (ackS s d.ack.v) :: blk bk7 (.cells #[.int .i64 d.frm.v, .int .i64 d.to_.v, .int .i64 d.kind.v, .int .i64 d.seq.v, .int .i64 d.ack.v, .slice pp1 d.body.length cc2] 41 (0, 0)) :: Im 1 (.slice pp1 d.body.length cc2) d.body.length (d.body.flatMap u8c) :: (F.set i emp)) := (H167.move 1 rfl)
              have hT9 : takeT s d = [] := takeT_no (fun h => by omega)
              have H169 : St W w45 (BysA none 0 (takeT s d) :: LkA g (ackS s d.ack.v) :: blk bk7 (.cells #[.int .i64 d.frm.v, .int .i64 d.to_.v, .int .i64 d.kind.v, .int .i64 d.seq.v, .int .i64 d.ack.v, .slice pp1 d.body.length cc2] 41 (0, 0)) :: Im 1 (.slice pp1 d.body.length cc2) d.body.length (d.body.flatMap u8c) :: (F.set i emp)) := by rw [hT9]; exact St.shut_ex ⟨[], rfl⟩ (St.shut_star (ls := [Row 26 1 (.slice none 0 0) 0 [], byA ([] : List BytesD)]) H168)
              have H170 : St W w45 (BysA none 0 (takeT s d) :: LkA g (takeS s d) :: blk bk7 (.cells #[.int .i64 d.frm.v, .int .i64 d.to_.v, .int .i64 d.kind.v, .int .i64 d.seq.v, .int .i64 d.ack.v, .slice pp1 d.body.length cc2] 41 (0, 0)) :: Im 1 (.slice pp1 d.body.length cc2) d.body.length (d.body.flatMap u8c) :: (F.set i emp)) := by rw [takeS_ack hE (by omega)]; exact H169
              have H171 : St W w45 (BysA none 0 (takeT s d) :: LkA g (takeS s d) :: (F.set i emp)) := ((((H170.move 1 rfl).move 1 rfl).drop 2 rfl).drop 2 rfl)
              have H172 : St W w45 (LkA g (takeS s d) :: (BysA none 0 (takeT s d) :: F).set (i + 1) emp) := (H171.move 1 rfl)
              exact ⟨none, 0, by rw [hE, hT9]; rfl, St.back (i := i + 1) (by exact hi) H172⟩
          · intro join44
            refine g_true rfl ?_
            refine g_seq ?_
            refine g_region ?_
            refine r_cons (s_move (.pointer (some ⟨g, 0, none⟩)) rfl rfl ?_)
            refine r_cons (s_move (.pointer (some ⟨g, 0, none⟩)) rfl rfl ?_)
            refine r_cons (s_nilCheck (.pointer (some ⟨g, 0, none⟩)) rfl ⟨_, rfl⟩ rfl ?_)
            refine r_cons (s_fieldAddr 62 2 3 3 59 rfl fi_62_2 rfl rfl ?_)
            have H173 : St W w41 (blk g (.cells #[.int .i64 s.frm.v, .int .i64 s.to_.v, .int .i64 (s.slide : Int), .slice pp17 L19.length cc18, .int .i64 (s.acked : Int), .int .i64 ((i64N s.came).v), .map (some m16), .int .i64 (s.clock : Int), .bool s.owes] 62 (0, 0)) :: Im 3 (.slice pp17 L19.length cc18) L19.length (L19.flatMap bodCell) :: byA (L19.map BodD.by) :: MapA m16 (ents (kI .i64) evD E20) :: byA (mby E20) :: blk bk7 (.cells #[.int .i64 d.frm.v, .int .i64 d.to_.v, .int .i64 d.kind.v, .int .i64 d.seq.v, .int .i64 d.ack.v, .slice pp1 d.body.length cc2] 41 (0, 0)) :: Im 1 (.slice pp1 d.body.length cc2) d.body.length (d.body.flatMap u8c) :: (F.set i emp)) := Row.im H42 (i := 1) rfl
            refine r_cons (s_load (.slice pp17 L19.length cc18) ag_59 rfl (H173.blk_at (i := 0) rfl) rfl rfl ?_)
            refine r_cons (s_move (.int .i64 (d.ack.v - (s.acked : Int))) rfl rfl ?_)
            have hc174 := Im.cap H173 (i := 1) rfl
            refine r_cons (s_slice_l pp17 (d.ack.v - (s.acked : Int)) 3 (.slice (cutAt pp17 ((d.ack.v - (s.acked : Int)).toNat) cc18 3) (L19.length - ((d.ack.v - (s.acked : Int)).toNat)) (cc18 - ((d.ack.v - (s.acked : Int)).toNat))) rfl rfl el_59 (by omega) (by first | rfl | (congr 1; omega)) rfl ?_)
            have H175 : St W w41 (Im 3 (.slice (cutAt pp17 ((d.ack.v - (s.acked : Int)).toNat) cc18 3) (L19.length - ((d.ack.v - (s.acked : Int)).toNat)) (cc18 - ((d.ack.v - (s.acked : Int)).toNat))) (L19.length - ((d.ack.v - (s.acked : Int)).toNat)) ((L19.drop ((d.ack.v - (s.acked : Int)).toNat)).flatMap bodCell) :: blk g (.cells #[.int .i64 s.frm.v, .int .i64 s.to_.v, .int .i64 (s.slide : Int), .slice pp17 L19.length cc18, .int .i64 (s.acked : Int), .int .i64 ((i64N s.came).v), .map (some m16), .int .i64 (s.clock : Int), .bool s.owes] 62 (0, 0)) :: Im 3 (.slice pp17 L19.length cc18) L19.length (L19.flatMap bodCell) :: byA (L19.map BodD.by) :: MapA m16 (ents (kI .i64) evD E20) :: byA (mby E20) :: blk bk7 (.cells #[.int .i64 d.frm.v, .int .i64 d.to_.v, .int .i64 d.kind.v, .int .i64 d.seq.v, .int .i64 d.ack.v, .slice pp1 d.body.length cc2] 41 (0, 0)) :: Im 1 (.slice pp1 d.body.length cc2) d.body.length (d.body.flatMap u8c) :: (F.set i emp)) := Im.cutN_l bodCell_len (by decide) ((d.ack.v - (s.acked : Int)).toNat) H173 (i := 1) rfl (by omega)
            refine r_cons (s_call [.slice (cutAt pp17 ((d.ack.v - (s.acked : Int)).toNat) cc18 3) (L19.length - ((d.ack.v - (s.acked : Int)).toNat)) (cc18 - ((d.ack.v - (s.acked : Int)).toNat))] pl_47 rfl rfl (clone_bodies _ _ (L19.length - ((d.ack.v - (s.acked : Int)).toNat)) ((L19.drop ((d.ack.v - (s.acked : Int)).toNat)).flatMap bodCell) RdA.im (by omega) (j := 0) rfl H175) ?_)
            rintro _ w178 ⟨pp176, cc177, rfl, H179⟩
            refine r_cons (s_nilCheck (.pointer (some ⟨g, 0, none⟩)) rfl ⟨_, rfl⟩ rfl ?_)
            refine r_cons (s_fieldAddr 62 2 3 3 59 rfl fi_62_2 rfl rfl ?_)
            refine r_cons (s_store H179 2 (.slice pp176 (L19.length - ((d.ack.v - (s.acked : Int)).toNat)) cc177) rfl rfl rfl sz_59 rfl (Nat.le_of_ble_eq_true rfl) rfl (cs' := #[.int .i64 s.frm.v, .int .i64 s.to_.v, .int .i64 (s.slide : Int), .slice pp176 (L19.length - ((d.ack.v - (s.acked : Int)).toNat)) cc177, .int .i64 (s.acked : Int), .int .i64 ((i64N s.came).v), .map (some m16), .int .i64 (s.clock : Int), .bool s.owes]) rfl ?_); intro w180 H181
            refine r_nil ?_
            refine g_region ?_
            refine r_cons (s_move (.pointer (some ⟨g, 0, none⟩)) rfl rfl ?_)
            refine r_cons (s_fieldAddr 41 4 4 4 2 rfl fi_41_4 rfl rfl ?_)
            refine r_cons (s_load (.int .i64 d.ack.v) ag_2 rfl (H181.blk_at (i := 7) rfl) rfl rfl ?_)
            refine r_cons (s_nilCheck (.pointer (some ⟨g, 0, none⟩)) rfl ⟨_, rfl⟩ rfl ?_)
            refine r_cons (s_fieldAddr 62 3 4 4 2 rfl fi_62_3 rfl rfl ?_)
            refine r_cons (s_store H181 2 (.int .i64 d.ack.v) rfl rfl rfl sz_2 rfl (Nat.le_of_ble_eq_true rfl) rfl (cs' := #[.int .i64 s.frm.v, .int .i64 s.to_.v, .int .i64 (s.slide : Int), .slice pp176 (L19.length - ((d.ack.v - (s.acked : Int)).toNat)) cc177, .int .i64 d.ack.v, .int .i64 ((i64N s.came).v), .map (some m16), .int .i64 (s.clock : Int), .bool s.owes]) rfl ?_); intro w182 H183
            refine r_nil ?_
            have ha9 : ((d.ack.v.toNat : Nat) : Int) = d.ack.v := by omega
            have ha8 := ackS_pos (s := s) (d := d) (by omega)
            have H184 : St W w182 (Row 79 3 (.slice pp176 ((L19.drop (d.ack.v - (s.acked : Int)).toNat).length) cc177) ((L19.drop (d.ack.v - (s.acked : Int)).toNat).length) ((L19.drop (d.ack.v - (s.acked : Int)).toNat).flatMap bodCell) :: Im 3 (.slice (cutAt pp17 ((d.ack.v - (s.acked : Int)).toNat) cc18 3) (L19.length - ((d.ack.v - (s.acked : Int)).toNat)) (cc18 - ((d.ack.v - (s.acked : Int)).toNat))) (L19.length - ((d.ack.v - (s.acked : Int)).toNat)) ((L19.drop ((d.ack.v - (s.acked : Int)).toNat)).flatMap bodCell) :: blk g (.cells #[.int .i64 s.frm.v, .int .i64 s.to_.v, .int .i64 (s.slide : Int), .slice pp176 ((L19.drop (d.ack.v - (s.acked : Int)).toNat).length) cc177, .int .i64 ((d.ack.v.toNat : Nat) : Int), .int .i64 ((i64N s.came).v), .map (some m16), .int .i64 (s.clock : Int), .bool s.owes] 62 (0, 0)) :: Im 3 (.slice pp17 L19.length cc18) L19.length (L19.flatMap bodCell) :: byA (L19.map BodD.by) :: MapA m16 (ents (kI .i64) evD E20) :: byA (mby E20) :: blk bk7 (.cells #[.int .i64 d.frm.v, .int .i64 d.to_.v, .int .i64 d.kind.v, .int .i64 d.seq.v, .int .i64 d.ack.v, .slice pp1 d.body.length cc2] 41 (0, 0)) :: Im 1 (.slice pp1 d.body.length cc2) d.body.length (d.body.flatMap u8c) :: (F.set i emp)) := by rw [List.length_drop, ha9]; exact H183
            have H185 := byA_sub (M := (L19.drop (d.ack.v - (s.acked : Int)).toNat).map BodD.by) H184 (i := 4) rfl drop_by
            have H186 : St W w182 (blk g (.cells #[.int .i64 s.frm.v, .int .i64 s.to_.v, .int .i64 (s.slide : Int), .slice pp176 ((L19.drop (d.ack.v - (s.acked : Int)).toNat).length) cc177, .int .i64 ((d.ack.v.toNat : Nat) : Int), .int .i64 ((i64N s.came).v), .map (some m16), .int .i64 (s.clock : Int), .bool s.owes] 62 (0, 0)) :: Row 79 3 (.slice pp176 ((L19.drop (d.ack.v - (s.acked : Int)).toNat).length) cc177) ((L19.drop (d.ack.v - (s.acked : Int)).toNat).length) ((L19.drop (d.ack.v - (s.acked : Int)).toNat).flatMap bodCell) :: byA ((L19.drop (d.ack.v - (s.acked : Int)).toNat).map BodD.by) :: MapA m16 (ents (kI .i64) evD E20) :: byA (mby E20) :: Im 3 (.slice (cutAt pp17 ((d.ack.v - (s.acked : Int)).toNat) cc18 3) (L19.length - ((d.ack.v - (s.acked : Int)).toNat)) (cc18 - ((d.ack.v - (s.acked : Int)).toNat))) (L19.length - ((d.ack.v - (s.acked : Int)).toNat)) ((L19.drop ((d.ack.v - (s.acked : Int)).toNat)).flatMap bodCell) :: Im 3 (.slice pp17 L19.length cc18) L19.length (L19.flatMap bodCell) :: byA (L19.map BodD.by) :: blk bk7 (.cells #[.int .i64 d.frm.v, .int .i64 d.to_.v, .int .i64 d.kind.v, .int .i64 d.seq.v, .int .i64 d.ack.v, .slice pp1 d.body.length cc2] 41 (0, 0)) :: Im 1 (.slice pp1 d.body.length cc2) d.body.length (d.body.flatMap u8c) :: (F.set i emp)) := (((((H185.move 7 rfl).move 7 rfl).move 2 rfl).move 3 rfl).move 5 rfl)
            have H187 : St W w182 (LkA g ({ s with l := s.l.drop (d.ack.v - (s.acked : Int)).toNat, acked := d.ack.v.toNat } : EndV) :: Im 3 (.slice (cutAt pp17 ((d.ack.v - (s.acked : Int)).toNat) cc18 3) (L19.length - ((d.ack.v - (s.acked : Int)).toNat)) (cc18 - ((d.ack.v - (s.acked : Int)).toNat))) (L19.length - ((d.ack.v - (s.acked : Int)).toNat)) ((L19.drop ((d.ack.v - (s.acked : Int)).toNat)).flatMap bodCell) :: Im 3 (.slice pp17 L19.length cc18) L19.length (L19.flatMap bodCell) :: byA (L19.map BodD.by) :: blk bk7 (.cells #[.int .i64 d.frm.v, .int .i64 d.to_.v, .int .i64 d.kind.v, .int .i64 d.seq.v, .int .i64 d.ack.v, .slice pp1 d.body.length cc2] 41 (0, 0)) :: Im 1 (.slice pp1 d.body.length cc2) d.body.length (d.body.flatMap u8c) :: (F.set i emp)) := St.shut_ex ⟨(m16, pp176, cc177, (L19.drop (d.ack.v - (s.acked : Int)).toNat), E20), (show (L19.drop (d.ack.v - (s.acked : Int)).toNat).map BodD.v = s.l.drop (d.ack.v - (s.acked : Int)).toNat from by rw [List.map_drop, hL21]), hE22⟩ (St.shut_star (ls := [blk g (.cells #[.int .i64 s.frm.v, .int .i64 s.to_.v, .int .i64 (s.slide : Int), .slice pp176 ((L19.drop (d.ack.v - (s.acked : Int)).toNat).length) cc177, .int .i64 ((d.ack.v.toNat : Nat) : Int), .int .i64 ((i64N s.came).v), .map (some m16), .int .i64 (s.clock : Int), .bool s.owes] 62 (0, 0)), Row 79 3 (.slice pp176 ((L19.drop (d.ack.v - (s.acked : Int)).toNat).length) cc177) ((L19.drop (d.ack.v - (s.acked : Int)).toNat).length) ((L19.drop (d.ack.v - (s.acked : Int)).toNat).flatMap bodCell), byA ((L19.drop (d.ack.v - (s.acked : Int)).toNat).map BodD.by), MapA m16 (ents (kI .i64) evD E20), byA (mby E20)]) H186)
            have H188 : St W w182 (LkA g (ackS s d.ack.v) :: Im 3 (.slice (cutAt pp17 ((d.ack.v - (s.acked : Int)).toNat) cc18 3) (L19.length - ((d.ack.v - (s.acked : Int)).toNat)) (cc18 - ((d.ack.v - (s.acked : Int)).toNat))) (L19.length - ((d.ack.v - (s.acked : Int)).toNat)) ((L19.drop ((d.ack.v - (s.acked : Int)).toNat)).flatMap bodCell) :: Im 3 (.slice pp17 L19.length cc18) L19.length (L19.flatMap bodCell) :: byA (L19.map BodD.by) :: blk bk7 (.cells #[.int .i64 d.frm.v, .int .i64 d.to_.v, .int .i64 d.kind.v, .int .i64 d.seq.v, .int .i64 d.ack.v, .slice pp1 d.body.length cc2] 41 (0, 0)) :: Im 1 (.slice pp1 d.body.length cc2) d.body.length (d.body.flatMap u8c) :: (F.set i emp)) := by rw [ha8]; exact H187
            have H189 : St W w182 (LkA g (ackS s d.ack.v) :: blk bk7 (.cells #[.int .i64 d.frm.v, .int .i64 d.to_.v, .int .i64 d.kind.v, .int .i64 d.seq.v, .int .i64 d.ack.v, .slice pp1 d.body.length cc2] 41 (0, 0)) :: Im 1 (.slice pp1 d.body.length cc2) d.body.length (d.body.flatMap u8c) :: (F.set i emp)) := ((((((H188.move 5 rfl).move 5 rfl).move 2 rfl).drop 3 rfl).drop 3 rfl).drop 3 rfl)
            exact join44 (()) _ _ ⟨trivial, H189⟩ ⟨by first | rfl | exact vint (by omega), by first | rfl | exact vint (by omega), by first | rfl | exact vint (by omega), by first | rfl | exact vint (by omega), trivial⟩
        · skip
          refine r_cons (s_gtr false rfl rfl (dfalse hc43) rfl ?_)
          refine r_nil ?_
          refine g_cut (fun (x_ : Unit) => match x_ with | z_ => [(0, .pointer (some ⟨g, 0, none⟩)), (3, .pointer (some ⟨bk7, 0, none⟩)), (4, .slice none 0 0), (5, .int .i64 0)]) (fun (x_ : Unit) w => match x_ with | z_ => (True) ∧ St W w (LkA g (ackS s d.ack.v) :: blk bk7 (.cells #[.int .i64 d.frm.v, .int .i64 d.to_.v, .int .i64 d.kind.v, .int .i64 d.seq.v, .int .i64 d.ack.v, .slice pp1 d.body.length cc2] 41 (0, 0)) :: Im 1 (.slice pp1 d.body.length cc2) d.body.length (d.body.flatMap u8c) :: (F.set i emp))) ?_ ?_
          · rintro z_ ρ193 w191 ⟨hz_, H192⟩
            change Ends _ _ (upds ρ193 [(0, .pointer (some ⟨g, 0, none⟩)), (3, .pointer (some ⟨bk7, 0, none⟩)), (4, .slice none 0 0), (5, .int .i64 0)]) w191
            have hca := ackS_came s d.ack.v; have hhe := ackS_held s d.ack.v; have hcy : (i64N (ackS s d.ack.v).came).v = (s.came : Int) := by rw [hca]; exact o7
            refine g_seq ?_
            refine g_seq ?_
            refine g_region ?_
            refine r_cons (s_fieldAddr 41 2 2 2 3 rfl fi_41_2 rfl rfl ?_)
            refine r_cons (s_load (.int .i64 d.kind.v) ag_3 rfl (H192.blk_at (i := 1) rfl) rfl rfl ?_)
            by_cases hc194 : d.kind.v = 1
            · skip
              refine r_cons (s_neq false rfl rfl (ntrue hc194) rfl ?_)
              refine r_nil ?_
              refine g_false rfl ?_
              refine g_skip ?_
              refine g_seq ?_
              refine g_region ?_
              refine r_cons (s_move (.pointer (some ⟨g, 0, none⟩)) rfl rfl ?_)
              have hk1 : d.kind.v = 1 := by omega
              have H195 := H192.move 0 rfl
              obtain ⟨⟨⟨m196, pp197, cc198, L199, E200⟩, hL201, hE202⟩, H203⟩ := St.open_ex H195
              have H204 := St.open_star H203
              change L199.map BodD.v = (ackS s d.ack.v).l at hL201; change mapB E200 = (ackS s d.ack.v).held at hE202
              have hl205 := lenOf hL201; have he206 := mapB_len hE202
              have H207 : St W w191 (blk g (.cells #[.int .i64 ((ackS s d.ack.v).frm.v), .int .i64 ((ackS s d.ack.v).to_.v), .int .i64 ((ackS s d.ack.v).slide : Int), .slice pp197 L199.length cc198, .int .i64 ((ackS s d.ack.v).acked : Int), .int .i64 ((i64N (ackS s d.ack.v).came).v), .map (some m196), .int .i64 ((ackS s d.ack.v).clock : Int), .bool ((ackS s d.ack.v).owes)] 62 (0, 0)) :: Row 79 3 (.slice pp197 L199.length cc198) L199.length (L199.flatMap bodCell) :: byA (L199.map BodD.by) :: MapA m196 (ents (kI .i64) evD E200) :: byA (mby E200) :: blk bk7 (.cells #[.int .i64 d.frm.v, .int .i64 d.to_.v, .int .i64 d.kind.v, .int .i64 d.seq.v, .int .i64 d.ack.v, .slice pp1 d.body.length cc2] 41 (0, 0)) :: Im 1 (.slice pp1 d.body.length cc2) d.body.length (d.body.flatMap u8c) :: (F.set i emp)) := H204
              refine r_cons (s_nilCheck (.pointer (some ⟨g, 0, none⟩)) rfl ⟨_, rfl⟩ rfl ?_)
              refine r_cons (s_fieldAddr 62 7 8 8 4 rfl fi_62_7 rfl rfl ?_)
              refine r_cons (s_store H207 0 (.bool true) rfl rfl rfl sz_4 rfl (Nat.le_of_ble_eq_true rfl) rfl (cs' := #[.int .i64 ((ackS s d.ack.v).frm.v), .int .i64 ((ackS s d.ack.v).to_.v), .int .i64 ((ackS s d.ack.v).slide : Int), .slice pp197 L199.length cc198, .int .i64 ((ackS s d.ack.v).acked : Int), .int .i64 ((i64N (ackS s d.ack.v).came).v), .map (some m196), .int .i64 ((ackS s d.ack.v).clock : Int), .bool true]) rfl ?_); intro w208 H209
              refine r_nil ?_
              refine g_seq ?_
              refine g_seq ?_
              refine g_quiet (fun w' => St W w' (blk g (.cells #[.int .i64 ((ackS s d.ack.v).frm.v), .int .i64 ((ackS s d.ack.v).to_.v), .int .i64 ((ackS s d.ack.v).slide : Int), .slice pp197 L199.length cc198, .int .i64 ((ackS s d.ack.v).acked : Int), .int .i64 ((i64N (ackS s d.ack.v).came).v), .map (some m196), .int .i64 ((ackS s d.ack.v).clock : Int), .bool true] 62 (0, 0)) :: Row 79 3 (.slice pp197 L199.length cc198) L199.length (L199.flatMap bodCell) :: byA (L199.map BodD.by) :: MapA m196 (ents (kI .i64) evD E200) :: byA (mby E200) :: blk bk7 (.cells #[.int .i64 d.frm.v, .int .i64 d.to_.v, .int .i64 d.kind.v, .int .i64 d.seq.v, .int .i64 d.ack.v, .slice pp1 d.body.length cc2] 41 (0, 0)) :: Im 1 (.slice pp1 d.body.length cc2) d.body.length (d.body.flatMap u8c) :: (F.set i emp))) mixed (by kernel_rfl) H209.drew ?_
              refine q_cons (q_val rfl rfl rfl (by intro w hw; exact x_move (.pointer (some ⟨g, 0, none⟩)) rfl w) ?_)
              refine q_cons (q_val rfl rfl rfl (by intro w hw; exact x_nilCheck (.pointer (some ⟨g, 0, none⟩)) rfl ⟨_, rfl⟩ w) ?_)
              refine q_cons (q_val rfl rfl rfl (by intro w hw; exact x_fieldAddr 62 5 6 6 60 rfl fi_62_5 rfl w) ?_)
              refine q_cons (q_val rfl rfl rfl (by intro w hw; exact x_load (.map (some m196)) ag_60 rfl (hw.blk_at (i := 0) rfl) rfl) ?_)
              refine q_cons (q_val rfl rfl rfl (by intro w hw; exact x_fieldAddr 41 3 3 3 2 rfl fi_41_3 rfl w) ?_)
              refine q_cons (q_val rfl rfl rfl (by intro w hw; exact x_load (.int .i64 d.seq.v) ag_2 rfl (hw.blk_at (i := 5) rfl) rfl) ?_)
              refine q_cons (q_val rfl rfl rfl (by intro w hw; exact x_lookup2 (ek := (kI .i64)) (ev := evD) (L := E200) d.seq ((lookV evD (.slice none 0 0) E200 d.seq)) (ahas E200 d.seq) (MapA.at hw (i := 3) rfl) (KeyLaw.I un_2) un_60 zv_26 rfl rfl (rfl) rfl) ?_)
              refine q_cons (q_val rfl rfl rfl (by intro w hw; exact x_move (.tuple #[(lookV evD (.slice none 0 0) E200 d.seq), .bool (ahas E200 d.seq)]) rfl w) ?_)
              refine q_cons (q_val rfl rfl rfl (by intro w hw; exact x_extract ((lookV evD (.slice none 0 0) E200 d.seq)) #[(lookV evD (.slice none 0 0) E200 d.seq), .bool (ahas E200 d.seq)] rfl rfl w) ?_)
              refine q_cons (q_val rfl rfl rfl (by intro w hw; exact x_extract (.bool (ahas E200 d.seq)) #[(lookV evD (.slice none 0 0) E200 d.seq), .bool (ahas E200 d.seq)] rfl rfl w) ?_)
              refine q_cons (q_val rfl rfl rfl (by intro w hw; exact x_assign ((lookV evD (.slice none 0 0) E200 d.seq)) rfl w) ?_)
              refine q_cons (q_val rfl rfl rfl (by intro w hw; exact x_assign (.bool (ahas E200 d.seq)) rfl w) ?_)
              refine q_nil ?_
              intro w210 H211
              refine g_seq ?_
              refine g_quiet (fun w' => St W w' (blk g (.cells #[.int .i64 ((ackS s d.ack.v).frm.v), .int .i64 ((ackS s d.ack.v).to_.v), .int .i64 ((ackS s d.ack.v).slide : Int), .slice pp197 L199.length cc198, .int .i64 ((ackS s d.ack.v).acked : Int), .int .i64 ((i64N (ackS s d.ack.v).came).v), .map (some m196), .int .i64 ((ackS s d.ack.v).clock : Int), .bool true] 62 (0, 0)) :: Row 79 3 (.slice pp197 L199.length cc198) L199.length (L199.flatMap bodCell) :: byA (L199.map BodD.by) :: MapA m196 (ents (kI .i64) evD E200) :: byA (mby E200) :: blk bk7 (.cells #[.int .i64 d.frm.v, .int .i64 d.to_.v, .int .i64 d.kind.v, .int .i64 d.seq.v, .int .i64 d.ack.v, .slice pp1 d.body.length cc2] 41 (0, 0)) :: Im 1 (.slice pp1 d.body.length cc2) d.body.length (d.body.flatMap u8c) :: (F.set i emp))) mixed (by kernel_rfl) H211.drew ?_
              refine q_cons (q_val rfl rfl rfl (by intro w hw; exact x_fieldAddr 41 3 3 3 2 rfl fi_41_3 rfl w) ?_)
              refine q_cons (q_val rfl rfl rfl (by intro w hw; exact x_load (.int .i64 d.seq.v) ag_2 rfl (hw.blk_at (i := 5) rfl) rfl) ?_)
              refine q_cons (q_val rfl rfl rfl (by intro w hw; exact x_move (.pointer (some ⟨g, 0, none⟩)) rfl w) ?_)
              refine q_cons (q_val rfl rfl rfl (by intro w hw; exact x_nilCheck (.pointer (some ⟨g, 0, none⟩)) rfl ⟨_, rfl⟩ w) ?_)
              refine q_cons (q_val rfl rfl rfl (by intro w hw; exact x_fieldAddr 62 4 5 5 2 rfl fi_62_4 rfl w) ?_)
              refine q_cons (q_val rfl rfl rfl (by intro w hw; exact x_load (.int .i64 ((i64N (ackS s d.ack.v).came).v)) ag_2 rfl (hw.blk_at (i := 0) rfl) rfl) ?_)
              by_cases hc212 : d.seq.v < (i64N (ackS s d.ack.v).came).v
              · skip
                refine q_cons (q_val rfl rfl rfl (by intro w hw; exact x_lss true rfl rfl (dtrue hc212) w) ?_)
                refine q_cons (q_val rfl rfl rfl (by intro w hw; exact x_move (.bool true) rfl w) ?_)
                refine q_cons (q_pass rfl rfl rfl rfl rfl ?_)
                refine q_cons (q_val rfl rfl rfl (by intro w hw; exact x_pick_t (.bool true) rfl rfl w) ?_)
                refine q_nil ?_
                intro w213 H214
                refine g_true rfl ?_
                refine g_seq ?_
                refine g_region ?_
                refine r_cons (s_assign (.slice none 0 0) rfl rfl ?_)
                refine r_cons (s_assign (.int .i64 0) rfl rfl ?_)
                refine r_nil ?_
                refine g_ret' [.slice none 0 0, .int .i64 0] Try.func21 Try.results21 ⟨rfl, rfl, trivial⟩ ?_
                have H215 : St W w213 (LkA g ({ ackS s d.ack.v with owes := true } : EndV) :: blk bk7 (.cells #[.int .i64 d.frm.v, .int .i64 d.to_.v, .int .i64 d.kind.v, .int .i64 d.seq.v, .int .i64 d.ack.v, .slice pp1 d.body.length cc2] 41 (0, 0)) :: Im 1 (.slice pp1 d.body.length cc2) d.body.length (d.body.flatMap u8c) :: (F.set i emp)) := St.shut_ex ⟨(m196, pp197, cc198, L199, E200), hL201, hE202⟩ (St.shut_star (ls := [blk g (.cells #[.int .i64 ((ackS s d.ack.v).frm.v), .int .i64 ((ackS s d.ack.v).to_.v), .int .i64 ((ackS s d.ack.v).slide : Int), .slice pp197 L199.length cc198, .int .i64 ((ackS s d.ack.v).acked : Int), .int .i64 ((i64N (ackS s d.ack.v).came).v), .map (some m196), .int .i64 ((ackS s d.ack.v).clock : Int), .bool true] 62 (0, 0)), Row 79 3 (.slice pp197 L199.length cc198) L199.length (L199.flatMap bodCell), byA (L199.map BodD.by), MapA m196 (ents (kI .i64) evD E200), byA (mby E200)]) H214)
                have hC : takeC s d = ([], s.came, s.held) := takeC_no (by first | exact .inl (by omega) | (right; rw [← hhe, mapB_has hE202]; assumption))
                have H216 := Row.nil_intro H215 26 1
                have H217 := byA_nil H216
                have H218 : St W w213 (Row 26 1 (.slice none 0 0) 0 [] :: byA ([] : List BytesD) :: LkA g ({ ackS s d.ack.v with owes := true } : EndV) :: blk bk7 (.cells #[.int .i64 d.frm.v, .int .i64 d.to_.v, .int .i64 d.kind.v, .int .i64 d.seq.v, .int .i64 d.ack.v, .slice pp1 d.body.length cc2] 41 (0, 0)) :: Im 1 (.slice pp1 d.body.length cc2) d.body.length (d.body.flatMap u8c) :: (F.set i emp)) := (H217.move 1 rfl)
                have hT9 : takeT s d = [] := by rw [takeT_yes hE hk1, hC]
                have H219 : St W w213 (BysA none 0 (takeT s d) :: LkA g ({ ackS s d.ack.v with owes := true } : EndV) :: blk bk7 (.cells #[.int .i64 d.frm.v, .int .i64 d.to_.v, .int .i64 d.kind.v, .int .i64 d.seq.v, .int .i64 d.ack.v, .slice pp1 d.body.length cc2] 41 (0, 0)) :: Im 1 (.slice pp1 d.body.length cc2) d.body.length (d.body.flatMap u8c) :: (F.set i emp)) := by rw [hT9]; exact St.shut_ex ⟨[], rfl⟩ (St.shut_star (ls := [Row 26 1 (.slice none 0 0) 0 [], byA ([] : List BytesD)]) H218)
                have H220 : St W w213 (BysA none 0 (takeT s d) :: LkA g (takeS s d) :: blk bk7 (.cells #[.int .i64 d.frm.v, .int .i64 d.to_.v, .int .i64 d.kind.v, .int .i64 d.seq.v, .int .i64 d.ack.v, .slice pp1 d.body.length cc2] 41 (0, 0)) :: Im 1 (.slice pp1 d.body.length cc2) d.body.length (d.body.flatMap u8c) :: (F.set i emp)) := by rw [takeS_data hE hk1, hC, ← hca, ← hhe]; exact H219
                have H221 : St W w213 (BysA none 0 (takeT s d) :: LkA g (takeS s d) :: (F.set i emp)) := ((((H220.move 1 rfl).move 1 rfl).drop 2 rfl).drop 2 rfl)
                have H222 : St W w213 (LkA g (takeS s d) :: (BysA none 0 (takeT s d) :: F).set (i + 1) emp) := (H221.move 1 rfl)
                exact ⟨none, 0, by rw [hE, hT9]; rfl, St.back (i := i + 1) (by exact hi) H222⟩
              · skip
                refine q_cons (q_val rfl rfl rfl (by intro w hw; exact x_lss false rfl rfl (dfalse hc212) w) ?_)
                refine q_cons (q_val rfl rfl rfl (by intro w hw; exact x_move (.bool false) rfl w) ?_)
                refine q_cons (q_take rfl rfl ?_)
                refine q_val rfl rfl rfl (by intro w hw; exact x_move (.bool (ahas E200 d.seq)) rfl w) ?_
                refine q_cons (q_val rfl rfl rfl (by intro w hw; exact x_pick_f (.bool (ahas E200 d.seq)) rfl rfl w) ?_)
                refine q_nil ?_
                intro w223 H224
                by_cases hb225 : (ahas E200 d.seq) = true
                · skip
                  refine g_true (congrArg Value.bool hb225) ?_
                  refine g_seq ?_
                  refine g_region ?_
                  refine r_cons (s_assign (.slice none 0 0) rfl rfl ?_)
                  refine r_cons (s_assign (.int .i64 0) rfl rfl ?_)
                  refine r_nil ?_
                  refine g_ret' [.slice none 0 0, .int .i64 0] Try.func21 Try.results21 ⟨rfl, rfl, trivial⟩ ?_
                  have H226 : St W w223 (LkA g ({ ackS s d.ack.v with owes := true } : EndV) :: blk bk7 (.cells #[.int .i64 d.frm.v, .int .i64 d.to_.v, .int .i64 d.kind.v, .int .i64 d.seq.v, .int .i64 d.ack.v, .slice pp1 d.body.length cc2] 41 (0, 0)) :: Im 1 (.slice pp1 d.body.length cc2) d.body.length (d.body.flatMap u8c) :: (F.set i emp)) := St.shut_ex ⟨(m196, pp197, cc198, L199, E200), hL201, hE202⟩ (St.shut_star (ls := [blk g (.cells #[.int .i64 ((ackS s d.ack.v).frm.v), .int .i64 ((ackS s d.ack.v).to_.v), .int .i64 ((ackS s d.ack.v).slide : Int), .slice pp197 L199.length cc198, .int .i64 ((ackS s d.ack.v).acked : Int), .int .i64 ((i64N (ackS s d.ack.v).came).v), .map (some m196), .int .i64 ((ackS s d.ack.v).clock : Int), .bool true] 62 (0, 0)), Row 79 3 (.slice pp197 L199.length cc198) L199.length (L199.flatMap bodCell), byA (L199.map BodD.by), MapA m196 (ents (kI .i64) evD E200), byA (mby E200)]) H224)
                  have hC : takeC s d = ([], s.came, s.held) := takeC_no (by first | exact .inl (by omega) | (right; rw [← hhe, mapB_has hE202]; assumption))
                  have H227 := Row.nil_intro H226 26 1
                  have H228 := byA_nil H227
                  have H229 : St W w223 (Row 26 1 (.slice none 0 0) 0 [] :: byA ([] : List BytesD) :: LkA g ({ ackS s d.ack.v with owes := true } : EndV) :: blk bk7 (.cells #[.int .i64 d.frm.v, .int .i64 d.to_.v, .int .i64 d.kind.v, .int .i64 d.seq.v, .int .i64 d.ack.v, .slice pp1 d.body.length cc2] 41 (0, 0)) :: Im 1 (.slice pp1 d.body.length cc2) d.body.length (d.body.flatMap u8c) :: (F.set i emp)) := (H228.move 1 rfl)
                  have hT9 : takeT s d = [] := by rw [takeT_yes hE hk1, hC]
                  have H230 : St W w223 (BysA none 0 (takeT s d) :: LkA g ({ ackS s d.ack.v with owes := true } : EndV) :: blk bk7 (.cells #[.int .i64 d.frm.v, .int .i64 d.to_.v, .int .i64 d.kind.v, .int .i64 d.seq.v, .int .i64 d.ack.v, .slice pp1 d.body.length cc2] 41 (0, 0)) :: Im 1 (.slice pp1 d.body.length cc2) d.body.length (d.body.flatMap u8c) :: (F.set i emp)) := by rw [hT9]; exact St.shut_ex ⟨[], rfl⟩ (St.shut_star (ls := [Row 26 1 (.slice none 0 0) 0 [], byA ([] : List BytesD)]) H229)
                  have H231 : St W w223 (BysA none 0 (takeT s d) :: LkA g (takeS s d) :: blk bk7 (.cells #[.int .i64 d.frm.v, .int .i64 d.to_.v, .int .i64 d.kind.v, .int .i64 d.seq.v, .int .i64 d.ack.v, .slice pp1 d.body.length cc2] 41 (0, 0)) :: Im 1 (.slice pp1 d.body.length cc2) d.body.length (d.body.flatMap u8c) :: (F.set i emp)) := by rw [takeS_data hE hk1, hC, ← hca, ← hhe]; exact H230
                  have H232 : St W w223 (BysA none 0 (takeT s d) :: LkA g (takeS s d) :: (F.set i emp)) := ((((H231.move 1 rfl).move 1 rfl).drop 2 rfl).drop 2 rfl)
                  have H233 : St W w223 (LkA g (takeS s d) :: (BysA none 0 (takeT s d) :: F).set (i + 1) emp) := (H232.move 1 rfl)
                  exact ⟨none, 0, by rw [hE, hT9]; rfl, St.back (i := i + 1) (by exact hi) H233⟩
                · have hb225 := eq_false_of_ne_true hb225
                  refine g_false (congrArg Value.bool hb225) ?_
                  refine g_skip ?_
                  refine g_seq ?_
                  have hno0 : ahas s.held d.seq = false := by rw [← hhe, mapB_has hE202]; assumption
                  have hC := takeC_yes (s := s) (d := d) (by rw [hno0]; simp only [Bool.false_eq_true, or_false]; omega)
                  have H234 : St W w223 (blk g (.cells #[.int .i64 ((ackS s d.ack.v).frm.v), .int .i64 ((ackS s d.ack.v).to_.v), .int .i64 ((ackS s d.ack.v).slide : Int), .slice pp197 L199.length cc198, .int .i64 ((ackS s d.ack.v).acked : Int), .int .i64 ((i64N (ackS s d.ack.v).came).v), .map (some m196), .int .i64 ((ackS s d.ack.v).clock : Int), .bool true] 62 (0, 0)) :: Row 79 3 (.slice pp197 L199.length cc198) L199.length (L199.flatMap bodCell) :: byA (L199.map BodD.by) :: byA (mby E200) :: blk bk7 (.cells #[.int .i64 d.frm.v, .int .i64 d.to_.v, .int .i64 d.kind.v, .int .i64 d.seq.v, .int .i64 d.ack.v, .slice pp1 d.body.length cc2] 41 (0, 0)) :: Im 1 (.slice pp1 d.body.length cc2) d.body.length (d.body.flatMap u8c) :: MapA m196 (ents (kI .i64) evD E200) :: (F.set i emp)) := (((((((H224.move 3 rfl).move 6 rfl).move 6 rfl).move 6 rfl).move 6 rfl).move 6 rfl).move 6 rfl)
                  refine g_mix (fun t_ w => St W w (blk g (.cells #[.int .i64 ((ackS s d.ack.v).frm.v), .int .i64 ((ackS s d.ack.v).to_.v), .int .i64 ((ackS s d.ack.v).slide : Int), .slice pp197 L199.length cc198, .int .i64 ((ackS s d.ack.v).acked : Int), .int .i64 ((i64N (ackS s d.ack.v).came).v), .map (some m196), .int .i64 ((ackS s d.ack.v).clock : Int), .bool true] 62 (0, 0)) :: Row 79 3 (.slice pp197 L199.length cc198) L199.length (L199.flatMap bodCell) :: byA (L199.map BodD.by) :: byA (mby E200) :: blk bk7 (.cells #[.int .i64 d.frm.v, .int .i64 d.to_.v, .int .i64 d.kind.v, .int .i64 d.seq.v, .int .i64 d.ack.v, .slice pp1 d.body.length cc2] 41 (0, 0)) :: Im 1 (.slice pp1 d.body.length cc2) d.body.length (d.body.flatMap u8c) :: t_)) (MapA m196 (ents (kI .i64) evD E200) :: (F.set i emp)) mixed 10 rfl H234.drew ?_
                  refine f_first 0 (listed' := #[true, false, false, false, false, false, false, false, false, false]) rfl (by kernel_rfl) (by kernel_rfl) (by kernel_rfl) rfl ?_
                  refine f_val rfl rfl rfl (by intro t_ w hw; exact x_move (.pointer (some ⟨g, 0, none⟩)) rfl w) ?_
                  refine f_first 1 (listed' := #[true, true, false, false, false, false, false, false, false, false]) rfl (by kernel_rfl) (by kernel_rfl) (by kernel_rfl) rfl ?_
                  refine f_val rfl rfl rfl (by intro t_ w hw; exact x_nilCheck (.pointer (some ⟨g, 0, none⟩)) rfl ⟨_, rfl⟩ w) ?_
                  refine f_first 2 (listed' := #[true, true, true, false, false, false, false, false, false, false]) rfl (by kernel_rfl) (by kernel_rfl) (by kernel_rfl) rfl ?_
                  refine f_val rfl rfl rfl (by intro t_ w hw; exact x_fieldAddr 62 5 6 6 60 rfl fi_62_5 rfl w) ?_
                  refine f_first 3 (listed' := #[true, true, true, true, false, false, false, false, false, false]) rfl (by kernel_rfl) (by kernel_rfl) (by kernel_rfl) rfl ?_
                  refine f_val rfl rfl rfl (by intro t_ w hw; exact x_load (.map (some m196)) ag_60 rfl (hw.blk_at (i := 0) rfl) rfl) ?_
                  refine f_first 4 (listed' := #[true, true, true, true, true, false, false, false, false, false]) rfl (by kernel_rfl) (by kernel_rfl) (by kernel_rfl) rfl ?_
                  refine f_val rfl rfl rfl (by intro t_ w hw; exact x_fieldAddr 41 3 3 3 2 rfl fi_41_3 rfl w) ?_
                  refine f_first 5 (listed' := #[true, true, true, true, true, true, false, false, false, false]) rfl (by kernel_rfl) (by kernel_rfl) (by kernel_rfl) rfl ?_
                  refine f_val rfl rfl rfl (by intro t_ w hw; exact x_load (.int .i64 d.seq.v) ag_2 rfl (hw.blk_at (i := 4) rfl) rfl) ?_
                  refine f_first 6 (listed' := #[true, true, true, true, true, true, true, false, false, false]) rfl (by kernel_rfl) (by kernel_rfl) (by kernel_rfl) rfl ?_
                  refine f_val rfl rfl rfl (by intro t_ w hw; exact x_fieldAddr 41 5 5 5 26 rfl fi_41_5 rfl w) ?_
                  refine f_first 7 (listed' := #[true, true, true, true, true, true, true, true, false, false]) rfl (by kernel_rfl) (by kernel_rfl) (by kernel_rfl) rfl ?_
                  refine f_val rfl rfl rfl (by intro t_ w hw; exact x_load (.slice pp1 d.body.length cc2) ag_26 rfl (hw.blk_at (i := 4) rfl) rfl) ?_
                  refine f_all (rs := [8]) (by kernel_rfl) (by simp) ?_
                  refine a_cons ⟨_, rfl, ?_⟩ (fun x hx => absurd hx (by simp))
                  intro w235 H236
                  try dsimp only at H236
                  refine s_call [.slice pp1 d.body.length cc2] pl_48 rfl rfl (clone_bytes _ _ d.body.length (d.body.flatMap u8c) RdA.im (by first | omega | (have hlp := Nat.le_refl 0; omega)) (j := 5) rfl H236) ?_
                  rintro _ w239 ⟨pp237, cc238, rfl, H240⟩
                  have H241 : St W w239 (blk g (.cells #[.int .i64 ((ackS s d.ack.v).frm.v), .int .i64 ((ackS s d.ack.v).to_.v), .int .i64 ((ackS s d.ack.v).slide : Int), .slice pp197 L199.length cc198, .int .i64 ((ackS s d.ack.v).acked : Int), .int .i64 ((i64N (ackS s d.ack.v).came).v), .map (some m196), .int .i64 ((ackS s d.ack.v).clock : Int), .bool true] 62 (0, 0)) :: Row 79 3 (.slice pp197 L199.length cc198) L199.length (L199.flatMap bodCell) :: byA (L199.map BodD.by) :: byA (mby E200) :: blk bk7 (.cells #[.int .i64 d.frm.v, .int .i64 d.to_.v, .int .i64 d.kind.v, .int .i64 d.seq.v, .int .i64 d.ack.v, .slice pp1 d.body.length cc2] 41 (0, 0)) :: Im 1 (.slice pp1 d.body.length cc2) d.body.length (d.body.flatMap u8c) :: Row 5 1 (.slice pp237 d.body.length cc238) d.body.length (d.body.flatMap u8c) :: MapA m196 (ents (kI .i64) evD E200) :: (F.set i emp)) := ((((((((H240.move 7 rfl).move 1 rfl).move 7 rfl).move 7 rfl).move 7 rfl).move 7 rfl).move 7 rfl).move 7 rfl)
                  refine ⟨Row 5 1 (.slice pp237 d.body.length cc238) d.body.length (d.body.flatMap u8c) :: MapA m196 (ents (kI .i64) evD E200) :: (F.set i emp), ?_, H241⟩
                  change FReg _ _ _ _ _ #[true, true, true, true, true, true, true, true, true, false] _ _
                  refine f_all (rs := [9]) (by kernel_rfl) (by simp) ?_
                  refine a_cons ⟨_, rfl, ?_⟩ (fun x hx => absurd hx (by simp))
                  intro w242 H243
                  try dsimp only at H243
                  refine s_mapUpdate (ek := (kI .i64)) (ev := evD) (L := E200) d.seq (⟨d.body, pp237, cc238⟩ : BytesD) H243 (i := 7) rfl (KeyLaw.I un_2) un_60 rfl rfl rfl ?_; intro w244 H245
                  have H246 : St W w244 (blk g (.cells #[.int .i64 ((ackS s d.ack.v).frm.v), .int .i64 ((ackS s d.ack.v).to_.v), .int .i64 ((ackS s d.ack.v).slide : Int), .slice pp197 L199.length cc198, .int .i64 ((ackS s d.ack.v).acked : Int), .int .i64 ((i64N (ackS s d.ack.v).came).v), .map (some m196), .int .i64 ((ackS s d.ack.v).clock : Int), .bool true] 62 (0, 0)) :: Row 79 3 (.slice pp197 L199.length cc198) L199.length (L199.flatMap bodCell) :: byA (L199.map BodD.by) :: byA (mby E200) :: blk bk7 (.cells #[.int .i64 d.frm.v, .int .i64 d.to_.v, .int .i64 d.kind.v, .int .i64 d.seq.v, .int .i64 d.ack.v, .slice pp1 d.body.length cc2] 41 (0, 0)) :: Im 1 (.slice pp1 d.body.length cc2) d.body.length (d.body.flatMap u8c) :: Row 5 1 (.slice pp237 d.body.length cc238) d.body.length (d.body.flatMap u8c) :: MapA m196 (ents (kI .i64) evD (aset E200 d.seq (⟨d.body, pp237, cc238⟩ : BytesD))) :: (F.set i emp)) := H245
                  refine ⟨Row 5 1 (.slice pp237 d.body.length cc238) d.body.length (d.body.flatMap u8c) :: MapA m196 (ents (kI .i64) evD (aset E200 d.seq (⟨d.body, pp237, cc238⟩ : BytesD))) :: (F.set i emp), ?_, H246⟩
                  change FReg _ _ _ _ _ #[true, true, true, true, true, true, true, true, true, true] _ _
                  refine f_done (by kernel_rfl) ?_
                  intro w247 H248
                  refine g_seq ?_
                  refine g_region ?_
                  refine r_cons (s_assign (.slice none 0 0) rfl rfl ?_)
                  refine r_nil ?_
                  refine g_block ?_
                  have H249 : St W w247 (blk g (.cells #[.int .i64 ((ackS s d.ack.v).frm.v), .int .i64 ((ackS s d.ack.v).to_.v), .int .i64 ((ackS s d.ack.v).slide : Int), .slice pp197 L199.length cc198, .int .i64 ((ackS s d.ack.v).acked : Int), .int .i64 ((i64N (ackS s d.ack.v).came).v), .map (some m196), .int .i64 ((ackS s d.ack.v).clock : Int), .bool true] 62 (0, 0)) :: Row 79 3 (.slice pp197 L199.length cc198) L199.length (L199.flatMap bodCell) :: byA (L199.map BodD.by) :: byA (mby E200) :: blk bk7 (.cells #[.int .i64 d.frm.v, .int .i64 d.to_.v, .int .i64 d.kind.v, .int .i64 d.seq.v, .int .i64 d.ack.v, .slice pp1 d.body.length cc2] 41 (0, 0)) :: Im 1 (.slice pp1 d.body.length cc2) d.body.length (d.body.flatMap u8c) :: Im 1 (.slice pp237 d.body.length cc238) d.body.length (d.body.flatMap u8c) :: MapA m196 (ents (kI .i64) evD (aset E200 d.seq (⟨d.body, pp237, cc238⟩ : BytesD))) :: (F.set i emp)) := Row.im H248 (i := 6) rfl
                  have H250 := byA_add (x := (⟨d.body, pp237, cc238⟩ : BytesD)) (M := mby (aset E200 d.seq (⟨d.body, pp237, cc238⟩ : BytesD))) H249 (i := 3) (j := 6) rfl rfl (mby_set (by rw [← mapB_has hE202, hhe]; exact hno0))
                  have H251 : St W w247 (byA (mby (aset E200 d.seq (⟨d.body, pp237, cc238⟩ : BytesD))) :: blk g (.cells #[.int .i64 ((ackS s d.ack.v).frm.v), .int .i64 ((ackS s d.ack.v).to_.v), .int .i64 ((ackS s d.ack.v).slide : Int), .slice pp197 L199.length cc198, .int .i64 ((ackS s d.ack.v).acked : Int), .int .i64 ((i64N s.came).v), .map (some m196), .int .i64 ((ackS s d.ack.v).clock : Int), .bool true] 62 (0, 0)) :: Row 79 3 (.slice pp197 L199.length cc198) L199.length (L199.flatMap bodCell) :: byA (L199.map BodD.by) :: byA (mby E200) :: blk bk7 (.cells #[.int .i64 d.frm.v, .int .i64 d.to_.v, .int .i64 d.kind.v, .int .i64 d.seq.v, .int .i64 d.ack.v, .slice pp1 d.body.length cc2] 41 (0, 0)) :: Im 1 (.slice pp1 d.body.length cc2) d.body.length (d.body.flatMap u8c) :: Im 1 (.slice pp237 d.body.length cc238) d.body.length (d.body.flatMap u8c) :: MapA m196 (ents (kI .i64) evD (aset E200 d.seq (⟨d.body, pp237, cc238⟩ : BytesD))) :: (F.set i emp)) := by rw [← hca]; exact H250
                  have H252 : St W w247 (blk g (.cells #[.int .i64 ((ackS s d.ack.v).frm.v), .int .i64 ((ackS s d.ack.v).to_.v), .int .i64 ((ackS s d.ack.v).slide : Int), .slice pp197 L199.length cc198, .int .i64 ((ackS s d.ack.v).acked : Int), .int .i64 ((i64N s.came).v), .map (some m196), .int .i64 ((ackS s d.ack.v).clock : Int), .bool true] 62 (0, 0)) :: Row 79 3 (.slice pp197 L199.length cc198) L199.length (L199.flatMap bodCell) :: byA (L199.map BodD.by) :: MapA m196 (ents (kI .i64) evD (aset E200 d.seq (⟨d.body, pp237, cc238⟩ : BytesD))) :: byA (mby (aset E200 d.seq (⟨d.body, pp237, cc238⟩ : BytesD))) :: byA (mby E200) :: blk bk7 (.cells #[.int .i64 d.frm.v, .int .i64 d.to_.v, .int .i64 d.kind.v, .int .i64 d.seq.v, .int .i64 d.ack.v, .slice pp1 d.body.length cc2] 41 (0, 0)) :: Im 1 (.slice pp1 d.body.length cc2) d.body.length (d.body.flatMap u8c) :: Im 1 (.slice pp237 d.body.length cc238) d.body.length (d.body.flatMap u8c) :: (F.set i emp)) := ((((H251.move 8 rfl).move 4 rfl).move 4 rfl).move 4 rfl)
                  have H253 : St W w247 (LkA g (drS (ackS s d.ack.v) s.came (s.held ++ [(d.seq, d.body)])) :: byA (mby E200) :: blk bk7 (.cells #[.int .i64 d.frm.v, .int .i64 d.to_.v, .int .i64 d.kind.v, .int .i64 d.seq.v, .int .i64 d.ack.v, .slice pp1 d.body.length cc2] 41 (0, 0)) :: Im 1 (.slice pp1 d.body.length cc2) d.body.length (d.body.flatMap u8c) :: Im 1 (.slice pp237 d.body.length cc238) d.body.length (d.body.flatMap u8c) :: (F.set i emp)) := St.shut_ex ⟨(m196, pp197, cc198, L199, (aset E200 d.seq (⟨d.body, pp237, cc238⟩ : BytesD))), hL201, (show mapB (aset E200 d.seq (⟨d.body, pp237, cc238⟩ : BytesD)) = s.held ++ [(d.seq, d.body)] from by rw [mapB_set hE202 (⟨d.body, pp237, cc238⟩ : BytesD) (by rw [hhe]; exact hno0), hhe])⟩ (St.shut_star (ls := [blk g (.cells #[.int .i64 ((ackS s d.ack.v).frm.v), .int .i64 ((ackS s d.ack.v).to_.v), .int .i64 ((ackS s d.ack.v).slide : Int), .slice pp197 L199.length cc198, .int .i64 ((ackS s d.ack.v).acked : Int), .int .i64 ((i64N s.came).v), .map (some m196), .int .i64 ((ackS s d.ack.v).clock : Int), .bool true] 62 (0, 0)), Row 79 3 (.slice pp197 L199.length cc198) L199.length (L199.flatMap bodCell), byA (L199.map BodD.by), MapA m196 (ents (kI .i64) evD (aset E200 d.seq (⟨d.body, pp237, cc238⟩ : BytesD))), byA (mby (aset E200 d.seq (⟨d.body, pp237, cc238⟩ : BytesD)))]) H252)
                  have H254 := Row.nil_intro H253 26 1
                  have H255 := byA_nil H254
                  have H256 : St W w247 (Row 26 1 (.slice none 0 0) 0 [] :: byA ([] : List BytesD) :: LkA g (drS (ackS s d.ack.v) s.came (s.held ++ [(d.seq, d.body)])) :: (F.set i emp)) := (((((((H255.move 2 rfl).move 1 rfl).move 2 rfl).drop 3 rfl).drop 3 rfl).drop 3 rfl).drop 3 rfl)
                  have H257 : St W w247 (Row 26 1 (.slice none 0 0) 0 [] :: byA ([] : List BytesD) :: LkA g (drS (ackS s d.ack.v) s.came (s.held ++ [(d.seq, d.body)])) :: (F.set i emp)) := H256
                  refine g_loop_inv (fun (x_ : Nat × (List (I64 × List UInt8)) × (List BytesD) × (Option Addr) × Nat) => match x_ with | (c9, h9, O, p, c) => [(0, .pointer (some ⟨g, 0, none⟩)), (4, .slice none 0 0), (5, .int .i64 0), (10, .slice p O.length c)]) (fun (x_ : Nat × (List (I64 × List UInt8)) × (List BytesD) × (Option Addr) × Nat) w => match x_ with | (c9, h9, O, p, c) => (DrI (drain (s.held ++ [(d.seq, d.body)]).length s.came (s.held ++ [(d.seq, d.body)])) (O.map BytesD.data) c9 h9) ∧ (c9 ≤ 1099511627777) ∧ (∀ x ∈ h9, x.1.v ≤ 1099511627776) ∧ (O.length + h9.length ≤ s.held.length + 1) ∧ St W w (Row 26 1 (.slice p O.length c) O.length (O.flatMap byCell) :: byA O :: LkA g (drS (ackS s d.ack.v) c9 h9) :: (F.set i emp))) (fun (x_ : Nat × (List (I64 × List UInt8)) × (List BytesD) × (Option Addr) × Nat) => match x_ with | (c9, h9, O, p, c) => h9.length) (s.came, s.held ++ [(d.seq, d.body)], [], none, 0) ?_ ?_ ?_
                  · exact ⟨by first | rfl | exact vint (by omega), by first | rfl | exact vint (by omega), by first | rfl | exact vint (by omega), by first | rfl | exact vint (by omega), trivial⟩
                  · exact ⟨(DrI.start _ _), (by omega), (fun x hx => (List.mem_append.1 hx).elim (o8 x) (fun h => by rw [List.mem_singleton] at h; subst h; exact q2)), (by simp), H257⟩
                  · rintro ⟨c9, h9, O, p, c⟩ ρ258 w259 ⟨hDr, hc9, hh9, hl9, H260⟩ nx261
                    change Ends _ _ (upds ρ258 [(0, .pointer (some ⟨g, 0, none⟩)), (4, .slice none 0 0), (5, .int .i64 0), (10, .slice p O.length c)]) w259
                    refine g_block ?_
                    refine g_seq ?_
                    have H262 := H260.move 2 rfl
                    obtain ⟨⟨⟨m263, pp264, cc265, L266, E267⟩, hL268, hE269⟩, H270⟩ := St.open_ex H262
                    have H271 := St.open_star H270
                    change L266.map BodD.v = (drS (ackS s d.ack.v) c9 h9).l at hL268; change mapB E267 = (drS (ackS s d.ack.v) c9 h9).held at hE269
                    have hl272 := lenOf hL268; have he273 := mapB_len hE269
                    have H274 : St W w259 (blk g (.cells #[.int .i64 ((drS (ackS s d.ack.v) c9 h9).frm.v), .int .i64 ((drS (ackS s d.ack.v) c9 h9).to_.v), .int .i64 ((drS (ackS s d.ack.v) c9 h9).slide : Int), .slice pp264 L266.length cc265, .int .i64 ((drS (ackS s d.ack.v) c9 h9).acked : Int), .int .i64 ((i64N (drS (ackS s d.ack.v) c9 h9).came).v), .map (some m263), .int .i64 ((drS (ackS s d.ack.v) c9 h9).clock : Int), .bool ((drS (ackS s d.ack.v) c9 h9).owes)] 62 (0, 0)) :: Row 79 3 (.slice pp264 L266.length cc265) L266.length (L266.flatMap bodCell) :: byA (L266.map BodD.by) :: MapA m263 (ents (kI .i64) evD E267) :: byA (mby E267) :: Row 26 1 (.slice p O.length c) O.length (O.flatMap byCell) :: byA O :: (F.set i emp)) := H271
                    have hcv : (i64N (drS (ackS s d.ack.v) c9 h9).came).v = (c9 : Int) := i64N_v (n := c9) (by omega); have hcw := i64N_v (n := c9) (by omega)
                    refine g_quiet (fun w' => St W w' (blk g (.cells #[.int .i64 ((drS (ackS s d.ack.v) c9 h9).frm.v), .int .i64 ((drS (ackS s d.ack.v) c9 h9).to_.v), .int .i64 ((drS (ackS s d.ack.v) c9 h9).slide : Int), .slice pp264 L266.length cc265, .int .i64 ((drS (ackS s d.ack.v) c9 h9).acked : Int), .int .i64 ((i64N (drS (ackS s d.ack.v) c9 h9).came).v), .map (some m263), .int .i64 ((drS (ackS s d.ack.v) c9 h9).clock : Int), .bool ((drS (ackS s d.ack.v) c9 h9).owes)] 62 (0, 0)) :: Row 79 3 (.slice pp264 L266.length cc265) L266.length (L266.flatMap bodCell) :: byA (L266.map BodD.by) :: MapA m263 (ents (kI .i64) evD E267) :: byA (mby E267) :: Row 26 1 (.slice p O.length c) O.length (O.flatMap byCell) :: byA O :: (F.set i emp))) mixed (by kernel_rfl) H274.drew ?_
                    refine q_cons (q_val rfl rfl rfl (by intro w hw; exact x_move (.pointer (some ⟨g, 0, none⟩)) rfl w) ?_)
                    refine q_cons (q_val rfl rfl rfl (by intro w hw; exact x_nilCheck (.pointer (some ⟨g, 0, none⟩)) rfl ⟨_, rfl⟩ w) ?_)
                    refine q_cons (q_val rfl rfl rfl (by intro w hw; exact x_fieldAddr 62 5 6 6 60 rfl fi_62_5 rfl w) ?_)
                    refine q_cons (q_val rfl rfl rfl (by intro w hw; exact x_load (.map (some m263)) ag_60 rfl (hw.blk_at (i := 0) rfl) rfl) ?_)
                    refine q_cons (q_val rfl rfl rfl (by intro w hw; exact x_move (.pointer (some ⟨g, 0, none⟩)) rfl w) ?_)
                    refine q_cons (q_val rfl rfl rfl (by intro w hw; exact x_nilCheck (.pointer (some ⟨g, 0, none⟩)) rfl ⟨_, rfl⟩ w) ?_)
                    refine q_cons (q_val rfl rfl rfl (by intro w hw; exact x_fieldAddr 62 4 5 5 2 rfl fi_62_4 rfl w) ?_)
                    refine q_cons (q_val rfl rfl rfl (by intro w hw; exact x_load (.int .i64 ((i64N (drS (ackS s d.ack.v) c9 h9).came).v)) ag_2 rfl (hw.blk_at (i := 0) rfl) rfl) ?_)
                    refine q_cons (q_val rfl rfl rfl (by intro w hw; exact x_lookup2 (ek := (kI .i64)) (ev := evD) (L := E267) (i64N (drS (ackS s d.ack.v) c9 h9).came) ((lookV evD (.slice none 0 0) E267 (i64N (drS (ackS s d.ack.v) c9 h9).came))) (ahas E267 (i64N (drS (ackS s d.ack.v) c9 h9).came)) (MapA.at hw (i := 3) rfl) (KeyLaw.I un_2) un_60 zv_26 rfl rfl (rfl) rfl) ?_)
                    refine q_cons (q_val rfl rfl rfl (by intro w hw; exact x_move (.tuple #[(lookV evD (.slice none 0 0) E267 (i64N (drS (ackS s d.ack.v) c9 h9).came)), .bool (ahas E267 (i64N (drS (ackS s d.ack.v) c9 h9).came))]) rfl w) ?_)
                    refine q_cons (q_val rfl rfl rfl (by intro w hw; exact x_extract ((lookV evD (.slice none 0 0) E267 (i64N (drS (ackS s d.ack.v) c9 h9).came))) #[(lookV evD (.slice none 0 0) E267 (i64N (drS (ackS s d.ack.v) c9 h9).came)), .bool (ahas E267 (i64N (drS (ackS s d.ack.v) c9 h9).came))] rfl rfl w) ?_)
                    refine q_cons (q_val rfl rfl rfl (by intro w hw; exact x_extract (.bool (ahas E267 (i64N (drS (ackS s d.ack.v) c9 h9).came))) #[(lookV evD (.slice none 0 0) E267 (i64N (drS (ackS s d.ack.v) c9 h9).came)), .bool (ahas E267 (i64N (drS (ackS s d.ack.v) c9 h9).came))] rfl rfl w) ?_)
                    refine q_cons (q_val rfl rfl rfl (by intro w hw; exact x_assign ((lookV evD (.slice none 0 0) E267 (i64N (drS (ackS s d.ack.v) c9 h9).came))) rfl w) ?_)
                    refine q_cons (q_val rfl rfl rfl (by intro w hw; exact x_assign (.bool (ahas E267 (i64N (drS (ackS s d.ack.v) c9 h9).came))) rfl w) ?_)
                    refine q_nil ?_
                    intro w275 H276
                    refine g_seq ?_
                    refine g_seq ?_
                    refine g_region ?_
                    refine r_cons (s_move (.bool (ahas E267 (i64N (drS (ackS s d.ack.v) c9 h9).came))) rfl rfl ?_)
                    refine r_cons (s_not (ahas E267 (i64N (drS (ackS s d.ack.v) c9 h9).came)) rfl (!(ahas E267 (i64N (drS (ackS s d.ack.v) c9 h9).came))) rfl rfl ?_)
                    refine r_nil ?_
                    by_cases hb277 : (!(ahas E267 (i64N (drS (ackS s d.ack.v) c9 h9).came))) = true
                    · skip
                      refine g_true (congrArg Value.bool hb277) ?_
                      refine g_seq ?_
                      refine g_region ?_
                      have hno : ahas h9 (i64N c9) = false := by rw [mapB_has (show mapB E267 = h9 from hE269)]; show ahas E267 (i64N (drS (ackS s d.ack.v) c9 h9).came) = false; simpa using hb277
                      refine r_cons (s_move (.slice p O.length c) rfl rfl ?_)
                      refine r_cons (s_assign (.slice p O.length c) rfl rfl ?_)
                      refine r_cons (s_assign (.int .i64 0) rfl rfl ?_)
                      refine r_nil ?_
                      refine g_ret' [.slice p O.length c, .int .i64 0] Try.func21 Try.results21 ⟨rfl, rfl, trivial⟩ ?_
                      have H278 : St W w275 (LkA g (drS (ackS s d.ack.v) c9 h9) :: Row 26 1 (.slice p O.length c) O.length (O.flatMap byCell) :: byA O :: (F.set i emp)) := St.shut_ex ⟨(m263, pp264, cc265, L266, E267), hL268, hE269⟩ (St.shut_star (ls := [blk g (.cells #[.int .i64 ((drS (ackS s d.ack.v) c9 h9).frm.v), .int .i64 ((drS (ackS s d.ack.v) c9 h9).to_.v), .int .i64 ((drS (ackS s d.ack.v) c9 h9).slide : Int), .slice pp264 L266.length cc265, .int .i64 ((drS (ackS s d.ack.v) c9 h9).acked : Int), .int .i64 ((i64N (drS (ackS s d.ack.v) c9 h9).came).v), .map (some m263), .int .i64 ((drS (ackS s d.ack.v) c9 h9).clock : Int), .bool ((drS (ackS s d.ack.v) c9 h9).owes)] 62 (0, 0)), Row 79 3 (.slice pp264 L266.length cc265) L266.length (L266.flatMap bodCell), byA (L266.map BodD.by), MapA m263 (ents (kI .i64) evD E267), byA (mby E267)]) H276)
                      have hd9 := hDr.stop hno
                      have hT9 : takeT s d = O.map BytesD.data := by rw [takeT_yes hE hk1, hC, hd9]
                      have H279 : St W w275 (Row 26 1 (.slice p O.length c) O.length (O.flatMap byCell) :: byA O :: LkA g (drS (ackS s d.ack.v) c9 h9) :: (F.set i emp)) := ((H278.move 2 rfl).move 2 rfl)
                      have hn280 : (takeT s d).length = O.length := (by rw [hT9, List.length_map])
                      have H281 : St W w275 (Row 26 1 (.slice p ((takeT s d).length) c) ((takeT s d).length) (O.flatMap byCell) :: byA O :: LkA g (drS (ackS s d.ack.v) c9 h9) :: (F.set i emp)) := by rw [hn280]; exact H279
                      have H282 : St W w275 (BysA p c (takeT s d) :: LkA g (drS (ackS s d.ack.v) c9 h9) :: (F.set i emp)) := St.shut_ex ⟨O, hT9.symm⟩ (St.shut_star (ls := [Row 26 1 (.slice p ((takeT s d).length) c) ((takeT s d).length) (O.flatMap byCell), byA O]) H281)
                      have H283 : St W w275 (BysA p c (takeT s d) :: LkA g (takeS s d) :: (F.set i emp)) := by rw [takeS_data hE hk1, hC, hd9]; exact H282
                      have H284 : St W w275 (BysA p c (takeT s d) :: LkA g (takeS s d) :: (F.set i emp)) := ((H283.move 1 rfl).move 1 rfl)
                      have H285 : St W w275 (LkA g (takeS s d) :: (BysA p c (takeT s d) :: F).set (i + 1) emp) := (H284.move 1 rfl)
                      exact ⟨_, _, by rw [hE, hn280]; rfl, St.back (i := i + 1) (by exact hi) H285⟩
                    · have hb277 := eq_false_of_ne_true hb277
                      refine g_false (congrArg Value.bool hb277) ?_
                      refine g_skip ?_
                      refine g_seq ?_
                      obtain ⟨x9, hx9⟩ : ∃ x, aget E267 (i64N (drS (ackS s d.ack.v) c9 h9).came) = some x := Option.isSome_iff_exists.1 (by rw [aget_has]; simpa using hb277)
                      have hg9 : aget h9 (i64N c9) = some x9.data := by rw [mapB_get (show mapB E267 = h9 from hE269)]; exact congrArg (Option.map BytesD.data) hx9
                      have hk9 := hh9 _ (aget_mem hg9); simp only at hk9
                      have hhl := adel_len (has_of_get hg9)
                      rw [look_some hx9]
                      have H286 : St W w275 (blk g (.cells #[.int .i64 ((drS (ackS s d.ack.v) c9 h9).frm.v), .int .i64 ((drS (ackS s d.ack.v) c9 h9).to_.v), .int .i64 ((drS (ackS s d.ack.v) c9 h9).slide : Int), .slice pp264 L266.length cc265, .int .i64 ((drS (ackS s d.ack.v) c9 h9).acked : Int), .int .i64 ((i64N (drS (ackS s d.ack.v) c9 h9).came).v), .map (some m263), .int .i64 ((drS (ackS s d.ack.v) c9 h9).clock : Int), .bool ((drS (ackS s d.ack.v) c9 h9).owes)] 62 (0, 0)) :: Row 79 3 (.slice pp264 L266.length cc265) L266.length (L266.flatMap bodCell) :: byA (L266.map BodD.by) :: byA (mby E267) :: Row 26 1 (.slice p O.length c) O.length (O.flatMap byCell) :: byA O :: MapA m263 (ents (kI .i64) evD E267) :: (F.set i emp)) := (((((((H276.move 3 rfl).move 6 rfl).move 6 rfl).move 6 rfl).move 6 rfl).move 6 rfl).move 6 rfl)
                      refine g_mix (fun t_ w => St W w (blk g (.cells #[.int .i64 ((drS (ackS s d.ack.v) c9 h9).frm.v), .int .i64 ((drS (ackS s d.ack.v) c9 h9).to_.v), .int .i64 ((drS (ackS s d.ack.v) c9 h9).slide : Int), .slice pp264 L266.length cc265, .int .i64 ((drS (ackS s d.ack.v) c9 h9).acked : Int), .int .i64 ((i64N (drS (ackS s d.ack.v) c9 h9).came).v), .map (some m263), .int .i64 ((drS (ackS s d.ack.v) c9 h9).clock : Int), .bool ((drS (ackS s d.ack.v) c9 h9).owes)] 62 (0, 0)) :: Row 79 3 (.slice pp264 L266.length cc265) L266.length (L266.flatMap bodCell) :: byA (L266.map BodD.by) :: byA (mby E267) :: Row 26 1 (.slice p O.length c) O.length (O.flatMap byCell) :: byA O :: t_)) (MapA m263 (ents (kI .i64) evD E267) :: (F.set i emp)) mixed 9 rfl H286.drew ?_
                      refine f_first 0 (listed' := #[true, false, false, false, false, false, false, false, false]) rfl (by kernel_rfl) (by kernel_rfl) (by kernel_rfl) rfl ?_
                      refine f_val rfl rfl rfl (by intro t_ w hw; exact x_move (.pointer (some ⟨g, 0, none⟩)) rfl w) ?_
                      refine f_first 1 (listed' := #[true, true, false, false, false, false, false, false, false]) rfl (by kernel_rfl) (by kernel_rfl) (by kernel_rfl) rfl ?_
                      refine f_val rfl rfl rfl (by intro t_ w hw; exact x_nilCheck (.pointer (some ⟨g, 0, none⟩)) rfl ⟨_, rfl⟩ w) ?_
                      refine f_first 2 (listed' := #[true, true, true, false, false, false, false, false, false]) rfl (by kernel_rfl) (by kernel_rfl) (by kernel_rfl) rfl ?_
                      refine f_val rfl rfl rfl (by intro t_ w hw; exact x_fieldAddr 62 5 6 6 60 rfl fi_62_5 rfl w) ?_
                      refine f_first 3 (listed' := #[true, true, true, true, false, false, false, false, false]) rfl (by kernel_rfl) (by kernel_rfl) (by kernel_rfl) rfl ?_
                      refine f_val rfl rfl rfl (by intro t_ w hw; exact x_load (.map (some m263)) ag_60 rfl (hw.blk_at (i := 0) rfl) rfl) ?_
                      refine f_first 4 (listed' := #[true, true, true, true, true, false, false, false, false]) rfl (by kernel_rfl) (by kernel_rfl) (by kernel_rfl) rfl ?_
                      refine f_val rfl rfl rfl (by intro t_ w hw; exact x_move (.pointer (some ⟨g, 0, none⟩)) rfl w) ?_
                      refine f_first 5 (listed' := #[true, true, true, true, true, true, false, false, false]) rfl (by kernel_rfl) (by kernel_rfl) (by kernel_rfl) rfl ?_
                      refine f_val rfl rfl rfl (by intro t_ w hw; exact x_nilCheck (.pointer (some ⟨g, 0, none⟩)) rfl ⟨_, rfl⟩ w) ?_
                      refine f_first 6 (listed' := #[true, true, true, true, true, true, true, false, false]) rfl (by kernel_rfl) (by kernel_rfl) (by kernel_rfl) rfl ?_
                      refine f_val rfl rfl rfl (by intro t_ w hw; exact x_fieldAddr 62 4 5 5 2 rfl fi_62_4 rfl w) ?_
                      refine f_first 7 (listed' := #[true, true, true, true, true, true, true, true, false]) rfl (by kernel_rfl) (by kernel_rfl) (by kernel_rfl) rfl ?_
                      refine f_val rfl rfl rfl (by intro t_ w hw; exact x_load (.int .i64 ((i64N (drS (ackS s d.ack.v) c9 h9).came).v)) ag_2 rfl (hw.blk_at (i := 0) rfl) rfl) ?_
                      refine f_all (rs := [8]) (by kernel_rfl) (by simp) ?_
                      refine a_cons ⟨_, rfl, ?_⟩ (fun x hx => absurd hx (by simp))
                      intro w287 H288
                      try dsimp only at H288
                      refine s_delete (ek := (kI .i64)) (ev := evD) (L := E267) (i64N (drS (ackS s d.ack.v) c9 h9).came) H288 (i := 6) rfl (KeyLaw.I un_2) un_60 rfl rfl ?_; intro w289 H290
                      have H291 : St W w289 (blk g (.cells #[.int .i64 ((drS (ackS s d.ack.v) c9 h9).frm.v), .int .i64 ((drS (ackS s d.ack.v) c9 h9).to_.v), .int .i64 ((drS (ackS s d.ack.v) c9 h9).slide : Int), .slice pp264 L266.length cc265, .int .i64 ((drS (ackS s d.ack.v) c9 h9).acked : Int), .int .i64 ((i64N (drS (ackS s d.ack.v) c9 h9).came).v), .map (some m263), .int .i64 ((drS (ackS s d.ack.v) c9 h9).clock : Int), .bool ((drS (ackS s d.ack.v) c9 h9).owes)] 62 (0, 0)) :: Row 79 3 (.slice pp264 L266.length cc265) L266.length (L266.flatMap bodCell) :: byA (L266.map BodD.by) :: byA (mby E267) :: Row 26 1 (.slice p O.length c) O.length (O.flatMap byCell) :: byA O :: MapA m263 (ents (kI .i64) evD (adel E267 (i64N (drS (ackS s d.ack.v) c9 h9).came))) :: (F.set i emp)) := H290
                      refine ⟨MapA m263 (ents (kI .i64) evD (adel E267 (i64N (drS (ackS s d.ack.v) c9 h9).came))) :: (F.set i emp), ?_, H291⟩
                      change FReg _ _ _ _ _ #[true, true, true, true, true, true, true, true, true] _ _
                      refine f_done (by kernel_rfl) ?_
                      intro w292 H293
                      refine g_seq ?_
                      refine g_region ?_
                      refine r_cons (s_move (.pointer (some ⟨g, 0, none⟩)) rfl rfl ?_)
                      refine r_cons (s_nilCheck (.pointer (some ⟨g, 0, none⟩)) rfl ⟨_, rfl⟩ rfl ?_)
                      refine r_cons (s_fieldAddr 62 4 5 5 2 rfl fi_62_4 rfl rfl ?_)
                      refine r_cons (s_load (.int .i64 ((i64N (drS (ackS s d.ack.v) c9 h9).came).v)) ag_2 rfl (H293.blk_at (i := 0) rfl) rfl rfl ?_)
                      refine r_cons (s_add ((c9 + 1 : Nat) : Int) rfl rfl ((wi64 (by omega)).trans (by omega)) rfl ?_)
                      refine r_cons (s_nilCheck (.pointer (some ⟨g, 0, none⟩)) rfl ⟨_, rfl⟩ rfl ?_)
                      refine r_cons (s_fieldAddr 62 4 5 5 2 rfl fi_62_4 rfl rfl ?_)
                      refine r_cons (s_store H293 0 (.int .i64 ((c9 + 1 : Nat) : Int)) rfl rfl rfl sz_2 rfl (Nat.le_of_ble_eq_true rfl) rfl (cs' := #[.int .i64 ((drS (ackS s d.ack.v) c9 h9).frm.v), .int .i64 ((drS (ackS s d.ack.v) c9 h9).to_.v), .int .i64 ((drS (ackS s d.ack.v) c9 h9).slide : Int), .slice pp264 L266.length cc265, .int .i64 ((drS (ackS s d.ack.v) c9 h9).acked : Int), .int .i64 ((c9 + 1 : Nat) : Int), .map (some m263), .int .i64 ((drS (ackS s d.ack.v) c9 h9).clock : Int), .bool ((drS (ackS s d.ack.v) c9 h9).owes)]) rfl ?_); intro w294 H295
                      refine r_nil ?_
                      refine g_region ?_
                      refine r_cons (s_move (.slice p O.length c) rfl rfl ?_)
                      refine r_cons (s_move (.slice x9.p x9.data.length x9.c) rfl rfl ?_)
                      refine r_cons (s_buildSlice H295 1 1 (cs := #[.slice x9.p x9.data.length x9.c]) #[.slice none 0 0] el_32 ze_26 (by decide) (by decide) (by kernel_rfl) rfl ?_); intro bk296 w297 H298
                      refine r_cons (s_append H298 5 rfl rfl rfl (rd_blk (H298.blk_at (i := 0) rfl) rfl (Nat.le_of_ble_eq_true rfl) (by simp [Value.oneCell'])) ap_32 (by decide) (by unfold maxLen; omega) (by omega) (n' := O.length + 1) (xs' := O.flatMap byCell ++ ([.slice x9.p x9.data.length x9.c] : List Value)) (by omega) (by first | rfl | simp) rfl ?_); intro vv299 w300 H301 hn302
                      obtain ⟨pp303, cc304, rfl⟩ := Row.slice H301 (i := 5) rfl
                      refine r_cons (s_assign (.slice pp303 (O.length + 1) cc304) rfl rfl ?_)
                      refine r_nil ?_
                      refine g_inBlock ?_
                      have H305 : St W w300 (blk bk296 (.cells #[.slice x9.p x9.data.length x9.c] 26 (0, 0)) :: blk g (.cells #[.int .i64 ((drS (ackS s d.ack.v) c9 h9).frm.v), .int .i64 ((drS (ackS s d.ack.v) c9 h9).to_.v), .int .i64 ((drS (ackS s d.ack.v) c9 h9).slide : Int), .slice pp264 L266.length cc265, .int .i64 ((drS (ackS s d.ack.v) c9 h9).acked : Int), .int .i64 ((i64N (c9 + 1)).v), .map (some m263), .int .i64 ((drS (ackS s d.ack.v) c9 h9).clock : Int), .bool ((drS (ackS s d.ack.v) c9 h9).owes)] 62 (0, 0)) :: Row 79 3 (.slice pp264 L266.length cc265) L266.length (L266.flatMap bodCell) :: byA (L266.map BodD.by) :: byA (mby E267) :: Row 26 1 (.slice pp303 ((O ++ [x9]).length) cc304) ((O ++ [x9]).length) ((O ++ [x9]).flatMap byCell) :: byA O :: MapA m263 (ents (kI .i64) evD (adel E267 (i64N (drS (ackS s d.ack.v) c9 h9).came))) :: (F.set i emp)) := by rw [i64N_v (n := c9 + 1) (by omega), flat_app, flat_one, List.length_append]; exact H301
                      have H306 : St W w300 (Im 1 (.slice x9.p x9.data.length x9.c) x9.data.length (x9.data.flatMap u8c) :: blk bk296 (.cells #[.slice x9.p x9.data.length x9.c] 26 (0, 0)) :: blk g (.cells #[.int .i64 ((drS (ackS s d.ack.v) c9 h9).frm.v), .int .i64 ((drS (ackS s d.ack.v) c9 h9).to_.v), .int .i64 ((drS (ackS s d.ack.v) c9 h9).slide : Int), .slice pp264 L266.length cc265, .int .i64 ((drS (ackS s d.ack.v) c9 h9).acked : Int), .int .i64 ((i64N (c9 + 1)).v), .map (some m263), .int .i64 ((drS (ackS s d.ack.v) c9 h9).clock : Int), .bool ((drS (ackS s d.ack.v) c9 h9).owes)] 62 (0, 0)) :: Row 79 3 (.slice pp264 L266.length cc265) L266.length (L266.flatMap bodCell) :: byA (L266.map BodD.by) :: byA (mby E267) :: Row 26 1 (.slice pp303 ((O ++ [x9]).length) cc304) ((O ++ [x9]).length) ((O ++ [x9]).flatMap byCell) :: byA O :: MapA m263 (ents (kI .i64) evD (adel E267 (i64N (drS (ackS s d.ack.v) c9 h9).came))) :: (F.set i emp)) := byA_at H305 (i := 4) rfl (mby_get hx9)
                      have H307 := byA_add (x := x9) H306 (i := 7) (j := 0) rfl rfl snoc_b
                      have H308 := byA_sub (M := mby (adel E267 (i64N (drS (ackS s d.ack.v) c9 h9).came))) H307 (i := 6) rfl mby_del
                      have H309 : St W w300 (blk g (.cells #[.int .i64 ((drS (ackS s d.ack.v) c9 h9).frm.v), .int .i64 ((drS (ackS s d.ack.v) c9 h9).to_.v), .int .i64 ((drS (ackS s d.ack.v) c9 h9).slide : Int), .slice pp264 L266.length cc265, .int .i64 ((drS (ackS s d.ack.v) c9 h9).acked : Int), .int .i64 ((i64N (c9 + 1)).v), .map (some m263), .int .i64 ((drS (ackS s d.ack.v) c9 h9).clock : Int), .bool ((drS (ackS s d.ack.v) c9 h9).owes)] 62 (0, 0)) :: Row 79 3 (.slice pp264 L266.length cc265) L266.length (L266.flatMap bodCell) :: byA (L266.map BodD.by) :: MapA m263 (ents (kI .i64) evD (adel E267 (i64N (drS (ackS s d.ack.v) c9 h9).came))) :: byA (mby (adel E267 (i64N (drS (ackS s d.ack.v) c9 h9).came))) :: byA (O ++ [x9]) :: Im 1 (.slice x9.p x9.data.length x9.c) x9.data.length (x9.data.flatMap u8c) :: blk bk296 (.cells #[.slice x9.p x9.data.length x9.c] 26 (0, 0)) :: byA (mby E267) :: Row 26 1 (.slice pp303 ((O ++ [x9]).length) cc304) ((O ++ [x9]).length) ((O ++ [x9]).flatMap byCell) :: byA O :: (F.set i emp)) := ((((H308.move 10 rfl).move 7 rfl).move 7 rfl).move 7 rfl)
                      have H310 : St W w300 (LkA g (drS (ackS s d.ack.v) (c9 + 1) (adel h9 (i64N c9))) :: byA (O ++ [x9]) :: Im 1 (.slice x9.p x9.data.length x9.c) x9.data.length (x9.data.flatMap u8c) :: blk bk296 (.cells #[.slice x9.p x9.data.length x9.c] 26 (0, 0)) :: byA (mby E267) :: Row 26 1 (.slice pp303 ((O ++ [x9]).length) cc304) ((O ++ [x9]).length) ((O ++ [x9]).flatMap byCell) :: byA O :: (F.set i emp)) := St.shut_ex ⟨(m263, pp264, cc265, L266, (adel E267 (i64N (drS (ackS s d.ack.v) c9 h9).came))), hL268, (show mapB (adel E267 (i64N (drS (ackS s d.ack.v) c9 h9).came)) = adel h9 (i64N c9) from mapB_del hE269 _)⟩ (St.shut_star (ls := [blk g (.cells #[.int .i64 ((drS (ackS s d.ack.v) c9 h9).frm.v), .int .i64 ((drS (ackS s d.ack.v) c9 h9).to_.v), .int .i64 ((drS (ackS s d.ack.v) c9 h9).slide : Int), .slice pp264 L266.length cc265, .int .i64 ((drS (ackS s d.ack.v) c9 h9).acked : Int), .int .i64 ((i64N (c9 + 1)).v), .map (some m263), .int .i64 ((drS (ackS s d.ack.v) c9 h9).clock : Int), .bool ((drS (ackS s d.ack.v) c9 h9).owes)] 62 (0, 0)), Row 79 3 (.slice pp264 L266.length cc265) L266.length (L266.flatMap bodCell), byA (L266.map BodD.by), MapA m263 (ents (kI .i64) evD (adel E267 (i64N (drS (ackS s d.ack.v) c9 h9).came))), byA (mby (adel E267 (i64N (drS (ackS s d.ack.v) c9 h9).came)))]) H309)
                      have H311 : St W w300 (Row 26 1 (.slice pp303 ((O ++ [x9]).length) cc304) ((O ++ [x9]).length) ((O ++ [x9]).flatMap byCell) :: byA (O ++ [x9]) :: LkA g (drS (ackS s d.ack.v) (c9 + 1) (adel h9 (i64N c9))) :: (F.set i emp)) := ((((((H310.move 1 rfl).move 5 rfl).drop 3 rfl).drop 3 rfl).drop 3 rfl).drop 3 rfl)
                      exact nx261 (c9 + 1, adel h9 (i64N c9), (O ++ [x9]), pp303, cc304) _ _ ⟨(by rw [List.map_append]; exact hDr.step hg9), (by omega), (fun x hx => hh9 x (adel_sub hx)), (by rw [List.length_append]; have := adel_len (has_of_get hg9); simp only [List.length_cons, List.length_nil]; omega), H311⟩ (by first | (dsimp only; (have := adel_len (has_of_get hg9); omega)) | (have := adel_len (has_of_get hg9); omega)) ⟨by first | rfl | exact vint (by omega), by first | rfl | exact vint (by omega), by first | rfl | exact vint (by omega), by first | rfl | (show Value.slice _ _ _ = _; rw [List.length_append]; rfl), trivial⟩
            · skip
              refine r_cons (s_neq true rfl rfl (nfalse hc194) rfl ?_)
              refine r_nil ?_
              refine g_true rfl ?_
              refine g_seq ?_
              refine g_region ?_
              refine r_cons (s_assign (.slice none 0 0) rfl rfl ?_)
              refine r_cons (s_assign (.int .i64 0) rfl rfl ?_)
              refine r_nil ?_
              refine g_ret' [.slice none 0 0, .int .i64 0] Try.func21 Try.results21 ⟨rfl, rfl, trivial⟩ ?_
              have H312 := Row.nil_intro H192 26 1
              have H313 := byA_nil H312
              have H314 : St W w191 (Row 26 1 (.slice none 0 0) 0 [] :: byA ([] : List BytesD) :: LkA g (ackS s d.ack.v) :: blk bk7 (.cells #[.int .i64 d.frm.v, .int .i64 d.to_.v, .int .i64 d.kind.v, .int .i64 d.seq.v, .int .i64 d.ack.v, .slice pp1 d.body.length cc2] 41 (0, 0)) :: Im 1 (.slice pp1 d.body.length cc2) d.body.length (d.body.flatMap u8c) :: (F.set i emp)) := (H313.move 1 rfl)
              have hT9 : takeT s d = [] := takeT_no (fun h => by omega)
              have H315 : St W w191 (BysA none 0 (takeT s d) :: LkA g (ackS s d.ack.v) :: blk bk7 (.cells #[.int .i64 d.frm.v, .int .i64 d.to_.v, .int .i64 d.kind.v, .int .i64 d.seq.v, .int .i64 d.ack.v, .slice pp1 d.body.length cc2] 41 (0, 0)) :: Im 1 (.slice pp1 d.body.length cc2) d.body.length (d.body.flatMap u8c) :: (F.set i emp)) := by rw [hT9]; exact St.shut_ex ⟨[], rfl⟩ (St.shut_star (ls := [Row 26 1 (.slice none 0 0) 0 [], byA ([] : List BytesD)]) H314)
              have H316 : St W w191 (BysA none 0 (takeT s d) :: LkA g (takeS s d) :: blk bk7 (.cells #[.int .i64 d.frm.v, .int .i64 d.to_.v, .int .i64 d.kind.v, .int .i64 d.seq.v, .int .i64 d.ack.v, .slice pp1 d.body.length cc2] 41 (0, 0)) :: Im 1 (.slice pp1 d.body.length cc2) d.body.length (d.body.flatMap u8c) :: (F.set i emp)) := by rw [takeS_ack hE (by omega)]; exact H315
              have H317 : St W w191 (BysA none 0 (takeT s d) :: LkA g (takeS s d) :: (F.set i emp)) := ((((H316.move 1 rfl).move 1 rfl).drop 2 rfl).drop 2 rfl)
              have H318 : St W w191 (LkA g (takeS s d) :: (BysA none 0 (takeT s d) :: F).set (i + 1) emp) := (H317.move 1 rfl)
              exact ⟨none, 0, by rw [hE, hT9]; rfl, St.back (i := i + 1) (by exact hi) H318⟩
          · intro join190
            refine g_false rfl ?_
            refine g_skip ?_
            have ha9 : ¬ (s.acked : Int) < d.ack.v := by omega
            have H319 : St W w41 (LkA g s :: blk bk7 (.cells #[.int .i64 d.frm.v, .int .i64 d.to_.v, .int .i64 d.kind.v, .int .i64 d.seq.v, .int .i64 d.ack.v, .slice pp1 d.body.length cc2] 41 (0, 0)) :: Im 1 (.slice pp1 d.body.length cc2) d.body.length (d.body.flatMap u8c) :: (F.set i emp)) := St.shut_ex ⟨(m16, pp17, cc18, L19, E20), hL21, hE22⟩ (St.shut_star (ls := [blk g (.cells #[.int .i64 s.frm.v, .int .i64 s.to_.v, .int .i64 (s.slide : Int), .slice pp17 L19.length cc18, .int .i64 (s.acked : Int), .int .i64 ((i64N s.came).v), .map (some m16), .int .i64 (s.clock : Int), .bool s.owes] 62 (0, 0)), Row 79 3 (.slice pp17 L19.length cc18) L19.length (L19.flatMap bodCell), byA (L19.map BodD.by), MapA m16 (ents (kI .i64) evD E20), byA (mby E20)]) H42)
            have H320 : St W w41 (LkA g (ackS s d.ack.v) :: blk bk7 (.cells #[.int .i64 d.frm.v, .int .i64 d.to_.v, .int .i64 d.kind.v, .int .i64 d.seq.v, .int .i64 d.ack.v, .slice pp1 d.body.length cc2] 41 (0, 0)) :: Im 1 (.slice pp1 d.body.length cc2) d.body.length (d.body.flatMap u8c) :: (F.set i emp)) := by rw [ackS_no ha9]; exact H319
            have H321 : St W w41 (LkA g (ackS s d.ack.v) :: blk bk7 (.cells #[.int .i64 d.frm.v, .int .i64 d.to_.v, .int .i64 d.kind.v, .int .i64 d.seq.v, .int .i64 d.ack.v, .slice pp1 d.body.length cc2] 41 (0, 0)) :: Im 1 (.slice pp1 d.body.length cc2) d.body.length (d.body.flatMap u8c) :: (F.set i emp)) := (((H320.move 2 rfl).move 2 rfl).move 2 rfl)
            exact join190 (()) _ _ ⟨trivial, H321⟩ ⟨by first | rfl | exact vint (by omega), by first | rfl | exact vint (by omega), by first | rfl | exact vint (by omega), by first | rfl | exact vint (by omega), trivial⟩
    · intro join28
      refine g_quiet (fun w' => St W w' (blk g (.cells #[.int .i64 s.frm.v, .int .i64 s.to_.v, .int .i64 (s.slide : Int), .slice pp17 L19.length cc18, .int .i64 (s.acked : Int), .int .i64 ((i64N s.came).v), .map (some m16), .int .i64 (s.clock : Int), .bool s.owes] 62 (0, 0)) :: Row 79 3 (.slice pp17 L19.length cc18) L19.length (L19.flatMap bodCell) :: byA (L19.map BodD.by) :: MapA m16 (ents (kI .i64) evD E20) :: byA (mby E20) :: blk bk7 (.cells #[.int .i64 d.frm.v, .int .i64 d.to_.v, .int .i64 d.kind.v, .int .i64 d.seq.v, .int .i64 d.ack.v, .slice pp1 d.body.length cc2] 41 (0, 0)) :: Im 1 (.slice pp1 d.body.length cc2) d.body.length (d.body.flatMap u8c) :: (F.set i emp))) mixed (by kernel_rfl) H27.drew ?_
      refine q_cons (q_val rfl rfl rfl (by intro w hw; exact x_fieldAddr 41 0 0 0 3 rfl fi_41_0 rfl w) ?_)
      refine q_cons (q_val rfl rfl rfl (by intro w hw; exact x_load (.int .i64 d.frm.v) ag_3 rfl (hw.blk_at (i := 5) rfl) rfl) ?_)
      refine q_cons (q_val rfl rfl rfl (by intro w hw; exact x_move (.pointer (some ⟨g, 0, none⟩)) rfl w) ?_)
      refine q_cons (q_val rfl rfl rfl (by intro w hw; exact x_nilCheck (.pointer (some ⟨g, 0, none⟩)) rfl ⟨_, rfl⟩ w) ?_)
      refine q_cons (q_val rfl rfl rfl (by intro w hw; exact x_fieldAddr 62 0 0 0 46 rfl fi_62_0 rfl w) ?_)
      refine q_cons (q_val rfl rfl rfl (by intro w hw; exact x_fieldAddr 46 1 1 1 3 rfl fi_46_1 rfl w) ?_)
      refine q_cons (q_val rfl rfl rfl (by intro w hw; exact x_load (.int .i64 s.to_.v) ag_3 rfl (hw.blk_at (i := 0) rfl) rfl) ?_)
      by_cases hc322 : d.frm.v = s.to_.v
      · skip
        refine q_cons (q_val rfl rfl rfl (by intro w hw; exact x_neq false rfl rfl (ntrue hc322) w) ?_)
        refine q_cons (q_val rfl rfl rfl (by intro w hw; exact x_move (.bool false) rfl w) ?_)
        refine q_cons (q_take rfl rfl ?_)
        refine q_val rfl rfl rfl (by intro w hw; exact x_fieldAddr 41 1 1 1 3 rfl fi_41_1 rfl w) ?_
        refine q_cons (q_take rfl rfl ?_)
        refine q_val rfl rfl rfl (by intro w hw; exact x_load (.int .i64 d.to_.v) ag_3 rfl (hw.blk_at (i := 5) rfl) rfl) ?_
        refine q_cons (q_take rfl rfl ?_)
        refine q_val rfl rfl rfl (by intro w hw; exact x_move (.pointer (some ⟨g, 0, none⟩)) rfl w) ?_
        refine q_cons (q_take rfl rfl ?_)
        refine q_val rfl rfl rfl (by intro w hw; exact x_nilCheck (.pointer (some ⟨g, 0, none⟩)) rfl ⟨_, rfl⟩ w) ?_
        refine q_cons (q_take rfl rfl ?_)
        refine q_val rfl rfl rfl (by intro w hw; exact x_fieldAddr 62 0 0 0 46 rfl fi_62_0 rfl w) ?_
        refine q_cons (q_take rfl rfl ?_)
        refine q_val rfl rfl rfl (by intro w hw; exact x_fieldAddr 46 0 0 0 3 rfl fi_46_0 rfl w) ?_
        refine q_cons (q_take rfl rfl ?_)
        refine q_val rfl rfl rfl (by intro w hw; exact x_load (.int .i64 s.frm.v) ag_3 rfl (hw.blk_at (i := 0) rfl) rfl) ?_
        refine q_cons (q_take rfl rfl ?_)
        by_cases hc323 : d.to_.v = s.frm.v
        · skip
          refine q_val rfl rfl rfl (by intro w hw; exact x_neq false rfl rfl (ntrue hc323) w) ?_
          refine q_cons (q_val rfl rfl rfl (by intro w hw; exact x_pick_f (.bool false) rfl rfl w) ?_)
          refine q_cons (q_val rfl rfl rfl (by intro w hw; exact x_move (.bool false) rfl w) ?_)
          refine q_cons (q_take rfl rfl ?_)
          refine q_val rfl rfl rfl (by intro w hw; exact x_fieldAddr 41 4 4 4 2 rfl fi_41_4 rfl w) ?_
          refine q_cons (q_take rfl rfl ?_)
          refine q_val rfl rfl rfl (by intro w hw; exact x_load (.int .i64 d.ack.v) ag_2 rfl (hw.blk_at (i := 5) rfl) rfl) ?_
          refine q_cons (q_take rfl rfl ?_)
          refine q_val rfl rfl rfl (by intro w hw; exact x_move (.pointer (some ⟨g, 0, none⟩)) rfl w) ?_
          refine q_cons (q_take rfl rfl ?_)
          refine q_val rfl rfl rfl (by intro w hw; exact x_nilCheck (.pointer (some ⟨g, 0, none⟩)) rfl ⟨_, rfl⟩ w) ?_
          refine q_cons (q_take rfl rfl ?_)
          refine q_val rfl rfl rfl (by intro w hw; exact x_fieldAddr 62 3 4 4 2 rfl fi_62_3 rfl w) ?_
          refine q_cons (q_take rfl rfl ?_)
          refine q_val rfl rfl rfl (by intro w hw; exact x_load (.int .i64 (s.acked : Int)) ag_2 rfl (hw.blk_at (i := 0) rfl) rfl) ?_
          refine q_cons (q_take rfl rfl ?_)
          refine q_val rfl rfl rfl (by intro w hw; exact x_move (.pointer (some ⟨g, 0, none⟩)) rfl w) ?_
          refine q_cons (q_take rfl rfl ?_)
          refine q_enter (args := #[.pointer (some ⟨g, 0, none⟩)]) (v := .int .i64 (under s : Int)) rfl rfl rfl (x_call pl_16 [.pointer (some ⟨g, 0, none⟩)] rfl) (fun w hw => Lo_Under g m16 s pp17 cc18 L19 hL21 (Nat.le_trans (Nat.le_add_left _ _) hok.2.2.1) (i := 0) (j := 1) rfl rfl hw) ?_
          refine q_cons (q_take rfl rfl ?_)
          refine q_val rfl rfl rfl (by intro w hw; exact x_add ((s.acked : Int) + (under s : Int)) rfl rfl (wi64 (by omega)) w) ?_
          refine q_cons (q_take rfl rfl ?_)
          by_cases hc324 : (s.acked : Int) + (under s : Int) < d.ack.v
          · skip
            refine q_val rfl rfl rfl (by intro w hw; exact x_gtr true rfl rfl (dtrue hc324) w) ?_
            refine q_cons (q_val rfl rfl rfl (by intro w hw; exact x_pick_f (.bool true) rfl rfl w) ?_)
            refine q_cons (q_val rfl rfl rfl (by intro w hw; exact x_move (.bool true) rfl w) ?_)
            refine q_cons (q_pass rfl rfl rfl rfl rfl ?_)
            refine q_cons (q_pass rfl rfl rfl rfl rfl ?_)
            refine q_cons (q_pass rfl rfl rfl rfl rfl ?_)
            refine q_cons (q_pass rfl rfl rfl rfl rfl ?_)
            refine q_cons (q_passN rfl rfl rfl rfl ?_)
            refine q_cons (q_passN rfl rfl rfl rfl ?_)
            refine q_cons (q_passN rfl rfl rfl rfl ?_)
            refine q_cons (q_passN rfl rfl rfl rfl ?_)
            refine q_cons (q_passN rfl rfl rfl rfl ?_)
            refine q_cons (q_passN rfl rfl rfl rfl ?_)
            refine q_cons (q_passN rfl rfl rfl rfl ?_)
            refine q_cons (q_passN rfl rfl rfl rfl ?_)
            refine q_cons (q_pass rfl rfl rfl rfl rfl ?_)
            refine q_cons (q_val rfl rfl rfl (by intro w hw; exact x_pick_t (.bool true) rfl rfl w) ?_)
            refine q_nil ?_
            intro w325 H326
            have H327 : St W w325 (blk g (.cells #[.int .i64 s.frm.v, .int .i64 s.to_.v, .int .i64 (s.slide : Int), .slice pp17 L19.length cc18, .int .i64 (s.acked : Int), .int .i64 ((i64N s.came).v), .map (some m16), .int .i64 (s.clock : Int), .bool s.owes] 62 (0, 0)) :: Row 79 3 (.slice pp17 L19.length cc18) L19.length (L19.flatMap bodCell) :: byA (L19.map BodD.by) :: MapA m16 (ents (kI .i64) evD E20) :: byA (mby E20) :: blk bk7 (.cells #[.int .i64 d.frm.v, .int .i64 d.to_.v, .int .i64 d.kind.v, .int .i64 d.seq.v, .int .i64 d.ack.v, .slice pp1 d.body.length cc2] 41 (0, 0)) :: Im 1 (.slice pp1 d.body.length cc2) d.body.length (d.body.flatMap u8c) :: (F.set i emp)) := (((((((H326.move 6 rfl).move 6 rfl).move 6 rfl).move 6 rfl).move 6 rfl).move 6 rfl).move 6 rfl)
            exact join28 (()) _ _ ⟨trivial, H327⟩ ⟨by first | rfl | exact vint (by omega), by first | rfl | exact vint (by omega), by first | rfl | exact vint (by omega), by first | rfl | exact vint (by omega), congrArg Value.bool (show true = stray s d from (decide_eq_true (by omega)).symm), trivial⟩
          · skip
            refine q_val rfl rfl rfl (by intro w hw; exact x_gtr false rfl rfl (dfalse hc324) w) ?_
            refine q_cons (q_val rfl rfl rfl (by intro w hw; exact x_pick_f (.bool false) rfl rfl w) ?_)
            refine q_cons (q_val rfl rfl rfl (by intro w hw; exact x_move (.bool false) rfl w) ?_)
            refine q_cons (q_take rfl rfl ?_)
            refine q_val rfl rfl rfl (by intro w hw; exact x_fieldAddr 41 2 2 2 3 rfl fi_41_2 rfl w) ?_
            refine q_cons (q_take rfl rfl ?_)
            refine q_val rfl rfl rfl (by intro w hw; exact x_load (.int .i64 d.kind.v) ag_3 rfl (hw.blk_at (i := 5) rfl) rfl) ?_
            refine q_cons (q_take rfl rfl ?_)
            by_cases hc328 : d.kind.v = 1
            · skip
              refine q_val rfl rfl rfl (by intro w hw; exact x_eql true rfl rfl (dtrue hc328) w) ?_
              refine q_cons (q_take rfl rfl ?_)
              refine q_val rfl rfl rfl (by intro w hw; exact x_move (.bool true) rfl w) ?_
              refine q_cons (q_take rfl rfl ?_)
              refine q_val rfl rfl rfl (by intro w hw; exact x_fieldAddr 41 3 3 3 2 rfl fi_41_3 rfl w) ?_
              refine q_cons (q_take rfl rfl ?_)
              refine q_val rfl rfl rfl (by intro w hw; exact x_load (.int .i64 d.seq.v) ag_2 rfl (hw.blk_at (i := 5) rfl) rfl) ?_
              refine q_cons (q_take rfl rfl ?_)
              refine q_val rfl rfl rfl (by intro w hw; exact x_move (.pointer (some ⟨g, 0, none⟩)) rfl w) ?_
              refine q_cons (q_take rfl rfl ?_)
              refine q_val rfl rfl rfl (by intro w hw; exact x_nilCheck (.pointer (some ⟨g, 0, none⟩)) rfl ⟨_, rfl⟩ w) ?_
              refine q_cons (q_take rfl rfl ?_)
              refine q_val rfl rfl rfl (by intro w hw; exact x_fieldAddr 62 4 5 5 2 rfl fi_62_4 rfl w) ?_
              refine q_cons (q_take rfl rfl ?_)
              refine q_val rfl rfl rfl (by intro w hw; exact x_load (.int .i64 ((i64N s.came).v)) ag_2 rfl (hw.blk_at (i := 0) rfl) rfl) ?_
              refine q_cons (q_take rfl rfl ?_)
              refine q_val rfl rfl rfl (by intro w hw; exact x_add ((i64N s.came).v + 64) rfl rfl (wi64 (by omega)) w) ?_
              refine q_cons (q_take rfl rfl ?_)
              by_cases hc329 : (i64N s.came).v + 64 ≤ d.seq.v
              · skip
                refine q_val rfl rfl rfl (by intro w hw; exact x_geq true rfl rfl (dtrue hc329) w) ?_
                refine q_cons (q_take rfl rfl ?_)
                refine q_val rfl rfl rfl (by intro w hw; exact x_pick_t (.bool true) rfl rfl w) ?_
                refine q_cons (q_val rfl rfl rfl (by intro w hw; exact x_pick_f (.bool true) rfl rfl w) ?_)
                refine q_nil ?_
                intro w330 H331
                have H332 : St W w330 (blk g (.cells #[.int .i64 s.frm.v, .int .i64 s.to_.v, .int .i64 (s.slide : Int), .slice pp17 L19.length cc18, .int .i64 (s.acked : Int), .int .i64 ((i64N s.came).v), .map (some m16), .int .i64 (s.clock : Int), .bool s.owes] 62 (0, 0)) :: Row 79 3 (.slice pp17 L19.length cc18) L19.length (L19.flatMap bodCell) :: byA (L19.map BodD.by) :: MapA m16 (ents (kI .i64) evD E20) :: byA (mby E20) :: blk bk7 (.cells #[.int .i64 d.frm.v, .int .i64 d.to_.v, .int .i64 d.kind.v, .int .i64 d.seq.v, .int .i64 d.ack.v, .slice pp1 d.body.length cc2] 41 (0, 0)) :: Im 1 (.slice pp1 d.body.length cc2) d.body.length (d.body.flatMap u8c) :: (F.set i emp)) := (((((((H331.move 6 rfl).move 6 rfl).move 6 rfl).move 6 rfl).move 6 rfl).move 6 rfl).move 6 rfl)
                exact join28 (()) _ _ ⟨trivial, H332⟩ ⟨by first | rfl | exact vint (by omega), by first | rfl | exact vint (by omega), by first | rfl | exact vint (by omega), by first | rfl | exact vint (by omega), congrArg Value.bool (show true = stray s d from (decide_eq_true (by omega)).symm), trivial⟩
              · skip
                refine q_val rfl rfl rfl (by intro w hw; exact x_geq false rfl rfl (dfalse hc329) w) ?_
                refine q_cons (q_take rfl rfl ?_)
                refine q_val rfl rfl rfl (by intro w hw; exact x_pick_t (.bool false) rfl rfl w) ?_
                refine q_cons (q_val rfl rfl rfl (by intro w hw; exact x_pick_f (.bool false) rfl rfl w) ?_)
                refine q_nil ?_
                intro w333 H334
                have H335 : St W w333 (blk g (.cells #[.int .i64 s.frm.v, .int .i64 s.to_.v, .int .i64 (s.slide : Int), .slice pp17 L19.length cc18, .int .i64 (s.acked : Int), .int .i64 ((i64N s.came).v), .map (some m16), .int .i64 (s.clock : Int), .bool s.owes] 62 (0, 0)) :: Row 79 3 (.slice pp17 L19.length cc18) L19.length (L19.flatMap bodCell) :: byA (L19.map BodD.by) :: MapA m16 (ents (kI .i64) evD E20) :: byA (mby E20) :: blk bk7 (.cells #[.int .i64 d.frm.v, .int .i64 d.to_.v, .int .i64 d.kind.v, .int .i64 d.seq.v, .int .i64 d.ack.v, .slice pp1 d.body.length cc2] 41 (0, 0)) :: Im 1 (.slice pp1 d.body.length cc2) d.body.length (d.body.flatMap u8c) :: (F.set i emp)) := (((((((H334.move 6 rfl).move 6 rfl).move 6 rfl).move 6 rfl).move 6 rfl).move 6 rfl).move 6 rfl)
                exact join28 (()) _ _ ⟨trivial, H335⟩ ⟨by first | rfl | exact vint (by omega), by first | rfl | exact vint (by omega), by first | rfl | exact vint (by omega), by first | rfl | exact vint (by omega), congrArg Value.bool (show false = stray s d from (decide_eq_false (by omega)).symm), trivial⟩
            · skip
              refine q_val rfl rfl rfl (by intro w hw; exact x_eql false rfl rfl (dfalse hc328) w) ?_
              refine q_cons (q_take rfl rfl ?_)
              refine q_val rfl rfl rfl (by intro w hw; exact x_move (.bool false) rfl w) ?_
              refine q_cons (q_pass rfl rfl rfl rfl rfl ?_)
              refine q_cons (q_pass rfl rfl rfl rfl rfl ?_)
              refine q_cons (q_pass rfl rfl rfl rfl rfl ?_)
              refine q_cons (q_pass rfl rfl rfl rfl rfl ?_)
              refine q_cons (q_pass rfl rfl rfl rfl rfl ?_)
              refine q_cons (q_pass rfl rfl rfl rfl rfl ?_)
              refine q_cons (q_pass rfl rfl rfl rfl rfl ?_)
              refine q_cons (q_pass rfl rfl rfl rfl rfl ?_)
              refine q_cons (q_take rfl rfl ?_)
              refine q_val rfl rfl rfl (by intro w hw; exact x_pick_f (.bool false) rfl rfl w) ?_
              refine q_cons (q_val rfl rfl rfl (by intro w hw; exact x_pick_f (.bool false) rfl rfl w) ?_)
              refine q_nil ?_
              intro w336 H337
              have H338 : St W w336 (blk g (.cells #[.int .i64 s.frm.v, .int .i64 s.to_.v, .int .i64 (s.slide : Int), .slice pp17 L19.length cc18, .int .i64 (s.acked : Int), .int .i64 ((i64N s.came).v), .map (some m16), .int .i64 (s.clock : Int), .bool s.owes] 62 (0, 0)) :: Row 79 3 (.slice pp17 L19.length cc18) L19.length (L19.flatMap bodCell) :: byA (L19.map BodD.by) :: MapA m16 (ents (kI .i64) evD E20) :: byA (mby E20) :: blk bk7 (.cells #[.int .i64 d.frm.v, .int .i64 d.to_.v, .int .i64 d.kind.v, .int .i64 d.seq.v, .int .i64 d.ack.v, .slice pp1 d.body.length cc2] 41 (0, 0)) :: Im 1 (.slice pp1 d.body.length cc2) d.body.length (d.body.flatMap u8c) :: (F.set i emp)) := (((((((H337.move 6 rfl).move 6 rfl).move 6 rfl).move 6 rfl).move 6 rfl).move 6 rfl).move 6 rfl)
              exact join28 (()) _ _ ⟨trivial, H338⟩ ⟨by first | rfl | exact vint (by omega), by first | rfl | exact vint (by omega), by first | rfl | exact vint (by omega), by first | rfl | exact vint (by omega), congrArg Value.bool (show false = stray s d from (decide_eq_false (by omega)).symm), trivial⟩
        · skip
          refine q_val rfl rfl rfl (by intro w hw; exact x_neq true rfl rfl (nfalse hc323) w) ?_
          refine q_cons (q_val rfl rfl rfl (by intro w hw; exact x_pick_f (.bool true) rfl rfl w) ?_)
          refine q_cons (q_val rfl rfl rfl (by intro w hw; exact x_move (.bool true) rfl w) ?_)
          refine q_cons (q_pass rfl rfl rfl rfl rfl ?_)
          refine q_cons (q_pass rfl rfl rfl rfl rfl ?_)
          refine q_cons (q_pass rfl rfl rfl rfl rfl ?_)
          refine q_cons (q_pass rfl rfl rfl rfl rfl ?_)
          refine q_cons (q_pass rfl rfl rfl rfl rfl ?_)
          refine q_cons (q_pass rfl rfl rfl rfl rfl ?_)
          refine q_cons (q_pass rfl rfl rfl rfl rfl ?_)
          refine q_cons (q_pass rfl rfl rfl rfl rfl ?_)
          refine q_cons (q_pass rfl rfl rfl rfl rfl ?_)
          refine q_cons (q_pass rfl rfl rfl rfl rfl ?_)
          refine q_cons (q_val rfl rfl rfl (by intro w hw; exact x_pick_t (.bool true) rfl rfl w) ?_)
          refine q_cons (q_val rfl rfl rfl (by intro w hw; exact x_move (.bool true) rfl w) ?_)
          refine q_cons (q_pass rfl rfl rfl rfl rfl ?_)
          refine q_cons (q_pass rfl rfl rfl rfl rfl ?_)
          refine q_cons (q_pass rfl rfl rfl rfl rfl ?_)
          refine q_cons (q_pass rfl rfl rfl rfl rfl ?_)
          refine q_cons (q_passN rfl rfl rfl rfl ?_)
          refine q_cons (q_passN rfl rfl rfl rfl ?_)
          refine q_cons (q_passN rfl rfl rfl rfl ?_)
          refine q_cons (q_passN rfl rfl rfl rfl ?_)
          refine q_cons (q_passN rfl rfl rfl rfl ?_)
          refine q_cons (q_passN rfl rfl rfl rfl ?_)
          refine q_cons (q_passN rfl rfl rfl rfl ?_)
          refine q_cons (q_passN rfl rfl rfl rfl ?_)
          refine q_cons (q_pass rfl rfl rfl rfl rfl ?_)
          refine q_cons (q_val rfl rfl rfl (by intro w hw; exact x_pick_t (.bool true) rfl rfl w) ?_)
          refine q_nil ?_
          intro w339 H340
          have H341 : St W w339 (blk g (.cells #[.int .i64 s.frm.v, .int .i64 s.to_.v, .int .i64 (s.slide : Int), .slice pp17 L19.length cc18, .int .i64 (s.acked : Int), .int .i64 ((i64N s.came).v), .map (some m16), .int .i64 (s.clock : Int), .bool s.owes] 62 (0, 0)) :: Row 79 3 (.slice pp17 L19.length cc18) L19.length (L19.flatMap bodCell) :: byA (L19.map BodD.by) :: MapA m16 (ents (kI .i64) evD E20) :: byA (mby E20) :: blk bk7 (.cells #[.int .i64 d.frm.v, .int .i64 d.to_.v, .int .i64 d.kind.v, .int .i64 d.seq.v, .int .i64 d.ack.v, .slice pp1 d.body.length cc2] 41 (0, 0)) :: Im 1 (.slice pp1 d.body.length cc2) d.body.length (d.body.flatMap u8c) :: (F.set i emp)) := (((((((H340.move 6 rfl).move 6 rfl).move 6 rfl).move 6 rfl).move 6 rfl).move 6 rfl).move 6 rfl)
          exact join28 (()) _ _ ⟨trivial, H341⟩ ⟨by first | rfl | exact vint (by omega), by first | rfl | exact vint (by omega), by first | rfl | exact vint (by omega), by first | rfl | exact vint (by omega), congrArg Value.bool (show true = stray s d from (decide_eq_true (by omega)).symm), trivial⟩
      · skip
        refine q_cons (q_val rfl rfl rfl (by intro w hw; exact x_neq true rfl rfl (nfalse hc322) w) ?_)
        refine q_cons (q_val rfl rfl rfl (by intro w hw; exact x_move (.bool true) rfl w) ?_)
        refine q_cons (q_pass rfl rfl rfl rfl rfl ?_)
        refine q_cons (q_pass rfl rfl rfl rfl rfl ?_)
        refine q_cons (q_pass rfl rfl rfl rfl rfl ?_)
        refine q_cons (q_pass rfl rfl rfl rfl rfl ?_)
        refine q_cons (q_pass rfl rfl rfl rfl rfl ?_)
        refine q_cons (q_pass rfl rfl rfl rfl rfl ?_)
        refine q_cons (q_pass rfl rfl rfl rfl rfl ?_)
        refine q_cons (q_pass rfl rfl rfl rfl rfl ?_)
        refine q_cons (q_val rfl rfl rfl (by intro w hw; exact x_pick_t (.bool true) rfl rfl w) ?_)
        refine q_cons (q_val rfl rfl rfl (by intro w hw; exact x_move (.bool true) rfl w) ?_)
        refine q_cons (q_pass rfl rfl rfl rfl rfl ?_)
        refine q_cons (q_pass rfl rfl rfl rfl rfl ?_)
        refine q_cons (q_pass rfl rfl rfl rfl rfl ?_)
        refine q_cons (q_pass rfl rfl rfl rfl rfl ?_)
        refine q_cons (q_pass rfl rfl rfl rfl rfl ?_)
        refine q_cons (q_pass rfl rfl rfl rfl rfl ?_)
        refine q_cons (q_pass rfl rfl rfl rfl rfl ?_)
        refine q_cons (q_pass rfl rfl rfl rfl rfl ?_)
        refine q_cons (q_pass rfl rfl rfl rfl rfl ?_)
        refine q_cons (q_pass rfl rfl rfl rfl rfl ?_)
        refine q_cons (q_val rfl rfl rfl (by intro w hw; exact x_pick_t (.bool true) rfl rfl w) ?_)
        refine q_cons (q_val rfl rfl rfl (by intro w hw; exact x_move (.bool true) rfl w) ?_)
        refine q_cons (q_pass rfl rfl rfl rfl rfl ?_)
        refine q_cons (q_pass rfl rfl rfl rfl rfl ?_)
        refine q_cons (q_pass rfl rfl rfl rfl rfl ?_)
        refine q_cons (q_pass rfl rfl rfl rfl rfl ?_)
        refine q_cons (q_passN rfl rfl rfl rfl ?_)
        refine q_cons (q_passN rfl rfl rfl rfl ?_)
        refine q_cons (q_passN rfl rfl rfl rfl ?_)
        refine q_cons (q_passN rfl rfl rfl rfl ?_)
        refine q_cons (q_passN rfl rfl rfl rfl ?_)
        refine q_cons (q_passN rfl rfl rfl rfl ?_)
        refine q_cons (q_passN rfl rfl rfl rfl ?_)
        refine q_cons (q_passN rfl rfl rfl rfl ?_)
        refine q_cons (q_pass rfl rfl rfl rfl rfl ?_)
        refine q_cons (q_val rfl rfl rfl (by intro w hw; exact x_pick_t (.bool true) rfl rfl w) ?_)
        refine q_nil ?_
        intro w342 H343
        have H344 : St W w342 (blk g (.cells #[.int .i64 s.frm.v, .int .i64 s.to_.v, .int .i64 (s.slide : Int), .slice pp17 L19.length cc18, .int .i64 (s.acked : Int), .int .i64 ((i64N s.came).v), .map (some m16), .int .i64 (s.clock : Int), .bool s.owes] 62 (0, 0)) :: Row 79 3 (.slice pp17 L19.length cc18) L19.length (L19.flatMap bodCell) :: byA (L19.map BodD.by) :: MapA m16 (ents (kI .i64) evD E20) :: byA (mby E20) :: blk bk7 (.cells #[.int .i64 d.frm.v, .int .i64 d.to_.v, .int .i64 d.kind.v, .int .i64 d.seq.v, .int .i64 d.ack.v, .slice pp1 d.body.length cc2] 41 (0, 0)) :: Im 1 (.slice pp1 d.body.length cc2) d.body.length (d.body.flatMap u8c) :: (F.set i emp)) := (((((((H343.move 6 rfl).move 6 rfl).move 6 rfl).move 6 rfl).move 6 rfl).move 6 rfl).move 6 rfl)
        exact join28 (()) _ _ ⟨trivial, H344⟩ ⟨by first | rfl | exact vint (by omega), by first | rfl | exact vint (by omega), by first | rfl | exact vint (by omega), by first | rfl | exact vint (by omega), congrArg Value.bool (show true = stray s d from (decide_eq_true (by omega)).symm), trivial⟩
  · skip
    refine r_cons (s_neq true rfl rfl (nfalse hc14) rfl ?_)
    refine r_nil ?_
    refine g_true rfl ?_
    refine g_seq ?_
    refine g_region ?_
    refine r_cons (s_move (.int .i64 (dgE d)) rfl rfl ?_)
    refine r_cons (s_assign (.slice none 0 0) rfl rfl ?_)
    refine r_cons (s_assign (.int .i64 (dgE d)) rfl rfl ?_)
    refine r_nil ?_
    refine g_ret' [.slice none 0 0, .int .i64 (dgE d)] Try.func21 Try.results21 ⟨rfl, rfl, trivial⟩ ?_
    have hE : takeE s d = dgE d := takeE_no (by omega)
    have hE0 : ¬ takeE s d = 0 := by omega
    have H345 := Row.nil_intro H13 26 1
    have H346 := byA_nil H345
    have H347 : St W w12 (Row 26 1 (.slice none 0 0) 0 [] :: byA ([] : List BytesD) :: blk bk7 (.cells #[.int .i64 d.frm.v, .int .i64 d.to_.v, .int .i64 d.kind.v, .int .i64 d.seq.v, .int .i64 d.ack.v, .slice pp1 d.body.length cc2] 41 (0, 0)) :: LkA g s :: Im 1 (.slice pp1 d.body.length cc2) d.body.length (d.body.flatMap u8c) :: (F.set i emp)) := (H346.move 1 rfl)
    have hT9 : takeT s d = [] := takeT_no (fun h => hE0 h.1)
    have H348 : St W w12 (BysA none 0 (takeT s d) :: blk bk7 (.cells #[.int .i64 d.frm.v, .int .i64 d.to_.v, .int .i64 d.kind.v, .int .i64 d.seq.v, .int .i64 d.ack.v, .slice pp1 d.body.length cc2] 41 (0, 0)) :: LkA g s :: Im 1 (.slice pp1 d.body.length cc2) d.body.length (d.body.flatMap u8c) :: (F.set i emp)) := by rw [hT9]; exact St.shut_ex ⟨[], rfl⟩ (St.shut_star (ls := [Row 26 1 (.slice none 0 0) 0 [], byA ([] : List BytesD)]) H347)
    have H349 : St W w12 (BysA none 0 (takeT s d) :: blk bk7 (.cells #[.int .i64 d.frm.v, .int .i64 d.to_.v, .int .i64 d.kind.v, .int .i64 d.seq.v, .int .i64 d.ack.v, .slice pp1 d.body.length cc2] 41 (0, 0)) :: LkA g (takeS s d) :: Im 1 (.slice pp1 d.body.length cc2) d.body.length (d.body.flatMap u8c) :: (F.set i emp)) := by rw [takeS_no hE0]; exact H348
    have H350 : St W w12 (BysA none 0 (takeT s d) :: LkA g (takeS s d) :: (F.set i emp)) := ((((H349.move 2 rfl).move 1 rfl).drop 2 rfl).drop 2 rfl)
    have H351 : St W w12 (LkA g (takeS s d) :: (BysA none 0 (takeT s d) :: F).set (i + 1) emp) := (H350.move 1 rfl)
    exact ⟨none, 0, by rw [hE, hT9]; rfl, St.back (i := i + 1) (by exact hi) H351⟩
/-- An end: the document's. -/
def RfA (g : Nat) (s : EndV) : Atom := ex fun q : {q : RfQ // RfOk q s} => star [blk g (.cells #[.int .i64 s.frm.v, .int .i64 s.to_.v, .int .i64 (s.slide : Int), .slice q.1.p q.1.L.length q.1.c, .int .i64 (s.acked : Int), .int .i64 ((i64N s.came).v), .slice q.1.p2 q.1.H.length q.1.c2, .int .i64 (s.clock : Int), .bool s.owes] 86 (0, 0)), Row 101 3 (.slice q.1.p q.1.L.length q.1.c) q.1.L.length (q.1.L.flatMap bodCell), byA (q.1.L.map BodD.by), Row 105 2 (.slice q.1.p2 q.1.H.length q.1.c2) q.1.H.length (q.1.H.flatMap hlCell), byA (mby q.1.H)]
set_option maxHeartbeats 4000000 in
set_option maxRecDepth 100000 in
theorem ref21_broker {W w : World} {F : List Atom} (n : Int) (H : St W w F) : Calls Try.prog 36 #[.int .i64 n] w (Ret fun v w' => v = .bool (brB n) ∧ St W w' F) := by
  refine calls_of_go (n := 9) Try.func36 rfl Try.ntmps36 rfl ?_
  refine g_seq ?_
  refine g_region ?_
  refine r_cons (s_assign (.bool false) rfl rfl ?_)
  refine r_nil ?_
  refine g_seq ?_
  refine g_region ?_
  refine r_cons (s_move (.int .i64 n) rfl rfl ?_)
  by_cases hc1 : (0 : Int) ≤ n
  · skip
    refine r_cons (s_geq true rfl rfl (dtrue hc1) rfl ?_)
    refine r_cons (s_move (.bool true) rfl rfl ?_)
    refine r_cons (r_take rfl rfl ?_)
    refine s_move (.int .i64 n) rfl rfl ?_
    refine r_cons (r_take rfl rfl ?_)
    by_cases hc2 : n < 16
    · skip
      refine s_lss true rfl rfl (dtrue hc2) rfl ?_
      refine r_cons (s_pick_t (.bool true) rfl rfl rfl ?_)
      refine r_cons (s_assign (.bool true) rfl rfl ?_)
      refine r_nil ?_
      refine g_ret' [.bool true] Try.func36 Try.results36 ⟨rfl, trivial⟩ ?_
      exact ⟨congrArg Value.bool (by simp only [brB]; first | (exact (decide_eq_true (by omega)).symm) | (exact (decide_eq_false (by omega)).symm)), H⟩
    · skip
      refine s_lss false rfl rfl (dfalse hc2) rfl ?_
      refine r_cons (s_pick_t (.bool false) rfl rfl rfl ?_)
      refine r_cons (s_assign (.bool false) rfl rfl ?_)
      refine r_nil ?_
      refine g_ret' [.bool false] Try.func36 Try.results36 ⟨rfl, trivial⟩ ?_
      exact ⟨congrArg Value.bool (by simp only [brB]; first | (exact (decide_eq_true (by omega)).symm) | (exact (decide_eq_false (by omega)).symm)), H⟩
  · skip
    refine r_cons (s_geq false rfl rfl (dfalse hc1) rfl ?_)
    refine r_cons (s_move (.bool false) rfl rfl ?_)
    refine r_cons (r_pass rfl rfl rfl rfl rfl ?_)
    refine r_cons (r_pass rfl rfl rfl rfl rfl ?_)
    refine r_cons (s_pick_f (.bool false) rfl rfl rfl ?_)
    refine r_cons (s_assign (.bool false) rfl rfl ?_)
    refine r_nil ?_
    refine g_ret' [.bool false] Try.func36 Try.results36 ⟨rfl, trivial⟩ ?_
    exact ⟨congrArg Value.bool (by simp only [brB]; first | (exact (decide_eq_true (by omega)).symm) | (exact (decide_eq_false (by omega)).symm)), H⟩
set_option maxHeartbeats 4000000 in
set_option maxRecDepth 100000 in
theorem Rf_Waiting {W w : World} {F : List Atom} (g : Nat) (s : EndV) (hok : endOk s) {i : Nat} (hi : F[i]? = some (RfA g s)) (H : St W w F) : Calls Try.prog 42 #[.pointer (some ⟨g, 0, none⟩)] w (Ret fun v w' => v = .int .i64 (s.l.length : Int) ∧ St W w' F) := by
  have H0 := H.front hi
  obtain ⟨o1, o2, o3, o4, o5, o6, o8⟩ := id hok
  refine calls_of_go (n := 13) Try.func42 rfl Try.ntmps42 rfl ?_
  refine g_seq ?_
  refine g_region ?_
  refine r_cons (s_assign (.int .i64 0) rfl rfl ?_)
  refine r_nil ?_
  refine g_seq ?_
  have H1 := H0.move 0 rfl
  obtain ⟨⟨⟨pp2, cc3, L4, pp5, cc6, E7, A8⟩, hL9, hA10, hH11⟩, H12⟩ := St.open_ex H1
  have H13 := St.open_star H12
  change L4.map BodD.v = A8 ++ s.l at hL9; change A8.length = s.acked at hA10; change HR s.held (mapB E7) at hH11
  have hl14 := refLen hL9 hA10; have hh15 : E7.length = s.held.length := by have h9 := hH11.len; rw [mapB_len rfl] at h9; exact h9
  have H16 : St W w (blk g (.cells #[.int .i64 s.frm.v, .int .i64 s.to_.v, .int .i64 (s.slide : Int), .slice pp2 L4.length cc3, .int .i64 (s.acked : Int), .int .i64 ((i64N s.came).v), .slice pp5 E7.length cc6, .int .i64 (s.clock : Int), .bool s.owes] 86 (0, 0)) :: Row 101 3 (.slice pp2 L4.length cc3) L4.length (L4.flatMap bodCell) :: byA (L4.map BodD.by) :: Row 105 2 (.slice pp5 E7.length cc6) E7.length (E7.flatMap hlCell) :: byA (mby E7) :: (F.set i emp)) := H13
  refine g_quiet (fun w' => St W w' (blk g (.cells #[.int .i64 s.frm.v, .int .i64 s.to_.v, .int .i64 (s.slide : Int), .slice pp2 L4.length cc3, .int .i64 (s.acked : Int), .int .i64 ((i64N s.came).v), .slice pp5 E7.length cc6, .int .i64 (s.clock : Int), .bool s.owes] 86 (0, 0)) :: Row 101 3 (.slice pp2 L4.length cc3) L4.length (L4.flatMap bodCell) :: byA (L4.map BodD.by) :: Row 105 2 (.slice pp5 E7.length cc6) E7.length (E7.flatMap hlCell) :: byA (mby E7) :: (F.set i emp))) mixed (by kernel_rfl) H16.drew ?_
  refine q_cons (q_val rfl rfl rfl (by intro w hw; exact x_move (.pointer (some ⟨g, 0, none⟩)) rfl w) ?_)
  refine q_cons (q_val rfl rfl rfl (by intro w hw; exact x_nilCheck (.pointer (some ⟨g, 0, none⟩)) rfl ⟨_, rfl⟩ w) ?_)
  refine q_cons (q_val rfl rfl rfl (by intro w hw; exact x_fieldAddr 86 2 3 3 83 rfl fi_86_2 rfl w) ?_)
  refine q_cons (q_val rfl rfl rfl (by intro w hw; exact x_load (.slice pp2 L4.length cc3) ag_83 rfl (hw.blk_at (i := 0) rfl) rfl) ?_)
  refine q_cons (q_val rfl rfl rfl (by intro w hw; exact x_len L4.length rfl ⟨_, un_83⟩ w) ?_)
  refine q_cons (q_val rfl rfl rfl (by intro w hw; exact x_move (.pointer (some ⟨g, 0, none⟩)) rfl w) ?_)
  refine q_cons (q_val rfl rfl rfl (by intro w hw; exact x_nilCheck (.pointer (some ⟨g, 0, none⟩)) rfl ⟨_, rfl⟩ w) ?_)
  refine q_cons (q_val rfl rfl rfl (by intro w hw; exact x_fieldAddr 86 3 4 4 2 rfl fi_86_3 rfl w) ?_)
  refine q_cons (q_val rfl rfl rfl (by intro w hw; exact x_load (.int .i64 (s.acked : Int)) ag_2 rfl (hw.blk_at (i := 0) rfl) rfl) ?_)
  refine q_cons (q_val rfl rfl rfl (by intro w hw; exact x_sub ((L4.length : Int) - (s.acked : Int)) rfl rfl (wi64 (by omega)) w) ?_)
  refine q_cons (q_val rfl rfl rfl (by intro w hw; exact x_assign (.int .i64 ((L4.length : Int) - (s.acked : Int))) rfl w) ?_)
  refine q_nil ?_
  intro w17 H18
  refine g_ret' [.int .i64 ((L4.length : Int) - (s.acked : Int))] Try.func42 Try.results42 ⟨rfl, trivial⟩ ?_
  have H19 : St W w17 (RfA g s :: (F.set i emp)) := St.shut_ex ⟨⟨pp2, cc3, L4, pp5, cc6, E7, A8⟩, hL9, hA10, hH11⟩ (St.shut_star (ls := [blk g (.cells #[.int .i64 s.frm.v, .int .i64 s.to_.v, .int .i64 (s.slide : Int), .slice pp2 L4.length cc3, .int .i64 (s.acked : Int), .int .i64 ((i64N s.came).v), .slice pp5 E7.length cc6, .int .i64 (s.clock : Int), .bool s.owes] 86 (0, 0)), Row 101 3 (.slice pp2 L4.length cc3) L4.length (L4.flatMap bodCell), byA (L4.map BodD.by), Row 105 2 (.slice pp5 E7.length cc6) E7.length (E7.flatMap hlCell), byA (mby E7)]) H18)
  have H20 : St W w17 (RfA g s :: (F.set i emp)) := H19
  exact ⟨vint (by have := hl14; omega), St.back_same hi H20⟩
end Sl
