/- Walks of the program's functions. Printed by a program of this claim's author. No condition. -/
import Derived.Test.YthggoibbkloefaaSlBF
import Derived.Test.YthggoibbkloefaaSlQ
import Derived.Test.YthggoibbkloefaaSlG
import Derived.Test.YthggoibbkloefaaSlBB
import Derived.Test.YthggoibbkloefaaSlAB
import Derived.Test.YthggoibbkloefaaSlDC
import Derived.Test.YthggoibbkloefaaSlDJ
import Derived.Test.YthggoibbkloefaaSlEC
import Derived.Test.YthggoibbkloefaaSlBA
import Derived.Test.YthggoibbkloefaaSlEE
import Derived.Test.YthggoibbkloefaaProg
import Derived.Test.YthggoibbkloefaaWalkLinkDoes3
namespace Sl
open _root_.Go _root_.Go.RowKit _root_.Go.Proofs
set_option linter.all false
set_option maxHeartbeats 4000000 in
set_option maxRecDepth 100000 in
theorem held_1 {W w : World} {F : List Atom} (g bx g2 : Nat) (s : EndV) (hv : LInv s) (hN0 : s.held.length * 8 ≤ 140737488355328) (H : St W w (LkA g s :: RfA g2 s :: imm bx (.cells #[.pointer (some ⟨g, 0, none⟩)] 30 (0, 0)) :: F)) : Calls Try.prog 45 #[.func (.func 50) #[] #[.pointer (some ⟨bx, 0, none⟩)], .pointer (some ⟨g2, 0, none⟩), .int .i64 1] w (Ret fun v w' => v = .bool true ∧ St W w' (LkA g s :: RfA g2 s :: F)) := by
  obtain ⟨o1, o2, o3, o4, o5, o6, o8⟩ := id hv.ok
  refine calls_of_go (n := 57) Try.func45 rfl Try.ntmps45 rfl ?_
  refine g_seq ?_
  refine g_region ?_
  refine r_cons (s_box H 51 (.pointer (some ⟨g2, 0, none⟩)) rfl (cs := #[.pointer (some ⟨g2, 0, none⟩)]) rfl rfl ?_); intro bk1 w2 H3
  refine r_cons (s_box H3 3 (.int .i64 1) rfl (cs := #[.int .i64 1]) rfl rfl ?_); intro bk4 w5 H6
  refine r_cons (s_alloc H6 4 ze_4 rfl ?_); intro bk7 w8 H9
  refine r_nil ?_
  refine g_seq ?_
  refine g_region ?_
  refine r_cons (s_alloc H9 3 ze_3 rfl ?_); intro bk10 w11 H12
  refine r_cons (s_store H12 0 (.int .i64 0) rfl rfl rfl sz_3 rfl (Nat.le_of_ble_eq_true rfl) rfl (cs' := #[.int .i64 0]) rfl ?_); intro w13 H14
  refine r_nil ?_
  refine g_seq ?_
  refine g_seq ?_
  refine g_region ?_
  refine r_cons (s_move (.func (.func 50) #[] #[.pointer (some ⟨bx, 0, none⟩)]) rfl rfl ?_)
  refine r_nil ?_
  refine g_block ?_
  have H15 : St W w13 (blk bk10 (.cells #[.int .i64 0] 3 (0, 0)) :: blk bk7 (.cells #[.bool false] 4 (0, 0)) :: blk bk4 (.cells #[.int .i64 1] 3 (0, 0)) :: blk bk1 (.cells #[.pointer (some ⟨g2, 0, none⟩)] 51 (0, 0)) :: RfA g2 s :: LkA g s :: imm bx (.cells #[.pointer (some ⟨g, 0, none⟩)] 30 (0, 0)) :: F) := (((((H14.move 5 rfl).move 4 rfl).move 4 rfl).move 4 rfl).move 4 rfl)
  have H16 : St W w13 (star [pure' (([] : List (I64 × BytesD)).length = 0), blk bk10 (.cells #[.int .i64 (([] : List (I64 × BytesD)).length : Int)] 3 (0, 0)), blk bk7 (.cells #[.bool false] 4 (0, 0)), blk bk4 (.cells #[.int .i64 1] 3 (0, 0)), blk bk1 (.cells #[.pointer (some ⟨g2, 0, none⟩)] 51 (0, 0)), RfA g2 s] :: LkA g s :: imm bx (.cells #[.pointer (some ⟨g, 0, none⟩)] 30 (0, 0)) :: F) := St.shut_star (ls := [pure' (([] : List (I64 × BytesD)).length = 0), blk bk10 (.cells #[.int .i64 0] 3 (0, 0)), blk bk7 (.cells #[.bool false] 4 (0, 0)), blk bk4 (.cells #[.int .i64 1] 3 (0, 0)), blk bk1 (.cells #[.pointer (some ⟨g2, 0, none⟩)] 51 (0, 0)), RfA g2 s]) (St.shut_pure rfl H15)
  refine g_range2 (W := W) (F := LkA g s :: imm bx (.cells #[.pointer (some ⟨g, 0, none⟩)] 30 (0, 0)) :: F) 50 [.pointer (some ⟨bx, 0, none⟩)] rfl rfl pl_50 (fun x_ : I64 × BytesD => .int .i64 x_.1.v) (fun x_ : I64 × BytesD => .slice x_.2.p x_.2.data.length x_.2.c) rfl rfl (fun x_ : I64 × BytesD => Im 1 (.slice x_.2.p x_.2.data.length x_.2.c) x_.2.data.length (x_.2.data.flatMap u8c)) (fun pre_ => star [pure' (pre_.length = 0), blk bk10 (.cells #[.int .i64 (pre_.length : Int)] 3 (0, 0)), blk bk7 (.cells #[.bool false] 4 (0, 0)), blk bk4 (.cells #[.int .i64 1] 3 (0, 0)), blk bk1 (.cells #[.pointer (some ⟨g2, 0, none⟩)] 51 (0, 0)), RfA g2 s]) (fun c_ pre_ => star [pure' (c_ = .ret), blk bk7 (.cells #[.bool true] 4 (0, 0)), RfA g2 s]) (fun pre_ x_ => mapB (pre_ ++ [x_]) <+: sH s.held) (fun L_ => mapB L_ = sH s.held) (fun L_ => mapB L_ <+: sH s.held) H16 ?_ ?_ ?_ ?_
  · intro l17 r18 w19 G20 pre21 x22 hr23 hr24 hok25 H26
    try dsimp only at hok25 H26
    have H27 : St W w19 (blk l17 (.loop r18) :: star [pure' (pre21.length = 0), blk bk10 (.cells #[.int .i64 (pre21.length : Int)] 3 (0, 0)), blk bk7 (.cells #[.bool false] 4 (0, 0)), blk bk4 (.cells #[.int .i64 1] 3 (0, 0)), blk bk1 (.cells #[.pointer (some ⟨g2, 0, none⟩)] 51 (0, 0)), RfA g2 s] :: Im 1 (.slice x22.2.p x22.2.data.length x22.2.c) x22.2.data.length (x22.2.data.flatMap u8c) :: G20) := H26
    have H28 := H27.move 1 rfl
    obtain ⟨hpre29, H30⟩ := St.open_pure (St.open_star H28)
    obtain ⟨n31, hn32⟩ : ∃ n : Nat, n = pre21.length := ⟨_, rfl⟩
    have H33 : St W w19 (blk bk10 (.cells #[.int .i64 (n31 : Int)] 3 (0, 0)) :: blk bk7 (.cells #[.bool false] 4 (0, 0)) :: blk bk4 (.cells #[.int .i64 1] 3 (0, 0)) :: blk bk1 (.cells #[.pointer (some ⟨g2, 0, none⟩)] 51 (0, 0)) :: RfA g2 s :: blk l17 (.loop r18) :: Im 1 (.slice x22.2.p x22.2.data.length x22.2.c) x22.2.data.length (x22.2.data.flatMap u8c) :: G20) := by rw [hn32]; exact H30
    obtain ⟨hx1, hx2⟩ := held_pre hok25
    rw [← hn32] at hx1 hx2; rw [sH_len] at hx1
    have hhl9 : s.held.length ≤ 17592186044416 := by omega
    refine g_seq ?_
    refine g_region ?_
    refine r_cons (s_assign (.int .i64 x22.1.v) rfl rfl ?_)
    refine r_nil ?_
    refine g_region ?_
    refine r_cons (s_assign (.slice x22.2.p x22.2.data.length x22.2.c) rfl rfl ?_)
    refine r_nil ?_
    refine g_beginRound H33 (i := 5) rfl hr23 ?_; intro w34 H35
    have H36 : St W w34 (blk bk10 (.cells #[.int .i64 (n31 : Int)] 3 (0, 0)) :: blk bk7 (.cells #[.bool false] 4 (0, 0)) :: blk bk4 (.cells #[.int .i64 1] 3 (0, 0)) :: blk bk1 (.cells #[.pointer (some ⟨g2, 0, none⟩)] 51 (0, 0)) :: RfA g2 s :: blk l17 (.loop { r18 with state := .busy }) :: Im 1 (.slice x22.2.p x22.2.data.length x22.2.c) x22.2.data.length (x22.2.data.flatMap u8c) :: G20) := H35
    refine g_block ?_
    refine g_seq ?_
    refine g_seq ?_
    have H37 := H36.move 4 rfl
    obtain ⟨⟨⟨pp38, cc39, L40, pp41, cc42, E43, A44⟩, hL45, hA46, hH47⟩, H48⟩ := St.open_ex H37
    have H49 := St.open_star H48
    change L40.map BodD.v = A44 ++ s.l at hL45; change A44.length = s.acked at hA46; change HR s.held (mapB E43) at hH47
    have hl50 := refLen hL45 hA46; have hh51 : E43.length = s.held.length := by have h9 := hH47.len; rw [mapB_len rfl] at h9; exact h9
    have H52 : St W w34 (blk g2 (.cells #[.int .i64 s.frm.v, .int .i64 s.to_.v, .int .i64 (s.slide : Int), .slice pp38 L40.length cc39, .int .i64 (s.acked : Int), .int .i64 ((i64N s.came).v), .slice pp41 E43.length cc42, .int .i64 (s.clock : Int), .bool s.owes] 86 (0, 0)) :: Row 101 3 (.slice pp38 L40.length cc39) L40.length (L40.flatMap bodCell) :: byA (L40.map BodD.by) :: Row 105 2 (.slice pp41 E43.length cc42) E43.length (E43.flatMap hlCell) :: byA (mby E43) :: blk bk10 (.cells #[.int .i64 (n31 : Int)] 3 (0, 0)) :: blk bk7 (.cells #[.bool false] 4 (0, 0)) :: blk bk4 (.cells #[.int .i64 1] 3 (0, 0)) :: blk bk1 (.cells #[.pointer (some ⟨g2, 0, none⟩)] 51 (0, 0)) :: blk l17 (.loop { r18 with state := .busy }) :: Im 1 (.slice x22.2.p x22.2.data.length x22.2.c) x22.2.data.length (x22.2.data.flatMap u8c) :: G20) := H49
    have hn9 : n31 < E43.length := by rw [hh51]; exact hx1
    rw [← hH47.eq, mapB_at] at hx2; have hx3 := congrArg (·.1) hx2; have hx4 := congrArg (·.2) hx2; simp only at hx3 hx4
    have H53 : St W w34 (Im 1 (.slice ((E43.getD n31 default).2.p) ((E43.getD n31 default).2.data.length) ((E43.getD n31 default).2.c)) (((E43.getD n31 default).2.data).length) (((E43.getD n31 default).2.data).flatMap u8c) :: blk g2 (.cells #[.int .i64 s.frm.v, .int .i64 s.to_.v, .int .i64 (s.slide : Int), .slice pp38 L40.length cc39, .int .i64 (s.acked : Int), .int .i64 ((i64N s.came).v), .slice pp41 E43.length cc42, .int .i64 (s.clock : Int), .bool s.owes] 86 (0, 0)) :: Row 101 3 (.slice pp38 L40.length cc39) L40.length (L40.flatMap bodCell) :: byA (L40.map BodD.by) :: Row 105 2 (.slice pp41 E43.length cc42) E43.length (E43.flatMap hlCell) :: byA (mby E43) :: blk bk10 (.cells #[.int .i64 (n31 : Int)] 3 (0, 0)) :: blk bk7 (.cells #[.bool false] 4 (0, 0)) :: blk bk4 (.cells #[.int .i64 1] 3 (0, 0)) :: blk bk1 (.cells #[.pointer (some ⟨g2, 0, none⟩)] 51 (0, 0)) :: blk l17 (.loop { r18 with state := .busy }) :: Im 1 (.slice x22.2.p x22.2.data.length x22.2.c) x22.2.data.length (x22.2.data.flatMap u8c) :: G20) := byA_at H52 (i := 4) rfl (mby_at hn9)
    obtain ⟨bk54, cur55, hp56, h57, h58, h59, h60, h61, H62⟩ := Row.open2 H53 (i := 4) rfl (by omega)
    have hq9 : decide (x22.2.data = (E43.getD n31 default).2.data) = true := decide_eq_true hx4.symm
    refine g_quiet (fun w' => St W w' (Im 1 (.slice ((E43.getD n31 default).2.p) ((E43.getD n31 default).2.data.length) ((E43.getD n31 default).2.c)) (((E43.getD n31 default).2.data).length) (((E43.getD n31 default).2.data).flatMap u8c) :: blk g2 (.cells #[.int .i64 s.frm.v, .int .i64 s.to_.v, .int .i64 (s.slide : Int), .slice pp38 L40.length cc39, .int .i64 (s.acked : Int), .int .i64 ((i64N s.came).v), .slice pp41 E43.length cc42, .int .i64 (s.clock : Int), .bool s.owes] 86 (0, 0)) :: Row 101 3 (.slice pp38 L40.length cc39) L40.length (L40.flatMap bodCell) :: byA (L40.map BodD.by) :: blk bk54 (.cells cur55 105 (0, 0)) :: byA (mby E43) :: blk bk10 (.cells #[.int .i64 (n31 : Int)] 3 (0, 0)) :: blk bk7 (.cells #[.bool false] 4 (0, 0)) :: blk bk4 (.cells #[.int .i64 1] 3 (0, 0)) :: blk bk1 (.cells #[.pointer (some ⟨g2, 0, none⟩)] 51 (0, 0)) :: blk l17 (.loop { r18 with state := .busy }) :: Im 1 (.slice x22.2.p x22.2.data.length x22.2.c) x22.2.data.length (x22.2.data.flatMap u8c) :: G20)) mixed (by kernel_rfl) H62.drew ?_
    refine q_cons (q_val rfl rfl rfl (by intro w hw; exact x_load (.int .i64 (n31 : Int)) ag_3 rfl (hw.blk_at (i := 6) rfl) rfl) ?_)
    refine q_cons (q_val rfl rfl rfl (by intro w hw; exact x_load (.pointer (some ⟨g2, 0, none⟩)) ag_51 rfl (hw.blk_at (i := 9) rfl) rfl) ?_)
    refine q_cons (q_val rfl rfl rfl (by intro w hw; exact x_nilCheck (.pointer (some ⟨g2, 0, none⟩)) rfl ⟨_, rfl⟩ w) ?_)
    refine q_cons (q_val rfl rfl rfl (by intro w hw; exact x_fieldAddr 86 5 6 6 84 rfl fi_86_5 rfl w) ?_)
    refine q_cons (q_val rfl rfl rfl (by intro w hw; exact x_load (.slice pp41 E43.length cc42) ag_84 rfl (hw.blk_at (i := 1) rfl) rfl) ?_)
    refine q_cons (q_val rfl rfl rfl (by intro w hw; exact x_len E43.length rfl ⟨_, un_84⟩ w) ?_)
    refine q_cons (q_val rfl rfl rfl (by intro w hw; exact x_geq false rfl rfl (dfalse (by omega)) w) ?_)
    refine q_cons (q_val rfl rfl rfl (by intro w hw; exact x_move (.bool false) rfl w) ?_)
    refine q_cons (q_take rfl rfl ?_)
    refine q_val rfl rfl rfl (by intro w hw; exact x_move (.int .i64 x22.1.v) rfl w) ?_
    refine q_cons (q_take rfl rfl ?_)
    refine q_val rfl rfl rfl (by intro w hw; exact x_load (.pointer (some ⟨g2, 0, none⟩)) ag_51 rfl (hw.blk_at (i := 9) rfl) rfl) ?_
    refine q_cons (q_take rfl rfl ?_)
    refine q_val rfl rfl rfl (by intro w hw; exact x_nilCheck (.pointer (some ⟨g2, 0, none⟩)) rfl ⟨_, rfl⟩ w) ?_
    refine q_cons (q_take rfl rfl ?_)
    refine q_val rfl rfl rfl (by intro w hw; exact x_fieldAddr 86 5 6 6 84 rfl fi_86_5 rfl w) ?_
    refine q_cons (q_take rfl rfl ?_)
    refine q_val rfl rfl rfl (by intro w hw; exact x_load (.slice pp41 E43.length cc42) ag_84 rfl (hw.blk_at (i := 1) rfl) rfl) ?_
    refine q_cons (q_take rfl rfl ?_)
    refine q_val rfl rfl rfl (by intro w hw; exact x_load (.int .i64 (n31 : Int)) ag_3 rfl (hw.blk_at (i := 6) rfl) rfl) ?_
    refine q_cons (q_take rfl rfl ?_)
    refine q_val rfl rfl rfl (by intro w hw; exact x_indexAddr bk54 (off := 0) (n31 : Int) 2 (0 + n31 * 2) (by exact congrArg (fun z_ => Value.slice z_ E43.length cc42) ((fun (_ : 0 < 1) => hp56) (by omega))) rfl el_84 (by omega) rfl w) ?_
    refine q_cons (q_take rfl rfl ?_)
    refine q_val rfl rfl rfl (by intro w hw; exact x_fieldAddr 105 0 0 (0 + n31 * 2) 2 rfl fi_105_0 rfl w) ?_
    refine q_cons (q_take rfl rfl ?_)
    refine q_val rfl rfl rfl (by intro w hw; exact x_load (.int .i64 ((E43.getD n31 default).1.v)) ag_2 rfl (hw.blk_at (i := 4) rfl) (elem_cell (L := E43) (i := n31) hlCell_len (by rw [(rfl : E43.length = E43.length)]; exact h60) (by have hh : E43.length = E43.length := (rfl : E43.length = E43.length); omega) default 0 (by decide) _ rfl)) ?_
    refine q_cons (q_take rfl rfl ?_)
    refine q_val rfl rfl rfl (by intro w hw; exact x_neq false rfl rfl (ntrue (by rw [hx3])) w) ?_
    refine q_cons (q_val rfl rfl rfl (by intro w hw; exact x_pick_f (.bool false) rfl rfl w) ?_)
    refine q_cons (q_val rfl rfl rfl (by intro w hw; exact x_move (.bool false) rfl w) ?_)
    refine q_cons (q_take rfl rfl ?_)
    refine q_val rfl rfl rfl (by intro w hw; exact x_move (.slice x22.2.p x22.2.data.length x22.2.c) rfl w) ?_
    refine q_cons (q_take rfl rfl ?_)
    refine q_val rfl rfl rfl (by intro w hw; exact x_load (.pointer (some ⟨g2, 0, none⟩)) ag_51 rfl (hw.blk_at (i := 9) rfl) rfl) ?_
    refine q_cons (q_take rfl rfl ?_)
    refine q_val rfl rfl rfl (by intro w hw; exact x_nilCheck (.pointer (some ⟨g2, 0, none⟩)) rfl ⟨_, rfl⟩ w) ?_
    refine q_cons (q_take rfl rfl ?_)
    refine q_val rfl rfl rfl (by intro w hw; exact x_fieldAddr 86 5 6 6 84 rfl fi_86_5 rfl w) ?_
    refine q_cons (q_take rfl rfl ?_)
    refine q_val rfl rfl rfl (by intro w hw; exact x_load (.slice pp41 E43.length cc42) ag_84 rfl (hw.blk_at (i := 1) rfl) rfl) ?_
    refine q_cons (q_take rfl rfl ?_)
    refine q_val rfl rfl rfl (by intro w hw; exact x_load (.int .i64 (n31 : Int)) ag_3 rfl (hw.blk_at (i := 6) rfl) rfl) ?_
    refine q_cons (q_take rfl rfl ?_)
    refine q_val rfl rfl rfl (by intro w hw; exact x_indexAddr bk54 (off := 0) (n31 : Int) 2 (0 + n31 * 2) (by exact congrArg (fun z_ => Value.slice z_ E43.length cc42) ((fun (_ : 0 < 1) => hp56) (by omega))) rfl el_84 (by omega) rfl w) ?_
    refine q_cons (q_take rfl rfl ?_)
    refine q_val rfl rfl rfl (by intro w hw; exact x_fieldAddr 105 1 1 (0 + n31 * 2 + 1) 26 rfl fi_105_1 rfl w) ?_
    refine q_cons (q_take rfl rfl ?_)
    refine q_val rfl rfl rfl (by intro w hw; exact x_load (.slice ((E43.getD n31 default).2.p) ((E43.getD n31 default).2.data.length) ((E43.getD n31 default).2.c)) ag_26 rfl (hw.blk_at (i := 4) rfl) (elem_cell (L := E43) (i := n31) hlCell_len (by rw [(rfl : E43.length = E43.length)]; exact h60) (by have hh : E43.length = E43.length := (rfl : E43.length = E43.length); omega) default 1 (by decide) _ rfl)) ?_
    refine q_cons (q_take rfl rfl ?_)
    refine q_enter (args := #[.slice x22.2.p x22.2.data.length x22.2.c, .slice ((E43.getD n31 default).2.p) ((E43.getD n31 default).2.data.length) ((E43.getD n31 default).2.c)]) (v := .bool (decide (x22.2.data = ((E43.getD n31 default).2.data)))) rfl rfl rfl (x_call pl_34 [.slice x22.2.p x22.2.data.length x22.2.c, .slice ((E43.getD n31 default).2.p) ((E43.getD n31 default).2.data.length) ((E43.getD n31 default).2.c)] rfl) (fun w hw => bytes_Equal _ _ _ _ _ _ x22.2.data ((E43.getD n31 default).2.data) RdA.im RdA.im (j := 11) rfl (k := 0) rfl hw) ?_
    refine q_cons (q_take rfl rfl ?_)
    refine q_val rfl rfl rfl (by intro w hw; exact x_not (decide (x22.2.data = ((E43.getD n31 default).2.data))) rfl false (by rw [hq9]; rfl) w) ?_
    refine q_cons (q_val rfl rfl rfl (by intro w hw; exact x_pick_f (.bool false) rfl rfl w) ?_)
    refine q_nil ?_
    intro w63 H64
    refine g_false rfl ?_
    refine g_skip ?_
    refine g_seq ?_
    refine g_region ?_
    refine r_cons (s_load (.int .i64 (n31 : Int)) ag_3 rfl (H64.blk_at (i := 6) rfl) rfl rfl ?_)
    refine r_cons (s_add ((n31 + 1 : Nat) : Int) rfl rfl ((wi64 (by omega)).trans (by omega)) rfl ?_)
    refine r_cons (s_store H64 6 (.int .i64 ((n31 + 1 : Nat) : Int)) rfl rfl rfl sz_3 rfl (Nat.le_of_ble_eq_true rfl) rfl (cs' := #[.int .i64 ((n31 + 1 : Nat) : Int)]) rfl ?_); intro w65 H66
    refine r_nil ?_
    refine g_seq ?_
    refine g_region ?_
    refine r_cons (s_load (.int .i64 ((n31 + 1 : Nat) : Int)) ag_3 rfl (H66.blk_at (i := 6) rfl) rfl rfl ?_)
    refine r_cons (s_load (.int .i64 1) ag_3 rfl (H66.blk_at (i := 8) rfl) rfl rfl ?_)
    refine r_cons (s_eql true rfl rfl (dtrue (by omega)) rfl ?_)
    refine r_nil ?_
    refine g_true rfl ?_
    refine g_seq ?_
    refine g_region ?_
    refine r_cons (s_store H66 7 (.bool true) rfl rfl rfl sz_4 rfl (Nat.le_of_ble_eq_true rfl) rfl (cs' := #[.bool true]) rfl ?_); intro w67 H68
    refine r_nil ?_
    have H69 := Row.shut2 (p := pp41) (n := E43.length) (c := cc42) (size := 2) (xs := E43.flatMap hlCell) H68 (i := 4) rfl hp56 h57 h58 h59 (by have hh : (cur55.toList.drop 0).take (E43.length * 2) = E43.flatMap hlCell := (by rw [(rfl : E43.length = E43.length)]; exact h60); have hk : E43.length = E43.length := (rfl : E43.length = E43.length); rw [hk] at hh; exact hh) (fun x_ hx_ => by obtain ⟨a_, _, ha_⟩ := List.mem_flatMap.1 hx_; exact one_hl a_ x_ ha_)
    have H70 : St W w67 (blk g2 (.cells #[.int .i64 s.frm.v, .int .i64 s.to_.v, .int .i64 (s.slide : Int), .slice pp38 L40.length cc39, .int .i64 (s.acked : Int), .int .i64 ((i64N s.came).v), .slice pp41 E43.length cc42, .int .i64 (s.clock : Int), .bool s.owes] 86 (0, 0)) :: Row 101 3 (.slice pp38 L40.length cc39) L40.length (L40.flatMap bodCell) :: byA (L40.map BodD.by) :: Row 105 2 (.slice pp41 E43.length cc42) E43.length (E43.flatMap hlCell) :: byA (mby E43) :: Im 1 (.slice ((E43.getD n31 default).2.p) ((E43.getD n31 default).2.data.length) ((E43.getD n31 default).2.c)) (((E43.getD n31 default).2.data).length) (((E43.getD n31 default).2.data).flatMap u8c) :: blk bk10 (.cells #[.int .i64 ((n31 + 1 : Nat) : Int)] 3 (0, 0)) :: blk bk7 (.cells #[.bool true] 4 (0, 0)) :: blk bk4 (.cells #[.int .i64 1] 3 (0, 0)) :: blk bk1 (.cells #[.pointer (some ⟨g2, 0, none⟩)] 51 (0, 0)) :: blk l17 (.loop { r18 with state := .busy }) :: Im 1 (.slice x22.2.p x22.2.data.length x22.2.c) x22.2.data.length (x22.2.data.flatMap u8c) :: G20) := (((((H69.move 5 rfl).move 5 rfl).move 5 rfl).move 5 rfl).move 5 rfl)
    have H71 : St W w67 (RfA g2 s :: Im 1 (.slice ((E43.getD n31 default).2.p) ((E43.getD n31 default).2.data.length) ((E43.getD n31 default).2.c)) (((E43.getD n31 default).2.data).length) (((E43.getD n31 default).2.data).flatMap u8c) :: blk bk10 (.cells #[.int .i64 ((n31 + 1 : Nat) : Int)] 3 (0, 0)) :: blk bk7 (.cells #[.bool true] 4 (0, 0)) :: blk bk4 (.cells #[.int .i64 1] 3 (0, 0)) :: blk bk1 (.cells #[.pointer (some ⟨g2, 0, none⟩)] 51 (0, 0)) :: blk l17 (.loop { r18 with state := .busy }) :: Im 1 (.slice x22.2.p x22.2.data.length x22.2.c) x22.2.data.length (x22.2.data.flatMap u8c) :: G20) := St.shut_ex ⟨⟨pp38, cc39, L40, pp41, cc42, E43, A44⟩, hL45, hA46, hH47⟩ (St.shut_star (ls := [blk g2 (.cells #[.int .i64 s.frm.v, .int .i64 s.to_.v, .int .i64 (s.slide : Int), .slice pp38 L40.length cc39, .int .i64 (s.acked : Int), .int .i64 ((i64N s.came).v), .slice pp41 E43.length cc42, .int .i64 (s.clock : Int), .bool s.owes] 86 (0, 0)), Row 101 3 (.slice pp38 L40.length cc39) L40.length (L40.flatMap bodCell), byA (L40.map BodD.by), Row 105 2 (.slice pp41 E43.length cc42) E43.length (E43.flatMap hlCell), byA (mby E43)]) H70)
    have H72 : St W w67 (blk bk7 (.cells #[.bool true] 4 (0, 0)) :: RfA g2 s :: Im 1 (.slice ((E43.getD n31 default).2.p) ((E43.getD n31 default).2.data.length) ((E43.getD n31 default).2.c)) (((E43.getD n31 default).2.data).length) (((E43.getD n31 default).2.data).flatMap u8c) :: blk bk10 (.cells #[.int .i64 ((n31 + 1 : Nat) : Int)] 3 (0, 0)) :: blk bk4 (.cells #[.int .i64 1] 3 (0, 0)) :: blk bk1 (.cells #[.pointer (some ⟨g2, 0, none⟩)] 51 (0, 0)) :: blk l17 (.loop { r18 with state := .busy }) :: Im 1 (.slice x22.2.p x22.2.data.length x22.2.c) x22.2.data.length (x22.2.data.flatMap u8c) :: G20) := (H71.move 3 rfl)
    have H73 : St W w67 (star [pure' ((.ret : Code) = .ret), blk bk7 (.cells #[.bool true] 4 (0, 0)), RfA g2 s] :: Im 1 (.slice ((E43.getD n31 default).2.p) ((E43.getD n31 default).2.data.length) ((E43.getD n31 default).2.c)) (((E43.getD n31 default).2.data).length) (((E43.getD n31 default).2.data).flatMap u8c) :: blk bk10 (.cells #[.int .i64 ((n31 + 1 : Nat) : Int)] 3 (0, 0)) :: blk bk4 (.cells #[.int .i64 1] 3 (0, 0)) :: blk bk1 (.cells #[.pointer (some ⟨g2, 0, none⟩)] 51 (0, 0)) :: blk l17 (.loop { r18 with state := .busy }) :: Im 1 (.slice x22.2.p x22.2.data.length x22.2.c) x22.2.data.length (x22.2.data.flatMap u8c) :: G20) := St.shut_star (ls := [pure' ((.ret : Code) = .ret), blk bk7 (.cells #[.bool true] 4 (0, 0)), RfA g2 s]) (St.shut_pure rfl H72)
    have H74 : St W w67 (blk l17 (.loop { r18 with state := .busy }) :: star [pure' ((.ret : Code) = .ret), blk bk7 (.cells #[.bool true] 4 (0, 0)), RfA g2 s] :: G20) := ((((((H73.move 5 rfl).drop 2 rfl).drop 2 rfl).drop 2 rfl).drop 2 rfl).drop 2 rfl)
    refine g_round_ret H74 (i := 0) rfl ?_; intro w75 H76
    exact .inr ⟨rfl, _, H76⟩
  · intro l J Jx B w H hY; exact Held_it g bx l s hv hN0 J Jx (i := 2) rfl (k := 1) rfl hY H
  · intro D77 L78 w79 hS80 H81
    have H83 : St W w79 (star [pure' (L78.length = 0), blk bk10 (.cells #[.int .i64 (L78.length : Int)] 3 (0, 0)), blk bk7 (.cells #[.bool false] 4 (0, 0)), blk bk4 (.cells #[.int .i64 1] 3 (0, 0)), blk bk1 (.cells #[.pointer (some ⟨g2, 0, none⟩)] 51 (0, 0)), RfA g2 s] :: blk D77 (.deferred (some [])) :: LkA g s :: imm bx (.cells #[.pointer (some ⟨g, 0, none⟩)] 30 (0, 0)) :: F) := H81
    obtain ⟨hpre84, H85⟩ := St.open_pure (St.open_star H83)
    obtain ⟨n86, hn87⟩ : ∃ n : Nat, n = L78.length := ⟨_, rfl⟩
    have H88 : St W w79 (blk bk10 (.cells #[.int .i64 (n86 : Int)] 3 (0, 0)) :: blk bk7 (.cells #[.bool false] 4 (0, 0)) :: blk bk4 (.cells #[.int .i64 1] 3 (0, 0)) :: blk bk1 (.cells #[.pointer (some ⟨g2, 0, none⟩)] 51 (0, 0)) :: RfA g2 s :: blk D77 (.deferred (some [])) :: LkA g s :: imm bx (.cells #[.pointer (some ⟨g, 0, none⟩)] 30 (0, 0)) :: F) := by rw [hn87]; exact H85
    have hend : n86 = s.held.length := by have h8 := congrArg List.length hS80; rw [sH_len, mapB_len rfl] at h8; omega
    refine g_inBlock ?_
    refine g_seq ?_
    have H89 : St W w79 (blk bk10 (.cells #[.int .i64 (n86 : Int)] 3 (0, 0)) :: blk bk4 (.cells #[.int .i64 1] 3 (0, 0)) :: blk bk1 (.cells #[.pointer (some ⟨g2, 0, none⟩)] 51 (0, 0)) :: blk D77 (.deferred (some [])) :: LkA g s :: imm bx (.cells #[.pointer (some ⟨g, 0, none⟩)] 30 (0, 0)) :: blk bk7 (.cells #[.bool false] 4 (0, 0)) :: RfA g2 s :: F) := ((((((((H88.move 4 rfl).move 2 rfl).move 7 rfl).move 7 rfl).move 7 rfl).move 7 rfl).move 7 rfl).move 7 rfl)
    refine g_mix (fun t_ w => St W w (blk bk10 (.cells #[.int .i64 (n86 : Int)] 3 (0, 0)) :: blk bk4 (.cells #[.int .i64 1] 3 (0, 0)) :: blk bk1 (.cells #[.pointer (some ⟨g2, 0, none⟩)] 51 (0, 0)) :: blk D77 (.deferred (some [])) :: LkA g s :: imm bx (.cells #[.pointer (some ⟨g, 0, none⟩)] 30 (0, 0)) :: t_)) (blk bk7 (.cells #[.bool false] 4 (0, 0)) :: RfA g2 s :: F) mixed 8 rfl H89.drew ?_
    refine f_first 0 (listed' := #[true, false, false, false, false, false, false, false]) rfl (by kernel_rfl) (by kernel_rfl) (by kernel_rfl) rfl ?_
    refine f_val rfl rfl rfl (by intro t_ w hw; exact x_load (.int .i64 (n86 : Int)) ag_3 rfl (hw.blk_at (i := 0) rfl) rfl) ?_
    refine f_first 1 (listed' := #[true, true, false, false, false, false, false, false]) rfl (by kernel_rfl) (by kernel_rfl) (by kernel_rfl) rfl ?_
    refine f_val rfl rfl rfl (by intro t_ w hw; exact x_load (.pointer (some ⟨g2, 0, none⟩)) ag_51 rfl (hw.blk_at (i := 2) rfl) rfl) ?_
    refine f_first 2 (listed' := #[true, true, true, false, false, false, false, false]) rfl (by kernel_rfl) (by kernel_rfl) (by kernel_rfl) rfl ?_
    refine f_val rfl rfl rfl (by intro t_ w hw; exact x_nilCheck (.pointer (some ⟨g2, 0, none⟩)) rfl ⟨_, rfl⟩ w) ?_
    refine f_first 3 (listed' := #[true, true, true, true, false, false, false, false]) rfl (by kernel_rfl) (by kernel_rfl) (by kernel_rfl) rfl ?_
    refine f_val rfl rfl rfl (by intro t_ w hw; exact x_fieldAddr 86 5 6 6 84 rfl fi_86_5 rfl w) ?_
    refine f_all (rs := [4]) (by kernel_rfl) (by simp) ?_
    refine a_cons ⟨_, rfl, ?_⟩ (fun x hx => absurd hx (by simp))
    intro w90 H91
    try dsimp only at H91
    have H92 := H91.move 7 rfl
    obtain ⟨⟨⟨pp93, cc94, L95, pp96, cc97, E98, A99⟩, hL100, hA101, hH102⟩, H103⟩ := St.open_ex H92
    have H104 := St.open_star H103
    change L95.map BodD.v = A99 ++ s.l at hL100; change A99.length = s.acked at hA101; change HR s.held (mapB E98) at hH102
    have hl105 := refLen hL100 hA101; have hh106 : E98.length = s.held.length := by have h9 := hH102.len; rw [mapB_len rfl] at h9; exact h9
    have H107 : St W w90 (blk g2 (.cells #[.int .i64 s.frm.v, .int .i64 s.to_.v, .int .i64 (s.slide : Int), .slice pp93 L95.length cc94, .int .i64 (s.acked : Int), .int .i64 ((i64N s.came).v), .slice pp96 E98.length cc97, .int .i64 (s.clock : Int), .bool s.owes] 86 (0, 0)) :: Row 101 3 (.slice pp93 L95.length cc94) L95.length (L95.flatMap bodCell) :: byA (L95.map BodD.by) :: Row 105 2 (.slice pp96 E98.length cc97) E98.length (E98.flatMap hlCell) :: byA (mby E98) :: blk bk10 (.cells #[.int .i64 (n86 : Int)] 3 (0, 0)) :: blk bk4 (.cells #[.int .i64 1] 3 (0, 0)) :: blk bk1 (.cells #[.pointer (some ⟨g2, 0, none⟩)] 51 (0, 0)) :: blk D77 (.deferred (some [])) :: LkA g s :: imm bx (.cells #[.pointer (some ⟨g, 0, none⟩)] 30 (0, 0)) :: blk bk7 (.cells #[.bool false] 4 (0, 0)) :: F) := H104
    refine s_load (.slice pp96 E98.length cc97) ag_84 rfl (H107.blk_at (i := 0) rfl) rfl rfl ?_
    have H108 : St W w90 (RfA g2 s :: blk bk10 (.cells #[.int .i64 (n86 : Int)] 3 (0, 0)) :: blk bk4 (.cells #[.int .i64 1] 3 (0, 0)) :: blk bk1 (.cells #[.pointer (some ⟨g2, 0, none⟩)] 51 (0, 0)) :: blk D77 (.deferred (some [])) :: LkA g s :: imm bx (.cells #[.pointer (some ⟨g, 0, none⟩)] 30 (0, 0)) :: blk bk7 (.cells #[.bool false] 4 (0, 0)) :: F) := St.shut_ex ⟨⟨pp93, cc94, L95, pp96, cc97, E98, A99⟩, hL100, hA101, hH102⟩ (St.shut_star (ls := [blk g2 (.cells #[.int .i64 s.frm.v, .int .i64 s.to_.v, .int .i64 (s.slide : Int), .slice pp93 L95.length cc94, .int .i64 (s.acked : Int), .int .i64 ((i64N s.came).v), .slice pp96 E98.length cc97, .int .i64 (s.clock : Int), .bool s.owes] 86 (0, 0)), Row 101 3 (.slice pp93 L95.length cc94) L95.length (L95.flatMap bodCell), byA (L95.map BodD.by), Row 105 2 (.slice pp96 E98.length cc97) E98.length (E98.flatMap hlCell), byA (mby E98)]) H107)
    have H109 : St W w90 (blk bk10 (.cells #[.int .i64 (n86 : Int)] 3 (0, 0)) :: blk bk4 (.cells #[.int .i64 1] 3 (0, 0)) :: blk bk1 (.cells #[.pointer (some ⟨g2, 0, none⟩)] 51 (0, 0)) :: blk D77 (.deferred (some [])) :: LkA g s :: imm bx (.cells #[.pointer (some ⟨g, 0, none⟩)] 30 (0, 0)) :: RfA g2 s :: blk bk7 (.cells #[.bool false] 4 (0, 0)) :: F) := ((((((((H108.move 7 rfl).move 1 rfl).move 7 rfl).move 7 rfl).move 7 rfl).move 7 rfl).move 7 rfl).move 7 rfl)
    refine ⟨RfA g2 s :: blk bk7 (.cells #[.bool false] 4 (0, 0)) :: F, ?_, H109⟩
    change FReg _ _ _ _ _ #[true, true, true, true, true, false, false, false] _ _
    refine f_first 5 (listed' := #[true, true, true, true, true, true, false, false]) rfl (by kernel_rfl) (by kernel_rfl) (by kernel_rfl) rfl ?_
    refine f_val rfl rfl rfl (by intro t_ w hw; exact x_len E98.length rfl ⟨_, un_84⟩ w) ?_
    refine f_first 6 (listed' := #[true, true, true, true, true, true, true, false]) rfl (by kernel_rfl) (by kernel_rfl) (by kernel_rfl) rfl ?_
    refine f_val rfl rfl rfl (by intro t_ w hw; exact x_eql true rfl rfl (dtrue (by omega)) w) ?_
    refine f_all (rs := [7]) (by kernel_rfl) (by simp) ?_
    refine a_cons ⟨_, rfl, ?_⟩ (fun x hx => absurd hx (by simp))
    intro w110 H111
    try dsimp only at H111
    refine s_store H111 7 (.bool true) rfl rfl rfl sz_4 rfl (Nat.le_of_ble_eq_true rfl) rfl (cs' := #[.bool true]) rfl ?_; intro w112 H113
    refine ⟨RfA g2 s :: blk bk7 (.cells #[.bool true] 4 (0, 0)) :: F, ?_, H113⟩
    change FReg _ _ _ _ _ #[true, true, true, true, true, true, true, true] _ _
    refine f_done (by kernel_rfl) ?_
    intro w114 H115
    obtain ⟨hd116, H117⟩ := H115.collect (i := 3) rfl
    refine g_retD _ [.bool true] Try.func45 Try.results45 rfl ⟨hd116, trivial⟩ ⟨(res_cell1 rfl ag_4 (H117.blk_at (i := 6) rfl) rfl), trivial⟩ ?_
    have H118 : St W (w114.putObj D77 (.deferred none)) (LkA g s :: RfA g2 s :: F) := (((((((H117.move 5 rfl).move 4 rfl).drop 2 rfl).drop 2 rfl).drop 2 rfl).drop 2 rfl).drop 2 rfl)
    exact ⟨rfl, H118⟩
  · intro D119 c124 L120 w121 hS122 H123
    have H125 : St W w121 (star [pure' (c124 = .ret), blk bk7 (.cells #[.bool true] 4 (0, 0)), RfA g2 s] :: blk D119 (.deferred (some [])) :: LkA g s :: imm bx (.cells #[.pointer (some ⟨g, 0, none⟩)] 30 (0, 0)) :: F) := H123
    obtain ⟨hc126, H127⟩ := St.open_pure (St.open_star H125)
    subst hc126
    have H128 : St W w121 (blk bk7 (.cells #[.bool true] 4 (0, 0)) :: RfA g2 s :: blk D119 (.deferred (some [])) :: LkA g s :: imm bx (.cells #[.pointer (some ⟨g, 0, none⟩)] 30 (0, 0)) :: F) := H127
    obtain ⟨hd129, H130⟩ := H128.collect (i := 2) rfl
    refine g_retD _ [.bool true] Try.func45 Try.results45 rfl ⟨hd129, trivial⟩ ⟨(res_cell1 rfl ag_4 (H130.blk_at (i := 0) rfl) rfl), trivial⟩ ?_
    have H131 : St W (w121.putObj D119 (.deferred none)) (LkA g s :: RfA g2 s :: F) := ((((H130.move 1 rfl).move 2 rfl).drop 2 rfl).drop 2 rfl)
    exact ⟨rfl, H131⟩
set_option maxHeartbeats 4000000 in
set_option maxRecDepth 100000 in
theorem sameBodies_im {W w : World} {F : List Atom} (D M L : List BytesD) (p1 p2 : Option Addr) (d1 d2 : Nat) (heq : D.map BytesD.data = M.map BytesD.data) (hDL : ∀ x ∈ D, x ∈ L) (hML : ∀ x ∈ M, x ∈ L) {i j a : Nat} (hi : F[i]? = some (Im 1 (.slice p1 D.length d1) D.length (D.flatMap byCell))) (hj : F[j]? = some (Im 1 (.slice p2 M.length d2) M.length (M.flatMap byCell))) (ha : F[a]? = some (byA L)) (H : St W w F) : Calls Try.prog 14 #[.slice p1 D.length d1, .slice p2 M.length d2] w (Ret fun v w' => v = .bool true ∧ St W w' F) := by
  have H0 := ((H.dup hi (Im_pers _ _ _ _)).dup (i := j + 1) (by exact hj) (Im_pers _ _ _ _)).dup (i := a + 2) (by exact ha) (byA_pers _)
  have H1 : St W w (byA L :: Im 1 (.slice p2 M.length d2) M.length (M.flatMap byCell) :: Im 1 (.slice p1 D.length d1) D.length (D.flatMap byCell) :: F) := H0
  have hl : D.length = M.length := by have h9 := congrArg List.length heq; rw [List.length_map, List.length_map] at h9; exact h9
  refine calls_of_go (n := 27) Try.func14 rfl Try.ntmps14 rfl ?_
  refine g_seq ?_
  refine g_region ?_
  refine r_cons (s_assign (.bool false) rfl rfl ?_)
  refine r_nil ?_
  refine g_seq ?_
  refine g_seq ?_
  refine g_region ?_
  refine r_cons (s_move (.slice p1 D.length d1) rfl rfl ?_)
  refine r_cons (s_len D.length rfl ⟨_, un_32⟩ rfl ?_)
  refine r_cons (s_move (.slice p2 M.length d2) rfl rfl ?_)
  refine r_cons (s_len M.length rfl ⟨_, un_32⟩ rfl ?_)
  refine r_cons (s_neq false rfl rfl (ntrue (by omega)) rfl ?_)
  refine r_nil ?_
  refine g_false rfl ?_
  refine g_skip ?_
  refine g_seq ?_
  refine g_seq ?_
  refine g_region ?_
  refine r_cons (s_move (.slice p1 D.length d1) rfl rfl ?_)
  refine r_cons (s_len D.length rfl ⟨_, un_32⟩ rfl ?_)
  refine r_cons (s_move (.int .i64 0) rfl rfl ?_)
  refine r_nil ?_
  refine g_block ?_
  obtain ⟨pA2, cA3, gA4, oA5, kA6, eA7, zA8, he14, hn9, hp10, hx11, hs12, hml, H13⟩ := Im.open_ H1 (i := 2) rfl
  obtain ⟨rfl, rfl⟩ : p1 = pA2 ∧ d1 = cA3 := by injection he14 with a_ b_ c_; exact ⟨a_, c_⟩
  obtain ⟨pA15, cA16, gA17, oA18, kA19, eA20, zA21, he27, hn22, hp23, hx24, hs25, hml, H26⟩ := Im.open_ H13 (i := 2) rfl
  obtain ⟨rfl, rfl⟩ : p2 = pA15 ∧ d2 = cA16 := by injection he27 with a_ b_ c_; exact ⟨a_, c_⟩
  refine g_loop_inv (fun (x_ : Nat) => match x_ with | j2 => [(0, .slice p1 D.length d1), (1, .slice p2 M.length d2), (4, .bool false), (12, .int .i64 (D.length : Int)), (13, .int .i64 (j2 : Int))]) (fun (x_ : Nat) w => match x_ with | j2 => (j2 ≤ D.length) ∧ St W w (imi (0 < M.length) gA17 (.cells kA19 eA20 zA21) :: imi (0 < D.length) gA4 (.cells kA6 eA7 zA8) :: byA L :: Im 1 (.slice p2 M.length d2) M.length (M.flatMap byCell) :: Im 1 (.slice p1 D.length d1) D.length (D.flatMap byCell) :: F)) (fun (x_ : Nat) => match x_ with | j2 => D.length - j2) (0) ?_ ?_ ?_
  · exact ⟨by first | rfl | exact vint (by omega), by first | rfl | exact vint (by omega), by first | rfl | exact vint (by omega), by first | rfl | exact vint (by omega), by first | rfl | exact vint (by omega), trivial⟩
  · exact ⟨(by omega), H26⟩
  · rintro j2 ρ28 w29 ⟨hjn, H30⟩ nx31
    change Ends _ _ (upds ρ28 [(0, .slice p1 D.length d1), (1, .slice p2 M.length d2), (4, .bool false), (12, .int .i64 (D.length : Int)), (13, .int .i64 (j2 : Int))]) w29
    refine g_seq ?_
    refine g_region ?_
    by_cases hc32 : (j2 : Int) < (D.length : Int)
    · skip
      refine r_cons (s_lss true rfl rfl (dtrue hc32) rfl ?_)
      refine r_nil ?_
      refine g_seq ?_
      refine g_true rfl ?_
      refine g_skip ?_
      refine g_seq ?_
      refine g_block ?_
      refine g_seq ?_
      refine g_region ?_
      refine r_cons (s_move (.int .i64 (j2 : Int)) rfl rfl ?_)
      refine r_cons (s_assign (.int .i64 (j2 : Int)) rfl rfl ?_)
      refine r_nil ?_
      refine g_seq ?_
      have H33 : St W w29 (Im 1 (.slice ((D.getD j2 default).p) ((D.getD j2 default).data.length) ((D.getD j2 default).c)) (((D.getD j2 default).data).length) (((D.getD j2 default).data).flatMap u8c) :: imi (0 < M.length) gA17 (.cells kA19 eA20 zA21) :: imi (0 < D.length) gA4 (.cells kA6 eA7 zA8) :: byA L :: Im 1 (.slice p2 M.length d2) M.length (M.flatMap byCell) :: Im 1 (.slice p1 D.length d1) D.length (D.flatMap byCell) :: F) := byA_at H30 (i := 2) rfl (hDL _ (by_in (k := j2) (by omega)))
      have H34 : St W w29 (Im 1 (.slice ((M.getD j2 default).p) ((M.getD j2 default).data.length) ((M.getD j2 default).c)) (((M.getD j2 default).data).length) (((M.getD j2 default).data).flatMap u8c) :: Im 1 (.slice ((D.getD j2 default).p) ((D.getD j2 default).data.length) ((D.getD j2 default).c)) (((D.getD j2 default).data).length) (((D.getD j2 default).data).flatMap u8c) :: imi (0 < M.length) gA17 (.cells kA19 eA20 zA21) :: imi (0 < D.length) gA4 (.cells kA6 eA7 zA8) :: byA L :: Im 1 (.slice p2 M.length d2) M.length (M.flatMap byCell) :: Im 1 (.slice p1 D.length d1) D.length (D.flatMap byCell) :: F) := byA_at H33 (i := 3) rfl (hML _ (by_in (k := j2) (by omega)))
      have hsm : decide ((D.getD j2 default).data = (M.getD j2 default).data) = true := decide_eq_true (same_at heq j2)
      refine g_quiet (fun w' => St W w' (Im 1 (.slice ((M.getD j2 default).p) ((M.getD j2 default).data.length) ((M.getD j2 default).c)) (((M.getD j2 default).data).length) (((M.getD j2 default).data).flatMap u8c) :: Im 1 (.slice ((D.getD j2 default).p) ((D.getD j2 default).data.length) ((D.getD j2 default).c)) (((D.getD j2 default).data).length) (((D.getD j2 default).data).flatMap u8c) :: imi (0 < M.length) gA17 (.cells kA19 eA20 zA21) :: imi (0 < D.length) gA4 (.cells kA6 eA7 zA8) :: byA L :: Im 1 (.slice p2 M.length d2) M.length (M.flatMap byCell) :: Im 1 (.slice p1 D.length d1) D.length (D.flatMap byCell) :: F)) mixed (by kernel_rfl) H34.drew ?_
      refine q_cons (q_val rfl rfl rfl (by intro w hw; exact x_move (.slice p1 D.length d1) rfl w) ?_)
      refine q_cons (q_val rfl rfl rfl (by intro w hw; exact x_move (.int .i64 (j2 : Int)) rfl w) ?_)
      refine q_cons (q_val rfl rfl rfl (by intro w hw; exact x_indexAddr gA4 (off := oA5) (j2 : Int) 1 (oA5 + j2 * 1) (by exact congrArg (fun z_ => Value.slice z_ D.length d1) (hp10 (by omega))) rfl el_32 (by omega) rfl w) ?_)
      refine q_cons (q_val rfl rfl rfl (by intro w hw; exact x_load (.slice ((D.getD j2 default).p) ((D.getD j2 default).data.length) ((D.getD j2 default).c)) ag_26 rfl (hw.imi_at (i := 3) rfl (by omega)) (elem_cell (L := D) (i := j2) byCell_len (hx11 (by omega)) (by omega) default 0 (by decide) _ rfl)) ?_)
      refine q_cons (q_val rfl rfl rfl (by intro w hw; exact x_move (.slice p2 M.length d2) rfl w) ?_)
      refine q_cons (q_val rfl rfl rfl (by intro w hw; exact x_move (.int .i64 (j2 : Int)) rfl w) ?_)
      refine q_cons (q_val rfl rfl rfl (by intro w hw; exact x_indexAddr gA17 (off := oA18) (j2 : Int) 1 (oA18 + j2 * 1) (by exact congrArg (fun z_ => Value.slice z_ M.length d2) (hp23 (by omega))) rfl el_32 (by omega) rfl w) ?_)
      refine q_cons (q_val rfl rfl rfl (by intro w hw; exact x_load (.slice ((M.getD j2 default).p) ((M.getD j2 default).data.length) ((M.getD j2 default).c)) ag_26 rfl (hw.imi_at (i := 2) rfl (by omega)) (elem_cell (L := M) (i := j2) byCell_len (hx24 (by omega)) (by omega) default 0 (by decide) _ rfl)) ?_)
      refine q_cons (q_enter (args := #[.slice ((D.getD j2 default).p) ((D.getD j2 default).data.length) ((D.getD j2 default).c), .slice ((M.getD j2 default).p) ((M.getD j2 default).data.length) ((M.getD j2 default).c)]) (v := .bool (decide (((D.getD j2 default).data) = ((M.getD j2 default).data)))) rfl rfl rfl (x_call pl_34 [.slice ((D.getD j2 default).p) ((D.getD j2 default).data.length) ((D.getD j2 default).c), .slice ((M.getD j2 default).p) ((M.getD j2 default).data.length) ((M.getD j2 default).c)] rfl) (fun w hw => bytes_Equal _ _ _ _ _ _ ((D.getD j2 default).data) ((M.getD j2 default).data) RdA.im RdA.im (j := 1) rfl (k := 0) rfl hw) ?_)
      refine q_cons (q_val rfl rfl rfl (by intro w hw; exact x_not (decide (((D.getD j2 default).data) = ((M.getD j2 default).data))) rfl false (by rw [hsm]; rfl) w) ?_)
      refine q_nil ?_
      intro w35 H36
      refine g_false rfl ?_
      refine g_skip ?_
      refine g_inBlock ?_
      refine g_region ?_
      refine r_cons (s_add ((j2 : Int) + 1) rfl rfl (wi64 (by omega)) rfl ?_)
      refine r_cons (s_move (.int .i64 ((j2 : Int) + 1)) rfl rfl ?_)
      refine r_nil ?_
      have H37 : St W w35 (imi (0 < M.length) gA17 (.cells kA19 eA20 zA21) :: imi (0 < D.length) gA4 (.cells kA6 eA7 zA8) :: byA L :: Im 1 (.slice p2 M.length d2) M.length (M.flatMap byCell) :: Im 1 (.slice p1 D.length d1) D.length (D.flatMap byCell) :: F) := (((((((H36.move 6 rfl).move 6 rfl).move 6 rfl).move 6 rfl).move 6 rfl).drop 5 rfl).drop 5 rfl)
      exact nx31 (j2 + 1) _ _ ⟨(by omega), H37⟩ (by first | (dsimp only; omega) | omega) ⟨by first | rfl | exact vint (by omega), by first | rfl | exact vint (by omega), by first | rfl | exact vint (by omega), by first | rfl | exact vint (by omega), by first | rfl | exact vint (by omega), trivial⟩
    · skip
      refine r_cons (s_lss false rfl rfl (dfalse hc32) rfl ?_)
      refine r_nil ?_
      refine g_seq ?_
      refine g_false rfl ?_
      refine g_exit (by rfl) ?_
      refine g_seq ?_
      refine g_region ?_
      refine r_cons (s_assign (.bool true) rfl rfl ?_)
      refine r_nil ?_
      refine g_ret' [.bool true] Try.func14 Try.results14 ⟨rfl, trivial⟩ ?_
      have H38 : St W w29 F := (((((H30.drop 0 rfl).drop 0 rfl).drop 0 rfl).drop 0 rfl).drop 0 rfl)
      exact ⟨rfl, H38⟩
theorem sameBodies_rows {W w : World} {F : List Atom} (D E : List BytesD) (k n1 n2 : Nat) (p1 p2 : Option Addr) (d1 d2 : Nat) (h1 : D.length = n1) (h2 : E.length = n2) (hk : k ≤ n2) (hkD : k = n1) (heq : D.map BytesD.data = (E.map BytesD.data).take k) {i j a : Nat} (hi : F[i]? = some (Row 26 1 (.slice p1 n1 d1) n1 (D.flatMap byCell))) (hj : (F.set i emp)[j]? = some (Row 26 1 (.slice p2 n2 d2) n2 (E.flatMap byCell))) (ha : ((F.set i emp).set j emp)[a]? = some (byA (D ++ E))) (H : St W w F) : Calls Try.prog 14 #[.slice p1 n1 d1, .slice p2 k d2] w (Ret fun v w' => v = .bool true ∧ St W w' F) := by
  subst h1 h2 hkD
  refine rows_lend (q := fun v => v = .bool true) hi hj ha H fun G g0 g1 g2 HG => ?_
  have HG2 : St W w (Im 1 (.slice p2 D.length d2) D.length ((E.take D.length).flatMap byCell) :: G) := Im.cut_h byCell_len D.length HG (i := 1) g1 hk
  have hl : (E.take D.length).length = D.length := by rw [List.length_take]; omega
  have HG3 : St W w (Im 1 (.slice p2 (E.take D.length).length d2) (E.take D.length).length ((E.take D.length).flatMap byCell) :: G) := by rw [hl]; exact HG2
  have h := sameBodies_im D (E.take D.length) (D ++ E) p1 p2 d1 d2 (by rw [heq, List.map_take]) (fun x hx => List.mem_append_left _ hx) (fun x hx => List.mem_append_right _ (take_by x hx)) (i := 1) (j := 0) (a := 3) (by exact g0) rfl (by exact g2) HG3
  rw [hl] at h
  refine h.mono fun e w' hh => ?_
  cases e with
  | returned v => exact ⟨hh.1, hh.2.drop 0 rfl⟩
  | _ => exact hh.elim
set_option maxHeartbeats 4000000 in
set_option maxRecDepth 100000 in
theorem live_ {W w : World} {F : List Atom}  (H : St W w F) : Calls Try.prog 8 #[] w (Ret fun v w' => v = .bool true ∧ St W w' F) := by
  refine calls_of_go (n := 72) Try.func8 rfl Try.ntmps8 rfl ?_
  refine g_seq ?_
  refine g_region ?_
  refine r_cons (s_assign (.bool false) rfl rfl ?_)
  refine r_nil ?_
  refine g_seq ?_
  refine g_region ?_
  refine r_cons (s_build (cs := #[.int .i64 0, .int .i64 1]) (by kernel_rfl) rfl ?_)
  refine r_cons (s_call [.agg #[.int .i64 0, .int .i64 1], .int .i64 2] pl_17 rfl rfl (Link_New (i64' 0) (i64' 1) 2 (by decide) (by decide) (by decide) (by omega) (by omega) H) ?_)
  rintro _ w2 ⟨bk1, rfl, H3⟩
  refine r_cons (s_move (.tuple #[.pointer (some ⟨bk1, 0, none⟩), .int .i64 0]) rfl rfl ?_)
  refine r_cons (s_extract (.pointer (some ⟨bk1, 0, none⟩)) #[.pointer (some ⟨bk1, 0, none⟩), .int .i64 0] rfl rfl rfl ?_)
  refine r_cons (s_extract (.int .i64 0) #[.pointer (some ⟨bk1, 0, none⟩), .int .i64 0] rfl rfl rfl ?_)
  refine r_cons (s_assign (.pointer (some ⟨bk1, 0, none⟩)) rfl rfl ?_)
  refine r_cons (s_assign (.int .i64 0) rfl rfl ?_)
  refine r_nil ?_
  refine g_seq ?_
  refine g_seq ?_
  refine g_region ?_
  refine r_cons (s_move (.int .i64 0) rfl rfl ?_)
  refine r_cons (s_neq false rfl rfl (ntrue (by decide)) rfl ?_)
  refine r_cons (s_move (.bool false) rfl rfl ?_)
  refine r_cons (r_take rfl rfl ?_)
  refine s_move (.pointer (some ⟨bk1, 0, none⟩)) rfl rfl ?_
  refine r_cons (r_take rfl rfl ?_)
  refine s_peql false un_30 rfl rfl rfl rfl ?_
  refine r_cons (s_pick_f (.bool false) rfl rfl rfl ?_)
  refine r_cons (s_move (.bool false) rfl rfl ?_)
  refine r_cons (r_take rfl rfl ?_)
  refine s_move (.pointer (some ⟨bk1, 0, none⟩)) rfl rfl ?_
  refine r_cons (r_take rfl rfl ?_)
  refine s_buildSlice H3 1 1 (cs := #[.int .u8 97]) #[.int .u8 0] el_26 ze_5 (by decide) (by decide) (by kernel_rfl) rfl ?_; intro bk4 w5 H6
  refine r_cons (r_take rfl rfl ?_)
  have H8 : St W w5 (Im 1 (.slice (some ⟨bk4, 0, none⟩) 1 1) 1 ([97].flatMap u8c) :: LkA bk1 (newS (i64' 0) (i64' 1) 2) :: F) := Row.im (Row.of_blk (n := 1) (size := 1) H6 (i := 0) rfl (by unfold maxLen; omega) (by simp) (by simp [Value.oneCell'])) (i := 0) rfl
  refine s_call [.pointer (some ⟨bk1, 0, none⟩), .slice (some ⟨bk4, 0, none⟩) 1 1] pl_22 rfl rfl (Lk_Send bk1 (newS (i64' 0) (i64' 1) 2) (endOk_new (by omega) (by omega)) [97] (.slice (some ⟨bk4, 0, none⟩) 1 1) (j := 0) rfl (i := 1) rfl H8) ?_
  rintro _ w9 ⟨rfl, H10⟩
  refine r_cons (r_take rfl rfl ?_)
  refine s_neq false rfl rfl (ntrue (by decide +kernel)) rfl ?_
  refine r_cons (s_pick_f (.bool false) rfl rfl rfl ?_)
  refine r_cons (s_move (.bool false) rfl rfl ?_)
  refine r_cons (r_take rfl rfl ?_)
  refine s_move (.pointer (some ⟨bk1, 0, none⟩)) rfl rfl ?_
  refine r_cons (r_take rfl rfl ?_)
  refine s_buildSlice H10 1 1 (cs := #[.int .u8 98]) #[.int .u8 0] el_26 ze_5 (by decide) (by decide) (by kernel_rfl) rfl ?_; intro bk11 w12 H13
  refine r_cons (r_take rfl rfl ?_)
  have H15 : St W w12 (Im 1 (.slice (some ⟨bk11, 0, none⟩) 1 1) 1 ([98].flatMap u8c) :: Im 1 (.slice (some ⟨bk4, 0, none⟩) 1 1) 1 ([97].flatMap u8c) :: LkA bk1 (sendS (newS (i64' 0) (i64' 1) 2) [97]) :: F) := Row.im (Row.of_blk (n := 1) (size := 1) H13 (i := 0) rfl (by unfold maxLen; omega) (by simp) (by simp [Value.oneCell'])) (i := 0) rfl
  refine s_call [.pointer (some ⟨bk1, 0, none⟩), .slice (some ⟨bk11, 0, none⟩) 1 1] pl_22 rfl rfl (Lk_Send bk1 (sendS (newS (i64' 0) (i64' 1) 2) [97]) (endOk_send (endOk_new (by omega) (by omega))) [98] (.slice (some ⟨bk11, 0, none⟩) 1 1) (j := 0) rfl (i := 2) rfl H15) ?_
  rintro _ w16 ⟨rfl, H17⟩
  refine r_cons (r_take rfl rfl ?_)
  refine s_neq false rfl rfl (ntrue (by decide +kernel)) rfl ?_
  refine r_cons (s_pick_f (.bool false) rfl rfl rfl ?_)
  refine r_cons (s_move (.bool false) rfl rfl ?_)
  refine r_cons (r_take rfl rfl ?_)
  refine s_move (.pointer (some ⟨bk1, 0, none⟩)) rfl rfl ?_
  refine r_cons (r_take rfl rfl ?_)
  refine s_buildSlice H17 1 1 (cs := #[.int .u8 99]) #[.int .u8 0] el_26 ze_5 (by decide) (by decide) (by kernel_rfl) rfl ?_; intro bk18 w19 H20
  refine r_cons (r_take rfl rfl ?_)
  have H22 : St W w19 (Im 1 (.slice (some ⟨bk18, 0, none⟩) 1 1) 1 ([99].flatMap u8c) :: Im 1 (.slice (some ⟨bk11, 0, none⟩) 1 1) 1 ([98].flatMap u8c) :: Im 1 (.slice (some ⟨bk4, 0, none⟩) 1 1) 1 ([97].flatMap u8c) :: LkA bk1 (sendS (sendS (newS (i64' 0) (i64' 1) 2) [97]) [98]) :: F) := Row.im (Row.of_blk (n := 1) (size := 1) H20 (i := 0) rfl (by unfold maxLen; omega) (by simp) (by simp [Value.oneCell'])) (i := 0) rfl
  refine s_call [.pointer (some ⟨bk1, 0, none⟩), .slice (some ⟨bk18, 0, none⟩) 1 1] pl_22 rfl rfl (Lk_Send bk1 (sendS (sendS (newS (i64' 0) (i64' 1) 2) [97]) [98]) (endOk_send (endOk_send (endOk_new (by omega) (by omega)))) [99] (.slice (some ⟨bk18, 0, none⟩) 1 1) (j := 0) rfl (i := 3) rfl H22) ?_
  rintro _ w23 ⟨rfl, H24⟩
  refine r_cons (r_take rfl rfl ?_)
  refine s_neq false rfl rfl (ntrue (by decide +kernel)) rfl ?_
  refine r_cons (s_pick_f (.bool false) rfl rfl rfl ?_)
  refine r_nil ?_
  refine g_false rfl ?_
  refine g_skip ?_
  refine g_seq ?_
  refine g_region ?_
  refine r_cons (s_move (.pointer (some ⟨bk1, 0, none⟩)) rfl rfl ?_)
  refine r_cons (s_call [.pointer (some ⟨bk1, 0, none⟩)] pl_23 rfl rfl (Lk_Out bk1 (sendS (sendS (sendS (newS (i64' 0) (i64' 1) 2) [97]) [98]) [99]) (endOk_send (endOk_send (endOk_send (endOk_new (by omega) (by omega))))) (i := 3) rfl H24) ?_)
  rintro _ w27 ⟨pp25, cc26, rfl, H28⟩
  refine r_cons (s_assign (.slice pp25 ((outT (sendS (sendS (sendS (newS (i64' 0) (i64' 1) 2) [97]) [98]) [99])).length) cc26) rfl rfl ?_)
  refine r_nil ?_
  refine g_seq ?_
  refine g_seq ?_
  refine g_region ?_
  refine r_cons (s_move (.slice pp25 ((outT (sendS (sendS (sendS (newS (i64' 0) (i64' 1) 2) [97]) [98]) [99])).length) cc26) rfl rfl ?_)
  refine r_cons (s_len ((outT (sendS (sendS (sendS (newS (i64' 0) (i64' 1) 2) [97]) [98]) [99])).length) rfl ⟨_, un_34⟩ rfl ?_)
  refine r_cons (s_neq false rfl rfl (ntrue (by decide +kernel)) rfl ?_)
  refine r_cons (s_move (.bool false) rfl rfl ?_)
  refine r_cons (r_take rfl rfl ?_)
  refine s_move (.slice pp25 ((outT (sendS (sendS (sendS (newS (i64' 0) (i64' 1) 2) [97]) [98]) [99])).length) cc26) rfl rfl ?_
  refine r_cons (r_take rfl rfl ?_)
  have H29 := H28.move 0 rfl
  obtain ⟨⟨D30, hD31⟩, H32⟩ := St.open_ex H29
  have H33 := St.open_star H32
  change D30.map DgD.d = (outT (sendS (sendS (sendS (newS (i64' 0) (i64' 1) 2) [97]) [98]) [99])) at hD31
  have H34 : St W w27 (Row 41 6 (.slice pp25 ((outT (sendS (sendS (sendS (newS (i64' 0) (i64' 1) 2) [97]) [98]) [99])).length) cc26) ((outT (sendS (sendS (sendS (newS (i64' 0) (i64' 1) 2) [97]) [98]) [99])).length) (D30.flatMap dgdCell) :: byA (D30.map DgD.by) :: Im 1 (.slice (some ⟨bk18, 0, none⟩) 1 1) 1 ([99].flatMap u8c) :: Im 1 (.slice (some ⟨bk11, 0, none⟩) 1 1) 1 ([98].flatMap u8c) :: Im 1 (.slice (some ⟨bk4, 0, none⟩) 1 1) 1 ([97].flatMap u8c) :: LkA bk1 (outS (sendS (sendS (sendS (newS (i64' 0) (i64' 1) 2) [97]) [98]) [99])) :: F) := H33
  have hl2 : D30.length = 2 := by rw [lenOf hD31]; decide +kernel
  have hs1 : (D30.getD 1 default).d.seq.v = 1 := by rw [dgAt hD31 1]; decide +kernel
  have hb1 : (D30.getD 1 default).d.body = [98] := by rw [dgAt hD31 1]; decide +kernel
  have hl3 := lenOf hD31; rw [hl2] at hl3
  obtain ⟨bk35, cur36, hp37, h38, h39, h40, h41, h42, H43⟩ := Row.open2 H34 (i := 0) rfl (by rw [← lenOf hD31, hl2]; decide)
  have H44 : St W w27 (Im 1 (.slice ((D30.getD 1 default).p) ((D30.getD 1 default).d.body.length) ((D30.getD 1 default).c)) (((D30.getD 1 default).d.body).length) (((D30.getD 1 default).d.body).flatMap u8c) :: blk bk35 (.cells cur36 41 (0, 0)) :: byA (D30.map DgD.by) :: Im 1 (.slice (some ⟨bk18, 0, none⟩) 1 1) 1 ([99].flatMap u8c) :: Im 1 (.slice (some ⟨bk11, 0, none⟩) 1 1) 1 ([98].flatMap u8c) :: Im 1 (.slice (some ⟨bk4, 0, none⟩) 1 1) 1 ([97].flatMap u8c) :: LkA bk1 (outS (sendS (sendS (sendS (newS (i64' 0) (i64' 1) 2) [97]) [98]) [99])) :: F) := byA_at H43 (i := 1) rfl (dg_at (k := 1) (by omega))
  refine s_indexAddr bk35 (off := 0) 1 6 (0 + 1 * 6) (by exact congrArg (fun z_ => Value.slice z_ ((outT (sendS (sendS (sendS (newS (i64' 0) (i64' 1) 2) [97]) [98]) [99])).length) cc26) ((fun (_ : 0 < 1) => hp37) (by omega))) rfl el_34 (by omega) rfl rfl ?_
  refine r_cons (r_take rfl rfl ?_)
  refine s_fieldAddr 41 3 3 (0 + 1 * 6 + 3) 2 rfl fi_41_3 rfl rfl ?_
  refine r_cons (r_take rfl rfl ?_)
  refine s_load (.int .i64 ((D30.getD 1 default).d.seq.v)) ag_2 rfl (H44.blk_at (i := 1) rfl) (elem_cell (L := D30) (i := 1) dgdCell_len (by rw [(lenOf hD31)]; exact h41) (by have hh : D30.length = (outT (sendS (sendS (sendS (newS (i64' 0) (i64' 1) 2) [97]) [98]) [99])).length := (lenOf hD31); omega) default 3 (by decide) _ rfl) rfl ?_
  refine r_cons (r_take rfl rfl ?_)
  refine s_neq false rfl rfl (ntrue hs1) rfl ?_
  refine r_cons (s_pick_f (.bool false) rfl rfl rfl ?_)
  refine r_cons (s_move (.bool false) rfl rfl ?_)
  refine r_cons (r_take rfl rfl ?_)
  refine s_move (.slice pp25 ((outT (sendS (sendS (sendS (newS (i64' 0) (i64' 1) 2) [97]) [98]) [99])).length) cc26) rfl rfl ?_
  refine r_cons (r_take rfl rfl ?_)
  refine s_indexAddr bk35 (off := 0) 1 6 (0 + 1 * 6) (by exact congrArg (fun z_ => Value.slice z_ ((outT (sendS (sendS (sendS (newS (i64' 0) (i64' 1) 2) [97]) [98]) [99])).length) cc26) ((fun (_ : 0 < 1) => hp37) (by omega))) rfl el_34 (by omega) rfl rfl ?_
  refine r_cons (r_take rfl rfl ?_)
  refine s_fieldAddr 41 5 5 (0 + 1 * 6 + 5) 26 rfl fi_41_5 rfl rfl ?_
  refine r_cons (r_take rfl rfl ?_)
  refine s_load (.slice ((D30.getD 1 default).p) ((D30.getD 1 default).d.body.length) ((D30.getD 1 default).c)) ag_26 rfl (H44.blk_at (i := 1) rfl) (elem_cell (L := D30) (i := 1) dgdCell_len (by rw [(lenOf hD31)]; exact h41) (by have hh : D30.length = (outT (sendS (sendS (sendS (newS (i64' 0) (i64' 1) 2) [97]) [98]) [99])).length := (lenOf hD31); omega) default 5 (by decide) _ rfl) rfl ?_
  refine r_cons (r_take rfl rfl ?_)
  refine (s_bytes_str (xs := ((D30.getD 1 default).d.body)) rfl (by rw [bytesV_flat]; exact (Im.rd H44 (i := 0) rfl)) un_26 un_5 un_9 rfl ?_)
  refine r_cons (r_take rfl rfl ?_)
  refine s_sneq false rfl rfl (ntrue (by rw [hb1])) rfl ?_
  refine r_cons (s_pick_f (.bool false) rfl rfl rfl ?_)
  refine r_nil ?_
  refine g_false rfl ?_
  refine g_skip ?_
  refine g_seq ?_
  refine g_region ?_
  refine r_cons (s_move (.pointer (some ⟨bk1, 0, none⟩)) rfl rfl ?_)
  refine r_cons (s_build (cs := #[.int .i64 1, .int .i64 0, .int .i64 2, .int .i64 0, .int .i64 1, .slice none 0 0]) (by kernel_rfl) rfl ?_)
  have H45 := Row.im (Row.nil_intro H44 5 1) (i := 0) rfl
  have H46 : St W w27 (Im 1 (.slice none 0 0) (([] : List UInt8).length) (([] : List UInt8).flatMap u8c) :: Im 1 (.slice ((D30.getD 1 default).p) ((D30.getD 1 default).d.body.length) ((D30.getD 1 default).c)) (((D30.getD 1 default).d.body).length) (((D30.getD 1 default).d.body).flatMap u8c) :: blk bk35 (.cells cur36 41 (0, 0)) :: byA (D30.map DgD.by) :: Im 1 (.slice (some ⟨bk18, 0, none⟩) 1 1) 1 ([99].flatMap u8c) :: Im 1 (.slice (some ⟨bk11, 0, none⟩) 1 1) 1 ([98].flatMap u8c) :: Im 1 (.slice (some ⟨bk4, 0, none⟩) 1 1) 1 ([97].flatMap u8c) :: LkA bk1 (outS (sendS (sendS (sendS (newS (i64' 0) (i64' 1) 2) [97]) [98]) [99])) :: F) := H45
  refine r_cons (s_call [.pointer (some ⟨bk1, 0, none⟩), .agg #[.int .i64 1, .int .i64 0, .int .i64 2, .int .i64 0, .int .i64 1, .slice none 0 0]] pl_21 rfl rfl (Lk_Take bk1 (outS (sendS (sendS (sendS (newS (i64' 0) (i64' 1) 2) [97]) [98]) [99])) (endOk_out (endOk_send (endOk_send (endOk_send (endOk_new (by omega) (by omega)))))) dgAck1 (.slice none 0 0) (by decide +kernel) (j := 0) rfl (i := 7) rfl H46) ?_)
  rintro _ w49 ⟨pp47, cc48, rfl, H50⟩
  refine r_cons (s_move (.tuple #[.slice pp47 ((takeT (outS (sendS (sendS (sendS (newS (i64' 0) (i64' 1) 2) [97]) [98]) [99])) dgAck1).length) cc48, .int .i64 (takeE (outS (sendS (sendS (sendS (newS (i64' 0) (i64' 1) 2) [97]) [98]) [99])) dgAck1)]) rfl rfl ?_)
  refine r_cons (s_extract (.slice pp47 ((takeT (outS (sendS (sendS (sendS (newS (i64' 0) (i64' 1) 2) [97]) [98]) [99])) dgAck1).length) cc48) #[.slice pp47 ((takeT (outS (sendS (sendS (sendS (newS (i64' 0) (i64' 1) 2) [97]) [98]) [99])) dgAck1).length) cc48, .int .i64 (takeE (outS (sendS (sendS (sendS (newS (i64' 0) (i64' 1) 2) [97]) [98]) [99])) dgAck1)] rfl rfl rfl ?_)
  refine r_cons (s_extract (.int .i64 (takeE (outS (sendS (sendS (sendS (newS (i64' 0) (i64' 1) 2) [97]) [98]) [99])) dgAck1)) #[.slice pp47 ((takeT (outS (sendS (sendS (sendS (newS (i64' 0) (i64' 1) 2) [97]) [98]) [99])) dgAck1).length) cc48, .int .i64 (takeE (outS (sendS (sendS (sendS (newS (i64' 0) (i64' 1) 2) [97]) [98]) [99])) dgAck1)] rfl rfl rfl ?_)
  refine r_cons (s_assign (.int .i64 (takeE (outS (sendS (sendS (sendS (newS (i64' 0) (i64' 1) 2) [97]) [98]) [99])) dgAck1)) rfl rfl ?_)
  refine r_nil ?_
  refine g_seq ?_
  refine g_region ?_
  refine r_cons (s_move (.int .i64 (takeE (outS (sendS (sendS (sendS (newS (i64' 0) (i64' 1) 2) [97]) [98]) [99])) dgAck1)) rfl rfl ?_)
  refine r_cons (s_eql true rfl rfl (dtrue (by decide +kernel)) rfl ?_)
  refine r_cons (s_move (.bool true) rfl rfl ?_)
  refine r_cons (r_take rfl rfl ?_)
  refine s_move (.pointer (some ⟨bk1, 0, none⟩)) rfl rfl ?_
  refine r_cons (r_take rfl rfl ?_)
  refine s_call [.pointer (some ⟨bk1, 0, none⟩)] pl_23 rfl rfl (Lk_Out bk1 (takeS (outS (sendS (sendS (sendS (newS (i64' 0) (i64' 1) 2) [97]) [98]) [99])) dgAck1) (endOk_take (endOk_out (endOk_send (endOk_send (endOk_send (endOk_new (by omega) (by omega))))))) (i := 8) rfl H50) ?_
  rintro _ w53 ⟨pp51, cc52, rfl, H54⟩
  refine r_cons (r_take rfl rfl ?_)
  refine s_len ((outT (takeS (outS (sendS (sendS (sendS (newS (i64' 0) (i64' 1) 2) [97]) [98]) [99])) dgAck1)).length) rfl ⟨_, un_34⟩ rfl ?_
  refine r_cons (r_take rfl rfl ?_)
  refine s_eql true rfl rfl (dtrue (by decide +kernel)) rfl ?_
  refine r_cons (s_pick_t (.bool true) rfl rfl rfl ?_)
  refine r_cons (s_move (.bool true) rfl rfl ?_)
  refine r_cons (r_take rfl rfl ?_)
  refine s_move (.pointer (some ⟨bk1, 0, none⟩)) rfl rfl ?_
  refine r_cons (r_take rfl rfl ?_)
  refine s_call [.pointer (some ⟨bk1, 0, none⟩)] pl_10 rfl rfl (Lk_Waiting bk1 (outS (takeS (outS (sendS (sendS (sendS (newS (i64' 0) (i64' 1) 2) [97]) [98]) [99])) dgAck1)) (endOk_out (endOk_take (endOk_out (endOk_send (endOk_send (endOk_send (endOk_new (by omega) (by omega)))))))) (i := 9) rfl H54) ?_
  rintro _ w55 ⟨rfl, H56⟩
  refine r_cons (r_take rfl rfl ?_)
  refine s_eql true rfl rfl (dtrue (by decide +kernel)) rfl ?_
  refine r_cons (s_pick_t (.bool true) rfl rfl rfl ?_)
  refine r_cons (s_assign (.bool true) rfl rfl ?_)
  refine r_nil ?_
  refine g_ret' [.bool true] Try.func8 Try.results8 ⟨rfl, trivial⟩ ?_
  have H57 := Row.shut2 (p := pp25) (n := (outT (sendS (sendS (sendS (newS (i64' 0) (i64' 1) 2) [97]) [98]) [99])).length) (c := cc26) (size := 6) (xs := D30.flatMap dgdCell) H56 (i := 4) rfl hp37 h38 h39 h40 (by have hh : (cur36.toList.drop 0).take (D30.length * 6) = D30.flatMap dgdCell := (by rw [(lenOf hD31)]; exact h41); have hk : D30.length = (outT (sendS (sendS (sendS (newS (i64' 0) (i64' 1) 2) [97]) [98]) [99])).length := (lenOf hD31); rw [hk] at hh; exact hh) (fun x_ hx_ => by obtain ⟨a_, _, ha_⟩ := List.mem_flatMap.1 hx_; exact one_dg a_ x_ ha_)
  have H58 : St W w55 (Row 41 6 (.slice pp25 ((outT (sendS (sendS (sendS (newS (i64' 0) (i64' 1) 2) [97]) [98]) [99])).length) cc26) ((outT (sendS (sendS (sendS (newS (i64' 0) (i64' 1) 2) [97]) [98]) [99])).length) (D30.flatMap dgdCell) :: byA (D30.map DgD.by) :: DgsA pp51 cc52 (outT (takeS (outS (sendS (sendS (sendS (newS (i64' 0) (i64' 1) 2) [97]) [98]) [99])) dgAck1)) :: BysA pp47 cc48 (takeT (outS (sendS (sendS (sendS (newS (i64' 0) (i64' 1) 2) [97]) [98]) [99])) dgAck1) :: Im 1 (.slice none 0 0) (([] : List UInt8).length) (([] : List UInt8).flatMap u8c) :: Im 1 (.slice ((D30.getD 1 default).p) ((D30.getD 1 default).d.body.length) ((D30.getD 1 default).c)) (((D30.getD 1 default).d.body).length) (((D30.getD 1 default).d.body).flatMap u8c) :: Im 1 (.slice (some ⟨bk18, 0, none⟩) 1 1) 1 ([99].flatMap u8c) :: Im 1 (.slice (some ⟨bk11, 0, none⟩) 1 1) 1 ([98].flatMap u8c) :: Im 1 (.slice (some ⟨bk4, 0, none⟩) 1 1) 1 ([97].flatMap u8c) :: LkA bk1 (outS (takeS (outS (sendS (sendS (sendS (newS (i64' 0) (i64' 1) 2) [97]) [98]) [99])) dgAck1)) :: F) := ((H57.move 5 rfl).move 5 rfl)
  have H59 : St W w55 (DgsA pp25 cc26 (outT (sendS (sendS (sendS (newS (i64' 0) (i64' 1) 2) [97]) [98]) [99])) :: DgsA pp51 cc52 (outT (takeS (outS (sendS (sendS (sendS (newS (i64' 0) (i64' 1) 2) [97]) [98]) [99])) dgAck1)) :: BysA pp47 cc48 (takeT (outS (sendS (sendS (sendS (newS (i64' 0) (i64' 1) 2) [97]) [98]) [99])) dgAck1) :: Im 1 (.slice none 0 0) (([] : List UInt8).length) (([] : List UInt8).flatMap u8c) :: Im 1 (.slice ((D30.getD 1 default).p) ((D30.getD 1 default).d.body.length) ((D30.getD 1 default).c)) (((D30.getD 1 default).d.body).length) (((D30.getD 1 default).d.body).flatMap u8c) :: Im 1 (.slice (some ⟨bk18, 0, none⟩) 1 1) 1 ([99].flatMap u8c) :: Im 1 (.slice (some ⟨bk11, 0, none⟩) 1 1) 1 ([98].flatMap u8c) :: Im 1 (.slice (some ⟨bk4, 0, none⟩) 1 1) 1 ([97].flatMap u8c) :: LkA bk1 (outS (takeS (outS (sendS (sendS (sendS (newS (i64' 0) (i64' 1) 2) [97]) [98]) [99])) dgAck1)) :: F) := St.shut_ex ⟨D30, hD31⟩ (St.shut_star (ls := [Row 41 6 (.slice pp25 ((outT (sendS (sendS (sendS (newS (i64' 0) (i64' 1) 2) [97]) [98]) [99])).length) cc26) ((outT (sendS (sendS (sendS (newS (i64' 0) (i64' 1) 2) [97]) [98]) [99])).length) (D30.flatMap dgdCell), byA (D30.map DgD.by)]) H58)
  have H60 : St W w55 (Im 1 (.slice ((D30.getD 1 default).p) ((D30.getD 1 default).d.body.length) ((D30.getD 1 default).c)) (((D30.getD 1 default).d.body).length) (((D30.getD 1 default).d.body).flatMap u8c) :: Im 1 (.slice (some ⟨bk18, 0, none⟩) 1 1) 1 ([99].flatMap u8c) :: Im 1 (.slice (some ⟨bk11, 0, none⟩) 1 1) 1 ([98].flatMap u8c) :: Im 1 (.slice (some ⟨bk4, 0, none⟩) 1 1) 1 ([97].flatMap u8c) :: LkA bk1 (outS (takeS (outS (sendS (sendS (sendS (newS (i64' 0) (i64' 1) 2) [97]) [98]) [99])) dgAck1)) :: F) := ((((H59.drop 0 rfl).drop 0 rfl).drop 0 rfl).drop 0 rfl)
  have H61 : St W w55 (LkA bk1 (outS (takeS (outS (sendS (sendS (sendS (newS (i64' 0) (i64' 1) 2) [97]) [98]) [99])) dgAck1)) :: F) := ((((H60.drop 0 rfl).drop 0 rfl).drop 0 rfl).drop 0 rfl)
  have H62 : St W w55 F := (H61.drop 0 rfl)
  exact ⟨rfl, H62⟩
theorem Link_NewI {W w : World} {F : List Atom} (f t n : I64) (h : newOk f.v t.v n.v) (H : St W w F) : Calls Try.prog 17 #[.agg #[.int .i64 f.v, .int .i64 t.v], .int .i64 n.v] w (Ret fun v w' => ∃ g, v = .tuple #[.pointer (some ⟨g, 0, none⟩), .int .i64 0] ∧ St W w' (LkA g (newS f t n.v.toNat) :: F)) := by
  obtain ⟨h1, h2, h3, h4, h5⟩ := h
  have h6 := Link_New f t n.v.toNat h1 h2 h3 (by omega) (by omega) H
  rw [show ((n.v.toNat : Nat) : Int) = n.v from by omega] at h6
  exact h6
set_option maxHeartbeats 4000000 in
set_option maxRecDepth 100000 in
theorem Link_New_no {W w : World} {F : List Atom} (f t n : I64) (h : ¬ newOk f.v t.v n.v) (H : St W w F) : Calls Try.prog 17 #[.agg #[.int .i64 f.v, .int .i64 t.v], .int .i64 n.v] w (Ret fun v w' => v = .tuple #[.pointer none, .int .i64 1] ∧ St W w' F) := by
  refine calls_of_go (n := 39) Try.func17 rfl Try.ntmps17 rfl ?_
  refine g_seq ?_
  refine g_region ?_
  refine r_cons (s_box H 46 (.agg #[.int .i64 f.v, .int .i64 t.v]) rfl (cs := #[.int .i64 f.v, .int .i64 t.v]) rfl rfl ?_); intro bk1 w2 H3
  refine r_cons (s_assign (.pointer none) rfl rfl ?_)
  refine r_cons (s_assign (.int .i64 0) rfl rfl ?_)
  refine r_nil ?_
  refine g_seq ?_
  refine g_region ?_
  refine r_cons (s_assign (.func (.func 35) #[] #[]) rfl rfl ?_)
  refine r_nil ?_
  refine g_seq ?_
  refine g_seq ?_
  refine g_region ?_
  refine r_cons (s_move (.func (.func 35) #[] #[]) rfl rfl ?_)
  refine r_cons (s_fieldAddr 46 0 0 0 3 rfl fi_46_0 rfl rfl ?_)
  refine r_cons (s_load (.int .i64 f.v) ag_3 rfl (H3.blk_at (i := 0) rfl) rfl rfl ?_)
  refine r_cons (s_callv [] [.int .i64 f.v] rfl pl_35 rfl rfl (New_1 f.v H3) ?_)
  rintro _ w4 ⟨rfl, H5⟩
  refine r_cons (s_not (brB f.v) rfl (!(brB f.v)) rfl rfl ?_)
  refine r_cons (s_move (.bool (!(brB f.v))) rfl rfl ?_)
  by_cases hb6 : (!(brB f.v)) = true
  · skip
    refine r_cons (r_pass rfl (congrArg some hb6) rfl rfl rfl ?_)
    refine r_cons (r_pass rfl (congrArg some hb6) rfl rfl rfl ?_)
    refine r_cons (r_pass rfl (congrArg some hb6) rfl rfl rfl ?_)
    refine r_cons (r_pass rfl (congrArg some hb6) rfl rfl rfl ?_)
    refine r_cons (r_pass rfl (congrArg some hb6) rfl rfl rfl ?_)
    refine r_cons (s_pick_t (.bool true) (by exact congrArg Value.bool hb6) rfl rfl ?_)
    refine r_cons (s_move (.bool true) rfl rfl ?_)
    refine r_cons (r_pass rfl rfl rfl rfl rfl ?_)
    refine r_cons (r_pass rfl rfl rfl rfl rfl ?_)
    refine r_cons (r_pass rfl rfl rfl rfl rfl ?_)
    refine r_cons (r_pass rfl rfl rfl rfl rfl ?_)
    refine r_cons (r_pass rfl rfl rfl rfl rfl ?_)
    refine r_cons (s_pick_t (.bool true) rfl rfl rfl ?_)
    refine r_cons (s_move (.bool true) rfl rfl ?_)
    refine r_cons (r_pass rfl rfl rfl rfl rfl ?_)
    refine r_cons (r_pass rfl rfl rfl rfl rfl ?_)
    refine r_cons (s_pick_t (.bool true) rfl rfl rfl ?_)
    refine r_cons (s_move (.bool true) rfl rfl ?_)
    refine r_cons (r_pass rfl rfl rfl rfl rfl ?_)
    refine r_cons (r_pass rfl rfl rfl rfl rfl ?_)
    refine r_cons (s_pick_t (.bool true) rfl rfl rfl ?_)
    refine r_nil ?_
    refine g_true rfl ?_
    refine g_seq ?_
    refine g_region ?_
    refine r_cons (s_assign (.pointer none) rfl rfl ?_)
    refine r_cons (s_assign (.int .i64 1) rfl rfl ?_)
    refine r_nil ?_
    refine g_ret' [.pointer none, .int .i64 1] Try.func17 Try.results17 ⟨rfl, rfl, trivial⟩ ?_
    have H7 : St W w4 F := (H5.drop 0 rfl)
    exact ⟨rfl, H7⟩
  · have hb6 := eq_false_of_ne_true hb6
    refine r_cons (r_take rfl (congrArg some hb6) ?_)
    refine s_move (.func (.func 35) #[] #[]) rfl rfl ?_
    refine r_cons (r_take rfl (congrArg some hb6) ?_)
    refine s_fieldAddr 46 1 1 1 3 rfl fi_46_1 rfl rfl ?_
    refine r_cons (r_take rfl (congrArg some hb6) ?_)
    refine s_load (.int .i64 t.v) ag_3 rfl (H5.blk_at (i := 0) rfl) rfl rfl ?_
    refine r_cons (r_take rfl (congrArg some hb6) ?_)
    refine s_callv [] [.int .i64 t.v] rfl pl_35 rfl rfl (New_1 t.v H5) ?_
    rintro _ w8 ⟨rfl, H9⟩
    refine r_cons (r_take rfl (congrArg some hb6) ?_)
    refine s_not (brB t.v) rfl (!(brB t.v)) rfl rfl ?_
    refine r_cons (s_pick_f (.bool (!(brB t.v))) (by exact congrArg Value.bool hb6) rfl rfl ?_)
    refine r_cons (s_move (.bool (!(brB t.v))) rfl rfl ?_)
    by_cases hb10 : (!(brB t.v)) = true
    · skip
      refine r_cons (r_pass rfl (congrArg some hb10) rfl rfl rfl ?_)
      refine r_cons (r_pass rfl (congrArg some hb10) rfl rfl rfl ?_)
      refine r_cons (r_pass rfl (congrArg some hb10) rfl rfl rfl ?_)
      refine r_cons (r_pass rfl (congrArg some hb10) rfl rfl rfl ?_)
      refine r_cons (r_pass rfl (congrArg some hb10) rfl rfl rfl ?_)
      refine r_cons (s_pick_t (.bool true) (by exact congrArg Value.bool hb10) rfl rfl ?_)
      refine r_cons (s_move (.bool true) rfl rfl ?_)
      refine r_cons (r_pass rfl rfl rfl rfl rfl ?_)
      refine r_cons (r_pass rfl rfl rfl rfl rfl ?_)
      refine r_cons (s_pick_t (.bool true) rfl rfl rfl ?_)
      refine r_cons (s_move (.bool true) rfl rfl ?_)
      refine r_cons (r_pass rfl rfl rfl rfl rfl ?_)
      refine r_cons (r_pass rfl rfl rfl rfl rfl ?_)
      refine r_cons (s_pick_t (.bool true) rfl rfl rfl ?_)
      refine r_nil ?_
      refine g_true rfl ?_
      refine g_seq ?_
      refine g_region ?_
      refine r_cons (s_assign (.pointer none) rfl rfl ?_)
      refine r_cons (s_assign (.int .i64 1) rfl rfl ?_)
      refine r_nil ?_
      refine g_ret' [.pointer none, .int .i64 1] Try.func17 Try.results17 ⟨rfl, rfl, trivial⟩ ?_
      have H11 : St W w8 F := (H9.drop 0 rfl)
      exact ⟨rfl, H11⟩
    · have hb10 := eq_false_of_ne_true hb10
      refine r_cons (r_take rfl (congrArg some hb10) ?_)
      refine s_fieldAddr 46 0 0 0 3 rfl fi_46_0 rfl rfl ?_
      refine r_cons (r_take rfl (congrArg some hb10) ?_)
      refine s_load (.int .i64 f.v) ag_3 rfl (H9.blk_at (i := 0) rfl) rfl rfl ?_
      refine r_cons (r_take rfl (congrArg some hb10) ?_)
      refine s_fieldAddr 46 1 1 1 3 rfl fi_46_1 rfl rfl ?_
      refine r_cons (r_take rfl (congrArg some hb10) ?_)
      refine s_load (.int .i64 t.v) ag_3 rfl (H9.blk_at (i := 0) rfl) rfl rfl ?_
      refine r_cons (r_take rfl (congrArg some hb10) ?_)
      by_cases hc12 : f.v = t.v
      · skip
        refine s_eql true rfl rfl (dtrue hc12) rfl ?_
        refine r_cons (s_pick_f (.bool true) (by exact congrArg Value.bool hb10) rfl rfl ?_)
        refine r_cons (s_move (.bool true) rfl rfl ?_)
        refine r_cons (r_pass rfl rfl rfl rfl rfl ?_)
        refine r_cons (r_pass rfl rfl rfl rfl rfl ?_)
        refine r_cons (s_pick_t (.bool true) rfl rfl rfl ?_)
        refine r_cons (s_move (.bool true) rfl rfl ?_)
        refine r_cons (r_pass rfl rfl rfl rfl rfl ?_)
        refine r_cons (r_pass rfl rfl rfl rfl rfl ?_)
        refine r_cons (s_pick_t (.bool true) rfl rfl rfl ?_)
        refine r_nil ?_
        refine g_true rfl ?_
        refine g_seq ?_
        refine g_region ?_
        refine r_cons (s_assign (.pointer none) rfl rfl ?_)
        refine r_cons (s_assign (.int .i64 1) rfl rfl ?_)
        refine r_nil ?_
        refine g_ret' [.pointer none, .int .i64 1] Try.func17 Try.results17 ⟨rfl, rfl, trivial⟩ ?_
        have H13 : St W w8 F := (H9.drop 0 rfl)
        exact ⟨rfl, H13⟩
      · skip
        refine s_eql false rfl rfl (dfalse hc12) rfl ?_
        refine r_cons (s_pick_f (.bool false) (by exact congrArg Value.bool hb10) rfl rfl ?_)
        refine r_cons (s_move (.bool false) rfl rfl ?_)
        refine r_cons (r_take rfl rfl ?_)
        refine s_move (.int .i64 n.v) rfl rfl ?_
        refine r_cons (r_take rfl rfl ?_)
        by_cases hc14 : n.v < 1
        · skip
          refine s_lss true rfl rfl (dtrue hc14) rfl ?_
          refine r_cons (s_pick_f (.bool true) rfl rfl rfl ?_)
          refine r_cons (s_move (.bool true) rfl rfl ?_)
          refine r_cons (r_pass rfl rfl rfl rfl rfl ?_)
          refine r_cons (r_pass rfl rfl rfl rfl rfl ?_)
          refine r_cons (s_pick_t (.bool true) rfl rfl rfl ?_)
          refine r_nil ?_
          refine g_true rfl ?_
          refine g_seq ?_
          refine g_region ?_
          refine r_cons (s_assign (.pointer none) rfl rfl ?_)
          refine r_cons (s_assign (.int .i64 1) rfl rfl ?_)
          refine r_nil ?_
          refine g_ret' [.pointer none, .int .i64 1] Try.func17 Try.results17 ⟨rfl, rfl, trivial⟩ ?_
          have H15 : St W w8 F := (H9.drop 0 rfl)
          exact ⟨rfl, H15⟩
        · skip
          refine s_lss false rfl rfl (dfalse hc14) rfl ?_
          refine r_cons (s_pick_f (.bool false) rfl rfl rfl ?_)
          refine r_cons (s_move (.bool false) rfl rfl ?_)
          refine r_cons (r_take rfl rfl ?_)
          refine s_move (.int .i64 n.v) rfl rfl ?_
          refine r_cons (r_take rfl rfl ?_)
          by_cases hc16 : (64 : Int) < n.v
          · skip
            refine s_gtr true rfl rfl (dtrue hc16) rfl ?_
            refine r_cons (s_pick_f (.bool true) rfl rfl rfl ?_)
            refine r_nil ?_
            refine g_true rfl ?_
            refine g_seq ?_
            refine g_region ?_
            refine r_cons (s_assign (.pointer none) rfl rfl ?_)
            refine r_cons (s_assign (.int .i64 1) rfl rfl ?_)
            refine r_nil ?_
            refine g_ret' [.pointer none, .int .i64 1] Try.func17 Try.results17 ⟨rfl, rfl, trivial⟩ ?_
            have H17 : St W w8 F := (H9.drop 0 rfl)
            exact ⟨rfl, H17⟩
          · skip
            refine s_gtr false rfl rfl (dfalse hc16) rfl ?_
            refine r_cons (s_pick_f (.bool false) rfl rfl rfl ?_)
            refine r_nil ?_
            refine g_false rfl ?_
            refine g_skip ?_
            refine g_seq ?_
            refine g_region ?_
            refine r_cons (s_loadAgg [.int .i64 f.v, .int .i64 t.v] 2 ag_46 rfl (H9.blk_at (i := 0) rfl) (Nat.le_of_ble_eq_true rfl) rfl rfl ?_)
            refine r_cons (s_move (.int .i64 n.v) rfl rfl ?_)
            refine r_cons (s_makeMap H9 rfl ?_); intro mp18 w19 H20
            have H21 : St W w19 (MapA mp18 (ents (kI .i64) evD ([] : List (I64 × BytesD))) :: blk bk1 (.cells #[.int .i64 f.v, .int .i64 t.v] 46 (0, 0)) :: F) := H20
            refine r_cons (s_build (cs := #[.int .i64 f.v, .int .i64 t.v, .int .i64 n.v, .slice none 0 0, .int .i64 0, .int .i64 0, .map (some mp18), .int .i64 0, .bool false]) (by kernel_rfl) rfl ?_)
            refine r_cons (s_box H21 62 (.agg #[.int .i64 f.v, .int .i64 t.v, .int .i64 n.v, .slice none 0 0, .int .i64 0, .int .i64 0, .map (some mp18), .int .i64 0, .bool false]) rfl (cs := #[.int .i64 f.v, .int .i64 t.v, .int .i64 n.v, .slice none 0 0, .int .i64 0, .int .i64 0, .map (some mp18), .int .i64 0, .bool false]) rfl rfl ?_); intro bk22 w23 H24
            refine r_cons (s_assign (.pointer (some ⟨bk22, 0, none⟩)) rfl rfl ?_)
            refine r_cons (s_assign (.int .i64 0) rfl rfl ?_)
            refine r_nil ?_
            refine g_ret' [.pointer (some ⟨bk22, 0, none⟩), .int .i64 0] Try.func17 Try.results17 ⟨rfl, rfl, trivial⟩ ?_
            exact absurd (show newOk f.v t.v n.v from ⟨by simp_all, by simp_all, by assumption, by omega, by omega⟩) h
theorem Ref_NewI {W w : World} {F : List Atom} (f t n : I64) (h : newOk f.v t.v n.v) (H : St W w F) : Calls Try.prog 18 #[.agg #[.int .i64 f.v, .int .i64 t.v], .int .i64 n.v] w (Ret fun v w' => ∃ g, v = .tuple #[.pointer (some ⟨g, 0, none⟩), .int .i64 0] ∧ St W w' (RfA g (newS f t n.v.toNat) :: F)) := by
  obtain ⟨h1, h2, h3, h4, h5⟩ := h
  have h6 := Ref_New f t n.v.toNat h1 h2 h3 (by omega) (by omega) H
  rw [show ((n.v.toNat : Nat) : Int) = n.v from by omega] at h6
  exact h6
set_option maxHeartbeats 4000000 in
set_option maxRecDepth 100000 in
theorem Ref_New_no {W w : World} {F : List Atom} (f t n : I64) (h : ¬ newOk f.v t.v n.v) (H : St W w F) : Calls Try.prog 18 #[.agg #[.int .i64 f.v, .int .i64 t.v], .int .i64 n.v] w (Ret fun v w' => v = .tuple #[.pointer none, .int .i64 1] ∧ St W w' F) := by
  refine calls_of_go (n := 35) Try.func18 rfl Try.ntmps18 rfl ?_
  refine g_seq ?_
  refine g_region ?_
  refine r_cons (s_box H 46 (.agg #[.int .i64 f.v, .int .i64 t.v]) rfl (cs := #[.int .i64 f.v, .int .i64 t.v]) rfl rfl ?_); intro bk1 w2 H3
  refine r_cons (s_assign (.pointer none) rfl rfl ?_)
  refine r_cons (s_assign (.int .i64 0) rfl rfl ?_)
  refine r_nil ?_
  refine g_seq ?_
  refine g_seq ?_
  refine g_region ?_
  refine r_cons (s_fieldAddr 46 0 0 0 3 rfl fi_46_0 rfl rfl ?_)
  refine r_cons (s_load (.int .i64 f.v) ag_3 rfl (H3.blk_at (i := 0) rfl) rfl rfl ?_)
  refine r_cons (s_call [.int .i64 f.v] pl_36 rfl rfl (ref21_broker f.v H3) ?_)
  rintro _ w4 ⟨rfl, H5⟩
  refine r_cons (s_not (brB f.v) rfl (!(brB f.v)) rfl rfl ?_)
  refine r_cons (s_move (.bool (!(brB f.v))) rfl rfl ?_)
  by_cases hb6 : (!(brB f.v)) = true
  · skip
    refine r_cons (r_pass rfl (congrArg some hb6) rfl rfl rfl ?_)
    refine r_cons (r_pass rfl (congrArg some hb6) rfl rfl rfl ?_)
    refine r_cons (r_pass rfl (congrArg some hb6) rfl rfl rfl ?_)
    refine r_cons (r_pass rfl (congrArg some hb6) rfl rfl rfl ?_)
    refine r_cons (s_pick_t (.bool true) (by exact congrArg Value.bool hb6) rfl rfl ?_)
    refine r_cons (s_move (.bool true) rfl rfl ?_)
    refine r_cons (r_pass rfl rfl rfl rfl rfl ?_)
    refine r_cons (r_pass rfl rfl rfl rfl rfl ?_)
    refine r_cons (r_pass rfl rfl rfl rfl rfl ?_)
    refine r_cons (r_pass rfl rfl rfl rfl rfl ?_)
    refine r_cons (r_pass rfl rfl rfl rfl rfl ?_)
    refine r_cons (s_pick_t (.bool true) rfl rfl rfl ?_)
    refine r_cons (s_move (.bool true) rfl rfl ?_)
    refine r_cons (r_pass rfl rfl rfl rfl rfl ?_)
    refine r_cons (r_pass rfl rfl rfl rfl rfl ?_)
    refine r_cons (s_pick_t (.bool true) rfl rfl rfl ?_)
    refine r_cons (s_move (.bool true) rfl rfl ?_)
    refine r_cons (r_pass rfl rfl rfl rfl rfl ?_)
    refine r_cons (r_pass rfl rfl rfl rfl rfl ?_)
    refine r_cons (s_pick_t (.bool true) rfl rfl rfl ?_)
    refine r_nil ?_
    refine g_true rfl ?_
    refine g_seq ?_
    refine g_region ?_
    refine r_cons (s_assign (.pointer none) rfl rfl ?_)
    refine r_cons (s_assign (.int .i64 1) rfl rfl ?_)
    refine r_nil ?_
    refine g_ret' [.pointer none, .int .i64 1] Try.func18 Try.results18 ⟨rfl, rfl, trivial⟩ ?_
    have H7 : St W w4 F := (H5.drop 0 rfl)
    exact ⟨rfl, H7⟩
  · have hb6 := eq_false_of_ne_true hb6
    refine r_cons (r_take rfl (congrArg some hb6) ?_)
    refine s_fieldAddr 46 1 1 1 3 rfl fi_46_1 rfl rfl ?_
    refine r_cons (r_take rfl (congrArg some hb6) ?_)
    refine s_load (.int .i64 t.v) ag_3 rfl (H5.blk_at (i := 0) rfl) rfl rfl ?_
    refine r_cons (r_take rfl (congrArg some hb6) ?_)
    refine s_call [.int .i64 t.v] pl_36 rfl rfl (ref21_broker t.v H5) ?_
    rintro _ w8 ⟨rfl, H9⟩
    refine r_cons (r_take rfl (congrArg some hb6) ?_)
    refine s_not (brB t.v) rfl (!(brB t.v)) rfl rfl ?_
    refine r_cons (s_pick_f (.bool (!(brB t.v))) (by exact congrArg Value.bool hb6) rfl rfl ?_)
    refine r_cons (s_move (.bool (!(brB t.v))) rfl rfl ?_)
    by_cases hb10 : (!(brB t.v)) = true
    · skip
      refine r_cons (r_pass rfl (congrArg some hb10) rfl rfl rfl ?_)
      refine r_cons (r_pass rfl (congrArg some hb10) rfl rfl rfl ?_)
      refine r_cons (r_pass rfl (congrArg some hb10) rfl rfl rfl ?_)
      refine r_cons (r_pass rfl (congrArg some hb10) rfl rfl rfl ?_)
      refine r_cons (r_pass rfl (congrArg some hb10) rfl rfl rfl ?_)
      refine r_cons (s_pick_t (.bool true) (by exact congrArg Value.bool hb10) rfl rfl ?_)
      refine r_cons (s_move (.bool true) rfl rfl ?_)
      refine r_cons (r_pass rfl rfl rfl rfl rfl ?_)
      refine r_cons (r_pass rfl rfl rfl rfl rfl ?_)
      refine r_cons (s_pick_t (.bool true) rfl rfl rfl ?_)
      refine r_cons (s_move (.bool true) rfl rfl ?_)
      refine r_cons (r_pass rfl rfl rfl rfl rfl ?_)
      refine r_cons (r_pass rfl rfl rfl rfl rfl ?_)
      refine r_cons (s_pick_t (.bool true) rfl rfl rfl ?_)
      refine r_nil ?_
      refine g_true rfl ?_
      refine g_seq ?_
      refine g_region ?_
      refine r_cons (s_assign (.pointer none) rfl rfl ?_)
      refine r_cons (s_assign (.int .i64 1) rfl rfl ?_)
      refine r_nil ?_
      refine g_ret' [.pointer none, .int .i64 1] Try.func18 Try.results18 ⟨rfl, rfl, trivial⟩ ?_
      have H11 : St W w8 F := (H9.drop 0 rfl)
      exact ⟨rfl, H11⟩
    · have hb10 := eq_false_of_ne_true hb10
      refine r_cons (r_take rfl (congrArg some hb10) ?_)
      refine s_fieldAddr 46 0 0 0 3 rfl fi_46_0 rfl rfl ?_
      refine r_cons (r_take rfl (congrArg some hb10) ?_)
      refine s_load (.int .i64 f.v) ag_3 rfl (H9.blk_at (i := 0) rfl) rfl rfl ?_
      refine r_cons (r_take rfl (congrArg some hb10) ?_)
      refine s_fieldAddr 46 1 1 1 3 rfl fi_46_1 rfl rfl ?_
      refine r_cons (r_take rfl (congrArg some hb10) ?_)
      refine s_load (.int .i64 t.v) ag_3 rfl (H9.blk_at (i := 0) rfl) rfl rfl ?_
      refine r_cons (r_take rfl (congrArg some hb10) ?_)
      by_cases hc12 : f.v = t.v
      · skip
        refine s_eql true rfl rfl (dtrue hc12) rfl ?_
        refine r_cons (s_pick_f (.bool true) (by exact congrArg Value.bool hb10) rfl rfl ?_)
        refine r_cons (s_move (.bool true) rfl rfl ?_)
        refine r_cons (r_pass rfl rfl rfl rfl rfl ?_)
        refine r_cons (r_pass rfl rfl rfl rfl rfl ?_)
        refine r_cons (s_pick_t (.bool true) rfl rfl rfl ?_)
        refine r_cons (s_move (.bool true) rfl rfl ?_)
        refine r_cons (r_pass rfl rfl rfl rfl rfl ?_)
        refine r_cons (r_pass rfl rfl rfl rfl rfl ?_)
        refine r_cons (s_pick_t (.bool true) rfl rfl rfl ?_)
        refine r_nil ?_
        refine g_true rfl ?_
        refine g_seq ?_
        refine g_region ?_
        refine r_cons (s_assign (.pointer none) rfl rfl ?_)
        refine r_cons (s_assign (.int .i64 1) rfl rfl ?_)
        refine r_nil ?_
        refine g_ret' [.pointer none, .int .i64 1] Try.func18 Try.results18 ⟨rfl, rfl, trivial⟩ ?_
        have H13 : St W w8 F := (H9.drop 0 rfl)
        exact ⟨rfl, H13⟩
      · skip
        refine s_eql false rfl rfl (dfalse hc12) rfl ?_
        refine r_cons (s_pick_f (.bool false) (by exact congrArg Value.bool hb10) rfl rfl ?_)
        refine r_cons (s_move (.bool false) rfl rfl ?_)
        refine r_cons (r_take rfl rfl ?_)
        refine s_move (.int .i64 n.v) rfl rfl ?_
        refine r_cons (r_take rfl rfl ?_)
        by_cases hc14 : n.v < 1
        · skip
          refine s_lss true rfl rfl (dtrue hc14) rfl ?_
          refine r_cons (s_pick_f (.bool true) rfl rfl rfl ?_)
          refine r_cons (s_move (.bool true) rfl rfl ?_)
          refine r_cons (r_pass rfl rfl rfl rfl rfl ?_)
          refine r_cons (r_pass rfl rfl rfl rfl rfl ?_)
          refine r_cons (s_pick_t (.bool true) rfl rfl rfl ?_)
          refine r_nil ?_
          refine g_true rfl ?_
          refine g_seq ?_
          refine g_region ?_
          refine r_cons (s_assign (.pointer none) rfl rfl ?_)
          refine r_cons (s_assign (.int .i64 1) rfl rfl ?_)
          refine r_nil ?_
          refine g_ret' [.pointer none, .int .i64 1] Try.func18 Try.results18 ⟨rfl, rfl, trivial⟩ ?_
          have H15 : St W w8 F := (H9.drop 0 rfl)
          exact ⟨rfl, H15⟩
        · skip
          refine s_lss false rfl rfl (dfalse hc14) rfl ?_
          refine r_cons (s_pick_f (.bool false) rfl rfl rfl ?_)
          refine r_cons (s_move (.bool false) rfl rfl ?_)
          refine r_cons (r_take rfl rfl ?_)
          refine s_move (.int .i64 n.v) rfl rfl ?_
          refine r_cons (r_take rfl rfl ?_)
          by_cases hc16 : (64 : Int) < n.v
          · skip
            refine s_gtr true rfl rfl (dtrue hc16) rfl ?_
            refine r_cons (s_pick_f (.bool true) rfl rfl rfl ?_)
            refine r_nil ?_
            refine g_true rfl ?_
            refine g_seq ?_
            refine g_region ?_
            refine r_cons (s_assign (.pointer none) rfl rfl ?_)
            refine r_cons (s_assign (.int .i64 1) rfl rfl ?_)
            refine r_nil ?_
            refine g_ret' [.pointer none, .int .i64 1] Try.func18 Try.results18 ⟨rfl, rfl, trivial⟩ ?_
            have H17 : St W w8 F := (H9.drop 0 rfl)
            exact ⟨rfl, H17⟩
          · skip
            refine s_gtr false rfl rfl (dfalse hc16) rfl ?_
            refine r_cons (s_pick_f (.bool false) rfl rfl rfl ?_)
            refine r_nil ?_
            refine g_false rfl ?_
            refine g_skip ?_
            refine g_seq ?_
            refine g_region ?_
            refine r_cons (s_loadAgg [.int .i64 f.v, .int .i64 t.v] 2 ag_46 rfl (H9.blk_at (i := 0) rfl) (Nat.le_of_ble_eq_true rfl) rfl rfl ?_)
            refine r_cons (s_move (.int .i64 n.v) rfl rfl ?_)
            refine r_cons (s_build (cs := #[.int .i64 f.v, .int .i64 t.v, .int .i64 n.v, .slice none 0 0, .int .i64 0, .int .i64 0, .slice none 0 0, .int .i64 0, .bool false]) (by kernel_rfl) rfl ?_)
            refine r_cons (s_box H9 86 (.agg #[.int .i64 f.v, .int .i64 t.v, .int .i64 n.v, .slice none 0 0, .int .i64 0, .int .i64 0, .slice none 0 0, .int .i64 0, .bool false]) rfl (cs := #[.int .i64 f.v, .int .i64 t.v, .int .i64 n.v, .slice none 0 0, .int .i64 0, .int .i64 0, .slice none 0 0, .int .i64 0, .bool false]) rfl rfl ?_); intro bk18 w19 H20
            refine r_cons (s_assign (.pointer (some ⟨bk18, 0, none⟩)) rfl rfl ?_)
            refine r_cons (s_assign (.int .i64 0) rfl rfl ?_)
            refine r_nil ?_
            refine g_ret' [.pointer (some ⟨bk18, 0, none⟩), .int .i64 0] Try.func18 Try.results18 ⟨rfl, rfl, trivial⟩ ?_
            exact absurd (show newOk f.v t.v n.v from ⟨by simp_all, by simp_all, by assumption, by omega, by omega⟩) h
set_option maxHeartbeats 4000000 in
set_option maxRecDepth 100000 in
theorem Lk_Way {W w : World} {F : List Atom} (g : Nat) (s : EndV) (hok : endOk s)  {i : Nat} (hi : F[i]? = some (LkA g s)) (H : St W w F) : Calls Try.prog 26 #[.pointer (some ⟨g, 0, none⟩)] w (Ret fun v w' => v = .agg #[.int .i64 s.frm.v, .int .i64 s.to_.v] ∧ St W w' F) := by
  have H0 := H.front hi
  obtain ⟨o1, o2, o3, o4, o5, o6, o8⟩ := id hok; have o7 := i64N_0 (Nat.le_trans o4 (by decide))
  refine calls_of_go (n := 10) Try.func26 rfl Try.ntmps26 rfl ?_
  refine g_seq ?_
  refine g_region ?_
  refine r_cons (s_alloc H0 46 ze_46 rfl ?_); intro bk1 w2 H3
  refine r_nil ?_
  refine g_seq ?_
  refine g_seq ?_
  refine g_region ?_
  refine r_cons (s_move (.pointer (some ⟨g, 0, none⟩)) rfl rfl ?_)
  refine r_cons (s_peql false un_30 rfl rfl rfl rfl ?_)
  refine r_nil ?_
  refine g_false rfl ?_
  refine g_skip ?_
  refine g_seq ?_
  refine g_region ?_
  refine r_cons (s_move (.pointer (some ⟨g, 0, none⟩)) rfl rfl ?_)
  refine r_cons (s_nilCheck (.pointer (some ⟨g, 0, none⟩)) rfl ⟨_, rfl⟩ rfl ?_)
  refine r_cons (s_fieldAddr 62 0 0 0 46 rfl fi_62_0 rfl rfl ?_)
  have H4 := H3.move 1 rfl
  obtain ⟨⟨⟨m5, pp6, cc7, L8, E9⟩, hL10, hE11⟩, H12⟩ := St.open_ex H4
  have H13 := St.open_star H12
  change L8.map BodD.v = s.l at hL10; change mapB E9 = s.held at hE11
  have hl14 := lenOf hL10; have he15 := mapB_len hE11
  have H16 : St W w2 (blk g (.cells #[.int .i64 s.frm.v, .int .i64 s.to_.v, .int .i64 (s.slide : Int), .slice pp6 L8.length cc7, .int .i64 (s.acked : Int), .int .i64 ((i64N s.came).v), .map (some m5), .int .i64 (s.clock : Int), .bool s.owes] 62 (0, 0)) :: Row 79 3 (.slice pp6 L8.length cc7) L8.length (L8.flatMap bodCell) :: byA (L8.map BodD.by) :: MapA m5 (ents (kI .i64) evD E9) :: byA (mby E9) :: blk bk1 (.cells #[.int .i64 0, .int .i64 0] 46 (0, 0)) :: (F.set i emp)) := H13
  refine r_cons (s_loadAgg [.int .i64 s.frm.v, .int .i64 s.to_.v] 2 ag_46 rfl (H16.blk_at (i := 0) rfl) (Nat.le_of_ble_eq_true rfl) rfl rfl ?_)
  refine r_cons (s_storeAgg H16 5 #[.int .i64 s.frm.v, .int .i64 s.to_.v] 2 rfl rfl rfl sz_46 rfl (by simp [Value.oneCell']) (Nat.le_of_ble_eq_true rfl) (fun o h1 h2 => by first | (simp; done) | (simp; omega)) (cs' := #[.int .i64 s.frm.v, .int .i64 s.to_.v]) rfl ?_); intro w17 H18
  refine r_nil ?_
  refine g_ret' [.agg #[.int .i64 s.frm.v, .int .i64 s.to_.v]] Try.func26 Try.results26 ⟨(res_cellN rfl ag_46 (H18.blk_at (i := 5) rfl) (Nat.le_of_ble_eq_true rfl) rfl), trivial⟩ ?_
  have H19 : St W w17 (LkA g s :: blk bk1 (.cells #[.int .i64 s.frm.v, .int .i64 s.to_.v] 46 (0, 0)) :: (F.set i emp)) := St.shut_ex ⟨(m5, pp6, cc7, L8, E9), hL10, hE11⟩ (St.shut_star (ls := [blk g (.cells #[.int .i64 s.frm.v, .int .i64 s.to_.v, .int .i64 (s.slide : Int), .slice pp6 L8.length cc7, .int .i64 (s.acked : Int), .int .i64 ((i64N s.came).v), .map (some m5), .int .i64 (s.clock : Int), .bool s.owes] 62 (0, 0)), Row 79 3 (.slice pp6 L8.length cc7) L8.length (L8.flatMap bodCell), byA (L8.map BodD.by), MapA m5 (ents (kI .i64) evD E9), byA (mby E9)]) H18)
  have H20 : St W w17 (LkA g s :: (F.set i emp)) := (H19.drop 1 rfl)
  exact ⟨rfl, St.back_same hi H20⟩
set_option maxHeartbeats 4000000 in
set_option maxRecDepth 100000 in
theorem sameAll_ {W w : World} {F : List Atom} (T : List DgM) (p1 p2 : Option Addr) (d1 d2 : Nat) (H : St W w (DgsA p1 d1 T :: DgsA p2 d2 T :: F)) : Calls Try.prog 38 #[.slice p1 T.length d1, .slice p2 T.length d2] w (Ret fun v w' => v = .bool true ∧ St W w' F) := by
  have H1 := H.move 0 rfl
  obtain ⟨⟨D2, hD3⟩, H4⟩ := St.open_ex H1
  have H5 := St.open_star H4
  change D2.map DgD.d = T at hD3
  have hlhD3 := lenOf hD3
  have H6 : St W w (Row 41 6 (.slice p1 D2.length d1) D2.length (D2.flatMap dgdCell) :: byA (D2.map DgD.by) :: DgsA p2 d2 T :: F) := by rw [show D2.length = T.length from hlhD3]; exact H5
  have H7 : St W w (Im 6 (.slice p1 D2.length d1) D2.length (D2.flatMap dgdCell) :: byA (D2.map DgD.by) :: DgsA p2 d2 T :: F) := Row.im H6 (i := 0) rfl
  have H8 := H7.move 2 rfl
  obtain ⟨⟨D9, hD10⟩, H11⟩ := St.open_ex H8
  have H12 := St.open_star H11
  change D9.map DgD.d = T at hD10
  have hlhD10 := lenOf hD10
  have H13 : St W w (Row 41 6 (.slice p2 D9.length d2) D9.length (D9.flatMap dgdCell) :: byA (D9.map DgD.by) :: Im 6 (.slice p1 D2.length d1) D2.length (D2.flatMap dgdCell) :: byA (D2.map DgD.by) :: F) := by rw [show D9.length = T.length from hlhD10]; exact H12
  have H14 : St W w (Im 6 (.slice p2 D9.length d2) D9.length (D9.flatMap dgdCell) :: byA (D9.map DgD.by) :: Im 6 (.slice p1 D2.length d1) D2.length (D2.flatMap dgdCell) :: byA (D2.map DgD.by) :: F) := Row.im H13 (i := 0) rfl
  have hl1 := lenOf hD3; have hl2 := lenOf hD10
  refine calls_of_go (n := 27) Try.func38 rfl Try.ntmps38 rfl ?_
  refine g_seq ?_
  refine g_region ?_
  refine r_cons (s_assign (.bool false) rfl rfl ?_)
  refine r_nil ?_
  refine g_seq ?_
  refine g_seq ?_
  refine g_region ?_
  refine r_cons (s_move (.slice p1 T.length d1) rfl rfl ?_)
  refine r_cons (s_len T.length rfl ⟨_, un_34⟩ rfl ?_)
  refine r_cons (s_move (.slice p2 T.length d2) rfl rfl ?_)
  refine r_cons (s_len T.length rfl ⟨_, un_34⟩ rfl ?_)
  refine r_cons (s_neq false rfl rfl (ntrue rfl) rfl ?_)
  refine r_nil ?_
  refine g_false rfl ?_
  refine g_skip ?_
  refine g_seq ?_
  refine g_seq ?_
  refine g_region ?_
  refine r_cons (s_move (.slice p1 T.length d1) rfl rfl ?_)
  refine r_cons (s_len T.length rfl ⟨_, un_34⟩ rfl ?_)
  refine r_cons (s_move (.int .i64 0) rfl rfl ?_)
  refine r_nil ?_
  refine g_block ?_
  obtain ⟨pA15, cA16, gA17, oA18, kA19, eA20, zA21, he27, hn22, hp23, hx24, hs25, hml, H26⟩ := Im.open_ H14 (i := 2) rfl
  obtain ⟨rfl, rfl⟩ : p1 = pA15 ∧ d1 = cA16 := by injection he27 with a_ b_ c_; exact ⟨a_, c_⟩
  obtain ⟨pA28, cA29, gA30, oA31, kA32, eA33, zA34, he40, hn35, hp36, hx37, hs38, hml, H39⟩ := Im.open_ H26 (i := 1) rfl
  obtain ⟨rfl, rfl⟩ : p2 = pA28 ∧ d2 = cA29 := by injection he40 with a_ b_ c_; exact ⟨a_, c_⟩
  refine g_loop_inv (fun (x_ : Nat) => match x_ with | j2 => [(0, .slice p1 T.length d1), (1, .slice p2 T.length d2), (4, .bool false), (12, .int .i64 (T.length : Int)), (13, .int .i64 (j2 : Int))]) (fun (x_ : Nat) w => match x_ with | j2 => (j2 ≤ T.length) ∧ St W w (imi (0 < D9.length) gA30 (.cells kA32 eA33 zA34) :: imi (0 < D2.length) gA17 (.cells kA19 eA20 zA21) :: Im 6 (.slice p2 D9.length d2) D9.length (D9.flatMap dgdCell) :: byA (D9.map DgD.by) :: Im 6 (.slice p1 D2.length d1) D2.length (D2.flatMap dgdCell) :: byA (D2.map DgD.by) :: F)) (fun (x_ : Nat) => match x_ with | j2 => T.length - j2) (0) ?_ ?_ ?_
  · exact ⟨by first | rfl | exact vint (by omega), by first | rfl | exact vint (by omega), by first | rfl | exact vint (by omega), by first | rfl | exact vint (by omega), by first | rfl | exact vint (by omega), trivial⟩
  · exact ⟨(by omega), H39⟩
  · rintro j2 ρ41 w42 ⟨hjn, H43⟩ nx44
    change Ends _ _ (upds ρ41 [(0, .slice p1 T.length d1), (1, .slice p2 T.length d2), (4, .bool false), (12, .int .i64 (T.length : Int)), (13, .int .i64 (j2 : Int))]) w42
    refine g_seq ?_
    refine g_region ?_
    by_cases hc45 : (j2 : Int) < (T.length : Int)
    · skip
      refine r_cons (s_lss true rfl rfl (dtrue hc45) rfl ?_)
      refine r_nil ?_
      refine g_seq ?_
      refine g_true rfl ?_
      refine g_skip ?_
      refine g_seq ?_
      refine g_block ?_
      refine g_seq ?_
      refine g_region ?_
      refine r_cons (s_move (.int .i64 (j2 : Int)) rfl rfl ?_)
      refine r_cons (s_assign (.int .i64 (j2 : Int)) rfl rfl ?_)
      refine r_nil ?_
      refine g_seq ?_
      have H46 : St W w42 (Im 1 (.slice ((D2.getD j2 default).p) ((D2.getD j2 default).d.body.length) ((D2.getD j2 default).c)) (((D2.getD j2 default).d.body).length) (((D2.getD j2 default).d.body).flatMap u8c) :: imi (0 < D9.length) gA30 (.cells kA32 eA33 zA34) :: imi (0 < D2.length) gA17 (.cells kA19 eA20 zA21) :: Im 6 (.slice p2 D9.length d2) D9.length (D9.flatMap dgdCell) :: byA (D9.map DgD.by) :: Im 6 (.slice p1 D2.length d1) D2.length (D2.flatMap dgdCell) :: byA (D2.map DgD.by) :: F) := byA_at H43 (i := 5) rfl (dg_at (k := j2) (by omega))
      have H47 : St W w42 (Im 1 (.slice ((D9.getD j2 default).p) ((D9.getD j2 default).d.body.length) ((D9.getD j2 default).c)) (((D9.getD j2 default).d.body).length) (((D9.getD j2 default).d.body).flatMap u8c) :: Im 1 (.slice ((D2.getD j2 default).p) ((D2.getD j2 default).d.body.length) ((D2.getD j2 default).c)) (((D2.getD j2 default).d.body).length) (((D2.getD j2 default).d.body).flatMap u8c) :: imi (0 < D9.length) gA30 (.cells kA32 eA33 zA34) :: imi (0 < D2.length) gA17 (.cells kA19 eA20 zA21) :: Im 6 (.slice p2 D9.length d2) D9.length (D9.flatMap dgdCell) :: byA (D9.map DgD.by) :: Im 6 (.slice p1 D2.length d1) D2.length (D2.flatMap dgdCell) :: byA (D2.map DgD.by) :: F) := byA_at H46 (i := 4) rfl (dg_at (k := j2) (by omega))
      have hsm : dgSame ((D2.getD j2 default).d) ((D9.getD j2 default).d) = true := by rw [dgAt hD3 j2, dgAt hD10 j2]; exact dgSame_self _
      refine g_quiet (fun w' => St W w' (Im 1 (.slice ((D9.getD j2 default).p) ((D9.getD j2 default).d.body.length) ((D9.getD j2 default).c)) (((D9.getD j2 default).d.body).length) (((D9.getD j2 default).d.body).flatMap u8c) :: Im 1 (.slice ((D2.getD j2 default).p) ((D2.getD j2 default).d.body.length) ((D2.getD j2 default).c)) (((D2.getD j2 default).d.body).length) (((D2.getD j2 default).d.body).flatMap u8c) :: imi (0 < D9.length) gA30 (.cells kA32 eA33 zA34) :: imi (0 < D2.length) gA17 (.cells kA19 eA20 zA21) :: Im 6 (.slice p2 D9.length d2) D9.length (D9.flatMap dgdCell) :: byA (D9.map DgD.by) :: Im 6 (.slice p1 D2.length d1) D2.length (D2.flatMap dgdCell) :: byA (D2.map DgD.by) :: F)) mixed (by kernel_rfl) H47.drew ?_
      refine q_cons (q_val rfl rfl rfl (by intro w hw; exact x_move (.slice p1 T.length d1) rfl w) ?_)
      refine q_cons (q_val rfl rfl rfl (by intro w hw; exact x_move (.int .i64 (j2 : Int)) rfl w) ?_)
      refine q_cons (q_val rfl rfl rfl (by intro w hw; exact x_indexAddr gA17 (off := oA18) (j2 : Int) 6 (oA18 + j2 * 6) (by exact congrArg (fun z_ => Value.slice z_ T.length d1) (hp23 (by omega))) rfl el_34 (by omega) rfl w) ?_)
      refine q_cons (q_val rfl rfl rfl (by intro w hw; exact x_loadAgg [.int .i64 ((D2.getD j2 default).d.frm.v), .int .i64 ((D2.getD j2 default).d.to_.v), .int .i64 ((D2.getD j2 default).d.kind.v), .int .i64 ((D2.getD j2 default).d.seq.v), .int .i64 ((D2.getD j2 default).d.ack.v), .slice ((D2.getD j2 default).p) ((D2.getD j2 default).d.body.length) ((D2.getD j2 default).c)] 6 ag_41 rfl (hw.imi_at (i := 3) rfl (by omega)) (by have := elem_size (i := j2) (s := 6) (hs25 (by omega)) (by omega); omega) (elem_take dgdCell_len (hx24 (by omega)) (by omega) default)) ?_)
      refine q_cons (q_val rfl rfl rfl (by intro w hw; exact x_move (.slice p2 T.length d2) rfl w) ?_)
      refine q_cons (q_val rfl rfl rfl (by intro w hw; exact x_move (.int .i64 (j2 : Int)) rfl w) ?_)
      refine q_cons (q_val rfl rfl rfl (by intro w hw; exact x_indexAddr gA30 (off := oA31) (j2 : Int) 6 (oA31 + j2 * 6) (by exact congrArg (fun z_ => Value.slice z_ T.length d2) (hp36 (by omega))) rfl el_34 (by omega) rfl w) ?_)
      refine q_cons (q_val rfl rfl rfl (by intro w hw; exact x_loadAgg [.int .i64 ((D9.getD j2 default).d.frm.v), .int .i64 ((D9.getD j2 default).d.to_.v), .int .i64 ((D9.getD j2 default).d.kind.v), .int .i64 ((D9.getD j2 default).d.seq.v), .int .i64 ((D9.getD j2 default).d.ack.v), .slice ((D9.getD j2 default).p) ((D9.getD j2 default).d.body.length) ((D9.getD j2 default).c)] 6 ag_41 rfl (hw.imi_at (i := 2) rfl (by omega)) (by have := elem_size (i := j2) (s := 6) (hs38 (by omega)) (by omega); omega) (elem_take dgdCell_len (hx37 (by omega)) (by omega) default)) ?_)
      refine q_cons (q_enter (args := #[.agg #[.int .i64 ((D2.getD j2 default).d.frm.v), .int .i64 ((D2.getD j2 default).d.to_.v), .int .i64 ((D2.getD j2 default).d.kind.v), .int .i64 ((D2.getD j2 default).d.seq.v), .int .i64 ((D2.getD j2 default).d.ack.v), .slice ((D2.getD j2 default).p) ((D2.getD j2 default).d.body.length) ((D2.getD j2 default).c)], .agg #[.int .i64 ((D9.getD j2 default).d.frm.v), .int .i64 ((D9.getD j2 default).d.to_.v), .int .i64 ((D9.getD j2 default).d.kind.v), .int .i64 ((D9.getD j2 default).d.seq.v), .int .i64 ((D9.getD j2 default).d.ack.v), .slice ((D9.getD j2 default).p) ((D9.getD j2 default).d.body.length) ((D9.getD j2 default).c)]]) (v := .bool (dgSame ((D2.getD j2 default).d) ((D9.getD j2 default).d))) rfl rfl rfl (x_call pl_54 [.agg #[.int .i64 ((D2.getD j2 default).d.frm.v), .int .i64 ((D2.getD j2 default).d.to_.v), .int .i64 ((D2.getD j2 default).d.kind.v), .int .i64 ((D2.getD j2 default).d.seq.v), .int .i64 ((D2.getD j2 default).d.ack.v), .slice ((D2.getD j2 default).p) ((D2.getD j2 default).d.body.length) ((D2.getD j2 default).c)], .agg #[.int .i64 ((D9.getD j2 default).d.frm.v), .int .i64 ((D9.getD j2 default).d.to_.v), .int .i64 ((D9.getD j2 default).d.kind.v), .int .i64 ((D9.getD j2 default).d.seq.v), .int .i64 ((D9.getD j2 default).d.ack.v), .slice ((D9.getD j2 default).p) ((D9.getD j2 default).d.body.length) ((D9.getD j2 default).c)]] rfl) (fun w hw => eyrieref02_Same ((D2.getD j2 default).d) ((D9.getD j2 default).d) _ _ RdA.im (j := 1) rfl RdA.im (k := 0) rfl hw) ?_)
      refine q_cons (q_val rfl rfl rfl (by intro w hw; exact x_not (dgSame ((D2.getD j2 default).d) ((D9.getD j2 default).d)) rfl false (by rw [hsm]; rfl) w) ?_)
      refine q_nil ?_
      intro w48 H49
      refine g_false rfl ?_
      refine g_skip ?_
      refine g_inBlock ?_
      refine g_region ?_
      refine r_cons (s_add ((j2 : Int) + 1) rfl rfl (wi64 (by omega)) rfl ?_)
      refine r_cons (s_move (.int .i64 ((j2 : Int) + 1)) rfl rfl ?_)
      refine r_nil ?_
      have H50 : St W w48 (imi (0 < D9.length) gA30 (.cells kA32 eA33 zA34) :: imi (0 < D2.length) gA17 (.cells kA19 eA20 zA21) :: Im 6 (.slice p2 D9.length d2) D9.length (D9.flatMap dgdCell) :: byA (D9.map DgD.by) :: Im 6 (.slice p1 D2.length d1) D2.length (D2.flatMap dgdCell) :: byA (D2.map DgD.by) :: F) := ((((((((H49.move 7 rfl).move 7 rfl).move 7 rfl).move 7 rfl).move 7 rfl).move 7 rfl).drop 6 rfl).drop 6 rfl)
      exact nx44 (j2 + 1) _ _ ⟨(by omega), H50⟩ (by first | (dsimp only; omega) | omega) ⟨by first | rfl | exact vint (by omega), by first | rfl | exact vint (by omega), by first | rfl | exact vint (by omega), by first | rfl | exact vint (by omega), by first | rfl | exact vint (by omega), trivial⟩
    · skip
      refine r_cons (s_lss false rfl rfl (dfalse hc45) rfl ?_)
      refine r_nil ?_
      refine g_seq ?_
      refine g_false rfl ?_
      refine g_exit (by rfl) ?_
      refine g_seq ?_
      refine g_region ?_
      refine r_cons (s_assign (.bool true) rfl rfl ?_)
      refine r_nil ?_
      refine g_ret' [.bool true] Try.func38 Try.results38 ⟨rfl, trivial⟩ ?_
      have H51 : St W w42 F := ((((((H43.drop 0 rfl).drop 0 rfl).drop 0 rfl).drop 0 rfl).drop 0 rfl).drop 0 rfl)
      exact ⟨rfl, H51⟩
set_option maxHeartbeats 4000000 in
set_option maxRecDepth 100000 in
theorem does_ {W w : World} {F : List Atom} (g g2 n : Nat) (s : EndV) (o : LOpV) (u0 v0 : Value) (hd : DInv n s) (hn : n < 4611686018427387904) {j k : Nat} (hj : F[j]? = some (Im 1 u0 o.body.length (o.body.flatMap u8c))) (hk : F[k]? = some (Im 1 v0 o.dgm.body.length (o.dgm.body.flatMap u8c))) (H : St W w (LkA g s :: RfA g2 s :: F)) : Calls Try.prog 19 #[.pointer (some ⟨g, 0, none⟩), .pointer (some ⟨g2, 0, none⟩), .agg #[.int .i64 o.do_.v, u0, .int .i64 o.dgm.frm.v, .int .i64 o.dgm.to_.v, .int .i64 o.dgm.kind.v, .int .i64 o.dgm.seq.v, .int .i64 o.dgm.ack.v, v0]] w (Ret fun v w' => v = .bool true ∧ St W w' (LkA g (doS s o) :: RfA g2 (doS s o) :: F)) := by
  obtain ⟨pp1, cc2, rfl, hsh3⟩ := Rd.shape (Im.rd H (i := j + 2) (show (LkA g s :: RfA g2 s :: F)[j + 2]? = _ from hj))
  have H4 := H.dup (i := j + 2) (show (LkA g s :: RfA g2 s :: F)[j + 2]? = _ from hj) (Im_pers _ _ _ _)
  have hmlH4 := Im.len H4 (i := 0) rfl
  obtain ⟨pp5, cc6, rfl, hsh7⟩ := Rd.shape (Im.rd H4 (i := k + 3) (show (_ :: LkA g s :: RfA g2 s :: F)[k + 3]? = _ from hk))
  have H8 := H4.dup (i := k + 3) (show (_ :: LkA g s :: RfA g2 s :: F)[k + 3]? = _ from hk) (Im_pers _ _ _ _)
  have hml9 := Im.len H8 (i := 0) rfl
  have H9 : St W w (Im 1 (.slice pp5 o.dgm.body.length cc6) o.dgm.body.length (o.dgm.body.flatMap u8c) :: Im 1 (.slice pp1 o.body.length cc2) o.body.length (o.body.flatMap u8c) :: LkA g s :: RfA g2 s :: F) := H8
  refine calls_of_go (n := 62) Try.func19 rfl Try.ntmps19 rfl ?_
  refine g_seq ?_
  refine g_region ?_
  refine r_cons (s_box H9 55 (.agg #[.int .i64 o.do_.v, .slice pp1 o.body.length cc2, .int .i64 o.dgm.frm.v, .int .i64 o.dgm.to_.v, .int .i64 o.dgm.kind.v, .int .i64 o.dgm.seq.v, .int .i64 o.dgm.ack.v, .slice pp5 o.dgm.body.length cc6]) rfl (cs := #[.int .i64 o.do_.v, .slice pp1 o.body.length cc2, .int .i64 o.dgm.frm.v, .int .i64 o.dgm.to_.v, .int .i64 o.dgm.kind.v, .int .i64 o.dgm.seq.v, .int .i64 o.dgm.ack.v, .slice pp5 o.dgm.body.length cc6]) rfl rfl ?_); intro bk10 w11 H12
  refine r_cons (s_assign (.bool false) rfl rfl ?_)
  refine r_nil ?_
  refine g_seq ?_
  refine g_seq ?_
  refine g_region ?_
  refine r_cons (s_fieldAddr 55 0 0 0 3 rfl fi_55_0 rfl rfl ?_)
  refine r_cons (s_load (.int .i64 o.do_.v) ag_3 rfl (H12.blk_at (i := 0) rfl) rfl rfl ?_)
  refine r_nil ?_
  refine g_block ?_
  refine g_seq ?_
  refine g_region ?_
  by_cases hc13 : o.do_.v = 0
  · skip
    refine r_cons (s_eql true rfl rfl (dtrue hc13) rfl ?_)
    refine r_cons (s_assign (.bool true) rfl rfl ?_)
    refine r_nil ?_
    refine g_true rfl ?_
    refine g_seq ?_
    refine g_mix (fun t_ w => St W w (blk bk10 (.cells #[.int .i64 o.do_.v, .slice pp1 o.body.length cc2, .int .i64 o.dgm.frm.v, .int .i64 o.dgm.to_.v, .int .i64 o.dgm.kind.v, .int .i64 o.dgm.seq.v, .int .i64 o.dgm.ack.v, .slice pp5 o.dgm.body.length cc6] 55 (0, 0)) :: Im 1 (.slice pp5 o.dgm.body.length cc6) o.dgm.body.length (o.dgm.body.flatMap u8c) :: Im 1 (.slice pp1 o.body.length cc2) o.body.length (o.body.flatMap u8c) :: t_)) (LkA g s :: RfA g2 s :: F) mixed 10 rfl H12.drew ?_
    refine f_first 0 (listed' := #[true, false, false, false, false, false, false, false, false, false]) rfl (by kernel_rfl) (by kernel_rfl) (by kernel_rfl) rfl ?_
    refine f_val rfl rfl rfl (by intro t_ w hw; exact x_move (.pointer (some ⟨g, 0, none⟩)) rfl w) ?_
    refine f_first 1 (listed' := #[true, true, false, false, false, false, false, false, false, false]) rfl (by kernel_rfl) (by kernel_rfl) (by kernel_rfl) rfl ?_
    refine f_val rfl rfl rfl (by intro t_ w hw; exact x_fieldAddr 55 1 1 1 26 rfl fi_55_1 rfl w) ?_
    refine f_first 2 (listed' := #[true, true, true, false, false, false, false, false, false, false]) rfl (by kernel_rfl) (by kernel_rfl) (by kernel_rfl) rfl ?_
    refine f_val rfl rfl rfl (by intro t_ w hw; exact x_load (.slice pp1 o.body.length cc2) ag_26 rfl (hw.blk_at (i := 0) rfl) rfl) ?_
    refine f_first 4 (listed' := #[true, true, true, false, true, false, false, false, false, false]) rfl (by kernel_rfl) (by kernel_rfl) (by kernel_rfl) rfl ?_
    refine f_val rfl rfl rfl (by intro t_ w hw; exact x_move (.pointer (some ⟨g2, 0, none⟩)) rfl w) ?_
    refine f_first 5 (listed' := #[true, true, true, false, true, true, false, false, false, false]) rfl (by kernel_rfl) (by kernel_rfl) (by kernel_rfl) rfl ?_
    refine f_val rfl rfl rfl (by intro t_ w hw; exact x_fieldAddr 55 1 1 1 26 rfl fi_55_1 rfl w) ?_
    refine f_first 6 (listed' := #[true, true, true, false, true, true, true, false, false, false]) rfl (by kernel_rfl) (by kernel_rfl) (by kernel_rfl) rfl ?_
    refine f_val rfl rfl rfl (by intro t_ w hw; exact x_load (.slice pp1 o.body.length cc2) ag_26 rfl (hw.blk_at (i := 0) rfl) rfl) ?_
    refine f_all (rs := [3]) (by kernel_rfl) (by simp) ?_
    refine a_cons ⟨_, rfl, ?_⟩ (fun x hx => absurd hx (by simp))
    intro w14 H15
    try dsimp only at H15
    refine s_call [.pointer (some ⟨g, 0, none⟩), .slice pp1 o.body.length cc2] pl_22 rfl rfl (Lk_Send g s hd.i.ok o.body (.slice pp1 o.body.length cc2) (j := 2) rfl (i := 3) rfl H15) ?_
    rintro _ w16 ⟨rfl, H17⟩
    refine ⟨LkA g (sendS s o.body) :: RfA g2 s :: F, ?_, H17⟩
    change FReg _ _ _ _ _ #[true, true, true, true, true, true, true, false, false, false] _ _
    refine f_all (rs := [7]) (by kernel_rfl) (by simp) ?_
    refine a_cons ⟨_, rfl, ?_⟩ (fun x hx => absurd hx (by simp))
    intro w18 H19
    try dsimp only at H19
    refine s_call [.pointer (some ⟨g2, 0, none⟩), .slice pp1 o.body.length cc2] pl_37 rfl rfl (Rf_Send g2 s hd.i o.body (.slice pp1 o.body.length cc2) (j := 2) rfl (i := 4) rfl H19) ?_
    rintro _ w20 ⟨rfl, H21⟩
    refine ⟨LkA g (sendS s o.body) :: RfA g2 (sendS s o.body) :: F, ?_, H21⟩
    change FReg _ _ _ _ _ #[true, true, true, true, true, true, true, true, false, false] _ _
    refine f_first 8 (listed' := #[true, true, true, true, true, true, true, true, true, false]) rfl (by kernel_rfl) (by kernel_rfl) (by kernel_rfl) rfl ?_
    refine f_val rfl rfl rfl (by intro t_ w hw; exact x_eql true rfl rfl (dtrue rfl) w) ?_
    refine f_first 9 (listed' := #[true, true, true, true, true, true, true, true, true, true]) rfl (by kernel_rfl) (by kernel_rfl) (by kernel_rfl) rfl ?_
    refine f_val rfl rfl rfl (by intro t_ w hw; exact x_assign (.bool true) rfl w) ?_
    refine f_done (by kernel_rfl) ?_
    intro w22 H23
    refine g_ret' [.bool true] Try.func19 Try.results19 ⟨rfl, trivial⟩ ?_
    have hdo := doS_0 (s := s) (o := o) (by omega)
    have H24 : St W w22 (LkA g (sendS s o.body) :: RfA g2 (sendS s o.body) :: F) := (((((H23.move 4 rfl).move 4 rfl).drop 2 rfl).drop 2 rfl).drop 2 rfl)
    exact ⟨rfl, by rw [hdo]; exact H24⟩
  · skip
    refine r_cons (s_eql false rfl rfl (dfalse hc13) rfl ?_)
    refine r_cons (s_assign (.bool false) rfl rfl ?_)
    refine r_nil ?_
    refine g_false rfl ?_
    refine g_seq ?_
    refine g_region ?_
    by_cases hc25 : o.do_.v = 1
    · skip
      refine r_cons (s_eql true rfl rfl (dtrue hc25) rfl ?_)
      refine r_cons (s_assign (.bool true) rfl rfl ?_)
      refine r_nil ?_
      refine g_true rfl ?_
      refine g_seq ?_
      refine g_region ?_
      refine r_cons (s_move (.pointer (some ⟨g, 0, none⟩)) rfl rfl ?_)
      refine r_cons (s_call [.pointer (some ⟨g, 0, none⟩)] pl_23 rfl rfl (Lk_Out g s hd.i.ok (i := 3) rfl H12) ?_)
      rintro _ w28 ⟨pp26, cc27, rfl, H29⟩
      refine r_cons (s_move (.pointer (some ⟨g2, 0, none⟩)) rfl rfl ?_)
      refine r_cons (s_call [.pointer (some ⟨g2, 0, none⟩)] pl_39 rfl rfl (Rf_Out g2 s hd.i (i := 5) rfl H29) ?_)
      rintro _ w32 ⟨pp30, cc31, rfl, H33⟩
      have H34 : St W w32 (DgsA pp26 cc27 (outT s) :: DgsA pp30 cc31 (outT s) :: blk bk10 (.cells #[.int .i64 o.do_.v, .slice pp1 o.body.length cc2, .int .i64 o.dgm.frm.v, .int .i64 o.dgm.to_.v, .int .i64 o.dgm.kind.v, .int .i64 o.dgm.seq.v, .int .i64 o.dgm.ack.v, .slice pp5 o.dgm.body.length cc6] 55 (0, 0)) :: Im 1 (.slice pp5 o.dgm.body.length cc6) o.dgm.body.length (o.dgm.body.flatMap u8c) :: Im 1 (.slice pp1 o.body.length cc2) o.body.length (o.body.flatMap u8c) :: LkA g (outS s) :: RfA g2 (outS s) :: F) := (H33.move 1 rfl)
      refine r_cons (s_call [.slice pp26 ((outT s).length) cc27, .slice pp30 ((outT s).length) cc31] pl_38 rfl rfl (sameAll_ (outT s) pp26 pp30 cc27 cc31 H34) ?_)
      rintro _ w35 ⟨rfl, H36⟩
      refine r_cons (s_assign (.bool true) rfl rfl ?_)
      refine r_nil ?_
      refine g_ret' [.bool true] Try.func19 Try.results19 ⟨rfl, trivial⟩ ?_
      have hdo := doS_1 (s := s) (o := o) (by omega)
      have H37 : St W w35 (LkA g (outS s) :: RfA g2 (outS s) :: F) := (((((H36.move 4 rfl).move 4 rfl).drop 2 rfl).drop 2 rfl).drop 2 rfl)
      exact ⟨rfl, by rw [hdo]; exact H37⟩
    · skip
      refine r_cons (s_eql false rfl rfl (dfalse hc25) rfl ?_)
      refine r_cons (s_assign (.bool false) rfl rfl ?_)
      refine r_nil ?_
      refine g_false rfl ?_
      refine g_seq ?_
      refine g_region ?_
      by_cases hc38 : o.do_.v = 2
      · skip
        refine r_cons (s_eql true rfl rfl (dtrue hc38) rfl ?_)
        refine r_cons (s_assign (.bool true) rfl rfl ?_)
        refine r_nil ?_
        refine g_true rfl ?_
        refine g_seq ?_
        refine g_region ?_
        refine r_cons (s_move (.pointer (some ⟨g, 0, none⟩)) rfl rfl ?_)
        refine r_cons (s_call [.pointer (some ⟨g, 0, none⟩)] pl_11 rfl rfl (Lk_Tick g s hd.i.ok (by have h9 := hd.clk; omega) (i := 3) rfl H12) ?_)
        rintro _ w41 ⟨pp39, cc40, rfl, H42⟩
        refine r_cons (s_move (.pointer (some ⟨g2, 0, none⟩)) rfl rfl ?_)
        refine r_cons (s_call [.pointer (some ⟨g2, 0, none⟩)] pl_40 rfl rfl (Rf_Tick g2 s hd.i (by have h9 := hd.clk; omega) (i := 5) rfl H42) ?_)
        rintro _ w45 ⟨pp43, cc44, rfl, H46⟩
        have H47 : St W w45 (DgsA pp39 cc40 (tickT s) :: DgsA pp43 cc44 (tickT s) :: blk bk10 (.cells #[.int .i64 o.do_.v, .slice pp1 o.body.length cc2, .int .i64 o.dgm.frm.v, .int .i64 o.dgm.to_.v, .int .i64 o.dgm.kind.v, .int .i64 o.dgm.seq.v, .int .i64 o.dgm.ack.v, .slice pp5 o.dgm.body.length cc6] 55 (0, 0)) :: Im 1 (.slice pp5 o.dgm.body.length cc6) o.dgm.body.length (o.dgm.body.flatMap u8c) :: Im 1 (.slice pp1 o.body.length cc2) o.body.length (o.body.flatMap u8c) :: LkA g (tickS s) :: RfA g2 (tickS s) :: F) := (H46.move 1 rfl)
        refine r_cons (s_call [.slice pp39 ((tickT s).length) cc40, .slice pp43 ((tickT s).length) cc44] pl_38 rfl rfl (sameAll_ (tickT s) pp39 pp43 cc40 cc44 H47) ?_)
        rintro _ w48 ⟨rfl, H49⟩
        refine r_cons (s_assign (.bool true) rfl rfl ?_)
        refine r_nil ?_
        refine g_ret' [.bool true] Try.func19 Try.results19 ⟨rfl, trivial⟩ ?_
        have hdo := doS_2 (s := s) (o := o) (by omega)
        have H50 : St W w48 (LkA g (tickS s) :: RfA g2 (tickS s) :: F) := (((((H49.move 4 rfl).move 4 rfl).drop 2 rfl).drop 2 rfl).drop 2 rfl)
        exact ⟨rfl, by rw [hdo]; exact H50⟩
      · skip
        refine r_cons (s_eql false rfl rfl (dfalse hc38) rfl ?_)
        refine r_cons (s_assign (.bool false) rfl rfl ?_)
        refine r_nil ?_
        refine g_false rfl ?_
        refine g_seq ?_
        refine g_region ?_
        by_cases hc51 : o.do_.v = 3
        · skip
          refine r_cons (s_eql true rfl rfl (dtrue hc51) rfl ?_)
          refine r_cons (s_assign (.bool true) rfl rfl ?_)
          refine r_nil ?_
          refine g_true rfl ?_
          refine g_seq ?_
          refine g_region ?_
          refine r_cons (s_move (.pointer (some ⟨g, 0, none⟩)) rfl rfl ?_)
          refine r_cons (s_fieldAddr 55 2 2 2 41 rfl fi_55_2 rfl rfl ?_)
          refine r_cons (s_loadAgg [.int .i64 o.dgm.frm.v, .int .i64 o.dgm.to_.v, .int .i64 o.dgm.kind.v, .int .i64 o.dgm.seq.v, .int .i64 o.dgm.ack.v, .slice pp5 o.dgm.body.length cc6] 6 ag_41 rfl (H12.blk_at (i := 0) rfl) (Nat.le_of_ble_eq_true rfl) rfl rfl ?_)
          refine r_cons (s_call [.pointer (some ⟨g, 0, none⟩), .agg #[.int .i64 o.dgm.frm.v, .int .i64 o.dgm.to_.v, .int .i64 o.dgm.kind.v, .int .i64 o.dgm.seq.v, .int .i64 o.dgm.ack.v, .slice pp5 o.dgm.body.length cc6]] pl_21 rfl rfl (Lk_Take g s hd.i.ok o.dgm (.slice pp5 o.dgm.body.length cc6) hd.i.heldN (j := 1) rfl (i := 3) rfl H12) ?_)
          rintro _ w54 ⟨pp52, cc53, rfl, H55⟩
          refine r_cons (s_move (.tuple #[.slice pp52 ((takeT s o.dgm).length) cc53, .int .i64 (takeE s o.dgm)]) rfl rfl ?_)
          refine r_cons (s_extract (.slice pp52 ((takeT s o.dgm).length) cc53) #[.slice pp52 ((takeT s o.dgm).length) cc53, .int .i64 (takeE s o.dgm)] rfl rfl rfl ?_)
          refine r_cons (s_extract (.int .i64 (takeE s o.dgm)) #[.slice pp52 ((takeT s o.dgm).length) cc53, .int .i64 (takeE s o.dgm)] rfl rfl rfl ?_)
          refine r_cons (s_assign (.slice pp52 ((takeT s o.dgm).length) cc53) rfl rfl ?_)
          refine r_cons (s_assign (.int .i64 (takeE s o.dgm)) rfl rfl ?_)
          refine r_nil ?_
          refine g_seq ?_
          refine g_region ?_
          refine r_cons (s_move (.pointer (some ⟨g2, 0, none⟩)) rfl rfl ?_)
          refine r_cons (s_fieldAddr 55 2 2 2 41 rfl fi_55_2 rfl rfl ?_)
          refine r_cons (s_loadAgg [.int .i64 o.dgm.frm.v, .int .i64 o.dgm.to_.v, .int .i64 o.dgm.kind.v, .int .i64 o.dgm.seq.v, .int .i64 o.dgm.ack.v, .slice pp5 o.dgm.body.length cc6] 6 ag_41 rfl (H55.blk_at (i := 1) rfl) (Nat.le_of_ble_eq_true rfl) rfl rfl ?_)
          refine r_cons (s_call [.pointer (some ⟨g2, 0, none⟩), .agg #[.int .i64 o.dgm.frm.v, .int .i64 o.dgm.to_.v, .int .i64 o.dgm.kind.v, .int .i64 o.dgm.seq.v, .int .i64 o.dgm.ack.v, .slice pp5 o.dgm.body.length cc6]] pl_41 rfl rfl (Rf_Take g2 s hd.i o.dgm (.slice pp5 o.dgm.body.length cc6) hd.i.heldN (j := 2) rfl (i := 5) rfl H55) ?_)
          rintro _ w58 ⟨pp56, cc57, rfl, H59⟩
          refine r_cons (s_move (.tuple #[.slice pp56 ((takeT s o.dgm).length) cc57, .int .i64 (takeE s o.dgm)]) rfl rfl ?_)
          refine r_cons (s_extract (.slice pp56 ((takeT s o.dgm).length) cc57) #[.slice pp56 ((takeT s o.dgm).length) cc57, .int .i64 (takeE s o.dgm)] rfl rfl rfl ?_)
          refine r_cons (s_extract (.int .i64 (takeE s o.dgm)) #[.slice pp56 ((takeT s o.dgm).length) cc57, .int .i64 (takeE s o.dgm)] rfl rfl rfl ?_)
          refine r_cons (s_assign (.slice pp56 ((takeT s o.dgm).length) cc57) rfl rfl ?_)
          refine r_cons (s_assign (.int .i64 (takeE s o.dgm)) rfl rfl ?_)
          refine r_nil ?_
          refine g_seq ?_
          refine g_region ?_
          refine r_cons (s_move (.int .i64 (takeE s o.dgm)) rfl rfl ?_)
          refine r_cons (s_move (.int .i64 (takeE s o.dgm)) rfl rfl ?_)
          refine r_cons (s_eql true rfl rfl (dtrue rfl) rfl ?_)
          refine r_cons (s_move (.bool true) rfl rfl ?_)
          refine r_cons (r_take rfl rfl ?_)
          have H60 := H59.move 1 rfl
          obtain ⟨⟨D61, hD62⟩, H63⟩ := St.open_ex H60
          have H64 := St.open_star H63
          change D61.map BytesD.data = (takeT s o.dgm) at hD62
          have H65 : St W w58 (Row 26 1 (.slice pp52 ((takeT s o.dgm).length) cc53) ((takeT s o.dgm).length) (D61.flatMap byCell) :: byA D61 :: BysA pp56 cc57 (takeT s o.dgm) :: blk bk10 (.cells #[.int .i64 o.do_.v, .slice pp1 o.body.length cc2, .int .i64 o.dgm.frm.v, .int .i64 o.dgm.to_.v, .int .i64 o.dgm.kind.v, .int .i64 o.dgm.seq.v, .int .i64 o.dgm.ack.v, .slice pp5 o.dgm.body.length cc6] 55 (0, 0)) :: Im 1 (.slice pp5 o.dgm.body.length cc6) o.dgm.body.length (o.dgm.body.flatMap u8c) :: Im 1 (.slice pp1 o.body.length cc2) o.body.length (o.body.flatMap u8c) :: LkA g (takeS s o.dgm) :: RfA g2 (takeS s o.dgm) :: F) := H64
          have hzD61 := Row.lenOf H65 (i := 0) rfl
          have H66 := H65.move 2 rfl
          obtain ⟨⟨D67, hD68⟩, H69⟩ := St.open_ex H66
          have H70 := St.open_star H69
          change D67.map BytesD.data = (takeT s o.dgm) at hD68
          have H71 : St W w58 (Row 26 1 (.slice pp56 ((takeT s o.dgm).length) cc57) ((takeT s o.dgm).length) (D67.flatMap byCell) :: byA D67 :: Row 26 1 (.slice pp52 ((takeT s o.dgm).length) cc53) ((takeT s o.dgm).length) (D61.flatMap byCell) :: byA D61 :: blk bk10 (.cells #[.int .i64 o.do_.v, .slice pp1 o.body.length cc2, .int .i64 o.dgm.frm.v, .int .i64 o.dgm.to_.v, .int .i64 o.dgm.kind.v, .int .i64 o.dgm.seq.v, .int .i64 o.dgm.ack.v, .slice pp5 o.dgm.body.length cc6] 55 (0, 0)) :: Im 1 (.slice pp5 o.dgm.body.length cc6) o.dgm.body.length (o.dgm.body.flatMap u8c) :: Im 1 (.slice pp1 o.body.length cc2) o.body.length (o.body.flatMap u8c) :: LkA g (takeS s o.dgm) :: RfA g2 (takeS s o.dgm) :: F) := H70
          have hzD67 := Row.lenOf H71 (i := 0) rfl
          refine s_move (.slice pp52 ((takeT s o.dgm).length) cc53) rfl rfl ?_
          refine r_cons (r_take rfl rfl ?_)
          refine s_move (.slice pp56 ((takeT s o.dgm).length) cc57) rfl rfl ?_
          refine r_cons (r_take rfl rfl ?_)
          have H72 := byA_app (M := (D61 ++ D67)) H71 (i := 3) (j := 1) rfl rfl app_b
          refine s_call [.slice pp52 ((takeT s o.dgm).length) cc53, .slice pp56 ((takeT s o.dgm).length) cc57] pl_14 rfl rfl (sameBodies_rows D61 D67 ((takeT s o.dgm).length) ((takeT s o.dgm).length) ((takeT s o.dgm).length) pp52 pp56 cc53 cc57 (lenOf hD62) (lenOf hD68) (by omega) rfl (by rw [hD62, hD68, List.take_length]) (i := 3) (j := 1) (a := 0) rfl rfl rfl H72) ?_
          rintro _ w73 ⟨rfl, H74⟩
          refine r_cons (s_pick_t (.bool true) rfl rfl rfl ?_)
          refine r_cons (s_assign (.bool true) rfl rfl ?_)
          refine r_nil ?_
          refine g_ret' [.bool true] Try.func19 Try.results19 ⟨rfl, trivial⟩ ?_
          have hdo := doS_3 (s := s) (o := o) (by omega)
          have H75 : St W w73 (LkA g (takeS s o.dgm) :: RfA g2 (takeS s o.dgm) :: F) := ((((((((((H74.move 9 rfl).move 9 rfl).drop 2 rfl).drop 2 rfl).drop 2 rfl).drop 2 rfl).drop 2 rfl).drop 2 rfl).drop 2 rfl).drop 2 rfl)
          exact ⟨rfl, by rw [hdo]; exact H75⟩
        · skip
          refine r_cons (s_eql false rfl rfl (dfalse hc51) rfl ?_)
          refine r_cons (s_assign (.bool false) rfl rfl ?_)
          refine r_nil ?_
          refine g_false rfl ?_
          refine g_skip ?_
          refine g_inBlock ?_
          refine g_seq ?_
          refine g_region ?_
          refine r_cons (s_assign (.bool true) rfl rfl ?_)
          refine r_nil ?_
          refine g_ret' [.bool true] Try.func19 Try.results19 ⟨rfl, trivial⟩ ?_
          have hdo := doS_no (s := s) (o := o) (by omega)
          have H76 : St W w11 (LkA g s :: RfA g2 s :: F) := (((((H12.move 4 rfl).move 4 rfl).drop 2 rfl).drop 2 rfl).drop 2 rfl)
          exact ⟨rfl, by rw [hdo]; exact H76⟩
set_option maxHeartbeats 4000000 in
set_option maxRecDepth 100000 in
theorem same_ {W w : World} {F : List Atom} (g g2 : Nat) (s : EndV) (hv : LInv s) (hN0 : s.held.length * 8 ≤ 140737488355328) (H : St W w (LkA g s :: RfA g2 s :: F)) : Calls Try.prog 20 #[.pointer (some ⟨g, 0, none⟩), .pointer (some ⟨g2, 0, none⟩)] w (Ret fun v w' => v = .bool true ∧ St W w' (LkA g s :: RfA g2 s :: F)) := by
  obtain ⟨o1, o2, o3, o4, o5, o6, o8⟩ := id hv.ok; have o7 := i64N_0 (Nat.le_trans o4 (by decide))
  have hwy : (decide (s.frm.v = s.frm.v) && (decide (s.to_.v = s.to_.v) && true)) = true := by simp
  refine calls_of_go (n := 64) Try.func20 rfl Try.ntmps20 rfl ?_
  refine g_seq ?_
  refine g_region ?_
  refine r_cons (s_assign (.bool false) rfl rfl ?_)
  refine r_nil ?_
  refine g_seq ?_
  refine g_mix (fun t_ w => St W w (LkA g s :: t_)) (RfA g2 s :: F) mixed 60 rfl H.drew ?_
  refine f_first 0 (listed' := #[true, false, false, false, false, false, false, false, false, false, false, false, false, false, false, false, false, false, false, false, false, false, false, false, false, false, false, false, false, false, false, false, false, false, false, false, false, false, false, false, false, false, false, false, false, false, false, false, false, false, false, false, false, false, false, false, false, false, false, false]) rfl (by kernel_rfl) (by kernel_rfl) (by kernel_rfl) rfl ?_
  refine f_val rfl rfl rfl (by intro t_ w hw; exact x_move (.pointer (some ⟨g, 0, none⟩)) rfl w) ?_
  refine f_first 1 (listed' := #[true, true, false, false, false, false, false, false, false, false, false, false, false, false, false, false, false, false, false, false, false, false, false, false, false, false, false, false, false, false, false, false, false, false, false, false, false, false, false, false, false, false, false, false, false, false, false, false, false, false, false, false, false, false, false, false, false, false, false, false]) rfl (by kernel_rfl) (by kernel_rfl) (by kernel_rfl) rfl ?_
  refine f_enter (args := #[.pointer (some ⟨g, 0, none⟩)]) (v := .agg #[.int .i64 s.frm.v, .int .i64 s.to_.v]) rfl rfl rfl (x_call pl_26 [.pointer (some ⟨g, 0, none⟩)] rfl) (fun t_ w hw => Lk_Way g s hv.ok (i := 0) rfl hw) ?_
  refine f_first 2 (listed' := #[true, true, true, false, false, false, false, false, false, false, false, false, false, false, false, false, false, false, false, false, false, false, false, false, false, false, false, false, false, false, false, false, false, false, false, false, false, false, false, false, false, false, false, false, false, false, false, false, false, false, false, false, false, false, false, false, false, false, false, false]) rfl (by kernel_rfl) (by kernel_rfl) (by kernel_rfl) rfl ?_
  refine f_val rfl rfl rfl (by intro t_ w hw; exact x_move (.pointer (some ⟨g2, 0, none⟩)) rfl w) ?_
  refine f_first 3 (listed' := #[true, true, true, true, false, false, false, false, false, false, false, false, false, false, false, false, false, false, false, false, false, false, false, false, false, false, false, false, false, false, false, false, false, false, false, false, false, false, false, false, false, false, false, false, false, false, false, false, false, false, false, false, false, false, false, false, false, false, false, false]) rfl (by kernel_rfl) (by kernel_rfl) (by kernel_rfl) rfl ?_
  refine f_val rfl rfl rfl (by intro t_ w hw; exact x_nilCheck (.pointer (some ⟨g2, 0, none⟩)) rfl ⟨_, rfl⟩ w) ?_
  refine f_first 4 (listed' := #[true, true, true, true, true, false, false, false, false, false, false, false, false, false, false, false, false, false, false, false, false, false, false, false, false, false, false, false, false, false, false, false, false, false, false, false, false, false, false, false, false, false, false, false, false, false, false, false, false, false, false, false, false, false, false, false, false, false, false, false]) rfl (by kernel_rfl) (by kernel_rfl) (by kernel_rfl) rfl ?_
  refine f_val rfl rfl rfl (by intro t_ w hw; exact x_fieldAddr 86 0 0 0 46 rfl fi_86_0 rfl w) ?_
  refine f_all (rs := [5]) (by kernel_rfl) (by simp) ?_
  refine a_cons ⟨_, rfl, ?_⟩ (fun x hx => absurd hx (by simp))
  intro w1 H2
  try dsimp only at H2
  have H3 := H2.move 1 rfl
  obtain ⟨⟨⟨pp4, cc5, L6, pp7, cc8, E9, A10⟩, hL11, hA12, hH13⟩, H14⟩ := St.open_ex H3
  have H15 := St.open_star H14
  change L6.map BodD.v = A10 ++ s.l at hL11; change A10.length = s.acked at hA12; change HR s.held (mapB E9) at hH13
  have hl16 := refLen hL11 hA12; have hh17 : E9.length = s.held.length := by have h9 := hH13.len; rw [mapB_len rfl] at h9; exact h9
  have H18 : St W w1 (blk g2 (.cells #[.int .i64 s.frm.v, .int .i64 s.to_.v, .int .i64 (s.slide : Int), .slice pp4 L6.length cc5, .int .i64 (s.acked : Int), .int .i64 ((i64N s.came).v), .slice pp7 E9.length cc8, .int .i64 (s.clock : Int), .bool s.owes] 86 (0, 0)) :: Row 101 3 (.slice pp4 L6.length cc5) L6.length (L6.flatMap bodCell) :: byA (L6.map BodD.by) :: Row 105 2 (.slice pp7 E9.length cc8) E9.length (E9.flatMap hlCell) :: byA (mby E9) :: LkA g s :: F) := H15
  refine s_loadAgg [.int .i64 s.frm.v, .int .i64 s.to_.v] 2 ag_46 rfl (H18.blk_at (i := 0) rfl) (Nat.le_of_ble_eq_true rfl) rfl rfl ?_
  have H19 : St W w1 (RfA g2 s :: LkA g s :: F) := St.shut_ex ⟨⟨pp4, cc5, L6, pp7, cc8, E9, A10⟩, hL11, hA12, hH13⟩ (St.shut_star (ls := [blk g2 (.cells #[.int .i64 s.frm.v, .int .i64 s.to_.v, .int .i64 (s.slide : Int), .slice pp4 L6.length cc5, .int .i64 (s.acked : Int), .int .i64 ((i64N s.came).v), .slice pp7 E9.length cc8, .int .i64 (s.clock : Int), .bool s.owes] 86 (0, 0)), Row 101 3 (.slice pp4 L6.length cc5) L6.length (L6.flatMap bodCell), byA (L6.map BodD.by), Row 105 2 (.slice pp7 E9.length cc8) E9.length (E9.flatMap hlCell), byA (mby E9)]) H18)
  have H20 : St W w1 (LkA g s :: RfA g2 s :: F) := (H19.move 1 rfl)
  refine ⟨RfA g2 s :: F, ?_, H20⟩
  change FReg _ _ _ _ _ #[true, true, true, true, true, true, false, false, false, false, false, false, false, false, false, false, false, false, false, false, false, false, false, false, false, false, false, false, false, false, false, false, false, false, false, false, false, false, false, false, false, false, false, false, false, false, false, false, false, false, false, false, false, false, false, false, false, false, false, false] _ _
  refine f_first 6 (listed' := #[true, true, true, true, true, true, true, false, false, false, false, false, false, false, false, false, false, false, false, false, false, false, false, false, false, false, false, false, false, false, false, false, false, false, false, false, false, false, false, false, false, false, false, false, false, false, false, false, false, false, false, false, false, false, false, false, false, false, false, false]) rfl (by kernel_rfl) (by kernel_rfl) (by kernel_rfl) rfl ?_
  refine f_val rfl rfl rfl (by intro t_ w hw; exact x_aeql ((decide (s.frm.v = s.frm.v) && (decide (s.to_.v = s.to_.v) && true))) gd_46 ev_46 rfl rfl rfl w) ?_
  refine f_first 7 (listed' := #[true, true, true, true, true, true, true, true, false, false, false, false, false, false, false, false, false, false, false, false, false, false, false, false, false, false, false, false, false, false, false, false, false, false, false, false, false, false, false, false, false, false, false, false, false, false, false, false, false, false, false, false, false, false, false, false, false, false, false, false]) rfl (by kernel_rfl) (by kernel_rfl) (by kernel_rfl) rfl ?_
  refine f_val rfl rfl rfl (by intro t_ w hw; exact x_move (.bool (decide (s.frm.v = s.frm.v) && (decide (s.to_.v = s.to_.v) && true))) rfl w) ?_
  refine f_first 8 (listed' := #[true, true, true, true, true, true, true, true, true, false, false, false, false, false, false, false, false, false, false, false, false, false, false, false, false, false, false, false, false, false, false, false, false, false, false, false, false, false, false, false, false, false, false, false, false, false, false, false, false, false, false, false, false, false, false, false, false, false, false, false]) rfl (by kernel_rfl) (by kernel_rfl) (by kernel_rfl) rfl ?_
  refine f_take rfl (by exact congrArg some hwy) ?_
  refine f_val rfl rfl rfl (by intro t_ w hw; exact x_move (.pointer (some ⟨g, 0, none⟩)) rfl w) ?_
  refine f_first 9 (listed' := #[true, true, true, true, true, true, true, true, true, true, false, false, false, false, false, false, false, false, false, false, false, false, false, false, false, false, false, false, false, false, false, false, false, false, false, false, false, false, false, false, false, false, false, false, false, false, false, false, false, false, false, false, false, false, false, false, false, false, false, false]) rfl (by kernel_rfl) (by kernel_rfl) (by kernel_rfl) rfl ?_
  refine f_take rfl (by exact congrArg some hwy) ?_
  refine f_enter (args := #[.pointer (some ⟨g, 0, none⟩)]) (v := .int .i64 (s.l.length : Int)) rfl rfl rfl (x_call pl_10 [.pointer (some ⟨g, 0, none⟩)] rfl) (fun t_ w hw => Lk_Waiting g s hv.ok (i := 0) rfl hw) ?_
  refine f_first 10 (listed' := #[true, true, true, true, true, true, true, true, true, true, true, false, false, false, false, false, false, false, false, false, false, false, false, false, false, false, false, false, false, false, false, false, false, false, false, false, false, false, false, false, false, false, false, false, false, false, false, false, false, false, false, false, false, false, false, false, false, false, false, false]) rfl (by kernel_rfl) (by kernel_rfl) (by kernel_rfl) rfl ?_
  refine f_take rfl (by exact congrArg some hwy) ?_
  refine f_val rfl rfl rfl (by intro t_ w hw; exact x_move (.pointer (some ⟨g2, 0, none⟩)) rfl w) ?_
  refine f_all (rs := [11]) (by kernel_rfl) (by simp) ?_
  refine a_cons ⟨_, rfl, ?_⟩ (fun x hx => absurd hx (by simp))
  intro w21 H22
  try dsimp only at H22
  refine r_take rfl (by exact congrArg some hwy) ?_
  refine s_call [.pointer (some ⟨g2, 0, none⟩)] pl_42 rfl rfl (Rf_Waiting g2 s hv.ok (i := 1) rfl H22) ?_
  rintro _ w23 ⟨rfl, H24⟩
  refine ⟨RfA g2 s :: F, ?_, H24⟩
  change FReg _ _ _ _ _ #[true, true, true, true, true, true, true, true, true, true, true, true, false, false, false, false, false, false, false, false, false, false, false, false, false, false, false, false, false, false, false, false, false, false, false, false, false, false, false, false, false, false, false, false, false, false, false, false, false, false, false, false, false, false, false, false, false, false, false, false] _ _
  refine f_first 12 (listed' := #[true, true, true, true, true, true, true, true, true, true, true, true, true, false, false, false, false, false, false, false, false, false, false, false, false, false, false, false, false, false, false, false, false, false, false, false, false, false, false, false, false, false, false, false, false, false, false, false, false, false, false, false, false, false, false, false, false, false, false, false]) rfl (by kernel_rfl) (by kernel_rfl) (by kernel_rfl) rfl ?_
  refine f_take rfl (by exact congrArg some hwy) ?_
  refine f_val rfl rfl rfl (by intro t_ w hw; exact x_eql true rfl rfl (dtrue rfl) w) ?_
  refine f_first 13 (listed' := #[true, true, true, true, true, true, true, true, true, true, true, true, true, true, false, false, false, false, false, false, false, false, false, false, false, false, false, false, false, false, false, false, false, false, false, false, false, false, false, false, false, false, false, false, false, false, false, false, false, false, false, false, false, false, false, false, false, false, false, false]) rfl (by kernel_rfl) (by kernel_rfl) (by kernel_rfl) rfl ?_
  refine f_val rfl rfl rfl (by intro t_ w hw; exact x_pick_t (.bool true) (by exact congrArg Value.bool hwy) rfl w) ?_
  refine f_first 14 (listed' := #[true, true, true, true, true, true, true, true, true, true, true, true, true, true, true, false, false, false, false, false, false, false, false, false, false, false, false, false, false, false, false, false, false, false, false, false, false, false, false, false, false, false, false, false, false, false, false, false, false, false, false, false, false, false, false, false, false, false, false, false]) rfl (by kernel_rfl) (by kernel_rfl) (by kernel_rfl) rfl ?_
  refine f_val rfl rfl rfl (by intro t_ w hw; exact x_move (.bool true) rfl w) ?_
  refine f_first 15 (listed' := #[true, true, true, true, true, true, true, true, true, true, true, true, true, true, true, true, false, false, false, false, false, false, false, false, false, false, false, false, false, false, false, false, false, false, false, false, false, false, false, false, false, false, false, false, false, false, false, false, false, false, false, false, false, false, false, false, false, false, false, false]) rfl (by kernel_rfl) (by kernel_rfl) (by kernel_rfl) rfl ?_
  refine f_take rfl rfl ?_
  refine f_val rfl rfl rfl (by intro t_ w hw; exact x_move (.pointer (some ⟨g, 0, none⟩)) rfl w) ?_
  refine f_first 16 (listed' := #[true, true, true, true, true, true, true, true, true, true, true, true, true, true, true, true, true, false, false, false, false, false, false, false, false, false, false, false, false, false, false, false, false, false, false, false, false, false, false, false, false, false, false, false, false, false, false, false, false, false, false, false, false, false, false, false, false, false, false, false]) rfl (by kernel_rfl) (by kernel_rfl) (by kernel_rfl) rfl ?_
  refine f_take rfl rfl ?_
  refine f_enter (args := #[.pointer (some ⟨g, 0, none⟩)]) (v := .int .i64 (under s : Int)) rfl rfl rfl (x_call pl_16 [.pointer (some ⟨g, 0, none⟩)] rfl) (fun t_ w hw => Lk_Under g s hv.ok (i := 0) rfl hw) ?_
  refine f_first 17 (listed' := #[true, true, true, true, true, true, true, true, true, true, true, true, true, true, true, true, true, true, false, false, false, false, false, false, false, false, false, false, false, false, false, false, false, false, false, false, false, false, false, false, false, false, false, false, false, false, false, false, false, false, false, false, false, false, false, false, false, false, false, false]) rfl (by kernel_rfl) (by kernel_rfl) (by kernel_rfl) rfl ?_
  refine f_take rfl rfl ?_
  refine f_val rfl rfl rfl (by intro t_ w hw; exact x_move (.pointer (some ⟨g2, 0, none⟩)) rfl w) ?_
  refine f_all (rs := [18]) (by kernel_rfl) (by simp) ?_
  refine a_cons ⟨_, rfl, ?_⟩ (fun x hx => absurd hx (by simp))
  intro w25 H26
  try dsimp only at H26
  refine r_take rfl rfl ?_
  refine s_call [.pointer (some ⟨g2, 0, none⟩)] pl_43 rfl rfl (Rf_Under g2 s hv (i := 1) rfl H26) ?_
  rintro _ w27 ⟨rfl, H28⟩
  refine ⟨RfA g2 s :: F, ?_, H28⟩
  change FReg _ _ _ _ _ #[true, true, true, true, true, true, true, true, true, true, true, true, true, true, true, true, true, true, true, false, false, false, false, false, false, false, false, false, false, false, false, false, false, false, false, false, false, false, false, false, false, false, false, false, false, false, false, false, false, false, false, false, false, false, false, false, false, false, false, false] _ _
  refine f_first 19 (listed' := #[true, true, true, true, true, true, true, true, true, true, true, true, true, true, true, true, true, true, true, true, false, false, false, false, false, false, false, false, false, false, false, false, false, false, false, false, false, false, false, false, false, false, false, false, false, false, false, false, false, false, false, false, false, false, false, false, false, false, false, false]) rfl (by kernel_rfl) (by kernel_rfl) (by kernel_rfl) rfl ?_
  refine f_take rfl rfl ?_
  refine f_val rfl rfl rfl (by intro t_ w hw; exact x_eql true rfl rfl (dtrue rfl) w) ?_
  refine f_first 20 (listed' := #[true, true, true, true, true, true, true, true, true, true, true, true, true, true, true, true, true, true, true, true, true, false, false, false, false, false, false, false, false, false, false, false, false, false, false, false, false, false, false, false, false, false, false, false, false, false, false, false, false, false, false, false, false, false, false, false, false, false, false, false]) rfl (by kernel_rfl) (by kernel_rfl) (by kernel_rfl) rfl ?_
  refine f_val rfl rfl rfl (by intro t_ w hw; exact x_pick_t (.bool true) rfl rfl w) ?_
  refine f_first 21 (listed' := #[true, true, true, true, true, true, true, true, true, true, true, true, true, true, true, true, true, true, true, true, true, true, false, false, false, false, false, false, false, false, false, false, false, false, false, false, false, false, false, false, false, false, false, false, false, false, false, false, false, false, false, false, false, false, false, false, false, false, false, false]) rfl (by kernel_rfl) (by kernel_rfl) (by kernel_rfl) rfl ?_
  refine f_val rfl rfl rfl (by intro t_ w hw; exact x_move (.bool true) rfl w) ?_
  refine f_first 22 (listed' := #[true, true, true, true, true, true, true, true, true, true, true, true, true, true, true, true, true, true, true, true, true, true, true, false, false, false, false, false, false, false, false, false, false, false, false, false, false, false, false, false, false, false, false, false, false, false, false, false, false, false, false, false, false, false, false, false, false, false, false, false]) rfl (by kernel_rfl) (by kernel_rfl) (by kernel_rfl) rfl ?_
  refine f_take rfl rfl ?_
  refine f_val rfl rfl rfl (by intro t_ w hw; exact x_move (.pointer (some ⟨g, 0, none⟩)) rfl w) ?_
  refine f_first 23 (listed' := #[true, true, true, true, true, true, true, true, true, true, true, true, true, true, true, true, true, true, true, true, true, true, true, true, false, false, false, false, false, false, false, false, false, false, false, false, false, false, false, false, false, false, false, false, false, false, false, false, false, false, false, false, false, false, false, false, false, false, false, false]) rfl (by kernel_rfl) (by kernel_rfl) (by kernel_rfl) rfl ?_
  refine f_take rfl rfl ?_
  refine f_enter (args := #[.pointer (some ⟨g, 0, none⟩)]) (v := .int .i64 ((s.acked : Int) + (s.l.length : Int))) rfl rfl rfl (x_call pl_24 [.pointer (some ⟨g, 0, none⟩)] rfl) (fun t_ w hw => Lk_Next g s hv.ok (i := 0) rfl hw) ?_
  refine f_first 24 (listed' := #[true, true, true, true, true, true, true, true, true, true, true, true, true, true, true, true, true, true, true, true, true, true, true, true, true, false, false, false, false, false, false, false, false, false, false, false, false, false, false, false, false, false, false, false, false, false, false, false, false, false, false, false, false, false, false, false, false, false, false, false]) rfl (by kernel_rfl) (by kernel_rfl) (by kernel_rfl) rfl ?_
  refine f_take rfl rfl ?_
  refine f_val rfl rfl rfl (by intro t_ w hw; exact x_move (.pointer (some ⟨g2, 0, none⟩)) rfl w) ?_
  refine f_first 25 (listed' := #[true, true, true, true, true, true, true, true, true, true, true, true, true, true, true, true, true, true, true, true, true, true, true, true, true, true, false, false, false, false, false, false, false, false, false, false, false, false, false, false, false, false, false, false, false, false, false, false, false, false, false, false, false, false, false, false, false, false, false, false]) rfl (by kernel_rfl) (by kernel_rfl) (by kernel_rfl) rfl ?_
  refine f_take rfl rfl ?_
  refine f_val rfl rfl rfl (by intro t_ w hw; exact x_nilCheck (.pointer (some ⟨g2, 0, none⟩)) rfl ⟨_, rfl⟩ w) ?_
  refine f_first 26 (listed' := #[true, true, true, true, true, true, true, true, true, true, true, true, true, true, true, true, true, true, true, true, true, true, true, true, true, true, true, false, false, false, false, false, false, false, false, false, false, false, false, false, false, false, false, false, false, false, false, false, false, false, false, false, false, false, false, false, false, false, false, false]) rfl (by kernel_rfl) (by kernel_rfl) (by kernel_rfl) rfl ?_
  refine f_take rfl rfl ?_
  refine f_val rfl rfl rfl (by intro t_ w hw; exact x_fieldAddr 86 2 3 3 83 rfl fi_86_2 rfl w) ?_
  refine f_all (rs := [27]) (by kernel_rfl) (by simp) ?_
  refine a_cons ⟨_, rfl, ?_⟩ (fun x hx => absurd hx (by simp))
  intro w29 H30
  try dsimp only at H30
  refine r_take rfl rfl ?_
  have H31 := H30.move 1 rfl
  obtain ⟨⟨⟨pp32, cc33, L34, pp35, cc36, E37, A38⟩, hL39, hA40, hH41⟩, H42⟩ := St.open_ex H31
  have H43 := St.open_star H42
  change L34.map BodD.v = A38 ++ s.l at hL39; change A38.length = s.acked at hA40; change HR s.held (mapB E37) at hH41
  have hl44 := refLen hL39 hA40; have hh45 : E37.length = s.held.length := by have h9 := hH41.len; rw [mapB_len rfl] at h9; exact h9
  have H46 : St W w29 (blk g2 (.cells #[.int .i64 s.frm.v, .int .i64 s.to_.v, .int .i64 (s.slide : Int), .slice pp32 L34.length cc33, .int .i64 (s.acked : Int), .int .i64 ((i64N s.came).v), .slice pp35 E37.length cc36, .int .i64 (s.clock : Int), .bool s.owes] 86 (0, 0)) :: Row 101 3 (.slice pp32 L34.length cc33) L34.length (L34.flatMap bodCell) :: byA (L34.map BodD.by) :: Row 105 2 (.slice pp35 E37.length cc36) E37.length (E37.flatMap hlCell) :: byA (mby E37) :: LkA g s :: F) := H43
  refine s_load (.slice pp32 L34.length cc33) ag_83 rfl (H46.blk_at (i := 0) rfl) rfl rfl ?_
  have H47 : St W w29 (RfA g2 s :: LkA g s :: F) := St.shut_ex ⟨⟨pp32, cc33, L34, pp35, cc36, E37, A38⟩, hL39, hA40, hH41⟩ (St.shut_star (ls := [blk g2 (.cells #[.int .i64 s.frm.v, .int .i64 s.to_.v, .int .i64 (s.slide : Int), .slice pp32 L34.length cc33, .int .i64 (s.acked : Int), .int .i64 ((i64N s.came).v), .slice pp35 E37.length cc36, .int .i64 (s.clock : Int), .bool s.owes] 86 (0, 0)), Row 101 3 (.slice pp32 L34.length cc33) L34.length (L34.flatMap bodCell), byA (L34.map BodD.by), Row 105 2 (.slice pp35 E37.length cc36) E37.length (E37.flatMap hlCell), byA (mby E37)]) H46)
  have H48 : St W w29 (LkA g s :: RfA g2 s :: F) := (H47.move 1 rfl)
  refine ⟨RfA g2 s :: F, ?_, H48⟩
  change FReg _ _ _ _ _ #[true, true, true, true, true, true, true, true, true, true, true, true, true, true, true, true, true, true, true, true, true, true, true, true, true, true, true, true, false, false, false, false, false, false, false, false, false, false, false, false, false, false, false, false, false, false, false, false, false, false, false, false, false, false, false, false, false, false, false, false] _ _
  refine f_first 28 (listed' := #[true, true, true, true, true, true, true, true, true, true, true, true, true, true, true, true, true, true, true, true, true, true, true, true, true, true, true, true, true, false, false, false, false, false, false, false, false, false, false, false, false, false, false, false, false, false, false, false, false, false, false, false, false, false, false, false, false, false, false, false]) rfl (by kernel_rfl) (by kernel_rfl) (by kernel_rfl) rfl ?_
  refine f_take rfl rfl ?_
  refine f_val rfl rfl rfl (by intro t_ w hw; exact x_len L34.length rfl ⟨_, un_83⟩ w) ?_
  refine f_first 29 (listed' := #[true, true, true, true, true, true, true, true, true, true, true, true, true, true, true, true, true, true, true, true, true, true, true, true, true, true, true, true, true, true, false, false, false, false, false, false, false, false, false, false, false, false, false, false, false, false, false, false, false, false, false, false, false, false, false, false, false, false, false, false]) rfl (by kernel_rfl) (by kernel_rfl) (by kernel_rfl) rfl ?_
  refine f_take rfl rfl ?_
  refine f_val rfl rfl rfl (by intro t_ w hw; exact x_eql true rfl rfl (dtrue (by omega)) w) ?_
  refine f_first 30 (listed' := #[true, true, true, true, true, true, true, true, true, true, true, true, true, true, true, true, true, true, true, true, true, true, true, true, true, true, true, true, true, true, true, false, false, false, false, false, false, false, false, false, false, false, false, false, false, false, false, false, false, false, false, false, false, false, false, false, false, false, false, false]) rfl (by kernel_rfl) (by kernel_rfl) (by kernel_rfl) rfl ?_
  refine f_val rfl rfl rfl (by intro t_ w hw; exact x_pick_t (.bool true) rfl rfl w) ?_
  refine f_first 31 (listed' := #[true, true, true, true, true, true, true, true, true, true, true, true, true, true, true, true, true, true, true, true, true, true, true, true, true, true, true, true, true, true, true, true, false, false, false, false, false, false, false, false, false, false, false, false, false, false, false, false, false, false, false, false, false, false, false, false, false, false, false, false]) rfl (by kernel_rfl) (by kernel_rfl) (by kernel_rfl) rfl ?_
  refine f_val rfl rfl rfl (by intro t_ w hw; exact x_move (.bool true) rfl w) ?_
  refine f_first 32 (listed' := #[true, true, true, true, true, true, true, true, true, true, true, true, true, true, true, true, true, true, true, true, true, true, true, true, true, true, true, true, true, true, true, true, true, false, false, false, false, false, false, false, false, false, false, false, false, false, false, false, false, false, false, false, false, false, false, false, false, false, false, false]) rfl (by kernel_rfl) (by kernel_rfl) (by kernel_rfl) rfl ?_
  refine f_take rfl rfl ?_
  refine f_val rfl rfl rfl (by intro t_ w hw; exact x_move (.pointer (some ⟨g, 0, none⟩)) rfl w) ?_
  refine f_first 33 (listed' := #[true, true, true, true, true, true, true, true, true, true, true, true, true, true, true, true, true, true, true, true, true, true, true, true, true, true, true, true, true, true, true, true, true, true, false, false, false, false, false, false, false, false, false, false, false, false, false, false, false, false, false, false, false, false, false, false, false, false, false, false]) rfl (by kernel_rfl) (by kernel_rfl) (by kernel_rfl) rfl ?_
  refine f_take rfl rfl ?_
  refine f_enter (args := #[.pointer (some ⟨g, 0, none⟩)]) (v := .int .i64 (s.came : Int)) rfl rfl rfl (x_call pl_25 [.pointer (some ⟨g, 0, none⟩)] rfl) (fun t_ w hw => Lk_Came g s hv.ok (i := 0) rfl hw) ?_
  refine f_first 34 (listed' := #[true, true, true, true, true, true, true, true, true, true, true, true, true, true, true, true, true, true, true, true, true, true, true, true, true, true, true, true, true, true, true, true, true, true, true, false, false, false, false, false, false, false, false, false, false, false, false, false, false, false, false, false, false, false, false, false, false, false, false, false]) rfl (by kernel_rfl) (by kernel_rfl) (by kernel_rfl) rfl ?_
  refine f_take rfl rfl ?_
  refine f_val rfl rfl rfl (by intro t_ w hw; exact x_move (.pointer (some ⟨g2, 0, none⟩)) rfl w) ?_
  refine f_first 35 (listed' := #[true, true, true, true, true, true, true, true, true, true, true, true, true, true, true, true, true, true, true, true, true, true, true, true, true, true, true, true, true, true, true, true, true, true, true, true, false, false, false, false, false, false, false, false, false, false, false, false, false, false, false, false, false, false, false, false, false, false, false, false]) rfl (by kernel_rfl) (by kernel_rfl) (by kernel_rfl) rfl ?_
  refine f_take rfl rfl ?_
  refine f_val rfl rfl rfl (by intro t_ w hw; exact x_nilCheck (.pointer (some ⟨g2, 0, none⟩)) rfl ⟨_, rfl⟩ w) ?_
  refine f_first 36 (listed' := #[true, true, true, true, true, true, true, true, true, true, true, true, true, true, true, true, true, true, true, true, true, true, true, true, true, true, true, true, true, true, true, true, true, true, true, true, true, false, false, false, false, false, false, false, false, false, false, false, false, false, false, false, false, false, false, false, false, false, false, false]) rfl (by kernel_rfl) (by kernel_rfl) (by kernel_rfl) rfl ?_
  refine f_take rfl rfl ?_
  refine f_val rfl rfl rfl (by intro t_ w hw; exact x_fieldAddr 86 4 5 5 2 rfl fi_86_4 rfl w) ?_
  refine f_all (rs := [37]) (by kernel_rfl) (by simp) ?_
  refine a_cons ⟨_, rfl, ?_⟩ (fun x hx => absurd hx (by simp))
  intro w49 H50
  try dsimp only at H50
  refine r_take rfl rfl ?_
  have H51 := H50.move 1 rfl
  obtain ⟨⟨⟨pp52, cc53, L54, pp55, cc56, E57, A58⟩, hL59, hA60, hH61⟩, H62⟩ := St.open_ex H51
  have H63 := St.open_star H62
  change L54.map BodD.v = A58 ++ s.l at hL59; change A58.length = s.acked at hA60; change HR s.held (mapB E57) at hH61
  have hl64 := refLen hL59 hA60; have hh65 : E57.length = s.held.length := by have h9 := hH61.len; rw [mapB_len rfl] at h9; exact h9
  have H66 : St W w49 (blk g2 (.cells #[.int .i64 s.frm.v, .int .i64 s.to_.v, .int .i64 (s.slide : Int), .slice pp52 L54.length cc53, .int .i64 (s.acked : Int), .int .i64 ((i64N s.came).v), .slice pp55 E57.length cc56, .int .i64 (s.clock : Int), .bool s.owes] 86 (0, 0)) :: Row 101 3 (.slice pp52 L54.length cc53) L54.length (L54.flatMap bodCell) :: byA (L54.map BodD.by) :: Row 105 2 (.slice pp55 E57.length cc56) E57.length (E57.flatMap hlCell) :: byA (mby E57) :: LkA g s :: F) := H63
  refine s_load (.int .i64 ((i64N s.came).v)) ag_2 rfl (H66.blk_at (i := 0) rfl) rfl rfl ?_
  have H67 : St W w49 (RfA g2 s :: LkA g s :: F) := St.shut_ex ⟨⟨pp52, cc53, L54, pp55, cc56, E57, A58⟩, hL59, hA60, hH61⟩ (St.shut_star (ls := [blk g2 (.cells #[.int .i64 s.frm.v, .int .i64 s.to_.v, .int .i64 (s.slide : Int), .slice pp52 L54.length cc53, .int .i64 (s.acked : Int), .int .i64 ((i64N s.came).v), .slice pp55 E57.length cc56, .int .i64 (s.clock : Int), .bool s.owes] 86 (0, 0)), Row 101 3 (.slice pp52 L54.length cc53) L54.length (L54.flatMap bodCell), byA (L54.map BodD.by), Row 105 2 (.slice pp55 E57.length cc56) E57.length (E57.flatMap hlCell), byA (mby E57)]) H66)
  have H68 : St W w49 (LkA g s :: RfA g2 s :: F) := (H67.move 1 rfl)
  refine ⟨RfA g2 s :: F, ?_, H68⟩
  change FReg _ _ _ _ _ #[true, true, true, true, true, true, true, true, true, true, true, true, true, true, true, true, true, true, true, true, true, true, true, true, true, true, true, true, true, true, true, true, true, true, true, true, true, true, false, false, false, false, false, false, false, false, false, false, false, false, false, false, false, false, false, false, false, false, false, false] _ _
  refine f_first 38 (listed' := #[true, true, true, true, true, true, true, true, true, true, true, true, true, true, true, true, true, true, true, true, true, true, true, true, true, true, true, true, true, true, true, true, true, true, true, true, true, true, true, false, false, false, false, false, false, false, false, false, false, false, false, false, false, false, false, false, false, false, false, false]) rfl (by kernel_rfl) (by kernel_rfl) (by kernel_rfl) rfl ?_
  refine f_take rfl rfl ?_
  refine f_val rfl rfl rfl (by intro t_ w hw; exact x_eql true rfl rfl (dtrue (by rw [o7])) w) ?_
  refine f_first 39 (listed' := #[true, true, true, true, true, true, true, true, true, true, true, true, true, true, true, true, true, true, true, true, true, true, true, true, true, true, true, true, true, true, true, true, true, true, true, true, true, true, true, true, false, false, false, false, false, false, false, false, false, false, false, false, false, false, false, false, false, false, false, false]) rfl (by kernel_rfl) (by kernel_rfl) (by kernel_rfl) rfl ?_
  refine f_val rfl rfl rfl (by intro t_ w hw; exact x_pick_t (.bool true) rfl rfl w) ?_
  refine f_first 40 (listed' := #[true, true, true, true, true, true, true, true, true, true, true, true, true, true, true, true, true, true, true, true, true, true, true, true, true, true, true, true, true, true, true, true, true, true, true, true, true, true, true, true, true, false, false, false, false, false, false, false, false, false, false, false, false, false, false, false, false, false, false, false]) rfl (by kernel_rfl) (by kernel_rfl) (by kernel_rfl) rfl ?_
  refine f_val rfl rfl rfl (by intro t_ w hw; exact x_move (.bool true) rfl w) ?_
  refine f_first 41 (listed' := #[true, true, true, true, true, true, true, true, true, true, true, true, true, true, true, true, true, true, true, true, true, true, true, true, true, true, true, true, true, true, true, true, true, true, true, true, true, true, true, true, true, true, false, false, false, false, false, false, false, false, false, false, false, false, false, false, false, false, false, false]) rfl (by kernel_rfl) (by kernel_rfl) (by kernel_rfl) rfl ?_
  refine f_take rfl rfl ?_
  refine f_val rfl rfl rfl (by intro t_ w hw; exact x_move (.pointer (some ⟨g, 0, none⟩)) rfl w) ?_
  refine f_first 42 (listed' := #[true, true, true, true, true, true, true, true, true, true, true, true, true, true, true, true, true, true, true, true, true, true, true, true, true, true, true, true, true, true, true, true, true, true, true, true, true, true, true, true, true, true, true, false, false, false, false, false, false, false, false, false, false, false, false, false, false, false, false, false]) rfl (by kernel_rfl) (by kernel_rfl) (by kernel_rfl) rfl ?_
  refine f_take rfl rfl ?_
  refine f_enter (args := #[.pointer (some ⟨g, 0, none⟩)]) (v := .bool (idle s)) rfl rfl rfl (x_call pl_13 [.pointer (some ⟨g, 0, none⟩)] rfl) (fun t_ w hw => Lk_Idle g s hv.ok (i := 0) rfl hw) ?_
  refine f_first 43 (listed' := #[true, true, true, true, true, true, true, true, true, true, true, true, true, true, true, true, true, true, true, true, true, true, true, true, true, true, true, true, true, true, true, true, true, true, true, true, true, true, true, true, true, true, true, true, false, false, false, false, false, false, false, false, false, false, false, false, false, false, false, false]) rfl (by kernel_rfl) (by kernel_rfl) (by kernel_rfl) rfl ?_
  refine f_take rfl rfl ?_
  refine f_val rfl rfl rfl (by intro t_ w hw; exact x_move (.pointer (some ⟨g2, 0, none⟩)) rfl w) ?_
  refine f_all (rs := [44]) (by kernel_rfl) (by simp) ?_
  refine a_cons ⟨_, rfl, ?_⟩ (fun x hx => absurd hx (by simp))
  intro w69 H70
  try dsimp only at H70
  refine r_take rfl rfl ?_
  refine s_call [.pointer (some ⟨g2, 0, none⟩)] pl_44 rfl rfl (Rf_Idle g2 s hv.ok (i := 1) rfl H70) ?_
  rintro _ w71 ⟨rfl, H72⟩
  refine ⟨RfA g2 s :: F, ?_, H72⟩
  change FReg _ _ _ _ _ #[true, true, true, true, true, true, true, true, true, true, true, true, true, true, true, true, true, true, true, true, true, true, true, true, true, true, true, true, true, true, true, true, true, true, true, true, true, true, true, true, true, true, true, true, true, false, false, false, false, false, false, false, false, false, false, false, false, false, false, false] _ _
  refine f_first 45 (listed' := #[true, true, true, true, true, true, true, true, true, true, true, true, true, true, true, true, true, true, true, true, true, true, true, true, true, true, true, true, true, true, true, true, true, true, true, true, true, true, true, true, true, true, true, true, true, true, false, false, false, false, false, false, false, false, false, false, false, false, false, false]) rfl (by kernel_rfl) (by kernel_rfl) (by kernel_rfl) rfl ?_
  refine f_take rfl rfl ?_
  refine f_val rfl rfl rfl (by intro t_ w hw; exact x_beql (decide (idle s = idle s)) un_4 rfl rfl rfl w) ?_
  refine f_first 46 (listed' := #[true, true, true, true, true, true, true, true, true, true, true, true, true, true, true, true, true, true, true, true, true, true, true, true, true, true, true, true, true, true, true, true, true, true, true, true, true, true, true, true, true, true, true, true, true, true, true, false, false, false, false, false, false, false, false, false, false, false, false, false]) rfl (by kernel_rfl) (by kernel_rfl) (by kernel_rfl) rfl ?_
  refine f_val rfl rfl rfl (by intro t_ w hw; exact x_pick_t (.bool (decide (idle s = idle s))) rfl rfl w) ?_
  refine f_first 47 (listed' := #[true, true, true, true, true, true, true, true, true, true, true, true, true, true, true, true, true, true, true, true, true, true, true, true, true, true, true, true, true, true, true, true, true, true, true, true, true, true, true, true, true, true, true, true, true, true, true, true, false, false, false, false, false, false, false, false, false, false, false, false]) rfl (by kernel_rfl) (by kernel_rfl) (by kernel_rfl) rfl ?_
  refine f_val rfl rfl rfl (by intro t_ w hw; exact x_move (.bool (decide (idle s = idle s))) rfl w) ?_
  refine f_first 48 (listed' := #[true, true, true, true, true, true, true, true, true, true, true, true, true, true, true, true, true, true, true, true, true, true, true, true, true, true, true, true, true, true, true, true, true, true, true, true, true, true, true, true, true, true, true, true, true, true, true, true, true, false, false, false, false, false, false, false, false, false, false, false]) rfl (by kernel_rfl) (by kernel_rfl) (by kernel_rfl) rfl ?_
  refine f_take rfl (by exact congrArg some (decide_eq_true rfl)) ?_
  refine f_val rfl rfl rfl (by intro t_ w hw; exact x_move (.pointer (some ⟨g, 0, none⟩)) rfl w) ?_
  refine f_first 50 (listed' := #[true, true, true, true, true, true, true, true, true, true, true, true, true, true, true, true, true, true, true, true, true, true, true, true, true, true, true, true, true, true, true, true, true, true, true, true, true, true, true, true, true, true, true, true, true, true, true, true, true, false, true, false, false, false, false, false, false, false, false, false]) rfl (by kernel_rfl) (by kernel_rfl) (by kernel_rfl) rfl ?_
  refine f_take rfl (by exact congrArg some (decide_eq_true rfl)) ?_
  refine f_val rfl rfl rfl (by intro t_ w hw; exact x_move (.pointer (some ⟨g2, 0, none⟩)) rfl w) ?_
  refine f_all (rs := [49]) (by kernel_rfl) (by simp) ?_
  refine a_cons ⟨_, rfl, ?_⟩ (fun x hx => absurd hx (by simp))
  intro w73 H74
  try dsimp only at H74
  refine r_take rfl (by exact congrArg some (decide_eq_true rfl)) ?_
  refine s_call [.pointer (some ⟨g, 0, none⟩)] pl_28 rfl rfl (Lk_Held g H74) ?_
  rintro _ w76 ⟨bk75, rfl, H77⟩
  have H78 : St W w76 (LkA g s :: imm bk75 (.cells #[.pointer (some ⟨g, 0, none⟩)] 30 (0, 0)) :: RfA g2 s :: F) := (((H77.move 2 rfl).move 1 rfl).move 2 rfl)
  refine ⟨imm bk75 (.cells #[.pointer (some ⟨g, 0, none⟩)] 30 (0, 0)) :: RfA g2 s :: F, ?_, H78⟩
  change FReg _ _ _ _ _ #[true, true, true, true, true, true, true, true, true, true, true, true, true, true, true, true, true, true, true, true, true, true, true, true, true, true, true, true, true, true, true, true, true, true, true, true, true, true, true, true, true, true, true, true, true, true, true, true, true, true, true, false, false, false, false, false, false, false, false, false] _ _
  refine f_all (rs := [51]) (by kernel_rfl) (by simp) ?_
  refine a_cons ⟨_, rfl, ?_⟩ (fun x hx => absurd hx (by simp))
  intro w79 H80
  try dsimp only at H80
  refine r_take rfl (by exact congrArg some (decide_eq_true rfl)) ?_
  have H81 : St W w79 (LkA g s :: RfA g2 s :: imm bk75 (.cells #[.pointer (some ⟨g, 0, none⟩)] 30 (0, 0)) :: F) := (((H80.move 1 rfl).move 2 rfl).move 2 rfl)
  refine s_call [.func (.func 50) #[] #[.pointer (some ⟨bk75, 0, none⟩)], .pointer (some ⟨g2, 0, none⟩), .int .i64 0] pl_45 rfl rfl (held_0 g bk75 g2 s hv hN0 H81) ?_
  rintro _ w82 ⟨rfl, H83⟩
  refine ⟨RfA g2 s :: F, ?_, H83⟩
  change FReg _ _ _ _ _ #[true, true, true, true, true, true, true, true, true, true, true, true, true, true, true, true, true, true, true, true, true, true, true, true, true, true, true, true, true, true, true, true, true, true, true, true, true, true, true, true, true, true, true, true, true, true, true, true, true, true, true, true, false, false, false, false, false, false, false, false] _ _
  refine f_first 52 (listed' := #[true, true, true, true, true, true, true, true, true, true, true, true, true, true, true, true, true, true, true, true, true, true, true, true, true, true, true, true, true, true, true, true, true, true, true, true, true, true, true, true, true, true, true, true, true, true, true, true, true, true, true, true, true, false, false, false, false, false, false, false]) rfl (by kernel_rfl) (by kernel_rfl) (by kernel_rfl) rfl ?_
  refine f_val rfl rfl rfl (by intro t_ w hw; exact x_pick_t (.bool true) (by exact congrArg Value.bool (decide_eq_true rfl)) rfl w) ?_
  refine f_first 53 (listed' := #[true, true, true, true, true, true, true, true, true, true, true, true, true, true, true, true, true, true, true, true, true, true, true, true, true, true, true, true, true, true, true, true, true, true, true, true, true, true, true, true, true, true, true, true, true, true, true, true, true, true, true, true, true, true, false, false, false, false, false, false]) rfl (by kernel_rfl) (by kernel_rfl) (by kernel_rfl) rfl ?_
  refine f_val rfl rfl rfl (by intro t_ w hw; exact x_move (.bool true) rfl w) ?_
  refine f_first 54 (listed' := #[true, true, true, true, true, true, true, true, true, true, true, true, true, true, true, true, true, true, true, true, true, true, true, true, true, true, true, true, true, true, true, true, true, true, true, true, true, true, true, true, true, true, true, true, true, true, true, true, true, true, true, true, true, true, true, false, false, false, false, false]) rfl (by kernel_rfl) (by kernel_rfl) (by kernel_rfl) rfl ?_
  refine f_take rfl rfl ?_
  refine f_val rfl rfl rfl (by intro t_ w hw; exact x_move (.pointer (some ⟨g, 0, none⟩)) rfl w) ?_
  refine f_first 56 (listed' := #[true, true, true, true, true, true, true, true, true, true, true, true, true, true, true, true, true, true, true, true, true, true, true, true, true, true, true, true, true, true, true, true, true, true, true, true, true, true, true, true, true, true, true, true, true, true, true, true, true, true, true, true, true, true, true, false, true, false, false, false]) rfl (by kernel_rfl) (by kernel_rfl) (by kernel_rfl) rfl ?_
  refine f_take rfl rfl ?_
  refine f_val rfl rfl rfl (by intro t_ w hw; exact x_move (.pointer (some ⟨g2, 0, none⟩)) rfl w) ?_
  refine f_all (rs := [55]) (by kernel_rfl) (by simp) ?_
  refine a_cons ⟨_, rfl, ?_⟩ (fun x hx => absurd hx (by simp))
  intro w84 H85
  try dsimp only at H85
  refine r_take rfl rfl ?_
  refine s_call [.pointer (some ⟨g, 0, none⟩)] pl_28 rfl rfl (Lk_Held g H85) ?_
  rintro _ w87 ⟨bk86, rfl, H88⟩
  have H89 : St W w87 (LkA g s :: imm bk86 (.cells #[.pointer (some ⟨g, 0, none⟩)] 30 (0, 0)) :: RfA g2 s :: F) := (((H88.move 2 rfl).move 1 rfl).move 2 rfl)
  refine ⟨imm bk86 (.cells #[.pointer (some ⟨g, 0, none⟩)] 30 (0, 0)) :: RfA g2 s :: F, ?_, H89⟩
  change FReg _ _ _ _ _ #[true, true, true, true, true, true, true, true, true, true, true, true, true, true, true, true, true, true, true, true, true, true, true, true, true, true, true, true, true, true, true, true, true, true, true, true, true, true, true, true, true, true, true, true, true, true, true, true, true, true, true, true, true, true, true, true, true, false, false, false] _ _
  refine f_all (rs := [57]) (by kernel_rfl) (by simp) ?_
  refine a_cons ⟨_, rfl, ?_⟩ (fun x hx => absurd hx (by simp))
  intro w90 H91
  try dsimp only at H91
  refine r_take rfl rfl ?_
  have H92 : St W w90 (LkA g s :: RfA g2 s :: imm bk86 (.cells #[.pointer (some ⟨g, 0, none⟩)] 30 (0, 0)) :: F) := (((H91.move 1 rfl).move 2 rfl).move 2 rfl)
  refine s_call [.func (.func 50) #[] #[.pointer (some ⟨bk86, 0, none⟩)], .pointer (some ⟨g2, 0, none⟩), .int .i64 1] pl_45 rfl rfl (held_1 g bk86 g2 s hv hN0 H92) ?_
  rintro _ w93 ⟨rfl, H94⟩
  refine ⟨RfA g2 s :: F, ?_, H94⟩
  change FReg _ _ _ _ _ #[true, true, true, true, true, true, true, true, true, true, true, true, true, true, true, true, true, true, true, true, true, true, true, true, true, true, true, true, true, true, true, true, true, true, true, true, true, true, true, true, true, true, true, true, true, true, true, true, true, true, true, true, true, true, true, true, true, true, false, false] _ _
  refine f_first 58 (listed' := #[true, true, true, true, true, true, true, true, true, true, true, true, true, true, true, true, true, true, true, true, true, true, true, true, true, true, true, true, true, true, true, true, true, true, true, true, true, true, true, true, true, true, true, true, true, true, true, true, true, true, true, true, true, true, true, true, true, true, true, false]) rfl (by kernel_rfl) (by kernel_rfl) (by kernel_rfl) rfl ?_
  refine f_val rfl rfl rfl (by intro t_ w hw; exact x_pick_t (.bool true) rfl rfl w) ?_
  refine f_first 59 (listed' := #[true, true, true, true, true, true, true, true, true, true, true, true, true, true, true, true, true, true, true, true, true, true, true, true, true, true, true, true, true, true, true, true, true, true, true, true, true, true, true, true, true, true, true, true, true, true, true, true, true, true, true, true, true, true, true, true, true, true, true, true]) rfl (by kernel_rfl) (by kernel_rfl) (by kernel_rfl) rfl ?_
  refine f_val rfl rfl rfl (by intro t_ w hw; exact x_assign (.bool true) rfl w) ?_
  refine f_done (by kernel_rfl) ?_
  intro w95 H96
  refine g_ret' [.bool true] Try.func20 Try.results20 ⟨rfl, trivial⟩ ?_
  have H97 : St W w95 (LkA g s :: RfA g2 s :: F) := ((H96.move 1 rfl).move 1 rfl)
  exact ⟨rfl, H97⟩
set_option maxHeartbeats 4000000 in
set_option maxRecDepth 100000 in
theorem LinkDoes_yes {W w : World} {F : List Atom} (f t n : I64) (l : List LOpD) (u : Value) (hlen : l.length < 4611686018427387904) (hok : newOk f.v t.v n.v) {j a : Nat} (hj : F[j]? = some (Im 8 u l.length (l.flatMap lopCell))) (ha : F[a]? = some (byA (lopBy l))) (H : St W w F) : Calls Try.prog 5 #[.agg #[.int .i64 f.v, .int .i64 t.v], .int .i64 n.v, u] w (Ret fun v w' => v = .bool true ∧ St W w' F) := by
  obtain ⟨pp1, cc2, rfl, hsh3⟩ := Rd.shape (Im.rd H (i := j) hj)
  have H4 := H.dup (i := j) hj (Im_pers _ _ _ _)
  have hmlH4 := Im.len H4 (i := 0) rfl
  have hH9 := H4.dup (i := a + 1) (by exact ha) (byA_pers _)
  have H5 : St W w (byA (lopBy l) :: Im 8 (.slice pp1 l.length cc2) l.length (l.flatMap lopCell) :: F) := hH9
  refine calls_of_go (n := 59) Try.func5 rfl Try.ntmps5 rfl ?_
  refine g_seq ?_
  refine g_region ?_
  refine r_cons (s_box H5 46 (.agg #[.int .i64 f.v, .int .i64 t.v]) rfl (cs := #[.int .i64 f.v, .int .i64 t.v]) rfl rfl ?_); intro bk6 w7 H8
  refine r_cons (s_assign (.bool false) rfl rfl ?_)
  refine r_nil ?_
  refine g_seq ?_
  refine g_region ?_
  refine r_cons (s_loadAgg [.int .i64 f.v, .int .i64 t.v] 2 ag_46 rfl (H8.blk_at (i := 0) rfl) (Nat.le_of_ble_eq_true rfl) rfl rfl ?_)
  refine r_cons (s_move (.int .i64 n.v) rfl rfl ?_)
  refine r_cons (s_call [.agg #[.int .i64 f.v, .int .i64 t.v], .int .i64 n.v] pl_17 rfl rfl (Link_NewI f t n hok H8) ?_)
  rintro _ w10 ⟨bk9, rfl, H11⟩
  refine r_cons (s_move (.tuple #[.pointer (some ⟨bk9, 0, none⟩), .int .i64 0]) rfl rfl ?_)
  refine r_cons (s_extract (.pointer (some ⟨bk9, 0, none⟩)) #[.pointer (some ⟨bk9, 0, none⟩), .int .i64 0] rfl rfl rfl ?_)
  refine r_cons (s_extract (.int .i64 0) #[.pointer (some ⟨bk9, 0, none⟩), .int .i64 0] rfl rfl rfl ?_)
  refine r_cons (s_assign (.pointer (some ⟨bk9, 0, none⟩)) rfl rfl ?_)
  refine r_cons (s_assign (.int .i64 0) rfl rfl ?_)
  refine r_nil ?_
  refine g_seq ?_
  refine g_region ?_
  refine r_cons (s_loadAgg [.int .i64 f.v, .int .i64 t.v] 2 ag_46 rfl (H11.blk_at (i := 1) rfl) (Nat.le_of_ble_eq_true rfl) rfl rfl ?_)
  refine r_cons (s_move (.int .i64 n.v) rfl rfl ?_)
  refine r_cons (s_call [.agg #[.int .i64 f.v, .int .i64 t.v], .int .i64 n.v] pl_18 rfl rfl (Ref_NewI f t n hok H11) ?_)
  rintro _ w13 ⟨bk12, rfl, H14⟩
  refine r_cons (s_move (.tuple #[.pointer (some ⟨bk12, 0, none⟩), .int .i64 0]) rfl rfl ?_)
  refine r_cons (s_extract (.pointer (some ⟨bk12, 0, none⟩)) #[.pointer (some ⟨bk12, 0, none⟩), .int .i64 0] rfl rfl rfl ?_)
  refine r_cons (s_extract (.int .i64 0) #[.pointer (some ⟨bk12, 0, none⟩), .int .i64 0] rfl rfl rfl ?_)
  refine r_cons (s_assign (.pointer (some ⟨bk12, 0, none⟩)) rfl rfl ?_)
  refine r_cons (s_assign (.int .i64 0) rfl rfl ?_)
  refine r_nil ?_
  refine g_seq ?_
  refine g_seq ?_
  refine g_region ?_
  refine r_cons (s_call [] pl_8 rfl rfl (live_ H14) ?_)
  rintro _ w15 ⟨rfl, H16⟩
  refine r_cons (s_not true rfl false rfl rfl ?_)
  refine r_cons (s_move (.bool false) rfl rfl ?_)
  refine r_cons (r_take rfl rfl ?_)
  refine s_move (.int .i64 0) rfl rfl ?_
  refine r_cons (r_take rfl rfl ?_)
  refine s_move (.int .i64 0) rfl rfl ?_
  refine r_cons (r_take rfl rfl ?_)
  refine s_neq false rfl rfl (ntrue (by decide)) rfl ?_
  refine r_cons (s_pick_f (.bool false) rfl rfl rfl ?_)
  refine r_cons (s_move (.bool false) rfl rfl ?_)
  refine r_cons (r_take rfl rfl ?_)
  refine s_move (.pointer (some ⟨bk9, 0, none⟩)) rfl rfl ?_
  refine r_cons (r_take rfl rfl ?_)
  refine s_pneq true un_30 rfl rfl rfl rfl ?_
  refine r_cons (r_take rfl rfl ?_)
  refine s_move (.int .i64 0) rfl rfl ?_
  refine r_cons (r_take rfl rfl ?_)
  refine s_eql true rfl rfl (dtrue (by decide)) rfl ?_
  refine r_cons (r_take rfl rfl ?_)
  refine s_bneq false un_4 rfl rfl (ntrue rfl) rfl ?_
  refine r_cons (s_pick_f (.bool false) rfl rfl rfl ?_)
  refine r_nil ?_
  refine g_false rfl ?_
  refine g_skip ?_
  refine g_seq ?_
  refine g_seq ?_
  refine g_region ?_
  refine r_cons (s_move (.int .i64 0) rfl rfl ?_)
  refine r_cons (s_neq false rfl rfl (ntrue (by decide)) rfl ?_)
  refine r_nil ?_
  refine g_false rfl ?_
  refine g_skip ?_
  refine g_seq ?_
  refine g_seq ?_
  refine g_region ?_
  refine r_cons (s_move (.slice pp1 l.length cc2) rfl rfl ?_)
  refine r_cons (s_len l.length rfl ⟨_, un_47⟩ rfl ?_)
  refine r_cons (s_move (.int .i64 0) rfl rfl ?_)
  refine r_nil ?_
  refine g_block ?_
  obtain ⟨pA17, cA18, gA19, oA20, kA21, eA22, zA23, he29, hn24, hp25, hx26, hs27, hml, H28⟩ := Im.open_ H16 (i := 4) rfl
  obtain ⟨rfl, rfl⟩ : pp1 = pA17 ∧ cc2 = cA18 := by injection he29 with a_ b_ c_; exact ⟨a_, c_⟩
  have H30 : St W w15 (LkA bk9 (newS f t n.v.toNat) :: RfA bk12 (newS f t n.v.toNat) :: imi (0 < l.length) gA19 (.cells kA21 eA22 zA23) :: byA (lopBy l) :: F) := ((((((H28.move 4 rfl).move 1 rfl).move 2 rfl).move 3 rfl).drop 4 rfl).drop 4 rfl)
  have H31 : St W w15 (LkA bk9 (newS f t n.v.toNat) :: RfA bk12 (newS f t n.v.toNat) :: imi (0 < l.length) gA19 (.cells kA21 eA22 zA23) :: byA (lopBy l) :: F) := H30
  refine g_loop_inv (fun (x_ : Nat × EndV) => match x_ with | (k, s) => [(6, .bool false), (7, .pointer (some ⟨bk9, 0, none⟩)), (9, .pointer (some ⟨bk12, 0, none⟩)), (41, .slice pp1 l.length cc2), (42, .int .i64 (l.length : Int)), (43, .int .i64 (k : Int))]) (fun (x_ : Nat × EndV) w => match x_ with | (k, s) => (k ≤ l.length) ∧ (DInv k s) ∧ St W w (LkA bk9 s :: RfA bk12 s :: imi (0 < l.length) gA19 (.cells kA21 eA22 zA23) :: byA (lopBy l) :: F)) (fun (x_ : Nat × EndV) => match x_ with | (k, s) => l.length - k) (0, (newS f t n.v.toNat)) ?_ ?_ ?_
  · exact ⟨by first | rfl | exact vint (by omega), by first | rfl | exact vint (by omega), by first | rfl | exact vint (by omega), by first | rfl | exact vint (by omega), by first | rfl | exact vint (by omega), by first | rfl | exact vint (by omega), trivial⟩
  · exact ⟨(by omega), (DInv.new (by have h9 := hok.2.2.2.1; omega) (by have h9 := hok.2.2.2.2; omega)), H31⟩
  · rintro ⟨k, s⟩ ρ32 w33 ⟨hkn, hD, H34⟩ nx35
    change Ends _ _ (upds ρ32 [(6, .bool false), (7, .pointer (some ⟨bk9, 0, none⟩)), (9, .pointer (some ⟨bk12, 0, none⟩)), (41, .slice pp1 l.length cc2), (42, .int .i64 (l.length : Int)), (43, .int .i64 (k : Int))]) w33
    refine g_seq ?_
    refine g_region ?_
    by_cases hc36 : (k : Int) < (l.length : Int)
    · skip
      refine r_cons (s_lss true rfl rfl (dtrue hc36) rfl ?_)
      refine r_nil ?_
      refine g_seq ?_
      refine g_true rfl ?_
      refine g_skip ?_
      refine g_seq ?_
      refine g_block ?_
      refine g_seq ?_
      refine g_region ?_
      refine r_cons (s_indexAddr gA19 (off := oA20) (k : Int) 8 (oA20 + k * 8) (by exact congrArg (fun z_ => Value.slice z_ l.length cc2) (hp25 (by omega))) rfl el_47 (by omega) rfl rfl ?_)
      refine r_cons (s_loadAgg [.int .i64 ((l.getD k default).v.do_.v), .slice ((l.getD k default).p) ((l.getD k default).v.body.length) ((l.getD k default).c), .int .i64 ((l.getD k default).v.dgm.frm.v), .int .i64 ((l.getD k default).v.dgm.to_.v), .int .i64 ((l.getD k default).v.dgm.kind.v), .int .i64 ((l.getD k default).v.dgm.seq.v), .int .i64 ((l.getD k default).v.dgm.ack.v), .slice ((l.getD k default).p2) ((l.getD k default).v.dgm.body.length) ((l.getD k default).c2)] 8 ag_55 rfl (H34.imi_at (i := 2) rfl (by omega)) (by have := elem_size (i := k) (s := 8) (hs27 (by omega)) (by omega); omega) (elem_take lopCell_len (hx26 (by omega)) (by omega) default) rfl ?_)
      refine r_cons (s_alloc H34 55 ze_55 rfl ?_); intro bk37 w38 H39
      refine r_cons (s_storeAgg H39 0 #[.int .i64 ((l.getD k default).v.do_.v), .slice ((l.getD k default).p) ((l.getD k default).v.body.length) ((l.getD k default).c), .int .i64 ((l.getD k default).v.dgm.frm.v), .int .i64 ((l.getD k default).v.dgm.to_.v), .int .i64 ((l.getD k default).v.dgm.kind.v), .int .i64 ((l.getD k default).v.dgm.seq.v), .int .i64 ((l.getD k default).v.dgm.ack.v), .slice ((l.getD k default).p2) ((l.getD k default).v.dgm.body.length) ((l.getD k default).c2)] 8 rfl rfl rfl sz_55 rfl (by simp [Value.oneCell']) (Nat.le_of_ble_eq_true rfl) (fun o h1 h2 => by first | (simp; done) | (simp; omega)) (cs' := #[.int .i64 ((l.getD k default).v.do_.v), .slice ((l.getD k default).p) ((l.getD k default).v.body.length) ((l.getD k default).c), .int .i64 ((l.getD k default).v.dgm.frm.v), .int .i64 ((l.getD k default).v.dgm.to_.v), .int .i64 ((l.getD k default).v.dgm.kind.v), .int .i64 ((l.getD k default).v.dgm.seq.v), .int .i64 ((l.getD k default).v.dgm.ack.v), .slice ((l.getD k default).p2) ((l.getD k default).v.dgm.body.length) ((l.getD k default).c2)]) rfl ?_); intro w40 H41
      refine r_nil ?_
      refine g_seq ?_
      refine g_region ?_
      have H42 : St W w40 (Im 1 (.slice ((l.getD k default).p) ((l.getD k default).v.body.length) ((l.getD k default).c)) (((l.getD k default).v.body).length) (((l.getD k default).v.body).flatMap u8c) :: blk bk37 (.cells #[.int .i64 ((l.getD k default).v.do_.v), .slice ((l.getD k default).p) ((l.getD k default).v.body.length) ((l.getD k default).c), .int .i64 ((l.getD k default).v.dgm.frm.v), .int .i64 ((l.getD k default).v.dgm.to_.v), .int .i64 ((l.getD k default).v.dgm.kind.v), .int .i64 ((l.getD k default).v.dgm.seq.v), .int .i64 ((l.getD k default).v.dgm.ack.v), .slice ((l.getD k default).p2) ((l.getD k default).v.dgm.body.length) ((l.getD k default).c2)] 55 (0, 0)) :: LkA bk9 s :: RfA bk12 s :: imi (0 < l.length) gA19 (.cells kA21 eA22 zA23) :: byA (lopBy l) :: F) := byA_at H41 (i := 4) rfl (lop_at1 (k := k) (by omega))
      have H43 : St W w40 (Im 1 (.slice ((l.getD k default).p2) ((l.getD k default).v.dgm.body.length) ((l.getD k default).c2)) (((l.getD k default).v.dgm.body).length) (((l.getD k default).v.dgm.body).flatMap u8c) :: Im 1 (.slice ((l.getD k default).p) ((l.getD k default).v.body.length) ((l.getD k default).c)) (((l.getD k default).v.body).length) (((l.getD k default).v.body).flatMap u8c) :: blk bk37 (.cells #[.int .i64 ((l.getD k default).v.do_.v), .slice ((l.getD k default).p) ((l.getD k default).v.body.length) ((l.getD k default).c), .int .i64 ((l.getD k default).v.dgm.frm.v), .int .i64 ((l.getD k default).v.dgm.to_.v), .int .i64 ((l.getD k default).v.dgm.kind.v), .int .i64 ((l.getD k default).v.dgm.seq.v), .int .i64 ((l.getD k default).v.dgm.ack.v), .slice ((l.getD k default).p2) ((l.getD k default).v.dgm.body.length) ((l.getD k default).c2)] 55 (0, 0)) :: LkA bk9 s :: RfA bk12 s :: imi (0 < l.length) gA19 (.cells kA21 eA22 zA23) :: byA (lopBy l) :: F) := byA_at H42 (i := 5) rfl (lop_at2 (k := k) (by omega))
      have hD2 := hD.do (by omega) (l.getD k default).v
      refine r_cons (s_move (.pointer (some ⟨bk9, 0, none⟩)) rfl rfl ?_)
      refine r_cons (s_move (.pointer (some ⟨bk12, 0, none⟩)) rfl rfl ?_)
      refine r_cons (s_loadAgg [.int .i64 ((l.getD k default).v.do_.v), .slice ((l.getD k default).p) ((l.getD k default).v.body.length) ((l.getD k default).c), .int .i64 ((l.getD k default).v.dgm.frm.v), .int .i64 ((l.getD k default).v.dgm.to_.v), .int .i64 ((l.getD k default).v.dgm.kind.v), .int .i64 ((l.getD k default).v.dgm.seq.v), .int .i64 ((l.getD k default).v.dgm.ack.v), .slice ((l.getD k default).p2) ((l.getD k default).v.dgm.body.length) ((l.getD k default).c2)] 8 ag_55 rfl (H43.blk_at (i := 2) rfl) (Nat.le_of_ble_eq_true rfl) rfl rfl ?_)
      have H44 : St W w40 (LkA bk9 s :: RfA bk12 s :: Im 1 (.slice ((l.getD k default).p2) ((l.getD k default).v.dgm.body.length) ((l.getD k default).c2)) (((l.getD k default).v.dgm.body).length) (((l.getD k default).v.dgm.body).flatMap u8c) :: Im 1 (.slice ((l.getD k default).p) ((l.getD k default).v.body.length) ((l.getD k default).c)) (((l.getD k default).v.body).length) (((l.getD k default).v.body).flatMap u8c) :: blk bk37 (.cells #[.int .i64 ((l.getD k default).v.do_.v), .slice ((l.getD k default).p) ((l.getD k default).v.body.length) ((l.getD k default).c), .int .i64 ((l.getD k default).v.dgm.frm.v), .int .i64 ((l.getD k default).v.dgm.to_.v), .int .i64 ((l.getD k default).v.dgm.kind.v), .int .i64 ((l.getD k default).v.dgm.seq.v), .int .i64 ((l.getD k default).v.dgm.ack.v), .slice ((l.getD k default).p2) ((l.getD k default).v.dgm.body.length) ((l.getD k default).c2)] 55 (0, 0)) :: imi (0 < l.length) gA19 (.cells kA21 eA22 zA23) :: byA (lopBy l) :: F) := ((H43.move 4 rfl).move 4 rfl)
      refine r_cons (s_call [.pointer (some ⟨bk9, 0, none⟩), .pointer (some ⟨bk12, 0, none⟩), .agg #[.int .i64 ((l.getD k default).v.do_.v), .slice ((l.getD k default).p) ((l.getD k default).v.body.length) ((l.getD k default).c), .int .i64 ((l.getD k default).v.dgm.frm.v), .int .i64 ((l.getD k default).v.dgm.to_.v), .int .i64 ((l.getD k default).v.dgm.kind.v), .int .i64 ((l.getD k default).v.dgm.seq.v), .int .i64 ((l.getD k default).v.dgm.ack.v), .slice ((l.getD k default).p2) ((l.getD k default).v.dgm.body.length) ((l.getD k default).c2)]] pl_19 rfl rfl (does_ bk9 bk12 k s ((l.getD k default).v) (.slice ((l.getD k default).p) ((l.getD k default).v.body.length) ((l.getD k default).c)) (.slice ((l.getD k default).p2) ((l.getD k default).v.dgm.body.length) ((l.getD k default).c2)) hD (by omega) (j := 1) (k := 0) rfl rfl H44) ?_)
      rintro _ w45 ⟨rfl, H46⟩
      refine r_cons (s_not true rfl false rfl rfl ?_)
      refine r_cons (s_move (.bool false) rfl rfl ?_)
      refine r_cons (r_take rfl rfl ?_)
      refine s_move (.pointer (some ⟨bk9, 0, none⟩)) rfl rfl ?_
      refine r_cons (r_take rfl rfl ?_)
      refine s_move (.pointer (some ⟨bk12, 0, none⟩)) rfl rfl ?_
      refine r_cons (r_take rfl rfl ?_)
      refine s_call [.pointer (some ⟨bk9, 0, none⟩), .pointer (some ⟨bk12, 0, none⟩)] pl_20 rfl rfl (same_ bk9 bk12 (doS s ((l.getD k default).v)) hD2.i (by have h9 := hD2.i.heldN; omega) H46) ?_
      rintro _ w47 ⟨rfl, H48⟩
      refine r_cons (r_take rfl rfl ?_)
      refine s_not true rfl false rfl rfl ?_
      refine r_cons (s_pick_f (.bool false) rfl rfl rfl ?_)
      refine r_nil ?_
      refine g_false rfl ?_
      refine g_skip ?_
      refine g_inBlock ?_
      refine g_region ?_
      refine r_cons (s_add ((k : Int) + 1) rfl rfl (wi64 (by omega)) rfl ?_)
      refine r_cons (s_move (.int .i64 ((k : Int) + 1)) rfl rfl ?_)
      refine r_nil ?_
      have H49 : St W w47 (LkA bk9 (doS s ((l.getD k default).v)) :: RfA bk12 (doS s ((l.getD k default).v)) :: imi (0 < l.length) gA19 (.cells kA21 eA22 zA23) :: byA (lopBy l) :: F) := (((((((H48.move 6 rfl).move 6 rfl).move 3 rfl).move 3 rfl).drop 4 rfl).drop 4 rfl).drop 4 rfl)
      exact nx35 (k + 1, (doS s (l.getD k default).v)) _ _ ⟨(by omega), hD2, H49⟩ (by first | (dsimp only; omega) | omega) ⟨by first | rfl | exact vint (by omega), by first | rfl | exact vint (by omega), by first | rfl | exact vint (by omega), by first | rfl | exact vint (by omega), by first | rfl | exact vint (by omega), by first | rfl | exact vint (by omega), trivial⟩
    · skip
      refine r_cons (s_lss false rfl rfl (dfalse hc36) rfl ?_)
      refine r_nil ?_
      refine g_seq ?_
      refine g_false rfl ?_
      refine g_exit (by rfl) ?_
      refine g_seq ?_
      refine g_region ?_
      refine r_cons (s_assign (.bool true) rfl rfl ?_)
      refine r_nil ?_
      refine g_ret' [.bool true] Try.func5 Try.results5 ⟨rfl, trivial⟩ ?_
      have H50 : St W w33 F := ((((H34.drop 0 rfl).drop 0 rfl).drop 0 rfl).drop 0 rfl)
      exact ⟨rfl, H50⟩
set_option maxHeartbeats 4000000 in
set_option maxRecDepth 100000 in
theorem LinkDoes_no {W w : World} {F : List Atom} (f t n : I64) (l : List LOpD) (u : Value) (hlen : l.length < 4611686018427387904) (hno : ¬ newOk f.v t.v n.v) {j a : Nat} (hj : F[j]? = some (Im 8 u l.length (l.flatMap lopCell))) (ha : F[a]? = some (byA (lopBy l))) (H : St W w F) : Calls Try.prog 5 #[.agg #[.int .i64 f.v, .int .i64 t.v], .int .i64 n.v, u] w (Ret fun v w' => v = .bool true ∧ St W w' F) := by
  obtain ⟨pp1, cc2, rfl, hsh3⟩ := Rd.shape (Im.rd H (i := j) hj)
  have H4 := H.dup (i := j) hj (Im_pers _ _ _ _)
  have hmlH4 := Im.len H4 (i := 0) rfl
  have hH9 := H4.dup (i := a + 1) (by exact ha) (byA_pers _)
  have H5 : St W w (byA (lopBy l) :: Im 8 (.slice pp1 l.length cc2) l.length (l.flatMap lopCell) :: F) := hH9
  refine calls_of_go (n := 59) Try.func5 rfl Try.ntmps5 rfl ?_
  refine g_seq ?_
  refine g_region ?_
  refine r_cons (s_box H5 46 (.agg #[.int .i64 f.v, .int .i64 t.v]) rfl (cs := #[.int .i64 f.v, .int .i64 t.v]) rfl rfl ?_); intro bk6 w7 H8
  refine r_cons (s_assign (.bool false) rfl rfl ?_)
  refine r_nil ?_
  refine g_seq ?_
  refine g_region ?_
  refine r_cons (s_loadAgg [.int .i64 f.v, .int .i64 t.v] 2 ag_46 rfl (H8.blk_at (i := 0) rfl) (Nat.le_of_ble_eq_true rfl) rfl rfl ?_)
  refine r_cons (s_move (.int .i64 n.v) rfl rfl ?_)
  refine r_cons (s_call [.agg #[.int .i64 f.v, .int .i64 t.v], .int .i64 n.v] pl_17 rfl rfl (Link_New_no f t n hno H8) ?_)
  rintro _ w9 ⟨rfl, H10⟩
  refine r_cons (s_move (.tuple #[.pointer none, .int .i64 1]) rfl rfl ?_)
  refine r_cons (s_extract (.pointer none) #[.pointer none, .int .i64 1] rfl rfl rfl ?_)
  refine r_cons (s_extract (.int .i64 1) #[.pointer none, .int .i64 1] rfl rfl rfl ?_)
  refine r_cons (s_assign (.pointer none) rfl rfl ?_)
  refine r_cons (s_assign (.int .i64 1) rfl rfl ?_)
  refine r_nil ?_
  refine g_seq ?_
  refine g_region ?_
  refine r_cons (s_loadAgg [.int .i64 f.v, .int .i64 t.v] 2 ag_46 rfl (H10.blk_at (i := 0) rfl) (Nat.le_of_ble_eq_true rfl) rfl rfl ?_)
  refine r_cons (s_move (.int .i64 n.v) rfl rfl ?_)
  refine r_cons (s_call [.agg #[.int .i64 f.v, .int .i64 t.v], .int .i64 n.v] pl_18 rfl rfl (Ref_New_no f t n hno H10) ?_)
  rintro _ w11 ⟨rfl, H12⟩
  refine r_cons (s_move (.tuple #[.pointer none, .int .i64 1]) rfl rfl ?_)
  refine r_cons (s_extract (.pointer none) #[.pointer none, .int .i64 1] rfl rfl rfl ?_)
  refine r_cons (s_extract (.int .i64 1) #[.pointer none, .int .i64 1] rfl rfl rfl ?_)
  refine r_cons (s_assign (.pointer none) rfl rfl ?_)
  refine r_cons (s_assign (.int .i64 1) rfl rfl ?_)
  refine r_nil ?_
  refine g_seq ?_
  refine g_seq ?_
  refine g_region ?_
  refine r_cons (s_call [] pl_8 rfl rfl (live_ H12) ?_)
  rintro _ w13 ⟨rfl, H14⟩
  refine r_cons (s_not true rfl false rfl rfl ?_)
  refine r_cons (s_move (.bool false) rfl rfl ?_)
  refine r_cons (r_take rfl rfl ?_)
  refine s_move (.int .i64 1) rfl rfl ?_
  refine r_cons (r_take rfl rfl ?_)
  refine s_move (.int .i64 1) rfl rfl ?_
  refine r_cons (r_take rfl rfl ?_)
  refine s_neq false rfl rfl (ntrue (by decide)) rfl ?_
  refine r_cons (s_pick_f (.bool false) rfl rfl rfl ?_)
  refine r_cons (s_move (.bool false) rfl rfl ?_)
  refine r_cons (r_take rfl rfl ?_)
  refine s_move (.pointer none) rfl rfl ?_
  refine r_cons (r_take rfl rfl ?_)
  refine s_pneq false un_30 rfl rfl rfl rfl ?_
  refine r_cons (r_take rfl rfl ?_)
  refine s_move (.int .i64 1) rfl rfl ?_
  refine r_cons (r_take rfl rfl ?_)
  refine s_eql false rfl rfl (dfalse (by decide)) rfl ?_
  refine r_cons (r_take rfl rfl ?_)
  refine s_bneq false un_4 rfl rfl (ntrue rfl) rfl ?_
  refine r_cons (s_pick_f (.bool false) rfl rfl rfl ?_)
  refine r_nil ?_
  refine g_false rfl ?_
  refine g_skip ?_
  refine g_seq ?_
  refine g_seq ?_
  refine g_region ?_
  refine r_cons (s_move (.int .i64 1) rfl rfl ?_)
  refine r_cons (s_neq true rfl rfl (nfalse (by decide)) rfl ?_)
  refine r_nil ?_
  refine g_true rfl ?_
  refine g_seq ?_
  refine g_region ?_
  refine r_cons (s_assign (.bool true) rfl rfl ?_)
  refine r_nil ?_
  refine g_ret' [.bool true] Try.func5 Try.results5 ⟨rfl, trivial⟩ ?_
  have H15 : St W w13 F := (((H14.drop 0 rfl).drop 0 rfl).drop 0 rfl)
  exact ⟨rfl, H15⟩
theorem LinkDoes_ {W w : World} {F : List Atom} (f t n : I64) (l : List LOpD) (u : Value) (hlen : l.length < 4611686018427387904) {j a : Nat} (hj : F[j]? = some (Im 8 u l.length (l.flatMap lopCell))) (ha : F[a]? = some (byA (lopBy l))) (H : St W w F) : Calls Try.prog 5 #[.agg #[.int .i64 f.v, .int .i64 t.v], .int .i64 n.v, u] w (Ret fun v w' => v = .bool true ∧ St W w' F) := by
  by_cases h : newOk f.v t.v n.v
  · exact LinkDoes_yes f t n l u hlen h hj ha H
  · exact LinkDoes_no f t n l u hlen h hj ha H
end Sl
