/- Walks of the program's functions. Printed by a program of this claim's author. No condition. -/
import Derived.Test.YteogdknlofcpiaaSlBA
import Derived.Test.YteogdknlofcpiaaSlDB
import Derived.Test.YteogdknlofcpiaaSlQ
import Derived.Test.YteogdknlofcpiaaSlI
import Derived.Test.YteogdknlofcpiaaSlP
import Derived.Test.YteogdknlofcpiaaSlDH
import Derived.Test.YteogdknlofcpiaaSlDI
import Derived.Test.YteogdknlofcpiaaSlDJ
import Derived.Test.YteogdknlofcpiaaSlDC
import Derived.Test.YteogdknlofcpiaaProg
import Derived.Test.YteogdknlofcpiaaWalkMigrateWhole1
namespace Sl
open _root_.Go _root_.Go.RowKit _root_.Go.Proofs
set_option linter.all false
set_option maxHeartbeats 4000000 in
set_option maxRecDepth 100000 in
theorem Ln_Piece {W w : World} {F : List Atom} (g m : Nat) (op : I64) (k : Int) (E : List (I64 × BytesD)) (x : PieceD) (hok : pieceOk x.v = true) (hop : x.v.op.v = op.v) (hk : k = 0 ∨ k = x.v.many.v) (hnew : ahas E x.v.index = false) {j : Nat} (hj : F[j]? = some (DtA x.p x.c x.v.data)) (H : St W w (blk g (.cells #[.bool true, .bool false, .int .i64 op.v, .int .i64 k, .map (some m), .slice none 0 0] 98 (0, 0)) :: MapA m (ents (kI .i64) evD E) :: bdA E :: F)) : Calls Try.prog 22 #[.pointer (some ⟨g, 0, none⟩), .agg #[.int .i64 x.v.op.v, .int .i64 x.v.many.v, .int .i64 x.v.index.v, .slice x.p x.v.data.length x.c]] w (Ret fun v w' => ∃ p c, v = .tuple #[.bool (decide (((E.length + 1 : Nat) : Int) = x.v.many.v)), .int .i64 0] ∧ St W w' (blk g (.cells #[.bool true, .bool false, .int .i64 op.v, .int .i64 x.v.many.v, .map (some m), .slice none 0 0] 98 (0, 0)) :: MapA m (ents (kI .i64) evD (E ++ [(x.v.index, (⟨x.v.data, p, c⟩ : BytesD))])) :: bdA (E ++ [(x.v.index, (⟨x.v.data, p, c⟩ : BytesD))]) :: F)) := by
  have H0 := H.dup (i := j + 3) (by exact hj) (DtA_pers _ _ _)
  have H1 : St W w (Im 1 (.slice x.p x.v.data.length x.c) x.v.data.length (x.v.data.flatMap u8c) :: blk g (.cells #[.bool true, .bool false, .int .i64 op.v, .int .i64 k, .map (some m), .slice none 0 0] 98 (0, 0)) :: MapA m (ents (kI .i64) evD E) :: bdA E :: F) := H0
  have hml0 := Im.len H0 (i := 0) rfl
  obtain ⟨q1, q2, q3, q4, q5, q6, q7⟩ := pieceOk_is hok
  refine calls_of_go (n := 73) Try.func22 rfl Try.ntmps22 rfl ?_
  refine g_seq ?_
  refine g_region ?_
  refine r_cons (s_box H1 51 (.agg #[.int .i64 x.v.op.v, .int .i64 x.v.many.v, .int .i64 x.v.index.v, .slice x.p x.v.data.length x.c]) rfl (cs := #[.int .i64 x.v.op.v, .int .i64 x.v.many.v, .int .i64 x.v.index.v, .slice x.p x.v.data.length x.c]) rfl rfl ?_); intro bk2 w3 H4
  refine r_cons (s_assign (.bool false) rfl rfl ?_)
  refine r_cons (s_assign (.int .i64 0) rfl rfl ?_)
  refine r_nil ?_
  refine g_seq ?_
  refine g_seq ?_
  refine g_region ?_
  refine r_cons (s_move (.pointer (some ⟨g, 0, none⟩)) rfl rfl ?_)
  refine r_cons (s_call [.pointer (some ⟨g, 0, none⟩)] pl_71 rfl rfl (Ln_open g m (op.v : Int) (k : Int) (i := 2) rfl H4) ?_)
  rintro _ w5 ⟨rfl, H6⟩
  refine r_cons (s_assign (.int .i64 0) rfl rfl ?_)
  refine r_nil ?_
  refine g_seq ?_
  refine g_region ?_
  refine r_cons (s_move (.int .i64 0) rfl rfl ?_)
  refine r_cons (s_neq false rfl rfl (ntrue (by decide)) rfl ?_)
  refine r_nil ?_
  refine g_false rfl ?_
  refine g_skip ?_
  refine g_seq ?_
  refine g_seq ?_
  refine g_quiet (fun w' => St W w' (blk bk2 (.cells #[.int .i64 x.v.op.v, .int .i64 x.v.many.v, .int .i64 x.v.index.v, .slice x.p x.v.data.length x.c] 51 (0, 0)) :: Im 1 (.slice x.p x.v.data.length x.c) x.v.data.length (x.v.data.flatMap u8c) :: blk g (.cells #[.bool true, .bool false, .int .i64 op.v, .int .i64 k, .map (some m), .slice none 0 0] 98 (0, 0)) :: MapA m (ents (kI .i64) evD E) :: bdA E :: F)) mixed (by kernel_rfl) H6.drew ?_
  refine q_cons (q_val rfl rfl rfl (by intro w hw; exact x_loadAgg [.int .i64 x.v.op.v, .int .i64 x.v.many.v, .int .i64 x.v.index.v, .slice x.p x.v.data.length x.c] 4 ag_51 rfl (hw.blk_at (i := 0) rfl) (Nat.le_of_ble_eq_true rfl) rfl) ?_)
  refine q_cons (q_enter (args := #[.agg #[.int .i64 x.v.op.v, .int .i64 x.v.many.v, .int .i64 x.v.index.v, .slice x.p x.v.data.length x.c]]) (v := .bool (pieceB x.v.op.v x.v.many.v x.v.index.v x.v.data.length)) rfl rfl rfl (x_call pl_72 [.agg #[.int .i64 x.v.op.v, .int .i64 x.v.many.v, .int .i64 x.v.index.v, .slice x.p x.v.data.length x.c]] rfl) (fun w hw => migrate_piece x.v.op.v x.v.many.v x.v.index.v x.p x.v.data.length x.c hw) ?_)
  refine q_cons (q_val rfl rfl rfl (by intro w hw; exact x_not (pieceB x.v.op.v x.v.many.v x.v.index.v x.v.data.length) rfl false (by rw [(show pieceB x.v.op.v x.v.many.v x.v.index.v x.v.data.length = true from hok)]; rfl) w) ?_)
  refine q_cons (q_val rfl rfl rfl (by intro w hw; exact x_move (.bool false) rfl w) ?_)
  refine q_cons (q_take rfl rfl ?_)
  refine q_val rfl rfl rfl (by intro w hw; exact x_fieldAddr 51 0 0 0 3 rfl fi_51_0 rfl w) ?_
  refine q_cons (q_take rfl rfl ?_)
  refine q_val rfl rfl rfl (by intro w hw; exact x_load (.int .i64 x.v.op.v) ag_3 rfl (hw.blk_at (i := 0) rfl) rfl) ?_
  refine q_cons (q_take rfl rfl ?_)
  refine q_val rfl rfl rfl (by intro w hw; exact x_move (.pointer (some ⟨g, 0, none⟩)) rfl w) ?_
  refine q_cons (q_take rfl rfl ?_)
  refine q_val rfl rfl rfl (by intro w hw; exact x_nilCheck (.pointer (some ⟨g, 0, none⟩)) rfl ⟨_, rfl⟩ w) ?_
  refine q_cons (q_take rfl rfl ?_)
  refine q_val rfl rfl rfl (by intro w hw; exact x_fieldAddr 98 2 2 2 3 rfl fi_98_2 rfl w) ?_
  refine q_cons (q_take rfl rfl ?_)
  refine q_val rfl rfl rfl (by intro w hw; exact x_load (.int .i64 op.v) ag_3 rfl (hw.blk_at (i := 2) rfl) rfl) ?_
  refine q_cons (q_take rfl rfl ?_)
  refine q_val rfl rfl rfl (by intro w hw; exact x_neq false rfl rfl (ntrue (by omega)) w) ?_
  refine q_cons (q_val rfl rfl rfl (by intro w hw; exact x_pick_f (.bool false) rfl rfl w) ?_)
  refine q_cons (q_val rfl rfl rfl (by intro w hw; exact x_move (.bool false) rfl w) ?_)
  refine q_cons (q_take rfl rfl ?_)
  refine q_val rfl rfl rfl (by intro w hw; exact x_move (.pointer (some ⟨g, 0, none⟩)) rfl w) ?_
  refine q_cons (q_take rfl rfl ?_)
  refine q_val rfl rfl rfl (by intro w hw; exact x_nilCheck (.pointer (some ⟨g, 0, none⟩)) rfl ⟨_, rfl⟩ w) ?_
  refine q_cons (q_take rfl rfl ?_)
  refine q_val rfl rfl rfl (by intro w hw; exact x_fieldAddr 98 3 3 3 3 rfl fi_98_3 rfl w) ?_
  refine q_cons (q_take rfl rfl ?_)
  refine q_val rfl rfl rfl (by intro w hw; exact x_load (.int .i64 k) ag_3 rfl (hw.blk_at (i := 2) rfl) rfl) ?_
  refine q_cons (q_take rfl rfl ?_)
  by_cases hc7 : (0 : Int) < k
  · skip
    refine q_val rfl rfl rfl (by intro w hw; exact x_gtr true rfl rfl (dtrue hc7) w) ?_
    refine q_cons (q_take rfl rfl ?_)
    refine q_val rfl rfl rfl (by intro w hw; exact x_move (.bool true) rfl w) ?_
    refine q_cons (q_take rfl rfl ?_)
    refine q_val rfl rfl rfl (by intro w hw; exact x_fieldAddr 51 1 1 1 3 rfl fi_51_1 rfl w) ?_
    refine q_cons (q_take rfl rfl ?_)
    refine q_val rfl rfl rfl (by intro w hw; exact x_load (.int .i64 x.v.many.v) ag_3 rfl (hw.blk_at (i := 0) rfl) rfl) ?_
    refine q_cons (q_take rfl rfl ?_)
    refine q_val rfl rfl rfl (by intro w hw; exact x_move (.pointer (some ⟨g, 0, none⟩)) rfl w) ?_
    refine q_cons (q_take rfl rfl ?_)
    refine q_val rfl rfl rfl (by intro w hw; exact x_nilCheck (.pointer (some ⟨g, 0, none⟩)) rfl ⟨_, rfl⟩ w) ?_
    refine q_cons (q_take rfl rfl ?_)
    refine q_val rfl rfl rfl (by intro w hw; exact x_fieldAddr 98 3 3 3 3 rfl fi_98_3 rfl w) ?_
    refine q_cons (q_take rfl rfl ?_)
    refine q_val rfl rfl rfl (by intro w hw; exact x_load (.int .i64 k) ag_3 rfl (hw.blk_at (i := 2) rfl) rfl) ?_
    refine q_cons (q_take rfl rfl ?_)
    refine q_val rfl rfl rfl (by intro w hw; exact x_neq false rfl rfl (ntrue (by rcases hk with hk | hk <;> omega)) w) ?_
    refine q_cons (q_take rfl rfl ?_)
    refine q_val rfl rfl rfl (by intro w hw; exact x_pick_t (.bool false) rfl rfl w) ?_
    refine q_cons (q_val rfl rfl rfl (by intro w hw; exact x_pick_f (.bool false) rfl rfl w) ?_)
    refine q_nil ?_
    intro w8 H9
    refine g_false rfl ?_
    refine g_skip ?_
    refine g_seq ?_
    refine g_seq ?_
    refine g_quiet (fun w' => St W w' (blk bk2 (.cells #[.int .i64 x.v.op.v, .int .i64 x.v.many.v, .int .i64 x.v.index.v, .slice x.p x.v.data.length x.c] 51 (0, 0)) :: Im 1 (.slice x.p x.v.data.length x.c) x.v.data.length (x.v.data.flatMap u8c) :: blk g (.cells #[.bool true, .bool false, .int .i64 op.v, .int .i64 k, .map (some m), .slice none 0 0] 98 (0, 0)) :: MapA m (ents (kI .i64) evD E) :: bdA E :: F)) mixed (by kernel_rfl) H9.drew ?_
    refine q_cons (q_val rfl rfl rfl (by intro w hw; exact x_move (.pointer (some ⟨g, 0, none⟩)) rfl w) ?_)
    refine q_cons (q_val rfl rfl rfl (by intro w hw; exact x_nilCheck (.pointer (some ⟨g, 0, none⟩)) rfl ⟨_, rfl⟩ w) ?_)
    refine q_cons (q_val rfl rfl rfl (by intro w hw; exact x_fieldAddr 98 4 4 4 96 rfl fi_98_4 rfl w) ?_)
    refine q_cons (q_val rfl rfl rfl (by intro w hw; exact x_load (.map (some m)) ag_96 rfl (hw.blk_at (i := 2) rfl) rfl) ?_)
    refine q_cons (q_val rfl rfl rfl (by intro w hw; exact x_fieldAddr 51 2 2 2 3 rfl fi_51_2 rfl w) ?_)
    refine q_cons (q_val rfl rfl rfl (by intro w hw; exact x_load (.int .i64 x.v.index.v) ag_3 rfl (hw.blk_at (i := 0) rfl) rfl) ?_)
    refine q_cons (q_val rfl rfl rfl (by intro w hw; exact x_lookup2 (ek := (kI .i64)) (ev := evD) (L := E) x.v.index (.slice none 0 0) (ahas E x.v.index) (MapA.at hw (i := 3) rfl) (KeyLaw.I un_3) un_96 zv_23 rfl rfl (look_none hnew) rfl) ?_)
    refine q_cons (q_val rfl rfl rfl (by intro w hw; exact x_move (.tuple #[.slice none 0 0, .bool (ahas E x.v.index)]) rfl w) ?_)
    refine q_cons (q_val rfl rfl rfl (by intro w hw; exact x_extract (.slice none 0 0) #[.slice none 0 0, .bool (ahas E x.v.index)] rfl rfl w) ?_)
    refine q_cons (q_val rfl rfl rfl (by intro w hw; exact x_extract (.bool (ahas E x.v.index)) #[.slice none 0 0, .bool (ahas E x.v.index)] rfl rfl w) ?_)
    refine q_cons (q_val rfl rfl rfl (by intro w hw; exact x_assign (.slice none 0 0) rfl w) ?_)
    refine q_cons (q_val rfl rfl rfl (by intro w hw; exact x_assign (.bool (ahas E x.v.index)) rfl w) ?_)
    refine q_nil ?_
    intro w10 H11
    refine g_seq ?_
    refine g_region ?_
    refine r_cons (s_move (.bool (ahas E x.v.index)) rfl rfl ?_)
    refine r_nil ?_
    refine g_false (congrArg Value.bool hnew) ?_
    refine g_skip ?_
    refine g_seq ?_
    refine g_region ?_
    refine r_cons (s_move (.pointer (some ⟨g, 0, none⟩)) rfl rfl ?_)
    refine r_cons (s_fieldAddr 51 1 1 1 3 rfl fi_51_1 rfl rfl ?_)
    refine r_cons (s_load (.int .i64 x.v.many.v) ag_3 rfl (H11.blk_at (i := 0) rfl) rfl rfl ?_)
    refine r_cons (s_nilCheck (.pointer (some ⟨g, 0, none⟩)) rfl ⟨_, rfl⟩ rfl ?_)
    refine r_cons (s_fieldAddr 98 3 3 3 3 rfl fi_98_3 rfl rfl ?_)
    refine r_cons (s_store H11 2 (.int .i64 x.v.many.v) rfl rfl rfl sz_3 rfl (Nat.le_of_ble_eq_true rfl) rfl (cs' := #[.bool true, .bool false, .int .i64 op.v, .int .i64 x.v.many.v, .map (some m), .slice none 0 0]) rfl ?_); intro w12 H13
    refine r_nil ?_
    refine g_seq ?_
    have H14 : St W w12 (blk bk2 (.cells #[.int .i64 x.v.op.v, .int .i64 x.v.many.v, .int .i64 x.v.index.v, .slice x.p x.v.data.length x.c] 51 (0, 0)) :: Im 1 (.slice x.p x.v.data.length x.c) x.v.data.length (x.v.data.flatMap u8c) :: blk g (.cells #[.bool true, .bool false, .int .i64 op.v, .int .i64 x.v.many.v, .map (some m), .slice none 0 0] 98 (0, 0)) :: bdA E :: MapA m (ents (kI .i64) evD E) :: F) := (((((H13.move 3 rfl).move 4 rfl).move 4 rfl).move 4 rfl).move 4 rfl)
    refine g_mix (fun t_ w => St W w (blk bk2 (.cells #[.int .i64 x.v.op.v, .int .i64 x.v.many.v, .int .i64 x.v.index.v, .slice x.p x.v.data.length x.c] 51 (0, 0)) :: Im 1 (.slice x.p x.v.data.length x.c) x.v.data.length (x.v.data.flatMap u8c) :: blk g (.cells #[.bool true, .bool false, .int .i64 op.v, .int .i64 x.v.many.v, .map (some m), .slice none 0 0] 98 (0, 0)) :: bdA E :: t_)) (MapA m (ents (kI .i64) evD E) :: F) mixed 10 rfl H14.drew ?_
    refine f_first 0 (listed' := #[true, false, false, false, false, false, false, false, false, false]) rfl (by kernel_rfl) (by kernel_rfl) (by kernel_rfl) rfl ?_
    refine f_val rfl rfl rfl (by intro t_ w hw; exact x_move (.pointer (some ⟨g, 0, none⟩)) rfl w) ?_
    refine f_first 1 (listed' := #[true, true, false, false, false, false, false, false, false, false]) rfl (by kernel_rfl) (by kernel_rfl) (by kernel_rfl) rfl ?_
    refine f_val rfl rfl rfl (by intro t_ w hw; exact x_nilCheck (.pointer (some ⟨g, 0, none⟩)) rfl ⟨_, rfl⟩ w) ?_
    refine f_first 2 (listed' := #[true, true, true, false, false, false, false, false, false, false]) rfl (by kernel_rfl) (by kernel_rfl) (by kernel_rfl) rfl ?_
    refine f_val rfl rfl rfl (by intro t_ w hw; exact x_fieldAddr 98 4 4 4 96 rfl fi_98_4 rfl w) ?_
    refine f_first 3 (listed' := #[true, true, true, true, false, false, false, false, false, false]) rfl (by kernel_rfl) (by kernel_rfl) (by kernel_rfl) rfl ?_
    refine f_val rfl rfl rfl (by intro t_ w hw; exact x_load (.map (some m)) ag_96 rfl (hw.blk_at (i := 2) rfl) rfl) ?_
    refine f_first 4 (listed' := #[true, true, true, true, true, false, false, false, false, false]) rfl (by kernel_rfl) (by kernel_rfl) (by kernel_rfl) rfl ?_
    refine f_val rfl rfl rfl (by intro t_ w hw; exact x_fieldAddr 51 2 2 2 3 rfl fi_51_2 rfl w) ?_
    refine f_first 5 (listed' := #[true, true, true, true, true, true, false, false, false, false]) rfl (by kernel_rfl) (by kernel_rfl) (by kernel_rfl) rfl ?_
    refine f_val rfl rfl rfl (by intro t_ w hw; exact x_load (.int .i64 x.v.index.v) ag_3 rfl (hw.blk_at (i := 0) rfl) rfl) ?_
    refine f_first 6 (listed' := #[true, true, true, true, true, true, true, false, false, false]) rfl (by kernel_rfl) (by kernel_rfl) (by kernel_rfl) rfl ?_
    refine f_val rfl rfl rfl (by intro t_ w hw; exact x_fieldAddr 51 3 3 3 23 rfl fi_51_3 rfl w) ?_
    refine f_first 7 (listed' := #[true, true, true, true, true, true, true, true, false, false]) rfl (by kernel_rfl) (by kernel_rfl) (by kernel_rfl) rfl ?_
    refine f_val rfl rfl rfl (by intro t_ w hw; exact x_load (.slice x.p x.v.data.length x.c) ag_23 rfl (hw.blk_at (i := 0) rfl) rfl) ?_
    refine f_all (rs := [8]) (by kernel_rfl) (by simp) ?_
    refine a_cons ⟨_, rfl, ?_⟩ (fun x hx => absurd hx (by simp))
    intro w15 H16
    try dsimp only at H16
    refine s_call [.slice x.p x.v.data.length x.c] pl_73 rfl rfl (bytes_Clone _ _ x.v.data.length (x.v.data.flatMap u8c) RdA.im (by first | omega | (have hlp := Nat.le_refl 0; omega)) (j := 1) rfl H16) ?_
    rintro _ w19 ⟨pp17, cc18, rfl, H20⟩
    have H21 : St W w19 (blk bk2 (.cells #[.int .i64 x.v.op.v, .int .i64 x.v.many.v, .int .i64 x.v.index.v, .slice x.p x.v.data.length x.c] 51 (0, 0)) :: Im 1 (.slice x.p x.v.data.length x.c) x.v.data.length (x.v.data.flatMap u8c) :: blk g (.cells #[.bool true, .bool false, .int .i64 op.v, .int .i64 x.v.many.v, .map (some m), .slice none 0 0] 98 (0, 0)) :: bdA E :: Row 5 1 (.slice pp17 x.v.data.length cc18) x.v.data.length (x.v.data.flatMap u8c) :: MapA m (ents (kI .i64) evD E) :: F) := ((((((H20.move 5 rfl).move 1 rfl).move 5 rfl).move 5 rfl).move 5 rfl).move 5 rfl)
    refine ⟨Row 5 1 (.slice pp17 x.v.data.length cc18) x.v.data.length (x.v.data.flatMap u8c) :: MapA m (ents (kI .i64) evD E) :: F, ?_, H21⟩
    change FReg _ _ _ _ _ #[true, true, true, true, true, true, true, true, true, false] _ _
    refine f_all (rs := [9]) (by kernel_rfl) (by simp) ?_
    refine a_cons ⟨_, rfl, ?_⟩ (fun x hx => absurd hx (by simp))
    intro w22 H23
    try dsimp only at H23
    refine s_mapUpdate (ek := (kI .i64)) (ev := evD) (L := E) x.v.index (⟨x.v.data, pp17, cc18⟩ : BytesD) H23 (i := 5) rfl (KeyLaw.I un_3) un_96 rfl rfl rfl ?_; intro w24 H25
    have H26 : St W w24 (blk bk2 (.cells #[.int .i64 x.v.op.v, .int .i64 x.v.many.v, .int .i64 x.v.index.v, .slice x.p x.v.data.length x.c] 51 (0, 0)) :: Im 1 (.slice x.p x.v.data.length x.c) x.v.data.length (x.v.data.flatMap u8c) :: blk g (.cells #[.bool true, .bool false, .int .i64 op.v, .int .i64 x.v.many.v, .map (some m), .slice none 0 0] 98 (0, 0)) :: bdA E :: Row 5 1 (.slice pp17 x.v.data.length cc18) x.v.data.length (x.v.data.flatMap u8c) :: MapA m (ents (kI .i64) evD (aset E x.v.index (⟨x.v.data, pp17, cc18⟩ : BytesD))) :: F) := H25
    refine ⟨Row 5 1 (.slice pp17 x.v.data.length cc18) x.v.data.length (x.v.data.flatMap u8c) :: MapA m (ents (kI .i64) evD (aset E x.v.index (⟨x.v.data, pp17, cc18⟩ : BytesD))) :: F, ?_, H26⟩
    change FReg _ _ _ _ _ #[true, true, true, true, true, true, true, true, true, true] _ _
    refine f_done (by kernel_rfl) ?_
    intro w27 H28
    refine g_seq ?_
    refine g_region ?_
    refine r_cons (s_move (.pointer (some ⟨g, 0, none⟩)) rfl rfl ?_)
    have H29 : St W w27 (blk g (.cells #[.bool true, .bool false, .int .i64 op.v, .int .i64 x.v.many.v, .map (some m), .slice none 0 0] 98 (0, 0)) :: MapA m (ents (kI .i64) evD (aset E x.v.index (⟨x.v.data, pp17, cc18⟩ : BytesD))) :: blk bk2 (.cells #[.int .i64 x.v.op.v, .int .i64 x.v.many.v, .int .i64 x.v.index.v, .slice x.p x.v.data.length x.c] 51 (0, 0)) :: Im 1 (.slice x.p x.v.data.length x.c) x.v.data.length (x.v.data.flatMap u8c) :: bdA E :: Row 5 1 (.slice pp17 x.v.data.length cc18) x.v.data.length (x.v.data.flatMap u8c) :: F) := ((H28.move 5 rfl).move 3 rfl)
    refine r_cons (s_call [.pointer (some ⟨g, 0, none⟩)] pl_74 rfl rfl (Ln_whole g m (op.v : Int) (x.v.many.v : Int) (aset E x.v.index (⟨x.v.data, pp17, cc18⟩ : BytesD)) (by first | assumption | omega) H29) ?_)
    rintro _ w30 ⟨rfl, H31⟩
    refine r_cons (s_assign (.bool (decide (((aset E x.v.index (⟨x.v.data, pp17, cc18⟩ : BytesD)).length : Int) = x.v.many.v))) rfl rfl ?_)
    refine r_cons (s_assign (.int .i64 0) rfl rfl ?_)
    refine r_nil ?_
    refine g_ret' [.bool (decide (((aset E x.v.index (⟨x.v.data, pp17, cc18⟩ : BytesD)).length : Int) = x.v.many.v)), .int .i64 0] Try.func22 Try.results22 ⟨rfl, rfl, trivial⟩ ?_
    have H32 : St W w30 (blk g (.cells #[.bool true, .bool false, .int .i64 op.v, .int .i64 x.v.many.v, .map (some m), .slice none 0 0] 98 (0, 0)) :: MapA m (ents (kI .i64) evD (aset E x.v.index (⟨x.v.data, pp17, cc18⟩ : BytesD))) :: blk bk2 (.cells #[.int .i64 x.v.op.v, .int .i64 x.v.many.v, .int .i64 x.v.index.v, .slice x.p x.v.data.length x.c] 51 (0, 0)) :: Im 1 (.slice x.p x.v.data.length x.c) x.v.data.length (x.v.data.flatMap u8c) :: bdA E :: Im 1 (.slice pp17 x.v.data.length cc18) x.v.data.length (x.v.data.flatMap u8c) :: F) := Row.im H31 (i := 5) rfl
    have H33 : St W w30 (Im 1 (.slice pp17 x.v.data.length cc18) x.v.data.length (x.v.data.flatMap u8c) :: bdA E :: blk g (.cells #[.bool true, .bool false, .int .i64 op.v, .int .i64 x.v.many.v, .map (some m), .slice none 0 0] 98 (0, 0)) :: MapA m (ents (kI .i64) evD (aset E x.v.index (⟨x.v.data, pp17, cc18⟩ : BytesD))) :: blk bk2 (.cells #[.int .i64 x.v.op.v, .int .i64 x.v.many.v, .int .i64 x.v.index.v, .slice x.p x.v.data.length x.c] 51 (0, 0)) :: Im 1 (.slice x.p x.v.data.length x.c) x.v.data.length (x.v.data.flatMap u8c) :: F) := ((H32.move 4 rfl).move 5 rfl)
    have H34 : St W w30 (bdA (E ++ [(x.v.index, (⟨x.v.data, pp17, cc18⟩ : BytesD))]) :: blk g (.cells #[.bool true, .bool false, .int .i64 op.v, .int .i64 x.v.many.v, .map (some m), .slice none 0 0] 98 (0, 0)) :: MapA m (ents (kI .i64) evD (aset E x.v.index (⟨x.v.data, pp17, cc18⟩ : BytesD))) :: blk bk2 (.cells #[.int .i64 x.v.op.v, .int .i64 x.v.many.v, .int .i64 x.v.index.v, .slice x.p x.v.data.length x.c] 51 (0, 0)) :: Im 1 (.slice x.p x.v.data.length x.c) x.v.data.length (x.v.data.flatMap u8c) :: F) := bdA_snoc (k := x.v.index) (x := (⟨x.v.data, pp17, cc18⟩ : BytesD)) H33
    have hset := aset_new (v := (⟨x.v.data, pp17, cc18⟩ : BytesD)) hnew
    have H35 : St W w30 (bdA (E ++ [(x.v.index, (⟨x.v.data, pp17, cc18⟩ : BytesD))]) :: blk g (.cells #[.bool true, .bool false, .int .i64 op.v, .int .i64 x.v.many.v, .map (some m), .slice none 0 0] 98 (0, 0)) :: MapA m (ents (kI .i64) evD (E ++ [(x.v.index, (⟨x.v.data, pp17, cc18⟩ : BytesD))])) :: blk bk2 (.cells #[.int .i64 x.v.op.v, .int .i64 x.v.many.v, .int .i64 x.v.index.v, .slice x.p x.v.data.length x.c] 51 (0, 0)) :: Im 1 (.slice x.p x.v.data.length x.c) x.v.data.length (x.v.data.flatMap u8c) :: F) := by have hx := H34; rw [hset] at hx; exact hx
    have H36 : St W w30 (blk g (.cells #[.bool true, .bool false, .int .i64 op.v, .int .i64 x.v.many.v, .map (some m), .slice none 0 0] 98 (0, 0)) :: MapA m (ents (kI .i64) evD (E ++ [(x.v.index, (⟨x.v.data, pp17, cc18⟩ : BytesD))])) :: bdA (E ++ [(x.v.index, (⟨x.v.data, pp17, cc18⟩ : BytesD))]) :: F) := ((((H35.move 2 rfl).move 2 rfl).drop 3 rfl).drop 3 rfl)
    exact ⟨_, _, by rw [hset, List.length_append]; rfl, H36⟩
  · skip
    refine q_val rfl rfl rfl (by intro w hw; exact x_gtr false rfl rfl (dfalse hc7) w) ?_
    refine q_cons (q_take rfl rfl ?_)
    refine q_val rfl rfl rfl (by intro w hw; exact x_move (.bool false) rfl w) ?_
    refine q_cons (q_pass rfl rfl rfl rfl rfl ?_)
    refine q_cons (q_pass rfl rfl rfl rfl rfl ?_)
    refine q_cons (q_pass rfl rfl rfl rfl rfl ?_)
    refine q_cons (q_pass rfl rfl rfl rfl rfl ?_)
    refine q_cons (q_pass rfl rfl rfl rfl rfl ?_)
    refine q_cons (q_pass rfl rfl rfl rfl rfl ?_)
    refine q_cons (q_pass rfl rfl rfl rfl rfl ?_)
    refine q_cons (q_take rfl rfl ?_)
    refine q_val rfl rfl rfl (by intro w hw; exact x_pick_f (.bool false) rfl rfl w) ?_
    refine q_cons (q_val rfl rfl rfl (by intro w hw; exact x_pick_f (.bool false) rfl rfl w) ?_)
    refine q_nil ?_
    intro w37 H38
    refine g_false rfl ?_
    refine g_skip ?_
    refine g_seq ?_
    refine g_seq ?_
    refine g_quiet (fun w' => St W w' (blk bk2 (.cells #[.int .i64 x.v.op.v, .int .i64 x.v.many.v, .int .i64 x.v.index.v, .slice x.p x.v.data.length x.c] 51 (0, 0)) :: Im 1 (.slice x.p x.v.data.length x.c) x.v.data.length (x.v.data.flatMap u8c) :: blk g (.cells #[.bool true, .bool false, .int .i64 op.v, .int .i64 k, .map (some m), .slice none 0 0] 98 (0, 0)) :: MapA m (ents (kI .i64) evD E) :: bdA E :: F)) mixed (by kernel_rfl) H38.drew ?_
    refine q_cons (q_val rfl rfl rfl (by intro w hw; exact x_move (.pointer (some ⟨g, 0, none⟩)) rfl w) ?_)
    refine q_cons (q_val rfl rfl rfl (by intro w hw; exact x_nilCheck (.pointer (some ⟨g, 0, none⟩)) rfl ⟨_, rfl⟩ w) ?_)
    refine q_cons (q_val rfl rfl rfl (by intro w hw; exact x_fieldAddr 98 4 4 4 96 rfl fi_98_4 rfl w) ?_)
    refine q_cons (q_val rfl rfl rfl (by intro w hw; exact x_load (.map (some m)) ag_96 rfl (hw.blk_at (i := 2) rfl) rfl) ?_)
    refine q_cons (q_val rfl rfl rfl (by intro w hw; exact x_fieldAddr 51 2 2 2 3 rfl fi_51_2 rfl w) ?_)
    refine q_cons (q_val rfl rfl rfl (by intro w hw; exact x_load (.int .i64 x.v.index.v) ag_3 rfl (hw.blk_at (i := 0) rfl) rfl) ?_)
    refine q_cons (q_val rfl rfl rfl (by intro w hw; exact x_lookup2 (ek := (kI .i64)) (ev := evD) (L := E) x.v.index (.slice none 0 0) (ahas E x.v.index) (MapA.at hw (i := 3) rfl) (KeyLaw.I un_3) un_96 zv_23 rfl rfl (look_none hnew) rfl) ?_)
    refine q_cons (q_val rfl rfl rfl (by intro w hw; exact x_move (.tuple #[.slice none 0 0, .bool (ahas E x.v.index)]) rfl w) ?_)
    refine q_cons (q_val rfl rfl rfl (by intro w hw; exact x_extract (.slice none 0 0) #[.slice none 0 0, .bool (ahas E x.v.index)] rfl rfl w) ?_)
    refine q_cons (q_val rfl rfl rfl (by intro w hw; exact x_extract (.bool (ahas E x.v.index)) #[.slice none 0 0, .bool (ahas E x.v.index)] rfl rfl w) ?_)
    refine q_cons (q_val rfl rfl rfl (by intro w hw; exact x_assign (.slice none 0 0) rfl w) ?_)
    refine q_cons (q_val rfl rfl rfl (by intro w hw; exact x_assign (.bool (ahas E x.v.index)) rfl w) ?_)
    refine q_nil ?_
    intro w39 H40
    refine g_seq ?_
    refine g_region ?_
    refine r_cons (s_move (.bool (ahas E x.v.index)) rfl rfl ?_)
    refine r_nil ?_
    refine g_false (congrArg Value.bool hnew) ?_
    refine g_skip ?_
    refine g_seq ?_
    refine g_region ?_
    refine r_cons (s_move (.pointer (some ⟨g, 0, none⟩)) rfl rfl ?_)
    refine r_cons (s_fieldAddr 51 1 1 1 3 rfl fi_51_1 rfl rfl ?_)
    refine r_cons (s_load (.int .i64 x.v.many.v) ag_3 rfl (H40.blk_at (i := 0) rfl) rfl rfl ?_)
    refine r_cons (s_nilCheck (.pointer (some ⟨g, 0, none⟩)) rfl ⟨_, rfl⟩ rfl ?_)
    refine r_cons (s_fieldAddr 98 3 3 3 3 rfl fi_98_3 rfl rfl ?_)
    refine r_cons (s_store H40 2 (.int .i64 x.v.many.v) rfl rfl rfl sz_3 rfl (Nat.le_of_ble_eq_true rfl) rfl (cs' := #[.bool true, .bool false, .int .i64 op.v, .int .i64 x.v.many.v, .map (some m), .slice none 0 0]) rfl ?_); intro w41 H42
    refine r_nil ?_
    refine g_seq ?_
    have H43 : St W w41 (blk bk2 (.cells #[.int .i64 x.v.op.v, .int .i64 x.v.many.v, .int .i64 x.v.index.v, .slice x.p x.v.data.length x.c] 51 (0, 0)) :: Im 1 (.slice x.p x.v.data.length x.c) x.v.data.length (x.v.data.flatMap u8c) :: blk g (.cells #[.bool true, .bool false, .int .i64 op.v, .int .i64 x.v.many.v, .map (some m), .slice none 0 0] 98 (0, 0)) :: bdA E :: MapA m (ents (kI .i64) evD E) :: F) := (((((H42.move 3 rfl).move 4 rfl).move 4 rfl).move 4 rfl).move 4 rfl)
    refine g_mix (fun t_ w => St W w (blk bk2 (.cells #[.int .i64 x.v.op.v, .int .i64 x.v.many.v, .int .i64 x.v.index.v, .slice x.p x.v.data.length x.c] 51 (0, 0)) :: Im 1 (.slice x.p x.v.data.length x.c) x.v.data.length (x.v.data.flatMap u8c) :: blk g (.cells #[.bool true, .bool false, .int .i64 op.v, .int .i64 x.v.many.v, .map (some m), .slice none 0 0] 98 (0, 0)) :: bdA E :: t_)) (MapA m (ents (kI .i64) evD E) :: F) mixed 10 rfl H43.drew ?_
    refine f_first 0 (listed' := #[true, false, false, false, false, false, false, false, false, false]) rfl (by kernel_rfl) (by kernel_rfl) (by kernel_rfl) rfl ?_
    refine f_val rfl rfl rfl (by intro t_ w hw; exact x_move (.pointer (some ⟨g, 0, none⟩)) rfl w) ?_
    refine f_first 1 (listed' := #[true, true, false, false, false, false, false, false, false, false]) rfl (by kernel_rfl) (by kernel_rfl) (by kernel_rfl) rfl ?_
    refine f_val rfl rfl rfl (by intro t_ w hw; exact x_nilCheck (.pointer (some ⟨g, 0, none⟩)) rfl ⟨_, rfl⟩ w) ?_
    refine f_first 2 (listed' := #[true, true, true, false, false, false, false, false, false, false]) rfl (by kernel_rfl) (by kernel_rfl) (by kernel_rfl) rfl ?_
    refine f_val rfl rfl rfl (by intro t_ w hw; exact x_fieldAddr 98 4 4 4 96 rfl fi_98_4 rfl w) ?_
    refine f_first 3 (listed' := #[true, true, true, true, false, false, false, false, false, false]) rfl (by kernel_rfl) (by kernel_rfl) (by kernel_rfl) rfl ?_
    refine f_val rfl rfl rfl (by intro t_ w hw; exact x_load (.map (some m)) ag_96 rfl (hw.blk_at (i := 2) rfl) rfl) ?_
    refine f_first 4 (listed' := #[true, true, true, true, true, false, false, false, false, false]) rfl (by kernel_rfl) (by kernel_rfl) (by kernel_rfl) rfl ?_
    refine f_val rfl rfl rfl (by intro t_ w hw; exact x_fieldAddr 51 2 2 2 3 rfl fi_51_2 rfl w) ?_
    refine f_first 5 (listed' := #[true, true, true, true, true, true, false, false, false, false]) rfl (by kernel_rfl) (by kernel_rfl) (by kernel_rfl) rfl ?_
    refine f_val rfl rfl rfl (by intro t_ w hw; exact x_load (.int .i64 x.v.index.v) ag_3 rfl (hw.blk_at (i := 0) rfl) rfl) ?_
    refine f_first 6 (listed' := #[true, true, true, true, true, true, true, false, false, false]) rfl (by kernel_rfl) (by kernel_rfl) (by kernel_rfl) rfl ?_
    refine f_val rfl rfl rfl (by intro t_ w hw; exact x_fieldAddr 51 3 3 3 23 rfl fi_51_3 rfl w) ?_
    refine f_first 7 (listed' := #[true, true, true, true, true, true, true, true, false, false]) rfl (by kernel_rfl) (by kernel_rfl) (by kernel_rfl) rfl ?_
    refine f_val rfl rfl rfl (by intro t_ w hw; exact x_load (.slice x.p x.v.data.length x.c) ag_23 rfl (hw.blk_at (i := 0) rfl) rfl) ?_
    refine f_all (rs := [8]) (by kernel_rfl) (by simp) ?_
    refine a_cons ⟨_, rfl, ?_⟩ (fun x hx => absurd hx (by simp))
    intro w44 H45
    try dsimp only at H45
    refine s_call [.slice x.p x.v.data.length x.c] pl_73 rfl rfl (bytes_Clone _ _ x.v.data.length (x.v.data.flatMap u8c) RdA.im (by first | omega | (have hlp := Nat.le_refl 0; omega)) (j := 1) rfl H45) ?_
    rintro _ w48 ⟨pp46, cc47, rfl, H49⟩
    have H50 : St W w48 (blk bk2 (.cells #[.int .i64 x.v.op.v, .int .i64 x.v.many.v, .int .i64 x.v.index.v, .slice x.p x.v.data.length x.c] 51 (0, 0)) :: Im 1 (.slice x.p x.v.data.length x.c) x.v.data.length (x.v.data.flatMap u8c) :: blk g (.cells #[.bool true, .bool false, .int .i64 op.v, .int .i64 x.v.many.v, .map (some m), .slice none 0 0] 98 (0, 0)) :: bdA E :: Row 5 1 (.slice pp46 x.v.data.length cc47) x.v.data.length (x.v.data.flatMap u8c) :: MapA m (ents (kI .i64) evD E) :: F) := ((((((H49.move 5 rfl).move 1 rfl).move 5 rfl).move 5 rfl).move 5 rfl).move 5 rfl)
    refine ⟨Row 5 1 (.slice pp46 x.v.data.length cc47) x.v.data.length (x.v.data.flatMap u8c) :: MapA m (ents (kI .i64) evD E) :: F, ?_, H50⟩
    change FReg _ _ _ _ _ #[true, true, true, true, true, true, true, true, true, false] _ _
    refine f_all (rs := [9]) (by kernel_rfl) (by simp) ?_
    refine a_cons ⟨_, rfl, ?_⟩ (fun x hx => absurd hx (by simp))
    intro w51 H52
    try dsimp only at H52
    refine s_mapUpdate (ek := (kI .i64)) (ev := evD) (L := E) x.v.index (⟨x.v.data, pp46, cc47⟩ : BytesD) H52 (i := 5) rfl (KeyLaw.I un_3) un_96 rfl rfl rfl ?_; intro w53 H54
    have H55 : St W w53 (blk bk2 (.cells #[.int .i64 x.v.op.v, .int .i64 x.v.many.v, .int .i64 x.v.index.v, .slice x.p x.v.data.length x.c] 51 (0, 0)) :: Im 1 (.slice x.p x.v.data.length x.c) x.v.data.length (x.v.data.flatMap u8c) :: blk g (.cells #[.bool true, .bool false, .int .i64 op.v, .int .i64 x.v.many.v, .map (some m), .slice none 0 0] 98 (0, 0)) :: bdA E :: Row 5 1 (.slice pp46 x.v.data.length cc47) x.v.data.length (x.v.data.flatMap u8c) :: MapA m (ents (kI .i64) evD (aset E x.v.index (⟨x.v.data, pp46, cc47⟩ : BytesD))) :: F) := H54
    refine ⟨Row 5 1 (.slice pp46 x.v.data.length cc47) x.v.data.length (x.v.data.flatMap u8c) :: MapA m (ents (kI .i64) evD (aset E x.v.index (⟨x.v.data, pp46, cc47⟩ : BytesD))) :: F, ?_, H55⟩
    change FReg _ _ _ _ _ #[true, true, true, true, true, true, true, true, true, true] _ _
    refine f_done (by kernel_rfl) ?_
    intro w56 H57
    refine g_seq ?_
    refine g_region ?_
    refine r_cons (s_move (.pointer (some ⟨g, 0, none⟩)) rfl rfl ?_)
    have H58 : St W w56 (blk g (.cells #[.bool true, .bool false, .int .i64 op.v, .int .i64 x.v.many.v, .map (some m), .slice none 0 0] 98 (0, 0)) :: MapA m (ents (kI .i64) evD (aset E x.v.index (⟨x.v.data, pp46, cc47⟩ : BytesD))) :: blk bk2 (.cells #[.int .i64 x.v.op.v, .int .i64 x.v.many.v, .int .i64 x.v.index.v, .slice x.p x.v.data.length x.c] 51 (0, 0)) :: Im 1 (.slice x.p x.v.data.length x.c) x.v.data.length (x.v.data.flatMap u8c) :: bdA E :: Row 5 1 (.slice pp46 x.v.data.length cc47) x.v.data.length (x.v.data.flatMap u8c) :: F) := ((H57.move 5 rfl).move 3 rfl)
    refine r_cons (s_call [.pointer (some ⟨g, 0, none⟩)] pl_74 rfl rfl (Ln_whole g m (op.v : Int) (x.v.many.v : Int) (aset E x.v.index (⟨x.v.data, pp46, cc47⟩ : BytesD)) (by first | assumption | omega) H58) ?_)
    rintro _ w59 ⟨rfl, H60⟩
    refine r_cons (s_assign (.bool (decide (((aset E x.v.index (⟨x.v.data, pp46, cc47⟩ : BytesD)).length : Int) = x.v.many.v))) rfl rfl ?_)
    refine r_cons (s_assign (.int .i64 0) rfl rfl ?_)
    refine r_nil ?_
    refine g_ret' [.bool (decide (((aset E x.v.index (⟨x.v.data, pp46, cc47⟩ : BytesD)).length : Int) = x.v.many.v)), .int .i64 0] Try.func22 Try.results22 ⟨rfl, rfl, trivial⟩ ?_
    have H61 : St W w59 (blk g (.cells #[.bool true, .bool false, .int .i64 op.v, .int .i64 x.v.many.v, .map (some m), .slice none 0 0] 98 (0, 0)) :: MapA m (ents (kI .i64) evD (aset E x.v.index (⟨x.v.data, pp46, cc47⟩ : BytesD))) :: blk bk2 (.cells #[.int .i64 x.v.op.v, .int .i64 x.v.many.v, .int .i64 x.v.index.v, .slice x.p x.v.data.length x.c] 51 (0, 0)) :: Im 1 (.slice x.p x.v.data.length x.c) x.v.data.length (x.v.data.flatMap u8c) :: bdA E :: Im 1 (.slice pp46 x.v.data.length cc47) x.v.data.length (x.v.data.flatMap u8c) :: F) := Row.im H60 (i := 5) rfl
    have H62 : St W w59 (Im 1 (.slice pp46 x.v.data.length cc47) x.v.data.length (x.v.data.flatMap u8c) :: bdA E :: blk g (.cells #[.bool true, .bool false, .int .i64 op.v, .int .i64 x.v.many.v, .map (some m), .slice none 0 0] 98 (0, 0)) :: MapA m (ents (kI .i64) evD (aset E x.v.index (⟨x.v.data, pp46, cc47⟩ : BytesD))) :: blk bk2 (.cells #[.int .i64 x.v.op.v, .int .i64 x.v.many.v, .int .i64 x.v.index.v, .slice x.p x.v.data.length x.c] 51 (0, 0)) :: Im 1 (.slice x.p x.v.data.length x.c) x.v.data.length (x.v.data.flatMap u8c) :: F) := ((H61.move 4 rfl).move 5 rfl)
    have H63 : St W w59 (bdA (E ++ [(x.v.index, (⟨x.v.data, pp46, cc47⟩ : BytesD))]) :: blk g (.cells #[.bool true, .bool false, .int .i64 op.v, .int .i64 x.v.many.v, .map (some m), .slice none 0 0] 98 (0, 0)) :: MapA m (ents (kI .i64) evD (aset E x.v.index (⟨x.v.data, pp46, cc47⟩ : BytesD))) :: blk bk2 (.cells #[.int .i64 x.v.op.v, .int .i64 x.v.many.v, .int .i64 x.v.index.v, .slice x.p x.v.data.length x.c] 51 (0, 0)) :: Im 1 (.slice x.p x.v.data.length x.c) x.v.data.length (x.v.data.flatMap u8c) :: F) := bdA_snoc (k := x.v.index) (x := (⟨x.v.data, pp46, cc47⟩ : BytesD)) H62
    have hset := aset_new (v := (⟨x.v.data, pp46, cc47⟩ : BytesD)) hnew
    have H64 : St W w59 (bdA (E ++ [(x.v.index, (⟨x.v.data, pp46, cc47⟩ : BytesD))]) :: blk g (.cells #[.bool true, .bool false, .int .i64 op.v, .int .i64 x.v.many.v, .map (some m), .slice none 0 0] 98 (0, 0)) :: MapA m (ents (kI .i64) evD (E ++ [(x.v.index, (⟨x.v.data, pp46, cc47⟩ : BytesD))])) :: blk bk2 (.cells #[.int .i64 x.v.op.v, .int .i64 x.v.many.v, .int .i64 x.v.index.v, .slice x.p x.v.data.length x.c] 51 (0, 0)) :: Im 1 (.slice x.p x.v.data.length x.c) x.v.data.length (x.v.data.flatMap u8c) :: F) := by have hx := H63; rw [hset] at hx; exact hx
    have H65 : St W w59 (blk g (.cells #[.bool true, .bool false, .int .i64 op.v, .int .i64 x.v.many.v, .map (some m), .slice none 0 0] 98 (0, 0)) :: MapA m (ents (kI .i64) evD (E ++ [(x.v.index, (⟨x.v.data, pp46, cc47⟩ : BytesD))])) :: bdA (E ++ [(x.v.index, (⟨x.v.data, pp46, cc47⟩ : BytesD))]) :: F) := ((((H64.move 2 rfl).move 2 rfl).drop 3 rfl).drop 3 rfl)
    exact ⟨_, _, by rw [hset, List.length_append]; rfl, H65⟩
set_option maxHeartbeats 4000000 in
set_option maxRecDepth 100000 in
theorem Ln_Take {W w : World} {F : List Atom} (g m : Nat) (op : Int) (n : Nat) (E : List (I64 × BytesD)) (hn : 0 < n) (hn2 : n ≤ 1024) (hdec : decide ((E.length : Int) = (n : Int)) = true) (hall : ∀ j, j < n → ∃ x, aget E (i64N j) = some x) (hle : (allOf E n).length ≤ 140737488355328) (H : St W w (blk g (.cells #[.bool true, .bool false, .int .i64 op, .int .i64 (n : Int), .map (some m), .slice none 0 0] 98 (0, 0)) :: MapA m (ents (kI .i64) evD E) :: bdA E :: F)) : Calls Try.prog 25 #[.pointer (some ⟨g, 0, none⟩)] w (Ret fun v w' => ∃ p c, v = .tuple #[.slice p (allOf E n).length c, .slice none 0 0, .int .i64 0] ∧ St W w' (Row 5 1 (.slice p (allOf E n).length c) (allOf E n).length ((allOf E n).flatMap u8c) :: F)) := by
  refine calls_of_go (n := 40) Try.func25 rfl Try.ntmps25 rfl ?_
  refine g_seq ?_
  refine g_region ?_
  refine r_cons (s_assign (.slice none 0 0) rfl rfl ?_)
  refine r_cons (s_assign (.slice none 0 0) rfl rfl ?_)
  refine r_cons (s_assign (.int .i64 0) rfl rfl ?_)
  refine r_nil ?_
  refine g_seq ?_
  refine g_seq ?_
  refine g_region ?_
  refine r_cons (s_move (.pointer (some ⟨g, 0, none⟩)) rfl rfl ?_)
  refine r_cons (s_call [.pointer (some ⟨g, 0, none⟩)] pl_71 rfl rfl (Ln_open g m (op : Int) ((n : Int) : Int) (i := 0) rfl H) ?_)
  rintro _ w1 ⟨rfl, H2⟩
  refine r_cons (s_assign (.int .i64 0) rfl rfl ?_)
  refine r_nil ?_
  refine g_seq ?_
  refine g_region ?_
  refine r_cons (s_move (.int .i64 0) rfl rfl ?_)
  refine r_cons (s_neq false rfl rfl (ntrue (by decide)) rfl ?_)
  refine r_nil ?_
  refine g_false rfl ?_
  refine g_skip ?_
  refine g_seq ?_
  refine g_seq ?_
  refine g_region ?_
  refine r_cons (s_move (.pointer (some ⟨g, 0, none⟩)) rfl rfl ?_)
  refine r_cons (s_call [.pointer (some ⟨g, 0, none⟩)] pl_74 rfl rfl (Ln_whole g m (op : Int) ((n : Int) : Int) E (by first | assumption | omega) H2) ?_)
  rintro _ w3 ⟨rfl, H4⟩
  refine r_cons (s_not (decide ((E.length : Int) = (n : Int))) rfl false (by rw [hdec]; rfl) rfl ?_)
  refine r_nil ?_
  refine g_false rfl ?_
  refine g_skip ?_
  refine g_seq ?_
  refine g_region ?_
  refine r_cons (s_assign (.slice none 0 0) rfl rfl ?_)
  refine r_nil ?_
  refine g_seq ?_
  refine g_seq ?_
  refine g_region ?_
  refine r_cons (s_move (.pointer (some ⟨g, 0, none⟩)) rfl rfl ?_)
  refine r_cons (s_nilCheck (.pointer (some ⟨g, 0, none⟩)) rfl ⟨_, rfl⟩ rfl ?_)
  refine r_cons (s_fieldAddr 98 3 3 3 3 rfl fi_98_3 rfl rfl ?_)
  refine r_cons (s_load (.int .i64 (n : Int)) ag_3 rfl (H4.blk_at (i := 0) rfl) rfl rfl ?_)
  refine r_cons (s_move (.int .i64 0) rfl rfl ?_)
  refine r_nil ?_
  refine g_block ?_
  have H5 := Row.nil_intro H4 5 1
  have H6 : St W w3 (Row 5 1 (.slice none 0 0) 0 [] :: blk g (.cells #[.bool true, .bool false, .int .i64 op, .int .i64 (n : Int), .map (some m), .slice none 0 0] 98 (0, 0)) :: MapA m (ents (kI .i64) evD E) :: bdA E :: F) := ((((H5.move 3 rfl).move 3 rfl).move 3 rfl).move 3 rfl)
  refine g_loop_inv (fun (x_ : Nat × (Option Addr) × Nat) => match x_ with | (j, q, d) => [(0, .pointer (some ⟨g, 0, none⟩)), (2, .slice none 0 0), (3, .slice none 0 0), (4, .int .i64 0), (6, .slice q ((allOf E j).length) d), (19, .int .i64 (n : Int)), (20, .int .i64 (j : Int))]) (fun (x_ : Nat × (Option Addr) × Nat) w => match x_ with | (j, q, d) => (j ≤ n) ∧ St W w (Row 5 1 (.slice q ((allOf E j).length) d) ((allOf E j).length) ((allOf E j).flatMap u8c) :: blk g (.cells #[.bool true, .bool false, .int .i64 op, .int .i64 (n : Int), .map (some m), .slice none 0 0] 98 (0, 0)) :: MapA m (ents (kI .i64) evD E) :: bdA E :: F)) (fun (x_ : Nat × (Option Addr) × Nat) => match x_ with | (j, q, d) => n - j) (0, none, 0) ?_ ?_ ?_
  · exact ⟨by first | rfl | exact vint (by omega), by first | rfl | exact vint (by omega), by first | rfl | exact vint (by omega), by first | rfl | exact vint (by omega), by first | rfl | exact vint (by omega), by first | rfl | exact vint (by omega), by first | rfl | exact vint (by omega), trivial⟩
  · exact ⟨(by omega), H6⟩
  · rintro ⟨j, q, d⟩ ρ7 w8 ⟨hjn, H9⟩ nx10
    change Ends _ _ (upds ρ7 [(0, .pointer (some ⟨g, 0, none⟩)), (2, .slice none 0 0), (3, .slice none 0 0), (4, .int .i64 0), (6, .slice q ((allOf E j).length) d), (19, .int .i64 (n : Int)), (20, .int .i64 (j : Int))]) w8
    refine g_seq ?_
    refine g_region ?_
    by_cases hc11 : (j : Int) < (n : Int)
    · skip
      refine r_cons (s_lss true rfl rfl (dtrue hc11) rfl ?_)
      refine r_nil ?_
      refine g_seq ?_
      refine g_true rfl ?_
      refine g_skip ?_
      refine g_seq ?_
      refine g_block ?_
      refine g_seq ?_
      refine g_region ?_
      refine r_cons (s_move (.int .i64 (j : Int)) rfl rfl ?_)
      refine r_cons (s_assign (.int .i64 (j : Int)) rfl rfl ?_)
      refine r_nil ?_
      refine g_region ?_
      refine r_cons (s_move (.slice q ((allOf E j).length) d) rfl rfl ?_)
      refine r_cons (s_move (.pointer (some ⟨g, 0, none⟩)) rfl rfl ?_)
      refine r_cons (s_nilCheck (.pointer (some ⟨g, 0, none⟩)) rfl ⟨_, rfl⟩ rfl ?_)
      refine r_cons (s_fieldAddr 98 4 4 4 96 rfl fi_98_4 rfl rfl ?_)
      refine r_cons (s_load (.map (some m)) ag_96 rfl (H9.blk_at (i := 1) rfl) rfl rfl ?_)
      refine r_cons (s_move (.int .i64 (j : Int)) rfl rfl ?_)
      obtain ⟨x9, hx9⟩ := hall j (by omega)
      have he9 : allOf E (j + 1) = allOf E j ++ x9.data := by rw [allOf_succ, dOf_some hx9]
      have hl9 : (allOf E j).length + x9.data.length ≤ 140737488355328 := by have h8 := allOf_le E (show j + 1 ≤ n by omega); rw [he9, List.length_append] at h8; omega
      have H12 : St W w8 (Im 1 (.slice x9.p x9.data.length x9.c) x9.data.length (x9.data.flatMap u8c) :: Row 5 1 (.slice q ((allOf E j).length) d) ((allOf E j).length) ((allOf E j).flatMap u8c) :: blk g (.cells #[.bool true, .bool false, .int .i64 op, .int .i64 (n : Int), .map (some m), .slice none 0 0] 98 (0, 0)) :: MapA m (ents (kI .i64) evD E) :: bdA E :: F) := bdA_at H9 (i := 3) rfl hx9
      have hx8 : aget E (⟨(j : Int), by omega, by omega⟩ : I64) = some x9 := by rw [← hx9]; congr 1; exact I64.eq (by rw [i64N_v (by omega)])
      refine r_cons (s_lookup (ek := (kI .i64)) (ev := evD) (L := E) (⟨(j : Int), by omega, by omega⟩ : I64) (.slice x9.p x9.data.length x9.c) (MapA.at H12 (i := 3) rfl) (KeyLaw.I un_3) un_96 zv_23 rfl rfl (look_some hx8) rfl ?_)
      refine r_cons (s_append H12 1 rfl rfl rfl (Im.rd H12 (i := 0) rfl) ap_23 (by decide) (by unfold maxLen; omega) (by omega) (n' := (allOf E j).length + x9.data.length) (xs' := (allOf E j).flatMap u8c ++ x9.data.flatMap u8c) (by omega) (by first | rfl | simp) rfl ?_); intro vv13 w14 H15 hn16
      obtain ⟨pp17, cc18, rfl⟩ := Row.slice H15 (i := 1) rfl
      refine r_cons (s_assign (.slice pp17 ((allOf E j).length + x9.data.length) cc18) rfl rfl ?_)
      refine r_nil ?_
      refine g_inBlock ?_
      refine g_region ?_
      refine r_cons (s_add ((j : Int) + 1) rfl rfl (wi64 (by omega)) rfl ?_)
      refine r_cons (s_move (.int .i64 ((j : Int) + 1)) rfl rfl ?_)
      refine r_nil ?_
      have H19 : St W w14 (Im 1 (.slice x9.p x9.data.length x9.c) x9.data.length (x9.data.flatMap u8c) :: Row 5 1 (.slice pp17 ((allOf E (j + 1)).length) cc18) ((allOf E (j + 1)).length) ((allOf E (j + 1)).flatMap u8c) :: blk g (.cells #[.bool true, .bool false, .int .i64 op, .int .i64 (n : Int), .map (some m), .slice none 0 0] 98 (0, 0)) :: MapA m (ents (kI .i64) evD E) :: bdA E :: F) := by rw [he9, List.length_append, List.flatMap_append]; exact H15
      have H20 : St W w14 (Row 5 1 (.slice pp17 ((allOf E (j + 1)).length) cc18) ((allOf E (j + 1)).length) ((allOf E (j + 1)).flatMap u8c) :: blk g (.cells #[.bool true, .bool false, .int .i64 op, .int .i64 (n : Int), .map (some m), .slice none 0 0] 98 (0, 0)) :: MapA m (ents (kI .i64) evD E) :: bdA E :: F) := (((((H19.move 4 rfl).move 4 rfl).move 4 rfl).move 4 rfl).drop 4 rfl)
      exact nx10 (j + 1, pp17, cc18) _ _ ⟨(by omega), H20⟩ (by first | (dsimp only; omega) | omega) ⟨by first | rfl | exact vint (by omega), by first | rfl | exact vint (by omega), by first | rfl | exact vint (by omega), by first | rfl | exact vint (by omega), by rw [he9, List.length_append]; rfl, by first | rfl | exact vint (by omega), by first | rfl | exact vint (by omega), trivial⟩
    · skip
      refine r_cons (s_lss false rfl rfl (dfalse hc11) rfl ?_)
      refine r_nil ?_
      refine g_seq ?_
      refine g_false rfl ?_
      refine g_exit (by rfl) ?_
      refine g_seq ?_
      refine g_region ?_
      refine r_cons (s_move (.pointer (some ⟨g, 0, none⟩)) rfl rfl ?_)
      refine r_cons (s_nilCheck (.pointer (some ⟨g, 0, none⟩)) rfl ⟨_, rfl⟩ rfl ?_)
      refine r_cons (s_fieldAddr 98 1 1 1 4 rfl fi_98_1 rfl rfl ?_)
      refine r_cons (s_store H9 1 (.bool true) rfl rfl rfl sz_4 rfl (Nat.le_of_ble_eq_true rfl) rfl (cs' := #[.bool true, .bool true, .int .i64 op, .int .i64 (n : Int), .map (some m), .slice none 0 0]) rfl ?_); intro w21 H22
      refine r_nil ?_
      refine g_seq ?_
      refine g_quiet (fun w' => St W w' (Row 5 1 (.slice q ((allOf E j).length) d) ((allOf E j).length) ((allOf E j).flatMap u8c) :: blk g (.cells #[.bool true, .bool true, .int .i64 op, .int .i64 (n : Int), .map (some m), .slice none 0 0] 98 (0, 0)) :: MapA m (ents (kI .i64) evD E) :: bdA E :: F)) mixed (by kernel_rfl) H22.drew ?_
      refine q_cons (q_val rfl rfl rfl (by intro w hw; exact x_move (.slice q ((allOf E j).length) d) rfl w) ?_)
      refine q_cons (q_val rfl rfl rfl (by intro w hw; exact x_move (.pointer (some ⟨g, 0, none⟩)) rfl w) ?_)
      refine q_cons (q_val rfl rfl rfl (by intro w hw; exact x_nilCheck (.pointer (some ⟨g, 0, none⟩)) rfl ⟨_, rfl⟩ w) ?_)
      refine q_cons (q_val rfl rfl rfl (by intro w hw; exact x_fieldAddr 98 5 5 5 22 rfl fi_98_5 rfl w) ?_)
      refine q_cons (q_val rfl rfl rfl (by intro w hw; exact x_load (.slice none 0 0) ag_22 rfl (hw.blk_at (i := 1) rfl) rfl) ?_)
      refine q_cons (q_val rfl rfl rfl (by intro w hw; exact x_assign (.slice q ((allOf E j).length) d) rfl w) ?_)
      refine q_cons (q_val rfl rfl rfl (by intro w hw; exact x_assign (.slice none 0 0) rfl w) ?_)
      refine q_cons (q_val rfl rfl rfl (by intro w hw; exact x_assign (.int .i64 0) rfl w) ?_)
      refine q_nil ?_
      intro w23 H24
      refine g_ret' [.slice q ((allOf E j).length) d, .slice none 0 0, .int .i64 0] Try.func25 Try.results25 ⟨rfl, rfl, rfl, trivial⟩ ?_
      have H25 : St W w23 (Row 5 1 (.slice q ((allOf E j).length) d) ((allOf E j).length) ((allOf E j).flatMap u8c) :: F) := (((H24.drop 1 rfl).drop 1 rfl).drop 1 rfl)
      obtain rfl : j = n := by omega
      exact ⟨_, _, rfl, H25⟩
theorem Parse_good {W w : World} {F : List Atom} (A : Atom) (v0 : Value) (x : PieceV) (hok : pieceOk x = true) (hl : (pcBytes x).length ≤ 140737488355328) (hA : RdA A 1 v0 (pcBytes x).length ((pcBytes x).flatMap u8c)) {j : Nat} (hj : F[j]? = some A) (H : St W w F) : Calls Try.prog 31 #[v0] w (Ret fun v w' => ∃ q c, v = .tuple #[.agg #[.int .i64 x.op.v, .int .i64 x.many.v, .int .i64 x.index.v, .slice q x.data.length c], .int .i64 0] ∧ St W w' (DtA q c x.data :: F)) := by
  have h := migrate_ParsePiece A v0 (pcBytes x) hA hl hj H
  rw [(read_at hok).1, (read_at hok).2] at h
  exact h
set_option maxHeartbeats 4000000 in
set_option maxRecDepth 100000 in
theorem MigrateWhole_ {W w : World} {F : List Atom} (s ord : List UInt8) (u v : Value) (hs : s.length ≤ 140737488355328) {j k : Nat} (hj : F[j]? = some (Im 1 u s.length (s.flatMap u8c))) (hk : F[k]? = some (Im 1 v ord.length (ord.flatMap u8c))) (H : St W w F) : Calls Try.prog 6 #[u, v] w (Ret fun v w' => v = .bool true ∧ St W w' F) := by
  obtain ⟨pp1, cc2, rfl, hsh3⟩ := Rd.shape (Im.rd H (i := j) hj)
  have H4 := H.dup (i := j) hj (Im_pers _ _ _ _)
  have hmlH4 := Im.len H4 (i := 0) rfl
  obtain ⟨pp5, cc6, rfl, hsh7⟩ := Rd.shape (Im.rd H (i := k) hk)
  have H8 := H4.dup (i := k + 1) (by exact hk) (Im_pers _ _ _ _)
  have hmlo := Im.len H8 (i := 0) rfl
  refine calls_of_go (n := 137) Try.func6 rfl Try.ntmps6 rfl ?_
  refine g_seq ?_
  refine g_region ?_
  refine r_cons (s_assign (.bool false) rfl rfl ?_)
  refine r_nil ?_
  refine g_seq ?_
  refine g_region ?_
  refine r_cons (s_call [.int .i64 7] pl_18 rfl rfl (NewLanding_ (7 : Int) rfl H8) ?_)
  rintro _ w11 ⟨bk9, m10, rfl, H12⟩
  refine r_cons (s_move (.tuple #[.pointer (some ⟨bk9, 0, none⟩), .int .i64 0]) rfl rfl ?_)
  refine r_cons (s_extract (.pointer (some ⟨bk9, 0, none⟩)) #[.pointer (some ⟨bk9, 0, none⟩), .int .i64 0] rfl rfl rfl ?_)
  refine r_cons (s_extract (.int .i64 0) #[.pointer (some ⟨bk9, 0, none⟩), .int .i64 0] rfl rfl rfl ?_)
  refine r_cons (s_assign (.pointer (some ⟨bk9, 0, none⟩)) rfl rfl ?_)
  refine r_cons (s_assign (.int .i64 0) rfl rfl ?_)
  refine r_nil ?_
  refine g_seq ?_
  refine g_region ?_
  refine r_cons (s_move (.slice pp1 s.length cc2) rfl rfl ?_)
  refine r_cons (s_call [.int .i64 7, .slice pp1 s.length cc2] pl_33 rfl rfl (migrate_Cut o7 s (.slice pp1 s.length cc2) (by omega) (j := 3) rfl H12) ?_)
  rintro _ w17 ⟨L13, pp14, cc15, rfl, hL16, H18⟩
  refine r_cons (s_move (.tuple #[.slice pp14 L13.length cc15, .int .i64 (cutE o7 s)]) rfl rfl ?_)
  refine r_cons (s_extract (.slice pp14 L13.length cc15) #[.slice pp14 L13.length cc15, .int .i64 (cutE o7 s)] rfl rfl rfl ?_)
  refine r_cons (s_extract (.int .i64 (cutE o7 s)) #[.slice pp14 L13.length cc15, .int .i64 (cutE o7 s)] rfl rfl rfl ?_)
  refine r_cons (s_assign (.slice pp14 L13.length cc15) rfl rfl ?_)
  refine r_cons (s_assign (.int .i64 (cutE o7 s)) rfl rfl ?_)
  refine r_nil ?_
  refine g_seq ?_
  refine g_seq ?_
  refine g_region ?_
  refine r_cons (s_call [] pl_10 rfl rfl (begun_ H18) ?_)
  rintro _ w19 ⟨rfl, H20⟩
  refine r_cons (s_not true rfl false rfl rfl ?_)
  refine r_cons (s_move (.bool false) rfl rfl ?_)
  refine r_cons (r_take rfl rfl ?_)
  refine s_move (.pointer (some ⟨bk9, 0, none⟩)) rfl rfl ?_
  refine r_cons (r_take rfl rfl ?_)
  refine s_peql false un_44 rfl rfl rfl rfl ?_
  refine r_cons (s_pick_f (.bool false) rfl rfl rfl ?_)
  refine r_cons (s_move (.bool false) rfl rfl ?_)
  refine r_cons (r_take rfl rfl ?_)
  refine s_move (.int .i64 0) rfl rfl ?_
  refine r_cons (r_take rfl rfl ?_)
  refine s_neq false rfl rfl (ntrue (by decide)) rfl ?_
  refine r_cons (s_pick_f (.bool false) rfl rfl rfl ?_)
  refine r_cons (s_move (.bool false) rfl rfl ?_)
  refine r_cons (r_take rfl rfl ?_)
  refine s_move (.int .i64 (cutE o7 s)) rfl rfl ?_
  refine r_cons (r_take rfl rfl ?_)
  by_cases hc21 : cutE o7 s = 0
  · skip
    refine s_neq false rfl rfl (ntrue hc21) rfl ?_
    refine r_cons (s_pick_f (.bool false) rfl rfl rfl ?_)
    refine r_nil ?_
    refine g_false rfl ?_
    refine g_skip ?_
    refine g_seq ?_
    refine g_seq ?_
    refine g_region ?_
    refine r_cons (s_move (.slice pp14 L13.length cc15) rfl rfl ?_)
    refine r_cons (s_len L13.length rfl ⟨_, un_60⟩ rfl ?_)
    refine r_cons (s_move (.int .i64 0) rfl rfl ?_)
    refine r_nil ?_
    refine g_block ?_
    have hE0 : cutE o7 s = 0 := by first | assumption | omega
    have hLc : L13.map PieceD.v = cutL o7 s (manyOf s.length) := by rw [hL16]; exact cutV_yes hE0
    have hLn : L13.length = manyOf s.length := pieces_len (op := o7) (hLc ▸ List.Perm.refl _)
    have hm1 := manyOf_1 s.length
    have hm2 : manyOf s.length ≤ 1024 := manyOf_le (Nat.le_of_not_lt fun hc => by have h9 := cutE_3 (op := o7) (s := s) rfl hc; omega)
    obtain ⟨pA22, cA23, gA24, oA25, kA26, eA27, zA28, he34, hn29, hp30, hx31, hs32, hml, H33⟩ := Im.open_ H20 (i := 4) rfl
    obtain ⟨rfl, rfl⟩ : pp5 = pA22 ∧ cc6 = cA23 := by injection he34 with a_ b_ c_; exact ⟨a_, c_⟩
    refine g_loop_inv (fun (x_ : Nat × (List PieceD)) => match x_ with | (j, L2) => [(0, .slice pp1 s.length cc2), (1, .slice pp5 ord.length cc6), (4, .bool false), (5, .pointer (some ⟨bk9, 0, none⟩)), (7, .slice pp14 L13.length cc15), (50, .int .i64 (L13.length : Int)), (51, .int .i64 (j : Int))]) (fun (x_ : Nat × (List PieceD)) w => match x_ with | (j, L2) => (j ≤ L13.length) ∧ (L2.Perm L13) ∧ St W w (imi (0 < ord.length) gA24 (.cells kA26 eA27 zA28) :: Row 51 4 (.slice pp14 L13.length cc15) L13.length (L2.flatMap pcCell) :: pcA L13 :: blk bk9 (.cells #[.bool true, .bool false, .int .i64 7, .int .i64 0, .map (some m10), .slice none 0 0] 98 (0, 0)) :: MapA m10 (ents (kI .i64) evD ([] : List (I64 × BytesD))) :: Im 1 (.slice pp5 ord.length cc6) ord.length (ord.flatMap u8c) :: Im 1 (.slice pp1 s.length cc2) s.length (s.flatMap u8c) :: F)) (fun (x_ : Nat × (List PieceD)) => match x_ with | (j, L2) => L13.length - j) (0, L13) ?_ ?_ ?_
    · exact ⟨by first | rfl | exact vint (by omega), by first | rfl | exact vint (by omega), by first | rfl | exact vint (by omega), by first | rfl | exact vint (by omega), by first | rfl | exact vint (by omega), by first | rfl | exact vint (by omega), by first | rfl | exact vint (by omega), trivial⟩
    · exact ⟨(by omega), (List.Perm.refl _), H33⟩
    · rintro ⟨j, L2⟩ ρ35 w36 ⟨hjn, hp9, H37⟩ nx38
      change Ends _ _ (upds ρ35 [(0, .slice pp1 s.length cc2), (1, .slice pp5 ord.length cc6), (4, .bool false), (5, .pointer (some ⟨bk9, 0, none⟩)), (7, .slice pp14 L13.length cc15), (50, .int .i64 (L13.length : Int)), (51, .int .i64 (j : Int))]) w36
      refine g_seq ?_
      refine g_region ?_
      by_cases hc39 : (j : Int) < (L13.length : Int)
      · skip
        refine r_cons (s_lss true rfl rfl (dtrue hc39) rfl ?_)
        refine r_nil ?_
        refine g_seq ?_
        refine g_true rfl ?_
        refine g_skip ?_
        refine g_seq ?_
        refine g_block ?_
        refine g_seq ?_
        refine g_region ?_
        refine r_cons (s_move (.int .i64 (j : Int)) rfl rfl ?_)
        refine r_cons (s_assign (.int .i64 (j : Int)) rfl rfl ?_)
        refine r_nil ?_
        refine g_seq ?_
        refine g_region ?_
        refine r_cons (s_move (.int .i64 (j : Int)) rfl rfl ?_)
        refine r_cons (s_move (.slice pp5 ord.length cc6) rfl rfl ?_)
        refine r_cons (s_len ord.length rfl ⟨_, un_23⟩ rfl ?_)
        by_cases hc40 : (j : Int) < (ord.length : Int)
        · skip
          refine r_cons (s_lss true rfl rfl (dtrue hc40) rfl ?_)
          refine r_nil ?_
          refine g_true rfl ?_
          refine g_seq ?_
          refine g_region ?_
          refine r_cons (s_move (.slice pp5 ord.length cc6) rfl rfl ?_)
          refine r_cons (s_move (.int .i64 (j : Int)) rfl rfl ?_)
          refine r_cons (s_indexAddr gA24 (off := oA25) (j : Int) 1 (oA25 + j * 1) (by exact congrArg (fun z_ => Value.slice z_ ord.length cc6) (hp30 (by omega))) rfl el_23 (by omega) rfl rfl ?_)
          refine r_cons (s_load (.int .u8 ((ord.getD j 0).toNat : Int)) ag_5 rfl (H37.imi_at (i := 0) rfl (by omega)) (elem_cell (L := ord) (i := j) u8c_len (hx31 (by omega)) (by omega) 0 0 (by decide) _ rfl) rfl ?_)
          refine r_cons (s_conv ((ord.getD j 0).toNat : Int) rfl us_5 ik_3 (wi64 (by have := UInt8.toNat_lt (ord.getD j 0); omega)) rfl ?_)
          refine r_cons (s_move (.slice pp14 L13.length cc15) rfl rfl ?_)
          refine r_cons (s_len L13.length rfl ⟨_, un_60⟩ rfl ?_)
          have hj9 := Nat.mod_lt (ord.getD j 0).toNat (show 0 < L13.length by omega)
          obtain ⟨bk41, cur42, hp43, h44, h45, h46, h47, h48, H49⟩ := Row.open2 H37 (i := 1) rfl (by omega)
          refine r_cons (s_rem (((ord.getD j 0).toNat % L13.length : Nat) : Int) rfl rfl (by omega) (tmod_pos (by omega)) rfl ?_)
          refine r_cons (s_assign (.int .i64 (((ord.getD j 0).toNat % L13.length : Nat) : Int)) rfl rfl ?_)
          refine r_nil ?_
          have H50 : St W w36 (imi (0 < ord.length) gA24 (.cells kA26 eA27 zA28) :: pcA L13 :: blk bk9 (.cells #[.bool true, .bool false, .int .i64 7, .int .i64 0, .map (some m10), .slice none 0 0] 98 (0, 0)) :: MapA m10 (ents (kI .i64) evD ([] : List (I64 × BytesD))) :: Im 1 (.slice pp5 ord.length cc6) ord.length (ord.flatMap u8c) :: Im 1 (.slice pp1 s.length cc2) s.length (s.flatMap u8c) :: blk bk41 (.cells cur42 51 (0, 0)) :: F) := (((((((H49.move 1 rfl).move 6 rfl).move 6 rfl).move 6 rfl).move 6 rfl).move 6 rfl).move 6 rfl)
          refine g_mix (fun t_ w => St W w (imi (0 < ord.length) gA24 (.cells kA26 eA27 zA28) :: pcA L13 :: blk bk9 (.cells #[.bool true, .bool false, .int .i64 7, .int .i64 0, .map (some m10), .slice none 0 0] 98 (0, 0)) :: MapA m10 (ents (kI .i64) evD ([] : List (I64 × BytesD))) :: Im 1 (.slice pp5 ord.length cc6) ord.length (ord.flatMap u8c) :: Im 1 (.slice pp1 s.length cc2) s.length (s.flatMap u8c) :: t_)) (blk bk41 (.cells cur42 51 (0, 0)) :: F) mixed 16 rfl H50.drew ?_
          refine f_first 0 (listed' := #[true, false, false, false, false, false, false, false, false, false, false, false, false, false, false, false]) rfl (by kernel_rfl) (by kernel_rfl) (by kernel_rfl) rfl ?_
          refine f_val rfl rfl rfl (by intro t_ w hw; exact x_move (.slice pp14 L13.length cc15) rfl w) ?_
          refine f_first 1 (listed' := #[true, true, false, false, false, false, false, false, false, false, false, false, false, false, false, false]) rfl (by kernel_rfl) (by kernel_rfl) (by kernel_rfl) rfl ?_
          refine f_val rfl rfl rfl (by intro t_ w hw; exact x_move (.int .i64 (j : Int)) rfl w) ?_
          refine f_first 2 (listed' := #[true, true, true, false, false, false, false, false, false, false, false, false, false, false, false, false]) rfl (by kernel_rfl) (by kernel_rfl) (by kernel_rfl) rfl ?_
          refine f_val rfl rfl rfl (by intro t_ w hw; exact x_move (.slice pp14 L13.length cc15) rfl w) ?_
          refine f_first 3 (listed' := #[true, true, true, true, false, false, false, false, false, false, false, false, false, false, false, false]) rfl (by kernel_rfl) (by kernel_rfl) (by kernel_rfl) rfl ?_
          refine f_val rfl rfl rfl (by intro t_ w hw; exact x_move (.int .i64 (((ord.getD j 0).toNat % L13.length : Nat) : Int)) rfl w) ?_
          refine f_first 4 (listed' := #[true, true, true, true, true, false, false, false, false, false, false, false, false, false, false, false]) rfl (by kernel_rfl) (by kernel_rfl) (by kernel_rfl) rfl ?_
          refine f_val rfl rfl rfl (by intro t_ w hw; exact x_move (.slice pp14 L13.length cc15) rfl w) ?_
          refine f_first 5 (listed' := #[true, true, true, true, true, true, false, false, false, false, false, false, false, false, false, false]) rfl (by kernel_rfl) (by kernel_rfl) (by kernel_rfl) rfl ?_
          refine f_val rfl rfl rfl (by intro t_ w hw; exact x_move (.int .i64 (((ord.getD j 0).toNat % L13.length : Nat) : Int)) rfl w) ?_
          refine f_first 6 (listed' := #[true, true, true, true, true, true, true, false, false, false, false, false, false, false, false, false]) rfl (by kernel_rfl) (by kernel_rfl) (by kernel_rfl) rfl ?_
          refine f_val rfl rfl rfl (by intro t_ w hw; exact x_indexAddr bk41 (off := 0) (((ord.getD j 0).toNat % L13.length : Nat) : Int) 4 (0 + ((ord.getD j 0).toNat % L13.length) * 4) (by exact congrArg (fun z_ => Value.slice z_ L13.length cc15) ((fun (_ : 0 < 1) => hp43) (by omega))) rfl el_60 (by omega) rfl w) ?_
          refine f_first 8 (listed' := #[true, true, true, true, true, true, true, false, true, false, false, false, false, false, false, false]) rfl (by kernel_rfl) (by kernel_rfl) (by kernel_rfl) rfl ?_
          refine f_val rfl rfl rfl (by intro t_ w hw; exact x_move (.slice pp14 L13.length cc15) rfl w) ?_
          refine f_first 9 (listed' := #[true, true, true, true, true, true, true, false, true, true, false, false, false, false, false, false]) rfl (by kernel_rfl) (by kernel_rfl) (by kernel_rfl) rfl ?_
          refine f_val rfl rfl rfl (by intro t_ w hw; exact x_move (.int .i64 (j : Int)) rfl w) ?_
          refine f_first 10 (listed' := #[true, true, true, true, true, true, true, false, true, true, true, false, false, false, false, false]) rfl (by kernel_rfl) (by kernel_rfl) (by kernel_rfl) rfl ?_
          refine f_val rfl rfl rfl (by intro t_ w hw; exact x_indexAddr bk41 (off := 0) (j : Int) 4 (0 + j * 4) (by exact congrArg (fun z_ => Value.slice z_ L13.length cc15) ((fun (_ : 0 < 1) => hp43) (by omega))) rfl el_60 (by omega) rfl w) ?_
          refine f_all (rs := [7, 11]) (by kernel_rfl) (by simp) ?_
          refine a_cons ⟨_, rfl, ?_⟩ (a_cons ⟨_, rfl, ?_⟩ (fun x hx => absurd hx (by simp)))
          · skip
            intro w51 H52
            try dsimp only at H52
            refine s_loadAgg [.int .i64 ((L2.getD ((ord.getD j 0).toNat % L13.length) default).v.op.v), .int .i64 ((L2.getD ((ord.getD j 0).toNat % L13.length) default).v.many.v), .int .i64 ((L2.getD ((ord.getD j 0).toNat % L13.length) default).v.index.v), .slice ((L2.getD ((ord.getD j 0).toNat % L13.length) default).p) ((L2.getD ((ord.getD j 0).toNat % L13.length) default).v.data.length) ((L2.getD ((ord.getD j 0).toNat % L13.length) default).c)] 4 ag_51 rfl (H52.blk_at (i := 6) rfl) (by have := elem_size (i := (ord.getD j 0).toNat % L13.length) (s := 4) (show 0 + L2.length * 4 ≤ cur42.size by have := (show L2.length * 4 ≤ cur42.size by rw [hp9.length_eq, h46]; exact Nat.mul_le_mul_right 4 h44); omega) (by have hh : L2.length = L13.length := hp9.length_eq; omega); omega) (elem_take pcCell_len (by rw [hp9.length_eq]; exact h47) (by have hh : L2.length = L13.length := hp9.length_eq; omega) default) rfl ?_
            refine ⟨blk bk41 (.cells cur42 51 (0, 0)) :: F, ?_, H52⟩
            change FReg _ _ _ _ _ #[true, true, true, true, true, true, true, true, true, true, true, false, false, false, false, false] _ _
            refine f_all (rs := [11]) (by kernel_rfl) (by simp) ?_
            refine a_cons ⟨_, rfl, ?_⟩ (fun x hx => absurd hx (by simp))
            intro w53 H54
            try dsimp only at H54
            refine s_loadAgg [.int .i64 ((L2.getD j default).v.op.v), .int .i64 ((L2.getD j default).v.many.v), .int .i64 ((L2.getD j default).v.index.v), .slice ((L2.getD j default).p) ((L2.getD j default).v.data.length) ((L2.getD j default).c)] 4 ag_51 rfl (H54.blk_at (i := 6) rfl) (by have := elem_size (i := j) (s := 4) (show 0 + L2.length * 4 ≤ cur42.size by have := (show L2.length * 4 ≤ cur42.size by rw [hp9.length_eq, h46]; exact Nat.mul_le_mul_right 4 h44); omega) (by have hh : L2.length = L13.length := hp9.length_eq; omega); omega) (elem_take pcCell_len (by rw [hp9.length_eq]; exact h47) (by have hh : L2.length = L13.length := hp9.length_eq; omega) default) rfl ?_
            refine ⟨blk bk41 (.cells cur42 51 (0, 0)) :: F, ?_, H54⟩
            change FReg _ _ _ _ _ #[true, true, true, true, true, true, true, true, true, true, true, true, false, false, false, false] _ _
            refine f_first 12 (listed' := #[true, true, true, true, true, true, true, true, true, true, true, true, true, false, false, false]) rfl (by kernel_rfl) (by kernel_rfl) (by kernel_rfl) rfl ?_
            refine f_val rfl rfl rfl (by intro t_ w hw; exact x_indexAddr bk41 (off := 0) (j : Int) 4 (0 + j * 4) (by exact congrArg (fun z_ => Value.slice z_ L13.length cc15) ((fun (_ : 0 < 1) => hp43) (by omega))) rfl el_60 (by omega) rfl w) ?_
            refine f_all (rs := [13]) (by kernel_rfl) (by simp) ?_
            refine a_cons ⟨_, rfl, ?_⟩ (fun x hx => absurd hx (by simp))
            intro w55 H56
            try dsimp only at H56
            have hx59 := row_setN (f := pcCell) (L := L2) (cur := cur42) pcCell_len (by decide) (by rw [hp9.length_eq]; exact h47) (show L2.length * 4 ≤ cur42.size by rw [hp9.length_eq, h46]; exact Nat.mul_le_mul_right 4 h44) (j := j) (by have hh := hp9.length_eq; omega) (L2.getD ((ord.getD j 0).toNat % L13.length) default)
            refine s_storeAgg H56 6 #[.int .i64 ((L2.getD ((ord.getD j 0).toNat % L13.length) default).v.op.v), .int .i64 ((L2.getD ((ord.getD j 0).toNat % L13.length) default).v.many.v), .int .i64 ((L2.getD ((ord.getD j 0).toNat % L13.length) default).v.index.v), .slice ((L2.getD ((ord.getD j 0).toNat % L13.length) default).p) ((L2.getD ((ord.getD j 0).toNat % L13.length) default).v.data.length) ((L2.getD ((ord.getD j 0).toNat % L13.length) default).c)] 4 rfl rfl rfl sz_51 rfl (fun v_ hv_ => one_pc (L2.getD ((ord.getD j 0).toNat % L13.length) default) v_ hv_) (by have hh := hp9.length_eq; have hk := (show L2.length * 4 ≤ cur42.size by rw [hp9.length_eq, h46]; exact Nat.mul_le_mul_right 4 h44); omega) (fun o_ h1_ h2_ => by simp) (cs' := (writes cur42 (0 + j * 4) (pcCell (L2.getD ((ord.getD j 0).toNat % L13.length) default)))) rfl ?_; intro w57 H58
            refine ⟨blk bk41 (.cells (writes cur42 (0 + j * 4) (pcCell (L2.getD ((ord.getD j 0).toNat % L13.length) default))) 51 (0, 0)) :: F, ?_, H58⟩
            change FReg _ _ _ _ _ #[true, true, true, true, true, true, true, true, true, true, true, true, true, true, false, false] _ _
            refine f_first 14 (listed' := #[true, true, true, true, true, true, true, true, true, true, true, true, true, true, true, false]) rfl (by kernel_rfl) (by kernel_rfl) (by kernel_rfl) rfl ?_
            refine f_val rfl rfl rfl (by intro t_ w hw; exact x_indexAddr bk41 (off := 0) (((ord.getD j 0).toNat % L13.length : Nat) : Int) 4 (0 + ((ord.getD j 0).toNat % L13.length) * 4) (by exact congrArg (fun z_ => Value.slice z_ L13.length cc15) ((fun (_ : 0 < 1) => hp43) (by omega))) rfl el_60 (by omega) rfl w) ?_
            refine f_all (rs := [15]) (by kernel_rfl) (by simp) ?_
            refine a_cons ⟨_, rfl, ?_⟩ (fun x hx => absurd hx (by simp))
            intro w60 H61
            try dsimp only at H61
            have hx64 := row_setN (f := pcCell) (L := (L2.set j (L2.getD ((ord.getD j 0).toNat % L13.length) default))) (cur := (writes cur42 (0 + j * 4) (pcCell (L2.getD ((ord.getD j 0).toNat % L13.length) default)))) pcCell_len (by decide) hx59 (show (L2.set j (L2.getD ((ord.getD j 0).toNat % L13.length) default)).length * 4 ≤ (writes cur42 (0 + j * 4) (pcCell (L2.getD ((ord.getD j 0).toNat % L13.length) default))).size by rw [(show ((L2.set j (L2.getD ((ord.getD j 0).toNat % L13.length) default))).length = L13.length from by first | (rw [List.length_set]; exact hp9.length_eq) | rw [List.length_set]), (show (writes cur42 (0 + j * 4) (pcCell (L2.getD ((ord.getD j 0).toNat % L13.length) default))).size = cc15 * 4 from by rw [writes_size]; exact h46)]; exact Nat.mul_le_mul_right 4 h44) (j := (ord.getD j 0).toNat % L13.length) (by have hh := (show ((L2.set j (L2.getD ((ord.getD j 0).toNat % L13.length) default))).length = L13.length from by first | (rw [List.length_set]; exact hp9.length_eq) | rw [List.length_set]); omega) (L2.getD j default)
            refine s_storeAgg H61 6 #[.int .i64 ((L2.getD j default).v.op.v), .int .i64 ((L2.getD j default).v.many.v), .int .i64 ((L2.getD j default).v.index.v), .slice ((L2.getD j default).p) ((L2.getD j default).v.data.length) ((L2.getD j default).c)] 4 rfl rfl rfl sz_51 rfl (fun v_ hv_ => one_pc (L2.getD j default) v_ hv_) (by have hh := (show ((L2.set j (L2.getD ((ord.getD j 0).toNat % L13.length) default))).length = L13.length from by first | (rw [List.length_set]; exact hp9.length_eq) | rw [List.length_set]); have hk := (show (L2.set j (L2.getD ((ord.getD j 0).toNat % L13.length) default)).length * 4 ≤ (writes cur42 (0 + j * 4) (pcCell (L2.getD ((ord.getD j 0).toNat % L13.length) default))).size by rw [(show ((L2.set j (L2.getD ((ord.getD j 0).toNat % L13.length) default))).length = L13.length from by first | (rw [List.length_set]; exact hp9.length_eq) | rw [List.length_set]), (show (writes cur42 (0 + j * 4) (pcCell (L2.getD ((ord.getD j 0).toNat % L13.length) default))).size = cc15 * 4 from by rw [writes_size]; exact h46)]; exact Nat.mul_le_mul_right 4 h44); omega) (fun o_ h1_ h2_ => by simp) (cs' := (writes (writes cur42 (0 + j * 4) (pcCell (L2.getD ((ord.getD j 0).toNat % L13.length) default))) (0 + ((ord.getD j 0).toNat % L13.length) * 4) (pcCell (L2.getD j default)))) rfl ?_; intro w62 H63
            refine ⟨blk bk41 (.cells (writes (writes cur42 (0 + j * 4) (pcCell (L2.getD ((ord.getD j 0).toNat % L13.length) default))) (0 + ((ord.getD j 0).toNat % L13.length) * 4) (pcCell (L2.getD j default))) 51 (0, 0)) :: F, ?_, H63⟩
            change FReg _ _ _ _ _ #[true, true, true, true, true, true, true, true, true, true, true, true, true, true, true, true] _ _
            refine f_done (by kernel_rfl) ?_
            intro w65 H66
            refine g_inBlock ?_
            refine g_region ?_
            refine r_cons (s_add ((j : Int) + 1) rfl rfl (wi64 (by omega)) rfl ?_)
            refine r_cons (s_move (.int .i64 ((j : Int) + 1)) rfl rfl ?_)
            refine r_nil ?_
            have H67 := Row.shut2 (p := pp14) (n := L13.length) (c := cc15) (size := 4) (xs := ((L2.set j (L2.getD ((ord.getD j 0).toNat % L13.length) default)).set ((ord.getD j 0).toNat % L13.length) (L2.getD j default)).flatMap pcCell) H66 (i := 6) rfl hp43 h44 h45 (show (writes (writes cur42 (0 + j * 4) (pcCell (L2.getD ((ord.getD j 0).toNat % L13.length) default))) (0 + ((ord.getD j 0).toNat % L13.length) * 4) (pcCell (L2.getD j default))).size = cc15 * 4 from by rw [writes_size]; exact (show (writes cur42 (0 + j * 4) (pcCell (L2.getD ((ord.getD j 0).toNat % L13.length) default))).size = cc15 * 4 from by rw [writes_size]; exact h46)) (by have hh : ((writes (writes cur42 (0 + j * 4) (pcCell (L2.getD ((ord.getD j 0).toNat % L13.length) default))) (0 + ((ord.getD j 0).toNat % L13.length) * 4) (pcCell (L2.getD j default))).toList.drop 0).take (((L2.set j (L2.getD ((ord.getD j 0).toNat % L13.length) default)).set ((ord.getD j 0).toNat % L13.length) (L2.getD j default)).length * 4) = ((L2.set j (L2.getD ((ord.getD j 0).toNat % L13.length) default)).set ((ord.getD j 0).toNat % L13.length) (L2.getD j default)).flatMap pcCell := hx64; have hk : ((L2.set j (L2.getD ((ord.getD j 0).toNat % L13.length) default)).set ((ord.getD j 0).toNat % L13.length) (L2.getD j default)).length = L13.length := (show (((L2.set j (L2.getD ((ord.getD j 0).toNat % L13.length) default)).set ((ord.getD j 0).toNat % L13.length) (L2.getD j default))).length = L13.length from by first | (rw [List.length_set]; exact (show ((L2.set j (L2.getD ((ord.getD j 0).toNat % L13.length) default))).length = L13.length from by first | (rw [List.length_set]; exact hp9.length_eq) | rw [List.length_set])) | rw [List.length_set]); rw [hk] at hh; exact hh) (fun x_ hx_ => by obtain ⟨a_, _, ha_⟩ := List.mem_flatMap.1 hx_; exact one_pc a_ x_ ha_)
            have H68 : St W w65 (imi (0 < ord.length) gA24 (.cells kA26 eA27 zA28) :: Row 51 4 (.slice pp14 L13.length cc15) L13.length (((L2.set j (L2.getD ((ord.getD j 0).toNat % L13.length) default)).set ((ord.getD j 0).toNat % L13.length) (L2.getD j default)).flatMap pcCell) :: pcA L13 :: blk bk9 (.cells #[.bool true, .bool false, .int .i64 7, .int .i64 0, .map (some m10), .slice none 0 0] 98 (0, 0)) :: MapA m10 (ents (kI .i64) evD ([] : List (I64 × BytesD))) :: Im 1 (.slice pp5 ord.length cc6) ord.length (ord.flatMap u8c) :: Im 1 (.slice pp1 s.length cc2) s.length (s.flatMap u8c) :: F) := (((((((H67.move 5 rfl).move 5 rfl).move 5 rfl).move 5 rfl).move 5 rfl).move 6 rfl).move 6 rfl)
            exact nx38 (j + 1, ((L2.set j (L2.getD ((ord.getD j 0).toNat % L13.length) default)).set ((ord.getD j 0).toNat % L13.length) (L2.getD j default))) _ _ ⟨(by omega), ((sw_perm (by have := hp9.length_eq; omega) (by have := hp9.length_eq; have := Nat.mod_lt (ord.getD j 0).toNat (show 0 < L13.length by omega); omega)).trans hp9), H68⟩ (by first | (dsimp only; omega) | omega) ⟨by first | rfl | exact vint (by omega), by first | rfl | exact vint (by omega), by first | rfl | exact vint (by omega), by first | rfl | exact vint (by omega), by first | rfl | exact vint (by omega), by first | rfl | exact vint (by omega), by first | rfl | exact vint (by omega), trivial⟩
          · skip
            intro w69 H70
            try dsimp only at H70
            refine s_loadAgg [.int .i64 ((L2.getD j default).v.op.v), .int .i64 ((L2.getD j default).v.many.v), .int .i64 ((L2.getD j default).v.index.v), .slice ((L2.getD j default).p) ((L2.getD j default).v.data.length) ((L2.getD j default).c)] 4 ag_51 rfl (H70.blk_at (i := 6) rfl) (by have := elem_size (i := j) (s := 4) (show 0 + L2.length * 4 ≤ cur42.size by have := (show L2.length * 4 ≤ cur42.size by rw [hp9.length_eq, h46]; exact Nat.mul_le_mul_right 4 h44); omega) (by have hh : L2.length = L13.length := hp9.length_eq; omega); omega) (elem_take pcCell_len (by rw [hp9.length_eq]; exact h47) (by have hh : L2.length = L13.length := hp9.length_eq; omega) default) rfl ?_
            refine ⟨blk bk41 (.cells cur42 51 (0, 0)) :: F, ?_, H70⟩
            change FReg _ _ _ _ _ #[true, true, true, true, true, true, true, false, true, true, true, true, false, false, false, false] _ _
            refine f_all (rs := [7]) (by kernel_rfl) (by simp) ?_
            refine a_cons ⟨_, rfl, ?_⟩ (fun x hx => absurd hx (by simp))
            intro w71 H72
            try dsimp only at H72
            refine s_loadAgg [.int .i64 ((L2.getD ((ord.getD j 0).toNat % L13.length) default).v.op.v), .int .i64 ((L2.getD ((ord.getD j 0).toNat % L13.length) default).v.many.v), .int .i64 ((L2.getD ((ord.getD j 0).toNat % L13.length) default).v.index.v), .slice ((L2.getD ((ord.getD j 0).toNat % L13.length) default).p) ((L2.getD ((ord.getD j 0).toNat % L13.length) default).v.data.length) ((L2.getD ((ord.getD j 0).toNat % L13.length) default).c)] 4 ag_51 rfl (H72.blk_at (i := 6) rfl) (by have := elem_size (i := (ord.getD j 0).toNat % L13.length) (s := 4) (show 0 + L2.length * 4 ≤ cur42.size by have := (show L2.length * 4 ≤ cur42.size by rw [hp9.length_eq, h46]; exact Nat.mul_le_mul_right 4 h44); omega) (by have hh : L2.length = L13.length := hp9.length_eq; omega); omega) (elem_take pcCell_len (by rw [hp9.length_eq]; exact h47) (by have hh : L2.length = L13.length := hp9.length_eq; omega) default) rfl ?_
            refine ⟨blk bk41 (.cells cur42 51 (0, 0)) :: F, ?_, H72⟩
            change FReg _ _ _ _ _ #[true, true, true, true, true, true, true, true, true, true, true, true, false, false, false, false] _ _
            refine f_first 12 (listed' := #[true, true, true, true, true, true, true, true, true, true, true, true, true, false, false, false]) rfl (by kernel_rfl) (by kernel_rfl) (by kernel_rfl) rfl ?_
            refine f_val rfl rfl rfl (by intro t_ w hw; exact x_indexAddr bk41 (off := 0) (j : Int) 4 (0 + j * 4) (by exact congrArg (fun z_ => Value.slice z_ L13.length cc15) ((fun (_ : 0 < 1) => hp43) (by omega))) rfl el_60 (by omega) rfl w) ?_
            refine f_all (rs := [13]) (by kernel_rfl) (by simp) ?_
            refine a_cons ⟨_, rfl, ?_⟩ (fun x hx => absurd hx (by simp))
            intro w73 H74
            try dsimp only at H74
            have hx77 := row_setN (f := pcCell) (L := L2) (cur := cur42) pcCell_len (by decide) (by rw [hp9.length_eq]; exact h47) (show L2.length * 4 ≤ cur42.size by rw [hp9.length_eq, h46]; exact Nat.mul_le_mul_right 4 h44) (j := j) (by have hh := hp9.length_eq; omega) (L2.getD ((ord.getD j 0).toNat % L13.length) default)
            refine s_storeAgg H74 6 #[.int .i64 ((L2.getD ((ord.getD j 0).toNat % L13.length) default).v.op.v), .int .i64 ((L2.getD ((ord.getD j 0).toNat % L13.length) default).v.many.v), .int .i64 ((L2.getD ((ord.getD j 0).toNat % L13.length) default).v.index.v), .slice ((L2.getD ((ord.getD j 0).toNat % L13.length) default).p) ((L2.getD ((ord.getD j 0).toNat % L13.length) default).v.data.length) ((L2.getD ((ord.getD j 0).toNat % L13.length) default).c)] 4 rfl rfl rfl sz_51 rfl (fun v_ hv_ => one_pc (L2.getD ((ord.getD j 0).toNat % L13.length) default) v_ hv_) (by have hh := hp9.length_eq; have hk := (show L2.length * 4 ≤ cur42.size by rw [hp9.length_eq, h46]; exact Nat.mul_le_mul_right 4 h44); omega) (fun o_ h1_ h2_ => by simp) (cs' := (writes cur42 (0 + j * 4) (pcCell (L2.getD ((ord.getD j 0).toNat % L13.length) default)))) rfl ?_; intro w75 H76
            refine ⟨blk bk41 (.cells (writes cur42 (0 + j * 4) (pcCell (L2.getD ((ord.getD j 0).toNat % L13.length) default))) 51 (0, 0)) :: F, ?_, H76⟩
            change FReg _ _ _ _ _ #[true, true, true, true, true, true, true, true, true, true, true, true, true, true, false, false] _ _
            refine f_first 14 (listed' := #[true, true, true, true, true, true, true, true, true, true, true, true, true, true, true, false]) rfl (by kernel_rfl) (by kernel_rfl) (by kernel_rfl) rfl ?_
            refine f_val rfl rfl rfl (by intro t_ w hw; exact x_indexAddr bk41 (off := 0) (((ord.getD j 0).toNat % L13.length : Nat) : Int) 4 (0 + ((ord.getD j 0).toNat % L13.length) * 4) (by exact congrArg (fun z_ => Value.slice z_ L13.length cc15) ((fun (_ : 0 < 1) => hp43) (by omega))) rfl el_60 (by omega) rfl w) ?_
            refine f_all (rs := [15]) (by kernel_rfl) (by simp) ?_
            refine a_cons ⟨_, rfl, ?_⟩ (fun x hx => absurd hx (by simp))
            intro w78 H79
            try dsimp only at H79
            have hx82 := row_setN (f := pcCell) (L := (L2.set j (L2.getD ((ord.getD j 0).toNat % L13.length) default))) (cur := (writes cur42 (0 + j * 4) (pcCell (L2.getD ((ord.getD j 0).toNat % L13.length) default)))) pcCell_len (by decide) hx77 (show (L2.set j (L2.getD ((ord.getD j 0).toNat % L13.length) default)).length * 4 ≤ (writes cur42 (0 + j * 4) (pcCell (L2.getD ((ord.getD j 0).toNat % L13.length) default))).size by rw [(show ((L2.set j (L2.getD ((ord.getD j 0).toNat % L13.length) default))).length = L13.length from by first | (rw [List.length_set]; exact hp9.length_eq) | rw [List.length_set]), (show (writes cur42 (0 + j * 4) (pcCell (L2.getD ((ord.getD j 0).toNat % L13.length) default))).size = cc15 * 4 from by rw [writes_size]; exact h46)]; exact Nat.mul_le_mul_right 4 h44) (j := (ord.getD j 0).toNat % L13.length) (by have hh := (show ((L2.set j (L2.getD ((ord.getD j 0).toNat % L13.length) default))).length = L13.length from by first | (rw [List.length_set]; exact hp9.length_eq) | rw [List.length_set]); omega) (L2.getD j default)
            refine s_storeAgg H79 6 #[.int .i64 ((L2.getD j default).v.op.v), .int .i64 ((L2.getD j default).v.many.v), .int .i64 ((L2.getD j default).v.index.v), .slice ((L2.getD j default).p) ((L2.getD j default).v.data.length) ((L2.getD j default).c)] 4 rfl rfl rfl sz_51 rfl (fun v_ hv_ => one_pc (L2.getD j default) v_ hv_) (by have hh := (show ((L2.set j (L2.getD ((ord.getD j 0).toNat % L13.length) default))).length = L13.length from by first | (rw [List.length_set]; exact hp9.length_eq) | rw [List.length_set]); have hk := (show (L2.set j (L2.getD ((ord.getD j 0).toNat % L13.length) default)).length * 4 ≤ (writes cur42 (0 + j * 4) (pcCell (L2.getD ((ord.getD j 0).toNat % L13.length) default))).size by rw [(show ((L2.set j (L2.getD ((ord.getD j 0).toNat % L13.length) default))).length = L13.length from by first | (rw [List.length_set]; exact hp9.length_eq) | rw [List.length_set]), (show (writes cur42 (0 + j * 4) (pcCell (L2.getD ((ord.getD j 0).toNat % L13.length) default))).size = cc15 * 4 from by rw [writes_size]; exact h46)]; exact Nat.mul_le_mul_right 4 h44); omega) (fun o_ h1_ h2_ => by simp) (cs' := (writes (writes cur42 (0 + j * 4) (pcCell (L2.getD ((ord.getD j 0).toNat % L13.length) default))) (0 + ((ord.getD j 0).toNat % L13.length) * 4) (pcCell (L2.getD j default)))) rfl ?_; intro w80 H81
            refine ⟨blk bk41 (.cells (writes (writes cur42 (0 + j * 4) (pcCell (L2.getD ((ord.getD j 0).toNat % L13.length) default))) (0 + ((ord.getD j 0).toNat % L13.length) * 4) (pcCell (L2.getD j default))) 51 (0, 0)) :: F, ?_, H81⟩
            change FReg _ _ _ _ _ #[true, true, true, true, true, true, true, true, true, true, true, true, true, true, true, true] _ _
            refine f_done (by kernel_rfl) ?_
            intro w83 H84
            refine g_inBlock ?_
            refine g_region ?_
            refine r_cons (s_add ((j : Int) + 1) rfl rfl (wi64 (by omega)) rfl ?_)
            refine r_cons (s_move (.int .i64 ((j : Int) + 1)) rfl rfl ?_)
            refine r_nil ?_
            have H85 := Row.shut2 (p := pp14) (n := L13.length) (c := cc15) (size := 4) (xs := ((L2.set j (L2.getD ((ord.getD j 0).toNat % L13.length) default)).set ((ord.getD j 0).toNat % L13.length) (L2.getD j default)).flatMap pcCell) H84 (i := 6) rfl hp43 h44 h45 (show (writes (writes cur42 (0 + j * 4) (pcCell (L2.getD ((ord.getD j 0).toNat % L13.length) default))) (0 + ((ord.getD j 0).toNat % L13.length) * 4) (pcCell (L2.getD j default))).size = cc15 * 4 from by rw [writes_size]; exact (show (writes cur42 (0 + j * 4) (pcCell (L2.getD ((ord.getD j 0).toNat % L13.length) default))).size = cc15 * 4 from by rw [writes_size]; exact h46)) (by have hh : ((writes (writes cur42 (0 + j * 4) (pcCell (L2.getD ((ord.getD j 0).toNat % L13.length) default))) (0 + ((ord.getD j 0).toNat % L13.length) * 4) (pcCell (L2.getD j default))).toList.drop 0).take (((L2.set j (L2.getD ((ord.getD j 0).toNat % L13.length) default)).set ((ord.getD j 0).toNat % L13.length) (L2.getD j default)).length * 4) = ((L2.set j (L2.getD ((ord.getD j 0).toNat % L13.length) default)).set ((ord.getD j 0).toNat % L13.length) (L2.getD j default)).flatMap pcCell := hx82; have hk : ((L2.set j (L2.getD ((ord.getD j 0).toNat % L13.length) default)).set ((ord.getD j 0).toNat % L13.length) (L2.getD j default)).length = L13.length := (show (((L2.set j (L2.getD ((ord.getD j 0).toNat % L13.length) default)).set ((ord.getD j 0).toNat % L13.length) (L2.getD j default))).length = L13.length from by first | (rw [List.length_set]; exact (show ((L2.set j (L2.getD ((ord.getD j 0).toNat % L13.length) default))).length = L13.length from by first | (rw [List.length_set]; exact hp9.length_eq) | rw [List.length_set])) | rw [List.length_set]); rw [hk] at hh; exact hh) (fun x_ hx_ => by obtain ⟨a_, _, ha_⟩ := List.mem_flatMap.1 hx_; exact one_pc a_ x_ ha_)
            have H86 : St W w83 (imi (0 < ord.length) gA24 (.cells kA26 eA27 zA28) :: Row 51 4 (.slice pp14 L13.length cc15) L13.length (((L2.set j (L2.getD ((ord.getD j 0).toNat % L13.length) default)).set ((ord.getD j 0).toNat % L13.length) (L2.getD j default)).flatMap pcCell) :: pcA L13 :: blk bk9 (.cells #[.bool true, .bool false, .int .i64 7, .int .i64 0, .map (some m10), .slice none 0 0] 98 (0, 0)) :: MapA m10 (ents (kI .i64) evD ([] : List (I64 × BytesD))) :: Im 1 (.slice pp5 ord.length cc6) ord.length (ord.flatMap u8c) :: Im 1 (.slice pp1 s.length cc2) s.length (s.flatMap u8c) :: F) := (((((((H85.move 5 rfl).move 5 rfl).move 5 rfl).move 5 rfl).move 5 rfl).move 6 rfl).move 6 rfl)
            exact nx38 (j + 1, ((L2.set j (L2.getD ((ord.getD j 0).toNat % L13.length) default)).set ((ord.getD j 0).toNat % L13.length) (L2.getD j default))) _ _ ⟨(by omega), ((sw_perm (by have := hp9.length_eq; omega) (by have := hp9.length_eq; have := Nat.mod_lt (ord.getD j 0).toNat (show 0 < L13.length by omega); omega)).trans hp9), H86⟩ (by first | (dsimp only; omega) | omega) ⟨by first | rfl | exact vint (by omega), by first | rfl | exact vint (by omega), by first | rfl | exact vint (by omega), by first | rfl | exact vint (by omega), by first | rfl | exact vint (by omega), by first | rfl | exact vint (by omega), by first | rfl | exact vint (by omega), trivial⟩
        · skip
          refine r_cons (s_lss false rfl rfl (dfalse hc40) rfl ?_)
          refine r_nil ?_
          refine g_false rfl ?_
          refine g_skip ?_
          refine g_inBlock ?_
          refine g_region ?_
          refine r_cons (s_add ((j : Int) + 1) rfl rfl (wi64 (by omega)) rfl ?_)
          refine r_cons (s_move (.int .i64 ((j : Int) + 1)) rfl rfl ?_)
          refine r_nil ?_
          have H87 : St W w36 (imi (0 < ord.length) gA24 (.cells kA26 eA27 zA28) :: Row 51 4 (.slice pp14 L13.length cc15) L13.length (L2.flatMap pcCell) :: pcA L13 :: blk bk9 (.cells #[.bool true, .bool false, .int .i64 7, .int .i64 0, .map (some m10), .slice none 0 0] 98 (0, 0)) :: MapA m10 (ents (kI .i64) evD ([] : List (I64 × BytesD))) :: Im 1 (.slice pp5 ord.length cc6) ord.length (ord.flatMap u8c) :: Im 1 (.slice pp1 s.length cc2) s.length (s.flatMap u8c) :: F) := (((((((H37.move 6 rfl).move 6 rfl).move 6 rfl).move 6 rfl).move 6 rfl).move 6 rfl).move 6 rfl)
          exact nx38 (j + 1, L2) _ _ ⟨(by omega), hp9, H87⟩ (by first | (dsimp only; omega) | omega) ⟨by first | rfl | exact vint (by omega), by first | rfl | exact vint (by omega), by first | rfl | exact vint (by omega), by first | rfl | exact vint (by omega), by first | rfl | exact vint (by omega), by first | rfl | exact vint (by omega), by first | rfl | exact vint (by omega), trivial⟩
      · skip
        refine r_cons (s_lss false rfl rfl (dfalse hc39) rfl ?_)
        refine r_nil ?_
        refine g_seq ?_
        refine g_false rfl ?_
        refine g_exit (by rfl) ?_
        refine g_seq ?_
        refine g_seq ?_
        refine g_region ?_
        refine r_cons (s_move (.slice pp14 L13.length cc15) rfl rfl ?_)
        refine r_cons (s_len L13.length rfl ⟨_, un_60⟩ rfl ?_)
        refine r_cons (s_move (.int .i64 0) rfl rfl ?_)
        refine r_nil ?_
        refine g_block ?_
        have hl9 := hp9.length_eq
        have hpV : (L2.map PieceD.v).Perm (cutL o7 s (manyOf s.length)) := hLc ▸ hp9.map PieceD.v
        have H88 : St W w36 (imi (0 < ord.length) gA24 (.cells kA26 eA27 zA28) :: Row 51 4 (.slice pp14 L2.length cc15) L2.length (L2.flatMap pcCell) :: pcA L13 :: blk bk9 (.cells #[.bool true, .bool false, .int .i64 7, .int .i64 0, .map (some m10), .slice none 0 0] 98 (0, 0)) :: MapA m10 (ents (kI .i64) evD ([] : List (I64 × BytesD))) :: Im 1 (.slice pp5 ord.length cc6) ord.length (ord.flatMap u8c) :: Im 1 (.slice pp1 s.length cc2) s.length (s.flatMap u8c) :: F) := by rw [hl9]; exact H37
        have H89 : St W w36 (imi (0 < ord.length) gA24 (.cells kA26 eA27 zA28) :: Im 4 (.slice pp14 L2.length cc15) L2.length (L2.flatMap pcCell) :: pcA L13 :: blk bk9 (.cells #[.bool true, .bool false, .int .i64 7, .int .i64 0, .map (some m10), .slice none 0 0] 98 (0, 0)) :: MapA m10 (ents (kI .i64) evD ([] : List (I64 × BytesD))) :: Im 1 (.slice pp5 ord.length cc6) ord.length (ord.flatMap u8c) :: Im 1 (.slice pp1 s.length cc2) s.length (s.flatMap u8c) :: F) := Row.im H88 (i := 1) rfl
        obtain ⟨pA90, cA91, gA92, oA93, kA94, eA95, zA96, he102, hn97, hp98, hx99, hs100, hml, H101⟩ := Im.open_ H89 (i := 1) rfl
        obtain ⟨rfl, rfl⟩ : pp14 = pA90 ∧ cc15 = cA91 := by injection he102 with a_ b_ c_; exact ⟨a_, c_⟩
        have H103 := pcA_perm H101 (i := 3) rfl hp9
        have H104 := bdA_nil H103
        have H105 : St W w36 (blk bk9 (.cells #[.bool true, .bool false, .int .i64 7, .int .i64 0, .map (some m10), .slice none 0 0] 98 (0, 0)) :: MapA m10 (ents (kI .i64) evD ([] : List (I64 × BytesD))) :: bdA ([] : List (I64 × BytesD)) :: pcA L2 :: imi (0 < L2.length) gA92 (.cells kA94 eA95 zA96) :: Im 1 (.slice pp1 s.length cc2) s.length (s.flatMap u8c) :: F) := ((((((((((H104.move 9 rfl).move 3 rfl).move 3 rfl).move 3 rfl).move 8 rfl).move 8 rfl).drop 6 rfl).drop 6 rfl).drop 6 rfl).drop 6 rfl)
        refine g_loop_inv (fun (x_ : Nat × (List (I64 × BytesD)) × Int) => match x_ with | (i9, E, k9) => [(0, .slice pp1 s.length cc2), (4, .bool false), (5, .pointer (some ⟨bk9, 0, none⟩)), (7, .slice pp14 L13.length cc15), (81, .slice pp14 L13.length cc15), (82, .int .i64 (L13.length : Int)), (83, .int .i64 (i9 : Int))]) (fun (x_ : Nat × (List (I64 × BytesD)) × Int) w => match x_ with | (i9, E, k9) => (i9 ≤ L2.length) ∧ (keyed E = told ((L2.map PieceD.v).take i9)) ∧ ((i9 = 0 ∧ k9 = 0) ∨ k9 = (manyOf s.length : Nat)) ∧ St W w (blk bk9 (.cells #[.bool true, .bool false, .int .i64 7, .int .i64 k9, .map (some m10), .slice none 0 0] 98 (0, 0)) :: MapA m10 (ents (kI .i64) evD E) :: bdA E :: pcA L2 :: imi (0 < L2.length) gA92 (.cells kA94 eA95 zA96) :: Im 1 (.slice pp1 s.length cc2) s.length (s.flatMap u8c) :: F)) (fun (x_ : Nat × (List (I64 × BytesD)) × Int) => match x_ with | (i9, E, k9) => L2.length - i9) (0, ([] : List (I64 × BytesD)), 0) ?_ ?_ ?_
        · exact ⟨by first | rfl | exact vint (by omega), by first | rfl | exact vint (by omega), by first | rfl | exact vint (by omega), by first | rfl | exact vint (by omega), by first | rfl | exact vint (by omega), by first | rfl | exact vint (by omega), by first | rfl | exact vint (by omega), trivial⟩
        · exact ⟨(by omega), rfl, (.inl ⟨rfl, rfl⟩), H105⟩
        · rintro ⟨i9, E, k9⟩ ρ106 w107 ⟨hi9, hE9, hk9, H108⟩ nx109
          change Ends _ _ (upds ρ106 [(0, .slice pp1 s.length cc2), (4, .bool false), (5, .pointer (some ⟨bk9, 0, none⟩)), (7, .slice pp14 L13.length cc15), (81, .slice pp14 L13.length cc15), (82, .int .i64 (L13.length : Int)), (83, .int .i64 (i9 : Int))]) w107
          refine g_seq ?_
          refine g_region ?_
          by_cases hc110 : (i9 : Int) < (L13.length : Int)
          · skip
            refine r_cons (s_lss true rfl rfl (dtrue hc110) rfl ?_)
            refine r_nil ?_
            refine g_seq ?_
            refine g_true rfl ?_
            refine g_skip ?_
            refine g_seq ?_
            refine g_block ?_
            refine g_seq ?_
            refine g_region ?_
            refine r_cons (s_move (.int .i64 (i9 : Int)) rfl rfl ?_)
            refine r_cons (s_indexAddr gA92 (off := oA93) (i9 : Int) 4 (oA93 + i9 * 4) (by exact congrArg (fun z_ => Value.slice z_ L13.length cc15) (hp98 (by omega))) rfl el_60 (by omega) rfl rfl ?_)
            refine r_cons (s_loadAgg [.int .i64 ((L2.getD i9 default).v.op.v), .int .i64 ((L2.getD i9 default).v.many.v), .int .i64 ((L2.getD i9 default).v.index.v), .slice ((L2.getD i9 default).p) ((L2.getD i9 default).v.data.length) ((L2.getD i9 default).c)] 4 ag_51 rfl (H108.imi_at (i := 4) rfl (by omega)) (by have := elem_size (i := i9) (s := 4) (hs100 (by omega)) (by omega); omega) (elem_take pcCell_len (hx99 (by omega)) (by omega) default) rfl ?_)
            refine r_cons (s_alloc H108 51 ze_51 rfl ?_); intro bk111 w112 H113
            refine r_cons (s_assign (.int .i64 (i9 : Int)) rfl rfl ?_)
            refine r_cons (s_storeAgg H113 0 #[.int .i64 ((L2.getD i9 default).v.op.v), .int .i64 ((L2.getD i9 default).v.many.v), .int .i64 ((L2.getD i9 default).v.index.v), .slice ((L2.getD i9 default).p) ((L2.getD i9 default).v.data.length) ((L2.getD i9 default).c)] 4 rfl rfl rfl sz_51 rfl (by simp [Value.oneCell']) (Nat.le_of_ble_eq_true rfl) (fun o h1 h2 => by first | (simp; done) | (simp; omega)) (cs' := #[.int .i64 ((L2.getD i9 default).v.op.v), .int .i64 ((L2.getD i9 default).v.many.v), .int .i64 ((L2.getD i9 default).v.index.v), .slice ((L2.getD i9 default).p) ((L2.getD i9 default).v.data.length) ((L2.getD i9 default).c)]) rfl ?_); intro w114 H115
            refine r_nil ?_
            refine g_seq ?_
            refine g_region ?_
            obtain ⟨hpok, hpo, hpm⟩ := piece_at (i := i9) hE0 hpV (by omega)
            have hln9 := keyed_len2 hE9 hi9
            have H116 : St W w114 (Im 1 (.slice ((L2.getD i9 default).p) ((L2.getD i9 default).v.data.length) ((L2.getD i9 default).c)) (((L2.getD i9 default).v.data).length) (((L2.getD i9 default).v.data).flatMap u8c) :: blk bk111 (.cells #[.int .i64 ((L2.getD i9 default).v.op.v), .int .i64 ((L2.getD i9 default).v.many.v), .int .i64 ((L2.getD i9 default).v.index.v), .slice ((L2.getD i9 default).p) ((L2.getD i9 default).v.data.length) ((L2.getD i9 default).c)] 51 (0, 0)) :: blk bk9 (.cells #[.bool true, .bool false, .int .i64 7, .int .i64 k9, .map (some m10), .slice none 0 0] 98 (0, 0)) :: MapA m10 (ents (kI .i64) evD E) :: bdA E :: pcA L2 :: imi (0 < L2.length) gA92 (.cells kA94 eA95 zA96) :: Im 1 (.slice pp1 s.length cc2) s.length (s.flatMap u8c) :: F) := pcA_at H115 (i := 4) rfl (j := i9) (by omega)
            refine r_cons (s_loadAgg [.int .i64 ((L2.getD i9 default).v.op.v), .int .i64 ((L2.getD i9 default).v.many.v), .int .i64 ((L2.getD i9 default).v.index.v), .slice ((L2.getD i9 default).p) ((L2.getD i9 default).v.data.length) ((L2.getD i9 default).c)] 4 ag_51 rfl (H116.blk_at (i := 1) rfl) (Nat.le_of_ble_eq_true rfl) rfl rfl ?_)
            refine r_cons (s_call [.agg #[.int .i64 ((L2.getD i9 default).v.op.v), .int .i64 ((L2.getD i9 default).v.many.v), .int .i64 ((L2.getD i9 default).v.index.v), .slice ((L2.getD i9 default).p) ((L2.getD i9 default).v.data.length) ((L2.getD i9 default).c)]] pl_29 rfl rfl (migrate_PieceBytes (L2.getD i9 default) (j := 0) rfl H116) ?_)
            rintro _ w119 ⟨pp117, _, cc118, rfl, rfl, H120⟩
            refine r_cons (s_move (.tuple #[.slice pp117 ((pcBytes (L2.getD i9 default).v).length) cc118, .int .i64 (pcE (L2.getD i9 default).v)]) rfl rfl ?_)
            refine r_cons (s_extract (.slice pp117 ((pcBytes (L2.getD i9 default).v).length) cc118) #[.slice pp117 ((pcBytes (L2.getD i9 default).v).length) cc118, .int .i64 (pcE (L2.getD i9 default).v)] rfl rfl rfl ?_)
            refine r_cons (s_extract (.int .i64 (pcE (L2.getD i9 default).v)) #[.slice pp117 ((pcBytes (L2.getD i9 default).v).length) cc118, .int .i64 (pcE (L2.getD i9 default).v)] rfl rfl rfl ?_)
            refine r_cons (s_assign (.slice pp117 ((pcBytes (L2.getD i9 default).v).length) cc118) rfl rfl ?_)
            refine r_cons (s_assign (.int .i64 (pcE (L2.getD i9 default).v)) rfl rfl ?_)
            refine r_nil ?_
            refine g_seq ?_
            refine g_region ?_
            refine r_cons (s_move (.slice pp117 ((pcBytes (L2.getD i9 default).v).length) cc118) rfl rfl ?_)
            refine r_cons (s_call [.slice pp117 ((pcBytes (L2.getD i9 default).v).length) cc118] pl_31 rfl rfl (Parse_good _ _ (L2.getD i9 default).v hpok (pcBytes_len hpok) RdA.row (j := 0) rfl H120) ?_)
            rintro _ w123 ⟨pp121, cc122, rfl, H124⟩
            refine r_cons (s_move (.tuple #[.agg #[.int .i64 ((L2.getD i9 default).v.op.v), .int .i64 ((L2.getD i9 default).v.many.v), .int .i64 ((L2.getD i9 default).v.index.v), .slice pp121 ((L2.getD i9 default).v.data.length) cc122], .int .i64 0]) rfl rfl ?_)
            refine r_cons (s_extract (.agg #[.int .i64 ((L2.getD i9 default).v.op.v), .int .i64 ((L2.getD i9 default).v.many.v), .int .i64 ((L2.getD i9 default).v.index.v), .slice pp121 ((L2.getD i9 default).v.data.length) cc122]) #[.agg #[.int .i64 ((L2.getD i9 default).v.op.v), .int .i64 ((L2.getD i9 default).v.many.v), .int .i64 ((L2.getD i9 default).v.index.v), .slice pp121 ((L2.getD i9 default).v.data.length) cc122], .int .i64 0] rfl rfl rfl ?_)
            refine r_cons (s_extract (.int .i64 0) #[.agg #[.int .i64 ((L2.getD i9 default).v.op.v), .int .i64 ((L2.getD i9 default).v.many.v), .int .i64 ((L2.getD i9 default).v.index.v), .slice pp121 ((L2.getD i9 default).v.data.length) cc122], .int .i64 0] rfl rfl rfl ?_)
            refine r_cons (s_alloc H124 51 ze_51 rfl ?_); intro bk125 w126 H127
            refine r_cons (s_storeAgg H127 0 #[.int .i64 ((L2.getD i9 default).v.op.v), .int .i64 ((L2.getD i9 default).v.many.v), .int .i64 ((L2.getD i9 default).v.index.v), .slice pp121 ((L2.getD i9 default).v.data.length) cc122] 4 rfl rfl rfl sz_51 rfl (by simp [Value.oneCell']) (Nat.le_of_ble_eq_true rfl) (fun o h1 h2 => by first | (simp; done) | (simp; omega)) (cs' := #[.int .i64 ((L2.getD i9 default).v.op.v), .int .i64 ((L2.getD i9 default).v.many.v), .int .i64 ((L2.getD i9 default).v.index.v), .slice pp121 ((L2.getD i9 default).v.data.length) cc122]) rfl ?_); intro w128 H129
            refine r_cons (s_assign (.int .i64 0) rfl rfl ?_)
            refine r_nil ?_
            refine g_seq ?_
            refine g_region ?_
            refine r_cons (s_move (.pointer (some ⟨bk9, 0, none⟩)) rfl rfl ?_)
            refine r_cons (s_loadAgg [.int .i64 ((L2.getD i9 default).v.op.v), .int .i64 ((L2.getD i9 default).v.many.v), .int .i64 ((L2.getD i9 default).v.index.v), .slice pp121 ((L2.getD i9 default).v.data.length) cc122] 4 ag_51 rfl (H129.blk_at (i := 0) rfl) (Nat.le_of_ble_eq_true rfl) rfl rfl ?_)
            have H130 : St W w128 (blk bk9 (.cells #[.bool true, .bool false, .int .i64 7, .int .i64 k9, .map (some m10), .slice none 0 0] 98 (0, 0)) :: MapA m10 (ents (kI .i64) evD E) :: bdA E :: blk bk125 (.cells #[.int .i64 ((L2.getD i9 default).v.op.v), .int .i64 ((L2.getD i9 default).v.many.v), .int .i64 ((L2.getD i9 default).v.index.v), .slice pp121 ((L2.getD i9 default).v.data.length) cc122] 51 (0, 0)) :: Im 1 (.slice pp121 ((L2.getD i9 default).v.data.length) cc122) (((L2.getD i9 default).v.data).length) (((L2.getD i9 default).v.data).flatMap u8c) :: Row 5 1 (.slice pp117 ((pcBytes (L2.getD i9 default).v).length) cc118) ((pcBytes (L2.getD i9 default).v).length) ((pcBytes (L2.getD i9 default).v).flatMap u8c) :: Im 1 (.slice ((L2.getD i9 default).p) ((L2.getD i9 default).v.data.length) ((L2.getD i9 default).c)) (((L2.getD i9 default).v.data).length) (((L2.getD i9 default).v.data).flatMap u8c) :: blk bk111 (.cells #[.int .i64 ((L2.getD i9 default).v.op.v), .int .i64 ((L2.getD i9 default).v.many.v), .int .i64 ((L2.getD i9 default).v.index.v), .slice ((L2.getD i9 default).p) ((L2.getD i9 default).v.data.length) ((L2.getD i9 default).c)] 51 (0, 0)) :: pcA L2 :: imi (0 < L2.length) gA92 (.cells kA94 eA95 zA96) :: Im 1 (.slice pp1 s.length cc2) s.length (s.flatMap u8c) :: F) := (((H129.move 7 rfl).move 7 rfl).move 7 rfl)
            refine r_cons (s_call [.pointer (some ⟨bk9, 0, none⟩), .agg #[.int .i64 ((L2.getD i9 default).v.op.v), .int .i64 ((L2.getD i9 default).v.many.v), .int .i64 ((L2.getD i9 default).v.index.v), .slice pp121 ((L2.getD i9 default).v.data.length) cc122]] pl_22 rfl rfl (Ln_Piece bk9 m10 o7 (k9 : Int) E (⟨(L2.getD i9 default).v, pp121, cc122⟩ : PieceD) hpok hpo (hk9.elim (fun h => .inl h.2) (fun h => .inr (h.trans hpm.symm))) (new_key2 hm2 hpV hE9 (by omega)) (j := 1) rfl H130) ?_)
            rintro _ w133 ⟨pp131, cc132, rfl, H134⟩
            refine r_cons (s_move (.tuple #[.bool (decide (((E.length + 1 : Nat) : Int) = (L2.getD i9 default).v.many.v)), .int .i64 0]) rfl rfl ?_)
            refine r_cons (s_extract (.bool (decide (((E.length + 1 : Nat) : Int) = (L2.getD i9 default).v.many.v))) #[.bool (decide (((E.length + 1 : Nat) : Int) = (L2.getD i9 default).v.many.v)), .int .i64 0] rfl rfl rfl ?_)
            refine r_cons (s_extract (.int .i64 0) #[.bool (decide (((E.length + 1 : Nat) : Int) = (L2.getD i9 default).v.many.v)), .int .i64 0] rfl rfl rfl ?_)
            refine r_cons (s_assign (.bool (decide (((E.length + 1 : Nat) : Int) = (L2.getD i9 default).v.many.v))) rfl rfl ?_)
            refine r_cons (s_assign (.int .i64 0) rfl rfl ?_)
            refine r_nil ?_
            refine g_seq ?_
            refine g_region ?_
            refine r_cons (s_move (.int .i64 (pcE (L2.getD i9 default).v)) rfl rfl ?_)
            refine r_cons (s_neq false rfl rfl (ntrue (pcE_0 hpok)) rfl ?_)
            refine r_cons (s_move (.bool false) rfl rfl ?_)
            refine r_cons (r_take rfl rfl ?_)
            refine s_move (.int .i64 0) rfl rfl ?_
            refine r_cons (r_take rfl rfl ?_)
            refine s_neq false rfl rfl (ntrue (by decide)) rfl ?_
            refine r_cons (s_pick_f (.bool false) rfl rfl rfl ?_)
            refine r_cons (s_move (.bool false) rfl rfl ?_)
            refine r_cons (r_take rfl rfl ?_)
            refine s_move (.int .i64 0) rfl rfl ?_
            refine r_cons (r_take rfl rfl ?_)
            refine s_neq false rfl rfl (ntrue (by decide)) rfl ?_
            refine r_cons (s_pick_f (.bool false) rfl rfl rfl ?_)
            refine r_cons (s_move (.bool false) rfl rfl ?_)
            refine r_cons (r_take rfl rfl ?_)
            refine s_move (.bool (decide (((E.length + 1 : Nat) : Int) = (L2.getD i9 default).v.many.v))) rfl rfl ?_
            refine r_cons (r_take rfl rfl ?_)
            refine s_move (.int .i64 (i9 : Int)) rfl rfl ?_
            refine r_cons (r_take rfl rfl ?_)
            refine s_move (.slice pp14 L13.length cc15) rfl rfl ?_
            refine r_cons (r_take rfl rfl ?_)
            refine s_len L13.length rfl ⟨_, un_60⟩ rfl ?_
            refine r_cons (r_take rfl rfl ?_)
            refine s_sub ((L13.length : Int) - 1) rfl rfl (wi64 (by omega)) rfl ?_
            refine r_cons (r_take rfl rfl ?_)
            by_cases hc135 : (i9 : Int) = (L13.length : Int) - 1
            · skip
              refine s_eql true rfl rfl (dtrue hc135) rfl ?_
              refine r_cons (r_take rfl rfl ?_)
              have hld : decide (((E.length + 1 : Nat) : Int) = (L2.getD i9 default).v.many.v) = true := decide_eq_true (by omega)
              refine s_bneq false un_4 rfl rfl (ntrue hld) rfl ?_
              refine r_cons (s_pick_f (.bool false) rfl rfl rfl ?_)
              refine r_nil ?_
              refine g_false rfl ?_
              refine g_skip ?_
              refine g_inBlock ?_
              refine g_region ?_
              refine r_cons (s_add ((i9 : Int) + 1) rfl rfl (wi64 (by omega)) rfl ?_)
              refine r_cons (s_move (.int .i64 ((i9 : Int) + 1)) rfl rfl ?_)
              refine r_nil ?_
              have H136 : St W w133 (blk bk9 (.cells #[.bool true, .bool false, .int .i64 7, .int .i64 ((L2.getD i9 default).v.many.v), .map (some m10), .slice none 0 0] 98 (0, 0)) :: MapA m10 (ents (kI .i64) evD (E ++ [((L2.getD i9 default).v.index, (⟨(L2.getD i9 default).v.data, pp131, cc132⟩ : BytesD))])) :: bdA (E ++ [((L2.getD i9 default).v.index, (⟨(L2.getD i9 default).v.data, pp131, cc132⟩ : BytesD))]) :: pcA L2 :: imi (0 < L2.length) gA92 (.cells kA94 eA95 zA96) :: Im 1 (.slice pp1 s.length cc2) s.length (s.flatMap u8c) :: F) := (((((((((((H134.move 10 rfl).move 10 rfl).move 10 rfl).move 5 rfl).move 5 rfl).move 5 rfl).drop 6 rfl).drop 6 rfl).drop 6 rfl).drop 6 rfl).drop 6 rfl)
              exact nx109 (i9 + 1, (E ++ [((L2.getD i9 default).v.index, (⟨(L2.getD i9 default).v.data, pp131, cc132⟩ : BytesD))]), (L2.getD i9 default).v.many.v) _ _ ⟨(by omega), (keyed_step2 hE9 (by omega)), (.inr hpm), H136⟩ (by first | (dsimp only; omega) | omega) ⟨by first | rfl | exact vint (by omega), by first | rfl | exact vint (by omega), by first | rfl | exact vint (by omega), by first | rfl | exact vint (by omega), by first | rfl | exact vint (by omega), by first | rfl | exact vint (by omega), by first | rfl | exact vint (by omega), trivial⟩
            · skip
              refine s_eql false rfl rfl (dfalse hc135) rfl ?_
              refine r_cons (r_take rfl rfl ?_)
              have hld : decide (((E.length + 1 : Nat) : Int) = (L2.getD i9 default).v.many.v) = false := decide_eq_false (by omega)
              refine s_bneq false un_4 rfl rfl (ntrue hld) rfl ?_
              refine r_cons (s_pick_f (.bool false) rfl rfl rfl ?_)
              refine r_nil ?_
              refine g_false rfl ?_
              refine g_skip ?_
              refine g_inBlock ?_
              refine g_region ?_
              refine r_cons (s_add ((i9 : Int) + 1) rfl rfl (wi64 (by omega)) rfl ?_)
              refine r_cons (s_move (.int .i64 ((i9 : Int) + 1)) rfl rfl ?_)
              refine r_nil ?_
              have H137 : St W w133 (blk bk9 (.cells #[.bool true, .bool false, .int .i64 7, .int .i64 ((L2.getD i9 default).v.many.v), .map (some m10), .slice none 0 0] 98 (0, 0)) :: MapA m10 (ents (kI .i64) evD (E ++ [((L2.getD i9 default).v.index, (⟨(L2.getD i9 default).v.data, pp131, cc132⟩ : BytesD))])) :: bdA (E ++ [((L2.getD i9 default).v.index, (⟨(L2.getD i9 default).v.data, pp131, cc132⟩ : BytesD))]) :: pcA L2 :: imi (0 < L2.length) gA92 (.cells kA94 eA95 zA96) :: Im 1 (.slice pp1 s.length cc2) s.length (s.flatMap u8c) :: F) := (((((((((((H134.move 10 rfl).move 10 rfl).move 10 rfl).move 5 rfl).move 5 rfl).move 5 rfl).drop 6 rfl).drop 6 rfl).drop 6 rfl).drop 6 rfl).drop 6 rfl)
              exact nx109 (i9 + 1, (E ++ [((L2.getD i9 default).v.index, (⟨(L2.getD i9 default).v.data, pp131, cc132⟩ : BytesD))]), (L2.getD i9 default).v.many.v) _ _ ⟨(by omega), (keyed_step2 hE9 (by omega)), (.inr hpm), H137⟩ (by first | (dsimp only; omega) | omega) ⟨by first | rfl | exact vint (by omega), by first | rfl | exact vint (by omega), by first | rfl | exact vint (by omega), by first | rfl | exact vint (by omega), by first | rfl | exact vint (by omega), by first | rfl | exact vint (by omega), by first | rfl | exact vint (by omega), trivial⟩
          · skip
            refine r_cons (s_lss false rfl rfl (dfalse hc110) rfl ?_)
            refine r_nil ?_
            refine g_seq ?_
            refine g_false rfl ?_
            refine g_exit (by rfl) ?_
            refine g_seq ?_
            refine g_region ?_
            refine r_cons (s_move (.pointer (some ⟨bk9, 0, none⟩)) rfl rfl ?_)
            have hkm : k9 = ((manyOf s.length : Nat) : Int) := by rcases hk9 with ⟨h, _⟩ | h <;> omega
            have hEa := keyed_all hE9 (by omega)
            have hEl := keyed_len2 hE9 hi9
            have hall9 := whole_all (s := s) hm2 hpV hEa
            have H138 : St W w107 (blk bk9 (.cells #[.bool true, .bool false, .int .i64 7, .int .i64 ((manyOf s.length : Nat) : Int), .map (some m10), .slice none 0 0] 98 (0, 0)) :: MapA m10 (ents (kI .i64) evD E) :: bdA E :: pcA L2 :: imi (0 < L2.length) gA92 (.cells kA94 eA95 zA96) :: Im 1 (.slice pp1 s.length cc2) s.length (s.flatMap u8c) :: F) := by have hx := H108; rw [hkm] at hx; exact hx
            refine r_cons (s_call [.pointer (some ⟨bk9, 0, none⟩)] pl_25 rfl rfl (Ln_Take bk9 m10 (7 : Int) (manyOf s.length) E (by omega) hm2 (decide_eq_true (by omega)) (fun j hj => (whole_at hm2 hpV hEa hj).imp fun _ h => h.1) (by rw [hall9]; omega) H138) ?_)
            rintro _ w141 ⟨pp139, cc140, rfl, H142⟩
            refine r_cons (s_move (.tuple #[.slice pp139 ((allOf E (manyOf s.length)).length) cc140, .slice none 0 0, .int .i64 0]) rfl rfl ?_)
            refine r_cons (s_extract (.slice pp139 ((allOf E (manyOf s.length)).length) cc140) #[.slice pp139 ((allOf E (manyOf s.length)).length) cc140, .slice none 0 0, .int .i64 0] rfl rfl rfl ?_)
            refine r_cons (s_extract (.slice none 0 0) #[.slice pp139 ((allOf E (manyOf s.length)).length) cc140, .slice none 0 0, .int .i64 0] rfl rfl rfl ?_)
            refine r_cons (s_extract (.int .i64 0) #[.slice pp139 ((allOf E (manyOf s.length)).length) cc140, .slice none 0 0, .int .i64 0] rfl rfl rfl ?_)
            refine r_cons (s_assign (.slice pp139 ((allOf E (manyOf s.length)).length) cc140) rfl rfl ?_)
            refine r_cons (s_assign (.slice none 0 0) rfl rfl ?_)
            refine r_cons (s_assign (.int .i64 0) rfl rfl ?_)
            refine r_nil ?_
            refine g_seq ?_
            refine g_region ?_
            refine r_cons (s_move (.int .i64 0) rfl rfl ?_)
            refine r_cons (s_eql true rfl rfl (dtrue (by decide)) rfl ?_)
            refine r_cons (s_move (.bool true) rfl rfl ?_)
            refine r_cons (r_take rfl rfl ?_)
            refine s_move (.slice pp139 ((allOf E (manyOf s.length)).length) cc140) rfl rfl ?_
            refine r_cons (r_take rfl rfl ?_)
            refine s_move (.slice pp1 s.length cc2) rfl rfl ?_
            refine r_cons (r_take rfl rfl ?_)
            refine s_call [.slice pp139 ((allOf E (manyOf s.length)).length) cc140, .slice pp1 s.length cc2] pl_27 rfl rfl (bytes_Equal _ _ _ _ _ _ (allOf E (manyOf s.length)) s RdA.row RdA.im (j := 0) rfl (k := 3) rfl H142) ?_
            rintro _ w143 ⟨rfl, H144⟩
            refine r_cons (s_pick_t (.bool (decide ((allOf E (manyOf s.length)) = s))) rfl rfl rfl ?_)
            refine r_cons (s_assign (.bool (decide ((allOf E (manyOf s.length)) = s))) rfl rfl ?_)
            refine r_nil ?_
            refine g_ret' [.bool (decide ((allOf E (manyOf s.length)) = s))] Try.func6 Try.results6 ⟨rfl, trivial⟩ ?_
            have H145 : St W w143 F := ((((H144.drop 0 rfl).drop 0 rfl).drop 0 rfl).drop 0 rfl)
            exact ⟨congrArg Value.bool (decide_eq_true hall9), H145⟩
  · skip
    refine s_neq true rfl rfl (nfalse hc21) rfl ?_
    refine r_cons (s_pick_f (.bool true) rfl rfl rfl ?_)
    refine r_nil ?_
    refine g_true rfl ?_
    refine g_seq ?_
    refine g_region ?_
    refine r_cons (s_call [] pl_10 rfl rfl (begun_ H20) ?_)
    rintro _ w146 ⟨rfl, H147⟩
    refine r_cons (s_move (.bool true) rfl rfl ?_)
    refine r_cons (r_take rfl rfl ?_)
    refine s_move (.int .i64 (cutE o7 s)) rfl rfl ?_
    refine r_cons (r_take rfl rfl ?_)
    have h37 : cutE o7 s = 3 := cutE_7 rfl (by assumption)
    refine s_eql true rfl rfl (dtrue h37) rfl ?_
    refine r_cons (s_pick_t (.bool true) rfl rfl rfl ?_)
    refine r_cons (s_assign (.bool true) rfl rfl ?_)
    refine r_nil ?_
    refine g_ret' [.bool true] Try.func6 Try.results6 ⟨rfl, trivial⟩ ?_
    have H148 : St W w146 F := ((((((H147.drop 0 rfl).drop 0 rfl).drop 0 rfl).drop 0 rfl).drop 0 rfl).drop 0 rfl)
    exact ⟨rfl, H148⟩
end Sl
