/- Walks of the program's functions. Printed by a program of this claim's author. No condition. -/
import Derived.Test.YthggoibbkloefaaSlBF
import Derived.Test.YthggoibbkloefaaSlQ
import Derived.Test.YthggoibbkloefaaSlP
import Derived.Test.YthggoibbkloefaaSlDB
import Derived.Test.YthggoibbkloefaaSlDC
import Derived.Test.YthggoibbkloefaaSlDJ
import Derived.Test.YthggoibbkloefaaSlEC
import Derived.Test.YthggoibbkloefaaSlED
import Derived.Test.YthggoibbkloefaaProg
import Derived.Test.YthggoibbkloefaaWalkLinkComes1
namespace Sl
open _root_.Go _root_.Go.RowKit _root_.Go.Proofs
set_option linter.all false
set_option maxHeartbeats 4000000 in
set_option maxRecDepth 100000 in
theorem live_ {W w : World} {F : List Atom}  (H : St W w F) : Calls Try.prog 8 #[] w (Ret fun v w' => v = .bool true ∧ St W w' F) := by
  refine calls_of_go (n := 72) Try.func8 rfl Try.ntmps8 rfl ?_
  refine g_seq ?_
  refine g_region ?_
  refine r_cons (s_assign (.bool false) rfl rfl ?_)
  refine r_nil ?_
  refine g_seq ?_
  refine g_region ?_
  refine r_cons (s_build (cs := #[.int .i64 0, .int .i64 1]) (by kernel_rfl) rfl ?_)
  refine r_cons (s_call [.agg #[.int .i64 0, .int .i64 1], .int .i64 2] pl_17 rfl rfl (Link_New (i64' 0) (i64' 1) 2 (by decide) (by decide) (by decide) (by omega) (by omega) H) ?_)
  rintro _ w2 ⟨bk1, rfl, H3⟩
  refine r_cons (s_move (.tuple #[.pointer (some ⟨bk1, 0, none⟩), .int .i64 0]) rfl rfl ?_)
  refine r_cons (s_extract (.pointer (some ⟨bk1, 0, none⟩)) #[.pointer (some ⟨bk1, 0, none⟩), .int .i64 0] rfl rfl rfl ?_)
  refine r_cons (s_extract (.int .i64 0) #[.pointer (some ⟨bk1, 0, none⟩), .int .i64 0] rfl rfl rfl ?_)
  refine r_cons (s_assign (.pointer (some ⟨bk1, 0, none⟩)) rfl rfl ?_)
  refine r_cons (s_assign (.int .i64 0) rfl rfl ?_)
  refine r_nil ?_
  refine g_seq ?_
  refine g_seq ?_
  refine g_region ?_
  refine r_cons (s_move (.int .i64 0) rfl rfl ?_)
  refine r_cons (s_neq false rfl rfl (ntrue (by decide)) rfl ?_)
  refine r_cons (s_move (.bool false) rfl rfl ?_)
  refine r_cons (r_take rfl rfl ?_)
  refine s_move (.pointer (some ⟨bk1, 0, none⟩)) rfl rfl ?_
  refine r_cons (r_take rfl rfl ?_)
  refine s_peql false un_30 rfl rfl rfl rfl ?_
  refine r_cons (s_pick_f (.bool false) rfl rfl rfl ?_)
  refine r_cons (s_move (.bool false) rfl rfl ?_)
  refine r_cons (r_take rfl rfl ?_)
  refine s_move (.pointer (some ⟨bk1, 0, none⟩)) rfl rfl ?_
  refine r_cons (r_take rfl rfl ?_)
  refine s_buildSlice H3 1 1 (cs := #[.int .u8 97]) #[.int .u8 0] el_26 ze_5 (by decide) (by decide) (by kernel_rfl) rfl ?_; intro bk4 w5 H6
  refine r_cons (r_take rfl rfl ?_)
  have H8 : St W w5 (Im 1 (.slice (some ⟨bk4, 0, none⟩) 1 1) 1 ([97].flatMap u8c) :: LkA bk1 (newS (i64' 0) (i64' 1) 2) :: F) := Row.im (Row.of_blk (n := 1) (size := 1) H6 (i := 0) rfl (by unfold maxLen; omega) (by simp) (by simp [Value.oneCell'])) (i := 0) rfl
  refine s_call [.pointer (some ⟨bk1, 0, none⟩), .slice (some ⟨bk4, 0, none⟩) 1 1] pl_22 rfl rfl (Lk_Send bk1 (newS (i64' 0) (i64' 1) 2) (endOk_new (by omega) (by omega)) [97] (.slice (some ⟨bk4, 0, none⟩) 1 1) (j := 0) rfl (i := 1) rfl H8) ?_
  rintro _ w9 ⟨rfl, H10⟩
  refine r_cons (r_take rfl rfl ?_)
  refine s_neq false rfl rfl (ntrue (by decide +kernel)) rfl ?_
  refine r_cons (s_pick_f (.bool false) rfl rfl rfl ?_)
  refine r_cons (s_move (.bool false) rfl rfl ?_)
  refine r_cons (r_take rfl rfl ?_)
  refine s_move (.pointer (some ⟨bk1, 0, none⟩)) rfl rfl ?_
  refine r_cons (r_take rfl rfl ?_)
  refine s_buildSlice H10 1 1 (cs := #[.int .u8 98]) #[.int .u8 0] el_26 ze_5 (by decide) (by decide) (by kernel_rfl) rfl ?_; intro bk11 w12 H13
  refine r_cons (r_take rfl rfl ?_)
  have H15 : St W w12 (Im 1 (.slice (some ⟨bk11, 0, none⟩) 1 1) 1 ([98].flatMap u8c) :: Im 1 (.slice (some ⟨bk4, 0, none⟩) 1 1) 1 ([97].flatMap u8c) :: LkA bk1 (sendS (newS (i64' 0) (i64' 1) 2) [97]) :: F) := Row.im (Row.of_blk (n := 1) (size := 1) H13 (i := 0) rfl (by unfold maxLen; omega) (by simp) (by simp [Value.oneCell'])) (i := 0) rfl
  refine s_call [.pointer (some ⟨bk1, 0, none⟩), .slice (some ⟨bk11, 0, none⟩) 1 1] pl_22 rfl rfl (Lk_Send bk1 (sendS (newS (i64' 0) (i64' 1) 2) [97]) (endOk_send (endOk_new (by omega) (by omega))) [98] (.slice (some ⟨bk11, 0, none⟩) 1 1) (j := 0) rfl (i := 2) rfl H15) ?_
  rintro _ w16 ⟨rfl, H17⟩
  refine r_cons (r_take rfl rfl ?_)
  refine s_neq false rfl rfl (ntrue (by decide +kernel)) rfl ?_
  refine r_cons (s_pick_f (.bool false) rfl rfl rfl ?_)
  refine r_cons (s_move (.bool false) rfl rfl ?_)
  refine r_cons (r_take rfl rfl ?_)
  refine s_move (.pointer (some ⟨bk1, 0, none⟩)) rfl rfl ?_
  refine r_cons (r_take rfl rfl ?_)
  refine s_buildSlice H17 1 1 (cs := #[.int .u8 99]) #[.int .u8 0] el_26 ze_5 (by decide) (by decide) (by kernel_rfl) rfl ?_; intro bk18 w19 H20
  refine r_cons (r_take rfl rfl ?_)
  have H22 : St W w19 (Im 1 (.slice (some ⟨bk18, 0, none⟩) 1 1) 1 ([99].flatMap u8c) :: Im 1 (.slice (some ⟨bk11, 0, none⟩) 1 1) 1 ([98].flatMap u8c) :: Im 1 (.slice (some ⟨bk4, 0, none⟩) 1 1) 1 ([97].flatMap u8c) :: LkA bk1 (sendS (sendS (newS (i64' 0) (i64' 1) 2) [97]) [98]) :: F) := Row.im (Row.of_blk (n := 1) (size := 1) H20 (i := 0) rfl (by unfold maxLen; omega) (by simp) (by simp [Value.oneCell'])) (i := 0) rfl
  refine s_call [.pointer (some ⟨bk1, 0, none⟩), .slice (some ⟨bk18, 0, none⟩) 1 1] pl_22 rfl rfl (Lk_Send bk1 (sendS (sendS (newS (i64' 0) (i64' 1) 2) [97]) [98]) (endOk_send (endOk_send (endOk_new (by omega) (by omega)))) [99] (.slice (some ⟨bk18, 0, none⟩) 1 1) (j := 0) rfl (i := 3) rfl H22) ?_
  rintro _ w23 ⟨rfl, H24⟩
  refine r_cons (r_take rfl rfl ?_)
  refine s_neq false rfl rfl (ntrue (by decide +kernel)) rfl ?_
  refine r_cons (s_pick_f (.bool false) rfl rfl rfl ?_)
  refine r_nil ?_
  refine g_false rfl ?_
  refine g_skip ?_
  refine g_seq ?_
  refine g_region ?_
  refine r_cons (s_move (.pointer (some ⟨bk1, 0, none⟩)) rfl rfl ?_)
  refine r_cons (s_call [.pointer (some ⟨bk1, 0, none⟩)] pl_23 rfl rfl (Lk_Out bk1 (sendS (sendS (sendS (newS (i64' 0) (i64' 1) 2) [97]) [98]) [99]) (endOk_send (endOk_send (endOk_send (endOk_new (by omega) (by omega))))) (i := 3) rfl H24) ?_)
  rintro _ w27 ⟨pp25, cc26, rfl, H28⟩
  refine r_cons (s_assign (.slice pp25 ((outT (sendS (sendS (sendS (newS (i64' 0) (i64' 1) 2) [97]) [98]) [99])).length) cc26) rfl rfl ?_)
  refine r_nil ?_
  refine g_seq ?_
  refine g_seq ?_
  refine g_region ?_
  refine r_cons (s_move (.slice pp25 ((outT (sendS (sendS (sendS (newS (i64' 0) (i64' 1) 2) [97]) [98]) [99])).length) cc26) rfl rfl ?_)
  refine r_cons (s_len ((outT (sendS (sendS (sendS (newS (i64' 0) (i64' 1) 2) [97]) [98]) [99])).length) rfl ⟨_, un_34⟩ rfl ?_)
  refine r_cons (s_neq false rfl rfl (ntrue (by decide +kernel)) rfl ?_)
  refine r_cons (s_move (.bool false) rfl rfl ?_)
  refine r_cons (r_take rfl rfl ?_)
  refine s_move (.slice pp25 ((outT (sendS (sendS (sendS (newS (i64' 0) (i64' 1) 2) [97]) [98]) [99])).length) cc26) rfl rfl ?_
  refine r_cons (r_take rfl rfl ?_)
  have H29 := H28.move 0 rfl
  obtain ⟨⟨D30, hD31⟩, H32⟩ := St.open_ex H29
  have H33 := St.open_star H32
  change D30.map DgD.d = (outT (sendS (sendS (sendS (newS (i64' 0) (i64' 1) 2) [97]) [98]) [99])) at hD31
  have H34 : St W w27 (Row 41 6 (.slice pp25 ((outT (sendS (sendS (sendS (newS (i64' 0) (i64' 1) 2) [97]) [98]) [99])).length) cc26) ((outT (sendS (sendS (sendS (newS (i64' 0) (i64' 1) 2) [97]) [98]) [99])).length) (D30.flatMap dgdCell) :: byA (D30.map DgD.by) :: Im 1 (.slice (some ⟨bk18, 0, none⟩) 1 1) 1 ([99].flatMap u8c) :: Im 1 (.slice (some ⟨bk11, 0, none⟩) 1 1) 1 ([98].flatMap u8c) :: Im 1 (.slice (some ⟨bk4, 0, none⟩) 1 1) 1 ([97].flatMap u8c) :: LkA bk1 (outS (sendS (sendS (sendS (newS (i64' 0) (i64' 1) 2) [97]) [98]) [99])) :: F) := H33
  have hl2 : D30.length = 2 := by rw [lenOf hD31]; decide +kernel
  have hs1 : (D30.getD 1 default).d.seq.v = 1 := by rw [dgAt hD31 1]; decide +kernel
  have hb1 : (D30.getD 1 default).d.body = [98] := by rw [dgAt hD31 1]; decide +kernel
  have hl3 := lenOf hD31; rw [hl2] at hl3
  obtain ⟨bk35, cur36, hp37, h38, h39, h40, h41, h42, H43⟩ := Row.open2 H34 (i := 0) rfl (by rw [← lenOf hD31, hl2]; decide)
  have H44 : St W w27 (Im 1 (.slice ((D30.getD 1 default).p) ((D30.getD 1 default).d.body.length) ((D30.getD 1 default).c)) (((D30.getD 1 default).d.body).length) (((D30.getD 1 default).d.body).flatMap u8c) :: blk bk35 (.cells cur36 41 (0, 0)) :: byA (D30.map DgD.by) :: Im 1 (.slice (some ⟨bk18, 0, none⟩) 1 1) 1 ([99].flatMap u8c) :: Im 1 (.slice (some ⟨bk11, 0, none⟩) 1 1) 1 ([98].flatMap u8c) :: Im 1 (.slice (some ⟨bk4, 0, none⟩) 1 1) 1 ([97].flatMap u8c) :: LkA bk1 (outS (sendS (sendS (sendS (newS (i64' 0) (i64' 1) 2) [97]) [98]) [99])) :: F) := byA_at H43 (i := 1) rfl (dg_at (k := 1) (by omega))
  refine s_indexAddr bk35 (off := 0) 1 6 (0 + 1 * 6) (by exact congrArg (fun z_ => Value.slice z_ ((outT (sendS (sendS (sendS (newS (i64' 0) (i64' 1) 2) [97]) [98]) [99])).length) cc26) ((fun (_ : 0 < 1) => hp37) (by omega))) rfl el_34 (by omega) rfl rfl ?_
  refine r_cons (r_take rfl rfl ?_)
  refine s_fieldAddr 41 3 3 (0 + 1 * 6 + 3) 2 rfl fi_41_3 rfl rfl ?_
  refine r_cons (r_take rfl rfl ?_)
  refine s_load (.int .i64 ((D30.getD 1 default).d.seq.v)) ag_2 rfl (H44.blk_at (i := 1) rfl) (elem_cell (L := D30) (i := 1) dgdCell_len (by rw [(lenOf hD31)]; exact h41) (by have hh : D30.length = (outT (sendS (sendS (sendS (newS (i64' 0) (i64' 1) 2) [97]) [98]) [99])).length := (lenOf hD31); omega) default 3 (by decide) _ rfl) rfl ?_
  refine r_cons (r_take rfl rfl ?_)
  refine s_neq false rfl rfl (ntrue hs1) rfl ?_
  refine r_cons (s_pick_f (.bool false) rfl rfl rfl ?_)
  refine r_cons (s_move (.bool false) rfl rfl ?_)
  refine r_cons (r_take rfl rfl ?_)
  refine s_move (.slice pp25 ((outT (sendS (sendS (sendS (newS (i64' 0) (i64' 1) 2) [97]) [98]) [99])).length) cc26) rfl rfl ?_
  refine r_cons (r_take rfl rfl ?_)
  refine s_indexAddr bk35 (off := 0) 1 6 (0 + 1 * 6) (by exact congrArg (fun z_ => Value.slice z_ ((outT (sendS (sendS (sendS (newS (i64' 0) (i64' 1) 2) [97]) [98]) [99])).length) cc26) ((fun (_ : 0 < 1) => hp37) (by omega))) rfl el_34 (by omega) rfl rfl ?_
  refine r_cons (r_take rfl rfl ?_)
  refine s_fieldAddr 41 5 5 (0 + 1 * 6 + 5) 26 rfl fi_41_5 rfl rfl ?_
  refine r_cons (r_take rfl rfl ?_)
  refine s_load (.slice ((D30.getD 1 default).p) ((D30.getD 1 default).d.body.length) ((D30.getD 1 default).c)) ag_26 rfl (H44.blk_at (i := 1) rfl) (elem_cell (L := D30) (i := 1) dgdCell_len (by rw [(lenOf hD31)]; exact h41) (by have hh : D30.length = (outT (sendS (sendS (sendS (newS (i64' 0) (i64' 1) 2) [97]) [98]) [99])).length := (lenOf hD31); omega) default 5 (by decide) _ rfl) rfl ?_
  refine r_cons (r_take rfl rfl ?_)
  refine (s_bytes_str (xs := ((D30.getD 1 default).d.body)) rfl (by rw [bytesV_flat]; exact (Im.rd H44 (i := 0) rfl)) un_26 un_5 un_9 rfl ?_)
  refine r_cons (r_take rfl rfl ?_)
  refine s_sneq false rfl rfl (ntrue (by rw [hb1])) rfl ?_
  refine r_cons (s_pick_f (.bool false) rfl rfl rfl ?_)
  refine r_nil ?_
  refine g_false rfl ?_
  refine g_skip ?_
  refine g_seq ?_
  refine g_region ?_
  refine r_cons (s_move (.pointer (some ⟨bk1, 0, none⟩)) rfl rfl ?_)
  refine r_cons (s_build (cs := #[.int .i64 1, .int .i64 0, .int .i64 2, .int .i64 0, .int .i64 1, .slice none 0 0]) (by kernel_rfl) rfl ?_)
  have H45 := Row.im (Row.nil_intro H44 5 1) (i := 0) rfl
  have H46 : St W w27 (Im 1 (.slice none 0 0) (([] : List UInt8).length) (([] : List UInt8).flatMap u8c) :: Im 1 (.slice ((D30.getD 1 default).p) ((D30.getD 1 default).d.body.length) ((D30.getD 1 default).c)) (((D30.getD 1 default).d.body).length) (((D30.getD 1 default).d.body).flatMap u8c) :: blk bk35 (.cells cur36 41 (0, 0)) :: byA (D30.map DgD.by) :: Im 1 (.slice (some ⟨bk18, 0, none⟩) 1 1) 1 ([99].flatMap u8c) :: Im 1 (.slice (some ⟨bk11, 0, none⟩) 1 1) 1 ([98].flatMap u8c) :: Im 1 (.slice (some ⟨bk4, 0, none⟩) 1 1) 1 ([97].flatMap u8c) :: LkA bk1 (outS (sendS (sendS (sendS (newS (i64' 0) (i64' 1) 2) [97]) [98]) [99])) :: F) := H45
  refine r_cons (s_call [.pointer (some ⟨bk1, 0, none⟩), .agg #[.int .i64 1, .int .i64 0, .int .i64 2, .int .i64 0, .int .i64 1, .slice none 0 0]] pl_21 rfl rfl (Lk_Take bk1 (outS (sendS (sendS (sendS (newS (i64' 0) (i64' 1) 2) [97]) [98]) [99])) (endOk_out (endOk_send (endOk_send (endOk_send (endOk_new (by omega) (by omega)))))) dgAck1 (.slice none 0 0) (by decide +kernel) (j := 0) rfl (i := 7) rfl H46) ?_)
  rintro _ w49 ⟨pp47, cc48, rfl, H50⟩
  refine r_cons (s_move (.tuple #[.slice pp47 ((takeT (outS (sendS (sendS (sendS (newS (i64' 0) (i64' 1) 2) [97]) [98]) [99])) dgAck1).length) cc48, .int .i64 (takeE (outS (sendS (sendS (sendS (newS (i64' 0) (i64' 1) 2) [97]) [98]) [99])) dgAck1)]) rfl rfl ?_)
  refine r_cons (s_extract (.slice pp47 ((takeT (outS (sendS (sendS (sendS (newS (i64' 0) (i64' 1) 2) [97]) [98]) [99])) dgAck1).length) cc48) #[.slice pp47 ((takeT (outS (sendS (sendS (sendS (newS (i64' 0) (i64' 1) 2) [97]) [98]) [99])) dgAck1).length) cc48, .int .i64 (takeE (outS (sendS (sendS (sendS (newS (i64' 0) (i64' 1) 2) [97]) [98]) [99])) dgAck1)] rfl rfl rfl ?_)
  refine r_cons (s_extract (.int .i64 (takeE (outS (sendS (sendS (sendS (newS (i64' 0) (i64' 1) 2) [97]) [98]) [99])) dgAck1)) #[.slice pp47 ((takeT (outS (sendS (sendS (sendS (newS (i64' 0) (i64' 1) 2) [97]) [98]) [99])) dgAck1).length) cc48, .int .i64 (takeE (outS (sendS (sendS (sendS (newS (i64' 0) (i64' 1) 2) [97]) [98]) [99])) dgAck1)] rfl rfl rfl ?_)
  refine r_cons (s_assign (.int .i64 (takeE (outS (sendS (sendS (sendS (newS (i64' 0) (i64' 1) 2) [97]) [98]) [99])) dgAck1)) rfl rfl ?_)
  refine r_nil ?_
  refine g_seq ?_
  refine g_region ?_
  refine r_cons (s_move (.int .i64 (takeE (outS (sendS (sendS (sendS (newS (i64' 0) (i64' 1) 2) [97]) [98]) [99])) dgAck1)) rfl rfl ?_)
  refine r_cons (s_eql true rfl rfl (dtrue (by decide +kernel)) rfl ?_)
  refine r_cons (s_move (.bool true) rfl rfl ?_)
  refine r_cons (r_take rfl rfl ?_)
  refine s_move (.pointer (some ⟨bk1, 0, none⟩)) rfl rfl ?_
  refine r_cons (r_take rfl rfl ?_)
  refine s_call [.pointer (some ⟨bk1, 0, none⟩)] pl_23 rfl rfl (Lk_Out bk1 (takeS (outS (sendS (sendS (sendS (newS (i64' 0) (i64' 1) 2) [97]) [98]) [99])) dgAck1) (endOk_take (endOk_out (endOk_send (endOk_send (endOk_send (endOk_new (by omega) (by omega))))))) (i := 8) rfl H50) ?_
  rintro _ w53 ⟨pp51, cc52, rfl, H54⟩
  refine r_cons (r_take rfl rfl ?_)
  refine s_len ((outT (takeS (outS (sendS (sendS (sendS (newS (i64' 0) (i64' 1) 2) [97]) [98]) [99])) dgAck1)).length) rfl ⟨_, un_34⟩ rfl ?_
  refine r_cons (r_take rfl rfl ?_)
  refine s_eql true rfl rfl (dtrue (by decide +kernel)) rfl ?_
  refine r_cons (s_pick_t (.bool true) rfl rfl rfl ?_)
  refine r_cons (s_move (.bool true) rfl rfl ?_)
  refine r_cons (r_take rfl rfl ?_)
  refine s_move (.pointer (some ⟨bk1, 0, none⟩)) rfl rfl ?_
  refine r_cons (r_take rfl rfl ?_)
  refine s_call [.pointer (some ⟨bk1, 0, none⟩)] pl_10 rfl rfl (Lk_Waiting bk1 (outS (takeS (outS (sendS (sendS (sendS (newS (i64' 0) (i64' 1) 2) [97]) [98]) [99])) dgAck1)) (endOk_out (endOk_take (endOk_out (endOk_send (endOk_send (endOk_send (endOk_new (by omega) (by omega)))))))) (i := 9) rfl H54) ?_
  rintro _ w55 ⟨rfl, H56⟩
  refine r_cons (r_take rfl rfl ?_)
  refine s_eql true rfl rfl (dtrue (by decide +kernel)) rfl ?_
  refine r_cons (s_pick_t (.bool true) rfl rfl rfl ?_)
  refine r_cons (s_assign (.bool true) rfl rfl ?_)
  refine r_nil ?_
  refine g_ret' [.bool true] Try.func8 Try.results8 ⟨rfl, trivial⟩ ?_
  have H57 := Row.shut2 (p := pp25) (n := (outT (sendS (sendS (sendS (newS (i64' 0) (i64' 1) 2) [97]) [98]) [99])).length) (c := cc26) (size := 6) (xs := D30.flatMap dgdCell) H56 (i := 4) rfl hp37 h38 h39 h40 (by have hh : (cur36.toList.drop 0).take (D30.length * 6) = D30.flatMap dgdCell := (by rw [(lenOf hD31)]; exact h41); have hk : D30.length = (outT (sendS (sendS (sendS (newS (i64' 0) (i64' 1) 2) [97]) [98]) [99])).length := (lenOf hD31); rw [hk] at hh; exact hh) (fun x_ hx_ => by obtain ⟨a_, _, ha_⟩ := List.mem_flatMap.1 hx_; exact one_dg a_ x_ ha_)
  have H58 : St W w55 (Row 41 6 (.slice pp25 ((outT (sendS (sendS (sendS (newS (i64' 0) (i64' 1) 2) [97]) [98]) [99])).length) cc26) ((outT (sendS (sendS (sendS (newS (i64' 0) (i64' 1) 2) [97]) [98]) [99])).length) (D30.flatMap dgdCell) :: byA (D30.map DgD.by) :: DgsA pp51 cc52 (outT (takeS (outS (sendS (sendS (sendS (newS (i64' 0) (i64' 1) 2) [97]) [98]) [99])) dgAck1)) :: BysA pp47 cc48 (takeT (outS (sendS (sendS (sendS (newS (i64' 0) (i64' 1) 2) [97]) [98]) [99])) dgAck1) :: Im 1 (.slice none 0 0) (([] : List UInt8).length) (([] : List UInt8).flatMap u8c) :: Im 1 (.slice ((D30.getD 1 default).p) ((D30.getD 1 default).d.body.length) ((D30.getD 1 default).c)) (((D30.getD 1 default).d.body).length) (((D30.getD 1 default).d.body).flatMap u8c) :: Im 1 (.slice (some ⟨bk18, 0, none⟩) 1 1) 1 ([99].flatMap u8c) :: Im 1 (.slice (some ⟨bk11, 0, none⟩) 1 1) 1 ([98].flatMap u8c) :: Im 1 (.slice (some ⟨bk4, 0, none⟩) 1 1) 1 ([97].flatMap u8c) :: LkA bk1 (outS (takeS (outS (sendS (sendS (sendS (newS (i64' 0) (i64' 1) 2) [97]) [98]) [99])) dgAck1)) :: F) := ((H57.move 5 rfl).move 5 rfl)
  have H59 : St W w55 (DgsA pp25 cc26 (outT (sendS (sendS (sendS (newS (i64' 0) (i64' 1) 2) [97]) [98]) [99])) :: DgsA pp51 cc52 (outT (takeS (outS (sendS (sendS (sendS (newS (i64' 0) (i64' 1) 2) [97]) [98]) [99])) dgAck1)) :: BysA pp47 cc48 (takeT (outS (sendS (sendS (sendS (newS (i64' 0) (i64' 1) 2) [97]) [98]) [99])) dgAck1) :: Im 1 (.slice none 0 0) (([] : List UInt8).length) (([] : List UInt8).flatMap u8c) :: Im 1 (.slice ((D30.getD 1 default).p) ((D30.getD 1 default).d.body.length) ((D30.getD 1 default).c)) (((D30.getD 1 default).d.body).length) (((D30.getD 1 default).d.body).flatMap u8c) :: Im 1 (.slice (some ⟨bk18, 0, none⟩) 1 1) 1 ([99].flatMap u8c) :: Im 1 (.slice (some ⟨bk11, 0, none⟩) 1 1) 1 ([98].flatMap u8c) :: Im 1 (.slice (some ⟨bk4, 0, none⟩) 1 1) 1 ([97].flatMap u8c) :: LkA bk1 (outS (takeS (outS (sendS (sendS (sendS (newS (i64' 0) (i64' 1) 2) [97]) [98]) [99])) dgAck1)) :: F) := St.shut_ex ⟨D30, hD31⟩ (St.shut_star (ls := [Row 41 6 (.slice pp25 ((outT (sendS (sendS (sendS (newS (i64' 0) (i64' 1) 2) [97]) [98]) [99])).length) cc26) ((outT (sendS (sendS (sendS (newS (i64' 0) (i64' 1) 2) [97]) [98]) [99])).length) (D30.flatMap dgdCell), byA (D30.map DgD.by)]) H58)
  have H60 : St W w55 (Im 1 (.slice ((D30.getD 1 default).p) ((D30.getD 1 default).d.body.length) ((D30.getD 1 default).c)) (((D30.getD 1 default).d.body).length) (((D30.getD 1 default).d.body).flatMap u8c) :: Im 1 (.slice (some ⟨bk18, 0, none⟩) 1 1) 1 ([99].flatMap u8c) :: Im 1 (.slice (some ⟨bk11, 0, none⟩) 1 1) 1 ([98].flatMap u8c) :: Im 1 (.slice (some ⟨bk4, 0, none⟩) 1 1) 1 ([97].flatMap u8c) :: LkA bk1 (outS (takeS (outS (sendS (sendS (sendS (newS (i64' 0) (i64' 1) 2) [97]) [98]) [99])) dgAck1)) :: F) := ((((H59.drop 0 rfl).drop 0 rfl).drop 0 rfl).drop 0 rfl)
  have H61 : St W w55 (LkA bk1 (outS (takeS (outS (sendS (sendS (sendS (newS (i64' 0) (i64' 1) 2) [97]) [98]) [99])) dgAck1)) :: F) := ((((H60.drop 0 rfl).drop 0 rfl).drop 0 rfl).drop 0 rfl)
  have H62 : St W w55 F := (H61.drop 0 rfl)
  exact ⟨rfl, H62⟩
set_option maxHeartbeats 4000000 in
set_option maxRecDepth 100000 in
theorem passes_0 {W w : World} {F : List Atom} (g : Nat) (P : PairV) (d : DgM) (v0 : Value) (hok : endOk P.e1) (hE : takeE P.e1 d = 0) (hN : P.e1.held.length ≤ 1099511627776) (hC : P.c1.length ≤ 1099511627776) (hC2 : (takeT P.e1 d).length ≤ 1099511627776) {j : Nat} (hj : F[j]? = some (Im 1 v0 d.body.length (d.body.flatMap u8c))) (H : St W w (PairA g P :: F)) : Calls Try.prog 12 #[.pointer (some ⟨g, 0, none⟩), .int .i64 0, .agg #[.int .i64 d.frm.v, .int .i64 d.to_.v, .int .i64 d.kind.v, .int .i64 d.seq.v, .int .i64 d.ack.v, v0]] w (Ret fun v w' => v = .bool true ∧ St W w' (PairA g (pass0 P d) :: F)) := by
  obtain ⟨pp1, cc2, rfl, hsh3⟩ := Rd.shape (Im.rd H (i := j + 1) (show (PairA g P :: F)[j + 1]? = _ from hj))
  have H4 := H.dup (i := j + 1) (show (PairA g P :: F)[j + 1]? = _ from hj) (Im_pers _ _ _ _)
  have hmlH4 := Im.len H4 (i := 0) rfl
  have H5 : St W w (Im 1 (.slice pp1 d.body.length cc2) d.body.length (d.body.flatMap u8c) :: PairA g P :: F) := H4
  refine calls_of_go (n := 38) Try.func12 rfl Try.ntmps12 rfl ?_
  refine g_seq ?_
  refine g_region ?_
  refine r_cons (s_box H5 41 (.agg #[.int .i64 d.frm.v, .int .i64 d.to_.v, .int .i64 d.kind.v, .int .i64 d.seq.v, .int .i64 d.ack.v, .slice pp1 d.body.length cc2]) rfl (cs := #[.int .i64 d.frm.v, .int .i64 d.to_.v, .int .i64 d.kind.v, .int .i64 d.seq.v, .int .i64 d.ack.v, .slice pp1 d.body.length cc2]) rfl rfl ?_); intro bk6 w7 H8
  refine r_cons (s_assign (.bool false) rfl rfl ?_)
  refine r_nil ?_
  refine g_seq ?_
  have H9 := H8.move 2 rfl
  obtain ⟨⟨l10, l11, pp12, cc13, pp14, cc15, pp16, cc17, pp18, cc19, pp20, cc21, pp22, cc23⟩, H24⟩ := St.open_ex H9
  have H25 := St.open_star H24
  have H26 : St W w7 (blk g (.cells #[.pointer (some ⟨l10, 0, none⟩), .pointer (some ⟨l11, 0, none⟩), .slice pp12 P.g0.length cc13, .slice pp14 P.g1.length cc15, .slice pp16 P.c0.length cc17, .slice pp18 P.c1.length cc19, .slice pp20 P.t0.length cc21, .slice pp22 P.t1.length cc23] 37 (0, 0)) :: LkA l10 P.e0 :: LkA l11 P.e1 :: BysA pp12 cc13 P.g0 :: BysA pp14 cc15 P.g1 :: BysA pp16 cc17 P.c0 :: BysA pp18 cc19 P.c1 :: DgsA pp20 cc21 P.t0 :: DgsA pp22 cc23 P.t1 :: blk bk6 (.cells #[.int .i64 d.frm.v, .int .i64 d.to_.v, .int .i64 d.kind.v, .int .i64 d.seq.v, .int .i64 d.ack.v, .slice pp1 d.body.length cc2] 41 (0, 0)) :: Im 1 (.slice pp1 d.body.length cc2) d.body.length (d.body.flatMap u8c) :: F) := H25
  have H27 : St W w7 (DgsA pp20 cc21 P.t0 :: DgsA pp22 cc23 P.t1 :: blk bk6 (.cells #[.int .i64 d.frm.v, .int .i64 d.to_.v, .int .i64 d.kind.v, .int .i64 d.seq.v, .int .i64 d.ack.v, .slice pp1 d.body.length cc2] 41 (0, 0)) :: Im 1 (.slice pp1 d.body.length cc2) d.body.length (d.body.flatMap u8c) :: LkA l11 P.e1 :: blk g (.cells #[.pointer (some ⟨l10, 0, none⟩), .pointer (some ⟨l11, 0, none⟩), .slice pp12 P.g0.length cc13, .slice pp14 P.g1.length cc15, .slice pp16 P.c0.length cc17, .slice pp18 P.c1.length cc19, .slice pp20 P.t0.length cc21, .slice pp22 P.t1.length cc23] 37 (0, 0)) :: LkA l10 P.e0 :: BysA pp12 cc13 P.g0 :: BysA pp14 cc15 P.g1 :: BysA pp16 cc17 P.c0 :: BysA pp18 cc19 P.c1 :: F) := (((((H26.move 2 rfl).move 10 rfl).move 10 rfl).move 10 rfl).move 10 rfl)
  have H28 : St W w7 (LkA l10 P.e0 :: BysA pp12 cc13 P.g0 :: BysA pp14 cc15 P.g1 :: BysA pp16 cc17 P.c0 :: BysA pp18 cc19 P.c1 :: DgsA pp20 cc21 P.t0 :: DgsA pp22 cc23 P.t1 :: blk bk6 (.cells #[.int .i64 d.frm.v, .int .i64 d.to_.v, .int .i64 d.kind.v, .int .i64 d.seq.v, .int .i64 d.ack.v, .slice pp1 d.body.length cc2] 41 (0, 0)) :: Im 1 (.slice pp1 d.body.length cc2) d.body.length (d.body.flatMap u8c) :: LkA l11 P.e1 :: blk g (.cells #[.pointer (some ⟨l10, 0, none⟩), .pointer (some ⟨l11, 0, none⟩), .slice pp12 P.g0.length cc13, .slice pp14 P.g1.length cc15, .slice pp16 P.c0.length cc17, .slice pp18 P.c1.length cc19, .slice pp20 P.t0.length cc21, .slice pp22 P.t1.length cc23] 37 (0, 0)) :: F) := (((((H27.move 10 rfl).move 10 rfl).move 10 rfl).move 10 rfl).move 10 rfl)
  have H29 : St W w7 (blk g (.cells #[.pointer (some ⟨l10, 0, none⟩), .pointer (some ⟨l11, 0, none⟩), .slice pp12 P.g0.length cc13, .slice pp14 P.g1.length cc15, .slice pp16 P.c0.length cc17, .slice pp18 P.c1.length cc19, .slice pp20 P.t0.length cc21, .slice pp22 P.t1.length cc23] 37 (0, 0)) :: LkA l10 P.e0 :: BysA pp12 cc13 P.g0 :: BysA pp14 cc15 P.g1 :: BysA pp16 cc17 P.c0 :: BysA pp18 cc19 P.c1 :: DgsA pp20 cc21 P.t0 :: DgsA pp22 cc23 P.t1 :: blk bk6 (.cells #[.int .i64 d.frm.v, .int .i64 d.to_.v, .int .i64 d.kind.v, .int .i64 d.seq.v, .int .i64 d.ack.v, .slice pp1 d.body.length cc2] 41 (0, 0)) :: Im 1 (.slice pp1 d.body.length cc2) d.body.length (d.body.flatMap u8c) :: LkA l11 P.e1 :: F) := (H28.move 10 rfl)
  refine g_mix (fun t_ w => St W w (blk g (.cells #[.pointer (some ⟨l10, 0, none⟩), .pointer (some ⟨l11, 0, none⟩), .slice pp12 P.g0.length cc13, .slice pp14 P.g1.length cc15, .slice pp16 P.c0.length cc17, .slice pp18 P.c1.length cc19, .slice pp20 P.t0.length cc21, .slice pp22 P.t1.length cc23] 37 (0, 0)) :: LkA l10 P.e0 :: BysA pp12 cc13 P.g0 :: BysA pp14 cc15 P.g1 :: BysA pp16 cc17 P.c0 :: BysA pp18 cc19 P.c1 :: DgsA pp20 cc21 P.t0 :: DgsA pp22 cc23 P.t1 :: blk bk6 (.cells #[.int .i64 d.frm.v, .int .i64 d.to_.v, .int .i64 d.kind.v, .int .i64 d.seq.v, .int .i64 d.ack.v, .slice pp1 d.body.length cc2] 41 (0, 0)) :: Im 1 (.slice pp1 d.body.length cc2) d.body.length (d.body.flatMap u8c) :: t_)) (LkA l11 P.e1 :: F) mixed 14 rfl H29.drew ?_
  refine f_first 0 (listed' := #[true, false, false, false, false, false, false, false, false, false, false, false, false, false]) rfl (by kernel_rfl) (by kernel_rfl) (by kernel_rfl) rfl ?_
  refine f_val rfl rfl rfl (by intro t_ w hw; exact x_move (.pointer (some ⟨g, 0, none⟩)) rfl w) ?_
  refine f_first 1 (listed' := #[true, true, false, false, false, false, false, false, false, false, false, false, false, false]) rfl (by kernel_rfl) (by kernel_rfl) (by kernel_rfl) rfl ?_
  refine f_val rfl rfl rfl (by intro t_ w hw; exact x_move (.int .i64 0) rfl w) ?_
  refine f_first 2 (listed' := #[true, true, true, false, false, false, false, false, false, false, false, false, false, false]) rfl (by kernel_rfl) (by kernel_rfl) (by kernel_rfl) rfl ?_
  refine f_val rfl rfl rfl (by intro t_ w hw; exact x_sub 1 rfl rfl (wi64 (by omega)) w) ?_
  refine f_first 3 (listed' := #[true, true, true, true, false, false, false, false, false, false, false, false, false, false]) rfl (by kernel_rfl) (by kernel_rfl) (by kernel_rfl) rfl ?_
  refine f_val rfl rfl rfl (by intro t_ w hw; exact x_nilCheck (.pointer (some ⟨g, 0, none⟩)) rfl ⟨_, rfl⟩ w) ?_
  refine f_first 4 (listed' := #[true, true, true, true, true, false, false, false, false, false, false, false, false, false]) rfl (by kernel_rfl) (by kernel_rfl) (by kernel_rfl) rfl ?_
  refine f_val rfl rfl rfl (by intro t_ w hw; exact x_fieldAddr 37 0 0 0 31 rfl fi_37_0 rfl w) ?_
  refine f_first 5 (listed' := #[true, true, true, true, true, true, false, false, false, false, false, false, false, false]) rfl (by kernel_rfl) (by kernel_rfl) (by kernel_rfl) rfl ?_
  refine f_val rfl rfl rfl (by intro t_ w hw; exact x_indexAddr_arr 1 1 1 rfl rfl ar_31 (by omega) rfl w) ?_
  refine f_first 6 (listed' := #[true, true, true, true, true, true, true, false, false, false, false, false, false, false]) rfl (by kernel_rfl) (by kernel_rfl) (by kernel_rfl) rfl ?_
  refine f_val rfl rfl rfl (by intro t_ w hw; exact x_load (.pointer (some ⟨l11, 0, none⟩)) ag_30 rfl (hw.blk_at (i := 0) rfl) rfl) ?_
  refine f_first 7 (listed' := #[true, true, true, true, true, true, true, true, false, false, false, false, false, false]) rfl (by kernel_rfl) (by kernel_rfl) (by kernel_rfl) rfl ?_
  refine f_val rfl rfl rfl (by intro t_ w hw; exact x_loadAgg [.int .i64 d.frm.v, .int .i64 d.to_.v, .int .i64 d.kind.v, .int .i64 d.seq.v, .int .i64 d.ack.v, .slice pp1 d.body.length cc2] 6 ag_41 rfl (hw.blk_at (i := 8) rfl) (Nat.le_of_ble_eq_true rfl) rfl) ?_
  refine f_all (rs := [8]) (by kernel_rfl) (by simp) ?_
  refine a_cons ⟨_, rfl, ?_⟩ (fun x hx => absurd hx (by simp))
  intro w30 H31
  try dsimp only at H31
  refine s_call [.pointer (some ⟨l11, 0, none⟩), .agg #[.int .i64 d.frm.v, .int .i64 d.to_.v, .int .i64 d.kind.v, .int .i64 d.seq.v, .int .i64 d.ack.v, .slice pp1 d.body.length cc2]] pl_21 rfl rfl (Lk_Take l11 P.e1 hok d (.slice pp1 d.body.length cc2) hN (j := 9) rfl (i := 10) rfl H31) ?_
  rintro _ w34 ⟨pp32, cc33, rfl, H35⟩
  have H36 : St W w34 (DgsA pp22 cc23 P.t1 :: blk bk6 (.cells #[.int .i64 d.frm.v, .int .i64 d.to_.v, .int .i64 d.kind.v, .int .i64 d.seq.v, .int .i64 d.ack.v, .slice pp1 d.body.length cc2] 41 (0, 0)) :: Im 1 (.slice pp1 d.body.length cc2) d.body.length (d.body.flatMap u8c) :: BysA pp32 cc33 (takeT P.e1 d) :: LkA l11 (takeS P.e1 d) :: blk g (.cells #[.pointer (some ⟨l10, 0, none⟩), .pointer (some ⟨l11, 0, none⟩), .slice pp12 P.g0.length cc13, .slice pp14 P.g1.length cc15, .slice pp16 P.c0.length cc17, .slice pp18 P.c1.length cc19, .slice pp20 P.t0.length cc21, .slice pp22 P.t1.length cc23] 37 (0, 0)) :: LkA l10 P.e0 :: BysA pp12 cc13 P.g0 :: BysA pp14 cc15 P.g1 :: BysA pp16 cc17 P.c0 :: BysA pp18 cc19 P.c1 :: DgsA pp20 cc21 P.t0 :: F) := (((((H35.move 11 rfl).move 1 rfl).move 11 rfl).move 11 rfl).move 11 rfl)
  have H37 : St W w34 (BysA pp12 cc13 P.g0 :: BysA pp14 cc15 P.g1 :: BysA pp16 cc17 P.c0 :: BysA pp18 cc19 P.c1 :: DgsA pp20 cc21 P.t0 :: DgsA pp22 cc23 P.t1 :: blk bk6 (.cells #[.int .i64 d.frm.v, .int .i64 d.to_.v, .int .i64 d.kind.v, .int .i64 d.seq.v, .int .i64 d.ack.v, .slice pp1 d.body.length cc2] 41 (0, 0)) :: Im 1 (.slice pp1 d.body.length cc2) d.body.length (d.body.flatMap u8c) :: BysA pp32 cc33 (takeT P.e1 d) :: LkA l11 (takeS P.e1 d) :: blk g (.cells #[.pointer (some ⟨l10, 0, none⟩), .pointer (some ⟨l11, 0, none⟩), .slice pp12 P.g0.length cc13, .slice pp14 P.g1.length cc15, .slice pp16 P.c0.length cc17, .slice pp18 P.c1.length cc19, .slice pp20 P.t0.length cc21, .slice pp22 P.t1.length cc23] 37 (0, 0)) :: LkA l10 P.e0 :: F) := (((((H36.move 11 rfl).move 11 rfl).move 11 rfl).move 11 rfl).move 11 rfl)
  have H38 : St W w34 (blk g (.cells #[.pointer (some ⟨l10, 0, none⟩), .pointer (some ⟨l11, 0, none⟩), .slice pp12 P.g0.length cc13, .slice pp14 P.g1.length cc15, .slice pp16 P.c0.length cc17, .slice pp18 P.c1.length cc19, .slice pp20 P.t0.length cc21, .slice pp22 P.t1.length cc23] 37 (0, 0)) :: LkA l10 P.e0 :: BysA pp12 cc13 P.g0 :: BysA pp14 cc15 P.g1 :: BysA pp16 cc17 P.c0 :: BysA pp18 cc19 P.c1 :: DgsA pp20 cc21 P.t0 :: DgsA pp22 cc23 P.t1 :: blk bk6 (.cells #[.int .i64 d.frm.v, .int .i64 d.to_.v, .int .i64 d.kind.v, .int .i64 d.seq.v, .int .i64 d.ack.v, .slice pp1 d.body.length cc2] 41 (0, 0)) :: Im 1 (.slice pp1 d.body.length cc2) d.body.length (d.body.flatMap u8c) :: BysA pp32 cc33 (takeT P.e1 d) :: LkA l11 (takeS P.e1 d) :: F) := ((H37.move 11 rfl).move 11 rfl)
  refine ⟨BysA pp32 cc33 (takeT P.e1 d) :: LkA l11 (takeS P.e1 d) :: F, ?_, H38⟩
  change FReg _ _ _ _ _ #[true, true, true, true, true, true, true, true, true, false, false, false, false, false] _ _
  refine f_first 9 (listed' := #[true, true, true, true, true, true, true, true, true, true, false, false, false, false]) rfl (by kernel_rfl) (by kernel_rfl) (by kernel_rfl) rfl ?_
  refine f_val rfl rfl rfl (by intro t_ w hw; exact x_move (.tuple #[.slice pp32 ((takeT P.e1 d).length) cc33, .int .i64 (takeE P.e1 d)]) rfl w) ?_
  refine f_first 10 (listed' := #[true, true, true, true, true, true, true, true, true, true, true, false, false, false]) rfl (by kernel_rfl) (by kernel_rfl) (by kernel_rfl) rfl ?_
  refine f_val rfl rfl rfl (by intro t_ w hw; exact x_extract (.slice pp32 ((takeT P.e1 d).length) cc33) #[.slice pp32 ((takeT P.e1 d).length) cc33, .int .i64 (takeE P.e1 d)] rfl rfl w) ?_
  refine f_first 11 (listed' := #[true, true, true, true, true, true, true, true, true, true, true, true, false, false]) rfl (by kernel_rfl) (by kernel_rfl) (by kernel_rfl) rfl ?_
  refine f_val rfl rfl rfl (by intro t_ w hw; exact x_extract (.int .i64 (takeE P.e1 d)) #[.slice pp32 ((takeT P.e1 d).length) cc33, .int .i64 (takeE P.e1 d)] rfl rfl w) ?_
  refine f_first 12 (listed' := #[true, true, true, true, true, true, true, true, true, true, true, true, true, false]) rfl (by kernel_rfl) (by kernel_rfl) (by kernel_rfl) rfl ?_
  refine f_val rfl rfl rfl (by intro t_ w hw; exact x_assign (.slice pp32 ((takeT P.e1 d).length) cc33) rfl w) ?_
  refine f_first 13 (listed' := #[true, true, true, true, true, true, true, true, true, true, true, true, true, true]) rfl (by kernel_rfl) (by kernel_rfl) (by kernel_rfl) rfl ?_
  refine f_val rfl rfl rfl (by intro t_ w hw; exact x_assign (.int .i64 (takeE P.e1 d)) rfl w) ?_
  refine f_done (by kernel_rfl) ?_
  intro w39 H40
  refine g_seq ?_
  refine g_seq ?_
  refine g_region ?_
  refine r_cons (s_move (.int .i64 (takeE P.e1 d)) rfl rfl ?_)
  refine r_cons (s_neq false rfl rfl (ntrue hE) rfl ?_)
  refine r_nil ?_
  refine g_false rfl ?_
  refine g_skip ?_
  refine g_seq ?_
  have H41 := H40.move 10 rfl
  obtain ⟨⟨D42, hD43⟩, H44⟩ := St.open_ex H41
  have H45 := St.open_star H44
  change D42.map BytesD.data = (takeT P.e1 d) at hD43
  have H46 : St W w39 (Row 26 1 (.slice pp32 ((takeT P.e1 d).length) cc33) ((takeT P.e1 d).length) (D42.flatMap byCell) :: byA D42 :: blk g (.cells #[.pointer (some ⟨l10, 0, none⟩), .pointer (some ⟨l11, 0, none⟩), .slice pp12 P.g0.length cc13, .slice pp14 P.g1.length cc15, .slice pp16 P.c0.length cc17, .slice pp18 P.c1.length cc19, .slice pp20 P.t0.length cc21, .slice pp22 P.t1.length cc23] 37 (0, 0)) :: LkA l10 P.e0 :: BysA pp12 cc13 P.g0 :: BysA pp14 cc15 P.g1 :: BysA pp16 cc17 P.c0 :: BysA pp18 cc19 P.c1 :: DgsA pp20 cc21 P.t0 :: DgsA pp22 cc23 P.t1 :: blk bk6 (.cells #[.int .i64 d.frm.v, .int .i64 d.to_.v, .int .i64 d.kind.v, .int .i64 d.seq.v, .int .i64 d.ack.v, .slice pp1 d.body.length cc2] 41 (0, 0)) :: Im 1 (.slice pp1 d.body.length cc2) d.body.length (d.body.flatMap u8c) :: LkA l11 (takeS P.e1 d) :: F) := H45
  have H47 := H46.move 7 rfl
  obtain ⟨⟨D48, hD49⟩, H50⟩ := St.open_ex H47
  have H51 := St.open_star H50
  change D48.map BytesD.data = P.c1 at hD49
  have H52 : St W w39 (Row 26 1 (.slice pp18 P.c1.length cc19) P.c1.length (D48.flatMap byCell) :: byA D48 :: Row 26 1 (.slice pp32 ((takeT P.e1 d).length) cc33) ((takeT P.e1 d).length) (D42.flatMap byCell) :: byA D42 :: blk g (.cells #[.pointer (some ⟨l10, 0, none⟩), .pointer (some ⟨l11, 0, none⟩), .slice pp12 P.g0.length cc13, .slice pp14 P.g1.length cc15, .slice pp16 P.c0.length cc17, .slice pp18 P.c1.length cc19, .slice pp20 P.t0.length cc21, .slice pp22 P.t1.length cc23] 37 (0, 0)) :: LkA l10 P.e0 :: BysA pp12 cc13 P.g0 :: BysA pp14 cc15 P.g1 :: BysA pp16 cc17 P.c0 :: DgsA pp20 cc21 P.t0 :: DgsA pp22 cc23 P.t1 :: blk bk6 (.cells #[.int .i64 d.frm.v, .int .i64 d.to_.v, .int .i64 d.kind.v, .int .i64 d.seq.v, .int .i64 d.ack.v, .slice pp1 d.body.length cc2] 41 (0, 0)) :: Im 1 (.slice pp1 d.body.length cc2) d.body.length (d.body.flatMap u8c) :: LkA l11 (takeS P.e1 d) :: F) := H51
  have hz1 := Row.lenOf H52 (i := 0) rfl; have hz2 := Row.lenOf H52 (i := 2) rfl
  have H53 : St W w39 (blk bk6 (.cells #[.int .i64 d.frm.v, .int .i64 d.to_.v, .int .i64 d.kind.v, .int .i64 d.seq.v, .int .i64 d.ack.v, .slice pp1 d.body.length cc2] 41 (0, 0)) :: Im 1 (.slice pp1 d.body.length cc2) d.body.length (d.body.flatMap u8c) :: LkA l11 (takeS P.e1 d) :: Row 26 1 (.slice pp18 P.c1.length cc19) P.c1.length (D48.flatMap byCell) :: blk g (.cells #[.pointer (some ⟨l10, 0, none⟩), .pointer (some ⟨l11, 0, none⟩), .slice pp12 P.g0.length cc13, .slice pp14 P.g1.length cc15, .slice pp16 P.c0.length cc17, .slice pp18 P.c1.length cc19, .slice pp20 P.t0.length cc21, .slice pp22 P.t1.length cc23] 37 (0, 0)) :: byA D48 :: Row 26 1 (.slice pp32 ((takeT P.e1 d).length) cc33) ((takeT P.e1 d).length) (D42.flatMap byCell) :: byA D42 :: LkA l10 P.e0 :: BysA pp12 cc13 P.g0 :: BysA pp14 cc15 P.g1 :: BysA pp16 cc17 P.c0 :: DgsA pp20 cc21 P.t0 :: DgsA pp22 cc23 P.t1 :: F) := (((((H52.move 4 rfl).move 1 rfl).move 13 rfl).move 13 rfl).move 13 rfl)
  have H54 : St W w39 (BysA pp12 cc13 P.g0 :: BysA pp14 cc15 P.g1 :: BysA pp16 cc17 P.c0 :: DgsA pp20 cc21 P.t0 :: DgsA pp22 cc23 P.t1 :: blk bk6 (.cells #[.int .i64 d.frm.v, .int .i64 d.to_.v, .int .i64 d.kind.v, .int .i64 d.seq.v, .int .i64 d.ack.v, .slice pp1 d.body.length cc2] 41 (0, 0)) :: Im 1 (.slice pp1 d.body.length cc2) d.body.length (d.body.flatMap u8c) :: LkA l11 (takeS P.e1 d) :: Row 26 1 (.slice pp18 P.c1.length cc19) P.c1.length (D48.flatMap byCell) :: blk g (.cells #[.pointer (some ⟨l10, 0, none⟩), .pointer (some ⟨l11, 0, none⟩), .slice pp12 P.g0.length cc13, .slice pp14 P.g1.length cc15, .slice pp16 P.c0.length cc17, .slice pp18 P.c1.length cc19, .slice pp20 P.t0.length cc21, .slice pp22 P.t1.length cc23] 37 (0, 0)) :: byA D48 :: Row 26 1 (.slice pp32 ((takeT P.e1 d).length) cc33) ((takeT P.e1 d).length) (D42.flatMap byCell) :: byA D42 :: LkA l10 P.e0 :: F) := (((((H53.move 13 rfl).move 13 rfl).move 13 rfl).move 13 rfl).move 13 rfl)
  have H55 : St W w39 (byA D48 :: Row 26 1 (.slice pp32 ((takeT P.e1 d).length) cc33) ((takeT P.e1 d).length) (D42.flatMap byCell) :: byA D42 :: LkA l10 P.e0 :: BysA pp12 cc13 P.g0 :: BysA pp14 cc15 P.g1 :: BysA pp16 cc17 P.c0 :: DgsA pp20 cc21 P.t0 :: DgsA pp22 cc23 P.t1 :: blk bk6 (.cells #[.int .i64 d.frm.v, .int .i64 d.to_.v, .int .i64 d.kind.v, .int .i64 d.seq.v, .int .i64 d.ack.v, .slice pp1 d.body.length cc2] 41 (0, 0)) :: Im 1 (.slice pp1 d.body.length cc2) d.body.length (d.body.flatMap u8c) :: LkA l11 (takeS P.e1 d) :: Row 26 1 (.slice pp18 P.c1.length cc19) P.c1.length (D48.flatMap byCell) :: blk g (.cells #[.pointer (some ⟨l10, 0, none⟩), .pointer (some ⟨l11, 0, none⟩), .slice pp12 P.g0.length cc13, .slice pp14 P.g1.length cc15, .slice pp16 P.c0.length cc17, .slice pp18 P.c1.length cc19, .slice pp20 P.t0.length cc21, .slice pp22 P.t1.length cc23] 37 (0, 0)) :: F) := ((((H54.move 13 rfl).move 13 rfl).move 13 rfl).move 13 rfl)
  refine g_mix (fun t_ w => St W w (byA D48 :: Row 26 1 (.slice pp32 ((takeT P.e1 d).length) cc33) ((takeT P.e1 d).length) (D42.flatMap byCell) :: byA D42 :: LkA l10 P.e0 :: BysA pp12 cc13 P.g0 :: BysA pp14 cc15 P.g1 :: BysA pp16 cc17 P.c0 :: DgsA pp20 cc21 P.t0 :: DgsA pp22 cc23 P.t1 :: blk bk6 (.cells #[.int .i64 d.frm.v, .int .i64 d.to_.v, .int .i64 d.kind.v, .int .i64 d.seq.v, .int .i64 d.ack.v, .slice pp1 d.body.length cc2] 41 (0, 0)) :: Im 1 (.slice pp1 d.body.length cc2) d.body.length (d.body.flatMap u8c) :: LkA l11 (takeS P.e1 d) :: t_)) (Row 26 1 (.slice pp18 P.c1.length cc19) P.c1.length (D48.flatMap byCell) :: blk g (.cells #[.pointer (some ⟨l10, 0, none⟩), .pointer (some ⟨l11, 0, none⟩), .slice pp12 P.g0.length cc13, .slice pp14 P.g1.length cc15, .slice pp16 P.c0.length cc17, .slice pp18 P.c1.length cc19, .slice pp20 P.t0.length cc21, .slice pp22 P.t1.length cc23] 37 (0, 0)) :: F) mixed 16 rfl H55.drew ?_
  refine f_first 0 (listed' := #[true, false, false, false, false, false, false, false, false, false, false, false, false, false, false, false]) rfl (by kernel_rfl) (by kernel_rfl) (by kernel_rfl) rfl ?_
  refine f_val rfl rfl rfl (by intro t_ w hw; exact x_move (.pointer (some ⟨g, 0, none⟩)) rfl w) ?_
  refine f_first 1 (listed' := #[true, true, false, false, false, false, false, false, false, false, false, false, false, false, false, false]) rfl (by kernel_rfl) (by kernel_rfl) (by kernel_rfl) rfl ?_
  refine f_val rfl rfl rfl (by intro t_ w hw; exact x_move (.int .i64 0) rfl w) ?_
  refine f_first 2 (listed' := #[true, true, true, false, false, false, false, false, false, false, false, false, false, false, false, false]) rfl (by kernel_rfl) (by kernel_rfl) (by kernel_rfl) rfl ?_
  refine f_val rfl rfl rfl (by intro t_ w hw; exact x_sub 1 rfl rfl (wi64 (by omega)) w) ?_
  refine f_first 3 (listed' := #[true, true, true, true, false, false, false, false, false, false, false, false, false, false, false, false]) rfl (by kernel_rfl) (by kernel_rfl) (by kernel_rfl) rfl ?_
  refine f_val rfl rfl rfl (by intro t_ w hw; exact x_move (.pointer (some ⟨g, 0, none⟩)) rfl w) ?_
  refine f_first 4 (listed' := #[true, true, true, true, true, false, false, false, false, false, false, false, false, false, false, false]) rfl (by kernel_rfl) (by kernel_rfl) (by kernel_rfl) rfl ?_
  refine f_val rfl rfl rfl (by intro t_ w hw; exact x_move (.int .i64 0) rfl w) ?_
  refine f_first 5 (listed' := #[true, true, true, true, true, true, false, false, false, false, false, false, false, false, false, false]) rfl (by kernel_rfl) (by kernel_rfl) (by kernel_rfl) rfl ?_
  refine f_val rfl rfl rfl (by intro t_ w hw; exact x_sub 1 rfl rfl (wi64 (by omega)) w) ?_
  refine f_first 6 (listed' := #[true, true, true, true, true, true, true, false, false, false, false, false, false, false, false, false]) rfl (by kernel_rfl) (by kernel_rfl) (by kernel_rfl) rfl ?_
  refine f_val rfl rfl rfl (by intro t_ w hw; exact x_nilCheck (.pointer (some ⟨g, 0, none⟩)) rfl ⟨_, rfl⟩ w) ?_
  refine f_first 7 (listed' := #[true, true, true, true, true, true, true, true, false, false, false, false, false, false, false, false]) rfl (by kernel_rfl) (by kernel_rfl) (by kernel_rfl) rfl ?_
  refine f_val rfl rfl rfl (by intro t_ w hw; exact x_fieldAddr 37 2 4 4 33 rfl fi_37_2 rfl w) ?_
  refine f_first 8 (listed' := #[true, true, true, true, true, true, true, true, true, false, false, false, false, false, false, false]) rfl (by kernel_rfl) (by kernel_rfl) (by kernel_rfl) rfl ?_
  refine f_val rfl rfl rfl (by intro t_ w hw; exact x_indexAddr_arr 1 1 5 rfl rfl ar_33 (by omega) rfl w) ?_
  refine f_first 10 (listed' := #[true, true, true, true, true, true, true, true, true, false, true, false, false, false, false, false]) rfl (by kernel_rfl) (by kernel_rfl) (by kernel_rfl) rfl ?_
  refine f_val rfl rfl rfl (by intro t_ w hw; exact x_move (.slice pp32 ((takeT P.e1 d).length) cc33) rfl w) ?_
  refine f_first 12 (listed' := #[true, true, true, true, true, true, true, true, true, false, true, false, true, false, false, false]) rfl (by kernel_rfl) (by kernel_rfl) (by kernel_rfl) rfl ?_
  refine f_val rfl rfl rfl (by intro t_ w hw; exact x_nilCheck (.pointer (some ⟨g, 0, none⟩)) rfl ⟨_, rfl⟩ w) ?_
  refine f_first 13 (listed' := #[true, true, true, true, true, true, true, true, true, false, true, false, true, true, false, false]) rfl (by kernel_rfl) (by kernel_rfl) (by kernel_rfl) rfl ?_
  refine f_val rfl rfl rfl (by intro t_ w hw; exact x_fieldAddr 37 2 4 4 33 rfl fi_37_2 rfl w) ?_
  refine f_all (rs := [9]) (by kernel_rfl) (by simp) ?_
  refine a_cons ⟨_, rfl, ?_⟩ (fun x hx => absurd hx (by simp))
  intro w56 H57
  try dsimp only at H57
  refine s_load (.slice pp18 P.c1.length cc19) ag_32 rfl (H57.blk_at (i := 13) rfl) rfl rfl ?_
  refine ⟨Row 26 1 (.slice pp18 P.c1.length cc19) P.c1.length (D48.flatMap byCell) :: blk g (.cells #[.pointer (some ⟨l10, 0, none⟩), .pointer (some ⟨l11, 0, none⟩), .slice pp12 P.g0.length cc13, .slice pp14 P.g1.length cc15, .slice pp16 P.c0.length cc17, .slice pp18 P.c1.length cc19, .slice pp20 P.t0.length cc21, .slice pp22 P.t1.length cc23] 37 (0, 0)) :: F, ?_, H57⟩
  change FReg _ _ _ _ _ #[true, true, true, true, true, true, true, true, true, true, true, false, true, true, false, false] _ _
  refine f_all (rs := [11]) (by kernel_rfl) (by simp) ?_
  refine a_cons ⟨_, rfl, ?_⟩ (fun x hx => absurd hx (by simp))
  intro w58 H59
  try dsimp only at H59
  refine s_append H59 12 rfl rfl rfl (Row.rd H59 (i := 1) rfl) ap_32 (by decide) (by unfold maxLen; omega) (by omega) (n' := P.c1.length + (takeT P.e1 d).length) (xs' := D48.flatMap byCell ++ D42.flatMap byCell) (by omega) (by first | rfl | simp) rfl ?_; intro vv60 w61 H62 hn63
  obtain ⟨pp64, cc65, rfl⟩ := Row.slice H62 (i := 12) rfl
  refine ⟨Row 26 1 (.slice pp64 (P.c1.length + (takeT P.e1 d).length) cc65) (P.c1.length + (takeT P.e1 d).length) (D48.flatMap byCell ++ D42.flatMap byCell) :: blk g (.cells #[.pointer (some ⟨l10, 0, none⟩), .pointer (some ⟨l11, 0, none⟩), .slice pp12 P.g0.length cc13, .slice pp14 P.g1.length cc15, .slice pp16 P.c0.length cc17, .slice pp18 P.c1.length cc19, .slice pp20 P.t0.length cc21, .slice pp22 P.t1.length cc23] 37 (0, 0)) :: F, ?_, H62⟩
  change FReg _ _ _ _ _ #[true, true, true, true, true, true, true, true, true, true, true, true, true, true, false, false] _ _
  refine f_first 14 (listed' := #[true, true, true, true, true, true, true, true, true, true, true, true, true, true, true, false]) rfl (by kernel_rfl) (by kernel_rfl) (by kernel_rfl) rfl ?_
  refine f_val rfl rfl rfl (by intro t_ w hw; exact x_indexAddr_arr 1 1 5 rfl rfl ar_33 (by omega) rfl w) ?_
  refine f_all (rs := [15]) (by kernel_rfl) (by simp) ?_
  refine a_cons ⟨_, rfl, ?_⟩ (fun x hx => absurd hx (by simp))
  intro w66 H67
  try dsimp only at H67
  refine s_store H67 13 (.slice pp64 (P.c1.length + (takeT P.e1 d).length) cc65) rfl rfl rfl sz_32 rfl (Nat.le_of_ble_eq_true rfl) rfl (cs' := #[.pointer (some ⟨l10, 0, none⟩), .pointer (some ⟨l11, 0, none⟩), .slice pp12 P.g0.length cc13, .slice pp14 P.g1.length cc15, .slice pp16 P.c0.length cc17, .slice pp64 (P.c1.length + (takeT P.e1 d).length) cc65, .slice pp20 P.t0.length cc21, .slice pp22 P.t1.length cc23]) rfl ?_; intro w68 H69
  refine ⟨Row 26 1 (.slice pp64 (P.c1.length + (takeT P.e1 d).length) cc65) (P.c1.length + (takeT P.e1 d).length) (D48.flatMap byCell ++ D42.flatMap byCell) :: blk g (.cells #[.pointer (some ⟨l10, 0, none⟩), .pointer (some ⟨l11, 0, none⟩), .slice pp12 P.g0.length cc13, .slice pp14 P.g1.length cc15, .slice pp16 P.c0.length cc17, .slice pp64 (P.c1.length + (takeT P.e1 d).length) cc65, .slice pp20 P.t0.length cc21, .slice pp22 P.t1.length cc23] 37 (0, 0)) :: F, ?_, H69⟩
  change FReg _ _ _ _ _ #[true, true, true, true, true, true, true, true, true, true, true, true, true, true, true, true] _ _
  refine f_done (by kernel_rfl) ?_
  intro w70 H71
  refine g_seq ?_
  refine g_region ?_
  refine r_cons (s_assign (.bool true) rfl rfl ?_)
  refine r_nil ?_
  refine g_ret' [.bool true] Try.func12 Try.results12 ⟨rfl, trivial⟩ ?_
  have H72 := byA_app (M := (D48 ++ D42)) H71 (i := 0) (j := 2) rfl rfl app_b
  have H73 : St W w70 (Row 26 1 (.slice pp64 (P.c1.length + (takeT P.e1 d).length) cc65) (P.c1.length + (takeT P.e1 d).length) (D48.flatMap byCell ++ D42.flatMap byCell) :: byA (D48 ++ D42) :: byA D48 :: Row 26 1 (.slice pp32 ((takeT P.e1 d).length) cc33) ((takeT P.e1 d).length) (D42.flatMap byCell) :: byA D42 :: LkA l10 P.e0 :: BysA pp12 cc13 P.g0 :: BysA pp14 cc15 P.g1 :: BysA pp16 cc17 P.c0 :: DgsA pp20 cc21 P.t0 :: DgsA pp22 cc23 P.t1 :: blk bk6 (.cells #[.int .i64 d.frm.v, .int .i64 d.to_.v, .int .i64 d.kind.v, .int .i64 d.seq.v, .int .i64 d.ack.v, .slice pp1 d.body.length cc2] 41 (0, 0)) :: Im 1 (.slice pp1 d.body.length cc2) d.body.length (d.body.flatMap u8c) :: LkA l11 (takeS P.e1 d) :: blk g (.cells #[.pointer (some ⟨l10, 0, none⟩), .pointer (some ⟨l11, 0, none⟩), .slice pp12 P.g0.length cc13, .slice pp14 P.g1.length cc15, .slice pp16 P.c0.length cc17, .slice pp64 (P.c1.length + (takeT P.e1 d).length) cc65, .slice pp20 P.t0.length cc21, .slice pp22 P.t1.length cc23] 37 (0, 0)) :: F) := (H72.move 13 rfl)
  have hn74 : (P.c1 ++ takeT P.e1 d).length = P.c1.length + (takeT P.e1 d).length := (List.length_append ..)
  have H75 : St W w70 (Row 26 1 (.slice pp64 ((P.c1 ++ takeT P.e1 d).length) cc65) ((P.c1 ++ takeT P.e1 d).length) ((D48 ++ D42).flatMap byCell) :: byA (D48 ++ D42) :: byA D48 :: Row 26 1 (.slice pp32 ((takeT P.e1 d).length) cc33) ((takeT P.e1 d).length) (D42.flatMap byCell) :: byA D42 :: LkA l10 P.e0 :: BysA pp12 cc13 P.g0 :: BysA pp14 cc15 P.g1 :: BysA pp16 cc17 P.c0 :: DgsA pp20 cc21 P.t0 :: DgsA pp22 cc23 P.t1 :: blk bk6 (.cells #[.int .i64 d.frm.v, .int .i64 d.to_.v, .int .i64 d.kind.v, .int .i64 d.seq.v, .int .i64 d.ack.v, .slice pp1 d.body.length cc2] 41 (0, 0)) :: Im 1 (.slice pp1 d.body.length cc2) d.body.length (d.body.flatMap u8c) :: LkA l11 (takeS P.e1 d) :: blk g (.cells #[.pointer (some ⟨l10, 0, none⟩), .pointer (some ⟨l11, 0, none⟩), .slice pp12 P.g0.length cc13, .slice pp14 P.g1.length cc15, .slice pp16 P.c0.length cc17, .slice pp64 (P.c1.length + (takeT P.e1 d).length) cc65, .slice pp20 P.t0.length cc21, .slice pp22 P.t1.length cc23] 37 (0, 0)) :: F) := by rw [hn74]; rw [flat_app]; exact H73
  have H76 : St W w70 (BysA pp64 cc65 (P.c1 ++ takeT P.e1 d) :: byA D48 :: Row 26 1 (.slice pp32 ((takeT P.e1 d).length) cc33) ((takeT P.e1 d).length) (D42.flatMap byCell) :: byA D42 :: LkA l10 P.e0 :: BysA pp12 cc13 P.g0 :: BysA pp14 cc15 P.g1 :: BysA pp16 cc17 P.c0 :: DgsA pp20 cc21 P.t0 :: DgsA pp22 cc23 P.t1 :: blk bk6 (.cells #[.int .i64 d.frm.v, .int .i64 d.to_.v, .int .i64 d.kind.v, .int .i64 d.seq.v, .int .i64 d.ack.v, .slice pp1 d.body.length cc2] 41 (0, 0)) :: Im 1 (.slice pp1 d.body.length cc2) d.body.length (d.body.flatMap u8c) :: LkA l11 (takeS P.e1 d) :: blk g (.cells #[.pointer (some ⟨l10, 0, none⟩), .pointer (some ⟨l11, 0, none⟩), .slice pp12 P.g0.length cc13, .slice pp14 P.g1.length cc15, .slice pp16 P.c0.length cc17, .slice pp64 (P.c1.length + (takeT P.e1 d).length) cc65, .slice pp20 P.t0.length cc21, .slice pp22 P.t1.length cc23] 37 (0, 0)) :: F) := St.shut_ex ⟨(D48 ++ D42), (show (D48 ++ D42).map BytesD.data = (P.c1 ++ takeT P.e1 d) from app_map hD49 hD43)⟩ (St.shut_star (ls := [Row 26 1 (.slice pp64 ((P.c1 ++ takeT P.e1 d).length) cc65) ((P.c1 ++ takeT P.e1 d).length) ((D48 ++ D42).flatMap byCell), byA (D48 ++ D42)]) H75)
  have H77 : St W w70 (BysA pp64 cc65 (P.c1 ++ takeT P.e1 d) :: byA D48 :: Row 26 1 (.slice pp32 ((takeT P.e1 d).length) cc33) ((takeT P.e1 d).length) (D42.flatMap byCell) :: byA D42 :: LkA l10 P.e0 :: BysA pp12 cc13 P.g0 :: BysA pp14 cc15 P.g1 :: BysA pp16 cc17 P.c0 :: DgsA pp20 cc21 P.t0 :: DgsA pp22 cc23 P.t1 :: blk bk6 (.cells #[.int .i64 d.frm.v, .int .i64 d.to_.v, .int .i64 d.kind.v, .int .i64 d.seq.v, .int .i64 d.ack.v, .slice pp1 d.body.length cc2] 41 (0, 0)) :: Im 1 (.slice pp1 d.body.length cc2) d.body.length (d.body.flatMap u8c) :: LkA l11 (takeS P.e1 d) :: blk g (.cells #[.pointer (some ⟨l10, 0, none⟩), .pointer (some ⟨l11, 0, none⟩), .slice pp12 P.g0.length cc13, .slice pp14 P.g1.length cc15, .slice pp16 P.c0.length cc17, .slice pp64 ((P.c1 ++ takeT P.e1 d).length) cc65, .slice pp20 P.t0.length cc21, .slice pp22 P.t1.length cc23] 37 (0, 0)) :: F) := by rw [hn74]; exact H76
  have H78 : St W w70 (blk g (.cells #[.pointer (some ⟨l10, 0, none⟩), .pointer (some ⟨l11, 0, none⟩), .slice pp12 P.g0.length cc13, .slice pp14 P.g1.length cc15, .slice pp16 P.c0.length cc17, .slice pp64 ((P.c1 ++ takeT P.e1 d).length) cc65, .slice pp20 P.t0.length cc21, .slice pp22 P.t1.length cc23] 37 (0, 0)) :: LkA l10 P.e0 :: LkA l11 (takeS P.e1 d) :: BysA pp12 cc13 P.g0 :: BysA pp14 cc15 P.g1 :: BysA pp16 cc17 P.c0 :: BysA pp64 cc65 (P.c1 ++ takeT P.e1 d) :: DgsA pp20 cc21 P.t0 :: DgsA pp22 cc23 P.t1 :: byA D48 :: Row 26 1 (.slice pp32 ((takeT P.e1 d).length) cc33) ((takeT P.e1 d).length) (D42.flatMap byCell) :: byA D42 :: blk bk6 (.cells #[.int .i64 d.frm.v, .int .i64 d.to_.v, .int .i64 d.kind.v, .int .i64 d.seq.v, .int .i64 d.ack.v, .slice pp1 d.body.length cc2] 41 (0, 0)) :: Im 1 (.slice pp1 d.body.length cc2) d.body.length (d.body.flatMap u8c) :: F) := (((((((((H77.move 9 rfl).move 9 rfl).move 2 rfl).move 9 rfl).move 9 rfl).move 9 rfl).move 12 rfl).move 10 rfl).move 13 rfl)
  have H79 : St W w70 (PairA g (pass0 P d) :: byA D48 :: Row 26 1 (.slice pp32 ((takeT P.e1 d).length) cc33) ((takeT P.e1 d).length) (D42.flatMap byCell) :: byA D42 :: blk bk6 (.cells #[.int .i64 d.frm.v, .int .i64 d.to_.v, .int .i64 d.kind.v, .int .i64 d.seq.v, .int .i64 d.ack.v, .slice pp1 d.body.length cc2] 41 (0, 0)) :: Im 1 (.slice pp1 d.body.length cc2) d.body.length (d.body.flatMap u8c) :: F) := St.shut_ex (⟨l10, l11, pp12, cc13, pp14, cc15, pp16, cc17, pp64, cc65, pp20, cc21, pp22, cc23⟩ : PairQ) (St.shut_star (ls := [blk g (.cells #[.pointer (some ⟨l10, 0, none⟩), .pointer (some ⟨l11, 0, none⟩), .slice pp12 P.g0.length cc13, .slice pp14 P.g1.length cc15, .slice pp16 P.c0.length cc17, .slice pp64 ((P.c1 ++ takeT P.e1 d).length) cc65, .slice pp20 P.t0.length cc21, .slice pp22 P.t1.length cc23] 37 (0, 0)), LkA l10 P.e0, LkA l11 (takeS P.e1 d), BysA pp12 cc13 P.g0, BysA pp14 cc15 P.g1, BysA pp16 cc17 P.c0, BysA pp64 cc65 (P.c1 ++ takeT P.e1 d), DgsA pp20 cc21 P.t0, DgsA pp22 cc23 P.t1]) H78)
  have H80 : St W w70 (PairA g (pass0 P d) :: F) := (((((H79.drop 1 rfl).drop 1 rfl).drop 1 rfl).drop 1 rfl).drop 1 rfl)
  exact ⟨rfl, H80⟩
set_option maxHeartbeats 4000000 in
set_option maxRecDepth 100000 in
theorem passes_1 {W w : World} {F : List Atom} (g : Nat) (P : PairV) (d : DgM) (v0 : Value) (hok : endOk P.e0) (hE : takeE P.e0 d = 0) (hN : P.e0.held.length ≤ 1099511627776) (hC : P.c0.length ≤ 1099511627776) (hC2 : (takeT P.e0 d).length ≤ 1099511627776) {j : Nat} (hj : F[j]? = some (Im 1 v0 d.body.length (d.body.flatMap u8c))) (H : St W w (PairA g P :: F)) : Calls Try.prog 12 #[.pointer (some ⟨g, 0, none⟩), .int .i64 1, .agg #[.int .i64 d.frm.v, .int .i64 d.to_.v, .int .i64 d.kind.v, .int .i64 d.seq.v, .int .i64 d.ack.v, v0]] w (Ret fun v w' => v = .bool true ∧ St W w' (PairA g (swp (pass0 (swp P) d)) :: F)) := by
  obtain ⟨pp1, cc2, rfl, hsh3⟩ := Rd.shape (Im.rd H (i := j + 1) (show (PairA g P :: F)[j + 1]? = _ from hj))
  have H4 := H.dup (i := j + 1) (show (PairA g P :: F)[j + 1]? = _ from hj) (Im_pers _ _ _ _)
  have hmlH4 := Im.len H4 (i := 0) rfl
  have H5 : St W w (Im 1 (.slice pp1 d.body.length cc2) d.body.length (d.body.flatMap u8c) :: PairA g P :: F) := H4
  refine calls_of_go (n := 38) Try.func12 rfl Try.ntmps12 rfl ?_
  refine g_seq ?_
  refine g_region ?_
  refine r_cons (s_box H5 41 (.agg #[.int .i64 d.frm.v, .int .i64 d.to_.v, .int .i64 d.kind.v, .int .i64 d.seq.v, .int .i64 d.ack.v, .slice pp1 d.body.length cc2]) rfl (cs := #[.int .i64 d.frm.v, .int .i64 d.to_.v, .int .i64 d.kind.v, .int .i64 d.seq.v, .int .i64 d.ack.v, .slice pp1 d.body.length cc2]) rfl rfl ?_); intro bk6 w7 H8
  refine r_cons (s_assign (.bool false) rfl rfl ?_)
  refine r_nil ?_
  refine g_seq ?_
  have H9 := H8.move 2 rfl
  obtain ⟨⟨l10, l11, pp12, cc13, pp14, cc15, pp16, cc17, pp18, cc19, pp20, cc21, pp22, cc23⟩, H24⟩ := St.open_ex H9
  have H25 := St.open_star H24
  have H26 : St W w7 (blk g (.cells #[.pointer (some ⟨l10, 0, none⟩), .pointer (some ⟨l11, 0, none⟩), .slice pp12 P.g0.length cc13, .slice pp14 P.g1.length cc15, .slice pp16 P.c0.length cc17, .slice pp18 P.c1.length cc19, .slice pp20 P.t0.length cc21, .slice pp22 P.t1.length cc23] 37 (0, 0)) :: LkA l10 P.e0 :: LkA l11 P.e1 :: BysA pp12 cc13 P.g0 :: BysA pp14 cc15 P.g1 :: BysA pp16 cc17 P.c0 :: BysA pp18 cc19 P.c1 :: DgsA pp20 cc21 P.t0 :: DgsA pp22 cc23 P.t1 :: blk bk6 (.cells #[.int .i64 d.frm.v, .int .i64 d.to_.v, .int .i64 d.kind.v, .int .i64 d.seq.v, .int .i64 d.ack.v, .slice pp1 d.body.length cc2] 41 (0, 0)) :: Im 1 (.slice pp1 d.body.length cc2) d.body.length (d.body.flatMap u8c) :: F) := H25
  have H27 : St W w7 (DgsA pp20 cc21 P.t0 :: DgsA pp22 cc23 P.t1 :: blk bk6 (.cells #[.int .i64 d.frm.v, .int .i64 d.to_.v, .int .i64 d.kind.v, .int .i64 d.seq.v, .int .i64 d.ack.v, .slice pp1 d.body.length cc2] 41 (0, 0)) :: Im 1 (.slice pp1 d.body.length cc2) d.body.length (d.body.flatMap u8c) :: LkA l10 P.e0 :: blk g (.cells #[.pointer (some ⟨l10, 0, none⟩), .pointer (some ⟨l11, 0, none⟩), .slice pp12 P.g0.length cc13, .slice pp14 P.g1.length cc15, .slice pp16 P.c0.length cc17, .slice pp18 P.c1.length cc19, .slice pp20 P.t0.length cc21, .slice pp22 P.t1.length cc23] 37 (0, 0)) :: LkA l11 P.e1 :: BysA pp12 cc13 P.g0 :: BysA pp14 cc15 P.g1 :: BysA pp16 cc17 P.c0 :: BysA pp18 cc19 P.c1 :: F) := (((((H26.move 1 rfl).move 10 rfl).move 10 rfl).move 10 rfl).move 10 rfl)
  have H28 : St W w7 (LkA l11 P.e1 :: BysA pp12 cc13 P.g0 :: BysA pp14 cc15 P.g1 :: BysA pp16 cc17 P.c0 :: BysA pp18 cc19 P.c1 :: DgsA pp20 cc21 P.t0 :: DgsA pp22 cc23 P.t1 :: blk bk6 (.cells #[.int .i64 d.frm.v, .int .i64 d.to_.v, .int .i64 d.kind.v, .int .i64 d.seq.v, .int .i64 d.ack.v, .slice pp1 d.body.length cc2] 41 (0, 0)) :: Im 1 (.slice pp1 d.body.length cc2) d.body.length (d.body.flatMap u8c) :: LkA l10 P.e0 :: blk g (.cells #[.pointer (some ⟨l10, 0, none⟩), .pointer (some ⟨l11, 0, none⟩), .slice pp12 P.g0.length cc13, .slice pp14 P.g1.length cc15, .slice pp16 P.c0.length cc17, .slice pp18 P.c1.length cc19, .slice pp20 P.t0.length cc21, .slice pp22 P.t1.length cc23] 37 (0, 0)) :: F) := (((((H27.move 10 rfl).move 10 rfl).move 10 rfl).move 10 rfl).move 10 rfl)
  have H29 : St W w7 (blk g (.cells #[.pointer (some ⟨l10, 0, none⟩), .pointer (some ⟨l11, 0, none⟩), .slice pp12 P.g0.length cc13, .slice pp14 P.g1.length cc15, .slice pp16 P.c0.length cc17, .slice pp18 P.c1.length cc19, .slice pp20 P.t0.length cc21, .slice pp22 P.t1.length cc23] 37 (0, 0)) :: LkA l11 P.e1 :: BysA pp12 cc13 P.g0 :: BysA pp14 cc15 P.g1 :: BysA pp16 cc17 P.c0 :: BysA pp18 cc19 P.c1 :: DgsA pp20 cc21 P.t0 :: DgsA pp22 cc23 P.t1 :: blk bk6 (.cells #[.int .i64 d.frm.v, .int .i64 d.to_.v, .int .i64 d.kind.v, .int .i64 d.seq.v, .int .i64 d.ack.v, .slice pp1 d.body.length cc2] 41 (0, 0)) :: Im 1 (.slice pp1 d.body.length cc2) d.body.length (d.body.flatMap u8c) :: LkA l10 P.e0 :: F) := (H28.move 10 rfl)
  refine g_mix (fun t_ w => St W w (blk g (.cells #[.pointer (some ⟨l10, 0, none⟩), .pointer (some ⟨l11, 0, none⟩), .slice pp12 P.g0.length cc13, .slice pp14 P.g1.length cc15, .slice pp16 P.c0.length cc17, .slice pp18 P.c1.length cc19, .slice pp20 P.t0.length cc21, .slice pp22 P.t1.length cc23] 37 (0, 0)) :: LkA l11 P.e1 :: BysA pp12 cc13 P.g0 :: BysA pp14 cc15 P.g1 :: BysA pp16 cc17 P.c0 :: BysA pp18 cc19 P.c1 :: DgsA pp20 cc21 P.t0 :: DgsA pp22 cc23 P.t1 :: blk bk6 (.cells #[.int .i64 d.frm.v, .int .i64 d.to_.v, .int .i64 d.kind.v, .int .i64 d.seq.v, .int .i64 d.ack.v, .slice pp1 d.body.length cc2] 41 (0, 0)) :: Im 1 (.slice pp1 d.body.length cc2) d.body.length (d.body.flatMap u8c) :: t_)) (LkA l10 P.e0 :: F) mixed 14 rfl H29.drew ?_
  refine f_first 0 (listed' := #[true, false, false, false, false, false, false, false, false, false, false, false, false, false]) rfl (by kernel_rfl) (by kernel_rfl) (by kernel_rfl) rfl ?_
  refine f_val rfl rfl rfl (by intro t_ w hw; exact x_move (.pointer (some ⟨g, 0, none⟩)) rfl w) ?_
  refine f_first 1 (listed' := #[true, true, false, false, false, false, false, false, false, false, false, false, false, false]) rfl (by kernel_rfl) (by kernel_rfl) (by kernel_rfl) rfl ?_
  refine f_val rfl rfl rfl (by intro t_ w hw; exact x_move (.int .i64 1) rfl w) ?_
  refine f_first 2 (listed' := #[true, true, true, false, false, false, false, false, false, false, false, false, false, false]) rfl (by kernel_rfl) (by kernel_rfl) (by kernel_rfl) rfl ?_
  refine f_val rfl rfl rfl (by intro t_ w hw; exact x_sub 0 rfl rfl (wi64 (by omega)) w) ?_
  refine f_first 3 (listed' := #[true, true, true, true, false, false, false, false, false, false, false, false, false, false]) rfl (by kernel_rfl) (by kernel_rfl) (by kernel_rfl) rfl ?_
  refine f_val rfl rfl rfl (by intro t_ w hw; exact x_nilCheck (.pointer (some ⟨g, 0, none⟩)) rfl ⟨_, rfl⟩ w) ?_
  refine f_first 4 (listed' := #[true, true, true, true, true, false, false, false, false, false, false, false, false, false]) rfl (by kernel_rfl) (by kernel_rfl) (by kernel_rfl) rfl ?_
  refine f_val rfl rfl rfl (by intro t_ w hw; exact x_fieldAddr 37 0 0 0 31 rfl fi_37_0 rfl w) ?_
  refine f_first 5 (listed' := #[true, true, true, true, true, true, false, false, false, false, false, false, false, false]) rfl (by kernel_rfl) (by kernel_rfl) (by kernel_rfl) rfl ?_
  refine f_val rfl rfl rfl (by intro t_ w hw; exact x_indexAddr_arr 0 1 0 rfl rfl ar_31 (by omega) rfl w) ?_
  refine f_first 6 (listed' := #[true, true, true, true, true, true, true, false, false, false, false, false, false, false]) rfl (by kernel_rfl) (by kernel_rfl) (by kernel_rfl) rfl ?_
  refine f_val rfl rfl rfl (by intro t_ w hw; exact x_load (.pointer (some ⟨l10, 0, none⟩)) ag_30 rfl (hw.blk_at (i := 0) rfl) rfl) ?_
  refine f_first 7 (listed' := #[true, true, true, true, true, true, true, true, false, false, false, false, false, false]) rfl (by kernel_rfl) (by kernel_rfl) (by kernel_rfl) rfl ?_
  refine f_val rfl rfl rfl (by intro t_ w hw; exact x_loadAgg [.int .i64 d.frm.v, .int .i64 d.to_.v, .int .i64 d.kind.v, .int .i64 d.seq.v, .int .i64 d.ack.v, .slice pp1 d.body.length cc2] 6 ag_41 rfl (hw.blk_at (i := 8) rfl) (Nat.le_of_ble_eq_true rfl) rfl) ?_
  refine f_all (rs := [8]) (by kernel_rfl) (by simp) ?_
  refine a_cons ⟨_, rfl, ?_⟩ (fun x hx => absurd hx (by simp))
  intro w30 H31
  try dsimp only at H31
  refine s_call [.pointer (some ⟨l10, 0, none⟩), .agg #[.int .i64 d.frm.v, .int .i64 d.to_.v, .int .i64 d.kind.v, .int .i64 d.seq.v, .int .i64 d.ack.v, .slice pp1 d.body.length cc2]] pl_21 rfl rfl (Lk_Take l10 P.e0 hok d (.slice pp1 d.body.length cc2) hN (j := 9) rfl (i := 10) rfl H31) ?_
  rintro _ w34 ⟨pp32, cc33, rfl, H35⟩
  have H36 : St W w34 (DgsA pp22 cc23 P.t1 :: blk bk6 (.cells #[.int .i64 d.frm.v, .int .i64 d.to_.v, .int .i64 d.kind.v, .int .i64 d.seq.v, .int .i64 d.ack.v, .slice pp1 d.body.length cc2] 41 (0, 0)) :: Im 1 (.slice pp1 d.body.length cc2) d.body.length (d.body.flatMap u8c) :: BysA pp32 cc33 (takeT P.e0 d) :: LkA l10 (takeS P.e0 d) :: blk g (.cells #[.pointer (some ⟨l10, 0, none⟩), .pointer (some ⟨l11, 0, none⟩), .slice pp12 P.g0.length cc13, .slice pp14 P.g1.length cc15, .slice pp16 P.c0.length cc17, .slice pp18 P.c1.length cc19, .slice pp20 P.t0.length cc21, .slice pp22 P.t1.length cc23] 37 (0, 0)) :: LkA l11 P.e1 :: BysA pp12 cc13 P.g0 :: BysA pp14 cc15 P.g1 :: BysA pp16 cc17 P.c0 :: BysA pp18 cc19 P.c1 :: DgsA pp20 cc21 P.t0 :: F) := (((((H35.move 11 rfl).move 1 rfl).move 11 rfl).move 11 rfl).move 11 rfl)
  have H37 : St W w34 (BysA pp12 cc13 P.g0 :: BysA pp14 cc15 P.g1 :: BysA pp16 cc17 P.c0 :: BysA pp18 cc19 P.c1 :: DgsA pp20 cc21 P.t0 :: DgsA pp22 cc23 P.t1 :: blk bk6 (.cells #[.int .i64 d.frm.v, .int .i64 d.to_.v, .int .i64 d.kind.v, .int .i64 d.seq.v, .int .i64 d.ack.v, .slice pp1 d.body.length cc2] 41 (0, 0)) :: Im 1 (.slice pp1 d.body.length cc2) d.body.length (d.body.flatMap u8c) :: BysA pp32 cc33 (takeT P.e0 d) :: LkA l10 (takeS P.e0 d) :: blk g (.cells #[.pointer (some ⟨l10, 0, none⟩), .pointer (some ⟨l11, 0, none⟩), .slice pp12 P.g0.length cc13, .slice pp14 P.g1.length cc15, .slice pp16 P.c0.length cc17, .slice pp18 P.c1.length cc19, .slice pp20 P.t0.length cc21, .slice pp22 P.t1.length cc23] 37 (0, 0)) :: LkA l11 P.e1 :: F) := (((((H36.move 11 rfl).move 11 rfl).move 11 rfl).move 11 rfl).move 11 rfl)
  have H38 : St W w34 (blk g (.cells #[.pointer (some ⟨l10, 0, none⟩), .pointer (some ⟨l11, 0, none⟩), .slice pp12 P.g0.length cc13, .slice pp14 P.g1.length cc15, .slice pp16 P.c0.length cc17, .slice pp18 P.c1.length cc19, .slice pp20 P.t0.length cc21, .slice pp22 P.t1.length cc23] 37 (0, 0)) :: LkA l11 P.e1 :: BysA pp12 cc13 P.g0 :: BysA pp14 cc15 P.g1 :: BysA pp16 cc17 P.c0 :: BysA pp18 cc19 P.c1 :: DgsA pp20 cc21 P.t0 :: DgsA pp22 cc23 P.t1 :: blk bk6 (.cells #[.int .i64 d.frm.v, .int .i64 d.to_.v, .int .i64 d.kind.v, .int .i64 d.seq.v, .int .i64 d.ack.v, .slice pp1 d.body.length cc2] 41 (0, 0)) :: Im 1 (.slice pp1 d.body.length cc2) d.body.length (d.body.flatMap u8c) :: BysA pp32 cc33 (takeT P.e0 d) :: LkA l10 (takeS P.e0 d) :: F) := ((H37.move 11 rfl).move 11 rfl)
  refine ⟨BysA pp32 cc33 (takeT P.e0 d) :: LkA l10 (takeS P.e0 d) :: F, ?_, H38⟩
  change FReg _ _ _ _ _ #[true, true, true, true, true, true, true, true, true, false, false, false, false, false] _ _
  refine f_first 9 (listed' := #[true, true, true, true, true, true, true, true, true, true, false, false, false, false]) rfl (by kernel_rfl) (by kernel_rfl) (by kernel_rfl) rfl ?_
  refine f_val rfl rfl rfl (by intro t_ w hw; exact x_move (.tuple #[.slice pp32 ((takeT P.e0 d).length) cc33, .int .i64 (takeE P.e0 d)]) rfl w) ?_
  refine f_first 10 (listed' := #[true, true, true, true, true, true, true, true, true, true, true, false, false, false]) rfl (by kernel_rfl) (by kernel_rfl) (by kernel_rfl) rfl ?_
  refine f_val rfl rfl rfl (by intro t_ w hw; exact x_extract (.slice pp32 ((takeT P.e0 d).length) cc33) #[.slice pp32 ((takeT P.e0 d).length) cc33, .int .i64 (takeE P.e0 d)] rfl rfl w) ?_
  refine f_first 11 (listed' := #[true, true, true, true, true, true, true, true, true, true, true, true, false, false]) rfl (by kernel_rfl) (by kernel_rfl) (by kernel_rfl) rfl ?_
  refine f_val rfl rfl rfl (by intro t_ w hw; exact x_extract (.int .i64 (takeE P.e0 d)) #[.slice pp32 ((takeT P.e0 d).length) cc33, .int .i64 (takeE P.e0 d)] rfl rfl w) ?_
  refine f_first 12 (listed' := #[true, true, true, true, true, true, true, true, true, true, true, true, true, false]) rfl (by kernel_rfl) (by kernel_rfl) (by kernel_rfl) rfl ?_
  refine f_val rfl rfl rfl (by intro t_ w hw; exact x_assign (.slice pp32 ((takeT P.e0 d).length) cc33) rfl w) ?_
  refine f_first 13 (listed' := #[true, true, true, true, true, true, true, true, true, true, true, true, true, true]) rfl (by kernel_rfl) (by kernel_rfl) (by kernel_rfl) rfl ?_
  refine f_val rfl rfl rfl (by intro t_ w hw; exact x_assign (.int .i64 (takeE P.e0 d)) rfl w) ?_
  refine f_done (by kernel_rfl) ?_
  intro w39 H40
  refine g_seq ?_
  refine g_seq ?_
  refine g_region ?_
  refine r_cons (s_move (.int .i64 (takeE P.e0 d)) rfl rfl ?_)
  refine r_cons (s_neq false rfl rfl (ntrue hE) rfl ?_)
  refine r_nil ?_
  refine g_false rfl ?_
  refine g_skip ?_
  refine g_seq ?_
  have H41 := H40.move 10 rfl
  obtain ⟨⟨D42, hD43⟩, H44⟩ := St.open_ex H41
  have H45 := St.open_star H44
  change D42.map BytesD.data = (takeT P.e0 d) at hD43
  have H46 : St W w39 (Row 26 1 (.slice pp32 ((takeT P.e0 d).length) cc33) ((takeT P.e0 d).length) (D42.flatMap byCell) :: byA D42 :: blk g (.cells #[.pointer (some ⟨l10, 0, none⟩), .pointer (some ⟨l11, 0, none⟩), .slice pp12 P.g0.length cc13, .slice pp14 P.g1.length cc15, .slice pp16 P.c0.length cc17, .slice pp18 P.c1.length cc19, .slice pp20 P.t0.length cc21, .slice pp22 P.t1.length cc23] 37 (0, 0)) :: LkA l11 P.e1 :: BysA pp12 cc13 P.g0 :: BysA pp14 cc15 P.g1 :: BysA pp16 cc17 P.c0 :: BysA pp18 cc19 P.c1 :: DgsA pp20 cc21 P.t0 :: DgsA pp22 cc23 P.t1 :: blk bk6 (.cells #[.int .i64 d.frm.v, .int .i64 d.to_.v, .int .i64 d.kind.v, .int .i64 d.seq.v, .int .i64 d.ack.v, .slice pp1 d.body.length cc2] 41 (0, 0)) :: Im 1 (.slice pp1 d.body.length cc2) d.body.length (d.body.flatMap u8c) :: LkA l10 (takeS P.e0 d) :: F) := H45
  have H47 := H46.move 6 rfl
  obtain ⟨⟨D48, hD49⟩, H50⟩ := St.open_ex H47
  have H51 := St.open_star H50
  change D48.map BytesD.data = P.c0 at hD49
  have H52 : St W w39 (Row 26 1 (.slice pp16 P.c0.length cc17) P.c0.length (D48.flatMap byCell) :: byA D48 :: Row 26 1 (.slice pp32 ((takeT P.e0 d).length) cc33) ((takeT P.e0 d).length) (D42.flatMap byCell) :: byA D42 :: blk g (.cells #[.pointer (some ⟨l10, 0, none⟩), .pointer (some ⟨l11, 0, none⟩), .slice pp12 P.g0.length cc13, .slice pp14 P.g1.length cc15, .slice pp16 P.c0.length cc17, .slice pp18 P.c1.length cc19, .slice pp20 P.t0.length cc21, .slice pp22 P.t1.length cc23] 37 (0, 0)) :: LkA l11 P.e1 :: BysA pp12 cc13 P.g0 :: BysA pp14 cc15 P.g1 :: BysA pp18 cc19 P.c1 :: DgsA pp20 cc21 P.t0 :: DgsA pp22 cc23 P.t1 :: blk bk6 (.cells #[.int .i64 d.frm.v, .int .i64 d.to_.v, .int .i64 d.kind.v, .int .i64 d.seq.v, .int .i64 d.ack.v, .slice pp1 d.body.length cc2] 41 (0, 0)) :: Im 1 (.slice pp1 d.body.length cc2) d.body.length (d.body.flatMap u8c) :: LkA l10 (takeS P.e0 d) :: F) := H51
  have hz1 := Row.lenOf H52 (i := 0) rfl; have hz2 := Row.lenOf H52 (i := 2) rfl
  have H53 : St W w39 (blk bk6 (.cells #[.int .i64 d.frm.v, .int .i64 d.to_.v, .int .i64 d.kind.v, .int .i64 d.seq.v, .int .i64 d.ack.v, .slice pp1 d.body.length cc2] 41 (0, 0)) :: Im 1 (.slice pp1 d.body.length cc2) d.body.length (d.body.flatMap u8c) :: LkA l10 (takeS P.e0 d) :: Row 26 1 (.slice pp16 P.c0.length cc17) P.c0.length (D48.flatMap byCell) :: blk g (.cells #[.pointer (some ⟨l10, 0, none⟩), .pointer (some ⟨l11, 0, none⟩), .slice pp12 P.g0.length cc13, .slice pp14 P.g1.length cc15, .slice pp16 P.c0.length cc17, .slice pp18 P.c1.length cc19, .slice pp20 P.t0.length cc21, .slice pp22 P.t1.length cc23] 37 (0, 0)) :: byA D48 :: Row 26 1 (.slice pp32 ((takeT P.e0 d).length) cc33) ((takeT P.e0 d).length) (D42.flatMap byCell) :: byA D42 :: LkA l11 P.e1 :: BysA pp12 cc13 P.g0 :: BysA pp14 cc15 P.g1 :: BysA pp18 cc19 P.c1 :: DgsA pp20 cc21 P.t0 :: DgsA pp22 cc23 P.t1 :: F) := (((((H52.move 4 rfl).move 1 rfl).move 13 rfl).move 13 rfl).move 13 rfl)
  have H54 : St W w39 (BysA pp12 cc13 P.g0 :: BysA pp14 cc15 P.g1 :: BysA pp18 cc19 P.c1 :: DgsA pp20 cc21 P.t0 :: DgsA pp22 cc23 P.t1 :: blk bk6 (.cells #[.int .i64 d.frm.v, .int .i64 d.to_.v, .int .i64 d.kind.v, .int .i64 d.seq.v, .int .i64 d.ack.v, .slice pp1 d.body.length cc2] 41 (0, 0)) :: Im 1 (.slice pp1 d.body.length cc2) d.body.length (d.body.flatMap u8c) :: LkA l10 (takeS P.e0 d) :: Row 26 1 (.slice pp16 P.c0.length cc17) P.c0.length (D48.flatMap byCell) :: blk g (.cells #[.pointer (some ⟨l10, 0, none⟩), .pointer (some ⟨l11, 0, none⟩), .slice pp12 P.g0.length cc13, .slice pp14 P.g1.length cc15, .slice pp16 P.c0.length cc17, .slice pp18 P.c1.length cc19, .slice pp20 P.t0.length cc21, .slice pp22 P.t1.length cc23] 37 (0, 0)) :: byA D48 :: Row 26 1 (.slice pp32 ((takeT P.e0 d).length) cc33) ((takeT P.e0 d).length) (D42.flatMap byCell) :: byA D42 :: LkA l11 P.e1 :: F) := (((((H53.move 13 rfl).move 13 rfl).move 13 rfl).move 13 rfl).move 13 rfl)
  have H55 : St W w39 (byA D48 :: Row 26 1 (.slice pp32 ((takeT P.e0 d).length) cc33) ((takeT P.e0 d).length) (D42.flatMap byCell) :: byA D42 :: LkA l11 P.e1 :: BysA pp12 cc13 P.g0 :: BysA pp14 cc15 P.g1 :: BysA pp18 cc19 P.c1 :: DgsA pp20 cc21 P.t0 :: DgsA pp22 cc23 P.t1 :: blk bk6 (.cells #[.int .i64 d.frm.v, .int .i64 d.to_.v, .int .i64 d.kind.v, .int .i64 d.seq.v, .int .i64 d.ack.v, .slice pp1 d.body.length cc2] 41 (0, 0)) :: Im 1 (.slice pp1 d.body.length cc2) d.body.length (d.body.flatMap u8c) :: LkA l10 (takeS P.e0 d) :: Row 26 1 (.slice pp16 P.c0.length cc17) P.c0.length (D48.flatMap byCell) :: blk g (.cells #[.pointer (some ⟨l10, 0, none⟩), .pointer (some ⟨l11, 0, none⟩), .slice pp12 P.g0.length cc13, .slice pp14 P.g1.length cc15, .slice pp16 P.c0.length cc17, .slice pp18 P.c1.length cc19, .slice pp20 P.t0.length cc21, .slice pp22 P.t1.length cc23] 37 (0, 0)) :: F) := ((((H54.move 13 rfl).move 13 rfl).move 13 rfl).move 13 rfl)
  refine g_mix (fun t_ w => St W w (byA D48 :: Row 26 1 (.slice pp32 ((takeT P.e0 d).length) cc33) ((takeT P.e0 d).length) (D42.flatMap byCell) :: byA D42 :: LkA l11 P.e1 :: BysA pp12 cc13 P.g0 :: BysA pp14 cc15 P.g1 :: BysA pp18 cc19 P.c1 :: DgsA pp20 cc21 P.t0 :: DgsA pp22 cc23 P.t1 :: blk bk6 (.cells #[.int .i64 d.frm.v, .int .i64 d.to_.v, .int .i64 d.kind.v, .int .i64 d.seq.v, .int .i64 d.ack.v, .slice pp1 d.body.length cc2] 41 (0, 0)) :: Im 1 (.slice pp1 d.body.length cc2) d.body.length (d.body.flatMap u8c) :: LkA l10 (takeS P.e0 d) :: t_)) (Row 26 1 (.slice pp16 P.c0.length cc17) P.c0.length (D48.flatMap byCell) :: blk g (.cells #[.pointer (some ⟨l10, 0, none⟩), .pointer (some ⟨l11, 0, none⟩), .slice pp12 P.g0.length cc13, .slice pp14 P.g1.length cc15, .slice pp16 P.c0.length cc17, .slice pp18 P.c1.length cc19, .slice pp20 P.t0.length cc21, .slice pp22 P.t1.length cc23] 37 (0, 0)) :: F) mixed 16 rfl H55.drew ?_
  refine f_first 0 (listed' := #[true, false, false, false, false, false, false, false, false, false, false, false, false, false, false, false]) rfl (by kernel_rfl) (by kernel_rfl) (by kernel_rfl) rfl ?_
  refine f_val rfl rfl rfl (by intro t_ w hw; exact x_move (.pointer (some ⟨g, 0, none⟩)) rfl w) ?_
  refine f_first 1 (listed' := #[true, true, false, false, false, false, false, false, false, false, false, false, false, false, false, false]) rfl (by kernel_rfl) (by kernel_rfl) (by kernel_rfl) rfl ?_
  refine f_val rfl rfl rfl (by intro t_ w hw; exact x_move (.int .i64 1) rfl w) ?_
  refine f_first 2 (listed' := #[true, true, true, false, false, false, false, false, false, false, false, false, false, false, false, false]) rfl (by kernel_rfl) (by kernel_rfl) (by kernel_rfl) rfl ?_
  refine f_val rfl rfl rfl (by intro t_ w hw; exact x_sub 0 rfl rfl (wi64 (by omega)) w) ?_
  refine f_first 3 (listed' := #[true, true, true, true, false, false, false, false, false, false, false, false, false, false, false, false]) rfl (by kernel_rfl) (by kernel_rfl) (by kernel_rfl) rfl ?_
  refine f_val rfl rfl rfl (by intro t_ w hw; exact x_move (.pointer (some ⟨g, 0, none⟩)) rfl w) ?_
  refine f_first 4 (listed' := #[true, true, true, true, true, false, false, false, false, false, false, false, false, false, false, false]) rfl (by kernel_rfl) (by kernel_rfl) (by kernel_rfl) rfl ?_
  refine f_val rfl rfl rfl (by intro t_ w hw; exact x_move (.int .i64 1) rfl w) ?_
  refine f_first 5 (listed' := #[true, true, true, true, true, true, false, false, false, false, false, false, false, false, false, false]) rfl (by kernel_rfl) (by kernel_rfl) (by kernel_rfl) rfl ?_
  refine f_val rfl rfl rfl (by intro t_ w hw; exact x_sub 0 rfl rfl (wi64 (by omega)) w) ?_
  refine f_first 6 (listed' := #[true, true, true, true, true, true, true, false, false, false, false, false, false, false, false, false]) rfl (by kernel_rfl) (by kernel_rfl) (by kernel_rfl) rfl ?_
  refine f_val rfl rfl rfl (by intro t_ w hw; exact x_nilCheck (.pointer (some ⟨g, 0, none⟩)) rfl ⟨_, rfl⟩ w) ?_
  refine f_first 7 (listed' := #[true, true, true, true, true, true, true, true, false, false, false, false, false, false, false, false]) rfl (by kernel_rfl) (by kernel_rfl) (by kernel_rfl) rfl ?_
  refine f_val rfl rfl rfl (by intro t_ w hw; exact x_fieldAddr 37 2 4 4 33 rfl fi_37_2 rfl w) ?_
  refine f_first 8 (listed' := #[true, true, true, true, true, true, true, true, true, false, false, false, false, false, false, false]) rfl (by kernel_rfl) (by kernel_rfl) (by kernel_rfl) rfl ?_
  refine f_val rfl rfl rfl (by intro t_ w hw; exact x_indexAddr_arr 0 1 4 rfl rfl ar_33 (by omega) rfl w) ?_
  refine f_first 10 (listed' := #[true, true, true, true, true, true, true, true, true, false, true, false, false, false, false, false]) rfl (by kernel_rfl) (by kernel_rfl) (by kernel_rfl) rfl ?_
  refine f_val rfl rfl rfl (by intro t_ w hw; exact x_move (.slice pp32 ((takeT P.e0 d).length) cc33) rfl w) ?_
  refine f_first 12 (listed' := #[true, true, true, true, true, true, true, true, true, false, true, false, true, false, false, false]) rfl (by kernel_rfl) (by kernel_rfl) (by kernel_rfl) rfl ?_
  refine f_val rfl rfl rfl (by intro t_ w hw; exact x_nilCheck (.pointer (some ⟨g, 0, none⟩)) rfl ⟨_, rfl⟩ w) ?_
  refine f_first 13 (listed' := #[true, true, true, true, true, true, true, true, true, false, true, false, true, true, false, false]) rfl (by kernel_rfl) (by kernel_rfl) (by kernel_rfl) rfl ?_
  refine f_val rfl rfl rfl (by intro t_ w hw; exact x_fieldAddr 37 2 4 4 33 rfl fi_37_2 rfl w) ?_
  refine f_all (rs := [9]) (by kernel_rfl) (by simp) ?_
  refine a_cons ⟨_, rfl, ?_⟩ (fun x hx => absurd hx (by simp))
  intro w56 H57
  try dsimp only at H57
  refine s_load (.slice pp16 P.c0.length cc17) ag_32 rfl (H57.blk_at (i := 13) rfl) rfl rfl ?_
  refine ⟨Row 26 1 (.slice pp16 P.c0.length cc17) P.c0.length (D48.flatMap byCell) :: blk g (.cells #[.pointer (some ⟨l10, 0, none⟩), .pointer (some ⟨l11, 0, none⟩), .slice pp12 P.g0.length cc13, .slice pp14 P.g1.length cc15, .slice pp16 P.c0.length cc17, .slice pp18 P.c1.length cc19, .slice pp20 P.t0.length cc21, .slice pp22 P.t1.length cc23] 37 (0, 0)) :: F, ?_, H57⟩
  change FReg _ _ _ _ _ #[true, true, true, true, true, true, true, true, true, true, true, false, true, true, false, false] _ _
  refine f_all (rs := [11]) (by kernel_rfl) (by simp) ?_
  refine a_cons ⟨_, rfl, ?_⟩ (fun x hx => absurd hx (by simp))
  intro w58 H59
  try dsimp only at H59
  refine s_append H59 12 rfl rfl rfl (Row.rd H59 (i := 1) rfl) ap_32 (by decide) (by unfold maxLen; omega) (by omega) (n' := P.c0.length + (takeT P.e0 d).length) (xs' := D48.flatMap byCell ++ D42.flatMap byCell) (by omega) (by first | rfl | simp) rfl ?_; intro vv60 w61 H62 hn63
  obtain ⟨pp64, cc65, rfl⟩ := Row.slice H62 (i := 12) rfl
  refine ⟨Row 26 1 (.slice pp64 (P.c0.length + (takeT P.e0 d).length) cc65) (P.c0.length + (takeT P.e0 d).length) (D48.flatMap byCell ++ D42.flatMap byCell) :: blk g (.cells #[.pointer (some ⟨l10, 0, none⟩), .pointer (some ⟨l11, 0, none⟩), .slice pp12 P.g0.length cc13, .slice pp14 P.g1.length cc15, .slice pp16 P.c0.length cc17, .slice pp18 P.c1.length cc19, .slice pp20 P.t0.length cc21, .slice pp22 P.t1.length cc23] 37 (0, 0)) :: F, ?_, H62⟩
  change FReg _ _ _ _ _ #[true, true, true, true, true, true, true, true, true, true, true, true, true, true, false, false] _ _
  refine f_first 14 (listed' := #[true, true, true, true, true, true, true, true, true, true, true, true, true, true, true, false]) rfl (by kernel_rfl) (by kernel_rfl) (by kernel_rfl) rfl ?_
  refine f_val rfl rfl rfl (by intro t_ w hw; exact x_indexAddr_arr 0 1 4 rfl rfl ar_33 (by omega) rfl w) ?_
  refine f_all (rs := [15]) (by kernel_rfl) (by simp) ?_
  refine a_cons ⟨_, rfl, ?_⟩ (fun x hx => absurd hx (by simp))
  intro w66 H67
  try dsimp only at H67
  refine s_store H67 13 (.slice pp64 (P.c0.length + (takeT P.e0 d).length) cc65) rfl rfl rfl sz_32 rfl (Nat.le_of_ble_eq_true rfl) rfl (cs' := #[.pointer (some ⟨l10, 0, none⟩), .pointer (some ⟨l11, 0, none⟩), .slice pp12 P.g0.length cc13, .slice pp14 P.g1.length cc15, .slice pp64 (P.c0.length + (takeT P.e0 d).length) cc65, .slice pp18 P.c1.length cc19, .slice pp20 P.t0.length cc21, .slice pp22 P.t1.length cc23]) rfl ?_; intro w68 H69
  refine ⟨Row 26 1 (.slice pp64 (P.c0.length + (takeT P.e0 d).length) cc65) (P.c0.length + (takeT P.e0 d).length) (D48.flatMap byCell ++ D42.flatMap byCell) :: blk g (.cells #[.pointer (some ⟨l10, 0, none⟩), .pointer (some ⟨l11, 0, none⟩), .slice pp12 P.g0.length cc13, .slice pp14 P.g1.length cc15, .slice pp64 (P.c0.length + (takeT P.e0 d).length) cc65, .slice pp18 P.c1.length cc19, .slice pp20 P.t0.length cc21, .slice pp22 P.t1.length cc23] 37 (0, 0)) :: F, ?_, H69⟩
  change FReg _ _ _ _ _ #[true, true, true, true, true, true, true, true, true, true, true, true, true, true, true, true] _ _
  refine f_done (by kernel_rfl) ?_
  intro w70 H71
  refine g_seq ?_
  refine g_region ?_
  refine r_cons (s_assign (.bool true) rfl rfl ?_)
  refine r_nil ?_
  refine g_ret' [.bool true] Try.func12 Try.results12 ⟨rfl, trivial⟩ ?_
  have H72 := byA_app (M := (D48 ++ D42)) H71 (i := 0) (j := 2) rfl rfl app_b
  have H73 : St W w70 (Row 26 1 (.slice pp64 (P.c0.length + (takeT P.e0 d).length) cc65) (P.c0.length + (takeT P.e0 d).length) (D48.flatMap byCell ++ D42.flatMap byCell) :: byA (D48 ++ D42) :: byA D48 :: Row 26 1 (.slice pp32 ((takeT P.e0 d).length) cc33) ((takeT P.e0 d).length) (D42.flatMap byCell) :: byA D42 :: LkA l11 P.e1 :: BysA pp12 cc13 P.g0 :: BysA pp14 cc15 P.g1 :: BysA pp18 cc19 P.c1 :: DgsA pp20 cc21 P.t0 :: DgsA pp22 cc23 P.t1 :: blk bk6 (.cells #[.int .i64 d.frm.v, .int .i64 d.to_.v, .int .i64 d.kind.v, .int .i64 d.seq.v, .int .i64 d.ack.v, .slice pp1 d.body.length cc2] 41 (0, 0)) :: Im 1 (.slice pp1 d.body.length cc2) d.body.length (d.body.flatMap u8c) :: LkA l10 (takeS P.e0 d) :: blk g (.cells #[.pointer (some ⟨l10, 0, none⟩), .pointer (some ⟨l11, 0, none⟩), .slice pp12 P.g0.length cc13, .slice pp14 P.g1.length cc15, .slice pp64 (P.c0.length + (takeT P.e0 d).length) cc65, .slice pp18 P.c1.length cc19, .slice pp20 P.t0.length cc21, .slice pp22 P.t1.length cc23] 37 (0, 0)) :: F) := (H72.move 13 rfl)
  have hn74 : (P.c0 ++ takeT P.e0 d).length = P.c0.length + (takeT P.e0 d).length := (List.length_append ..)
  have H75 : St W w70 (Row 26 1 (.slice pp64 ((P.c0 ++ takeT P.e0 d).length) cc65) ((P.c0 ++ takeT P.e0 d).length) ((D48 ++ D42).flatMap byCell) :: byA (D48 ++ D42) :: byA D48 :: Row 26 1 (.slice pp32 ((takeT P.e0 d).length) cc33) ((takeT P.e0 d).length) (D42.flatMap byCell) :: byA D42 :: LkA l11 P.e1 :: BysA pp12 cc13 P.g0 :: BysA pp14 cc15 P.g1 :: BysA pp18 cc19 P.c1 :: DgsA pp20 cc21 P.t0 :: DgsA pp22 cc23 P.t1 :: blk bk6 (.cells #[.int .i64 d.frm.v, .int .i64 d.to_.v, .int .i64 d.kind.v, .int .i64 d.seq.v, .int .i64 d.ack.v, .slice pp1 d.body.length cc2] 41 (0, 0)) :: Im 1 (.slice pp1 d.body.length cc2) d.body.length (d.body.flatMap u8c) :: LkA l10 (takeS P.e0 d) :: blk g (.cells #[.pointer (some ⟨l10, 0, none⟩), .pointer (some ⟨l11, 0, none⟩), .slice pp12 P.g0.length cc13, .slice pp14 P.g1.length cc15, .slice pp64 (P.c0.length + (takeT P.e0 d).length) cc65, .slice pp18 P.c1.length cc19, .slice pp20 P.t0.length cc21, .slice pp22 P.t1.length cc23] 37 (0, 0)) :: F) := by rw [hn74]; rw [flat_app]; exact H73
  have H76 : St W w70 (BysA pp64 cc65 (P.c0 ++ takeT P.e0 d) :: byA D48 :: Row 26 1 (.slice pp32 ((takeT P.e0 d).length) cc33) ((takeT P.e0 d).length) (D42.flatMap byCell) :: byA D42 :: LkA l11 P.e1 :: BysA pp12 cc13 P.g0 :: BysA pp14 cc15 P.g1 :: BysA pp18 cc19 P.c1 :: DgsA pp20 cc21 P.t0 :: DgsA pp22 cc23 P.t1 :: blk bk6 (.cells #[.int .i64 d.frm.v, .int .i64 d.to_.v, .int .i64 d.kind.v, .int .i64 d.seq.v, .int .i64 d.ack.v, .slice pp1 d.body.length cc2] 41 (0, 0)) :: Im 1 (.slice pp1 d.body.length cc2) d.body.length (d.body.flatMap u8c) :: LkA l10 (takeS P.e0 d) :: blk g (.cells #[.pointer (some ⟨l10, 0, none⟩), .pointer (some ⟨l11, 0, none⟩), .slice pp12 P.g0.length cc13, .slice pp14 P.g1.length cc15, .slice pp64 (P.c0.length + (takeT P.e0 d).length) cc65, .slice pp18 P.c1.length cc19, .slice pp20 P.t0.length cc21, .slice pp22 P.t1.length cc23] 37 (0, 0)) :: F) := St.shut_ex ⟨(D48 ++ D42), (show (D48 ++ D42).map BytesD.data = (P.c0 ++ takeT P.e0 d) from app_map hD49 hD43)⟩ (St.shut_star (ls := [Row 26 1 (.slice pp64 ((P.c0 ++ takeT P.e0 d).length) cc65) ((P.c0 ++ takeT P.e0 d).length) ((D48 ++ D42).flatMap byCell), byA (D48 ++ D42)]) H75)
  have H77 : St W w70 (BysA pp64 cc65 (P.c0 ++ takeT P.e0 d) :: byA D48 :: Row 26 1 (.slice pp32 ((takeT P.e0 d).length) cc33) ((takeT P.e0 d).length) (D42.flatMap byCell) :: byA D42 :: LkA l11 P.e1 :: BysA pp12 cc13 P.g0 :: BysA pp14 cc15 P.g1 :: BysA pp18 cc19 P.c1 :: DgsA pp20 cc21 P.t0 :: DgsA pp22 cc23 P.t1 :: blk bk6 (.cells #[.int .i64 d.frm.v, .int .i64 d.to_.v, .int .i64 d.kind.v, .int .i64 d.seq.v, .int .i64 d.ack.v, .slice pp1 d.body.length cc2] 41 (0, 0)) :: Im 1 (.slice pp1 d.body.length cc2) d.body.length (d.body.flatMap u8c) :: LkA l10 (takeS P.e0 d) :: blk g (.cells #[.pointer (some ⟨l10, 0, none⟩), .pointer (some ⟨l11, 0, none⟩), .slice pp12 P.g0.length cc13, .slice pp14 P.g1.length cc15, .slice pp64 ((P.c0 ++ takeT P.e0 d).length) cc65, .slice pp18 P.c1.length cc19, .slice pp20 P.t0.length cc21, .slice pp22 P.t1.length cc23] 37 (0, 0)) :: F) := by rw [hn74]; exact H76
  have H78 : St W w70 (blk g (.cells #[.pointer (some ⟨l10, 0, none⟩), .pointer (some ⟨l11, 0, none⟩), .slice pp12 P.g0.length cc13, .slice pp14 P.g1.length cc15, .slice pp64 ((P.c0 ++ takeT P.e0 d).length) cc65, .slice pp18 P.c1.length cc19, .slice pp20 P.t0.length cc21, .slice pp22 P.t1.length cc23] 37 (0, 0)) :: LkA l10 (takeS P.e0 d) :: LkA l11 P.e1 :: BysA pp12 cc13 P.g0 :: BysA pp14 cc15 P.g1 :: BysA pp64 cc65 (P.c0 ++ takeT P.e0 d) :: BysA pp18 cc19 P.c1 :: DgsA pp20 cc21 P.t0 :: DgsA pp22 cc23 P.t1 :: byA D48 :: Row 26 1 (.slice pp32 ((takeT P.e0 d).length) cc33) ((takeT P.e0 d).length) (D42.flatMap byCell) :: byA D42 :: blk bk6 (.cells #[.int .i64 d.frm.v, .int .i64 d.to_.v, .int .i64 d.kind.v, .int .i64 d.seq.v, .int .i64 d.ack.v, .slice pp1 d.body.length cc2] 41 (0, 0)) :: Im 1 (.slice pp1 d.body.length cc2) d.body.length (d.body.flatMap u8c) :: F) := (((((((((H77.move 9 rfl).move 9 rfl).move 9 rfl).move 3 rfl).move 9 rfl).move 9 rfl).move 9 rfl).move 12 rfl).move 13 rfl)
  have H79 : St W w70 (PairA g (swp (pass0 (swp P) d)) :: byA D48 :: Row 26 1 (.slice pp32 ((takeT P.e0 d).length) cc33) ((takeT P.e0 d).length) (D42.flatMap byCell) :: byA D42 :: blk bk6 (.cells #[.int .i64 d.frm.v, .int .i64 d.to_.v, .int .i64 d.kind.v, .int .i64 d.seq.v, .int .i64 d.ack.v, .slice pp1 d.body.length cc2] 41 (0, 0)) :: Im 1 (.slice pp1 d.body.length cc2) d.body.length (d.body.flatMap u8c) :: F) := St.shut_ex (⟨l10, l11, pp12, cc13, pp14, cc15, pp64, cc65, pp18, cc19, pp20, cc21, pp22, cc23⟩ : PairQ) (St.shut_star (ls := [blk g (.cells #[.pointer (some ⟨l10, 0, none⟩), .pointer (some ⟨l11, 0, none⟩), .slice pp12 P.g0.length cc13, .slice pp14 P.g1.length cc15, .slice pp64 ((P.c0 ++ takeT P.e0 d).length) cc65, .slice pp18 P.c1.length cc19, .slice pp20 P.t0.length cc21, .slice pp22 P.t1.length cc23] 37 (0, 0)), LkA l10 (takeS P.e0 d), LkA l11 P.e1, BysA pp12 cc13 P.g0, BysA pp14 cc15 P.g1, BysA pp64 cc65 (P.c0 ++ takeT P.e0 d), BysA pp18 cc19 P.c1, DgsA pp20 cc21 P.t0, DgsA pp22 cc23 P.t1]) H78)
  have H80 : St W w70 (PairA g (swp (pass0 (swp P) d)) :: F) := (((((H79.drop 1 rfl).drop 1 rfl).drop 1 rfl).drop 1 rfl).drop 1 rfl)
  exact ⟨rfl, H80⟩
end Sl
