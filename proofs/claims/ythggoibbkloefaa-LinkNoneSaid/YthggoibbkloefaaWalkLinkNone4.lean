/- Walks of the program's functions. Printed by a program of this claim's author. No condition. -/
import Derived.Test.YthggoibbkloefaaSlBF
import Derived.Test.YthggoibbkloefaaSlQ
import Derived.Test.YthggoibbkloefaaSlG
import Derived.Test.YthggoibbkloefaaSlBB
import Derived.Test.YthggoibbkloefaaSlAB
import Derived.Test.YthggoibbkloefaaSlDC
import Derived.Test.YthggoibbkloefaaSlDJ
import Derived.Test.YthggoibbkloefaaSlEC
import Derived.Test.YthggoibbkloefaaSlBA
import Derived.Test.YthggoibbkloefaaSlEE
import Derived.Test.YthggoibbkloefaaSlEF
import Derived.Test.YthggoibbkloefaaProg
import Derived.Test.YthggoibbkloefaaWalkLinkNone3
namespace Sl
open _root_.Go _root_.Go.RowKit _root_.Go.Proofs
set_option linter.all false
set_option maxHeartbeats 4000000 in
set_option maxRecDepth 100000 in
theorem live_ {W w : World} {F : List Atom}  (H : St W w F) : Calls Try.prog 8 #[] w (Ret fun v w' => v = .bool true ∧ St W w' F) := by
 refine calls_of_go (n := 72) Try.func8 rfl Try.ntmps8 rfl ?_
 refine g_seq ?_
 refine g_region ?_
 refine r_cons (s_assign (.bool false) rfl rfl ?_)
 refine r_nil ?_
 refine g_seq ?_
 refine g_region ?_
 refine r_cons (s_build (cs := #[.int .i64 0, .int .i64 1]) (by kernel_rfl) rfl ?_)
 refine r_cons (s_call [.agg #[.int .i64 0, .int .i64 1], .int .i64 2] pl_17 rfl rfl (Link_New (i64' 0) (i64' 1) 2 (by decide) (by decide) (by decide) (by omega) (by omega) H) ?_)
 rintro _ w2 ⟨bk1, rfl, H3⟩
 refine r_cons (s_move (.tuple #[.pointer (some ⟨bk1, 0, none⟩), .int .i64 0]) rfl rfl ?_)
 refine r_cons (s_extract (.pointer (some ⟨bk1, 0, none⟩)) #[.pointer (some ⟨bk1, 0, none⟩), .int .i64 0] rfl rfl rfl ?_)
 refine r_cons (s_extract (.int .i64 0) #[.pointer (some ⟨bk1, 0, none⟩), .int .i64 0] rfl rfl rfl ?_)
 refine r_cons (s_assign (.pointer (some ⟨bk1, 0, none⟩)) rfl rfl ?_)
 refine r_cons (s_assign (.int .i64 0) rfl rfl ?_)
 refine r_nil ?_
 refine g_seq ?_
 refine g_seq ?_
 refine g_region ?_
 refine r_cons (s_move (.int .i64 0) rfl rfl ?_)
 refine r_cons (s_neq false rfl rfl (ntrue (by decide)) rfl ?_)
 refine r_cons (s_move (.bool false) rfl rfl ?_)
 refine r_cons (r_take rfl rfl ?_)
 refine s_move (.pointer (some ⟨bk1, 0, none⟩)) rfl rfl ?_
 refine r_cons (r_take rfl rfl ?_)
 refine s_peql false un_30 rfl rfl rfl rfl ?_
 refine r_cons (s_pick_f (.bool false) rfl rfl rfl ?_)
 refine r_cons (s_move (.bool false) rfl rfl ?_)
 refine r_cons (r_take rfl rfl ?_)
 refine s_move (.pointer (some ⟨bk1, 0, none⟩)) rfl rfl ?_
 refine r_cons (r_take rfl rfl ?_)
 refine s_buildSlice H3 1 1 (cs := #[.int .u8 97]) #[.int .u8 0] el_26 ze_5 (by decide) (by decide) (by kernel_rfl) rfl ?_; intro bk4 w5 H6
 refine r_cons (r_take rfl rfl ?_)
 have H8 : St W w5 (Im 1 (.slice (some ⟨bk4, 0, none⟩) 1 1) 1 ([97].flatMap u8c) :: LkA bk1 (newS (i64' 0) (i64' 1) 2) :: F) := Row.im (Row.of_blk (n := 1) (size := 1) H6 (i := 0) rfl (by unfold maxLen; omega) (by simp) (by simp [Value.oneCell'])) (i := 0) rfl
 refine s_call [.pointer (some ⟨bk1, 0, none⟩), .slice (some ⟨bk4, 0, none⟩) 1 1] pl_22 rfl rfl (Lk_Send bk1 (newS (i64' 0) (i64' 1) 2) (endOk_new (by omega) (by omega)) [97] (.slice (some ⟨bk4, 0, none⟩) 1 1) (i := 1) rfl RdA.im (j := 0) rfl H8) ?_
 rintro _ w9 ⟨rfl, H10⟩
 refine r_cons (r_take rfl rfl ?_)
 refine s_neq false rfl rfl (ntrue (by decide +kernel)) rfl ?_
 refine r_cons (s_pick_f (.bool false) rfl rfl rfl ?_)
 refine r_cons (s_move (.bool false) rfl rfl ?_)
 refine r_cons (r_take rfl rfl ?_)
 refine s_move (.pointer (some ⟨bk1, 0, none⟩)) rfl rfl ?_
 refine r_cons (r_take rfl rfl ?_)
 refine s_buildSlice H10 1 1 (cs := #[.int .u8 98]) #[.int .u8 0] el_26 ze_5 (by decide) (by decide) (by kernel_rfl) rfl ?_; intro bk11 w12 H13
 refine r_cons (r_take rfl rfl ?_)
 have H15 : St W w12 (Im 1 (.slice (some ⟨bk11, 0, none⟩) 1 1) 1 ([98].flatMap u8c) :: Im 1 (.slice (some ⟨bk4, 0, none⟩) 1 1) 1 ([97].flatMap u8c) :: LkA bk1 (sendS (newS (i64' 0) (i64' 1) 2) [97]) :: F) := Row.im (Row.of_blk (n := 1) (size := 1) H13 (i := 0) rfl (by unfold maxLen; omega) (by simp) (by simp [Value.oneCell'])) (i := 0) rfl
 refine s_call [.pointer (some ⟨bk1, 0, none⟩), .slice (some ⟨bk11, 0, none⟩) 1 1] pl_22 rfl rfl (Lk_Send bk1 (sendS (newS (i64' 0) (i64' 1) 2) [97]) (endOk_send (endOk_new (by omega) (by omega))) [98] (.slice (some ⟨bk11, 0, none⟩) 1 1) (i := 2) rfl RdA.im (j := 0) rfl H15) ?_
 rintro _ w16 ⟨rfl, H17⟩
 refine r_cons (r_take rfl rfl ?_)
 refine s_neq false rfl rfl (ntrue (by decide +kernel)) rfl ?_
 refine r_cons (s_pick_f (.bool false) rfl rfl rfl ?_)
 refine r_cons (s_move (.bool false) rfl rfl ?_)
 refine r_cons (r_take rfl rfl ?_)
 refine s_move (.pointer (some ⟨bk1, 0, none⟩)) rfl rfl ?_
 refine r_cons (r_take rfl rfl ?_)
 refine s_buildSlice H17 1 1 (cs := #[.int .u8 99]) #[.int .u8 0] el_26 ze_5 (by decide) (by decide) (by kernel_rfl) rfl ?_; intro bk18 w19 H20
 refine r_cons (r_take rfl rfl ?_)
 have H22 : St W w19 (Im 1 (.slice (some ⟨bk18, 0, none⟩) 1 1) 1 ([99].flatMap u8c) :: Im 1 (.slice (some ⟨bk11, 0, none⟩) 1 1) 1 ([98].flatMap u8c) :: Im 1 (.slice (some ⟨bk4, 0, none⟩) 1 1) 1 ([97].flatMap u8c) :: LkA bk1 (sendS (sendS (newS (i64' 0) (i64' 1) 2) [97]) [98]) :: F) := Row.im (Row.of_blk (n := 1) (size := 1) H20 (i := 0) rfl (by unfold maxLen; omega) (by simp) (by simp [Value.oneCell'])) (i := 0) rfl
 refine s_call [.pointer (some ⟨bk1, 0, none⟩), .slice (some ⟨bk18, 0, none⟩) 1 1] pl_22 rfl rfl (Lk_Send bk1 (sendS (sendS (newS (i64' 0) (i64' 1) 2) [97]) [98]) (endOk_send (endOk_send (endOk_new (by omega) (by omega)))) [99] (.slice (some ⟨bk18, 0, none⟩) 1 1) (i := 3) rfl RdA.im (j := 0) rfl H22) ?_
 rintro _ w23 ⟨rfl, H24⟩
 refine r_cons (r_take rfl rfl ?_)
 refine s_neq false rfl rfl (ntrue (by decide +kernel)) rfl ?_
 refine r_cons (s_pick_f (.bool false) rfl rfl rfl ?_)
 refine r_nil ?_
 refine g_false rfl ?_
 refine g_skip ?_
 refine g_seq ?_
 refine g_region ?_
 refine r_cons (s_move (.pointer (some ⟨bk1, 0, none⟩)) rfl rfl ?_)
 refine r_cons (s_call [.pointer (some ⟨bk1, 0, none⟩)] pl_23 rfl rfl (Lk_Out bk1 (sendS (sendS (sendS (newS (i64' 0) (i64' 1) 2) [97]) [98]) [99]) (endOk_send (endOk_send (endOk_send (endOk_new (by omega) (by omega))))) (i := 3) rfl H24) ?_)
 rintro _ w27 ⟨pp25, cc26, rfl, H28⟩
 refine r_cons (s_assign (.slice pp25 ((outT (sendS (sendS (sendS (newS (i64' 0) (i64' 1) 2) [97]) [98]) [99])).length) cc26) rfl rfl ?_)
 refine r_nil ?_
 refine g_seq ?_
 refine g_seq ?_
 refine g_region ?_
 refine r_cons (s_move (.slice pp25 ((outT (sendS (sendS (sendS (newS (i64' 0) (i64' 1) 2) [97]) [98]) [99])).length) cc26) rfl rfl ?_)
 refine r_cons (s_len ((outT (sendS (sendS (sendS (newS (i64' 0) (i64' 1) 2) [97]) [98]) [99])).length) rfl ⟨_, un_34⟩ rfl ?_)
 refine r_cons (s_neq false rfl rfl (ntrue (by decide +kernel)) rfl ?_)
 refine r_cons (s_move (.bool false) rfl rfl ?_)
 refine r_cons (r_take rfl rfl ?_)
 refine s_move (.slice pp25 ((outT (sendS (sendS (sendS (newS (i64' 0) (i64' 1) 2) [97]) [98]) [99])).length) cc26) rfl rfl ?_
 refine r_cons (r_take rfl rfl ?_)
 have H29 := H28.move 0 rfl
 obtain ⟨⟨D30, hD31⟩, H32⟩ := St.open_ex H29
 have H33 := St.open_star H32
 change D30.map DgD.d = (outT (sendS (sendS (sendS (newS (i64' 0) (i64' 1) 2) [97]) [98]) [99])) at hD31
 have H34 : St W w27 (Row 41 6 (.slice pp25 ((outT (sendS (sendS (sendS (newS (i64' 0) (i64' 1) 2) [97]) [98]) [99])).length) cc26) ((outT (sendS (sendS (sendS (newS (i64' 0) (i64' 1) 2) [97]) [98]) [99])).length) (D30.flatMap dgdCell) :: byA (D30.map DgD.by) :: Im 1 (.slice (some ⟨bk18, 0, none⟩) 1 1) 1 ([99].flatMap u8c) :: Im 1 (.slice (some ⟨bk11, 0, none⟩) 1 1) 1 ([98].flatMap u8c) :: Im 1 (.slice (some ⟨bk4, 0, none⟩) 1 1) 1 ([97].flatMap u8c) :: LkA bk1 (outS (sendS (sendS (sendS (newS (i64' 0) (i64' 1) 2) [97]) [98]) [99])) :: F) := H33
 have hl2 : D30.length = 2 := by rw [lenOf hD31]; decide +kernel
 have hs1 : (D30.getD 1 default).d.seq.v = 1 := by rw [dgAt hD31 1]; decide +kernel
 have hb1 : (D30.getD 1 default).d.body = [98] := by rw [dgAt hD31 1]; decide +kernel
 have hl3 := lenOf hD31; rw [hl2] at hl3
 obtain ⟨bk35, cur36, hp37, h38, h39, h40, h41, h42, H43⟩ := Row.open2 H34 (i := 0) rfl (by rw [← lenOf hD31, hl2]; decide)
 have H44 : St W w27 (Im 1 (.slice ((D30.getD 1 default).p) ((D30.getD 1 default).d.body.length) ((D30.getD 1 default).c)) (((D30.getD 1 default).d.body).length) (((D30.getD 1 default).d.body).flatMap u8c) :: blk bk35 (.cells cur36 41 (0, 0)) :: byA (D30.map DgD.by) :: Im 1 (.slice (some ⟨bk18, 0, none⟩) 1 1) 1 ([99].flatMap u8c) :: Im 1 (.slice (some ⟨bk11, 0, none⟩) 1 1) 1 ([98].flatMap u8c) :: Im 1 (.slice (some ⟨bk4, 0, none⟩) 1 1) 1 ([97].flatMap u8c) :: LkA bk1 (outS (sendS (sendS (sendS (newS (i64' 0) (i64' 1) 2) [97]) [98]) [99])) :: F) := byA_at H43 (i := 1) rfl (dg_at (k := 1) (by omega))
 refine s_indexAddr bk35 (off := 0) 1 6 (0 + 1 * 6) (by exact congrArg (fun z_ => Value.slice z_ ((outT (sendS (sendS (sendS (newS (i64' 0) (i64' 1) 2) [97]) [98]) [99])).length) cc26) ((fun (_ : 0 < 1) => hp37) (by omega))) rfl el_34 (by omega) rfl rfl ?_
 refine r_cons (r_take rfl rfl ?_)
 refine s_fieldAddr 41 3 3 (0 + 1 * 6 + 3) 2 rfl fi_41_3 rfl rfl ?_
 refine r_cons (r_take rfl rfl ?_)
 refine s_load (.int .i64 ((D30.getD 1 default).d.seq.v)) ag_2 rfl (H44.blk_at (i := 1) rfl) (elem_cell (L := D30) (i := 1) dgdCell_len (by rw [(lenOf hD31)]; exact h41) (by have hh : D30.length = (outT (sendS (sendS (sendS (newS (i64' 0) (i64' 1) 2) [97]) [98]) [99])).length := (lenOf hD31); omega) default 3 (by decide) _ rfl) rfl ?_
 refine r_cons (r_take rfl rfl ?_)
 refine s_neq false rfl rfl (ntrue hs1) rfl ?_
 refine r_cons (s_pick_f (.bool false) rfl rfl rfl ?_)
 refine r_cons (s_move (.bool false) rfl rfl ?_)
 refine r_cons (r_take rfl rfl ?_)
 refine s_move (.slice pp25 ((outT (sendS (sendS (sendS (newS (i64' 0) (i64' 1) 2) [97]) [98]) [99])).length) cc26) rfl rfl ?_
 refine r_cons (r_take rfl rfl ?_)
 refine s_indexAddr bk35 (off := 0) 1 6 (0 + 1 * 6) (by exact congrArg (fun z_ => Value.slice z_ ((outT (sendS (sendS (sendS (newS (i64' 0) (i64' 1) 2) [97]) [98]) [99])).length) cc26) ((fun (_ : 0 < 1) => hp37) (by omega))) rfl el_34 (by omega) rfl rfl ?_
 refine r_cons (r_take rfl rfl ?_)
 refine s_fieldAddr 41 5 5 (0 + 1 * 6 + 5) 26 rfl fi_41_5 rfl rfl ?_
 refine r_cons (r_take rfl rfl ?_)
 refine s_load (.slice ((D30.getD 1 default).p) ((D30.getD 1 default).d.body.length) ((D30.getD 1 default).c)) ag_26 rfl (H44.blk_at (i := 1) rfl) (elem_cell (L := D30) (i := 1) dgdCell_len (by rw [(lenOf hD31)]; exact h41) (by have hh : D30.length = (outT (sendS (sendS (sendS (newS (i64' 0) (i64' 1) 2) [97]) [98]) [99])).length := (lenOf hD31); omega) default 5 (by decide) _ rfl) rfl ?_
 refine r_cons (r_take rfl rfl ?_)
 refine (s_bytes_str (xs := ((D30.getD 1 default).d.body)) rfl (by rw [bytesV_flat]; exact (Im.rd H44 (i := 0) rfl)) un_26 un_5 un_9 rfl ?_)
 refine r_cons (r_take rfl rfl ?_)
 refine s_sneq false rfl rfl (ntrue (by rw [hb1])) rfl ?_
 refine r_cons (s_pick_f (.bool false) rfl rfl rfl ?_)
 refine r_nil ?_
 refine g_false rfl ?_
 refine g_skip ?_
 refine g_seq ?_
 refine g_region ?_
 refine r_cons (s_move (.pointer (some ⟨bk1, 0, none⟩)) rfl rfl ?_)
 refine r_cons (s_build (cs := #[.int .i64 1, .int .i64 0, .int .i64 2, .int .i64 0, .int .i64 1, .slice none 0 0]) (by kernel_rfl) rfl ?_)
 have H45 := Row.im (Row.nil_intro H44 5 1) (i := 0) rfl
 have H46 : St W w27 (Im 1 (.slice none 0 0) (([] : List UInt8).length) (([] : List UInt8).flatMap u8c) :: Im 1 (.slice ((D30.getD 1 default).p) ((D30.getD 1 default).d.body.length) ((D30.getD 1 default).c)) (((D30.getD 1 default).d.body).length) (((D30.getD 1 default).d.body).flatMap u8c) :: blk bk35 (.cells cur36 41 (0, 0)) :: byA (D30.map DgD.by) :: Im 1 (.slice (some ⟨bk18, 0, none⟩) 1 1) 1 ([99].flatMap u8c) :: Im 1 (.slice (some ⟨bk11, 0, none⟩) 1 1) 1 ([98].flatMap u8c) :: Im 1 (.slice (some ⟨bk4, 0, none⟩) 1 1) 1 ([97].flatMap u8c) :: LkA bk1 (outS (sendS (sendS (sendS (newS (i64' 0) (i64' 1) 2) [97]) [98]) [99])) :: F) := H45
 refine r_cons (s_call [.pointer (some ⟨bk1, 0, none⟩), .agg #[.int .i64 1, .int .i64 0, .int .i64 2, .int .i64 0, .int .i64 1, .slice none 0 0]] pl_21 rfl rfl (Lk_Take bk1 (outS (sendS (sendS (sendS (newS (i64' 0) (i64' 1) 2) [97]) [98]) [99])) (endOk_out (endOk_send (endOk_send (endOk_send (endOk_new (by omega) (by omega)))))) dgAck1 (.slice none 0 0) (by decide +kernel) (i := 7) rfl RdA.im (j := 0) rfl H46) ?_)
 rintro _ w49 ⟨pp47, cc48, rfl, H50⟩
 refine r_cons (s_move (.tuple #[.slice pp47 ((takeT (outS (sendS (sendS (sendS (newS (i64' 0) (i64' 1) 2) [97]) [98]) [99])) dgAck1).length) cc48, .int .i64 (takeE (outS (sendS (sendS (sendS (newS (i64' 0) (i64' 1) 2) [97]) [98]) [99])) dgAck1)]) rfl rfl ?_)
 refine r_cons (s_extract (.slice pp47 ((takeT (outS (sendS (sendS (sendS (newS (i64' 0) (i64' 1) 2) [97]) [98]) [99])) dgAck1).length) cc48) #[.slice pp47 ((takeT (outS (sendS (sendS (sendS (newS (i64' 0) (i64' 1) 2) [97]) [98]) [99])) dgAck1).length) cc48, .int .i64 (takeE (outS (sendS (sendS (sendS (newS (i64' 0) (i64' 1) 2) [97]) [98]) [99])) dgAck1)] rfl rfl rfl ?_)
 refine r_cons (s_extract (.int .i64 (takeE (outS (sendS (sendS (sendS (newS (i64' 0) (i64' 1) 2) [97]) [98]) [99])) dgAck1)) #[.slice pp47 ((takeT (outS (sendS (sendS (sendS (newS (i64' 0) (i64' 1) 2) [97]) [98]) [99])) dgAck1).length) cc48, .int .i64 (takeE (outS (sendS (sendS (sendS (newS (i64' 0) (i64' 1) 2) [97]) [98]) [99])) dgAck1)] rfl rfl rfl ?_)
 refine r_cons (s_assign (.int .i64 (takeE (outS (sendS (sendS (sendS (newS (i64' 0) (i64' 1) 2) [97]) [98]) [99])) dgAck1)) rfl rfl ?_)
 refine r_nil ?_
 refine g_seq ?_
 refine g_region ?_
 refine r_cons (s_move (.int .i64 (takeE (outS (sendS (sendS (sendS (newS (i64' 0) (i64' 1) 2) [97]) [98]) [99])) dgAck1)) rfl rfl ?_)
 refine r_cons (s_eql true rfl rfl (dtrue (by decide +kernel)) rfl ?_)
 refine r_cons (s_move (.bool true) rfl rfl ?_)
 refine r_cons (r_take rfl rfl ?_)
 refine s_move (.pointer (some ⟨bk1, 0, none⟩)) rfl rfl ?_
 refine r_cons (r_take rfl rfl ?_)
 refine s_call [.pointer (some ⟨bk1, 0, none⟩)] pl_23 rfl rfl (Lk_Out bk1 (takeS (outS (sendS (sendS (sendS (newS (i64' 0) (i64' 1) 2) [97]) [98]) [99])) dgAck1) (endOk_take (endOk_out (endOk_send (endOk_send (endOk_send (endOk_new (by omega) (by omega))))))) (i := 8) rfl H50) ?_
 rintro _ w53 ⟨pp51, cc52, rfl, H54⟩
 refine r_cons (r_take rfl rfl ?_)
 refine s_len ((outT (takeS (outS (sendS (sendS (sendS (newS (i64' 0) (i64' 1) 2) [97]) [98]) [99])) dgAck1)).length) rfl ⟨_, un_34⟩ rfl ?_
 refine r_cons (r_take rfl rfl ?_)
 refine s_eql true rfl rfl (dtrue (by decide +kernel)) rfl ?_
 refine r_cons (s_pick_t (.bool true) rfl rfl rfl ?_)
 refine r_cons (s_move (.bool true) rfl rfl ?_)
 refine r_cons (r_take rfl rfl ?_)
 refine s_move (.pointer (some ⟨bk1, 0, none⟩)) rfl rfl ?_
 refine r_cons (r_take rfl rfl ?_)
 refine s_call [.pointer (some ⟨bk1, 0, none⟩)] pl_10 rfl rfl (Lk_Waiting bk1 (outS (takeS (outS (sendS (sendS (sendS (newS (i64' 0) (i64' 1) 2) [97]) [98]) [99])) dgAck1)) (endOk_out (endOk_take (endOk_out (endOk_send (endOk_send (endOk_send (endOk_new (by omega) (by omega)))))))) (i := 9) rfl H54) ?_
 rintro _ w55 ⟨rfl, H56⟩
 refine r_cons (r_take rfl rfl ?_)
 refine s_eql true rfl rfl (dtrue (by decide +kernel)) rfl ?_
 refine r_cons (s_pick_t (.bool true) rfl rfl rfl ?_)
 refine r_cons (s_assign (.bool true) rfl rfl ?_)
 refine r_nil ?_
 refine g_ret' [.bool true] Try.func8 Try.results8 ⟨rfl, trivial⟩ ?_
 have H57 := Row.shut2 (p := pp25) (n := (outT (sendS (sendS (sendS (newS (i64' 0) (i64' 1) 2) [97]) [98]) [99])).length) (c := cc26) (size := 6) (xs := D30.flatMap dgdCell) H56 (i := 4) rfl hp37 h38 h39 h40 (by have hh : (cur36.toList.drop 0).take (D30.length * 6) = D30.flatMap dgdCell := (by rw [(lenOf hD31)]; exact h41); have hk : D30.length = (outT (sendS (sendS (sendS (newS (i64' 0) (i64' 1) 2) [97]) [98]) [99])).length := (lenOf hD31); rw [hk] at hh; exact hh) (fun x_ hx_ => by obtain ⟨a_, _, ha_⟩ := List.mem_flatMap.1 hx_; exact one_dg a_ x_ ha_)
 have H58 : St W w55 (Row 41 6 (.slice pp25 ((outT (sendS (sendS (sendS (newS (i64' 0) (i64' 1) 2) [97]) [98]) [99])).length) cc26) ((outT (sendS (sendS (sendS (newS (i64' 0) (i64' 1) 2) [97]) [98]) [99])).length) (D30.flatMap dgdCell) :: byA (D30.map DgD.by) :: DgsA pp51 cc52 (outT (takeS (outS (sendS (sendS (sendS (newS (i64' 0) (i64' 1) 2) [97]) [98]) [99])) dgAck1)) :: BysA pp47 cc48 (takeT (outS (sendS (sendS (sendS (newS (i64' 0) (i64' 1) 2) [97]) [98]) [99])) dgAck1) :: Im 1 (.slice none 0 0) (([] : List UInt8).length) (([] : List UInt8).flatMap u8c) :: Im 1 (.slice ((D30.getD 1 default).p) ((D30.getD 1 default).d.body.length) ((D30.getD 1 default).c)) (((D30.getD 1 default).d.body).length) (((D30.getD 1 default).d.body).flatMap u8c) :: Im 1 (.slice (some ⟨bk18, 0, none⟩) 1 1) 1 ([99].flatMap u8c) :: Im 1 (.slice (some ⟨bk11, 0, none⟩) 1 1) 1 ([98].flatMap u8c) :: Im 1 (.slice (some ⟨bk4, 0, none⟩) 1 1) 1 ([97].flatMap u8c) :: LkA bk1 (outS (takeS (outS (sendS (sendS (sendS (newS (i64' 0) (i64' 1) 2) [97]) [98]) [99])) dgAck1)) :: F) := ((H57.move 5 rfl).move 5 rfl)
 have H59 : St W w55 (DgsA pp25 cc26 (outT (sendS (sendS (sendS (newS (i64' 0) (i64' 1) 2) [97]) [98]) [99])) :: DgsA pp51 cc52 (outT (takeS (outS (sendS (sendS (sendS (newS (i64' 0) (i64' 1) 2) [97]) [98]) [99])) dgAck1)) :: BysA pp47 cc48 (takeT (outS (sendS (sendS (sendS (newS (i64' 0) (i64' 1) 2) [97]) [98]) [99])) dgAck1) :: Im 1 (.slice none 0 0) (([] : List UInt8).length) (([] : List UInt8).flatMap u8c) :: Im 1 (.slice ((D30.getD 1 default).p) ((D30.getD 1 default).d.body.length) ((D30.getD 1 default).c)) (((D30.getD 1 default).d.body).length) (((D30.getD 1 default).d.body).flatMap u8c) :: Im 1 (.slice (some ⟨bk18, 0, none⟩) 1 1) 1 ([99].flatMap u8c) :: Im 1 (.slice (some ⟨bk11, 0, none⟩) 1 1) 1 ([98].flatMap u8c) :: Im 1 (.slice (some ⟨bk4, 0, none⟩) 1 1) 1 ([97].flatMap u8c) :: LkA bk1 (outS (takeS (outS (sendS (sendS (sendS (newS (i64' 0) (i64' 1) 2) [97]) [98]) [99])) dgAck1)) :: F) := St.shut_ex ⟨D30, hD31⟩ (St.shut_star (ls := [_, _]) H58)
 have H60 : St W w55 (Im 1 (.slice ((D30.getD 1 default).p) ((D30.getD 1 default).d.body.length) ((D30.getD 1 default).c)) (((D30.getD 1 default).d.body).length) (((D30.getD 1 default).d.body).flatMap u8c) :: Im 1 (.slice (some ⟨bk18, 0, none⟩) 1 1) 1 ([99].flatMap u8c) :: Im 1 (.slice (some ⟨bk11, 0, none⟩) 1 1) 1 ([98].flatMap u8c) :: Im 1 (.slice (some ⟨bk4, 0, none⟩) 1 1) 1 ([97].flatMap u8c) :: LkA bk1 (outS (takeS (outS (sendS (sendS (sendS (newS (i64' 0) (i64' 1) 2) [97]) [98]) [99])) dgAck1)) :: F) := ((((H59.drop 0 rfl).drop 0 rfl).drop 0 rfl).drop 0 rfl)
 have H61 : St W w55 (LkA bk1 (outS (takeS (outS (sendS (sendS (sendS (newS (i64' 0) (i64' 1) 2) [97]) [98]) [99])) dgAck1)) :: F) := ((((H60.drop 0 rfl).drop 0 rfl).drop 0 rfl).drop 0 rfl)
 have H62 : St W w55 F := (H61.drop 0 rfl)
 exact ⟨rfl, H62⟩
set_option maxHeartbeats 4000000 in
set_option maxRecDepth 100000 in
theorem Lk_Way {W w : World} {F : List Atom} (g : Nat) (s : EndV) (hok : endOk s)  {i : Nat} (hi : F[i]? = some (LkA g s)) (H : St W w F) : Calls Try.prog 26 #[.pointer (some ⟨g, 0, none⟩)] w (Ret fun v w' => v = .agg #[.int .i64 s.frm.v, .int .i64 s.to_.v] ∧ St W w' F) := by
 have H0 := H.front hi
 obtain ⟨o1, o2, o3, o4, o5, o6, o8⟩ := id hok; have o7 := i64N_0 (Nat.le_trans o4 (by decide))
 refine calls_of_go (n := 10) Try.func26 rfl Try.ntmps26 rfl ?_
 refine g_seq ?_
 refine g_region ?_
 refine r_cons (s_alloc H0 46 ze_46 rfl ?_); intro bk1 w2 H3
 refine r_nil ?_
 refine g_seq ?_
 refine g_seq ?_
 refine g_region ?_
 refine r_cons (s_move (.pointer (some ⟨g, 0, none⟩)) rfl rfl ?_)
 refine r_cons (s_peql false un_30 rfl rfl rfl rfl ?_)
 refine r_nil ?_
 refine g_false rfl ?_
 refine g_skip ?_
 refine g_seq ?_
 refine g_region ?_
 refine r_cons (s_move (.pointer (some ⟨g, 0, none⟩)) rfl rfl ?_)
 refine r_cons (s_nilCheck (.pointer (some ⟨g, 0, none⟩)) rfl ⟨_, rfl⟩ rfl ?_)
 refine r_cons (s_fieldAddr 62 0 0 0 46 rfl fi_62_0 rfl rfl ?_)
 have H4 := H3.move 1 rfl
 obtain ⟨⟨⟨m5, pp6, cc7, L8, E9⟩, hL10, hE11⟩, H12⟩ := St.open_ex H4
 have H13 := St.open_star H12
 change L8.map BodD.v = s.l at hL10; change mapB E9 = s.held at hE11
 have hl14 := lenOf hL10; have he15 := mapB_len hE11
 have H16 : St W w2 (blk g (lkC s m5 (.slice pp6 L8.length cc7)) :: Row 79 3 (.slice pp6 L8.length cc7) L8.length (L8.flatMap bodCell) :: byA (L8.map BodD.by) :: MapA m5 (ents (kI .i64) evD E9) :: byA (mby E9) :: blk bk1 (.cells #[.int .i64 0, .int .i64 0] 46 (0, 0)) :: (F.set i emp)) := H13
 refine r_cons (s_loadAgg [.int .i64 s.frm.v, .int .i64 s.to_.v] 2 ag_46 rfl (H16.blk_at (i := 0) rfl) (nbl rfl) rfl rfl ?_)
 refine r_cons (s_storeAgg H16 5 #[.int .i64 s.frm.v, .int .i64 s.to_.v] 2 rfl rfl rfl sz_46 rfl (by simp [Value.oneCell']) (nbl rfl) (fun o h1 h2 => by first | (simp; done) | (simp; omega)) (cs' := #[.int .i64 s.frm.v, .int .i64 s.to_.v]) rfl ?_); intro w17 H18
 refine r_nil ?_
 refine g_ret' [.agg #[.int .i64 s.frm.v, .int .i64 s.to_.v]] Try.func26 Try.results26 ⟨(res_cellN rfl ag_46 (H18.blk_at (i := 5) rfl) (nbl rfl) rfl), trivial⟩ ?_
 have H19 : St W w17 (LkA g s :: blk bk1 (.cells #[.int .i64 s.frm.v, .int .i64 s.to_.v] 46 (0, 0)) :: (F.set i emp)) := St.shut_ex ⟨(m5, pp6, cc7, L8, E9), hL10, hE11⟩ (St.shut_star (ls := [_, _, _, _, _]) H18)
 have H20 : St W w17 (LkA g s :: (F.set i emp)) := (H19.drop 1 rfl)
 exact ⟨rfl, St.back_same hi H20⟩
set_option maxHeartbeats 4000000 in
set_option maxRecDepth 100000 in
theorem sameAll_ {W w : World} {F : List Atom} (T : List DgM) (p1 p2 : Option Addr) (d1 d2 : Nat) (H : St W w (DgsA p1 d1 T :: DgsA p2 d2 T :: F)) : Calls Try.prog 38 #[.slice p1 T.length d1, .slice p2 T.length d2] w (Ret fun v w' => v = .bool true ∧ St W w' F) := by
 have H1 := H.move 0 rfl
 obtain ⟨⟨D2, hD3⟩, H4⟩ := St.open_ex H1
 have H5 := St.open_star H4
 change D2.map DgD.d = T at hD3
 have hlhD3 := lenOf hD3
 have H6 : St W w (Row 41 6 (.slice p1 D2.length d1) D2.length (D2.flatMap dgdCell) :: byA (D2.map DgD.by) :: DgsA p2 d2 T :: F) := by rw [show D2.length = T.length from hlhD3]; exact H5
 have H7 : St W w (Im 6 (.slice p1 D2.length d1) D2.length (D2.flatMap dgdCell) :: byA (D2.map DgD.by) :: DgsA p2 d2 T :: F) := Row.im H6 (i := 0) rfl
 have H8 := H7.move 2 rfl
 obtain ⟨⟨D9, hD10⟩, H11⟩ := St.open_ex H8
 have H12 := St.open_star H11
 change D9.map DgD.d = T at hD10
 have hlhD10 := lenOf hD10
 have H13 : St W w (Row 41 6 (.slice p2 D9.length d2) D9.length (D9.flatMap dgdCell) :: byA (D9.map DgD.by) :: Im 6 (.slice p1 D2.length d1) D2.length (D2.flatMap dgdCell) :: byA (D2.map DgD.by) :: F) := by rw [show D9.length = T.length from hlhD10]; exact H12
 have H14 : St W w (Im 6 (.slice p2 D9.length d2) D9.length (D9.flatMap dgdCell) :: byA (D9.map DgD.by) :: Im 6 (.slice p1 D2.length d1) D2.length (D2.flatMap dgdCell) :: byA (D2.map DgD.by) :: F) := Row.im H13 (i := 0) rfl
 have hl1 := lenOf hD3; have hl2 := lenOf hD10
 refine calls_of_go (n := 27) Try.func38 rfl Try.ntmps38 rfl ?_
 refine g_seq ?_
 refine g_region ?_
 refine r_cons (s_assign (.bool false) rfl rfl ?_)
 refine r_nil ?_
 refine g_seq ?_
 refine g_seq ?_
 refine g_region ?_
 refine r_cons (s_move (.slice p1 T.length d1) rfl rfl ?_)
 refine r_cons (s_len T.length rfl ⟨_, un_34⟩ rfl ?_)
 refine r_cons (s_move (.slice p2 T.length d2) rfl rfl ?_)
 refine r_cons (s_len T.length rfl ⟨_, un_34⟩ rfl ?_)
 refine r_cons (s_neq false rfl rfl (ntrue rfl) rfl ?_)
 refine r_nil ?_
 refine g_false rfl ?_
 refine g_skip ?_
 refine g_seq ?_
 refine g_seq ?_
 refine g_region ?_
 refine r_cons (s_move (.slice p1 T.length d1) rfl rfl ?_)
 refine r_cons (s_len T.length rfl ⟨_, un_34⟩ rfl ?_)
 refine r_cons (s_move (.int .i64 0) rfl rfl ?_)
 refine r_nil ?_
 refine g_block ?_
 obtain ⟨pA15, cA16, gA17, oA18, kA19, eA20, zA21, he27, hn22, hp23, hx24, hs25, hml, H26⟩ := Im.open_ H14 (i := 2) rfl
 obtain ⟨rfl, rfl⟩ : p1 = pA15 ∧ d1 = cA16 := by injection he27 with a_ b_ c_; exact ⟨a_, c_⟩
 obtain ⟨pA28, cA29, gA30, oA31, kA32, eA33, zA34, he40, hn35, hp36, hx37, hs38, hml, H39⟩ := Im.open_ H26 (i := 1) rfl
 obtain ⟨rfl, rfl⟩ : p2 = pA28 ∧ d2 = cA29 := by injection he40 with a_ b_ c_; exact ⟨a_, c_⟩
 refine g_loop_inv (fun (x_ : Nat) => match x_ with | j2 => [(0, .slice p1 T.length d1), (1, .slice p2 T.length d2), (4, .bool false), (12, .int .i64 (T.length : Int)), (13, .int .i64 (j2 : Int))]) (fun (x_ : Nat) w => match x_ with | j2 => (j2 ≤ T.length) ∧ St W w (imi (0 < D9.length) gA30 (.cells kA32 eA33 zA34) :: imi (0 < D2.length) gA17 (.cells kA19 eA20 zA21) :: Im 6 (.slice p2 D9.length d2) D9.length (D9.flatMap dgdCell) :: byA (D9.map DgD.by) :: Im 6 (.slice p1 D2.length d1) D2.length (D2.flatMap dgdCell) :: byA (D2.map DgD.by) :: F)) (fun (x_ : Nat) => match x_ with | j2 => T.length - j2) (0) ?_ ?_ ?_
 ·exact ⟨by first | rfl | exact vint (by omega), by first | rfl | exact vint (by omega), by first | rfl | exact vint (by omega), by first | rfl | exact vint (by omega), by first | rfl | exact vint (by omega), trivial⟩
 ·exact ⟨(by omega), H39⟩
 ·rintro j2 ρ41 w42 ⟨hjn, H43⟩ nx44
  change Ends _ _ (upds ρ41 [(0, .slice p1 T.length d1), (1, .slice p2 T.length d2), (4, .bool false), (12, .int .i64 (T.length : Int)), (13, .int .i64 (j2 : Int))]) w42
  refine g_seq ?_
  refine g_region ?_
  by_cases hc45 : (j2 : Int) < (T.length : Int)
  ·skip
   refine r_cons (s_lss true rfl rfl (dtrue hc45) rfl ?_)
   refine r_nil ?_
   refine g_seq ?_
   refine g_true rfl ?_
   refine g_skip ?_
   refine g_seq ?_
   refine g_block ?_
   refine g_seq ?_
   refine g_region ?_
   refine r_cons (s_move (.int .i64 (j2 : Int)) rfl rfl ?_)
   refine r_cons (s_assign (.int .i64 (j2 : Int)) rfl rfl ?_)
   refine r_nil ?_
   refine g_seq ?_
   have H46 : St W w42 (Im 1 (.slice ((D2.getD j2 default).p) ((D2.getD j2 default).d.body.length) ((D2.getD j2 default).c)) (((D2.getD j2 default).d.body).length) (((D2.getD j2 default).d.body).flatMap u8c) :: imi (0 < D9.length) gA30 (.cells kA32 eA33 zA34) :: imi (0 < D2.length) gA17 (.cells kA19 eA20 zA21) :: Im 6 (.slice p2 D9.length d2) D9.length (D9.flatMap dgdCell) :: byA (D9.map DgD.by) :: Im 6 (.slice p1 D2.length d1) D2.length (D2.flatMap dgdCell) :: byA (D2.map DgD.by) :: F) := byA_at H43 (i := 5) rfl (dg_at (k := j2) (by omega))
   have H47 : St W w42 (Im 1 (.slice ((D9.getD j2 default).p) ((D9.getD j2 default).d.body.length) ((D9.getD j2 default).c)) (((D9.getD j2 default).d.body).length) (((D9.getD j2 default).d.body).flatMap u8c) :: Im 1 (.slice ((D2.getD j2 default).p) ((D2.getD j2 default).d.body.length) ((D2.getD j2 default).c)) (((D2.getD j2 default).d.body).length) (((D2.getD j2 default).d.body).flatMap u8c) :: imi (0 < D9.length) gA30 (.cells kA32 eA33 zA34) :: imi (0 < D2.length) gA17 (.cells kA19 eA20 zA21) :: Im 6 (.slice p2 D9.length d2) D9.length (D9.flatMap dgdCell) :: byA (D9.map DgD.by) :: Im 6 (.slice p1 D2.length d1) D2.length (D2.flatMap dgdCell) :: byA (D2.map DgD.by) :: F) := byA_at H46 (i := 4) rfl (dg_at (k := j2) (by omega))
   have hsm : dgSame ((D2.getD j2 default).d) ((D9.getD j2 default).d) = true := by rw [dgAt hD3 j2, dgAt hD10 j2]; exact dgSame_self _
   refine g_quiet (fun w' => St W w' (Im 1 (.slice ((D9.getD j2 default).p) ((D9.getD j2 default).d.body.length) ((D9.getD j2 default).c)) (((D9.getD j2 default).d.body).length) (((D9.getD j2 default).d.body).flatMap u8c) :: Im 1 (.slice ((D2.getD j2 default).p) ((D2.getD j2 default).d.body.length) ((D2.getD j2 default).c)) (((D2.getD j2 default).d.body).length) (((D2.getD j2 default).d.body).flatMap u8c) :: imi (0 < D9.length) gA30 (.cells kA32 eA33 zA34) :: imi (0 < D2.length) gA17 (.cells kA19 eA20 zA21) :: Im 6 (.slice p2 D9.length d2) D9.length (D9.flatMap dgdCell) :: byA (D9.map DgD.by) :: Im 6 (.slice p1 D2.length d1) D2.length (D2.flatMap dgdCell) :: byA (D2.map DgD.by) :: F)) mixed (by kernel_rfl) H47.drew ?_
   refine q_cons (q_val rfl rfl rfl (by intro w hw; exact x_move (.slice p1 T.length d1) rfl w) ?_)
   refine q_cons (q_val rfl rfl rfl (by intro w hw; exact x_move (.int .i64 (j2 : Int)) rfl w) ?_)
   refine q_cons (q_val rfl rfl rfl (by intro w hw; exact x_indexAddr gA17 (off := oA18) (j2 : Int) 6 (oA18 + j2 * 6) (by exact congrArg (fun z_ => Value.slice z_ T.length d1) (hp23 (by omega))) rfl el_34 (by omega) rfl w) ?_)
   refine q_cons (q_val rfl rfl rfl (by intro w hw; exact x_loadAgg [.int .i64 ((D2.getD j2 default).d.frm.v), .int .i64 ((D2.getD j2 default).d.to_.v), .int .i64 ((D2.getD j2 default).d.kind.v), .int .i64 ((D2.getD j2 default).d.seq.v), .int .i64 ((D2.getD j2 default).d.ack.v), .slice ((D2.getD j2 default).p) ((D2.getD j2 default).d.body.length) ((D2.getD j2 default).c)] 6 ag_41 rfl (hw.imi_at (i := 3) rfl (by omega)) (by have := elem_size (i := j2) (s := 6) (hs25 (by omega)) (by omega); omega) (elem_take dgdCell_len (hx24 (by omega)) (by omega) default)) ?_)
   refine q_cons (q_val rfl rfl rfl (by intro w hw; exact x_move (.slice p2 T.length d2) rfl w) ?_)
   refine q_cons (q_val rfl rfl rfl (by intro w hw; exact x_move (.int .i64 (j2 : Int)) rfl w) ?_)
   refine q_cons (q_val rfl rfl rfl (by intro w hw; exact x_indexAddr gA30 (off := oA31) (j2 : Int) 6 (oA31 + j2 * 6) (by exact congrArg (fun z_ => Value.slice z_ T.length d2) (hp36 (by omega))) rfl el_34 (by omega) rfl w) ?_)
   refine q_cons (q_val rfl rfl rfl (by intro w hw; exact x_loadAgg [.int .i64 ((D9.getD j2 default).d.frm.v), .int .i64 ((D9.getD j2 default).d.to_.v), .int .i64 ((D9.getD j2 default).d.kind.v), .int .i64 ((D9.getD j2 default).d.seq.v), .int .i64 ((D9.getD j2 default).d.ack.v), .slice ((D9.getD j2 default).p) ((D9.getD j2 default).d.body.length) ((D9.getD j2 default).c)] 6 ag_41 rfl (hw.imi_at (i := 2) rfl (by omega)) (by have := elem_size (i := j2) (s := 6) (hs38 (by omega)) (by omega); omega) (elem_take dgdCell_len (hx37 (by omega)) (by omega) default)) ?_)
   refine q_cons (q_enter (args := #[.agg #[.int .i64 ((D2.getD j2 default).d.frm.v), .int .i64 ((D2.getD j2 default).d.to_.v), .int .i64 ((D2.getD j2 default).d.kind.v), .int .i64 ((D2.getD j2 default).d.seq.v), .int .i64 ((D2.getD j2 default).d.ack.v), .slice ((D2.getD j2 default).p) ((D2.getD j2 default).d.body.length) ((D2.getD j2 default).c)], .agg #[.int .i64 ((D9.getD j2 default).d.frm.v), .int .i64 ((D9.getD j2 default).d.to_.v), .int .i64 ((D9.getD j2 default).d.kind.v), .int .i64 ((D9.getD j2 default).d.seq.v), .int .i64 ((D9.getD j2 default).d.ack.v), .slice ((D9.getD j2 default).p) ((D9.getD j2 default).d.body.length) ((D9.getD j2 default).c)]]) (v := .bool (dgSame ((D2.getD j2 default).d) ((D9.getD j2 default).d))) rfl rfl rfl (x_call pl_54 [.agg #[.int .i64 ((D2.getD j2 default).d.frm.v), .int .i64 ((D2.getD j2 default).d.to_.v), .int .i64 ((D2.getD j2 default).d.kind.v), .int .i64 ((D2.getD j2 default).d.seq.v), .int .i64 ((D2.getD j2 default).d.ack.v), .slice ((D2.getD j2 default).p) ((D2.getD j2 default).d.body.length) ((D2.getD j2 default).c)], .agg #[.int .i64 ((D9.getD j2 default).d.frm.v), .int .i64 ((D9.getD j2 default).d.to_.v), .int .i64 ((D9.getD j2 default).d.kind.v), .int .i64 ((D9.getD j2 default).d.seq.v), .int .i64 ((D9.getD j2 default).d.ack.v), .slice ((D9.getD j2 default).p) ((D9.getD j2 default).d.body.length) ((D9.getD j2 default).c)]] rfl) (fun w hw => eyrieref02_Same ((D2.getD j2 default).d) ((D9.getD j2 default).d) _ _ RdA.im (j := 1) rfl RdA.im (k := 0) rfl hw) ?_)
   refine q_cons (q_val rfl rfl rfl (by intro w hw; exact x_not (dgSame ((D2.getD j2 default).d) ((D9.getD j2 default).d)) rfl false (by rw [hsm]; rfl) w) ?_)
   refine q_nil ?_
   intro w48 H49
   refine g_false rfl ?_
   refine g_skip ?_
   refine g_inBlock ?_
   refine g_region ?_
   refine r_cons (s_add ((j2 : Int) + 1) rfl rfl (wi64 (by omega)) rfl ?_)
   refine r_cons (s_move (.int .i64 ((j2 : Int) + 1)) rfl rfl ?_)
   refine r_nil ?_
   have H50 : St W w48 (imi (0 < D9.length) gA30 (.cells kA32 eA33 zA34) :: imi (0 < D2.length) gA17 (.cells kA19 eA20 zA21) :: Im 6 (.slice p2 D9.length d2) D9.length (D9.flatMap dgdCell) :: byA (D9.map DgD.by) :: Im 6 (.slice p1 D2.length d1) D2.length (D2.flatMap dgdCell) :: byA (D2.map DgD.by) :: F) := ((((((((H49.move 7 rfl).move 7 rfl).move 7 rfl).move 7 rfl).move 7 rfl).move 7 rfl).drop 6 rfl).drop 6 rfl)
   exact nx44 (j2 + 1) _ _ ⟨(by omega), H50⟩ (by first | (dsimp only; omega) | omega) ⟨by first | rfl | exact vint (by omega), by first | rfl | exact vint (by omega), by first | rfl | exact vint (by omega), by first | rfl | exact vint (by omega), by first | rfl | exact vint (by omega), trivial⟩
  ·skip
   refine r_cons (s_lss false rfl rfl (dfalse hc45) rfl ?_)
   refine r_nil ?_
   refine g_seq ?_
   refine g_false rfl ?_
   refine g_exit (by rfl) ?_
   refine g_seq ?_
   refine g_region ?_
   refine r_cons (s_assign (.bool true) rfl rfl ?_)
   refine r_nil ?_
   refine g_ret' [.bool true] Try.func38 Try.results38 ⟨rfl, trivial⟩ ?_
   have H51 : St W w42 F := ((((((H43.drop 0 rfl).drop 0 rfl).drop 0 rfl).drop 0 rfl).drop 0 rfl).drop 0 rfl)
   exact ⟨rfl, H51⟩
set_option maxHeartbeats 4000000 in
set_option maxRecDepth 100000 in
theorem does_ {W w : World} {F : List Atom} (g g2 n : Nat) (s : EndV) (o : LOpV) (u0 v0 : Value) (hd : DInv n s) (hn : n < 4611686018427387904) {A B : Atom} (hA : RdA A 1 u0 o.body.length (o.body.flatMap u8c)) (hB : RdA B 1 v0 o.dgm.body.length (o.dgm.body.flatMap u8c)) {j k : Nat} (hj : F[j]? = some A) (hk : F[k]? = some B) (H : St W w (LkA g s :: RfA g2 s :: F)) : Calls Try.prog 19 #[.pointer (some ⟨g, 0, none⟩), .pointer (some ⟨g2, 0, none⟩), .agg #[.int .i64 o.do_.v, u0, .int .i64 o.dgm.frm.v, .int .i64 o.dgm.to_.v, .int .i64 o.dgm.kind.v, .int .i64 o.dgm.seq.v, .int .i64 o.dgm.ack.v, v0]] w (Ret fun v w' => v = .bool true ∧ St W w' (LkA g (doS s o) :: RfA g2 (doS s o) :: F)) := by
 have hn3l := (hA _ _ _ (j + 2) H (by exact hj)).2
 obtain ⟨pp1, cc2, rfl, hn3⟩ := Rd.shape (hA _ _ _ (j + 2) H (by exact hj)).1
 have hn6l := (hB _ _ _ (k + 2) H (by exact hk)).2
 obtain ⟨pp4, cc5, rfl, hn6⟩ := Rd.shape (hB _ _ _ (k + 2) H (by exact hk)).1
 refine calls_of_go (n := 62) Try.func19 rfl Try.ntmps19 rfl ?_
 refine g_seq ?_
 refine g_region ?_
 refine r_cons (s_box H 55 (.agg #[.int .i64 o.do_.v, .slice pp1 o.body.length cc2, .int .i64 o.dgm.frm.v, .int .i64 o.dgm.to_.v, .int .i64 o.dgm.kind.v, .int .i64 o.dgm.seq.v, .int .i64 o.dgm.ack.v, .slice pp4 o.dgm.body.length cc5]) rfl (cs := #[.int .i64 o.do_.v, .slice pp1 o.body.length cc2, .int .i64 o.dgm.frm.v, .int .i64 o.dgm.to_.v, .int .i64 o.dgm.kind.v, .int .i64 o.dgm.seq.v, .int .i64 o.dgm.ack.v, .slice pp4 o.dgm.body.length cc5]) rfl rfl ?_); intro bk7 w8 H9
 refine r_cons (s_assign (.bool false) rfl rfl ?_)
 refine r_nil ?_
 refine g_seq ?_
 refine g_seq ?_
 refine g_region ?_
 refine r_cons (s_fieldAddr 55 0 0 0 3 rfl fi_55_0 rfl rfl ?_)
 refine r_cons (s_load (.int .i64 o.do_.v) ag_3 rfl (H9.blk_at (i := 0) rfl) rfl rfl ?_)
 refine r_nil ?_
 refine g_block ?_
 refine g_seq ?_
 refine g_region ?_
 by_cases hc10 : o.do_.v = 0
 ·skip
  refine r_cons (s_eql true rfl rfl (dtrue hc10) rfl ?_)
  refine r_cons (s_assign (.bool true) rfl rfl ?_)
  refine r_nil ?_
  refine g_true rfl ?_
  refine g_seq ?_
  refine g_mix (fun t_ w => St W w (blk bk7 (.cells #[.int .i64 o.do_.v, .slice pp1 o.body.length cc2, .int .i64 o.dgm.frm.v, .int .i64 o.dgm.to_.v, .int .i64 o.dgm.kind.v, .int .i64 o.dgm.seq.v, .int .i64 o.dgm.ack.v, .slice pp4 o.dgm.body.length cc5] 55 (0, 0)) :: t_)) (LkA g s :: RfA g2 s :: F) mixed 10 rfl H9.drew ?_
  refine f_first 0 (listed' := #[true, false, false, false, false, false, false, false, false, false]) rfl (by kernel_rfl) (by kernel_rfl) (by kernel_rfl) rfl ?_
  refine f_val rfl rfl rfl (by intro _ w _; exact x_move (.pointer (some ⟨g, 0, none⟩)) rfl w) ?_
  refine f_first 1 (listed' := #[true, true, false, false, false, false, false, false, false, false]) rfl (by kernel_rfl) (by kernel_rfl) (by kernel_rfl) rfl ?_
  refine f_val rfl rfl rfl (by intro t_ w hw; exact x_fieldAddr 55 1 1 1 26 rfl fi_55_1 rfl w) ?_
  refine f_first 2 (listed' := #[true, true, true, false, false, false, false, false, false, false]) rfl (by kernel_rfl) (by kernel_rfl) (by kernel_rfl) rfl ?_
  refine f_val rfl rfl rfl (by intro t_ w hw; exact x_load (.slice pp1 o.body.length cc2) ag_26 rfl (hw.blk_at (i := 0) rfl) rfl) ?_
  refine f_first 4 (listed' := #[true, true, true, false, true, false, false, false, false, false]) rfl (by kernel_rfl) (by kernel_rfl) (by kernel_rfl) rfl ?_
  refine f_val rfl rfl rfl (by intro _ w _; exact x_move (.pointer (some ⟨g2, 0, none⟩)) rfl w) ?_
  refine f_first 5 (listed' := #[true, true, true, false, true, true, false, false, false, false]) rfl (by kernel_rfl) (by kernel_rfl) (by kernel_rfl) rfl ?_
  refine f_val rfl rfl rfl (by intro t_ w hw; exact x_fieldAddr 55 1 1 1 26 rfl fi_55_1 rfl w) ?_
  refine f_first 6 (listed' := #[true, true, true, false, true, true, true, false, false, false]) rfl (by kernel_rfl) (by kernel_rfl) (by kernel_rfl) rfl ?_
  refine f_val rfl rfl rfl (by intro t_ w hw; exact x_load (.slice pp1 o.body.length cc2) ag_26 rfl (hw.blk_at (i := 0) rfl) rfl) ?_
  refine f_all (rs := [3]) (by kernel_rfl) (by simp) ?_
  refine a_cons ⟨_, rfl, ?_⟩ (fun x hx => absurd hx (by simp))
  intro w11 H12
  try dsimp only at H12
  refine s_call [.pointer (some ⟨g, 0, none⟩), .slice pp1 o.body.length cc2] pl_22 rfl rfl (Lk_Send g s hd.i.ok o.body (.slice pp1 o.body.length cc2) (i := 1) rfl hA (j := j + 3) (by exact hj) H12) ?_
  rintro _ w13 ⟨rfl, H14⟩
  refine ⟨LkA g (sendS s o.body) :: RfA g2 s :: F, ?_, H14⟩
  change FReg _ _ _ _ _ #[true, true, true, true, true, true, true, false, false, false] _ _
  refine f_all (rs := [7]) (by kernel_rfl) (by simp) ?_
  refine a_cons ⟨_, rfl, ?_⟩ (fun x hx => absurd hx (by simp))
  intro w15 H16
  try dsimp only at H16
  refine s_call [.pointer (some ⟨g2, 0, none⟩), .slice pp1 o.body.length cc2] pl_37 rfl rfl (Rf_Send g2 s hd.i o.body (.slice pp1 o.body.length cc2) (i := 2) rfl hA (j := j + 3) (by exact hj) H16) ?_
  rintro _ w17 ⟨rfl, H18⟩
  refine ⟨LkA g (sendS s o.body) :: RfA g2 (sendS s o.body) :: F, ?_, H18⟩
  change FReg _ _ _ _ _ #[true, true, true, true, true, true, true, true, false, false] _ _
  refine f_first 8 (listed' := #[true, true, true, true, true, true, true, true, true, false]) rfl (by kernel_rfl) (by kernel_rfl) (by kernel_rfl) rfl ?_
  refine f_val rfl rfl rfl (by intro t_ w hw; exact x_eql true rfl rfl (dtrue rfl) w) ?_
  refine f_first 9 (listed' := #[true, true, true, true, true, true, true, true, true, true]) rfl (by kernel_rfl) (by kernel_rfl) (by kernel_rfl) rfl ?_
  refine f_val rfl rfl rfl (by intro t_ w hw; exact x_assign (.bool true) rfl w) ?_
  refine f_done (by kernel_rfl) ?_
  intro w19 H20
  refine g_ret' [.bool true] Try.func19 Try.results19 ⟨rfl, trivial⟩ ?_
  have hdo := doS_0 (s := s) (o := o) (by omega)
  have H21 : St W w19 (LkA g (sendS s o.body) :: RfA g2 (sendS s o.body) :: F) := (((H20.move 2 rfl).move 2 rfl).drop 2 rfl)
  exact ⟨rfl, by rw [hdo]; exact H21⟩
 ·skip
  refine r_cons (s_eql false rfl rfl (dfalse hc10) rfl ?_)
  refine r_cons (s_assign (.bool false) rfl rfl ?_)
  refine r_nil ?_
  refine g_false rfl ?_
  refine g_seq ?_
  refine g_region ?_
  by_cases hc22 : o.do_.v = 1
  ·skip
   refine r_cons (s_eql true rfl rfl (dtrue hc22) rfl ?_)
   refine r_cons (s_assign (.bool true) rfl rfl ?_)
   refine r_nil ?_
   refine g_true rfl ?_
   refine g_seq ?_
   refine g_region ?_
   refine r_cons (s_move (.pointer (some ⟨g, 0, none⟩)) rfl rfl ?_)
   refine r_cons (s_call [.pointer (some ⟨g, 0, none⟩)] pl_23 rfl rfl (Lk_Out g s hd.i.ok (i := 1) rfl H9) ?_)
   rintro _ w25 ⟨pp23, cc24, rfl, H26⟩
   refine r_cons (s_move (.pointer (some ⟨g2, 0, none⟩)) rfl rfl ?_)
   refine r_cons (s_call [.pointer (some ⟨g2, 0, none⟩)] pl_39 rfl rfl (Rf_Out g2 s hd.i (i := 3) rfl H26) ?_)
   rintro _ w29 ⟨pp27, cc28, rfl, H30⟩
   have H31 : St W w29 (DgsA pp23 cc24 (outT s) :: DgsA pp27 cc28 (outT s) :: blk bk7 (.cells #[.int .i64 o.do_.v, .slice pp1 o.body.length cc2, .int .i64 o.dgm.frm.v, .int .i64 o.dgm.to_.v, .int .i64 o.dgm.kind.v, .int .i64 o.dgm.seq.v, .int .i64 o.dgm.ack.v, .slice pp4 o.dgm.body.length cc5] 55 (0, 0)) :: LkA g (outS s) :: RfA g2 (outS s) :: F) := (H30.move 1 rfl)
   refine r_cons (s_call [.slice pp23 ((outT s).length) cc24, .slice pp27 ((outT s).length) cc28] pl_38 rfl rfl (sameAll_ (outT s) pp23 pp27 cc24 cc28 H31) ?_)
   rintro _ w32 ⟨rfl, H33⟩
   refine r_cons (s_assign (.bool true) rfl rfl ?_)
   refine r_nil ?_
   refine g_ret' [.bool true] Try.func19 Try.results19 ⟨rfl, trivial⟩ ?_
   have hdo := doS_1 (s := s) (o := o) (by omega)
   have H34 : St W w32 (LkA g (outS s) :: RfA g2 (outS s) :: F) := (((H33.move 2 rfl).move 2 rfl).drop 2 rfl)
   exact ⟨rfl, by rw [hdo]; exact H34⟩
  ·skip
   refine r_cons (s_eql false rfl rfl (dfalse hc22) rfl ?_)
   refine r_cons (s_assign (.bool false) rfl rfl ?_)
   refine r_nil ?_
   refine g_false rfl ?_
   refine g_seq ?_
   refine g_region ?_
   by_cases hc35 : o.do_.v = 2
   ·skip
    refine r_cons (s_eql true rfl rfl (dtrue hc35) rfl ?_)
    refine r_cons (s_assign (.bool true) rfl rfl ?_)
    refine r_nil ?_
    refine g_true rfl ?_
    refine g_seq ?_
    refine g_region ?_
    refine r_cons (s_move (.pointer (some ⟨g, 0, none⟩)) rfl rfl ?_)
    refine r_cons (s_call [.pointer (some ⟨g, 0, none⟩)] pl_11 rfl rfl (Lk_Tick g s hd.i.ok (by have h9 := hd.clk; omega) (i := 1) rfl H9) ?_)
    rintro _ w38 ⟨pp36, cc37, rfl, H39⟩
    refine r_cons (s_move (.pointer (some ⟨g2, 0, none⟩)) rfl rfl ?_)
    refine r_cons (s_call [.pointer (some ⟨g2, 0, none⟩)] pl_40 rfl rfl (Rf_Tick g2 s hd.i (by have h9 := hd.clk; omega) (i := 3) rfl H39) ?_)
    rintro _ w42 ⟨pp40, cc41, rfl, H43⟩
    have H44 : St W w42 (DgsA pp36 cc37 (tickT s) :: DgsA pp40 cc41 (tickT s) :: blk bk7 (.cells #[.int .i64 o.do_.v, .slice pp1 o.body.length cc2, .int .i64 o.dgm.frm.v, .int .i64 o.dgm.to_.v, .int .i64 o.dgm.kind.v, .int .i64 o.dgm.seq.v, .int .i64 o.dgm.ack.v, .slice pp4 o.dgm.body.length cc5] 55 (0, 0)) :: LkA g (tickS s) :: RfA g2 (tickS s) :: F) := (H43.move 1 rfl)
    refine r_cons (s_call [.slice pp36 ((tickT s).length) cc37, .slice pp40 ((tickT s).length) cc41] pl_38 rfl rfl (sameAll_ (tickT s) pp36 pp40 cc37 cc41 H44) ?_)
    rintro _ w45 ⟨rfl, H46⟩
    refine r_cons (s_assign (.bool true) rfl rfl ?_)
    refine r_nil ?_
    refine g_ret' [.bool true] Try.func19 Try.results19 ⟨rfl, trivial⟩ ?_
    have hdo := doS_2 (s := s) (o := o) (by omega)
    have H47 : St W w45 (LkA g (tickS s) :: RfA g2 (tickS s) :: F) := (((H46.move 2 rfl).move 2 rfl).drop 2 rfl)
    exact ⟨rfl, by rw [hdo]; exact H47⟩
   ·skip
    refine r_cons (s_eql false rfl rfl (dfalse hc35) rfl ?_)
    refine r_cons (s_assign (.bool false) rfl rfl ?_)
    refine r_nil ?_
    refine g_false rfl ?_
    refine g_seq ?_
    refine g_region ?_
    by_cases hc48 : o.do_.v = 3
    ·skip
     refine r_cons (s_eql true rfl rfl (dtrue hc48) rfl ?_)
     refine r_cons (s_assign (.bool true) rfl rfl ?_)
     refine r_nil ?_
     refine g_true rfl ?_
     refine g_seq ?_
     refine g_region ?_
     refine r_cons (s_move (.pointer (some ⟨g, 0, none⟩)) rfl rfl ?_)
     refine r_cons (s_fieldAddr 55 2 2 2 41 rfl fi_55_2 rfl rfl ?_)
     refine r_cons (s_loadAgg [.int .i64 o.dgm.frm.v, .int .i64 o.dgm.to_.v, .int .i64 o.dgm.kind.v, .int .i64 o.dgm.seq.v, .int .i64 o.dgm.ack.v, .slice pp4 o.dgm.body.length cc5] 6 ag_41 rfl (H9.blk_at (i := 0) rfl) (nbl rfl) rfl rfl ?_)
     refine r_cons (s_call [.pointer (some ⟨g, 0, none⟩), .agg #[.int .i64 o.dgm.frm.v, .int .i64 o.dgm.to_.v, .int .i64 o.dgm.kind.v, .int .i64 o.dgm.seq.v, .int .i64 o.dgm.ack.v, .slice pp4 o.dgm.body.length cc5]] pl_21 rfl rfl (Lk_Take g s hd.i.ok o.dgm (.slice pp4 o.dgm.body.length cc5) hd.i.heldN (i := 1) rfl hB (j := k + 3) (by exact hk) H9) ?_)
     rintro _ w51 ⟨pp49, cc50, rfl, H52⟩
     refine r_cons (s_move (.tuple #[.slice pp49 ((takeT s o.dgm).length) cc50, .int .i64 (takeE s o.dgm)]) rfl rfl ?_)
     refine r_cons (s_extract (.slice pp49 ((takeT s o.dgm).length) cc50) #[.slice pp49 ((takeT s o.dgm).length) cc50, .int .i64 (takeE s o.dgm)] rfl rfl rfl ?_)
     refine r_cons (s_extract (.int .i64 (takeE s o.dgm)) #[.slice pp49 ((takeT s o.dgm).length) cc50, .int .i64 (takeE s o.dgm)] rfl rfl rfl ?_)
     refine r_cons (s_assign (.slice pp49 ((takeT s o.dgm).length) cc50) rfl rfl ?_)
     refine r_cons (s_assign (.int .i64 (takeE s o.dgm)) rfl rfl ?_)
     refine r_nil ?_
     refine g_seq ?_
     refine g_region ?_
     refine r_cons (s_move (.pointer (some ⟨g2, 0, none⟩)) rfl rfl ?_)
     refine r_cons (s_fieldAddr 55 2 2 2 41 rfl fi_55_2 rfl rfl ?_)
     refine r_cons (s_loadAgg [.int .i64 o.dgm.frm.v, .int .i64 o.dgm.to_.v, .int .i64 o.dgm.kind.v, .int .i64 o.dgm.seq.v, .int .i64 o.dgm.ack.v, .slice pp4 o.dgm.body.length cc5] 6 ag_41 rfl (H52.blk_at (i := 1) rfl) (nbl rfl) rfl rfl ?_)
     refine r_cons (s_call [.pointer (some ⟨g2, 0, none⟩), .agg #[.int .i64 o.dgm.frm.v, .int .i64 o.dgm.to_.v, .int .i64 o.dgm.kind.v, .int .i64 o.dgm.seq.v, .int .i64 o.dgm.ack.v, .slice pp4 o.dgm.body.length cc5]] pl_41 rfl rfl (Rf_Take g2 s hd.i o.dgm (.slice pp4 o.dgm.body.length cc5) hd.i.heldN (i := 3) rfl hB (j := k + 4) (by exact hk) H52) ?_)
     rintro _ w55 ⟨pp53, cc54, rfl, H56⟩
     refine r_cons (s_move (.tuple #[.slice pp53 ((takeT s o.dgm).length) cc54, .int .i64 (takeE s o.dgm)]) rfl rfl ?_)
     refine r_cons (s_extract (.slice pp53 ((takeT s o.dgm).length) cc54) #[.slice pp53 ((takeT s o.dgm).length) cc54, .int .i64 (takeE s o.dgm)] rfl rfl rfl ?_)
     refine r_cons (s_extract (.int .i64 (takeE s o.dgm)) #[.slice pp53 ((takeT s o.dgm).length) cc54, .int .i64 (takeE s o.dgm)] rfl rfl rfl ?_)
     refine r_cons (s_assign (.slice pp53 ((takeT s o.dgm).length) cc54) rfl rfl ?_)
     refine r_cons (s_assign (.int .i64 (takeE s o.dgm)) rfl rfl ?_)
     refine r_nil ?_
     refine g_seq ?_
     refine g_region ?_
     refine r_cons (s_move (.int .i64 (takeE s o.dgm)) rfl rfl ?_)
     refine r_cons (s_move (.int .i64 (takeE s o.dgm)) rfl rfl ?_)
     refine r_cons (s_eql true rfl rfl (dtrue rfl) rfl ?_)
     refine r_cons (s_move (.bool true) rfl rfl ?_)
     refine r_cons (r_take rfl rfl ?_)
     have H57 := H56.move 1 rfl
     obtain ⟨⟨D58, hD59⟩, H60⟩ := St.open_ex H57
     have H61 := St.open_star H60
     change D58.map BytesD.data = (takeT s o.dgm) at hD59
     have H62 : St W w55 (Row 26 1 (.slice pp49 ((takeT s o.dgm).length) cc50) ((takeT s o.dgm).length) (D58.flatMap byCell) :: byA D58 :: BysA pp53 cc54 (takeT s o.dgm) :: blk bk7 (.cells #[.int .i64 o.do_.v, .slice pp1 o.body.length cc2, .int .i64 o.dgm.frm.v, .int .i64 o.dgm.to_.v, .int .i64 o.dgm.kind.v, .int .i64 o.dgm.seq.v, .int .i64 o.dgm.ack.v, .slice pp4 o.dgm.body.length cc5] 55 (0, 0)) :: LkA g (takeS s o.dgm) :: RfA g2 (takeS s o.dgm) :: F) := H61
     have hzD58 := Row.lenOf H62 (i := 0) rfl
     have H63 := H62.move 2 rfl
     obtain ⟨⟨D64, hD65⟩, H66⟩ := St.open_ex H63
     have H67 := St.open_star H66
     change D64.map BytesD.data = (takeT s o.dgm) at hD65
     have H68 : St W w55 (Row 26 1 (.slice pp53 ((takeT s o.dgm).length) cc54) ((takeT s o.dgm).length) (D64.flatMap byCell) :: byA D64 :: Row 26 1 (.slice pp49 ((takeT s o.dgm).length) cc50) ((takeT s o.dgm).length) (D58.flatMap byCell) :: byA D58 :: blk bk7 (.cells #[.int .i64 o.do_.v, .slice pp1 o.body.length cc2, .int .i64 o.dgm.frm.v, .int .i64 o.dgm.to_.v, .int .i64 o.dgm.kind.v, .int .i64 o.dgm.seq.v, .int .i64 o.dgm.ack.v, .slice pp4 o.dgm.body.length cc5] 55 (0, 0)) :: LkA g (takeS s o.dgm) :: RfA g2 (takeS s o.dgm) :: F) := H67
     have hzD64 := Row.lenOf H68 (i := 0) rfl
     refine s_move (.slice pp49 ((takeT s o.dgm).length) cc50) rfl rfl ?_
     refine r_cons (r_take rfl rfl ?_)
     refine s_move (.slice pp53 ((takeT s o.dgm).length) cc54) rfl rfl ?_
     refine r_cons (r_take rfl rfl ?_)
     have H69 := byA_app (M := (D58 ++ D64)) H68 (i := 3) (j := 1) rfl rfl app_b
     refine s_call [.slice pp49 ((takeT s o.dgm).length) cc50, .slice pp53 ((takeT s o.dgm).length) cc54] pl_14 rfl rfl (sameBodies_rows D58 D64 ((takeT s o.dgm).length) ((takeT s o.dgm).length) ((takeT s o.dgm).length) pp49 pp53 cc50 cc54 (lenOf hD59) (lenOf hD65) (by omega) rfl (by rw [hD59, hD65, List.take_length]) (i := 3) (j := 1) (a := 0) rfl rfl rfl H69) ?_
     rintro _ w70 ⟨rfl, H71⟩
     refine r_cons (s_pick_t (.bool true) rfl rfl rfl ?_)
     refine r_cons (s_assign (.bool true) rfl rfl ?_)
     refine r_nil ?_
     refine g_ret' [.bool true] Try.func19 Try.results19 ⟨rfl, trivial⟩ ?_
     have hdo := doS_3 (s := s) (o := o) (by omega)
     have H72 : St W w70 (LkA g (takeS s o.dgm) :: RfA g2 (takeS s o.dgm) :: F) := ((((((((H71.move 7 rfl).move 7 rfl).drop 2 rfl).drop 2 rfl).drop 2 rfl).drop 2 rfl).drop 2 rfl).drop 2 rfl)
     exact ⟨rfl, by rw [hdo]; exact H72⟩
    ·skip
     refine r_cons (s_eql false rfl rfl (dfalse hc48) rfl ?_)
     refine r_cons (s_assign (.bool false) rfl rfl ?_)
     refine r_nil ?_
     refine g_false rfl ?_
     refine g_skip ?_
     refine g_inBlock ?_
     refine g_seq ?_
     refine g_region ?_
     refine r_cons (s_assign (.bool true) rfl rfl ?_)
     refine r_nil ?_
     refine g_ret' [.bool true] Try.func19 Try.results19 ⟨rfl, trivial⟩ ?_
     have hdo := doS_no (s := s) (o := o) (by omega)
     have H73 : St W w8 (LkA g s :: RfA g2 s :: F) := (((H9.move 2 rfl).move 2 rfl).drop 2 rfl)
     exact ⟨rfl, by rw [hdo]; exact H73⟩
set_option maxHeartbeats 4000000 in
set_option maxRecDepth 100000 in
theorem same_ {W w : World} {F : List Atom} (g g2 : Nat) (s : EndV) (hv : LInv s) (hN0 : s.held.length * 8 ≤ 140737488355328) (H : St W w (LkA g s :: RfA g2 s :: F)) : Calls Try.prog 20 #[.pointer (some ⟨g, 0, none⟩), .pointer (some ⟨g2, 0, none⟩)] w (Ret fun v w' => v = .bool true ∧ St W w' (LkA g s :: RfA g2 s :: F)) := by
 obtain ⟨o1, o2, o3, o4, o5, o6, o8⟩ := id hv.ok; have o7 := i64N_0 (Nat.le_trans o4 (by decide))
 have hwy : (decide (s.frm.v = s.frm.v) && (decide (s.to_.v = s.to_.v) && true)) = true := by simp
 refine calls_of_go (n := 64) Try.func20 rfl Try.ntmps20 rfl ?_
 refine g_seq ?_
 refine g_region ?_
 refine r_cons (s_assign (.bool false) rfl rfl ?_)
 refine r_nil ?_
 refine g_seq ?_
 refine g_mix (fun t_ w => St W w (LkA g s :: t_)) (RfA g2 s :: F) mixed 60 rfl H.drew ?_
 refine f_first 0 (listed' := #[true, false, false, false, false, false, false, false, false, false, false, false, false, false, false, false, false, false, false, false, false, false, false, false, false, false, false, false, false, false, false, false, false, false, false, false, false, false, false, false, false, false, false, false, false, false, false, false, false, false, false, false, false, false, false, false, false, false, false, false]) rfl (by kernel_rfl) (by kernel_rfl) (by kernel_rfl) rfl ?_
 refine f_val rfl rfl rfl (by intro _ w _; exact x_move (.pointer (some ⟨g, 0, none⟩)) rfl w) ?_
 refine f_first 1 (listed' := #[true, true, false, false, false, false, false, false, false, false, false, false, false, false, false, false, false, false, false, false, false, false, false, false, false, false, false, false, false, false, false, false, false, false, false, false, false, false, false, false, false, false, false, false, false, false, false, false, false, false, false, false, false, false, false, false, false, false, false, false]) rfl (by kernel_rfl) (by kernel_rfl) (by kernel_rfl) rfl ?_
 refine f_enter (args := #[.pointer (some ⟨g, 0, none⟩)]) (v := .agg #[.int .i64 s.frm.v, .int .i64 s.to_.v]) rfl rfl rfl (x_call pl_26 [.pointer (some ⟨g, 0, none⟩)] rfl) (fun t_ w hw => Lk_Way g s hv.ok (i := 0) rfl hw) ?_
 refine f_first 2 (listed' := #[true, true, true, false, false, false, false, false, false, false, false, false, false, false, false, false, false, false, false, false, false, false, false, false, false, false, false, false, false, false, false, false, false, false, false, false, false, false, false, false, false, false, false, false, false, false, false, false, false, false, false, false, false, false, false, false, false, false, false, false]) rfl (by kernel_rfl) (by kernel_rfl) (by kernel_rfl) rfl ?_
 refine f_val rfl rfl rfl (by intro _ w _; exact x_move (.pointer (some ⟨g2, 0, none⟩)) rfl w) ?_
 refine f_first 3 (listed' := #[true, true, true, true, false, false, false, false, false, false, false, false, false, false, false, false, false, false, false, false, false, false, false, false, false, false, false, false, false, false, false, false, false, false, false, false, false, false, false, false, false, false, false, false, false, false, false, false, false, false, false, false, false, false, false, false, false, false, false, false]) rfl (by kernel_rfl) (by kernel_rfl) (by kernel_rfl) rfl ?_
 refine f_val rfl rfl rfl (by intro t_ w hw; exact x_nilCheck (.pointer (some ⟨g2, 0, none⟩)) rfl ⟨_, rfl⟩ w) ?_
 refine f_first 4 (listed' := #[true, true, true, true, true, false, false, false, false, false, false, false, false, false, false, false, false, false, false, false, false, false, false, false, false, false, false, false, false, false, false, false, false, false, false, false, false, false, false, false, false, false, false, false, false, false, false, false, false, false, false, false, false, false, false, false, false, false, false, false]) rfl (by kernel_rfl) (by kernel_rfl) (by kernel_rfl) rfl ?_
 refine f_val rfl rfl rfl (by intro t_ w hw; exact x_fieldAddr 86 0 0 0 46 rfl fi_86_0 rfl w) ?_
 refine f_all (rs := [5]) (by kernel_rfl) (by simp) ?_
 refine a_cons ⟨_, rfl, ?_⟩ (fun x hx => absurd hx (by simp))
 intro w1 H2
 try dsimp only at H2
 have H3 := H2.move 1 rfl
 obtain ⟨⟨⟨pp4, cc5, L6, pp7, cc8, E9, A10⟩, hL11, hA12, hH13⟩, H14⟩ := St.open_ex H3
 have H15 := St.open_star H14
 change L6.map BodD.v = A10 ++ s.l at hL11; change A10.length = s.acked at hA12; change HR s.held (mapB E9) at hH13
 have hl16 := refLen hL11 hA12; have hh17 : E9.length = s.held.length := by have h9 := hH13.len; rw [mapB_len rfl] at h9; exact h9
 have H18 : St W w1 (blk g2 (rfC s (.slice pp4 L6.length cc5) (.slice pp7 E9.length cc8)) :: Row 101 3 (.slice pp4 L6.length cc5) L6.length (L6.flatMap bodCell) :: byA (L6.map BodD.by) :: Row 105 2 (.slice pp7 E9.length cc8) E9.length (E9.flatMap hlCell) :: byA (mby E9) :: LkA g s :: F) := H15
 refine s_loadAgg [.int .i64 s.frm.v, .int .i64 s.to_.v] 2 ag_46 rfl (H18.blk_at (i := 0) rfl) (nbl rfl) rfl rfl ?_
 have H19 : St W w1 (RfA g2 s :: LkA g s :: F) := St.shut_ex ⟨⟨pp4, cc5, L6, pp7, cc8, E9, A10⟩, hL11, hA12, hH13⟩ (St.shut_star (ls := [_, _, _, _, _]) H18)
 have H20 : St W w1 (LkA g s :: RfA g2 s :: F) := (H19.move 1 rfl)
 refine ⟨RfA g2 s :: F, ?_, H20⟩
 change FReg _ _ _ _ _ #[true, true, true, true, true, true, false, false, false, false, false, false, false, false, false, false, false, false, false, false, false, false, false, false, false, false, false, false, false, false, false, false, false, false, false, false, false, false, false, false, false, false, false, false, false, false, false, false, false, false, false, false, false, false, false, false, false, false, false, false] _ _
 refine f_first 6 (listed' := #[true, true, true, true, true, true, true, false, false, false, false, false, false, false, false, false, false, false, false, false, false, false, false, false, false, false, false, false, false, false, false, false, false, false, false, false, false, false, false, false, false, false, false, false, false, false, false, false, false, false, false, false, false, false, false, false, false, false, false, false]) rfl (by kernel_rfl) (by kernel_rfl) (by kernel_rfl) rfl ?_
 refine f_val rfl rfl rfl (by intro t_ w hw; exact x_aeql ((decide (s.frm.v = s.frm.v) && (decide (s.to_.v = s.to_.v) && true))) gd_46 ev_46 rfl rfl rfl w) ?_
 refine f_first 7 (listed' := #[true, true, true, true, true, true, true, true, false, false, false, false, false, false, false, false, false, false, false, false, false, false, false, false, false, false, false, false, false, false, false, false, false, false, false, false, false, false, false, false, false, false, false, false, false, false, false, false, false, false, false, false, false, false, false, false, false, false, false, false]) rfl (by kernel_rfl) (by kernel_rfl) (by kernel_rfl) rfl ?_
 refine f_val rfl rfl rfl (by intro _ w _; exact x_move (.bool (decide (s.frm.v = s.frm.v) && (decide (s.to_.v = s.to_.v) && true))) rfl w) ?_
 refine f_first 8 (listed' := #[true, true, true, true, true, true, true, true, true, false, false, false, false, false, false, false, false, false, false, false, false, false, false, false, false, false, false, false, false, false, false, false, false, false, false, false, false, false, false, false, false, false, false, false, false, false, false, false, false, false, false, false, false, false, false, false, false, false, false, false]) rfl (by kernel_rfl) (by kernel_rfl) (by kernel_rfl) rfl ?_
 refine f_take rfl (by exact congrArg some hwy) ?_
 refine f_val rfl rfl rfl (by intro _ w _; exact x_move (.pointer (some ⟨g, 0, none⟩)) rfl w) ?_
 refine f_first 9 (listed' := #[true, true, true, true, true, true, true, true, true, true, false, false, false, false, false, false, false, false, false, false, false, false, false, false, false, false, false, false, false, false, false, false, false, false, false, false, false, false, false, false, false, false, false, false, false, false, false, false, false, false, false, false, false, false, false, false, false, false, false, false]) rfl (by kernel_rfl) (by kernel_rfl) (by kernel_rfl) rfl ?_
 refine f_take rfl (by exact congrArg some hwy) ?_
 refine f_enter (args := #[.pointer (some ⟨g, 0, none⟩)]) (v := .int .i64 (s.l.length : Int)) rfl rfl rfl (x_call pl_10 [.pointer (some ⟨g, 0, none⟩)] rfl) (fun t_ w hw => Lk_Waiting g s hv.ok (i := 0) rfl hw) ?_
 refine f_first 10 (listed' := #[true, true, true, true, true, true, true, true, true, true, true, false, false, false, false, false, false, false, false, false, false, false, false, false, false, false, false, false, false, false, false, false, false, false, false, false, false, false, false, false, false, false, false, false, false, false, false, false, false, false, false, false, false, false, false, false, false, false, false, false]) rfl (by kernel_rfl) (by kernel_rfl) (by kernel_rfl) rfl ?_
 refine f_take rfl (by exact congrArg some hwy) ?_
 refine f_val rfl rfl rfl (by intro _ w _; exact x_move (.pointer (some ⟨g2, 0, none⟩)) rfl w) ?_
 refine f_all (rs := [11]) (by kernel_rfl) (by simp) ?_
 refine a_cons ⟨_, rfl, ?_⟩ (fun x hx => absurd hx (by simp))
 intro w21 H22
 try dsimp only at H22
 refine r_take rfl (by exact congrArg some hwy) ?_
 refine s_call [.pointer (some ⟨g2, 0, none⟩)] pl_42 rfl rfl (Rf_Waiting g2 s hv.ok (i := 1) rfl H22) ?_
 rintro _ w23 ⟨rfl, H24⟩
 refine ⟨RfA g2 s :: F, ?_, H24⟩
 change FReg _ _ _ _ _ #[true, true, true, true, true, true, true, true, true, true, true, true, false, false, false, false, false, false, false, false, false, false, false, false, false, false, false, false, false, false, false, false, false, false, false, false, false, false, false, false, false, false, false, false, false, false, false, false, false, false, false, false, false, false, false, false, false, false, false, false] _ _
 refine f_first 12 (listed' := #[true, true, true, true, true, true, true, true, true, true, true, true, true, false, false, false, false, false, false, false, false, false, false, false, false, false, false, false, false, false, false, false, false, false, false, false, false, false, false, false, false, false, false, false, false, false, false, false, false, false, false, false, false, false, false, false, false, false, false, false]) rfl (by kernel_rfl) (by kernel_rfl) (by kernel_rfl) rfl ?_
 refine f_take rfl (by exact congrArg some hwy) ?_
 refine f_val rfl rfl rfl (by intro t_ w hw; exact x_eql true rfl rfl (dtrue rfl) w) ?_
 refine f_first 13 (listed' := #[true, true, true, true, true, true, true, true, true, true, true, true, true, true, false, false, false, false, false, false, false, false, false, false, false, false, false, false, false, false, false, false, false, false, false, false, false, false, false, false, false, false, false, false, false, false, false, false, false, false, false, false, false, false, false, false, false, false, false, false]) rfl (by kernel_rfl) (by kernel_rfl) (by kernel_rfl) rfl ?_
 refine f_val rfl rfl rfl (by intro t_ w hw; exact x_pick_t (.bool true) (by exact congrArg Value.bool hwy) rfl w) ?_
 refine f_first 14 (listed' := #[true, true, true, true, true, true, true, true, true, true, true, true, true, true, true, false, false, false, false, false, false, false, false, false, false, false, false, false, false, false, false, false, false, false, false, false, false, false, false, false, false, false, false, false, false, false, false, false, false, false, false, false, false, false, false, false, false, false, false, false]) rfl (by kernel_rfl) (by kernel_rfl) (by kernel_rfl) rfl ?_
 refine f_val rfl rfl rfl (by intro _ w _; exact x_move (.bool true) rfl w) ?_
 refine f_first 15 (listed' := #[true, true, true, true, true, true, true, true, true, true, true, true, true, true, true, true, false, false, false, false, false, false, false, false, false, false, false, false, false, false, false, false, false, false, false, false, false, false, false, false, false, false, false, false, false, false, false, false, false, false, false, false, false, false, false, false, false, false, false, false]) rfl (by kernel_rfl) (by kernel_rfl) (by kernel_rfl) rfl ?_
 refine f_take rfl rfl ?_
 refine f_val rfl rfl rfl (by intro _ w _; exact x_move (.pointer (some ⟨g, 0, none⟩)) rfl w) ?_
 refine f_first 16 (listed' := #[true, true, true, true, true, true, true, true, true, true, true, true, true, true, true, true, true, false, false, false, false, false, false, false, false, false, false, false, false, false, false, false, false, false, false, false, false, false, false, false, false, false, false, false, false, false, false, false, false, false, false, false, false, false, false, false, false, false, false, false]) rfl (by kernel_rfl) (by kernel_rfl) (by kernel_rfl) rfl ?_
 refine f_take rfl rfl ?_
 refine f_enter (args := #[.pointer (some ⟨g, 0, none⟩)]) (v := .int .i64 (under s : Int)) rfl rfl rfl (x_call pl_16 [.pointer (some ⟨g, 0, none⟩)] rfl) (fun t_ w hw => Lk_Under g s hv.ok (i := 0) rfl hw) ?_
 refine f_first 17 (listed' := #[true, true, true, true, true, true, true, true, true, true, true, true, true, true, true, true, true, true, false, false, false, false, false, false, false, false, false, false, false, false, false, false, false, false, false, false, false, false, false, false, false, false, false, false, false, false, false, false, false, false, false, false, false, false, false, false, false, false, false, false]) rfl (by kernel_rfl) (by kernel_rfl) (by kernel_rfl) rfl ?_
 refine f_take rfl rfl ?_
 refine f_val rfl rfl rfl (by intro _ w _; exact x_move (.pointer (some ⟨g2, 0, none⟩)) rfl w) ?_
 refine f_all (rs := [18]) (by kernel_rfl) (by simp) ?_
 refine a_cons ⟨_, rfl, ?_⟩ (fun x hx => absurd hx (by simp))
 intro w25 H26
 try dsimp only at H26
 refine r_take rfl rfl ?_
 refine s_call [.pointer (some ⟨g2, 0, none⟩)] pl_43 rfl rfl (Rf_Under g2 s hv (i := 1) rfl H26) ?_
 rintro _ w27 ⟨rfl, H28⟩
 refine ⟨RfA g2 s :: F, ?_, H28⟩
 change FReg _ _ _ _ _ #[true, true, true, true, true, true, true, true, true, true, true, true, true, true, true, true, true, true, true, false, false, false, false, false, false, false, false, false, false, false, false, false, false, false, false, false, false, false, false, false, false, false, false, false, false, false, false, false, false, false, false, false, false, false, false, false, false, false, false, false] _ _
 refine f_first 19 (listed' := #[true, true, true, true, true, true, true, true, true, true, true, true, true, true, true, true, true, true, true, true, false, false, false, false, false, false, false, false, false, false, false, false, false, false, false, false, false, false, false, false, false, false, false, false, false, false, false, false, false, false, false, false, false, false, false, false, false, false, false, false]) rfl (by kernel_rfl) (by kernel_rfl) (by kernel_rfl) rfl ?_
 refine f_take rfl rfl ?_
 refine f_val rfl rfl rfl (by intro t_ w hw; exact x_eql true rfl rfl (dtrue rfl) w) ?_
 refine f_first 20 (listed' := #[true, true, true, true, true, true, true, true, true, true, true, true, true, true, true, true, true, true, true, true, true, false, false, false, false, false, false, false, false, false, false, false, false, false, false, false, false, false, false, false, false, false, false, false, false, false, false, false, false, false, false, false, false, false, false, false, false, false, false, false]) rfl (by kernel_rfl) (by kernel_rfl) (by kernel_rfl) rfl ?_
 refine f_val rfl rfl rfl (by intro t_ w hw; exact x_pick_t (.bool true) rfl rfl w) ?_
 refine f_first 21 (listed' := #[true, true, true, true, true, true, true, true, true, true, true, true, true, true, true, true, true, true, true, true, true, true, false, false, false, false, false, false, false, false, false, false, false, false, false, false, false, false, false, false, false, false, false, false, false, false, false, false, false, false, false, false, false, false, false, false, false, false, false, false]) rfl (by kernel_rfl) (by kernel_rfl) (by kernel_rfl) rfl ?_
 refine f_val rfl rfl rfl (by intro _ w _; exact x_move (.bool true) rfl w) ?_
 refine f_first 22 (listed' := #[true, true, true, true, true, true, true, true, true, true, true, true, true, true, true, true, true, true, true, true, true, true, true, false, false, false, false, false, false, false, false, false, false, false, false, false, false, false, false, false, false, false, false, false, false, false, false, false, false, false, false, false, false, false, false, false, false, false, false, false]) rfl (by kernel_rfl) (by kernel_rfl) (by kernel_rfl) rfl ?_
 refine f_take rfl rfl ?_
 refine f_val rfl rfl rfl (by intro _ w _; exact x_move (.pointer (some ⟨g, 0, none⟩)) rfl w) ?_
 refine f_first 23 (listed' := #[true, true, true, true, true, true, true, true, true, true, true, true, true, true, true, true, true, true, true, true, true, true, true, true, false, false, false, false, false, false, false, false, false, false, false, false, false, false, false, false, false, false, false, false, false, false, false, false, false, false, false, false, false, false, false, false, false, false, false, false]) rfl (by kernel_rfl) (by kernel_rfl) (by kernel_rfl) rfl ?_
 refine f_take rfl rfl ?_
 refine f_enter (args := #[.pointer (some ⟨g, 0, none⟩)]) (v := .int .i64 ((s.acked : Int) + (s.l.length : Int))) rfl rfl rfl (x_call pl_24 [.pointer (some ⟨g, 0, none⟩)] rfl) (fun t_ w hw => Lk_Next g s hv.ok (i := 0) rfl hw) ?_
 refine f_first 24 (listed' := #[true, true, true, true, true, true, true, true, true, true, true, true, true, true, true, true, true, true, true, true, true, true, true, true, true, false, false, false, false, false, false, false, false, false, false, false, false, false, false, false, false, false, false, false, false, false, false, false, false, false, false, false, false, false, false, false, false, false, false, false]) rfl (by kernel_rfl) (by kernel_rfl) (by kernel_rfl) rfl ?_
 refine f_take rfl rfl ?_
 refine f_val rfl rfl rfl (by intro _ w _; exact x_move (.pointer (some ⟨g2, 0, none⟩)) rfl w) ?_
 refine f_first 25 (listed' := #[true, true, true, true, true, true, true, true, true, true, true, true, true, true, true, true, true, true, true, true, true, true, true, true, true, true, false, false, false, false, false, false, false, false, false, false, false, false, false, false, false, false, false, false, false, false, false, false, false, false, false, false, false, false, false, false, false, false, false, false]) rfl (by kernel_rfl) (by kernel_rfl) (by kernel_rfl) rfl ?_
 refine f_take rfl rfl ?_
 refine f_val rfl rfl rfl (by intro t_ w hw; exact x_nilCheck (.pointer (some ⟨g2, 0, none⟩)) rfl ⟨_, rfl⟩ w) ?_
 refine f_first 26 (listed' := #[true, true, true, true, true, true, true, true, true, true, true, true, true, true, true, true, true, true, true, true, true, true, true, true, true, true, true, false, false, false, false, false, false, false, false, false, false, false, false, false, false, false, false, false, false, false, false, false, false, false, false, false, false, false, false, false, false, false, false, false]) rfl (by kernel_rfl) (by kernel_rfl) (by kernel_rfl) rfl ?_
 refine f_take rfl rfl ?_
 refine f_val rfl rfl rfl (by intro t_ w hw; exact x_fieldAddr 86 2 3 3 83 rfl fi_86_2 rfl w) ?_
 refine f_all (rs := [27]) (by kernel_rfl) (by simp) ?_
 refine a_cons ⟨_, rfl, ?_⟩ (fun x hx => absurd hx (by simp))
 intro w29 H30
 try dsimp only at H30
 refine r_take rfl rfl ?_
 have H31 := H30.move 1 rfl
 obtain ⟨⟨⟨pp32, cc33, L34, pp35, cc36, E37, A38⟩, hL39, hA40, hH41⟩, H42⟩ := St.open_ex H31
 have H43 := St.open_star H42
 change L34.map BodD.v = A38 ++ s.l at hL39; change A38.length = s.acked at hA40; change HR s.held (mapB E37) at hH41
 have hl44 := refLen hL39 hA40; have hh45 : E37.length = s.held.length := by have h9 := hH41.len; rw [mapB_len rfl] at h9; exact h9
 have H46 : St W w29 (blk g2 (rfC s (.slice pp32 L34.length cc33) (.slice pp35 E37.length cc36)) :: Row 101 3 (.slice pp32 L34.length cc33) L34.length (L34.flatMap bodCell) :: byA (L34.map BodD.by) :: Row 105 2 (.slice pp35 E37.length cc36) E37.length (E37.flatMap hlCell) :: byA (mby E37) :: LkA g s :: F) := H43
 refine s_load (.slice pp32 L34.length cc33) ag_83 rfl (H46.blk_at (i := 0) rfl) rfl rfl ?_
 have H47 : St W w29 (RfA g2 s :: LkA g s :: F) := St.shut_ex ⟨⟨pp32, cc33, L34, pp35, cc36, E37, A38⟩, hL39, hA40, hH41⟩ (St.shut_star (ls := [_, _, _, _, _]) H46)
 have H48 : St W w29 (LkA g s :: RfA g2 s :: F) := (H47.move 1 rfl)
 refine ⟨RfA g2 s :: F, ?_, H48⟩
 change FReg _ _ _ _ _ #[true, true, true, true, true, true, true, true, true, true, true, true, true, true, true, true, true, true, true, true, true, true, true, true, true, true, true, true, false, false, false, false, false, false, false, false, false, false, false, false, false, false, false, false, false, false, false, false, false, false, false, false, false, false, false, false, false, false, false, false] _ _
 refine f_first 28 (listed' := #[true, true, true, true, true, true, true, true, true, true, true, true, true, true, true, true, true, true, true, true, true, true, true, true, true, true, true, true, true, false, false, false, false, false, false, false, false, false, false, false, false, false, false, false, false, false, false, false, false, false, false, false, false, false, false, false, false, false, false, false]) rfl (by kernel_rfl) (by kernel_rfl) (by kernel_rfl) rfl ?_
 refine f_take rfl rfl ?_
 refine f_val rfl rfl rfl (by intro t_ w hw; exact x_len L34.length rfl ⟨_, un_83⟩ w) ?_
 refine f_first 29 (listed' := #[true, true, true, true, true, true, true, true, true, true, true, true, true, true, true, true, true, true, true, true, true, true, true, true, true, true, true, true, true, true, false, false, false, false, false, false, false, false, false, false, false, false, false, false, false, false, false, false, false, false, false, false, false, false, false, false, false, false, false, false]) rfl (by kernel_rfl) (by kernel_rfl) (by kernel_rfl) rfl ?_
 refine f_take rfl rfl ?_
 refine f_val rfl rfl rfl (by intro t_ w hw; exact x_eql true rfl rfl (dtrue (by omega)) w) ?_
 refine f_first 30 (listed' := #[true, true, true, true, true, true, true, true, true, true, true, true, true, true, true, true, true, true, true, true, true, true, true, true, true, true, true, true, true, true, true, false, false, false, false, false, false, false, false, false, false, false, false, false, false, false, false, false, false, false, false, false, false, false, false, false, false, false, false, false]) rfl (by kernel_rfl) (by kernel_rfl) (by kernel_rfl) rfl ?_
 refine f_val rfl rfl rfl (by intro t_ w hw; exact x_pick_t (.bool true) rfl rfl w) ?_
 refine f_first 31 (listed' := #[true, true, true, true, true, true, true, true, true, true, true, true, true, true, true, true, true, true, true, true, true, true, true, true, true, true, true, true, true, true, true, true, false, false, false, false, false, false, false, false, false, false, false, false, false, false, false, false, false, false, false, false, false, false, false, false, false, false, false, false]) rfl (by kernel_rfl) (by kernel_rfl) (by kernel_rfl) rfl ?_
 refine f_val rfl rfl rfl (by intro _ w _; exact x_move (.bool true) rfl w) ?_
 refine f_first 32 (listed' := #[true, true, true, true, true, true, true, true, true, true, true, true, true, true, true, true, true, true, true, true, true, true, true, true, true, true, true, true, true, true, true, true, true, false, false, false, false, false, false, false, false, false, false, false, false, false, false, false, false, false, false, false, false, false, false, false, false, false, false, false]) rfl (by kernel_rfl) (by kernel_rfl) (by kernel_rfl) rfl ?_
 refine f_take rfl rfl ?_
 refine f_val rfl rfl rfl (by intro _ w _; exact x_move (.pointer (some ⟨g, 0, none⟩)) rfl w) ?_
 refine f_first 33 (listed' := #[true, true, true, true, true, true, true, true, true, true, true, true, true, true, true, true, true, true, true, true, true, true, true, true, true, true, true, true, true, true, true, true, true, true, false, false, false, false, false, false, false, false, false, false, false, false, false, false, false, false, false, false, false, false, false, false, false, false, false, false]) rfl (by kernel_rfl) (by kernel_rfl) (by kernel_rfl) rfl ?_
 refine f_take rfl rfl ?_
 refine f_enter (args := #[.pointer (some ⟨g, 0, none⟩)]) (v := .int .i64 (s.came : Int)) rfl rfl rfl (x_call pl_25 [.pointer (some ⟨g, 0, none⟩)] rfl) (fun t_ w hw => Lk_Came g s hv.ok (i := 0) rfl hw) ?_
 refine f_first 34 (listed' := #[true, true, true, true, true, true, true, true, true, true, true, true, true, true, true, true, true, true, true, true, true, true, true, true, true, true, true, true, true, true, true, true, true, true, true, false, false, false, false, false, false, false, false, false, false, false, false, false, false, false, false, false, false, false, false, false, false, false, false, false]) rfl (by kernel_rfl) (by kernel_rfl) (by kernel_rfl) rfl ?_
 refine f_take rfl rfl ?_
 refine f_val rfl rfl rfl (by intro _ w _; exact x_move (.pointer (some ⟨g2, 0, none⟩)) rfl w) ?_
 refine f_first 35 (listed' := #[true, true, true, true, true, true, true, true, true, true, true, true, true, true, true, true, true, true, true, true, true, true, true, true, true, true, true, true, true, true, true, true, true, true, true, true, false, false, false, false, false, false, false, false, false, false, false, false, false, false, false, false, false, false, false, false, false, false, false, false]) rfl (by kernel_rfl) (by kernel_rfl) (by kernel_rfl) rfl ?_
 refine f_take rfl rfl ?_
 refine f_val rfl rfl rfl (by intro t_ w hw; exact x_nilCheck (.pointer (some ⟨g2, 0, none⟩)) rfl ⟨_, rfl⟩ w) ?_
 refine f_first 36 (listed' := #[true, true, true, true, true, true, true, true, true, true, true, true, true, true, true, true, true, true, true, true, true, true, true, true, true, true, true, true, true, true, true, true, true, true, true, true, true, false, false, false, false, false, false, false, false, false, false, false, false, false, false, false, false, false, false, false, false, false, false, false]) rfl (by kernel_rfl) (by kernel_rfl) (by kernel_rfl) rfl ?_
 refine f_take rfl rfl ?_
 refine f_val rfl rfl rfl (by intro t_ w hw; exact x_fieldAddr 86 4 5 5 2 rfl fi_86_4 rfl w) ?_
 refine f_all (rs := [37]) (by kernel_rfl) (by simp) ?_
 refine a_cons ⟨_, rfl, ?_⟩ (fun x hx => absurd hx (by simp))
 intro w49 H50
 try dsimp only at H50
 refine r_take rfl rfl ?_
 have H51 := H50.move 1 rfl
 obtain ⟨⟨⟨pp52, cc53, L54, pp55, cc56, E57, A58⟩, hL59, hA60, hH61⟩, H62⟩ := St.open_ex H51
 have H63 := St.open_star H62
 change L54.map BodD.v = A58 ++ s.l at hL59; change A58.length = s.acked at hA60; change HR s.held (mapB E57) at hH61
 have hl64 := refLen hL59 hA60; have hh65 : E57.length = s.held.length := by have h9 := hH61.len; rw [mapB_len rfl] at h9; exact h9
 have H66 : St W w49 (blk g2 (rfC s (.slice pp52 L54.length cc53) (.slice pp55 E57.length cc56)) :: Row 101 3 (.slice pp52 L54.length cc53) L54.length (L54.flatMap bodCell) :: byA (L54.map BodD.by) :: Row 105 2 (.slice pp55 E57.length cc56) E57.length (E57.flatMap hlCell) :: byA (mby E57) :: LkA g s :: F) := H63
 refine s_load (.int .i64 ((i64N s.came).v)) ag_2 rfl (H66.blk_at (i := 0) rfl) rfl rfl ?_
 have H67 : St W w49 (RfA g2 s :: LkA g s :: F) := St.shut_ex ⟨⟨pp52, cc53, L54, pp55, cc56, E57, A58⟩, hL59, hA60, hH61⟩ (St.shut_star (ls := [_, _, _, _, _]) H66)
 have H68 : St W w49 (LkA g s :: RfA g2 s :: F) := (H67.move 1 rfl)
 refine ⟨RfA g2 s :: F, ?_, H68⟩
 change FReg _ _ _ _ _ #[true, true, true, true, true, true, true, true, true, true, true, true, true, true, true, true, true, true, true, true, true, true, true, true, true, true, true, true, true, true, true, true, true, true, true, true, true, true, false, false, false, false, false, false, false, false, false, false, false, false, false, false, false, false, false, false, false, false, false, false] _ _
 refine f_first 38 (listed' := #[true, true, true, true, true, true, true, true, true, true, true, true, true, true, true, true, true, true, true, true, true, true, true, true, true, true, true, true, true, true, true, true, true, true, true, true, true, true, true, false, false, false, false, false, false, false, false, false, false, false, false, false, false, false, false, false, false, false, false, false]) rfl (by kernel_rfl) (by kernel_rfl) (by kernel_rfl) rfl ?_
 refine f_take rfl rfl ?_
 refine f_val rfl rfl rfl (by intro t_ w hw; exact x_eql true rfl rfl (dtrue (by rw [o7])) w) ?_
 refine f_first 39 (listed' := #[true, true, true, true, true, true, true, true, true, true, true, true, true, true, true, true, true, true, true, true, true, true, true, true, true, true, true, true, true, true, true, true, true, true, true, true, true, true, true, true, false, false, false, false, false, false, false, false, false, false, false, false, false, false, false, false, false, false, false, false]) rfl (by kernel_rfl) (by kernel_rfl) (by kernel_rfl) rfl ?_
 refine f_val rfl rfl rfl (by intro t_ w hw; exact x_pick_t (.bool true) rfl rfl w) ?_
 refine f_first 40 (listed' := #[true, true, true, true, true, true, true, true, true, true, true, true, true, true, true, true, true, true, true, true, true, true, true, true, true, true, true, true, true, true, true, true, true, true, true, true, true, true, true, true, true, false, false, false, false, false, false, false, false, false, false, false, false, false, false, false, false, false, false, false]) rfl (by kernel_rfl) (by kernel_rfl) (by kernel_rfl) rfl ?_
 refine f_val rfl rfl rfl (by intro _ w _; exact x_move (.bool true) rfl w) ?_
 refine f_first 41 (listed' := #[true, true, true, true, true, true, true, true, true, true, true, true, true, true, true, true, true, true, true, true, true, true, true, true, true, true, true, true, true, true, true, true, true, true, true, true, true, true, true, true, true, true, false, false, false, false, false, false, false, false, false, false, false, false, false, false, false, false, false, false]) rfl (by kernel_rfl) (by kernel_rfl) (by kernel_rfl) rfl ?_
 refine f_take rfl rfl ?_
 refine f_val rfl rfl rfl (by intro _ w _; exact x_move (.pointer (some ⟨g, 0, none⟩)) rfl w) ?_
 refine f_first 42 (listed' := #[true, true, true, true, true, true, true, true, true, true, true, true, true, true, true, true, true, true, true, true, true, true, true, true, true, true, true, true, true, true, true, true, true, true, true, true, true, true, true, true, true, true, true, false, false, false, false, false, false, false, false, false, false, false, false, false, false, false, false, false]) rfl (by kernel_rfl) (by kernel_rfl) (by kernel_rfl) rfl ?_
 refine f_take rfl rfl ?_
 refine f_enter (args := #[.pointer (some ⟨g, 0, none⟩)]) (v := .bool (idle s)) rfl rfl rfl (x_call pl_13 [.pointer (some ⟨g, 0, none⟩)] rfl) (fun t_ w hw => Lk_Idle g s hv.ok (i := 0) rfl hw) ?_
 refine f_first 43 (listed' := #[true, true, true, true, true, true, true, true, true, true, true, true, true, true, true, true, true, true, true, true, true, true, true, true, true, true, true, true, true, true, true, true, true, true, true, true, true, true, true, true, true, true, true, true, false, false, false, false, false, false, false, false, false, false, false, false, false, false, false, false]) rfl (by kernel_rfl) (by kernel_rfl) (by kernel_rfl) rfl ?_
 refine f_take rfl rfl ?_
 refine f_val rfl rfl rfl (by intro _ w _; exact x_move (.pointer (some ⟨g2, 0, none⟩)) rfl w) ?_
 refine f_all (rs := [44]) (by kernel_rfl) (by simp) ?_
 refine a_cons ⟨_, rfl, ?_⟩ (fun x hx => absurd hx (by simp))
 intro w69 H70
 try dsimp only at H70
 refine r_take rfl rfl ?_
 refine s_call [.pointer (some ⟨g2, 0, none⟩)] pl_44 rfl rfl (Rf_Idle g2 s hv.ok (i := 1) rfl H70) ?_
 rintro _ w71 ⟨rfl, H72⟩
 refine ⟨RfA g2 s :: F, ?_, H72⟩
 change FReg _ _ _ _ _ #[true, true, true, true, true, true, true, true, true, true, true, true, true, true, true, true, true, true, true, true, true, true, true, true, true, true, true, true, true, true, true, true, true, true, true, true, true, true, true, true, true, true, true, true, true, false, false, false, false, false, false, false, false, false, false, false, false, false, false, false] _ _
 refine f_first 45 (listed' := #[true, true, true, true, true, true, true, true, true, true, true, true, true, true, true, true, true, true, true, true, true, true, true, true, true, true, true, true, true, true, true, true, true, true, true, true, true, true, true, true, true, true, true, true, true, true, false, false, false, false, false, false, false, false, false, false, false, false, false, false]) rfl (by kernel_rfl) (by kernel_rfl) (by kernel_rfl) rfl ?_
 refine f_take rfl rfl ?_
 refine f_val rfl rfl rfl (by intro t_ w hw; exact x_beql (decide (idle s = idle s)) un_4 rfl rfl rfl w) ?_
 refine f_first 46 (listed' := #[true, true, true, true, true, true, true, true, true, true, true, true, true, true, true, true, true, true, true, true, true, true, true, true, true, true, true, true, true, true, true, true, true, true, true, true, true, true, true, true, true, true, true, true, true, true, true, false, false, false, false, false, false, false, false, false, false, false, false, false]) rfl (by kernel_rfl) (by kernel_rfl) (by kernel_rfl) rfl ?_
 refine f_val rfl rfl rfl (by intro t_ w hw; exact x_pick_t (.bool (decide (idle s = idle s))) rfl rfl w) ?_
 refine f_first 47 (listed' := #[true, true, true, true, true, true, true, true, true, true, true, true, true, true, true, true, true, true, true, true, true, true, true, true, true, true, true, true, true, true, true, true, true, true, true, true, true, true, true, true, true, true, true, true, true, true, true, true, false, false, false, false, false, false, false, false, false, false, false, false]) rfl (by kernel_rfl) (by kernel_rfl) (by kernel_rfl) rfl ?_
 refine f_val rfl rfl rfl (by intro _ w _; exact x_move (.bool (decide (idle s = idle s))) rfl w) ?_
 refine f_first 48 (listed' := #[true, true, true, true, true, true, true, true, true, true, true, true, true, true, true, true, true, true, true, true, true, true, true, true, true, true, true, true, true, true, true, true, true, true, true, true, true, true, true, true, true, true, true, true, true, true, true, true, true, false, false, false, false, false, false, false, false, false, false, false]) rfl (by kernel_rfl) (by kernel_rfl) (by kernel_rfl) rfl ?_
 refine f_take rfl (by exact congrArg some (decide_eq_true rfl)) ?_
 refine f_val rfl rfl rfl (by intro _ w _; exact x_move (.pointer (some ⟨g, 0, none⟩)) rfl w) ?_
 refine f_first 50 (listed' := #[true, true, true, true, true, true, true, true, true, true, true, true, true, true, true, true, true, true, true, true, true, true, true, true, true, true, true, true, true, true, true, true, true, true, true, true, true, true, true, true, true, true, true, true, true, true, true, true, true, false, true, false, false, false, false, false, false, false, false, false]) rfl (by kernel_rfl) (by kernel_rfl) (by kernel_rfl) rfl ?_
 refine f_take rfl (by exact congrArg some (decide_eq_true rfl)) ?_
 refine f_val rfl rfl rfl (by intro _ w _; exact x_move (.pointer (some ⟨g2, 0, none⟩)) rfl w) ?_
 refine f_all (rs := [49]) (by kernel_rfl) (by simp) ?_
 refine a_cons ⟨_, rfl, ?_⟩ (fun x hx => absurd hx (by simp))
 intro w73 H74
 try dsimp only at H74
 refine r_take rfl (by exact congrArg some (decide_eq_true rfl)) ?_
 refine s_call [.pointer (some ⟨g, 0, none⟩)] pl_28 rfl rfl (Lk_Held g H74) ?_
 rintro _ w76 ⟨bk75, rfl, H77⟩
 have H78 : St W w76 (LkA g s :: imm bk75 (.cells #[.pointer (some ⟨g, 0, none⟩)] 30 (0, 0)) :: RfA g2 s :: F) := (((H77.move 2 rfl).move 1 rfl).move 2 rfl)
 refine ⟨imm bk75 (.cells #[.pointer (some ⟨g, 0, none⟩)] 30 (0, 0)) :: RfA g2 s :: F, ?_, H78⟩
 change FReg _ _ _ _ _ #[true, true, true, true, true, true, true, true, true, true, true, true, true, true, true, true, true, true, true, true, true, true, true, true, true, true, true, true, true, true, true, true, true, true, true, true, true, true, true, true, true, true, true, true, true, true, true, true, true, true, true, false, false, false, false, false, false, false, false, false] _ _
 refine f_all (rs := [51]) (by kernel_rfl) (by simp) ?_
 refine a_cons ⟨_, rfl, ?_⟩ (fun x hx => absurd hx (by simp))
 intro w79 H80
 try dsimp only at H80
 refine r_take rfl (by exact congrArg some (decide_eq_true rfl)) ?_
 have H81 : St W w79 (LkA g s :: RfA g2 s :: imm bk75 (.cells #[.pointer (some ⟨g, 0, none⟩)] 30 (0, 0)) :: F) := (((H80.move 1 rfl).move 2 rfl).move 2 rfl)
 refine s_call [.func (.func 50) #[] #[.pointer (some ⟨bk75, 0, none⟩)], .pointer (some ⟨g2, 0, none⟩), .int .i64 0] pl_45 rfl rfl (held_0 g bk75 g2 s hv hN0 H81) ?_
 rintro _ w82 ⟨rfl, H83⟩
 refine ⟨RfA g2 s :: F, ?_, H83⟩
 change FReg _ _ _ _ _ #[true, true, true, true, true, true, true, true, true, true, true, true, true, true, true, true, true, true, true, true, true, true, true, true, true, true, true, true, true, true, true, true, true, true, true, true, true, true, true, true, true, true, true, true, true, true, true, true, true, true, true, true, false, false, false, false, false, false, false, false] _ _
 refine f_first 52 (listed' := #[true, true, true, true, true, true, true, true, true, true, true, true, true, true, true, true, true, true, true, true, true, true, true, true, true, true, true, true, true, true, true, true, true, true, true, true, true, true, true, true, true, true, true, true, true, true, true, true, true, true, true, true, true, false, false, false, false, false, false, false]) rfl (by kernel_rfl) (by kernel_rfl) (by kernel_rfl) rfl ?_
 refine f_val rfl rfl rfl (by intro t_ w hw; exact x_pick_t (.bool true) (by exact congrArg Value.bool (decide_eq_true rfl)) rfl w) ?_
 refine f_first 53 (listed' := #[true, true, true, true, true, true, true, true, true, true, true, true, true, true, true, true, true, true, true, true, true, true, true, true, true, true, true, true, true, true, true, true, true, true, true, true, true, true, true, true, true, true, true, true, true, true, true, true, true, true, true, true, true, true, false, false, false, false, false, false]) rfl (by kernel_rfl) (by kernel_rfl) (by kernel_rfl) rfl ?_
 refine f_val rfl rfl rfl (by intro _ w _; exact x_move (.bool true) rfl w) ?_
 refine f_first 54 (listed' := #[true, true, true, true, true, true, true, true, true, true, true, true, true, true, true, true, true, true, true, true, true, true, true, true, true, true, true, true, true, true, true, true, true, true, true, true, true, true, true, true, true, true, true, true, true, true, true, true, true, true, true, true, true, true, true, false, false, false, false, false]) rfl (by kernel_rfl) (by kernel_rfl) (by kernel_rfl) rfl ?_
 refine f_take rfl rfl ?_
 refine f_val rfl rfl rfl (by intro _ w _; exact x_move (.pointer (some ⟨g, 0, none⟩)) rfl w) ?_
 refine f_first 56 (listed' := #[true, true, true, true, true, true, true, true, true, true, true, true, true, true, true, true, true, true, true, true, true, true, true, true, true, true, true, true, true, true, true, true, true, true, true, true, true, true, true, true, true, true, true, true, true, true, true, true, true, true, true, true, true, true, true, false, true, false, false, false]) rfl (by kernel_rfl) (by kernel_rfl) (by kernel_rfl) rfl ?_
 refine f_take rfl rfl ?_
 refine f_val rfl rfl rfl (by intro _ w _; exact x_move (.pointer (some ⟨g2, 0, none⟩)) rfl w) ?_
 refine f_all (rs := [55]) (by kernel_rfl) (by simp) ?_
 refine a_cons ⟨_, rfl, ?_⟩ (fun x hx => absurd hx (by simp))
 intro w84 H85
 try dsimp only at H85
 refine r_take rfl rfl ?_
 refine s_call [.pointer (some ⟨g, 0, none⟩)] pl_28 rfl rfl (Lk_Held g H85) ?_
 rintro _ w87 ⟨bk86, rfl, H88⟩
 have H89 : St W w87 (LkA g s :: imm bk86 (.cells #[.pointer (some ⟨g, 0, none⟩)] 30 (0, 0)) :: RfA g2 s :: F) := (((H88.move 2 rfl).move 1 rfl).move 2 rfl)
 refine ⟨imm bk86 (.cells #[.pointer (some ⟨g, 0, none⟩)] 30 (0, 0)) :: RfA g2 s :: F, ?_, H89⟩
 change FReg _ _ _ _ _ #[true, true, true, true, true, true, true, true, true, true, true, true, true, true, true, true, true, true, true, true, true, true, true, true, true, true, true, true, true, true, true, true, true, true, true, true, true, true, true, true, true, true, true, true, true, true, true, true, true, true, true, true, true, true, true, true, true, false, false, false] _ _
 refine f_all (rs := [57]) (by kernel_rfl) (by simp) ?_
 refine a_cons ⟨_, rfl, ?_⟩ (fun x hx => absurd hx (by simp))
 intro w90 H91
 try dsimp only at H91
 refine r_take rfl rfl ?_
 have H92 : St W w90 (LkA g s :: RfA g2 s :: imm bk86 (.cells #[.pointer (some ⟨g, 0, none⟩)] 30 (0, 0)) :: F) := (((H91.move 1 rfl).move 2 rfl).move 2 rfl)
 refine s_call [.func (.func 50) #[] #[.pointer (some ⟨bk86, 0, none⟩)], .pointer (some ⟨g2, 0, none⟩), .int .i64 1] pl_45 rfl rfl (held_1 g bk86 g2 s hv hN0 H92) ?_
 rintro _ w93 ⟨rfl, H94⟩
 refine ⟨RfA g2 s :: F, ?_, H94⟩
 change FReg _ _ _ _ _ #[true, true, true, true, true, true, true, true, true, true, true, true, true, true, true, true, true, true, true, true, true, true, true, true, true, true, true, true, true, true, true, true, true, true, true, true, true, true, true, true, true, true, true, true, true, true, true, true, true, true, true, true, true, true, true, true, true, true, false, false] _ _
 refine f_first 58 (listed' := #[true, true, true, true, true, true, true, true, true, true, true, true, true, true, true, true, true, true, true, true, true, true, true, true, true, true, true, true, true, true, true, true, true, true, true, true, true, true, true, true, true, true, true, true, true, true, true, true, true, true, true, true, true, true, true, true, true, true, true, false]) rfl (by kernel_rfl) (by kernel_rfl) (by kernel_rfl) rfl ?_
 refine f_val rfl rfl rfl (by intro t_ w hw; exact x_pick_t (.bool true) rfl rfl w) ?_
 refine f_first 59 (listed' := #[true, true, true, true, true, true, true, true, true, true, true, true, true, true, true, true, true, true, true, true, true, true, true, true, true, true, true, true, true, true, true, true, true, true, true, true, true, true, true, true, true, true, true, true, true, true, true, true, true, true, true, true, true, true, true, true, true, true, true, true]) rfl (by kernel_rfl) (by kernel_rfl) (by kernel_rfl) rfl ?_
 refine f_val rfl rfl rfl (by intro t_ w hw; exact x_assign (.bool true) rfl w) ?_
 refine f_done (by kernel_rfl) ?_
 intro w95 H96
 refine g_ret' [.bool true] Try.func20 Try.results20 ⟨rfl, trivial⟩ ?_
 have H97 : St W w95 (LkA g s :: RfA g2 s :: F) := ((H96.move 1 rfl).move 1 rfl)
 exact ⟨rfl, H97⟩
set_option maxHeartbeats 4000000 in
set_option maxRecDepth 100000 in
theorem LN_none_nil {W w : World} {F : List Atom}  (H : St W w F) : Calls Try.prog 31 #[.pointer none] w (Ret fun v w' => v = .bool true ∧ St W w' F) := by
 refine calls_of_go (n := 12) Try.func31 rfl Try.ntmps31 rfl ?_
 refine g_seq ?_
 refine g_region ?_
 refine r_cons (s_assign (.bool false) rfl rfl ?_)
 refine r_nil ?_
 refine g_seq ?_
 refine g_region ?_
 refine r_cons (s_move (.pointer none) rfl rfl ?_)
 refine r_cons (s_peql true un_30 rfl rfl rfl rfl ?_)
 refine r_cons (s_move (.bool true) rfl rfl ?_)
 refine r_cons (r_pass rfl rfl rfl rfl rfl ?_)
 refine r_cons (r_pass rfl rfl rfl rfl rfl ?_)
 refine r_cons (r_pass rfl rfl rfl rfl rfl ?_)
 refine r_cons (r_pass rfl rfl rfl rfl rfl ?_)
 refine r_cons (r_pass rfl rfl rfl rfl rfl ?_)
 refine r_cons (s_pick_t (.bool true) rfl rfl rfl ?_)
 refine r_cons (s_assign (.bool true) rfl rfl ?_)
 refine r_nil ?_
 refine g_ret' [.bool true] Try.func31 Try.results31 ⟨rfl, trivial⟩ ?_
 have H1 : St W w F := H
 exact ⟨rfl, H1⟩
set_option maxHeartbeats 4000000 in
set_option maxRecDepth 100000 in
theorem LN_none_zero {W w : World} {F : List Atom} (z : Nat)  {i : Nat} (hi : F[i]? = some (blk z (.cells #[.int .i64 0, .int .i64 0, .int .i64 0, .slice none 0 0, .int .i64 0, .int .i64 0, .map none, .int .i64 0, .bool false] 62 (0, 0)))) (H : St W w F) : Calls Try.prog 31 #[.pointer (some ⟨z, 0, none⟩)] w (Ret fun v w' => v = .bool true ∧ St W w' F) := by
 have H0 := H.front hi
 refine calls_of_go (n := 12) Try.func31 rfl Try.ntmps31 rfl ?_
 refine g_seq ?_
 refine g_region ?_
 refine r_cons (s_assign (.bool false) rfl rfl ?_)
 refine r_nil ?_
 refine g_seq ?_
 refine g_region ?_
 refine r_cons (s_move (.pointer (some ⟨z, 0, none⟩)) rfl rfl ?_)
 refine r_cons (s_peql false un_30 rfl rfl rfl rfl ?_)
 refine r_cons (s_move (.bool false) rfl rfl ?_)
 refine r_cons (r_take rfl rfl ?_)
 refine s_move (.pointer (some ⟨z, 0, none⟩)) rfl rfl ?_
 refine r_cons (r_take rfl rfl ?_)
 refine s_nilCheck (.pointer (some ⟨z, 0, none⟩)) rfl ⟨_, rfl⟩ rfl ?_
 refine r_cons (r_take rfl rfl ?_)
 refine s_fieldAddr 62 5 6 6 60 rfl fi_62_5 rfl rfl ?_
 refine r_cons (r_take rfl rfl ?_)
 refine s_load (.map none) ag_60 rfl (H0.blk_at (i := 0) rfl) rfl rfl ?_
 refine r_cons (r_take rfl rfl ?_)
 refine s_meql true un_60 rfl rfl rfl rfl ?_
 refine r_cons (s_pick_f (.bool true) rfl rfl rfl ?_)
 refine r_cons (s_assign (.bool true) rfl rfl ?_)
 refine r_nil ?_
 refine g_ret' [.bool true] Try.func31 Try.results31 ⟨rfl, trivial⟩ ?_
 have H1 : St W w (blk z (.cells #[.int .i64 0, .int .i64 0, .int .i64 0, .slice none 0 0, .int .i64 0, .int .i64 0, .map none, .int .i64 0, .bool false] 62 (0, 0)) :: (F.set i emp)) := H0
 exact ⟨rfl, St.back_same hi H1⟩
set_option maxHeartbeats 4000000 in
set_option maxRecDepth 100000 in
theorem LN_Send_nil {W w : World} {F : List Atom} (sp : Option Addr) (sn sc : Nat) (H : St W w F) : Calls Try.prog 22 #[.pointer none, .slice sp sn sc] w (Ret fun v w' => v = .int .i64 2 ∧ St W w' F) := by
 refine calls_of_go (n := 36) Try.func22 rfl Try.ntmps22 rfl ?_
 refine g_seq ?_
 refine g_region ?_
 refine r_cons (s_assign (.int .i64 0) rfl rfl ?_)
 refine r_nil ?_
 refine g_seq ?_
 refine g_block ?_
 refine g_seq ?_
 refine g_region ?_
 refine r_cons (s_move (.pointer none) rfl rfl ?_)
 refine r_cons (s_call [.pointer none] pl_31 rfl rfl (LN_none_nil  H) ?_)
 rintro _ w1 ⟨rfl, H2⟩
 refine r_cons (s_assign (.bool true) rfl rfl ?_)
 refine r_nil ?_
 refine g_true rfl ?_
 refine g_seq ?_
 refine g_region ?_
 refine r_cons (s_assign (.int .i64 2) rfl rfl ?_)
 refine r_nil ?_
 refine g_ret' [.int .i64 2] Try.func22 Try.results22 ⟨rfl, trivial⟩ ?_
 have H3 : St W w1 F := H2
 exact ⟨rfl, H3⟩
set_option maxHeartbeats 4000000 in
set_option maxRecDepth 100000 in
theorem LN_Send_zero {W w : World} {F : List Atom} (z : Nat) (sp : Option Addr) (sn sc : Nat) {i : Nat} (hi : F[i]? = some (blk z (.cells #[.int .i64 0, .int .i64 0, .int .i64 0, .slice none 0 0, .int .i64 0, .int .i64 0, .map none, .int .i64 0, .bool false] 62 (0, 0)))) (H : St W w F) : Calls Try.prog 22 #[.pointer (some ⟨z, 0, none⟩), .slice sp sn sc] w (Ret fun v w' => v = .int .i64 2 ∧ St W w' F) := by
 have H0 := H.front hi
 refine calls_of_go (n := 36) Try.func22 rfl Try.ntmps22 rfl ?_
 refine g_seq ?_
 refine g_region ?_
 refine r_cons (s_assign (.int .i64 0) rfl rfl ?_)
 refine r_nil ?_
 refine g_seq ?_
 refine g_block ?_
 refine g_seq ?_
 refine g_region ?_
 refine r_cons (s_move (.pointer (some ⟨z, 0, none⟩)) rfl rfl ?_)
 refine r_cons (s_call [.pointer (some ⟨z, 0, none⟩)] pl_31 rfl rfl (LN_none_zero z  (i := 0) rfl H0) ?_)
 rintro _ w1 ⟨rfl, H2⟩
 refine r_cons (s_assign (.bool true) rfl rfl ?_)
 refine r_nil ?_
 refine g_true rfl ?_
 refine g_seq ?_
 refine g_region ?_
 refine r_cons (s_assign (.int .i64 2) rfl rfl ?_)
 refine r_nil ?_
 refine g_ret' [.int .i64 2] Try.func22 Try.results22 ⟨rfl, trivial⟩ ?_
 have H3 : St W w1 (blk z (.cells #[.int .i64 0, .int .i64 0, .int .i64 0, .slice none 0 0, .int .i64 0, .int .i64 0, .map none, .int .i64 0, .bool false] 62 (0, 0)) :: (F.set i emp)) := H2
 exact ⟨rfl, St.back_same hi H3⟩
set_option maxHeartbeats 4000000 in
set_option maxRecDepth 100000 in
theorem LN_Waiting_nil {W w : World} {F : List Atom}  (H : St W w F) : Calls Try.prog 10 #[.pointer none] w (Ret fun v w' => v = .int .i64 0 ∧ St W w' F) := by
 refine calls_of_go (n := 10) Try.func10 rfl Try.ntmps10 rfl ?_
 refine g_seq ?_
 refine g_region ?_
 refine r_cons (s_assign (.int .i64 0) rfl rfl ?_)
 refine r_nil ?_
 refine g_seq ?_
 refine g_seq ?_
 refine g_region ?_
 refine r_cons (s_move (.pointer none) rfl rfl ?_)
 refine r_cons (s_call [.pointer none] pl_31 rfl rfl (LN_none_nil  H) ?_)
 rintro _ w1 ⟨rfl, H2⟩
 refine r_nil ?_
 refine g_true rfl ?_
 refine g_seq ?_
 refine g_region ?_
 refine r_cons (s_assign (.int .i64 0) rfl rfl ?_)
 refine r_nil ?_
 refine g_ret' [.int .i64 0] Try.func10 Try.results10 ⟨rfl, trivial⟩ ?_
 have H3 : St W w1 F := H2
 exact ⟨rfl, H3⟩
set_option maxHeartbeats 4000000 in
set_option maxRecDepth 100000 in
theorem LN_Waiting_zero {W w : World} {F : List Atom} (z : Nat)  {i : Nat} (hi : F[i]? = some (blk z (.cells #[.int .i64 0, .int .i64 0, .int .i64 0, .slice none 0 0, .int .i64 0, .int .i64 0, .map none, .int .i64 0, .bool false] 62 (0, 0)))) (H : St W w F) : Calls Try.prog 10 #[.pointer (some ⟨z, 0, none⟩)] w (Ret fun v w' => v = .int .i64 0 ∧ St W w' F) := by
 have H0 := H.front hi
 refine calls_of_go (n := 10) Try.func10 rfl Try.ntmps10 rfl ?_
 refine g_seq ?_
 refine g_region ?_
 refine r_cons (s_assign (.int .i64 0) rfl rfl ?_)
 refine r_nil ?_
 refine g_seq ?_
 refine g_seq ?_
 refine g_region ?_
 refine r_cons (s_move (.pointer (some ⟨z, 0, none⟩)) rfl rfl ?_)
 refine r_cons (s_call [.pointer (some ⟨z, 0, none⟩)] pl_31 rfl rfl (LN_none_zero z  (i := 0) rfl H0) ?_)
 rintro _ w1 ⟨rfl, H2⟩
 refine r_nil ?_
 refine g_true rfl ?_
 refine g_seq ?_
 refine g_region ?_
 refine r_cons (s_assign (.int .i64 0) rfl rfl ?_)
 refine r_nil ?_
 refine g_ret' [.int .i64 0] Try.func10 Try.results10 ⟨rfl, trivial⟩ ?_
 have H3 : St W w1 (blk z (.cells #[.int .i64 0, .int .i64 0, .int .i64 0, .slice none 0 0, .int .i64 0, .int .i64 0, .map none, .int .i64 0, .bool false] 62 (0, 0)) :: (F.set i emp)) := H2
 exact ⟨rfl, St.back_same hi H3⟩
set_option maxHeartbeats 4000000 in
set_option maxRecDepth 100000 in
theorem LN_Under_nil {W w : World} {F : List Atom}  (H : St W w F) : Calls Try.prog 16 #[.pointer none] w (Ret fun v w' => v = .int .i64 0 ∧ St W w' F) := by
 refine calls_of_go (n := 21) Try.func16 rfl Try.ntmps16 rfl ?_
 refine g_seq ?_
 refine g_region ?_
 refine r_cons (s_assign (.int .i64 0) rfl rfl ?_)
 refine r_nil ?_
 refine g_seq ?_
 refine g_region ?_
 refine r_cons (s_assign (.int .i64 0) rfl rfl ?_)
 refine r_nil ?_
 refine g_seq ?_
 refine g_block ?_
 refine g_loop ?_
 refine g_seq ?_
 refine g_seq ?_
 refine g_region ?_
 refine r_cons (s_move (.int .i64 0) rfl rfl ?_)
 refine r_cons (s_move (.pointer none) rfl rfl ?_)
 refine r_cons (s_call [.pointer none] pl_10 rfl rfl (LN_Waiting_nil  H) ?_)
 rintro _ w1 ⟨rfl, H2⟩
 refine r_cons (s_lss false rfl rfl (dfalse (by decide)) rfl ?_)
 refine r_cons (s_move (.bool false) rfl rfl ?_)
 refine r_cons (r_pass rfl rfl rfl rfl rfl ?_)
 refine r_cons (r_pass rfl rfl rfl rfl rfl ?_)
 refine r_cons (r_pass rfl rfl rfl rfl rfl ?_)
 refine r_cons (r_pass rfl rfl rfl rfl rfl ?_)
 refine r_cons (r_pass rfl rfl rfl rfl rfl ?_)
 refine r_cons (r_pass rfl rfl rfl rfl rfl ?_)
 refine r_cons (r_pass rfl rfl rfl rfl rfl ?_)
 refine r_cons (r_pass rfl rfl rfl rfl rfl ?_)
 refine r_cons (s_pick_f (.bool false) rfl rfl rfl ?_)
 refine r_nil ?_
 refine g_false rfl ?_
 refine g_exit (by rfl) ?_
 refine g_seq ?_
 refine g_region ?_
 refine r_cons (s_move (.int .i64 0) rfl rfl ?_)
 refine r_cons (s_assign (.int .i64 0) rfl rfl ?_)
 refine r_nil ?_
 refine g_ret' [.int .i64 0] Try.func16 Try.results16 ⟨rfl, trivial⟩ ?_
 have H3 : St W w1 F := H2
 exact ⟨rfl, H3⟩
set_option maxHeartbeats 4000000 in
set_option maxRecDepth 100000 in
theorem LN_Under_zero {W w : World} {F : List Atom} (z : Nat)  {i : Nat} (hi : F[i]? = some (blk z (.cells #[.int .i64 0, .int .i64 0, .int .i64 0, .slice none 0 0, .int .i64 0, .int .i64 0, .map none, .int .i64 0, .bool false] 62 (0, 0)))) (H : St W w F) : Calls Try.prog 16 #[.pointer (some ⟨z, 0, none⟩)] w (Ret fun v w' => v = .int .i64 0 ∧ St W w' F) := by
 have H0 := H.front hi
 refine calls_of_go (n := 21) Try.func16 rfl Try.ntmps16 rfl ?_
 refine g_seq ?_
 refine g_region ?_
 refine r_cons (s_assign (.int .i64 0) rfl rfl ?_)
 refine r_nil ?_
 refine g_seq ?_
 refine g_region ?_
 refine r_cons (s_assign (.int .i64 0) rfl rfl ?_)
 refine r_nil ?_
 refine g_seq ?_
 refine g_block ?_
 refine g_loop ?_
 refine g_seq ?_
 refine g_seq ?_
 refine g_region ?_
 refine r_cons (s_move (.int .i64 0) rfl rfl ?_)
 refine r_cons (s_move (.pointer (some ⟨z, 0, none⟩)) rfl rfl ?_)
 refine r_cons (s_call [.pointer (some ⟨z, 0, none⟩)] pl_10 rfl rfl (LN_Waiting_zero z  (i := 0) rfl H0) ?_)
 rintro _ w1 ⟨rfl, H2⟩
 refine r_cons (s_lss false rfl rfl (dfalse (by decide)) rfl ?_)
 refine r_cons (s_move (.bool false) rfl rfl ?_)
 refine r_cons (r_pass rfl rfl rfl rfl rfl ?_)
 refine r_cons (r_pass rfl rfl rfl rfl rfl ?_)
 refine r_cons (r_pass rfl rfl rfl rfl rfl ?_)
 refine r_cons (r_pass rfl rfl rfl rfl rfl ?_)
 refine r_cons (r_pass rfl rfl rfl rfl rfl ?_)
 refine r_cons (r_pass rfl rfl rfl rfl rfl ?_)
 refine r_cons (r_pass rfl rfl rfl rfl rfl ?_)
 refine r_cons (r_pass rfl rfl rfl rfl rfl ?_)
 refine r_cons (s_pick_f (.bool false) rfl rfl rfl ?_)
 refine r_nil ?_
 refine g_false rfl ?_
 refine g_exit (by rfl) ?_
 refine g_seq ?_
 refine g_region ?_
 refine r_cons (s_move (.int .i64 0) rfl rfl ?_)
 refine r_cons (s_assign (.int .i64 0) rfl rfl ?_)
 refine r_nil ?_
 refine g_ret' [.int .i64 0] Try.func16 Try.results16 ⟨rfl, trivial⟩ ?_
 have H3 : St W w1 (blk z (.cells #[.int .i64 0, .int .i64 0, .int .i64 0, .slice none 0 0, .int .i64 0, .int .i64 0, .map none, .int .i64 0, .bool false] 62 (0, 0)) :: (F.set i emp)) := H2
 exact ⟨rfl, St.back_same hi H3⟩
set_option maxHeartbeats 4000000 in
set_option maxRecDepth 100000 in
theorem LN_Next_nil {W w : World} {F : List Atom}  (H : St W w F) : Calls Try.prog 24 #[.pointer none] w (Ret fun v w' => v = .int .i64 0 ∧ St W w' F) := by
 refine calls_of_go (n := 15) Try.func24 rfl Try.ntmps24 rfl ?_
 refine g_seq ?_
 refine g_region ?_
 refine r_cons (s_assign (.int .i64 0) rfl rfl ?_)
 refine r_nil ?_
 refine g_seq ?_
 refine g_seq ?_
 refine g_region ?_
 refine r_cons (s_move (.pointer none) rfl rfl ?_)
 refine r_cons (s_call [.pointer none] pl_31 rfl rfl (LN_none_nil  H) ?_)
 rintro _ w1 ⟨rfl, H2⟩
 refine r_nil ?_
 refine g_true rfl ?_
 refine g_seq ?_
 refine g_region ?_
 refine r_cons (s_assign (.int .i64 0) rfl rfl ?_)
 refine r_nil ?_
 refine g_ret' [.int .i64 0] Try.func24 Try.results24 ⟨rfl, trivial⟩ ?_
 have H3 : St W w1 F := H2
 exact ⟨rfl, H3⟩
set_option maxHeartbeats 4000000 in
set_option maxRecDepth 100000 in
theorem LN_Next_zero {W w : World} {F : List Atom} (z : Nat)  {i : Nat} (hi : F[i]? = some (blk z (.cells #[.int .i64 0, .int .i64 0, .int .i64 0, .slice none 0 0, .int .i64 0, .int .i64 0, .map none, .int .i64 0, .bool false] 62 (0, 0)))) (H : St W w F) : Calls Try.prog 24 #[.pointer (some ⟨z, 0, none⟩)] w (Ret fun v w' => v = .int .i64 0 ∧ St W w' F) := by
 have H0 := H.front hi
 refine calls_of_go (n := 15) Try.func24 rfl Try.ntmps24 rfl ?_
 refine g_seq ?_
 refine g_region ?_
 refine r_cons (s_assign (.int .i64 0) rfl rfl ?_)
 refine r_nil ?_
 refine g_seq ?_
 refine g_seq ?_
 refine g_region ?_
 refine r_cons (s_move (.pointer (some ⟨z, 0, none⟩)) rfl rfl ?_)
 refine r_cons (s_call [.pointer (some ⟨z, 0, none⟩)] pl_31 rfl rfl (LN_none_zero z  (i := 0) rfl H0) ?_)
 rintro _ w1 ⟨rfl, H2⟩
 refine r_nil ?_
 refine g_true rfl ?_
 refine g_seq ?_
 refine g_region ?_
 refine r_cons (s_assign (.int .i64 0) rfl rfl ?_)
 refine r_nil ?_
 refine g_ret' [.int .i64 0] Try.func24 Try.results24 ⟨rfl, trivial⟩ ?_
 have H3 : St W w1 (blk z (.cells #[.int .i64 0, .int .i64 0, .int .i64 0, .slice none 0 0, .int .i64 0, .int .i64 0, .map none, .int .i64 0, .bool false] 62 (0, 0)) :: (F.set i emp)) := H2
 exact ⟨rfl, St.back_same hi H3⟩
set_option maxHeartbeats 4000000 in
set_option maxRecDepth 100000 in
theorem LN_Came_nil {W w : World} {F : List Atom}  (H : St W w F) : Calls Try.prog 25 #[.pointer none] w (Ret fun v w' => v = .int .i64 0 ∧ St W w' F) := by
 refine calls_of_go (n := 9) Try.func25 rfl Try.ntmps25 rfl ?_
 refine g_seq ?_
 refine g_region ?_
 refine r_cons (s_assign (.int .i64 0) rfl rfl ?_)
 refine r_nil ?_
 refine g_seq ?_
 refine g_seq ?_
 refine g_region ?_
 refine r_cons (s_move (.pointer none) rfl rfl ?_)
 refine r_cons (s_call [.pointer none] pl_31 rfl rfl (LN_none_nil  H) ?_)
 rintro _ w1 ⟨rfl, H2⟩
 refine r_nil ?_
 refine g_true rfl ?_
 refine g_seq ?_
 refine g_region ?_
 refine r_cons (s_assign (.int .i64 0) rfl rfl ?_)
 refine r_nil ?_
 refine g_ret' [.int .i64 0] Try.func25 Try.results25 ⟨rfl, trivial⟩ ?_
 have H3 : St W w1 F := H2
 exact ⟨rfl, H3⟩
set_option maxHeartbeats 4000000 in
set_option maxRecDepth 100000 in
theorem LN_Came_zero {W w : World} {F : List Atom} (z : Nat)  {i : Nat} (hi : F[i]? = some (blk z (.cells #[.int .i64 0, .int .i64 0, .int .i64 0, .slice none 0 0, .int .i64 0, .int .i64 0, .map none, .int .i64 0, .bool false] 62 (0, 0)))) (H : St W w F) : Calls Try.prog 25 #[.pointer (some ⟨z, 0, none⟩)] w (Ret fun v w' => v = .int .i64 0 ∧ St W w' F) := by
 have H0 := H.front hi
 refine calls_of_go (n := 9) Try.func25 rfl Try.ntmps25 rfl ?_
 refine g_seq ?_
 refine g_region ?_
 refine r_cons (s_assign (.int .i64 0) rfl rfl ?_)
 refine r_nil ?_
 refine g_seq ?_
 refine g_seq ?_
 refine g_region ?_
 refine r_cons (s_move (.pointer (some ⟨z, 0, none⟩)) rfl rfl ?_)
 refine r_cons (s_call [.pointer (some ⟨z, 0, none⟩)] pl_31 rfl rfl (LN_none_zero z  (i := 0) rfl H0) ?_)
 rintro _ w1 ⟨rfl, H2⟩
 refine r_nil ?_
 refine g_true rfl ?_
 refine g_seq ?_
 refine g_region ?_
 refine r_cons (s_assign (.int .i64 0) rfl rfl ?_)
 refine r_nil ?_
 refine g_ret' [.int .i64 0] Try.func25 Try.results25 ⟨rfl, trivial⟩ ?_
 have H3 : St W w1 (blk z (.cells #[.int .i64 0, .int .i64 0, .int .i64 0, .slice none 0 0, .int .i64 0, .int .i64 0, .map none, .int .i64 0, .bool false] 62 (0, 0)) :: (F.set i emp)) := H2
 exact ⟨rfl, St.back_same hi H3⟩
set_option maxHeartbeats 4000000 in
set_option maxRecDepth 100000 in
theorem LN_Idle_nil {W w : World} {F : List Atom}  (H : St W w F) : Calls Try.prog 13 #[.pointer none] w (Ret fun v w' => v = .bool false ∧ St W w' F) := by
 refine calls_of_go (n := 29) Try.func13 rfl Try.ntmps13 rfl ?_
 refine g_seq ?_
 refine g_region ?_
 refine r_cons (s_assign (.bool false) rfl rfl ?_)
 refine r_nil ?_
 refine g_seq ?_
 refine g_region ?_
 refine r_cons (s_move (.pointer none) rfl rfl ?_)
 refine r_cons (s_call [.pointer none] pl_31 rfl rfl (LN_none_nil  H) ?_)
 rintro _ w1 ⟨rfl, H2⟩
 refine r_cons (s_not true rfl false rfl rfl ?_)
 refine r_cons (s_move (.bool false) rfl rfl ?_)
 refine r_cons (r_pass rfl rfl rfl rfl rfl ?_)
 refine r_cons (r_pass rfl rfl rfl rfl rfl ?_)
 refine r_cons (r_pass rfl rfl rfl rfl rfl ?_)
 refine r_cons (r_pass rfl rfl rfl rfl rfl ?_)
 refine r_cons (r_pass rfl rfl rfl rfl rfl ?_)
 refine r_cons (r_pass rfl rfl rfl rfl rfl ?_)
 refine r_cons (s_pick_f (.bool false) rfl rfl rfl ?_)
 refine r_cons (s_move (.bool false) rfl rfl ?_)
 refine r_cons (r_pass rfl rfl rfl rfl rfl ?_)
 refine r_cons (r_pass rfl rfl rfl rfl rfl ?_)
 refine r_cons (r_pass rfl rfl rfl rfl rfl ?_)
 refine r_cons (r_pass rfl rfl rfl rfl rfl ?_)
 refine r_cons (r_pass rfl rfl rfl rfl rfl ?_)
 refine r_cons (r_pass rfl rfl rfl rfl rfl ?_)
 refine r_cons (s_pick_f (.bool false) rfl rfl rfl ?_)
 refine r_cons (s_move (.bool false) rfl rfl ?_)
 refine r_cons (r_pass rfl rfl rfl rfl rfl ?_)
 refine r_cons (r_pass rfl rfl rfl rfl rfl ?_)
 refine r_cons (r_pass rfl rfl rfl rfl rfl ?_)
 refine r_cons (r_pass rfl rfl rfl rfl rfl ?_)
 refine r_cons (r_pass rfl rfl rfl rfl rfl ?_)
 refine r_cons (s_pick_f (.bool false) rfl rfl rfl ?_)
 refine r_cons (s_assign (.bool false) rfl rfl ?_)
 refine r_nil ?_
 refine g_ret' [.bool false] Try.func13 Try.results13 ⟨rfl, trivial⟩ ?_
 have H3 : St W w1 F := H2
 exact ⟨rfl, H3⟩
set_option maxHeartbeats 4000000 in
set_option maxRecDepth 100000 in
theorem LN_Idle_zero {W w : World} {F : List Atom} (z : Nat)  {i : Nat} (hi : F[i]? = some (blk z (.cells #[.int .i64 0, .int .i64 0, .int .i64 0, .slice none 0 0, .int .i64 0, .int .i64 0, .map none, .int .i64 0, .bool false] 62 (0, 0)))) (H : St W w F) : Calls Try.prog 13 #[.pointer (some ⟨z, 0, none⟩)] w (Ret fun v w' => v = .bool false ∧ St W w' F) := by
 have H0 := H.front hi
 refine calls_of_go (n := 29) Try.func13 rfl Try.ntmps13 rfl ?_
 refine g_seq ?_
 refine g_region ?_
 refine r_cons (s_assign (.bool false) rfl rfl ?_)
 refine r_nil ?_
 refine g_seq ?_
 refine g_region ?_
 refine r_cons (s_move (.pointer (some ⟨z, 0, none⟩)) rfl rfl ?_)
 refine r_cons (s_call [.pointer (some ⟨z, 0, none⟩)] pl_31 rfl rfl (LN_none_zero z  (i := 0) rfl H0) ?_)
 rintro _ w1 ⟨rfl, H2⟩
 refine r_cons (s_not true rfl false rfl rfl ?_)
 refine r_cons (s_move (.bool false) rfl rfl ?_)
 refine r_cons (r_pass rfl rfl rfl rfl rfl ?_)
 refine r_cons (r_pass rfl rfl rfl rfl rfl ?_)
 refine r_cons (r_pass rfl rfl rfl rfl rfl ?_)
 refine r_cons (r_pass rfl rfl rfl rfl rfl ?_)
 refine r_cons (r_pass rfl rfl rfl rfl rfl ?_)
 refine r_cons (r_pass rfl rfl rfl rfl rfl ?_)
 refine r_cons (s_pick_f (.bool false) rfl rfl rfl ?_)
 refine r_cons (s_move (.bool false) rfl rfl ?_)
 refine r_cons (r_pass rfl rfl rfl rfl rfl ?_)
 refine r_cons (r_pass rfl rfl rfl rfl rfl ?_)
 refine r_cons (r_pass rfl rfl rfl rfl rfl ?_)
 refine r_cons (r_pass rfl rfl rfl rfl rfl ?_)
 refine r_cons (r_pass rfl rfl rfl rfl rfl ?_)
 refine r_cons (r_pass rfl rfl rfl rfl rfl ?_)
 refine r_cons (s_pick_f (.bool false) rfl rfl rfl ?_)
 refine r_cons (s_move (.bool false) rfl rfl ?_)
 refine r_cons (r_pass rfl rfl rfl rfl rfl ?_)
 refine r_cons (r_pass rfl rfl rfl rfl rfl ?_)
 refine r_cons (r_pass rfl rfl rfl rfl rfl ?_)
 refine r_cons (r_pass rfl rfl rfl rfl rfl ?_)
 refine r_cons (r_pass rfl rfl rfl rfl rfl ?_)
 refine r_cons (s_pick_f (.bool false) rfl rfl rfl ?_)
 refine r_cons (s_assign (.bool false) rfl rfl ?_)
 refine r_nil ?_
 refine g_ret' [.bool false] Try.func13 Try.results13 ⟨rfl, trivial⟩ ?_
 have H3 : St W w1 (blk z (.cells #[.int .i64 0, .int .i64 0, .int .i64 0, .slice none 0 0, .int .i64 0, .int .i64 0, .map none, .int .i64 0, .bool false] 62 (0, 0)) :: (F.set i emp)) := H2
 exact ⟨rfl, St.back_same hi H3⟩
set_option maxHeartbeats 4000000 in
set_option maxRecDepth 100000 in
theorem LN_Tick_nil {W w : World} {F : List Atom}  (H : St W w F) : Calls Try.prog 11 #[.pointer none] w (Ret fun v w' => v = .slice none 0 0 ∧ St W w' F) := by
 refine calls_of_go (n := 20) Try.func11 rfl Try.ntmps11 rfl ?_
 refine g_seq ?_
 refine g_region ?_
 refine r_cons (s_box H 30 (.pointer none) rfl (cs := #[.pointer none]) rfl rfl ?_); intro bk1 w2 H3
 refine r_cons (s_assign (.slice none 0 0) rfl rfl ?_)
 refine r_nil ?_
 refine g_seq ?_
 refine g_seq ?_
 refine g_region ?_
 refine r_cons (s_load (.pointer none) ag_30 rfl (H3.blk_at (i := 0) rfl) rfl rfl ?_)
 refine r_cons (s_call [.pointer none] pl_31 rfl rfl (LN_none_nil  H3) ?_)
 rintro _ w4 ⟨rfl, H5⟩
 refine r_nil ?_
 refine g_true rfl ?_
 refine g_seq ?_
 refine g_region ?_
 refine r_cons (s_assign (.slice none 0 0) rfl rfl ?_)
 refine r_nil ?_
 refine g_ret' [.slice none 0 0] Try.func11 Try.results11 ⟨rfl, trivial⟩ ?_
 have H6 : St W w4 F := (H5.drop 0 rfl)
 exact ⟨rfl, H6⟩
set_option maxHeartbeats 4000000 in
set_option maxRecDepth 100000 in
theorem LN_Tick_zero {W w : World} {F : List Atom} (z : Nat)  {i : Nat} (hi : F[i]? = some (blk z (.cells #[.int .i64 0, .int .i64 0, .int .i64 0, .slice none 0 0, .int .i64 0, .int .i64 0, .map none, .int .i64 0, .bool false] 62 (0, 0)))) (H : St W w F) : Calls Try.prog 11 #[.pointer (some ⟨z, 0, none⟩)] w (Ret fun v w' => v = .slice none 0 0 ∧ St W w' F) := by
 have H0 := H.front hi
 refine calls_of_go (n := 20) Try.func11 rfl Try.ntmps11 rfl ?_
 refine g_seq ?_
 refine g_region ?_
 refine r_cons (s_box H0 30 (.pointer (some ⟨z, 0, none⟩)) rfl (cs := #[.pointer (some ⟨z, 0, none⟩)]) rfl rfl ?_); intro bk1 w2 H3
 refine r_cons (s_assign (.slice none 0 0) rfl rfl ?_)
 refine r_nil ?_
 refine g_seq ?_
 refine g_seq ?_
 refine g_region ?_
 refine r_cons (s_load (.pointer (some ⟨z, 0, none⟩)) ag_30 rfl (H3.blk_at (i := 0) rfl) rfl rfl ?_)
 refine r_cons (s_call [.pointer (some ⟨z, 0, none⟩)] pl_31 rfl rfl (LN_none_zero z  (i := 1) rfl H3) ?_)
 rintro _ w4 ⟨rfl, H5⟩
 refine r_nil ?_
 refine g_true rfl ?_
 refine g_seq ?_
 refine g_region ?_
 refine r_cons (s_assign (.slice none 0 0) rfl rfl ?_)
 refine r_nil ?_
 refine g_ret' [.slice none 0 0] Try.func11 Try.results11 ⟨rfl, trivial⟩ ?_
 have H6 : St W w4 (blk z (.cells #[.int .i64 0, .int .i64 0, .int .i64 0, .slice none 0 0, .int .i64 0, .int .i64 0, .map none, .int .i64 0, .bool false] 62 (0, 0)) :: (F.set i emp)) := ((H5.move 1 rfl).drop 1 rfl)
 exact ⟨rfl, St.back_same hi H6⟩
set_option maxHeartbeats 4000000 in
set_option maxRecDepth 100000 in
theorem LN_Out_nil {W w : World} {F : List Atom}  (H : St W w F) : Calls Try.prog 23 #[.pointer none] w (Ret fun v w' => v = .slice none 0 0 ∧ St W w' F) := by
 refine calls_of_go (n := 39) Try.func23 rfl Try.ntmps23 rfl ?_
 refine g_seq ?_
 refine g_region ?_
 refine r_cons (s_assign (.slice none 0 0) rfl rfl ?_)
 refine r_nil ?_
 refine g_seq ?_
 refine g_seq ?_
 refine g_region ?_
 refine r_cons (s_move (.pointer none) rfl rfl ?_)
 refine r_cons (s_call [.pointer none] pl_31 rfl rfl (LN_none_nil  H) ?_)
 rintro _ w1 ⟨rfl, H2⟩
 refine r_nil ?_
 refine g_true rfl ?_
 refine g_seq ?_
 refine g_region ?_
 refine r_cons (s_assign (.slice none 0 0) rfl rfl ?_)
 refine r_nil ?_
 refine g_ret' [.slice none 0 0] Try.func23 Try.results23 ⟨rfl, trivial⟩ ?_
 have H3 : St W w1 F := H2
 exact ⟨rfl, H3⟩
set_option maxHeartbeats 4000000 in
set_option maxRecDepth 100000 in
theorem LN_Out_zero {W w : World} {F : List Atom} (z : Nat)  {i : Nat} (hi : F[i]? = some (blk z (.cells #[.int .i64 0, .int .i64 0, .int .i64 0, .slice none 0 0, .int .i64 0, .int .i64 0, .map none, .int .i64 0, .bool false] 62 (0, 0)))) (H : St W w F) : Calls Try.prog 23 #[.pointer (some ⟨z, 0, none⟩)] w (Ret fun v w' => v = .slice none 0 0 ∧ St W w' F) := by
 have H0 := H.front hi
 refine calls_of_go (n := 39) Try.func23 rfl Try.ntmps23 rfl ?_
 refine g_seq ?_
 refine g_region ?_
 refine r_cons (s_assign (.slice none 0 0) rfl rfl ?_)
 refine r_nil ?_
 refine g_seq ?_
 refine g_seq ?_
 refine g_region ?_
 refine r_cons (s_move (.pointer (some ⟨z, 0, none⟩)) rfl rfl ?_)
 refine r_cons (s_call [.pointer (some ⟨z, 0, none⟩)] pl_31 rfl rfl (LN_none_zero z  (i := 0) rfl H0) ?_)
 rintro _ w1 ⟨rfl, H2⟩
 refine r_nil ?_
 refine g_true rfl ?_
 refine g_seq ?_
 refine g_region ?_
 refine r_cons (s_assign (.slice none 0 0) rfl rfl ?_)
 refine r_nil ?_
 refine g_ret' [.slice none 0 0] Try.func23 Try.results23 ⟨rfl, trivial⟩ ?_
 have H3 : St W w1 (blk z (.cells #[.int .i64 0, .int .i64 0, .int .i64 0, .slice none 0 0, .int .i64 0, .int .i64 0, .map none, .int .i64 0, .bool false] 62 (0, 0)) :: (F.set i emp)) := H2
 exact ⟨rfl, St.back_same hi H3⟩
set_option maxHeartbeats 4000000 in
set_option maxRecDepth 100000 in
theorem LN_Take_nil {W w : World} {F : List Atom}  (H : St W w F) : Calls Try.prog 21 #[.pointer none, .agg #[.int .i64 0, .int .i64 1, .int .i64 2, .int .i64 0, .int .i64 0, .slice none 0 0]] w (Ret fun v w' => v = .tuple #[.slice none 0 0, .int .i64 2] ∧ St W w' F) := by
 refine calls_of_go (n := 158) Try.func21 rfl Try.ntmps21 rfl ?_
 refine g_seq ?_
 refine g_region ?_
 refine r_cons (s_box H 41 (.agg #[.int .i64 0, .int .i64 1, .int .i64 2, .int .i64 0, .int .i64 0, .slice none 0 0]) rfl (cs := #[.int .i64 0, .int .i64 1, .int .i64 2, .int .i64 0, .int .i64 0, .slice none 0 0]) rfl rfl ?_); intro bk1 w2 H3
 refine r_cons (s_assign (.slice none 0 0) rfl rfl ?_)
 refine r_cons (s_assign (.int .i64 0) rfl rfl ?_)
 refine r_nil ?_
 refine g_seq ?_
 refine g_seq ?_
 refine g_region ?_
 refine r_cons (s_move (.pointer none) rfl rfl ?_)
 refine r_cons (s_call [.pointer none] pl_31 rfl rfl (LN_none_nil  H3) ?_)
 rintro _ w4 ⟨rfl, H5⟩
 refine r_nil ?_
 refine g_true rfl ?_
 refine g_seq ?_
 refine g_region ?_
 refine r_cons (s_assign (.slice none 0 0) rfl rfl ?_)
 refine r_cons (s_assign (.int .i64 2) rfl rfl ?_)
 refine r_nil ?_
 refine g_ret' [.slice none 0 0, .int .i64 2] Try.func21 Try.results21 ⟨rfl, rfl, trivial⟩ ?_
 have H6 : St W w4 F := (H5.drop 0 rfl)
 exact ⟨rfl, H6⟩
set_option maxHeartbeats 4000000 in
set_option maxRecDepth 100000 in
theorem LN_Take_zero {W w : World} {F : List Atom} (z : Nat)  {i : Nat} (hi : F[i]? = some (blk z (.cells #[.int .i64 0, .int .i64 0, .int .i64 0, .slice none 0 0, .int .i64 0, .int .i64 0, .map none, .int .i64 0, .bool false] 62 (0, 0)))) (H : St W w F) : Calls Try.prog 21 #[.pointer (some ⟨z, 0, none⟩), .agg #[.int .i64 0, .int .i64 1, .int .i64 2, .int .i64 0, .int .i64 0, .slice none 0 0]] w (Ret fun v w' => v = .tuple #[.slice none 0 0, .int .i64 2] ∧ St W w' F) := by
 have H0 := H.front hi
 refine calls_of_go (n := 158) Try.func21 rfl Try.ntmps21 rfl ?_
 refine g_seq ?_
 refine g_region ?_
 refine r_cons (s_box H0 41 (.agg #[.int .i64 0, .int .i64 1, .int .i64 2, .int .i64 0, .int .i64 0, .slice none 0 0]) rfl (cs := #[.int .i64 0, .int .i64 1, .int .i64 2, .int .i64 0, .int .i64 0, .slice none 0 0]) rfl rfl ?_); intro bk1 w2 H3
 refine r_cons (s_assign (.slice none 0 0) rfl rfl ?_)
 refine r_cons (s_assign (.int .i64 0) rfl rfl ?_)
 refine r_nil ?_
 refine g_seq ?_
 refine g_seq ?_
 refine g_region ?_
 refine r_cons (s_move (.pointer (some ⟨z, 0, none⟩)) rfl rfl ?_)
 refine r_cons (s_call [.pointer (some ⟨z, 0, none⟩)] pl_31 rfl rfl (LN_none_zero z  (i := 1) rfl H3) ?_)
 rintro _ w4 ⟨rfl, H5⟩
 refine r_nil ?_
 refine g_true rfl ?_
 refine g_seq ?_
 refine g_region ?_
 refine r_cons (s_assign (.slice none 0 0) rfl rfl ?_)
 refine r_cons (s_assign (.int .i64 2) rfl rfl ?_)
 refine r_nil ?_
 refine g_ret' [.slice none 0 0, .int .i64 2] Try.func21 Try.results21 ⟨rfl, rfl, trivial⟩ ?_
 have H6 : St W w4 (blk z (.cells #[.int .i64 0, .int .i64 0, .int .i64 0, .slice none 0 0, .int .i64 0, .int .i64 0, .map none, .int .i64 0, .bool false] 62 (0, 0)) :: (F.set i emp)) := ((H5.move 1 rfl).drop 1 rfl)
 exact ⟨rfl, St.back_same hi H6⟩
set_option maxHeartbeats 4000000 in
set_option maxRecDepth 100000 in
theorem LN_Way_nil {W w : World} {F : List Atom}  (H : St W w F) : Calls Try.prog 26 #[.pointer none] w (Ret fun v w' => v = .agg #[.int .i64 0, .int .i64 0] ∧ St W w' F) := by
 refine calls_of_go (n := 10) Try.func26 rfl Try.ntmps26 rfl ?_
 refine g_seq ?_
 refine g_region ?_
 refine r_cons (s_alloc H 46 ze_46 rfl ?_); intro bk1 w2 H3
 refine r_nil ?_
 refine g_seq ?_
 refine g_seq ?_
 refine g_region ?_
 refine r_cons (s_move (.pointer none) rfl rfl ?_)
 refine r_cons (s_peql true un_30 rfl rfl rfl rfl ?_)
 refine r_nil ?_
 refine g_true rfl ?_
 refine g_seq ?_
 refine g_region ?_
 refine r_cons (s_build (cs := #[.int .i64 0, .int .i64 0]) (by kernel_rfl) rfl ?_)
 refine r_cons (s_storeAgg H3 0 #[.int .i64 0, .int .i64 0] 2 rfl rfl rfl sz_46 rfl (by simp [Value.oneCell']) (nbl rfl) (fun o h1 h2 => by first | (simp; done) | (simp; omega)) (cs' := #[.int .i64 0, .int .i64 0]) rfl ?_); intro w4 H5
 refine r_nil ?_
 refine g_ret' [.agg #[.int .i64 0, .int .i64 0]] Try.func26 Try.results26 ⟨(res_cellN rfl ag_46 (H5.blk_at (i := 0) rfl) (nbl rfl) rfl), trivial⟩ ?_
 have H6 : St W w4 F := (H5.drop 0 rfl)
 exact ⟨rfl, H6⟩
set_option maxHeartbeats 4000000 in
set_option maxRecDepth 100000 in
theorem LN_Way_zero {W w : World} {F : List Atom} (z : Nat)  {i : Nat} (hi : F[i]? = some (blk z (.cells #[.int .i64 0, .int .i64 0, .int .i64 0, .slice none 0 0, .int .i64 0, .int .i64 0, .map none, .int .i64 0, .bool false] 62 (0, 0)))) (H : St W w F) : Calls Try.prog 26 #[.pointer (some ⟨z, 0, none⟩)] w (Ret fun v w' => v = .agg #[.int .i64 0, .int .i64 0] ∧ St W w' F) := by
 have H0 := H.front hi
 refine calls_of_go (n := 10) Try.func26 rfl Try.ntmps26 rfl ?_
 refine g_seq ?_
 refine g_region ?_
 refine r_cons (s_alloc H0 46 ze_46 rfl ?_); intro bk1 w2 H3
 refine r_nil ?_
 refine g_seq ?_
 refine g_seq ?_
 refine g_region ?_
 refine r_cons (s_move (.pointer (some ⟨z, 0, none⟩)) rfl rfl ?_)
 refine r_cons (s_peql false un_30 rfl rfl rfl rfl ?_)
 refine r_nil ?_
 refine g_false rfl ?_
 refine g_skip ?_
 refine g_seq ?_
 refine g_region ?_
 refine r_cons (s_move (.pointer (some ⟨z, 0, none⟩)) rfl rfl ?_)
 refine r_cons (s_nilCheck (.pointer (some ⟨z, 0, none⟩)) rfl ⟨_, rfl⟩ rfl ?_)
 refine r_cons (s_fieldAddr 62 0 0 0 46 rfl fi_62_0 rfl rfl ?_)
 refine r_cons (s_loadAgg [.int .i64 0, .int .i64 0] 2 ag_46 rfl (H3.blk_at (i := 1) rfl) (nbl rfl) rfl rfl ?_)
 refine r_cons (s_storeAgg H3 0 #[.int .i64 0, .int .i64 0] 2 rfl rfl rfl sz_46 rfl (by simp [Value.oneCell']) (nbl rfl) (fun o h1 h2 => by first | (simp; done) | (simp; omega)) (cs' := #[.int .i64 0, .int .i64 0]) rfl ?_); intro w4 H5
 refine r_nil ?_
 refine g_ret' [.agg #[.int .i64 0, .int .i64 0]] Try.func26 Try.results26 ⟨(res_cellN rfl ag_46 (H5.blk_at (i := 0) rfl) (nbl rfl) rfl), trivial⟩ ?_
 have H6 : St W w4 (blk z (.cells #[.int .i64 0, .int .i64 0, .int .i64 0, .slice none 0 0, .int .i64 0, .int .i64 0, .map none, .int .i64 0, .bool false] 62 (0, 0)) :: (F.set i emp)) := ((H5.move 1 rfl).drop 1 rfl)
 exact ⟨rfl, St.back_same hi H6⟩
set_option maxHeartbeats 4000000 in
set_option maxRecDepth 100000 in
theorem LN_Clone_nil {W w : World} {F : List Atom}  (H : St W w F) : Calls Try.prog 27 #[.pointer none] w (Ret fun v w' => v = .pointer none ∧ St W w' F) := by
 refine calls_of_go (n := 34) Try.func27 rfl Try.ntmps27 rfl ?_
 refine g_seq ?_
 refine g_region ?_
 refine r_cons (s_assign (.pointer none) rfl rfl ?_)
 refine r_nil ?_
 refine g_seq ?_
 refine g_seq ?_
 refine g_region ?_
 refine r_cons (s_move (.pointer none) rfl rfl ?_)
 refine r_cons (s_call [.pointer none] pl_31 rfl rfl (LN_none_nil  H) ?_)
 rintro _ w1 ⟨rfl, H2⟩
 refine r_nil ?_
 refine g_true rfl ?_
 refine g_seq ?_
 refine g_region ?_
 refine r_cons (s_assign (.pointer none) rfl rfl ?_)
 refine r_nil ?_
 refine g_ret' [.pointer none] Try.func27 Try.results27 ⟨rfl, trivial⟩ ?_
 have H3 : St W w1 F := H2
 exact ⟨rfl, H3⟩
set_option maxHeartbeats 4000000 in
set_option maxRecDepth 100000 in
theorem LN_Clone_zero {W w : World} {F : List Atom} (z : Nat)  {i : Nat} (hi : F[i]? = some (blk z (.cells #[.int .i64 0, .int .i64 0, .int .i64 0, .slice none 0 0, .int .i64 0, .int .i64 0, .map none, .int .i64 0, .bool false] 62 (0, 0)))) (H : St W w F) : Calls Try.prog 27 #[.pointer (some ⟨z, 0, none⟩)] w (Ret fun v w' => v = .pointer none ∧ St W w' F) := by
 have H0 := H.front hi
 refine calls_of_go (n := 34) Try.func27 rfl Try.ntmps27 rfl ?_
 refine g_seq ?_
 refine g_region ?_
 refine r_cons (s_assign (.pointer none) rfl rfl ?_)
 refine r_nil ?_
 refine g_seq ?_
 refine g_seq ?_
 refine g_region ?_
 refine r_cons (s_move (.pointer (some ⟨z, 0, none⟩)) rfl rfl ?_)
 refine r_cons (s_call [.pointer (some ⟨z, 0, none⟩)] pl_31 rfl rfl (LN_none_zero z  (i := 0) rfl H0) ?_)
 rintro _ w1 ⟨rfl, H2⟩
 refine r_nil ?_
 refine g_true rfl ?_
 refine g_seq ?_
 refine g_region ?_
 refine r_cons (s_assign (.pointer none) rfl rfl ?_)
 refine r_nil ?_
 refine g_ret' [.pointer none] Try.func27 Try.results27 ⟨rfl, trivial⟩ ?_
 have H3 : St W w1 (blk z (.cells #[.int .i64 0, .int .i64 0, .int .i64 0, .slice none 0 0, .int .i64 0, .int .i64 0, .map none, .int .i64 0, .bool false] 62 (0, 0)) :: (F.set i emp)) := H2
 exact ⟨rfl, St.back_same hi H3⟩
set_option maxHeartbeats 4000000 in
set_option maxRecDepth 100000 in
theorem LkHeld_nil {W w : World} {F : List Atom} (g l : Nat) {i : Nat} (hi : F[i]? = some (blk g (.cells #[.pointer none] 30 (0, 0)))) (H : St W w F) : Calls Try.prog 50 #[.func (.yield l) #[] #[], .pointer (some ⟨g, 0, none⟩)] w (Ret fun v w' => St W w' F) := by
 have H0 := H.front hi
 refine calls_of_go (n := 30) Try.func50 rfl Try.ntmps50 rfl ?_
 refine g_seq ?_
 refine g_seq ?_
 refine g_region ?_
 refine r_cons (s_load (.pointer none) ag_30 rfl (H0.blk_at (i := 0) rfl) rfl rfl ?_)
 refine r_cons (s_call [.pointer none] pl_31 rfl rfl (LN_none_nil  H0) ?_)
 rintro _ w1 ⟨rfl, H2⟩
 refine r_nil ?_
 refine g_true rfl ?_
 refine g_ret' [] Try.func50 Try.results50 trivial ?_
 have H3 : St W w1 (blk g (.cells #[.pointer none] 30 (0, 0)) :: (F.set i emp)) := H2
 exact St.back_same hi H3
set_option maxHeartbeats 4000000 in
set_option maxRecDepth 100000 in
theorem LkHeld_zero {W w : World} {F : List Atom} (g l z : Nat) {i j : Nat} (hi : F[i]? = some (blk g (.cells #[.pointer (some ⟨z, 0, none⟩)] 30 (0, 0)))) (hj : (F.set i emp)[j]? = some (blk z (.cells #[.int .i64 0, .int .i64 0, .int .i64 0, .slice none 0 0, .int .i64 0, .int .i64 0, .map none, .int .i64 0, .bool false] 62 (0, 0)))) (H : St W w F) : Calls Try.prog 50 #[.func (.yield l) #[] #[], .pointer (some ⟨g, 0, none⟩)] w (Ret fun v w' => St W w' F) := by
 have H0 := (H.front hi).front (i := j + 1) (by exact hj)
 refine calls_of_go (n := 30) Try.func50 rfl Try.ntmps50 rfl ?_
 refine g_seq ?_
 refine g_seq ?_
 refine g_region ?_
 refine r_cons (s_load (.pointer (some ⟨z, 0, none⟩)) ag_30 rfl (H0.blk_at (i := 1) rfl) rfl rfl ?_)
 refine r_cons (s_call [.pointer (some ⟨z, 0, none⟩)] pl_31 rfl rfl (LN_none_zero z  (i := 0) rfl H0) ?_)
 rintro _ w1 ⟨rfl, H2⟩
 refine r_nil ?_
 refine g_true rfl ?_
 refine g_ret' [] Try.func50 Try.results50 trivial ?_
 have H3 : St W w1 (blk z (.cells #[.int .i64 0, .int .i64 0, .int .i64 0, .slice none 0 0, .int .i64 0, .int .i64 0, .map none, .int .i64 0, .bool false] 62 (0, 0)) :: blk g (.cells #[.pointer (some ⟨z, 0, none⟩)] 30 (0, 0)) :: ((F.set i emp).set j emp)) := ((H2.move 1 rfl).move 1 rfl)
 have H4 := St.back_same (i := j + 1) (show (blk g (.cells #[.pointer (some ⟨z, 0, none⟩)] 30 (0, 0)) :: F.set i emp)[j + 1]? = _ from hj) H3
 exact St.back_same hi H4
set_option maxHeartbeats 4000000 in
set_option maxRecDepth 100000 in
theorem Rf_Clone {W w : World} {F : List Atom} (g : Nat) (s : EndV) (hv : LInv s)  {i : Nat} (hi : F[i]? = some (RfA g s)) (H : St W w F) : Calls Try.prog 30 #[.pointer (some ⟨g, 0, none⟩)] w (Ret fun v w' => ∃ o, v = .pointer (some ⟨o, 0, none⟩) ∧ St W w' (RfA o s :: F)) := by
 have H0 := H.front hi
 obtain ⟨o1, o2, o3, o4, o5, o6, o8⟩ := id hv.ok; have o7 := i64N_0 (Nat.le_trans o4 (by decide))
 have hhN := hv.heldN
 refine calls_of_go (n := 23) Try.func30 rfl Try.ntmps30 rfl ?_
 refine g_seq ?_
 refine g_region ?_
 refine r_cons (s_assign (.pointer none) rfl rfl ?_)
 refine r_nil ?_
 refine g_seq ?_
 refine g_region ?_
 refine r_cons (s_move (.pointer (some ⟨g, 0, none⟩)) rfl rfl ?_)
 refine r_cons (s_nilCheck (.pointer (some ⟨g, 0, none⟩)) rfl ⟨_, rfl⟩ rfl ?_)
 have H1 := H0.move 0 rfl
 obtain ⟨⟨⟨pp2, cc3, L4, pp5, cc6, E7, A8⟩, hL9, hA10, hH11⟩, H12⟩ := St.open_ex H1
 have H13 := St.open_star H12
 change L4.map BodD.v = A8 ++ s.l at hL9; change A8.length = s.acked at hA10; change HR s.held (mapB E7) at hH11
 have hl14 := refLen hL9 hA10; have hh15 : E7.length = s.held.length := by have h9 := hH11.len; rw [mapB_len rfl] at h9; exact h9
 have H16 : St W w (blk g (rfC s (.slice pp2 L4.length cc3) (.slice pp5 E7.length cc6)) :: Row 101 3 (.slice pp2 L4.length cc3) L4.length (L4.flatMap bodCell) :: byA (L4.map BodD.by) :: Row 105 2 (.slice pp5 E7.length cc6) E7.length (E7.flatMap hlCell) :: byA (mby E7) :: (F.set i emp)) := H13
 refine r_cons (s_loadAgg [.int .i64 s.frm.v, .int .i64 s.to_.v, .int .i64 (s.slide : Int), .slice pp2 L4.length cc3, .int .i64 (s.acked : Int), .int .i64 ((i64N s.came).v), .slice pp5 E7.length cc6, .int .i64 (s.clock : Int), .bool s.owes] 9 ag_86 rfl (H16.blk_at (i := 0) rfl) (nbl rfl) rfl rfl ?_)
 refine r_cons (s_alloc H16 86 ze_86 rfl ?_); intro bk17 w18 H19
 refine r_cons (s_storeAgg H19 0 #[.int .i64 s.frm.v, .int .i64 s.to_.v, .int .i64 (s.slide : Int), .slice pp2 L4.length cc3, .int .i64 (s.acked : Int), .int .i64 ((i64N s.came).v), .slice pp5 E7.length cc6, .int .i64 (s.clock : Int), .bool s.owes] 9 rfl rfl rfl sz_86 rfl (by simp [Value.oneCell']) (nbl rfl) (fun o h1 h2 => by first | (simp; done) | (simp; omega)) (cs' := #[.int .i64 s.frm.v, .int .i64 s.to_.v, .int .i64 (s.slide : Int), .slice pp2 L4.length cc3, .int .i64 (s.acked : Int), .int .i64 ((i64N s.came).v), .slice pp5 E7.length cc6, .int .i64 (s.clock : Int), .bool s.owes]) (by kernel_rfl) ?_); intro w20 H21
 refine r_nil ?_
 refine g_seq ?_
 refine g_region ?_
 refine r_cons (s_assign (.slice none 0 0) rfl rfl ?_)
 refine r_nil ?_
 refine g_seq ?_
 refine g_region ?_
 refine r_cons (s_assign (.slice none 0 0) rfl rfl ?_)
 refine r_nil ?_
 refine g_seq ?_
 have H22 : St W w20 (blk g (rfC s (.slice pp2 L4.length cc3) (.slice pp5 E7.length cc6)) :: Row 101 3 (.slice pp2 L4.length cc3) L4.length (L4.flatMap bodCell) :: byA (L4.map BodD.by) :: Row 105 2 (.slice pp5 E7.length cc6) E7.length (E7.flatMap hlCell) :: byA (mby E7) :: blk bk17 (rfC s (.slice pp2 L4.length cc3) (.slice pp5 E7.length cc6)) :: (F.set i emp)) := (((((H21.move 5 rfl).move 5 rfl).move 5 rfl).move 5 rfl).move 5 rfl)
 refine g_mix (fun t_ w => St W w (blk g (rfC s (.slice pp2 L4.length cc3) (.slice pp5 E7.length cc6)) :: Row 101 3 (.slice pp2 L4.length cc3) L4.length (L4.flatMap bodCell) :: byA (L4.map BodD.by) :: Row 105 2 (.slice pp5 E7.length cc6) E7.length (E7.flatMap hlCell) :: byA (mby E7) :: t_)) (blk bk17 (rfC s (.slice pp2 L4.length cc3) (.slice pp5 E7.length cc6)) :: (F.set i emp)) mixed 16 rfl H22.drew ?_
 refine f_first 0 (listed' := #[true, false, false, false, false, false, false, false, false, false, false, false, false, false, false, false]) rfl (by kernel_rfl) (by kernel_rfl) (by kernel_rfl) rfl ?_
 refine f_val rfl rfl rfl (by intro _ w _; exact x_move (.slice none 0 0) rfl w) ?_
 refine f_first 1 (listed' := #[true, true, false, false, false, false, false, false, false, false, false, false, false, false, false, false]) rfl (by kernel_rfl) (by kernel_rfl) (by kernel_rfl) rfl ?_
 refine f_val rfl rfl rfl (by intro _ w _; exact x_move (.pointer (some ⟨g, 0, none⟩)) rfl w) ?_
 refine f_first 2 (listed' := #[true, true, true, false, false, false, false, false, false, false, false, false, false, false, false, false]) rfl (by kernel_rfl) (by kernel_rfl) (by kernel_rfl) rfl ?_
 refine f_val rfl rfl rfl (by intro t_ w hw; exact x_nilCheck (.pointer (some ⟨g, 0, none⟩)) rfl ⟨_, rfl⟩ w) ?_
 refine f_first 3 (listed' := #[true, true, true, true, false, false, false, false, false, false, false, false, false, false, false, false]) rfl (by kernel_rfl) (by kernel_rfl) (by kernel_rfl) rfl ?_
 refine f_val rfl rfl rfl (by intro t_ w hw; exact x_fieldAddr 86 2 3 3 83 rfl fi_86_2 rfl w) ?_
 refine f_first 4 (listed' := #[true, true, true, true, true, false, false, false, false, false, false, false, false, false, false, false]) rfl (by kernel_rfl) (by kernel_rfl) (by kernel_rfl) rfl ?_
 refine f_val rfl rfl rfl (by intro t_ w hw; exact x_load (.slice pp2 L4.length cc3) ag_83 rfl (hw.blk_at (i := 0) rfl) rfl) ?_
 refine f_first 6 (listed' := #[true, true, true, true, true, false, true, false, false, false, false, false, false, false, false, false]) rfl (by kernel_rfl) (by kernel_rfl) (by kernel_rfl) rfl ?_
 refine f_val rfl rfl rfl (by intro _ w _; exact x_move (.slice none 0 0) rfl w) ?_
 refine f_first 7 (listed' := #[true, true, true, true, true, false, true, true, false, false, false, false, false, false, false, false]) rfl (by kernel_rfl) (by kernel_rfl) (by kernel_rfl) rfl ?_
 refine f_val rfl rfl rfl (by intro _ w _; exact x_move (.pointer (some ⟨g, 0, none⟩)) rfl w) ?_
 refine f_first 8 (listed' := #[true, true, true, true, true, false, true, true, true, false, false, false, false, false, false, false]) rfl (by kernel_rfl) (by kernel_rfl) (by kernel_rfl) rfl ?_
 refine f_val rfl rfl rfl (by intro t_ w hw; exact x_nilCheck (.pointer (some ⟨g, 0, none⟩)) rfl ⟨_, rfl⟩ w) ?_
 refine f_first 9 (listed' := #[true, true, true, true, true, false, true, true, true, true, false, false, false, false, false, false]) rfl (by kernel_rfl) (by kernel_rfl) (by kernel_rfl) rfl ?_
 refine f_val rfl rfl rfl (by intro t_ w hw; exact x_fieldAddr 86 5 6 6 84 rfl fi_86_5 rfl w) ?_
 refine f_first 10 (listed' := #[true, true, true, true, true, false, true, true, true, true, true, false, false, false, false, false]) rfl (by kernel_rfl) (by kernel_rfl) (by kernel_rfl) rfl ?_
 refine f_val rfl rfl rfl (by intro t_ w hw; exact x_load (.slice pp5 E7.length cc6) ag_84 rfl (hw.blk_at (i := 0) rfl) rfl) ?_
 refine f_all (rs := [5]) (by kernel_rfl) (by simp) ?_
 refine a_cons ⟨_, rfl, ?_⟩ (fun x hx => absurd hx (by simp))
 intro w23 H24
 try dsimp only at H24
 have H25 := Row.nil_intro H24 101 3
 refine s_append H25 0 rfl rfl rfl (Row.rd H25 (i := 2) rfl) ap_83 (by decide) (by unfold maxLen; omega) (by omega) (n' := L4.length) (xs' := L4.flatMap bodCell) (by omega) (by first | rfl | simp) rfl ?_; intro vv26 w27 H28 hn29
 obtain ⟨pp30, cc31, rfl⟩ := Row.slice H28 (i := 0) rfl
 have H32 : St W w27 (blk g (rfC s (.slice pp2 L4.length cc3) (.slice pp5 E7.length cc6)) :: Row 101 3 (.slice pp2 L4.length cc3) L4.length (L4.flatMap bodCell) :: byA (L4.map BodD.by) :: Row 105 2 (.slice pp5 E7.length cc6) E7.length (E7.flatMap hlCell) :: byA (mby E7) :: Row 101 3 (.slice pp30 L4.length cc31) L4.length (L4.flatMap bodCell) :: blk bk17 (rfC s (.slice pp2 L4.length cc3) (.slice pp5 E7.length cc6)) :: (F.set i emp)) := (((((((H28.move 6 rfl).move 1 rfl).move 6 rfl).move 6 rfl).move 6 rfl).move 6 rfl).move 6 rfl)
 refine ⟨Row 101 3 (.slice pp30 L4.length cc31) L4.length (L4.flatMap bodCell) :: blk bk17 (rfC s (.slice pp2 L4.length cc3) (.slice pp5 E7.length cc6)) :: (F.set i emp), ?_, H32⟩
 change FReg _ _ _ _ _ #[true, true, true, true, true, true, true, true, true, true, true, false, false, false, false, false] _ _
 refine f_all (rs := [11]) (by kernel_rfl) (by simp) ?_
 refine a_cons ⟨_, rfl, ?_⟩ (fun x hx => absurd hx (by simp))
 intro w33 H34
 try dsimp only at H34
 have H35 := Row.nil_intro H34 105 2
 refine s_append H35 0 rfl rfl rfl (Row.rd H35 (i := 4) rfl) ap_84 (by decide) (by unfold maxLen; omega) (by omega) (n' := E7.length) (xs' := E7.flatMap hlCell) (by omega) (by first | rfl | simp) rfl ?_; intro vv36 w37 H38 hn39
 obtain ⟨pp40, cc41, rfl⟩ := Row.slice H38 (i := 0) rfl
 have H42 : St W w37 (blk g (rfC s (.slice pp2 L4.length cc3) (.slice pp5 E7.length cc6)) :: Row 101 3 (.slice pp2 L4.length cc3) L4.length (L4.flatMap bodCell) :: byA (L4.map BodD.by) :: Row 105 2 (.slice pp5 E7.length cc6) E7.length (E7.flatMap hlCell) :: byA (mby E7) :: Row 105 2 (.slice pp40 E7.length cc41) E7.length (E7.flatMap hlCell) :: Row 101 3 (.slice pp30 L4.length cc31) L4.length (L4.flatMap bodCell) :: blk bk17 (rfC s (.slice pp2 L4.length cc3) (.slice pp5 E7.length cc6)) :: (F.set i emp)) := ((((((((H38.move 7 rfl).move 7 rfl).move 2 rfl).move 7 rfl).move 7 rfl).move 7 rfl).move 7 rfl).move 7 rfl)
 refine ⟨Row 105 2 (.slice pp40 E7.length cc41) E7.length (E7.flatMap hlCell) :: Row 101 3 (.slice pp30 L4.length cc31) L4.length (L4.flatMap bodCell) :: blk bk17 (rfC s (.slice pp2 L4.length cc3) (.slice pp5 E7.length cc6)) :: (F.set i emp), ?_, H42⟩
 change FReg _ _ _ _ _ #[true, true, true, true, true, true, true, true, true, true, true, true, false, false, false, false] _ _
 refine f_first 12 (listed' := #[true, true, true, true, true, true, true, true, true, true, true, true, true, false, false, false]) rfl (by kernel_rfl) (by kernel_rfl) (by kernel_rfl) rfl ?_
 refine f_val rfl rfl rfl (by intro t_ w hw; exact x_fieldAddr 86 2 3 3 83 rfl fi_86_2 rfl w) ?_
 refine f_all (rs := [13]) (by kernel_rfl) (by simp) ?_
 refine a_cons ⟨_, rfl, ?_⟩ (fun x hx => absurd hx (by simp))
 intro w43 H44
 try dsimp only at H44
 refine s_store H44 7 (.slice pp30 L4.length cc31) rfl rfl rfl sz_83 rfl (nbl rfl) rfl (cs' := #[.int .i64 s.frm.v, .int .i64 s.to_.v, .int .i64 (s.slide : Int), .slice pp30 L4.length cc31, .int .i64 (s.acked : Int), .int .i64 ((i64N s.came).v), .slice pp5 E7.length cc6, .int .i64 (s.clock : Int), .bool s.owes]) rfl ?_; intro w45 H46
 refine ⟨Row 105 2 (.slice pp40 E7.length cc41) E7.length (E7.flatMap hlCell) :: Row 101 3 (.slice pp30 L4.length cc31) L4.length (L4.flatMap bodCell) :: blk bk17 (rfC s (.slice pp30 L4.length cc31) (.slice pp5 E7.length cc6)) :: (F.set i emp), ?_, H46⟩
 change FReg _ _ _ _ _ #[true, true, true, true, true, true, true, true, true, true, true, true, true, true, false, false] _ _
 refine f_first 14 (listed' := #[true, true, true, true, true, true, true, true, true, true, true, true, true, true, true, false]) rfl (by kernel_rfl) (by kernel_rfl) (by kernel_rfl) rfl ?_
 refine f_val rfl rfl rfl (by intro t_ w hw; exact x_fieldAddr 86 5 6 6 84 rfl fi_86_5 rfl w) ?_
 refine f_all (rs := [15]) (by kernel_rfl) (by simp) ?_
 refine a_cons ⟨_, rfl, ?_⟩ (fun x hx => absurd hx (by simp))
 intro w47 H48
 try dsimp only at H48
 refine s_store H48 7 (.slice pp40 E7.length cc41) rfl rfl rfl sz_84 rfl (nbl rfl) rfl (cs' := #[.int .i64 s.frm.v, .int .i64 s.to_.v, .int .i64 (s.slide : Int), .slice pp30 L4.length cc31, .int .i64 (s.acked : Int), .int .i64 ((i64N s.came).v), .slice pp40 E7.length cc41, .int .i64 (s.clock : Int), .bool s.owes]) rfl ?_; intro w49 H50
 refine ⟨Row 105 2 (.slice pp40 E7.length cc41) E7.length (E7.flatMap hlCell) :: Row 101 3 (.slice pp30 L4.length cc31) L4.length (L4.flatMap bodCell) :: blk bk17 (rfC s (.slice pp30 L4.length cc31) (.slice pp40 E7.length cc41)) :: (F.set i emp), ?_, H50⟩
 change FReg _ _ _ _ _ #[true, true, true, true, true, true, true, true, true, true, true, true, true, true, true, true] _ _
 refine f_done (by kernel_rfl) ?_
 intro w51 H52
 refine g_seq ?_
 refine g_region ?_
 refine r_cons (s_assign (.pointer (some ⟨bk17, 0, none⟩)) rfl rfl ?_)
 refine r_nil ?_
 refine g_ret' [.pointer (some ⟨bk17, 0, none⟩)] Try.func30 Try.results30 ⟨rfl, trivial⟩ ?_
 have H53 : St W w51 (byA (L4.map BodD.by) :: blk g (rfC s (.slice pp2 L4.length cc3) (.slice pp5 E7.length cc6)) :: Row 101 3 (.slice pp2 L4.length cc3) L4.length (L4.flatMap bodCell) :: byA (L4.map BodD.by) :: Row 105 2 (.slice pp5 E7.length cc6) E7.length (E7.flatMap hlCell) :: byA (mby E7) :: Row 105 2 (.slice pp40 E7.length cc41) E7.length (E7.flatMap hlCell) :: Row 101 3 (.slice pp30 L4.length cc31) L4.length (L4.flatMap bodCell) :: blk bk17 (rfC s (.slice pp30 L4.length cc31) (.slice pp40 E7.length cc41)) :: (F.set i emp)) := H52.dup (i := 2) rfl (byA_pers _)
 have H54 : St W w51 (byA (mby E7) :: byA (L4.map BodD.by) :: blk g (rfC s (.slice pp2 L4.length cc3) (.slice pp5 E7.length cc6)) :: Row 101 3 (.slice pp2 L4.length cc3) L4.length (L4.flatMap bodCell) :: byA (L4.map BodD.by) :: Row 105 2 (.slice pp5 E7.length cc6) E7.length (E7.flatMap hlCell) :: byA (mby E7) :: Row 105 2 (.slice pp40 E7.length cc41) E7.length (E7.flatMap hlCell) :: Row 101 3 (.slice pp30 L4.length cc31) L4.length (L4.flatMap bodCell) :: blk bk17 (rfC s (.slice pp30 L4.length cc31) (.slice pp40 E7.length cc41)) :: (F.set i emp)) := H53.dup (i := 5) rfl (byA_pers _)
 have H55 : St W w51 (blk bk17 (rfC s (.slice pp30 L4.length cc31) (.slice pp40 E7.length cc41)) :: Row 101 3 (.slice pp30 L4.length cc31) L4.length (L4.flatMap bodCell) :: byA (L4.map BodD.by) :: Row 105 2 (.slice pp40 E7.length cc41) E7.length (E7.flatMap hlCell) :: byA (mby E7) :: blk g (rfC s (.slice pp2 L4.length cc3) (.slice pp5 E7.length cc6)) :: Row 101 3 (.slice pp2 L4.length cc3) L4.length (L4.flatMap bodCell) :: byA (L4.map BodD.by) :: Row 105 2 (.slice pp5 E7.length cc6) E7.length (E7.flatMap hlCell) :: byA (mby E7) :: (F.set i emp)) := ((((H54.move 7 rfl).move 2 rfl).move 8 rfl).move 9 rfl)
 have H56 : St W w51 (RfA bk17 s :: blk g (rfC s (.slice pp2 L4.length cc3) (.slice pp5 E7.length cc6)) :: Row 101 3 (.slice pp2 L4.length cc3) L4.length (L4.flatMap bodCell) :: byA (L4.map BodD.by) :: Row 105 2 (.slice pp5 E7.length cc6) E7.length (E7.flatMap hlCell) :: byA (mby E7) :: (F.set i emp)) := St.shut_ex ⟨⟨pp30, cc31, L4, pp40, cc41, E7, A8⟩, hL9, hA10, hH11⟩ (St.shut_star (ls := [_, _, _, _, _]) H55)
 have H57 : St W w51 (blk g (rfC s (.slice pp2 L4.length cc3) (.slice pp5 E7.length cc6)) :: Row 101 3 (.slice pp2 L4.length cc3) L4.length (L4.flatMap bodCell) :: byA (L4.map BodD.by) :: Row 105 2 (.slice pp5 E7.length cc6) E7.length (E7.flatMap hlCell) :: byA (mby E7) :: RfA bk17 s :: (F.set i emp)) := (((((H56.move 5 rfl).move 5 rfl).move 5 rfl).move 5 rfl).move 5 rfl)
 have H58 : St W w51 (RfA g s :: RfA bk17 s :: (F.set i emp)) := St.shut_ex ⟨⟨pp2, cc3, L4, pp5, cc6, E7, A8⟩, hL9, hA10, hH11⟩ (St.shut_star (ls := [_, _, _, _, _]) H57)
 have H59 : St W w51 (RfA bk17 s :: RfA g s :: (F.set i emp)) := (H58.move 1 rfl)
 have H60 : St W w51 (RfA g s :: (RfA bk17 s :: F).set (i + 1) emp) := (H59.move 1 rfl)
 exact ⟨bk17, rfl, St.back_same (i := i + 1) (by exact hi) H60⟩
set_option maxHeartbeats 4000000 in
set_option maxRecDepth 100000 in
theorem Lk_Clone {W w : World} {F : List Atom} (g : Nat) (s : EndV) (hv : LInv s) {i : Nat} (hi : F[i]? = some (LkA g s)) (H : St W w F) : Calls Try.prog 27 #[.pointer (some ⟨g, 0, none⟩)] w (Ret fun v w' => ∃ o h2, v = .pointer (some ⟨o, 0, none⟩) ∧ h2.Perm s.held ∧ St W w' (LkA o ({ s with held := h2 } : EndV) :: F)) := by
 have H0 := H.front hi
 have hok := hv.ok
 obtain ⟨o1, o2, o3, o4, o5, o6, o8⟩ := id hok; have o7 := i64N_0 (Nat.le_trans o4 (by decide))
 have hhN := hv.heldN
 refine calls_of_go (n := 34) Try.func27 rfl Try.ntmps27 rfl ?_
 refine g_seq ?_
 refine g_region ?_
 refine r_cons (s_assign (.pointer none) rfl rfl ?_)
 refine r_nil ?_
 refine g_seq ?_
 refine g_seq ?_
 refine g_region ?_
 refine r_cons (s_move (.pointer (some ⟨g, 0, none⟩)) rfl rfl ?_)
 refine r_cons (s_call [.pointer (some ⟨g, 0, none⟩)] pl_31 rfl rfl (Lk_none g s hok (i := 0) rfl H0) ?_)
 rintro _ w1 ⟨rfl, H2⟩
 refine r_nil ?_
 refine g_false rfl ?_
 refine g_skip ?_
 refine g_seq ?_
 refine g_region ?_
 refine r_cons (s_move (.pointer (some ⟨g, 0, none⟩)) rfl rfl ?_)
 refine r_cons (s_nilCheck (.pointer (some ⟨g, 0, none⟩)) rfl ⟨_, rfl⟩ rfl ?_)
 have H3 := H2.move 0 rfl
 obtain ⟨⟨⟨m4, pp5, cc6, L7, E8⟩, hL9, hE10⟩, H11⟩ := St.open_ex H3
 have H12 := St.open_star H11
 change L7.map BodD.v = s.l at hL9; change mapB E8 = s.held at hE10
 have hl13 := lenOf hL9; have he14 := mapB_len hE10
 have H15 : St W w1 (blk g (lkC s m4 (.slice pp5 L7.length cc6)) :: Row 79 3 (.slice pp5 L7.length cc6) L7.length (L7.flatMap bodCell) :: byA (L7.map BodD.by) :: MapA m4 (ents (kI .i64) evD E8) :: byA (mby E8) :: (F.set i emp)) := H12
 refine r_cons (s_loadAgg [.int .i64 s.frm.v, .int .i64 s.to_.v, .int .i64 (s.slide : Int), .slice pp5 L7.length cc6, .int .i64 (s.acked : Int), .int .i64 ((i64N s.came).v), .map (some m4), .int .i64 (s.clock : Int), .bool s.owes] 9 ag_62 rfl (H15.blk_at (i := 0) rfl) (nbl rfl) rfl rfl ?_)
 refine r_cons (s_alloc H15 62 ze_62 rfl ?_); intro bk16 w17 H18
 refine r_cons (s_storeAgg H18 0 #[.int .i64 s.frm.v, .int .i64 s.to_.v, .int .i64 (s.slide : Int), .slice pp5 L7.length cc6, .int .i64 (s.acked : Int), .int .i64 ((i64N s.came).v), .map (some m4), .int .i64 (s.clock : Int), .bool s.owes] 9 rfl rfl rfl sz_62 rfl (by simp [Value.oneCell']) (nbl rfl) (fun o h1 h2 => by first | (simp; done) | (simp; omega)) (cs' := #[.int .i64 s.frm.v, .int .i64 s.to_.v, .int .i64 (s.slide : Int), .slice pp5 L7.length cc6, .int .i64 (s.acked : Int), .int .i64 ((i64N s.came).v), .map (some m4), .int .i64 (s.clock : Int), .bool s.owes]) (by kernel_rfl) ?_); intro w19 H20
 refine r_nil ?_
 refine g_seq ?_
 refine g_region ?_
 refine r_cons (s_move (.pointer (some ⟨g, 0, none⟩)) rfl rfl ?_)
 refine r_cons (s_nilCheck (.pointer (some ⟨g, 0, none⟩)) rfl ⟨_, rfl⟩ rfl ?_)
 refine r_cons (s_fieldAddr 62 2 3 3 59 rfl fi_62_2 rfl rfl ?_)
 refine r_cons (s_load (.slice pp5 L7.length cc6) ag_59 rfl (H20.blk_at (i := 1) rfl) rfl rfl ?_)
 refine r_cons (s_call [.slice pp5 L7.length cc6] pl_47 rfl rfl (clone_bodies _ _ L7.length (L7.flatMap bodCell) RdA.row (by omega) (j := 2) rfl H20) ?_)
 rintro _ w23 ⟨pp21, cc22, rfl, H24⟩
 refine r_cons (s_makeMap H24 rfl ?_); intro mp25 w26 H27
 have H28 : St W w26 (MapA mp25 (ents (kI .i64) evD ([] : List (I64 × BytesD))) :: Row 79 3 (.slice pp21 L7.length cc22) L7.length (L7.flatMap bodCell) :: blk bk16 (lkC s m4 (.slice pp5 L7.length cc6)) :: blk g (lkC s m4 (.slice pp5 L7.length cc6)) :: Row 79 3 (.slice pp5 L7.length cc6) L7.length (L7.flatMap bodCell) :: byA (L7.map BodD.by) :: MapA m4 (ents (kI .i64) evD E8) :: byA (mby E8) :: (F.set i emp)) := H27
 refine r_cons (s_fieldAddr 62 2 3 3 59 rfl fi_62_2 rfl rfl ?_)
 refine r_cons (s_store H28 2 (.slice pp21 L7.length cc22) rfl rfl rfl sz_59 rfl (nbl rfl) rfl (cs' := #[.int .i64 s.frm.v, .int .i64 s.to_.v, .int .i64 (s.slide : Int), .slice pp21 L7.length cc22, .int .i64 (s.acked : Int), .int .i64 ((i64N s.came).v), .map (some m4), .int .i64 (s.clock : Int), .bool s.owes]) rfl ?_); intro w29 H30
 refine r_cons (s_fieldAddr 62 5 6 6 60 rfl fi_62_5 rfl rfl ?_)
 refine r_cons (s_store H30 2 (.map (some mp25)) rfl rfl rfl sz_60 rfl (nbl rfl) rfl (cs' := #[.int .i64 s.frm.v, .int .i64 s.to_.v, .int .i64 (s.slide : Int), .slice pp21 L7.length cc22, .int .i64 (s.acked : Int), .int .i64 ((i64N s.came).v), .map (some mp25), .int .i64 (s.clock : Int), .bool s.owes]) rfl ?_); intro w31 H32
 refine r_nil ?_
 refine g_seq ?_
 refine g_seq ?_
 refine g_region ?_
 refine r_cons (s_move (.pointer (some ⟨g, 0, none⟩)) rfl rfl ?_)
 refine r_cons (s_nilCheck (.pointer (some ⟨g, 0, none⟩)) rfl ⟨_, rfl⟩ rfl ?_)
 refine r_cons (s_fieldAddr 62 5 6 6 60 rfl fi_62_5 rfl rfl ?_)
 refine r_cons (s_load (.map (some m4)) ag_60 rfl (H32.blk_at (i := 3) rfl) rfl rfl ?_)
 refine r_cons (s_range H32 6 rfl un_60 rfl rfl ?_); intro it33 w34 H35
 have H36 : St W w34 (MapIt it33 m4 (ents (kI .i64) evD E8) (ents (kI .i64) evD E8) none :: MapA mp25 (ents (kI .i64) evD ([] : List (I64 × BytesD))) :: Row 79 3 (.slice pp21 L7.length cc22) L7.length (L7.flatMap bodCell) :: blk bk16 (lkC s mp25 (.slice pp21 L7.length cc22)) :: blk g (lkC s m4 (.slice pp5 L7.length cc6)) :: Row 79 3 (.slice pp5 L7.length cc6) L7.length (L7.flatMap bodCell) :: byA (L7.map BodD.by) :: byA (mby E8) :: (F.set i emp)) := H35.drop 7 rfl
 refine r_nil ?_
 refine g_block ?_
 have H37 := byA_nil H36
 have hnd : ((mapB E8).map (·.1)).Nodup := by rw [hE10]; exact hv.nd
 refine g_loop_inv (fun (x_ : (List (I64 × BytesD)) × (List (I64 × BytesD)) × (List (I64 × BytesD)) × (Option (Value × Value))) => match x_ with | (pre, rest, M, last) => [(2, .pointer none), (3, .pointer (some ⟨bk16, 0, none⟩)), (23, .pointer (some ⟨it33, 0, none⟩))]) (fun (x_ : (List (I64 × BytesD)) × (List (I64 × BytesD)) × (List (I64 × BytesD)) × (Option (Value × Value))) w => match x_ with | (pre, rest, M, last) => ((pre ++ rest).Perm E8) ∧ (mapB M = mapB pre) ∧ St W w (byA (mby M) :: MapIt it33 m4 (ents (kI .i64) evD E8) (ents (kI .i64) evD rest) last :: MapA mp25 (ents (kI .i64) evD M) :: Row 79 3 (.slice pp21 L7.length cc22) L7.length (L7.flatMap bodCell) :: blk bk16 (lkC s mp25 (.slice pp21 L7.length cc22)) :: blk g (lkC s m4 (.slice pp5 L7.length cc6)) :: Row 79 3 (.slice pp5 L7.length cc6) L7.length (L7.flatMap bodCell) :: byA (L7.map BodD.by) :: byA (mby E8) :: (F.set i emp))) (fun (x_ : (List (I64 × BytesD)) × (List (I64 × BytesD)) × (List (I64 × BytesD)) × (Option (Value × Value))) => match x_ with | (pre, rest, M, last) => rest.length) ([], E8, [], none) ?_ ?_ ?_
 ·exact ⟨by first | rfl | exact vint (by omega), by first | rfl | exact vint (by omega), by first | rfl | exact vint (by omega), trivial⟩
 ·exact ⟨(List.Perm.refl _), rfl, H37⟩
 ·rintro ⟨pre, rest, M, last⟩ ρ38 w39 ⟨hperm, hM, H40⟩ nx41
  change Ends _ _ (upds ρ38 [(2, .pointer none), (3, .pointer (some ⟨bk16, 0, none⟩)), (23, .pointer (some ⟨it33, 0, none⟩))]) w39
  refine g_seq ?_
  refine g_region ?_
  refine r_cons (s_nextT (ek := (kI .i64)) (ev := evD) (rest := rest) H40 1 rfl rfl rfl ?_ ?_)
  ·intro h042
   refine r_cons (s_extract (.bool false) #[.bool false] rfl rfl rfl ?_)
   refine r_nil ?_
   refine g_seq ?_
   refine g_false rfl ?_
   refine g_exit (by rfl) ?_
   refine g_seq ?_
   refine g_region ?_
   refine r_cons (s_assign (.pointer (some ⟨bk16, 0, none⟩)) rfl rfl ?_)
   refine r_nil ?_
   refine g_ret' [.pointer (some ⟨bk16, 0, none⟩)] Try.func27 Try.results27 ⟨rfl, trivial⟩ ?_
   have H48 : St W w39 (byA (mby M) :: MapA m4 (ents (kI .i64) evD E8) :: MapA mp25 (ents (kI .i64) evD M) :: Row 79 3 (.slice pp21 L7.length cc22) L7.length (L7.flatMap bodCell) :: blk bk16 (lkC s mp25 (.slice pp21 L7.length cc22)) :: blk g (lkC s m4 (.slice pp5 L7.length cc6)) :: Row 79 3 (.slice pp5 L7.length cc6) L7.length (L7.flatMap bodCell) :: byA (L7.map BodD.by) :: byA (mby E8) :: (F.set i emp)) := MapIt.shut H40 (i := 1) rfl
   have hpm := clone_end hE10 h042 hperm hM
   have H49 : St W w39 (byA (L7.map BodD.by) :: byA (mby M) :: MapA m4 (ents (kI .i64) evD E8) :: MapA mp25 (ents (kI .i64) evD M) :: Row 79 3 (.slice pp21 L7.length cc22) L7.length (L7.flatMap bodCell) :: blk bk16 (lkC s mp25 (.slice pp21 L7.length cc22)) :: blk g (lkC s m4 (.slice pp5 L7.length cc6)) :: Row 79 3 (.slice pp5 L7.length cc6) L7.length (L7.flatMap bodCell) :: byA (L7.map BodD.by) :: byA (mby E8) :: (F.set i emp)) := H48.dup (i := 7) rfl (byA_pers _)
   have H50 : St W w39 (blk bk16 (lkC s mp25 (.slice pp21 L7.length cc22)) :: Row 79 3 (.slice pp21 L7.length cc22) L7.length (L7.flatMap bodCell) :: byA (L7.map BodD.by) :: MapA mp25 (ents (kI .i64) evD M) :: byA (mby M) :: MapA m4 (ents (kI .i64) evD E8) :: blk g (lkC s m4 (.slice pp5 L7.length cc6)) :: Row 79 3 (.slice pp5 L7.length cc6) L7.length (L7.flatMap bodCell) :: byA (L7.map BodD.by) :: byA (mby E8) :: (F.set i emp)) := (((((H49.move 1 rfl).move 3 rfl).move 2 rfl).move 4 rfl).move 5 rfl)
   have H51 : St W w39 (LkA bk16 ({ s with held := mapB M } : EndV) :: MapA m4 (ents (kI .i64) evD E8) :: blk g (lkC s m4 (.slice pp5 L7.length cc6)) :: Row 79 3 (.slice pp5 L7.length cc6) L7.length (L7.flatMap bodCell) :: byA (L7.map BodD.by) :: byA (mby E8) :: (F.set i emp)) := St.shut_ex ⟨(mp25, pp21, cc22, L7, M), hL9, rfl⟩ (St.shut_star (ls := [_, _, _, _, _]) H50)
   have H52 : St W w39 (blk g (lkC s m4 (.slice pp5 L7.length cc6)) :: Row 79 3 (.slice pp5 L7.length cc6) L7.length (L7.flatMap bodCell) :: byA (L7.map BodD.by) :: MapA m4 (ents (kI .i64) evD E8) :: byA (mby E8) :: LkA bk16 ({ s with held := mapB M } : EndV) :: (F.set i emp)) := (((((H51.move 5 rfl).move 2 rfl).move 5 rfl).move 5 rfl).move 5 rfl)
   have H53 : St W w39 (LkA g s :: LkA bk16 ({ s with held := mapB M } : EndV) :: (F.set i emp)) := St.shut_ex ⟨(m4, pp5, cc6, L7, E8), hL9, hE10⟩ (St.shut_star (ls := [_, _, _, _, _]) H52)
   have H54 : St W w39 (LkA bk16 ({ s with held := mapB M } : EndV) :: LkA g s :: (F.set i emp)) := (H53.move 1 rfl)
   have H55 : St W w39 (LkA g s :: (LkA bk16 ({ s with held := mapB M } : EndV) :: F).set (i + 1) emp) := (H54.move 1 rfl)
   exact ⟨bk16, _, rfl, hpm, St.back_same (i := i + 1) (by exact hi) H55⟩
  ·intro jn43 en44 w45 hj46 H47
   have H56 : St W w45 (byA (mby M) :: MapIt it33 m4 (ents (kI .i64) evD E8) (ents (kI .i64) evD (rest.eraseIdx jn43)) (some ((kI .i64) en44.1, evD en44.2)) :: MapA mp25 (ents (kI .i64) evD M) :: Row 79 3 (.slice pp21 L7.length cc22) L7.length (L7.flatMap bodCell) :: blk bk16 (lkC s mp25 (.slice pp21 L7.length cc22)) :: blk g (lkC s m4 (.slice pp5 L7.length cc6)) :: Row 79 3 (.slice pp5 L7.length cc6) L7.length (L7.flatMap bodCell) :: byA (L7.map BodD.by) :: byA (mby E8) :: (F.set i emp)) := H47
   refine r_cons (s_extract (.bool true) #[.bool true, .int .i64 en44.1.v, .slice en44.2.p en44.2.data.length en44.2.c] rfl rfl rfl ?_)
   refine r_nil ?_
   refine g_seq ?_
   refine g_true rfl ?_
   refine g_skip ?_
   refine g_block ?_
   refine g_seq ?_
   refine g_region ?_
   refine r_cons (s_entry (.tuple #[.int .i64 en44.1.v, .slice en44.2.p en44.2.data.length en44.2.c]) H56 1 rfl rfl rfl rfl ?_)
   refine r_cons (s_extract (.int .i64 en44.1.v) #[.int .i64 en44.1.v, .slice en44.2.p en44.2.data.length en44.2.c] rfl rfl rfl ?_)
   refine r_cons (s_extract (.slice en44.2.p en44.2.data.length en44.2.c) #[.int .i64 en44.1.v, .slice en44.2.p en44.2.data.length en44.2.c] rfl rfl rfl ?_)
   refine r_cons (s_assign (.int .i64 en44.1.v) rfl rfl ?_)
   refine r_cons (s_assign (.slice en44.2.p en44.2.data.length en44.2.c) rfl rfl ?_)
   refine r_nil ?_
   have H57 : St W w45 (Im 1 (.slice en44.2.p en44.2.data.length en44.2.c) en44.2.data.length (en44.2.data.flatMap u8c) :: byA (mby M) :: MapIt it33 m4 (ents (kI .i64) evD E8) (ents (kI .i64) evD (rest.eraseIdx jn43)) (some ((kI .i64) en44.1, evD en44.2)) :: MapA mp25 (ents (kI .i64) evD M) :: Row 79 3 (.slice pp21 L7.length cc22) L7.length (L7.flatMap bodCell) :: blk bk16 (lkC s mp25 (.slice pp21 L7.length cc22)) :: blk g (lkC s m4 (.slice pp5 L7.length cc6)) :: Row 79 3 (.slice pp5 L7.length cc6) L7.length (L7.flatMap bodCell) :: byA (L7.map BodD.by) :: byA (mby E8) :: (F.set i emp)) := byA_at H56 (i := 8) rfl (clone_mem hperm hj46)
   have hil := clone_sm hv hE10 hperm hj46
   have H58 : St W w45 (Im 1 (.slice en44.2.p en44.2.data.length en44.2.c) en44.2.data.length (en44.2.data.flatMap u8c) :: byA (mby M) :: MapIt it33 m4 (ents (kI .i64) evD E8) (ents (kI .i64) evD (rest.eraseIdx jn43)) (some ((kI .i64) en44.1, evD en44.2)) :: Row 79 3 (.slice pp21 L7.length cc22) L7.length (L7.flatMap bodCell) :: blk bk16 (lkC s mp25 (.slice pp21 L7.length cc22)) :: blk g (lkC s m4 (.slice pp5 L7.length cc6)) :: Row 79 3 (.slice pp5 L7.length cc6) L7.length (L7.flatMap bodCell) :: byA (L7.map BodD.by) :: byA (mby E8) :: MapA mp25 (ents (kI .i64) evD M) :: (F.set i emp)) := ((((((((((H57.move 3 rfl).move 9 rfl).move 9 rfl).move 9 rfl).move 9 rfl).move 9 rfl).move 9 rfl).move 9 rfl).move 9 rfl).move 9 rfl)
   refine g_mix (fun t_ w => St W w (Im 1 (.slice en44.2.p en44.2.data.length en44.2.c) en44.2.data.length (en44.2.data.flatMap u8c) :: byA (mby M) :: MapIt it33 m4 (ents (kI .i64) evD E8) (ents (kI .i64) evD (rest.eraseIdx jn43)) (some ((kI .i64) en44.1, evD en44.2)) :: Row 79 3 (.slice pp21 L7.length cc22) L7.length (L7.flatMap bodCell) :: blk bk16 (lkC s mp25 (.slice pp21 L7.length cc22)) :: blk g (lkC s m4 (.slice pp5 L7.length cc6)) :: Row 79 3 (.slice pp5 L7.length cc6) L7.length (L7.flatMap bodCell) :: byA (L7.map BodD.by) :: byA (mby E8) :: t_)) (MapA mp25 (ents (kI .i64) evD M) :: (F.set i emp)) mixed 6 rfl H58.drew ?_
   refine f_first 0 (listed' := #[true, false, false, false, false, false]) rfl (by kernel_rfl) (by kernel_rfl) (by kernel_rfl) rfl ?_
   refine f_val rfl rfl rfl (by intro t_ w hw; exact x_fieldAddr 62 5 6 6 60 rfl fi_62_5 rfl w) ?_
   refine f_first 1 (listed' := #[true, true, false, false, false, false]) rfl (by kernel_rfl) (by kernel_rfl) (by kernel_rfl) rfl ?_
   refine f_val rfl rfl rfl (by intro t_ w hw; exact x_load (.map (some mp25)) ag_60 rfl (hw.blk_at (i := 4) rfl) rfl) ?_
   refine f_first 2 (listed' := #[true, true, true, false, false, false]) rfl (by kernel_rfl) (by kernel_rfl) (by kernel_rfl) rfl ?_
   refine f_val rfl rfl rfl (by intro _ w _; exact x_move (.int .i64 en44.1.v) rfl w) ?_
   refine f_first 3 (listed' := #[true, true, true, true, false, false]) rfl (by kernel_rfl) (by kernel_rfl) (by kernel_rfl) rfl ?_
   refine f_val rfl rfl rfl (by intro _ w _; exact x_move (.slice en44.2.p en44.2.data.length en44.2.c) rfl w) ?_
   refine f_all (rs := [4]) (by kernel_rfl) (by simp) ?_
   refine a_cons ⟨_, rfl, ?_⟩ (fun x hx => absurd hx (by simp))
   intro w59 H60
   try dsimp only at H60
   refine s_call [.slice en44.2.p en44.2.data.length en44.2.c] pl_48 rfl rfl (clone_bytes _ _ en44.2.data.length (en44.2.data.flatMap u8c) RdA.im (by first | omega | (have hlp := Nat.le_refl 0; omega)) (j := 0) rfl H60) ?_
   rintro _ w63 ⟨pp61, cc62, rfl, H64⟩
   have H65 : St W w63 (Row 79 3 (.slice pp5 L7.length cc6) L7.length (L7.flatMap bodCell) :: byA (L7.map BodD.by) :: byA (mby E8) :: Row 5 1 (.slice pp61 en44.2.data.length cc62) en44.2.data.length (en44.2.data.flatMap u8c) :: MapA mp25 (ents (kI .i64) evD M) :: Im 1 (.slice en44.2.p en44.2.data.length en44.2.c) en44.2.data.length (en44.2.data.flatMap u8c) :: byA (mby M) :: MapIt it33 m4 (ents (kI .i64) evD E8) (ents (kI .i64) evD (rest.eraseIdx jn43)) (some ((kI .i64) en44.1, evD en44.2)) :: Row 79 3 (.slice pp21 L7.length cc22) L7.length (L7.flatMap bodCell) :: blk bk16 (lkC s mp25 (.slice pp21 L7.length cc22)) :: blk g (lkC s m4 (.slice pp5 L7.length cc6)) :: (F.set i emp)) := (((((H64.move 10 rfl).move 1 rfl).move 10 rfl).move 10 rfl).move 10 rfl)
   have H66 : St W w63 (byA (mby M) :: MapIt it33 m4 (ents (kI .i64) evD E8) (ents (kI .i64) evD (rest.eraseIdx jn43)) (some ((kI .i64) en44.1, evD en44.2)) :: Row 79 3 (.slice pp21 L7.length cc22) L7.length (L7.flatMap bodCell) :: blk bk16 (lkC s mp25 (.slice pp21 L7.length cc22)) :: blk g (lkC s m4 (.slice pp5 L7.length cc6)) :: Row 79 3 (.slice pp5 L7.length cc6) L7.length (L7.flatMap bodCell) :: byA (L7.map BodD.by) :: byA (mby E8) :: Row 5 1 (.slice pp61 en44.2.data.length cc62) en44.2.data.length (en44.2.data.flatMap u8c) :: MapA mp25 (ents (kI .i64) evD M) :: Im 1 (.slice en44.2.p en44.2.data.length en44.2.c) en44.2.data.length (en44.2.data.flatMap u8c) :: (F.set i emp)) := (((((H65.move 10 rfl).move 10 rfl).move 10 rfl).move 10 rfl).move 10 rfl)
   have H67 : St W w63 (Im 1 (.slice en44.2.p en44.2.data.length en44.2.c) en44.2.data.length (en44.2.data.flatMap u8c) :: byA (mby M) :: MapIt it33 m4 (ents (kI .i64) evD E8) (ents (kI .i64) evD (rest.eraseIdx jn43)) (some ((kI .i64) en44.1, evD en44.2)) :: Row 79 3 (.slice pp21 L7.length cc22) L7.length (L7.flatMap bodCell) :: blk bk16 (lkC s mp25 (.slice pp21 L7.length cc22)) :: blk g (lkC s m4 (.slice pp5 L7.length cc6)) :: Row 79 3 (.slice pp5 L7.length cc6) L7.length (L7.flatMap bodCell) :: byA (L7.map BodD.by) :: byA (mby E8) :: Row 5 1 (.slice pp61 en44.2.data.length cc62) en44.2.data.length (en44.2.data.flatMap u8c) :: MapA mp25 (ents (kI .i64) evD M) :: (F.set i emp)) := (H66.move 10 rfl)
   refine ⟨Row 5 1 (.slice pp61 en44.2.data.length cc62) en44.2.data.length (en44.2.data.flatMap u8c) :: MapA mp25 (ents (kI .i64) evD M) :: (F.set i emp), ?_, H67⟩
   change FReg _ _ _ _ _ #[true, true, true, true, true, false] _ _
   refine f_all (rs := [5]) (by kernel_rfl) (by simp) ?_
   refine a_cons ⟨_, rfl, ?_⟩ (fun x hx => absurd hx (by simp))
   intro w68 H69
   try dsimp only at H69
   refine s_mapUpdate (ek := (kI .i64)) (ev := evD) (L := M) en44.1 (⟨en44.2.data, pp61, cc62⟩ : BytesD) H69 (i := 10) rfl (KeyLaw.I un_2) un_60 rfl rfl rfl ?_; intro w70 H71
   have H72 : St W w70 (Im 1 (.slice en44.2.p en44.2.data.length en44.2.c) en44.2.data.length (en44.2.data.flatMap u8c) :: byA (mby M) :: MapIt it33 m4 (ents (kI .i64) evD E8) (ents (kI .i64) evD (rest.eraseIdx jn43)) (some ((kI .i64) en44.1, evD en44.2)) :: Row 79 3 (.slice pp21 L7.length cc22) L7.length (L7.flatMap bodCell) :: blk bk16 (lkC s mp25 (.slice pp21 L7.length cc22)) :: blk g (lkC s m4 (.slice pp5 L7.length cc6)) :: Row 79 3 (.slice pp5 L7.length cc6) L7.length (L7.flatMap bodCell) :: byA (L7.map BodD.by) :: byA (mby E8) :: Row 5 1 (.slice pp61 en44.2.data.length cc62) en44.2.data.length (en44.2.data.flatMap u8c) :: MapA mp25 (ents (kI .i64) evD (aset M en44.1 (⟨en44.2.data, pp61, cc62⟩ : BytesD))) :: (F.set i emp)) := H71
   refine ⟨Row 5 1 (.slice pp61 en44.2.data.length cc62) en44.2.data.length (en44.2.data.flatMap u8c) :: MapA mp25 (ents (kI .i64) evD (aset M en44.1 (⟨en44.2.data, pp61, cc62⟩ : BytesD))) :: (F.set i emp), ?_, H72⟩
   change FReg _ _ _ _ _ #[true, true, true, true, true, true] _ _
   refine f_done (by kernel_rfl) ?_
   intro w73 H74
   refine g_inBlock ?_
   have H75 : St W w73 (Im 1 (.slice en44.2.p en44.2.data.length en44.2.c) en44.2.data.length (en44.2.data.flatMap u8c) :: byA (mby M) :: MapIt it33 m4 (ents (kI .i64) evD E8) (ents (kI .i64) evD (rest.eraseIdx jn43)) (some ((kI .i64) en44.1, evD en44.2)) :: Row 79 3 (.slice pp21 L7.length cc22) L7.length (L7.flatMap bodCell) :: blk bk16 (lkC s mp25 (.slice pp21 L7.length cc22)) :: blk g (lkC s m4 (.slice pp5 L7.length cc6)) :: Row 79 3 (.slice pp5 L7.length cc6) L7.length (L7.flatMap bodCell) :: byA (L7.map BodD.by) :: byA (mby E8) :: Im 1 (.slice pp61 en44.2.data.length cc62) en44.2.data.length (en44.2.data.flatMap u8c) :: MapA mp25 (ents (kI .i64) evD (aset M en44.1 (⟨en44.2.data, pp61, cc62⟩ : BytesD))) :: (F.set i emp)) := Row.im H74 (i := 9) rfl
   have hnw := clone_new hnd hperm hM hj46
   have H76 := byA_add (x := (⟨en44.2.data, pp61, cc62⟩ : BytesD)) (M := mby (aset M en44.1 (⟨en44.2.data, pp61, cc62⟩ : BytesD))) H75 (i := 1) (j := 9) rfl rfl (mby_set hnw)
   have H77 : St W w73 (byA (mby (aset M en44.1 (⟨en44.2.data, pp61, cc62⟩ : BytesD))) :: MapIt it33 m4 (ents (kI .i64) evD E8) (ents (kI .i64) evD (rest.eraseIdx jn43)) (some ((kI .i64) en44.1, evD en44.2)) :: MapA mp25 (ents (kI .i64) evD (aset M en44.1 (⟨en44.2.data, pp61, cc62⟩ : BytesD))) :: Row 79 3 (.slice pp21 L7.length cc22) L7.length (L7.flatMap bodCell) :: blk bk16 (lkC s mp25 (.slice pp21 L7.length cc22)) :: blk g (lkC s m4 (.slice pp5 L7.length cc6)) :: Row 79 3 (.slice pp5 L7.length cc6) L7.length (L7.flatMap bodCell) :: byA (L7.map BodD.by) :: byA (mby E8) :: (F.set i emp)) := ((((((((((((H76.move 9 rfl).move 9 rfl).move 9 rfl).move 9 rfl).move 9 rfl).move 9 rfl).move 11 rfl).move 10 rfl).move 8 rfl).drop 9 rfl).drop 9 rfl).drop 9 rfl)
   exact nx41 (pre ++ [en44], (rest.eraseIdx jn43), (aset M en44.1 (⟨en44.2.data, pp61, cc62⟩ : BytesD)), (some ((kI .i64) en44.1, evD en44.2))) _ _ ⟨(perm_stepF hj46 hperm), (clone_step hM hnw rfl), H77⟩ (by first | (dsimp only; exact rest_len (by assumption)) | exact rest_len (by assumption)) ⟨by first | rfl | exact vint (by omega), by first | rfl | exact vint (by omega), by first | rfl | exact vint (by omega), trivial⟩
set_option maxHeartbeats 4000000 in
set_option maxRecDepth 100000 in
theorem LN_Held_nil {W w : World} {F : List Atom}  (H : St W w F) : Calls Try.prog 28 #[.pointer none] w (Ret fun v w' => ∃ g, v = .func (.func 50) #[] #[.pointer (some ⟨g, 0, none⟩)] ∧ St W w' (blk g (.cells #[.pointer none] 30 (0, 0)) :: F)) := by
 refine calls_of_go (n := 4) Try.func28 rfl Try.ntmps28 rfl ?_
 refine g_seq ?_
 refine g_region ?_
 refine r_cons (s_box H 30 (.pointer none) rfl (cs := #[.pointer none]) rfl rfl ?_); intro bk1 w2 H3
 refine r_cons (s_assign (.nilFunc) rfl rfl ?_)
 refine r_nil ?_
 refine g_seq ?_
 refine g_region ?_
 refine r_cons (s_makeFunc (.func (.func 50) #[] #[.pointer (some ⟨bk1, 0, none⟩)]) rfl rfl ?_)
 refine r_cons (s_assign (.func (.func 50) #[] #[.pointer (some ⟨bk1, 0, none⟩)]) rfl rfl ?_)
 refine r_nil ?_
 refine g_ret' [.func (.func 50) #[] #[.pointer (some ⟨bk1, 0, none⟩)]] Try.func28 Try.results28 ⟨rfl, trivial⟩ ?_
 have H4 : St W w2 (blk bk1 (.cells #[.pointer none] 30 (0, 0)) :: F) := H3
 exact ⟨bk1, rfl, H4⟩
set_option maxHeartbeats 4000000 in
set_option maxRecDepth 100000 in
theorem LN_Held_zero {W w : World} {F : List Atom} (z : Nat) (H : St W w F) : Calls Try.prog 28 #[.pointer (some ⟨z, 0, none⟩)] w (Ret fun v w' => ∃ g, v = .func (.func 50) #[] #[.pointer (some ⟨g, 0, none⟩)] ∧ St W w' (blk g (.cells #[.pointer (some ⟨z, 0, none⟩)] 30 (0, 0)) :: F)) := by
 refine calls_of_go (n := 4) Try.func28 rfl Try.ntmps28 rfl ?_
 refine g_seq ?_
 refine g_region ?_
 refine r_cons (s_box H 30 (.pointer (some ⟨z, 0, none⟩)) rfl (cs := #[.pointer (some ⟨z, 0, none⟩)]) rfl rfl ?_); intro bk1 w2 H3
 refine r_cons (s_assign (.nilFunc) rfl rfl ?_)
 refine r_nil ?_
 refine g_seq ?_
 refine g_region ?_
 refine r_cons (s_makeFunc (.func (.func 50) #[] #[.pointer (some ⟨bk1, 0, none⟩)]) rfl rfl ?_)
 refine r_cons (s_assign (.func (.func 50) #[] #[.pointer (some ⟨bk1, 0, none⟩)]) rfl rfl ?_)
 refine r_nil ?_
 refine g_ret' [.func (.func 50) #[] #[.pointer (some ⟨bk1, 0, none⟩)]] Try.func28 Try.results28 ⟨rfl, trivial⟩ ?_
 have H4 : St W w2 (blk bk1 (.cells #[.pointer (some ⟨z, 0, none⟩)] 30 (0, 0)) :: F) := H3
 exact ⟨bk1, rfl, H4⟩
theorem RfA_perm {W w : World} {F : List Atom} {g : Nat} {s : EndV} {h2 : List (I64 × List UInt8)} (hp : h2.Perm s.held) (H : St W w (RfA g s :: F)) : St W w (RfA g ({ s with held := h2 } : EndV) :: F) := by
 obtain ⟨⟨q, h1, h3, h4⟩, H⟩ := St.open_ex H
 exact St.shut_ex ⟨q, h1, h3, h4.perm hp⟩ H
end Sl
