/- Walks of the program's functions. Printed by a program of this claim's author. No condition. -/
import Derived.Test.YthggoibbkloefaaSlBF
import Derived.Test.YthggoibbkloefaaSlQ
import Derived.Test.YthggoibbkloefaaSlG
import Derived.Test.YthggoibbkloefaaSlBB
import Derived.Test.YthggoibbkloefaaSlAB
import Derived.Test.YthggoibbkloefaaSlDC
import Derived.Test.YthggoibbkloefaaSlDJ
import Derived.Test.YthggoibbkloefaaSlEC
import Derived.Test.YthggoibbkloefaaSlBA
import Derived.Test.YthggoibbkloefaaSlEE
import Derived.Test.YthggoibbkloefaaSlEF
import Derived.Test.YthggoibbkloefaaProg
import Derived.Test.YthggoibbkloefaaWalkLinkNone4
namespace Sl
open _root_.Go _root_.Go.RowKit _root_.Go.Proofs
set_option linter.all false
set_option maxHeartbeats 4000000 in
set_option maxRecDepth 100000 in
theorem LinkNone_ {W w : World} {F : List Atom} (l m : List LOpD) (u v0 : Value) (hl : l.length < 2305843009213693952) (hm : m.length < 2305843009213693952) (hb : ∀ x ∈ l, x.v.body.length ≤ 140737488355328 ∧ x.v.dgm.body.length ≤ 140737488355328) {j q a c : Nat} (hj : F[j]? = some (Im 8 u l.length (l.flatMap lopCell))) (hk : F[q]? = some (Im 8 v0 m.length (m.flatMap lopCell))) (ha : F[a]? = some (byA (lopBy l))) (hc : F[c]? = some (byA (lopBy m))) (H : St W w F) : Calls Try.prog 6 #[u, v0] w (Ret fun v w' => v = .bool true ∧ St W w' F) := by
 obtain ⟨pp1, cc2, rfl, hsh3⟩ := Rd.shape (Im.rd H (i := j) hj)
 have H4 := H.dup (i := j) hj (Im_pers _ _ _ _)
 have hmlH4 := Im.len H4 (i := 0) rfl
 obtain ⟨pp5, cc6, rfl, hsh7⟩ := Rd.shape (Im.rd H4 (i := q + 1) (show (_ :: F)[q + 1]? = _ from hk))
 have H8 := H4.dup (i := q + 1) (show (_ :: F)[q + 1]? = _ from hk) (Im_pers _ _ _ _)
 have H9 := H8.dup (i := a + 2) (by exact ha) (byA_pers _)
 have H10 := H9.dup (i := c + 3) (by exact hc) (byA_pers _)
 have H11 : St W w (byA (lopBy m) :: byA (lopBy l) :: Im 8 (.slice pp5 m.length cc6) m.length (m.flatMap lopCell) :: Im 8 (.slice pp1 l.length cc2) l.length (l.flatMap lopCell) :: F) := H10
 have hwy : (decide ((0 : Int) = 0) && (decide ((0 : Int) = 0) && true)) = true := by decide
 have hwz : (!(decide ((0 : Int) = 0) && (decide ((0 : Int) = 0) && true))) = false := by decide
 refine calls_of_go (n := 185) Try.func6 rfl Try.ntmps6 rfl ?_
 refine g_seq ?_
 refine g_region ?_
 refine r_cons (s_alloc H11 4 ze_4 rfl ?_); intro bk12 w13 H14
 refine r_nil ?_
 refine g_seq ?_
 refine g_seq ?_
 refine g_region ?_
 refine r_cons (s_call [] pl_8 rfl rfl (live_ H14) ?_)
 rintro _ w15 ⟨rfl, H16⟩
 refine r_cons (s_not true rfl false rfl rfl ?_)
 refine r_nil ?_
 refine g_false rfl ?_
 refine g_skip ?_
 refine g_seq ?_
 refine g_seq ?_
 refine g_region ?_
 refine r_cons (s_build (cs := #[.int .i64 0, .int .i64 0, .int .i64 0, .slice none 0 0, .int .i64 0, .int .i64 0, .map none, .int .i64 0, .bool false]) (by kernel_rfl) rfl ?_)
 refine r_cons (s_box H16 62 (.agg #[.int .i64 0, .int .i64 0, .int .i64 0, .slice none 0 0, .int .i64 0, .int .i64 0, .map none, .int .i64 0, .bool false]) rfl (cs := #[.int .i64 0, .int .i64 0, .int .i64 0, .slice none 0 0, .int .i64 0, .int .i64 0, .map none, .int .i64 0, .bool false]) rfl rfl ?_); intro bk17 w18 H19
 refine r_cons (s_buildSlice H19 1 2 (cs := #[.pointer none, .pointer (some ⟨bk17, 0, none⟩)]) #[.pointer none] el_63 ze_30 (by decide) (by decide) (by kernel_rfl) rfl ?_); intro bk20 w21 H22
 refine r_cons (s_len 2 rfl ⟨_, un_63⟩ rfl ?_)
 refine r_cons (s_move (.int .i64 0) rfl rfl ?_)
 refine r_nil ?_
 refine g_block ?_
 refine g_loop ?_
 refine g_seq ?_
 refine g_region ?_
 refine r_cons (s_lss true rfl rfl (dtrue (by decide)) rfl ?_)
 refine r_nil ?_
 refine g_seq ?_
 refine g_true rfl ?_
 refine g_skip ?_
 refine g_seq ?_
 refine g_block ?_
 refine g_seq ?_
 refine g_region ?_
 refine r_cons (s_indexAddr bk20 0 1 0 rfl rfl el_63 (by omega) rfl rfl ?_)
 refine r_cons (s_load (.pointer none) ag_30 rfl (H22.blk_at (i := 0) rfl) rfl rfl ?_)
 refine r_cons (s_assign (.pointer none) rfl rfl ?_)
 refine r_nil ?_
 refine g_seq ?_
 refine g_region ?_
 refine r_cons (s_move (.pointer none) rfl rfl ?_)
 refine r_cons (s_build (cs := #[.int .i64 0, .int .i64 1, .int .i64 2, .int .i64 0, .int .i64 0, .slice none 0 0]) (by kernel_rfl) rfl ?_)
 refine r_cons (s_call [.pointer none, .agg #[.int .i64 0, .int .i64 1, .int .i64 2, .int .i64 0, .int .i64 0, .slice none 0 0]] pl_21 rfl rfl (LN_Take_nil  H22) ?_)
 rintro _ w23 ⟨rfl, H24⟩
 refine r_cons (s_move (.tuple #[.slice none 0 0, .int .i64 2]) rfl rfl ?_)
 refine r_cons (s_extract (.slice none 0 0) #[.slice none 0 0, .int .i64 2] rfl rfl rfl ?_)
 refine r_cons (s_extract (.int .i64 2) #[.slice none 0 0, .int .i64 2] rfl rfl rfl ?_)
 refine r_cons (s_assign (.slice none 0 0) rfl rfl ?_)
 refine r_cons (s_assign (.int .i64 2) rfl rfl ?_)
 refine r_nil ?_
 refine g_seq ?_
 refine g_seq ?_
 refine g_region ?_
 refine r_cons (s_move (.pointer none) rfl rfl ?_)
 refine r_cons (s_buildSlice H24 1 1 (cs := #[.int .u8 1]) #[.int .u8 0] el_26 ze_5 (by decide) (by decide) (by kernel_rfl) rfl ?_); intro bk25 w26 H27
 refine r_cons (s_call [.pointer none, .slice (some ⟨bk25, 0, none⟩) 1 1] pl_22 rfl rfl (LN_Send_nil (some ⟨bk25, 0, none⟩) 1 1 H27) ?_)
 rintro _ w28 ⟨rfl, H29⟩
 refine r_cons (s_neq false rfl rfl (ntrue (by decide)) rfl ?_)
 refine r_cons (s_move (.bool false) rfl rfl ?_)
 refine r_cons (r_take rfl rfl ?_)
 refine s_move (.int .i64 2) rfl rfl ?_
 refine r_cons (r_take rfl rfl ?_)
 refine s_neq false rfl rfl (ntrue (by decide)) rfl ?_
 refine r_cons (s_pick_f (.bool false) rfl rfl rfl ?_)
 refine r_cons (s_move (.bool false) rfl rfl ?_)
 refine r_cons (r_take rfl rfl ?_)
 refine s_move (.pointer none) rfl rfl ?_
 refine r_cons (r_take rfl rfl ?_)
 refine s_call [.pointer none] pl_11 rfl rfl (LN_Tick_nil  H29) ?_
 rintro _ w30 ⟨rfl, H31⟩
 refine r_cons (r_take rfl rfl ?_)
 refine s_len 0 rfl ⟨_, un_34⟩ rfl ?_
 refine r_cons (r_take rfl rfl ?_)
 refine s_neq false rfl rfl (ntrue (by decide)) rfl ?_
 refine r_cons (s_pick_f (.bool false) rfl rfl rfl ?_)
 refine r_cons (s_move (.bool false) rfl rfl ?_)
 refine r_cons (r_take rfl rfl ?_)
 refine s_move (.pointer none) rfl rfl ?_
 refine r_cons (r_take rfl rfl ?_)
 refine s_call [.pointer none] pl_23 rfl rfl (LN_Out_nil  H31) ?_
 rintro _ w32 ⟨rfl, H33⟩
 refine r_cons (r_take rfl rfl ?_)
 refine s_len 0 rfl ⟨_, un_34⟩ rfl ?_
 refine r_cons (r_take rfl rfl ?_)
 refine s_neq false rfl rfl (ntrue (by decide)) rfl ?_
 refine r_cons (s_pick_f (.bool false) rfl rfl rfl ?_)
 refine r_cons (s_move (.bool false) rfl rfl ?_)
 refine r_cons (r_take rfl rfl ?_)
 refine s_move (.pointer none) rfl rfl ?_
 refine r_cons (r_take rfl rfl ?_)
 refine s_call [.pointer none] pl_10 rfl rfl (LN_Waiting_nil  H33) ?_
 rintro _ w34 ⟨rfl, H35⟩
 refine r_cons (r_take rfl rfl ?_)
 refine s_neq false rfl rfl (ntrue (by decide)) rfl ?_
 refine r_cons (s_pick_f (.bool false) rfl rfl rfl ?_)
 refine r_cons (s_move (.bool false) rfl rfl ?_)
 refine r_cons (r_take rfl rfl ?_)
 refine s_move (.pointer none) rfl rfl ?_
 refine r_cons (r_take rfl rfl ?_)
 refine s_call [.pointer none] pl_16 rfl rfl (LN_Under_nil  H35) ?_
 rintro _ w36 ⟨rfl, H37⟩
 refine r_cons (r_take rfl rfl ?_)
 refine s_neq false rfl rfl (ntrue (by decide)) rfl ?_
 refine r_cons (s_pick_f (.bool false) rfl rfl rfl ?_)
 refine r_cons (s_move (.bool false) rfl rfl ?_)
 refine r_cons (r_take rfl rfl ?_)
 refine s_move (.pointer none) rfl rfl ?_
 refine r_cons (r_take rfl rfl ?_)
 refine s_call [.pointer none] pl_24 rfl rfl (LN_Next_nil  H37) ?_
 rintro _ w38 ⟨rfl, H39⟩
 refine r_cons (r_take rfl rfl ?_)
 refine s_neq false rfl rfl (ntrue (by decide)) rfl ?_
 refine r_cons (s_pick_f (.bool false) rfl rfl rfl ?_)
 refine r_cons (s_move (.bool false) rfl rfl ?_)
 refine r_cons (r_take rfl rfl ?_)
 refine s_move (.pointer none) rfl rfl ?_
 refine r_cons (r_take rfl rfl ?_)
 refine s_call [.pointer none] pl_25 rfl rfl (LN_Came_nil  H39) ?_
 rintro _ w40 ⟨rfl, H41⟩
 refine r_cons (r_take rfl rfl ?_)
 refine s_neq false rfl rfl (ntrue (by decide)) rfl ?_
 refine r_cons (s_pick_f (.bool false) rfl rfl rfl ?_)
 refine r_cons (s_move (.bool false) rfl rfl ?_)
 refine r_cons (r_take rfl rfl ?_)
 refine s_move (.pointer none) rfl rfl ?_
 refine r_cons (r_take rfl rfl ?_)
 refine s_call [.pointer none] pl_13 rfl rfl (LN_Idle_nil  H41) ?_
 rintro _ w42 ⟨rfl, H43⟩
 refine r_cons (s_pick_f (.bool false) rfl rfl rfl ?_)
 refine r_cons (s_move (.bool false) rfl rfl ?_)
 refine r_cons (r_take rfl rfl ?_)
 refine s_move (.pointer none) rfl rfl ?_
 refine r_cons (r_take rfl rfl ?_)
 refine s_call [.pointer none] pl_26 rfl rfl (LN_Way_nil  H43) ?_
 rintro _ w44 ⟨rfl, H45⟩
 refine r_cons (r_take rfl rfl ?_)
 refine s_build (cs := #[.int .i64 0, .int .i64 0]) (by kernel_rfl) rfl ?_
 refine r_cons (r_take rfl rfl ?_)
 refine s_aneq (!(decide ((0 : Int) = 0) && (decide ((0 : Int) = 0) && true))) gd_46 ev_46 rfl rfl rfl rfl ?_
 refine r_cons (s_pick_f (.bool (!(decide ((0 : Int) = 0) && (decide ((0 : Int) = 0) && true)))) rfl rfl rfl ?_)
 refine r_cons (s_move (.bool (!(decide ((0 : Int) = 0) && (decide ((0 : Int) = 0) && true)))) rfl rfl ?_)
 refine r_cons (r_take rfl (congrArg some hwz) ?_)
 refine s_move (.pointer none) rfl rfl ?_
 refine r_cons (r_take rfl (congrArg some hwz) ?_)
 refine s_call [.pointer none] pl_27 rfl rfl (LN_Clone_nil  H45) ?_
 rintro _ w46 ⟨rfl, H47⟩
 refine r_cons (r_take rfl (congrArg some hwz) ?_)
 refine s_pneq false un_30 rfl rfl rfl rfl ?_
 refine r_cons (s_pick_f (.bool false) (by exact congrArg Value.bool hwz) rfl rfl ?_)
 refine r_nil ?_
 refine g_false rfl ?_
 refine g_skip ?_
 refine g_seq ?_
 refine g_region ?_
 refine r_cons (s_move (.pointer none) rfl rfl ?_)
 refine r_cons (s_call [.pointer none] pl_28 rfl rfl (LN_Held_nil H47) ?_)
 rintro _ w49 ⟨bk48, rfl, H50⟩
 refine r_nil ?_
 refine g_block ?_
 refine g_range2 (W := W) (F := blk bk48 (.cells #[.pointer none] 30 (0, 0)) :: blk bk25 (.cells #[.int .u8 1] 5 (0, 0)) :: blk bk20 (.cells #[.pointer none, .pointer (some ⟨bk17, 0, none⟩)] 30 (0, 0)) :: blk bk17 (.cells #[.int .i64 0, .int .i64 0, .int .i64 0, .slice none 0 0, .int .i64 0, .int .i64 0, .map none, .int .i64 0, .bool false] 62 (0, 0)) :: blk bk12 (.cells #[.bool false] 4 (0, 0)) :: byA (lopBy m) :: byA (lopBy l) :: Im 8 (.slice pp5 m.length cc6) m.length (m.flatMap lopCell) :: Im 8 (.slice pp1 l.length cc2) l.length (l.flatMap lopCell) :: F) (α := Empty) 50 [.pointer (some ⟨bk48, 0, none⟩)] rfl rfl pl_50 (fun x_ => x_.elim) (fun x_ => x_.elim) rfl rfl (fun _ => emp) (fun _ => emp) (fun _ _ => emp) (fun _ _ => True) (fun _ => True) (fun _ => False) H50.cons_emp ?_ ?_ ?_ ?_
 ·intro _ _ _ _ _ x; exact x.elim
 ·intro l J Jx B w H _; exact (LkHeld_nil bk48 l (i := 2) rfl H).mono fun e w' hh => by cases e with | returned v => exact ⟨[], .inl ⟨trivial, hh⟩⟩ | _ => exact hh.elim
 ·intro D51 L52 w53 hS54 H55
  have H56 : St W w53 (emp :: blk D51 (.deferred (some [])) :: blk bk48 (.cells #[.pointer none] 30 (0, 0)) :: blk bk25 (.cells #[.int .u8 1] 5 (0, 0)) :: blk bk20 (.cells #[.pointer none, .pointer (some ⟨bk17, 0, none⟩)] 30 (0, 0)) :: blk bk17 (.cells #[.int .i64 0, .int .i64 0, .int .i64 0, .slice none 0 0, .int .i64 0, .int .i64 0, .map none, .int .i64 0, .bool false] 62 (0, 0)) :: blk bk12 (.cells #[.bool false] 4 (0, 0)) :: byA (lopBy m) :: byA (lopBy l) :: Im 8 (.slice pp5 m.length cc6) m.length (m.flatMap lopCell) :: Im 8 (.slice pp1 l.length cc2) l.length (l.flatMap lopCell) :: F) := H55
  have H57 := H56.drop 0 rfl
  refine g_inBlock ?_
  refine g_inBlock ?_
  refine g_region ?_
  refine r_cons (s_add 1 rfl rfl (wi64 (by omega)) rfl ?_)
  refine r_cons (s_move (.int .i64 1) rfl rfl ?_)
  refine r_nil ?_
  refine g_inLoop ?_
  refine g_seq ?_
  refine g_region ?_
  refine r_cons (s_lss true rfl rfl (dtrue (by decide)) rfl ?_)
  refine r_nil ?_
  refine g_seq ?_
  refine g_true rfl ?_
  refine g_skip ?_
  refine g_seq ?_
  refine g_block ?_
  refine g_seq ?_
  refine g_region ?_
  refine r_cons (s_indexAddr bk20 1 1 1 rfl rfl el_63 (by omega) rfl rfl ?_)
  refine r_cons (s_load (.pointer (some ⟨bk17, 0, none⟩)) ag_30 rfl (H57.blk_at (i := 3) rfl) rfl rfl ?_)
  refine r_cons (s_assign (.pointer (some ⟨bk17, 0, none⟩)) rfl rfl ?_)
  refine r_nil ?_
  refine g_seq ?_
  refine g_region ?_
  refine r_cons (s_move (.pointer (some ⟨bk17, 0, none⟩)) rfl rfl ?_)
  refine r_cons (s_build (cs := #[.int .i64 0, .int .i64 1, .int .i64 2, .int .i64 0, .int .i64 0, .slice none 0 0]) (by kernel_rfl) rfl ?_)
  refine r_cons (s_call [.pointer (some ⟨bk17, 0, none⟩), .agg #[.int .i64 0, .int .i64 1, .int .i64 2, .int .i64 0, .int .i64 0, .slice none 0 0]] pl_21 rfl rfl (LN_Take_zero bk17  (i := 4) rfl H57) ?_)
  rintro _ w58 ⟨rfl, H59⟩
  refine r_cons (s_move (.tuple #[.slice none 0 0, .int .i64 2]) rfl rfl ?_)
  refine r_cons (s_extract (.slice none 0 0) #[.slice none 0 0, .int .i64 2] rfl rfl rfl ?_)
  refine r_cons (s_extract (.int .i64 2) #[.slice none 0 0, .int .i64 2] rfl rfl rfl ?_)
  refine r_cons (s_assign (.slice none 0 0) rfl rfl ?_)
  refine r_cons (s_assign (.int .i64 2) rfl rfl ?_)
  refine r_nil ?_
  refine g_seq ?_
  refine g_seq ?_
  refine g_region ?_
  refine r_cons (s_move (.pointer (some ⟨bk17, 0, none⟩)) rfl rfl ?_)
  refine r_cons (s_buildSlice H59 1 1 (cs := #[.int .u8 1]) #[.int .u8 0] el_26 ze_5 (by decide) (by decide) (by kernel_rfl) rfl ?_); intro bk60 w61 H62
  refine r_cons (s_call [.pointer (some ⟨bk17, 0, none⟩), .slice (some ⟨bk60, 0, none⟩) 1 1] pl_22 rfl rfl (LN_Send_zero bk17 (some ⟨bk60, 0, none⟩) 1 1 (i := 5) rfl H62) ?_)
  rintro _ w63 ⟨rfl, H64⟩
  refine r_cons (s_neq false rfl rfl (ntrue (by decide)) rfl ?_)
  refine r_cons (s_move (.bool false) rfl rfl ?_)
  refine r_cons (r_take rfl rfl ?_)
  refine s_move (.int .i64 2) rfl rfl ?_
  refine r_cons (r_take rfl rfl ?_)
  refine s_neq false rfl rfl (ntrue (by decide)) rfl ?_
  refine r_cons (s_pick_f (.bool false) rfl rfl rfl ?_)
  refine r_cons (s_move (.bool false) rfl rfl ?_)
  refine r_cons (r_take rfl rfl ?_)
  refine s_move (.pointer (some ⟨bk17, 0, none⟩)) rfl rfl ?_
  refine r_cons (r_take rfl rfl ?_)
  refine s_call [.pointer (some ⟨bk17, 0, none⟩)] pl_11 rfl rfl (LN_Tick_zero bk17  (i := 5) rfl H64) ?_
  rintro _ w65 ⟨rfl, H66⟩
  refine r_cons (r_take rfl rfl ?_)
  refine s_len 0 rfl ⟨_, un_34⟩ rfl ?_
  refine r_cons (r_take rfl rfl ?_)
  refine s_neq false rfl rfl (ntrue (by decide)) rfl ?_
  refine r_cons (s_pick_f (.bool false) rfl rfl rfl ?_)
  refine r_cons (s_move (.bool false) rfl rfl ?_)
  refine r_cons (r_take rfl rfl ?_)
  refine s_move (.pointer (some ⟨bk17, 0, none⟩)) rfl rfl ?_
  refine r_cons (r_take rfl rfl ?_)
  refine s_call [.pointer (some ⟨bk17, 0, none⟩)] pl_23 rfl rfl (LN_Out_zero bk17  (i := 5) rfl H66) ?_
  rintro _ w67 ⟨rfl, H68⟩
  refine r_cons (r_take rfl rfl ?_)
  refine s_len 0 rfl ⟨_, un_34⟩ rfl ?_
  refine r_cons (r_take rfl rfl ?_)
  refine s_neq false rfl rfl (ntrue (by decide)) rfl ?_
  refine r_cons (s_pick_f (.bool false) rfl rfl rfl ?_)
  refine r_cons (s_move (.bool false) rfl rfl ?_)
  refine r_cons (r_take rfl rfl ?_)
  refine s_move (.pointer (some ⟨bk17, 0, none⟩)) rfl rfl ?_
  refine r_cons (r_take rfl rfl ?_)
  refine s_call [.pointer (some ⟨bk17, 0, none⟩)] pl_10 rfl rfl (LN_Waiting_zero bk17  (i := 5) rfl H68) ?_
  rintro _ w69 ⟨rfl, H70⟩
  refine r_cons (r_take rfl rfl ?_)
  refine s_neq false rfl rfl (ntrue (by decide)) rfl ?_
  refine r_cons (s_pick_f (.bool false) rfl rfl rfl ?_)
  refine r_cons (s_move (.bool false) rfl rfl ?_)
  refine r_cons (r_take rfl rfl ?_)
  refine s_move (.pointer (some ⟨bk17, 0, none⟩)) rfl rfl ?_
  refine r_cons (r_take rfl rfl ?_)
  refine s_call [.pointer (some ⟨bk17, 0, none⟩)] pl_16 rfl rfl (LN_Under_zero bk17  (i := 5) rfl H70) ?_
  rintro _ w71 ⟨rfl, H72⟩
  refine r_cons (r_take rfl rfl ?_)
  refine s_neq false rfl rfl (ntrue (by decide)) rfl ?_
  refine r_cons (s_pick_f (.bool false) rfl rfl rfl ?_)
  refine r_cons (s_move (.bool false) rfl rfl ?_)
  refine r_cons (r_take rfl rfl ?_)
  refine s_move (.pointer (some ⟨bk17, 0, none⟩)) rfl rfl ?_
  refine r_cons (r_take rfl rfl ?_)
  refine s_call [.pointer (some ⟨bk17, 0, none⟩)] pl_24 rfl rfl (LN_Next_zero bk17  (i := 5) rfl H72) ?_
  rintro _ w73 ⟨rfl, H74⟩
  refine r_cons (r_take rfl rfl ?_)
  refine s_neq false rfl rfl (ntrue (by decide)) rfl ?_
  refine r_cons (s_pick_f (.bool false) rfl rfl rfl ?_)
  refine r_cons (s_move (.bool false) rfl rfl ?_)
  refine r_cons (r_take rfl rfl ?_)
  refine s_move (.pointer (some ⟨bk17, 0, none⟩)) rfl rfl ?_
  refine r_cons (r_take rfl rfl ?_)
  refine s_call [.pointer (some ⟨bk17, 0, none⟩)] pl_25 rfl rfl (LN_Came_zero bk17  (i := 5) rfl H74) ?_
  rintro _ w75 ⟨rfl, H76⟩
  refine r_cons (r_take rfl rfl ?_)
  refine s_neq false rfl rfl (ntrue (by decide)) rfl ?_
  refine r_cons (s_pick_f (.bool false) rfl rfl rfl ?_)
  refine r_cons (s_move (.bool false) rfl rfl ?_)
  refine r_cons (r_take rfl rfl ?_)
  refine s_move (.pointer (some ⟨bk17, 0, none⟩)) rfl rfl ?_
  refine r_cons (r_take rfl rfl ?_)
  refine s_call [.pointer (some ⟨bk17, 0, none⟩)] pl_13 rfl rfl (LN_Idle_zero bk17  (i := 5) rfl H76) ?_
  rintro _ w77 ⟨rfl, H78⟩
  refine r_cons (s_pick_f (.bool false) rfl rfl rfl ?_)
  refine r_cons (s_move (.bool false) rfl rfl ?_)
  refine r_cons (r_take rfl rfl ?_)
  refine s_move (.pointer (some ⟨bk17, 0, none⟩)) rfl rfl ?_
  refine r_cons (r_take rfl rfl ?_)
  refine s_call [.pointer (some ⟨bk17, 0, none⟩)] pl_26 rfl rfl (LN_Way_zero bk17  (i := 5) rfl H78) ?_
  rintro _ w79 ⟨rfl, H80⟩
  refine r_cons (r_take rfl rfl ?_)
  refine s_build (cs := #[.int .i64 0, .int .i64 0]) (by kernel_rfl) rfl ?_
  refine r_cons (r_take rfl rfl ?_)
  refine s_aneq (!(decide ((0 : Int) = 0) && (decide ((0 : Int) = 0) && true))) gd_46 ev_46 rfl rfl rfl rfl ?_
  refine r_cons (s_pick_f (.bool (!(decide ((0 : Int) = 0) && (decide ((0 : Int) = 0) && true)))) rfl rfl rfl ?_)
  refine r_cons (s_move (.bool (!(decide ((0 : Int) = 0) && (decide ((0 : Int) = 0) && true)))) rfl rfl ?_)
  refine r_cons (r_take rfl (congrArg some hwz) ?_)
  refine s_move (.pointer (some ⟨bk17, 0, none⟩)) rfl rfl ?_
  refine r_cons (r_take rfl (congrArg some hwz) ?_)
  refine s_call [.pointer (some ⟨bk17, 0, none⟩)] pl_27 rfl rfl (LN_Clone_zero bk17  (i := 5) rfl H80) ?_
  rintro _ w81 ⟨rfl, H82⟩
  refine r_cons (r_take rfl (congrArg some hwz) ?_)
  refine s_pneq false un_30 rfl rfl rfl rfl ?_
  refine r_cons (s_pick_f (.bool false) (by exact congrArg Value.bool hwz) rfl rfl ?_)
  refine r_nil ?_
  refine g_false rfl ?_
  refine g_skip ?_
  refine g_seq ?_
  refine g_region ?_
  refine r_cons (s_move (.pointer (some ⟨bk17, 0, none⟩)) rfl rfl ?_)
  refine r_cons (s_call [.pointer (some ⟨bk17, 0, none⟩)] pl_28 rfl rfl (LN_Held_zero bk17 H82) ?_)
  rintro _ w84 ⟨bk83, rfl, H85⟩
  refine r_nil ?_
  refine g_block ?_
  refine g_range2 (W := W) (F := blk bk83 (.cells #[.pointer (some ⟨bk17, 0, none⟩)] 30 (0, 0)) :: blk bk60 (.cells #[.int .u8 1] 5 (0, 0)) :: blk D51 (.deferred (some [])) :: blk bk48 (.cells #[.pointer none] 30 (0, 0)) :: blk bk25 (.cells #[.int .u8 1] 5 (0, 0)) :: blk bk20 (.cells #[.pointer none, .pointer (some ⟨bk17, 0, none⟩)] 30 (0, 0)) :: blk bk17 (.cells #[.int .i64 0, .int .i64 0, .int .i64 0, .slice none 0 0, .int .i64 0, .int .i64 0, .map none, .int .i64 0, .bool false] 62 (0, 0)) :: blk bk12 (.cells #[.bool false] 4 (0, 0)) :: byA (lopBy m) :: byA (lopBy l) :: Im 8 (.slice pp5 m.length cc6) m.length (m.flatMap lopCell) :: Im 8 (.slice pp1 l.length cc2) l.length (l.flatMap lopCell) :: F) (α := Empty) 50 [.pointer (some ⟨bk83, 0, none⟩)] rfl rfl pl_50 (fun x_ => x_.elim) (fun x_ => x_.elim) rfl rfl (fun _ => emp) (fun _ => emp) (fun _ _ => emp) (fun _ _ => True) (fun _ => True) (fun _ => False) H85.cons_emp ?_ ?_ ?_ ?_
  ·intro _ _ _ _ _ x; exact x.elim
  ·intro l J Jx B w H _; exact (LkHeld_zero bk83 l bk17 (i := 2) (j := 8) rfl rfl H).mono fun e w' hh => by cases e with | returned v => exact ⟨[], .inl ⟨trivial, hh⟩⟩ | _ => exact hh.elim
  ·intro D86 L87 w88 hS89 H90
   have H91 : St W w88 (emp :: blk D86 (.deferred (some [])) :: blk bk83 (.cells #[.pointer (some ⟨bk17, 0, none⟩)] 30 (0, 0)) :: blk bk60 (.cells #[.int .u8 1] 5 (0, 0)) :: blk D51 (.deferred (some [])) :: blk bk48 (.cells #[.pointer none] 30 (0, 0)) :: blk bk25 (.cells #[.int .u8 1] 5 (0, 0)) :: blk bk20 (.cells #[.pointer none, .pointer (some ⟨bk17, 0, none⟩)] 30 (0, 0)) :: blk bk17 (.cells #[.int .i64 0, .int .i64 0, .int .i64 0, .slice none 0 0, .int .i64 0, .int .i64 0, .map none, .int .i64 0, .bool false] 62 (0, 0)) :: blk bk12 (.cells #[.bool false] 4 (0, 0)) :: byA (lopBy m) :: byA (lopBy l) :: Im 8 (.slice pp5 m.length cc6) m.length (m.flatMap lopCell) :: Im 8 (.slice pp1 l.length cc2) l.length (l.flatMap lopCell) :: F) := H90
   have H92 := H91.drop 0 rfl
   refine g_inBlock ?_
   refine g_inBlock ?_
   refine g_region ?_
   refine r_cons (s_add 2 rfl rfl (wi64 (by omega)) rfl ?_)
   refine r_cons (s_move (.int .i64 2) rfl rfl ?_)
   refine r_nil ?_
   refine g_inLoop ?_
   refine g_seq ?_
   refine g_region ?_
   refine r_cons (s_lss false rfl rfl (dfalse (by decide)) rfl ?_)
   refine r_nil ?_
   refine g_seq ?_
   refine g_false rfl ?_
   refine g_exit (by rfl) ?_
   refine g_seq ?_
   refine g_region ?_
   refine r_cons (s_build (cs := #[.int .i64 0, .int .i64 1]) (by kernel_rfl) rfl ?_)
   refine r_cons (s_call [.agg #[.int .i64 0, .int .i64 1], .int .i64 3] pl_17 rfl rfl (Link_New (i64' 0) (i64' 1) 3 (by decide) (by decide) (by decide) (by omega) (by omega) H92) ?_)
   rintro _ w94 ⟨bk93, rfl, H95⟩
   refine r_cons (s_move (.tuple #[.pointer (some ⟨bk93, 0, none⟩), .int .i64 0]) rfl rfl ?_)
   refine r_cons (s_extract (.pointer (some ⟨bk93, 0, none⟩)) #[.pointer (some ⟨bk93, 0, none⟩), .int .i64 0] rfl rfl rfl ?_)
   refine r_cons (s_extract (.int .i64 0) #[.pointer (some ⟨bk93, 0, none⟩), .int .i64 0] rfl rfl rfl ?_)
   refine r_cons (s_assign (.pointer (some ⟨bk93, 0, none⟩)) rfl rfl ?_)
   refine r_cons (s_assign (.int .i64 0) rfl rfl ?_)
   refine r_nil ?_
   refine g_seq ?_
   refine g_region ?_
   refine r_cons (s_build (cs := #[.int .i64 0, .int .i64 1]) (by kernel_rfl) rfl ?_)
   refine r_cons (s_call [.agg #[.int .i64 0, .int .i64 1], .int .i64 3] pl_18 rfl rfl (Ref_New (i64' 0) (i64' 1) 3 (by decide) (by decide) (by decide) (by omega) (by omega) H95) ?_)
   rintro _ w97 ⟨bk96, rfl, H98⟩
   refine r_cons (s_move (.tuple #[.pointer (some ⟨bk96, 0, none⟩), .int .i64 0]) rfl rfl ?_)
   refine r_cons (s_extract (.pointer (some ⟨bk96, 0, none⟩)) #[.pointer (some ⟨bk96, 0, none⟩), .int .i64 0] rfl rfl rfl ?_)
   refine r_cons (s_extract (.int .i64 0) #[.pointer (some ⟨bk96, 0, none⟩), .int .i64 0] rfl rfl rfl ?_)
   refine r_cons (s_assign (.pointer (some ⟨bk96, 0, none⟩)) rfl rfl ?_)
   refine r_cons (s_assign (.int .i64 0) rfl rfl ?_)
   refine r_nil ?_
   refine g_seq ?_
   refine g_seq ?_
   refine g_region ?_
   refine r_cons (s_move (.int .i64 0) rfl rfl ?_)
   refine r_cons (s_neq false rfl rfl (ntrue (by decide)) rfl ?_)
   refine r_nil ?_
   refine g_false rfl ?_
   refine g_skip ?_
   refine g_seq ?_
   refine g_seq ?_
   refine g_region ?_
   refine r_cons (s_move (.slice pp1 l.length cc2) rfl rfl ?_)
   refine r_cons (s_len l.length rfl ⟨_, un_47⟩ rfl ?_)
   refine r_cons (s_move (.int .i64 0) rfl rfl ?_)
   refine r_nil ?_
   refine g_block ?_
   obtain ⟨pA99, cA100, gA101, oA102, kA103, eA104, zA105, he111, hn106, hp107, hx108, hs109, hml, H110⟩ := Im.open_ H98 (i := 14) rfl
   obtain ⟨rfl, rfl⟩ : pp1 = pA99 ∧ cc2 = cA100 := by injection he111 with a_ b_ c_; exact ⟨a_, c_⟩
   have H112 : St W w97 (LkA bk93 (newS (i64' 0) (i64' 1) 3) :: RfA bk96 (newS (i64' 0) (i64' 1) 3) :: imi (0 < l.length) gA101 (.cells kA103 eA104 zA105) :: byA (lopBy m) :: byA (lopBy l) :: Im 8 (.slice pp5 m.length cc6) m.length (m.flatMap lopCell) :: Im 8 (.slice pp1 l.length cc2) l.length (l.flatMap lopCell) :: blk bk12 (.cells #[.bool false] 4 (0, 0)) :: blk D86 (.deferred (some [])) :: blk D51 (.deferred (some [])) :: F) := ((((((((((((((((H110.move 6 rfl).move 4 rfl).move 11 rfl).move 15 rfl).move 15 rfl).move 15 rfl).move 15 rfl).move 7 rfl).move 8 rfl).move 9 rfl).drop 10 rfl).drop 10 rfl).drop 10 rfl).drop 10 rfl).drop 10 rfl).drop 10 rfl)
   have H113 : St W w97 (LkA bk93 (newS (i64' 0) (i64' 1) 3) :: RfA bk96 (newS (i64' 0) (i64' 1) 3) :: imi (0 < l.length) gA101 (.cells kA103 eA104 zA105) :: byA (lopBy m) :: byA (lopBy l) :: Im 8 (.slice pp5 m.length cc6) m.length (m.flatMap lopCell) :: Im 8 (.slice pp1 l.length cc2) l.length (l.flatMap lopCell) :: blk bk12 (.cells #[.bool false] 4 (0, 0)) :: blk D86 (.deferred (some [])) :: blk D51 (.deferred (some [])) :: F) := H112
   refine g_loop_inv (fun (x_ : Nat × EndV) => match x_ with | (k, s) => [(1, .slice pp5 m.length cc6), (4, .pointer (some ⟨bk12, 0, none⟩)), (9, .pointer (some ⟨bk93, 0, none⟩)), (11, .pointer (some ⟨bk96, 0, none⟩)), (109, .slice pp1 l.length cc2), (110, .int .i64 (l.length : Int)), (111, .int .i64 (k : Int))]) (fun (x_ : Nat × EndV) w => match x_ with | (k, s) => (k ≤ l.length) ∧ (DInv (k) s) ∧ St W w (LkA bk93 s :: RfA bk96 s :: imi (0 < l.length) gA101 (.cells kA103 eA104 zA105) :: byA (lopBy m) :: byA (lopBy l) :: Im 8 (.slice pp5 m.length cc6) m.length (m.flatMap lopCell) :: Im 8 (.slice pp1 l.length cc2) l.length (l.flatMap lopCell) :: blk bk12 (.cells #[.bool false] 4 (0, 0)) :: blk D86 (.deferred (some [])) :: blk D51 (.deferred (some [])) :: F)) (fun (x_ : Nat × EndV) => match x_ with | (k, s) => l.length - k) (0, (newS (i64' 0) (i64' 1) 3)) ?_ ?_ ?_
   ·exact ⟨by first | rfl | exact vint (by omega), by first | rfl | exact vint (by omega), by first | rfl | exact vint (by omega), by first | rfl | exact vint (by omega), by first | rfl | exact vint (by omega), by first | rfl | exact vint (by omega), by first | rfl | exact vint (by omega), trivial⟩
   ·exact ⟨(by omega), (DInv.new (by omega) (by omega)), H113⟩
   ·rintro ⟨k, s⟩ ρ114 w115 ⟨hkn, hD, H116⟩ nx117
    change Ends _ _ (upds ρ114 [(1, .slice pp5 m.length cc6), (4, .pointer (some ⟨bk12, 0, none⟩)), (9, .pointer (some ⟨bk93, 0, none⟩)), (11, .pointer (some ⟨bk96, 0, none⟩)), (109, .slice pp1 l.length cc2), (110, .int .i64 (l.length : Int)), (111, .int .i64 (k : Int))]) w115
    refine g_seq ?_
    refine g_region ?_
    by_cases hc118 : (k : Int) < (l.length : Int)
    ·skip
     refine r_cons (s_lss true rfl rfl (dtrue hc118) rfl ?_)
     refine r_nil ?_
     refine g_seq ?_
     refine g_true rfl ?_
     refine g_skip ?_
     refine g_seq ?_
     refine g_block ?_
     refine g_seq ?_
     refine g_region ?_
     refine r_cons (s_indexAddr gA101 (off := oA102) (k : Int) 8 (oA102 + k * 8) (by exact congrArg (fun z_ => Value.slice z_ l.length cc2) (hp107 (by omega))) rfl el_47 (by omega) rfl rfl ?_)
     refine r_cons (s_loadAgg [.int .i64 ((l.getD k default).v.do_.v), .slice ((l.getD k default).p) ((l.getD k default).v.body.length) ((l.getD k default).c), .int .i64 ((l.getD k default).v.dgm.frm.v), .int .i64 ((l.getD k default).v.dgm.to_.v), .int .i64 ((l.getD k default).v.dgm.kind.v), .int .i64 ((l.getD k default).v.dgm.seq.v), .int .i64 ((l.getD k default).v.dgm.ack.v), .slice ((l.getD k default).p2) ((l.getD k default).v.dgm.body.length) ((l.getD k default).c2)] 8 ag_55 rfl (H116.imi_at (i := 2) rfl (by omega)) (by have := elem_size (i := k) (s := 8) (hs109 (by omega)) (by omega); omega) (elem_take lopCell_len (hx108 (by omega)) (by omega) default) rfl ?_)
     refine r_cons (s_alloc H116 55 ze_55 rfl ?_); intro bk119 w120 H121
     refine r_cons (s_storeAgg H121 0 #[.int .i64 ((l.getD k default).v.do_.v), .slice ((l.getD k default).p) ((l.getD k default).v.body.length) ((l.getD k default).c), .int .i64 ((l.getD k default).v.dgm.frm.v), .int .i64 ((l.getD k default).v.dgm.to_.v), .int .i64 ((l.getD k default).v.dgm.kind.v), .int .i64 ((l.getD k default).v.dgm.seq.v), .int .i64 ((l.getD k default).v.dgm.ack.v), .slice ((l.getD k default).p2) ((l.getD k default).v.dgm.body.length) ((l.getD k default).c2)] 8 rfl rfl rfl sz_55 rfl (by simp [Value.oneCell']) (nbl rfl) (fun o h1 h2 => by first | (simp; done) | (simp; omega)) (cs' := #[.int .i64 ((l.getD k default).v.do_.v), .slice ((l.getD k default).p) ((l.getD k default).v.body.length) ((l.getD k default).c), .int .i64 ((l.getD k default).v.dgm.frm.v), .int .i64 ((l.getD k default).v.dgm.to_.v), .int .i64 ((l.getD k default).v.dgm.kind.v), .int .i64 ((l.getD k default).v.dgm.seq.v), .int .i64 ((l.getD k default).v.dgm.ack.v), .slice ((l.getD k default).p2) ((l.getD k default).v.dgm.body.length) ((l.getD k default).c2)]) rfl ?_); intro w122 H123
     refine r_nil ?_
     refine g_seq ?_
     have H124 : St W w122 (Im 1 (.slice ((l.getD k default).p) ((l.getD k default).v.body.length) ((l.getD k default).c)) (((l.getD k default).v.body).length) (((l.getD k default).v.body).flatMap u8c) :: blk bk119 (.cells #[.int .i64 ((l.getD k default).v.do_.v), .slice ((l.getD k default).p) ((l.getD k default).v.body.length) ((l.getD k default).c), .int .i64 ((l.getD k default).v.dgm.frm.v), .int .i64 ((l.getD k default).v.dgm.to_.v), .int .i64 ((l.getD k default).v.dgm.kind.v), .int .i64 ((l.getD k default).v.dgm.seq.v), .int .i64 ((l.getD k default).v.dgm.ack.v), .slice ((l.getD k default).p2) ((l.getD k default).v.dgm.body.length) ((l.getD k default).c2)] 55 (0, 0)) :: LkA bk93 s :: RfA bk96 s :: imi (0 < l.length) gA101 (.cells kA103 eA104 zA105) :: byA (lopBy m) :: byA (lopBy l) :: Im 8 (.slice pp5 m.length cc6) m.length (m.flatMap lopCell) :: Im 8 (.slice pp1 l.length cc2) l.length (l.flatMap lopCell) :: blk bk12 (.cells #[.bool false] 4 (0, 0)) :: blk D86 (.deferred (some [])) :: blk D51 (.deferred (some [])) :: F) := byA_at H123 (i := 5) rfl (lop_at1 (k := k) (by omega))
     have H125 : St W w122 (Im 1 (.slice ((l.getD k default).p2) ((l.getD k default).v.dgm.body.length) ((l.getD k default).c2)) (((l.getD k default).v.dgm.body).length) (((l.getD k default).v.dgm.body).flatMap u8c) :: Im 1 (.slice ((l.getD k default).p) ((l.getD k default).v.body.length) ((l.getD k default).c)) (((l.getD k default).v.body).length) (((l.getD k default).v.body).flatMap u8c) :: blk bk119 (.cells #[.int .i64 ((l.getD k default).v.do_.v), .slice ((l.getD k default).p) ((l.getD k default).v.body.length) ((l.getD k default).c), .int .i64 ((l.getD k default).v.dgm.frm.v), .int .i64 ((l.getD k default).v.dgm.to_.v), .int .i64 ((l.getD k default).v.dgm.kind.v), .int .i64 ((l.getD k default).v.dgm.seq.v), .int .i64 ((l.getD k default).v.dgm.ack.v), .slice ((l.getD k default).p2) ((l.getD k default).v.dgm.body.length) ((l.getD k default).c2)] 55 (0, 0)) :: LkA bk93 s :: RfA bk96 s :: imi (0 < l.length) gA101 (.cells kA103 eA104 zA105) :: byA (lopBy m) :: byA (lopBy l) :: Im 8 (.slice pp5 m.length cc6) m.length (m.flatMap lopCell) :: Im 8 (.slice pp1 l.length cc2) l.length (l.flatMap lopCell) :: blk bk12 (.cells #[.bool false] 4 (0, 0)) :: blk D86 (.deferred (some [])) :: blk D51 (.deferred (some [])) :: F) := byA_at H124 (i := 6) rfl (lop_at2 (k := k) (by omega))
     have hbb := hb (l.getD k default) (getD_mem (by omega))
     obtain ⟨hbb1, hbb2⟩ := hbb
     refine g_cut (fun (x : Option Addr × Nat × Option Addr × Nat) => match x with | (pp126, cc127, pp130, cc131) => [(1, .slice pp5 m.length cc6), (4, .pointer (some ⟨bk12, 0, none⟩)), (9, .pointer (some ⟨bk93, 0, none⟩)), (11, .pointer (some ⟨bk96, 0, none⟩)), (109, .slice pp1 l.length cc2), (110, .int .i64 (l.length : Int)), (111, .int .i64 (k : Int)), (112, .bool true), (113, .pointer (some ⟨gA101, oA102 + k * 8, none⟩)), (114, .agg #[.int .i64 ((l.getD k default).v.do_.v), .slice ((l.getD k default).p) ((l.getD k default).v.body.length) ((l.getD k default).c), .int .i64 ((l.getD k default).v.dgm.frm.v), .int .i64 ((l.getD k default).v.dgm.to_.v), .int .i64 ((l.getD k default).v.dgm.kind.v), .int .i64 ((l.getD k default).v.dgm.seq.v), .int .i64 ((l.getD k default).v.dgm.ack.v), .slice ((l.getD k default).p2) ((l.getD k default).v.dgm.body.length) ((l.getD k default).c2)]), (14, .pointer (some ⟨bk119, 0, none⟩)), (115, .pointer (some ⟨bk119, 1, none⟩)), (116, .slice ((l.getD k default).p) ((l.getD k default).v.body.length) ((l.getD k default).c)), (117, .slice pp126 (((l.getD k default).v.body).length) cc127), (118, .pointer (some ⟨bk119, 2, none⟩)), (119, .pointer (some ⟨bk119, 7, none⟩)), (120, .slice ((l.getD k default).p2) ((l.getD k default).v.dgm.body.length) ((l.getD k default).c2)), (121, .slice pp130 (((l.getD k default).v.dgm.body).length) cc131), (122, .pointer (some ⟨bk119, 1, none⟩)), (123, .pointer (some ⟨bk119, 2, none⟩)), (124, .pointer (some ⟨bk119, 7, none⟩))]) (fun (x : Option Addr × Nat × Option Addr × Nat) w => match x with | (pp126, cc127, pp130, cc131) => St W w (Row 5 1 (.slice pp130 (((l.getD k default).v.dgm.body).length) cc131) (((l.getD k default).v.dgm.body).length) (((l.getD k default).v.dgm.body).flatMap u8c) :: Row 5 1 (.slice pp126 (((l.getD k default).v.body).length) cc127) (((l.getD k default).v.body).length) (((l.getD k default).v.body).flatMap u8c) :: Im 1 (.slice ((l.getD k default).p2) ((l.getD k default).v.dgm.body.length) ((l.getD k default).c2)) (((l.getD k default).v.dgm.body).length) (((l.getD k default).v.dgm.body).flatMap u8c) :: Im 1 (.slice ((l.getD k default).p) ((l.getD k default).v.body.length) ((l.getD k default).c)) (((l.getD k default).v.body).length) (((l.getD k default).v.body).flatMap u8c) :: blk bk119 (.cells #[.int .i64 ((l.getD k default).v.do_.v), .slice pp126 (((l.getD k default).v.body).length) cc127, .int .i64 ((l.getD k default).v.dgm.frm.v), .int .i64 ((l.getD k default).v.dgm.to_.v), .int .i64 ((l.getD k default).v.dgm.kind.v), .int .i64 ((l.getD k default).v.dgm.seq.v), .int .i64 ((l.getD k default).v.dgm.ack.v), .slice pp130 (((l.getD k default).v.dgm.body).length) cc131] 55 (0, 0)) :: LkA bk93 s :: RfA bk96 s :: imi (0 < l.length) gA101 (.cells kA103 eA104 zA105) :: byA (lopBy m) :: byA (lopBy l) :: Im 8 (.slice pp5 m.length cc6) m.length (m.flatMap lopCell) :: Im 8 (.slice pp1 l.length cc2) l.length (l.flatMap lopCell) :: blk bk12 (.cells #[.bool false] 4 (0, 0)) :: blk D86 (.deferred (some [])) :: blk D51 (.deferred (some [])) :: F)) ?_ ?_
     ·rintro ⟨pp126, cc127, pp130, cc131⟩ ρ129 w127 H128
      change Ends _ _ (upds ρ129 [(1, .slice pp5 m.length cc6), (4, .pointer (some ⟨bk12, 0, none⟩)), (9, .pointer (some ⟨bk93, 0, none⟩)), (11, .pointer (some ⟨bk96, 0, none⟩)), (109, .slice pp1 l.length cc2), (110, .int .i64 (l.length : Int)), (111, .int .i64 (k : Int)), (112, .bool true), (113, .pointer (some ⟨gA101, oA102 + k * 8, none⟩)), (114, .agg #[.int .i64 ((l.getD k default).v.do_.v), .slice ((l.getD k default).p) ((l.getD k default).v.body.length) ((l.getD k default).c), .int .i64 ((l.getD k default).v.dgm.frm.v), .int .i64 ((l.getD k default).v.dgm.to_.v), .int .i64 ((l.getD k default).v.dgm.kind.v), .int .i64 ((l.getD k default).v.dgm.seq.v), .int .i64 ((l.getD k default).v.dgm.ack.v), .slice ((l.getD k default).p2) ((l.getD k default).v.dgm.body.length) ((l.getD k default).c2)]), (14, .pointer (some ⟨bk119, 0, none⟩)), (115, .pointer (some ⟨bk119, 1, none⟩)), (116, .slice ((l.getD k default).p) ((l.getD k default).v.body.length) ((l.getD k default).c)), (117, .slice pp126 (((l.getD k default).v.body).length) cc127), (118, .pointer (some ⟨bk119, 2, none⟩)), (119, .pointer (some ⟨bk119, 7, none⟩)), (120, .slice ((l.getD k default).p2) ((l.getD k default).v.dgm.body.length) ((l.getD k default).c2)), (121, .slice pp130 (((l.getD k default).v.dgm.body).length) cc131), (122, .pointer (some ⟨bk119, 1, none⟩)), (123, .pointer (some ⟨bk119, 2, none⟩)), (124, .pointer (some ⟨bk119, 7, none⟩))]) w127
      refine g_seq ?_
      refine g_seq ?_
      refine g_region ?_
      refine r_cons (s_move (.pointer (some ⟨bk93, 0, none⟩)) rfl rfl ?_)
      refine r_cons (s_move (.pointer (some ⟨bk96, 0, none⟩)) rfl rfl ?_)
      refine r_cons (s_loadAgg [.int .i64 ((l.getD k default).v.do_.v), .slice pp126 (((l.getD k default).v.body).length) cc127, .int .i64 ((l.getD k default).v.dgm.frm.v), .int .i64 ((l.getD k default).v.dgm.to_.v), .int .i64 ((l.getD k default).v.dgm.kind.v), .int .i64 ((l.getD k default).v.dgm.seq.v), .int .i64 ((l.getD k default).v.dgm.ack.v), .slice pp130 (((l.getD k default).v.dgm.body).length) cc131] 8 ag_55 rfl (H128.blk_at (i := 4) rfl) (nbl rfl) rfl rfl ?_)
      have hD2 := hD.do (by omega) (l.getD k default).v
      have H130 : St W w127 (LkA bk93 s :: RfA bk96 s :: Row 5 1 (.slice pp130 (((l.getD k default).v.dgm.body).length) cc131) (((l.getD k default).v.dgm.body).length) (((l.getD k default).v.dgm.body).flatMap u8c) :: Row 5 1 (.slice pp126 (((l.getD k default).v.body).length) cc127) (((l.getD k default).v.body).length) (((l.getD k default).v.body).flatMap u8c) :: Im 1 (.slice ((l.getD k default).p2) ((l.getD k default).v.dgm.body.length) ((l.getD k default).c2)) (((l.getD k default).v.dgm.body).length) (((l.getD k default).v.dgm.body).flatMap u8c) :: Im 1 (.slice ((l.getD k default).p) ((l.getD k default).v.body.length) ((l.getD k default).c)) (((l.getD k default).v.body).length) (((l.getD k default).v.body).flatMap u8c) :: blk bk119 (.cells #[.int .i64 ((l.getD k default).v.do_.v), .slice pp126 (((l.getD k default).v.body).length) cc127, .int .i64 ((l.getD k default).v.dgm.frm.v), .int .i64 ((l.getD k default).v.dgm.to_.v), .int .i64 ((l.getD k default).v.dgm.kind.v), .int .i64 ((l.getD k default).v.dgm.seq.v), .int .i64 ((l.getD k default).v.dgm.ack.v), .slice pp130 (((l.getD k default).v.dgm.body).length) cc131] 55 (0, 0)) :: imi (0 < l.length) gA101 (.cells kA103 eA104 zA105) :: byA (lopBy m) :: byA (lopBy l) :: Im 8 (.slice pp5 m.length cc6) m.length (m.flatMap lopCell) :: Im 8 (.slice pp1 l.length cc2) l.length (l.flatMap lopCell) :: blk bk12 (.cells #[.bool false] 4 (0, 0)) :: blk D86 (.deferred (some [])) :: blk D51 (.deferred (some [])) :: F) := ((H128.move 6 rfl).move 6 rfl)
      refine r_cons (s_call [.pointer (some ⟨bk93, 0, none⟩), .pointer (some ⟨bk96, 0, none⟩), .agg #[.int .i64 ((l.getD k default).v.do_.v), .slice pp126 (((l.getD k default).v.body).length) cc127, .int .i64 ((l.getD k default).v.dgm.frm.v), .int .i64 ((l.getD k default).v.dgm.to_.v), .int .i64 ((l.getD k default).v.dgm.kind.v), .int .i64 ((l.getD k default).v.dgm.seq.v), .int .i64 ((l.getD k default).v.dgm.ack.v), .slice pp130 (((l.getD k default).v.dgm.body).length) cc131]] pl_19 rfl rfl (does_ bk93 bk96 (k) s ((l.getD k default).v) (.slice pp126 (((l.getD k default).v.body).length) cc127) (.slice pp130 (((l.getD k default).v.dgm.body).length) cc131) hD (by omega) RdA.row RdA.row (j := 1) rfl (k := 0) rfl H130) ?_)
      rintro _ w131 ⟨rfl, H132⟩
      refine r_cons (s_not true rfl false rfl rfl ?_)
      refine r_nil ?_
      refine g_false rfl ?_
      refine g_skip ?_
      refine g_seq ?_
      refine g_seq ?_
      refine g_region ?_
      refine r_cons (s_fieldAddr 55 1 1 1 26 rfl fi_55_1 rfl rfl ?_)
      refine r_cons (s_load (.slice pp126 (((l.getD k default).v.body).length) cc127) ag_26 rfl (H132.blk_at (i := 6) rfl) rfl rfl ?_)
      refine r_cons (s_len (((l.getD k default).v.body).length) rfl ⟨_, un_26⟩ rfl ?_)
      refine r_cons (s_move (.int .i64 0) rfl rfl ?_)
      refine r_nil ?_
      refine g_block ?_
      refine g_loop_inv (fun (x_ : Nat × (List UInt8)) => match x_ with | (jx, ys) => [(1, .slice pp5 m.length cc6), (4, .pointer (some ⟨bk12, 0, none⟩)), (9, .pointer (some ⟨bk93, 0, none⟩)), (11, .pointer (some ⟨bk96, 0, none⟩)), (109, .slice pp1 l.length cc2), (110, .int .i64 (l.length : Int)), (111, .int .i64 (k : Int)), (14, .pointer (some ⟨bk119, 0, none⟩)), (132, .int .i64 (((l.getD k default).v.body).length : Int)), (133, .int .i64 (jx : Int))]) (fun (x_ : Nat × (List UInt8)) w => match x_ with | (jx, ys) => (jx ≤ (l.getD k default).v.body.length) ∧ (ys.length = (l.getD k default).v.body.length) ∧ St W w (LkA bk93 (doS s ((l.getD k default).v)) :: RfA bk96 (doS s ((l.getD k default).v)) :: Row 5 1 (.slice pp130 (((l.getD k default).v.dgm.body).length) cc131) (((l.getD k default).v.dgm.body).length) (((l.getD k default).v.dgm.body).flatMap u8c) :: Row 5 1 (.slice pp126 (((l.getD k default).v.body).length) cc127) (((l.getD k default).v.body).length) (ys.flatMap u8c) :: Im 1 (.slice ((l.getD k default).p2) ((l.getD k default).v.dgm.body.length) ((l.getD k default).c2)) (((l.getD k default).v.dgm.body).length) (((l.getD k default).v.dgm.body).flatMap u8c) :: Im 1 (.slice ((l.getD k default).p) ((l.getD k default).v.body.length) ((l.getD k default).c)) (((l.getD k default).v.body).length) (((l.getD k default).v.body).flatMap u8c) :: blk bk119 (.cells #[.int .i64 ((l.getD k default).v.do_.v), .slice pp126 (((l.getD k default).v.body).length) cc127, .int .i64 ((l.getD k default).v.dgm.frm.v), .int .i64 ((l.getD k default).v.dgm.to_.v), .int .i64 ((l.getD k default).v.dgm.kind.v), .int .i64 ((l.getD k default).v.dgm.seq.v), .int .i64 ((l.getD k default).v.dgm.ack.v), .slice pp130 (((l.getD k default).v.dgm.body).length) cc131] 55 (0, 0)) :: imi (0 < l.length) gA101 (.cells kA103 eA104 zA105) :: byA (lopBy m) :: byA (lopBy l) :: Im 8 (.slice pp5 m.length cc6) m.length (m.flatMap lopCell) :: Im 8 (.slice pp1 l.length cc2) l.length (l.flatMap lopCell) :: blk bk12 (.cells #[.bool false] 4 (0, 0)) :: blk D86 (.deferred (some [])) :: blk D51 (.deferred (some [])) :: F)) (fun (x_ : Nat × (List UInt8)) => match x_ with | (jx, ys) => (l.getD k default).v.body.length - jx) (0, (l.getD k default).v.body) ?_ ?_ ?_
      ·exact ⟨by first | rfl | exact vint (by omega), by first | rfl | exact vint (by omega), by first | rfl | exact vint (by omega), by first | rfl | exact vint (by omega), by first | rfl | exact vint (by omega), by first | rfl | exact vint (by omega), by first | rfl | exact vint (by omega), by first | rfl | exact vint (by omega), by first | rfl | exact vint (by omega), by first | rfl | exact vint (by omega), trivial⟩
      ·exact ⟨(by omega), rfl, H132⟩
      ·rintro ⟨jx, ys⟩ ρ133 w134 ⟨hjx, hys, H135⟩ nx136
       change Ends _ _ (upds ρ133 [(1, .slice pp5 m.length cc6), (4, .pointer (some ⟨bk12, 0, none⟩)), (9, .pointer (some ⟨bk93, 0, none⟩)), (11, .pointer (some ⟨bk96, 0, none⟩)), (109, .slice pp1 l.length cc2), (110, .int .i64 (l.length : Int)), (111, .int .i64 (k : Int)), (14, .pointer (some ⟨bk119, 0, none⟩)), (132, .int .i64 (((l.getD k default).v.body).length : Int)), (133, .int .i64 (jx : Int))]) w134
       refine g_seq ?_
       refine g_region ?_
       by_cases hc137 : (jx : Int) < (((l.getD k default).v.body).length : Int)
       ·skip
        refine r_cons (s_lss true rfl rfl (dtrue hc137) rfl ?_)
        refine r_nil ?_
        refine g_seq ?_
        refine g_true rfl ?_
        refine g_skip ?_
        refine g_seq ?_
        refine g_block ?_
        refine g_seq ?_
        refine g_region ?_
        refine r_cons (s_move (.int .i64 (jx : Int)) rfl rfl ?_)
        refine r_cons (s_assign (.int .i64 (jx : Int)) rfl rfl ?_)
        refine r_nil ?_
        refine g_region ?_
        refine r_cons (s_fieldAddr 55 1 1 1 26 rfl fi_55_1 rfl rfl ?_)
        refine r_cons (s_load (.slice pp126 (((l.getD k default).v.body).length) cc127) ag_26 rfl (H135.blk_at (i := 6) rfl) rfl rfl ?_)
        refine r_cons (s_move (.int .i64 (jx : Int)) rfl rfl ?_)
        obtain ⟨bk138, cur139, hp140, h141, h142, h143, h144, h145, H146⟩ := Row.open2 H135 (i := 3) rfl (by omega)
        have hx8 : ((ys.getD jx 0).toNat ^^^ 255) < 256 := Nat.xor_lt_two_pow (n := 8) (UInt8.toNat_lt _) (by decide)
        refine r_cons (s_indexAddr bk138 (off := 0) (jx : Int) 1 (0 + jx * 1) (by exact congrArg (fun z_ => Value.slice z_ (((l.getD k default).v.body).length) cc127) ((fun (_ : 0 < 1) => hp140) (by omega))) rfl el_26 (by omega) rfl rfl ?_)
        refine r_cons (s_load (.int .u8 ((ys.getD jx 0).toNat : Int)) ag_5 rfl (H146.blk_at (i := 3) rfl) (elem_cell (L := ys) (i := jx) u8c_len (by rw [hys]; exact h144) (by have hh : ys.length = ((l.getD k default).v.body).length := hys; omega) 0 0 (by decide) _ rfl) rfl ?_)
        refine r_cons (s_xor ((((ys.getD jx 0).toNat ^^^ 255) : Nat) : Int) rfl rfl (by rw [show (255 : Int) = ((255 : Nat) : Int) from rfl, bit_xor (UInt8.toNat_lt _) (by decide)]; exact (wu8 (by omega)).trans (by omega)) rfl ?_)
        refine r_cons (s_indexAddr bk138 (off := 0) (jx : Int) 1 (0 + jx * 1) (by exact congrArg (fun z_ => Value.slice z_ (((l.getD k default).v.body).length) cc127) ((fun (_ : 0 < 1) => hp140) (by omega))) rfl el_26 (by omega) rfl rfl ?_)
        have hx149 := row_set1 (f := u8c) (L := ys) (cur := cur139) u8c_len (by rw [hys]; exact h144) (show ys.length * 1 ≤ cur139.size by rw [hys, h143]; exact Nat.mul_le_mul_right 1 h141) (j := jx) (by have hh := hys; omega) 0 (.int .u8 ((((ys.getD jx 0).toNat ^^^ 255) : Nat) : Int)) (UInt8.ofNat ((ys.getD jx 0).toNat ^^^ 255)) ((u8_set hx8))
        refine r_cons (s_store H146 3 (.int .u8 ((((ys.getD jx 0).toNat ^^^ 255) : Nat) : Int)) rfl rfl rfl sz_5 rfl (by have hh := hys; have hk := (show ys.length * 1 ≤ cur139.size by rw [hys, h143]; exact Nat.mul_le_mul_right 1 h141); omega) rfl (cs' := (cur139.setIfInBounds (0 + jx * 1) (.int .u8 ((((ys.getD jx 0).toNat ^^^ 255) : Nat) : Int)))) rfl ?_); intro w147 H148
        refine r_nil ?_
        refine g_inBlock ?_
        refine g_region ?_
        refine r_cons (s_add ((jx : Int) + 1) rfl rfl (wi64 (by omega)) rfl ?_)
        refine r_cons (s_move (.int .i64 ((jx : Int) + 1)) rfl rfl ?_)
        refine r_nil ?_
        have H150 := Row.shut2 (p := pp126) (n := ((l.getD k default).v.body).length) (c := cc127) (size := 1) (xs := (ys.set jx (UInt8.ofNat ((ys.getD jx 0).toNat ^^^ 255))).flatMap u8c) H148 (i := 3) rfl hp140 h141 h142 (show ((cur139.setIfInBounds (0 + jx * 1) (.int .u8 ((((ys.getD jx 0).toNat ^^^ 255) : Nat) : Int)))).size = cc127 * 1 from by rw [Array.size_setIfInBounds]; exact h143) (by have hh : ((cur139.setIfInBounds (0 + jx * 1) (.int .u8 ((((ys.getD jx 0).toNat ^^^ 255) : Nat) : Int))).toList.drop 0).take ((ys.set jx (UInt8.ofNat ((ys.getD jx 0).toNat ^^^ 255))).length * 1) = (ys.set jx (UInt8.ofNat ((ys.getD jx 0).toNat ^^^ 255))).flatMap u8c := hx149; have hk : (ys.set jx (UInt8.ofNat ((ys.getD jx 0).toNat ^^^ 255))).length = ((l.getD k default).v.body).length := (show (ys.set jx (UInt8.ofNat ((ys.getD jx 0).toNat ^^^ 255))).length = ((l.getD k default).v.body).length from by first | (rw [List.length_set]; exact hys) | rw [List.length_set]); rw [hk] at hh; exact hh) (one_u8 _)
        have H151 : St W w147 (Im 8 (.slice pp5 m.length cc6) m.length (m.flatMap lopCell) :: Im 8 (.slice pp1 l.length cc2) l.length (l.flatMap lopCell) :: blk bk12 (.cells #[.bool false] 4 (0, 0)) :: blk D86 (.deferred (some [])) :: blk D51 (.deferred (some [])) :: LkA bk93 (doS s ((l.getD k default).v)) :: RfA bk96 (doS s ((l.getD k default).v)) :: Row 5 1 (.slice pp130 (((l.getD k default).v.dgm.body).length) cc131) (((l.getD k default).v.dgm.body).length) (((l.getD k default).v.dgm.body).flatMap u8c) :: Row 5 1 (.slice pp126 (((l.getD k default).v.body).length) cc127) (((l.getD k default).v.body).length) ((ys.set jx (UInt8.ofNat ((ys.getD jx 0).toNat ^^^ 255))).flatMap u8c) :: Im 1 (.slice ((l.getD k default).p2) ((l.getD k default).v.dgm.body.length) ((l.getD k default).c2)) (((l.getD k default).v.dgm.body).length) (((l.getD k default).v.dgm.body).flatMap u8c) :: Im 1 (.slice ((l.getD k default).p) ((l.getD k default).v.body.length) ((l.getD k default).c)) (((l.getD k default).v.body).length) (((l.getD k default).v.body).flatMap u8c) :: blk bk119 (.cells #[.int .i64 ((l.getD k default).v.do_.v), .slice pp126 (((l.getD k default).v.body).length) cc127, .int .i64 ((l.getD k default).v.dgm.frm.v), .int .i64 ((l.getD k default).v.dgm.to_.v), .int .i64 ((l.getD k default).v.dgm.kind.v), .int .i64 ((l.getD k default).v.dgm.seq.v), .int .i64 ((l.getD k default).v.dgm.ack.v), .slice pp130 (((l.getD k default).v.dgm.body).length) cc131] 55 (0, 0)) :: imi (0 < l.length) gA101 (.cells kA103 eA104 zA105) :: byA (lopBy m) :: byA (lopBy l) :: F) := (((((H150.move 14 rfl).move 14 rfl).move 14 rfl).move 14 rfl).move 14 rfl)
        have H152 : St W w147 (Im 1 (.slice ((l.getD k default).p) ((l.getD k default).v.body.length) ((l.getD k default).c)) (((l.getD k default).v.body).length) (((l.getD k default).v.body).flatMap u8c) :: blk bk119 (.cells #[.int .i64 ((l.getD k default).v.do_.v), .slice pp126 (((l.getD k default).v.body).length) cc127, .int .i64 ((l.getD k default).v.dgm.frm.v), .int .i64 ((l.getD k default).v.dgm.to_.v), .int .i64 ((l.getD k default).v.dgm.kind.v), .int .i64 ((l.getD k default).v.dgm.seq.v), .int .i64 ((l.getD k default).v.dgm.ack.v), .slice pp130 (((l.getD k default).v.dgm.body).length) cc131] 55 (0, 0)) :: imi (0 < l.length) gA101 (.cells kA103 eA104 zA105) :: byA (lopBy m) :: byA (lopBy l) :: Im 8 (.slice pp5 m.length cc6) m.length (m.flatMap lopCell) :: Im 8 (.slice pp1 l.length cc2) l.length (l.flatMap lopCell) :: blk bk12 (.cells #[.bool false] 4 (0, 0)) :: blk D86 (.deferred (some [])) :: blk D51 (.deferred (some [])) :: LkA bk93 (doS s ((l.getD k default).v)) :: RfA bk96 (doS s ((l.getD k default).v)) :: Row 5 1 (.slice pp130 (((l.getD k default).v.dgm.body).length) cc131) (((l.getD k default).v.dgm.body).length) (((l.getD k default).v.dgm.body).flatMap u8c) :: Row 5 1 (.slice pp126 (((l.getD k default).v.body).length) cc127) (((l.getD k default).v.body).length) ((ys.set jx (UInt8.ofNat ((ys.getD jx 0).toNat ^^^ 255))).flatMap u8c) :: Im 1 (.slice ((l.getD k default).p2) ((l.getD k default).v.dgm.body.length) ((l.getD k default).c2)) (((l.getD k default).v.dgm.body).length) (((l.getD k default).v.dgm.body).flatMap u8c) :: F) := (((((H151.move 14 rfl).move 14 rfl).move 14 rfl).move 14 rfl).move 14 rfl)
        have H153 : St W w147 (LkA bk93 (doS s ((l.getD k default).v)) :: RfA bk96 (doS s ((l.getD k default).v)) :: Row 5 1 (.slice pp130 (((l.getD k default).v.dgm.body).length) cc131) (((l.getD k default).v.dgm.body).length) (((l.getD k default).v.dgm.body).flatMap u8c) :: Row 5 1 (.slice pp126 (((l.getD k default).v.body).length) cc127) (((l.getD k default).v.body).length) ((ys.set jx (UInt8.ofNat ((ys.getD jx 0).toNat ^^^ 255))).flatMap u8c) :: Im 1 (.slice ((l.getD k default).p2) ((l.getD k default).v.dgm.body.length) ((l.getD k default).c2)) (((l.getD k default).v.dgm.body).length) (((l.getD k default).v.dgm.body).flatMap u8c) :: Im 1 (.slice ((l.getD k default).p) ((l.getD k default).v.body.length) ((l.getD k default).c)) (((l.getD k default).v.body).length) (((l.getD k default).v.body).flatMap u8c) :: blk bk119 (.cells #[.int .i64 ((l.getD k default).v.do_.v), .slice pp126 (((l.getD k default).v.body).length) cc127, .int .i64 ((l.getD k default).v.dgm.frm.v), .int .i64 ((l.getD k default).v.dgm.to_.v), .int .i64 ((l.getD k default).v.dgm.kind.v), .int .i64 ((l.getD k default).v.dgm.seq.v), .int .i64 ((l.getD k default).v.dgm.ack.v), .slice pp130 (((l.getD k default).v.dgm.body).length) cc131] 55 (0, 0)) :: imi (0 < l.length) gA101 (.cells kA103 eA104 zA105) :: byA (lopBy m) :: byA (lopBy l) :: Im 8 (.slice pp5 m.length cc6) m.length (m.flatMap lopCell) :: Im 8 (.slice pp1 l.length cc2) l.length (l.flatMap lopCell) :: blk bk12 (.cells #[.bool false] 4 (0, 0)) :: blk D86 (.deferred (some [])) :: blk D51 (.deferred (some [])) :: F) := (((((H152.move 14 rfl).move 14 rfl).move 14 rfl).move 14 rfl).move 14 rfl)
        have H154 : St W w147 (LkA bk93 (doS s ((l.getD k default).v)) :: RfA bk96 (doS s ((l.getD k default).v)) :: Row 5 1 (.slice pp130 (((l.getD k default).v.dgm.body).length) cc131) (((l.getD k default).v.dgm.body).length) (((l.getD k default).v.dgm.body).flatMap u8c) :: Row 5 1 (.slice pp126 (((l.getD k default).v.body).length) cc127) (((l.getD k default).v.body).length) ((ys.set jx (UInt8.ofNat ((ys.getD jx 0).toNat ^^^ 255))).flatMap u8c) :: Im 1 (.slice ((l.getD k default).p2) ((l.getD k default).v.dgm.body.length) ((l.getD k default).c2)) (((l.getD k default).v.dgm.body).length) (((l.getD k default).v.dgm.body).flatMap u8c) :: Im 1 (.slice ((l.getD k default).p) ((l.getD k default).v.body.length) ((l.getD k default).c)) (((l.getD k default).v.body).length) (((l.getD k default).v.body).flatMap u8c) :: blk bk119 (.cells #[.int .i64 ((l.getD k default).v.do_.v), .slice pp126 (((l.getD k default).v.body).length) cc127, .int .i64 ((l.getD k default).v.dgm.frm.v), .int .i64 ((l.getD k default).v.dgm.to_.v), .int .i64 ((l.getD k default).v.dgm.kind.v), .int .i64 ((l.getD k default).v.dgm.seq.v), .int .i64 ((l.getD k default).v.dgm.ack.v), .slice pp130 (((l.getD k default).v.dgm.body).length) cc131] 55 (0, 0)) :: imi (0 < l.length) gA101 (.cells kA103 eA104 zA105) :: byA (lopBy m) :: byA (lopBy l) :: Im 8 (.slice pp5 m.length cc6) m.length (m.flatMap lopCell) :: Im 8 (.slice pp1 l.length cc2) l.length (l.flatMap lopCell) :: blk bk12 (.cells #[.bool false] 4 (0, 0)) :: blk D86 (.deferred (some [])) :: blk D51 (.deferred (some [])) :: F) := H153
        exact nx136 (jx + 1, ys.set jx (UInt8.ofNat ((ys.getD jx 0).toNat ^^^ 255))) _ _ ⟨(by omega), (by rw [List.length_set]; exact hys), H154⟩ (by first | (dsimp only; omega) | omega) ⟨by first | rfl | exact vint (by omega), by first | rfl | exact vint (by omega), by first | rfl | exact vint (by omega), by first | rfl | exact vint (by omega), by first | rfl | exact vint (by omega), by first | rfl | exact vint (by omega), by first | rfl | exact vint (by omega), by first | rfl | exact vint (by omega), by first | rfl | exact vint (by omega), by first | rfl | exact vint (by omega), trivial⟩
       ·skip
        refine r_cons (s_lss false rfl rfl (dfalse hc137) rfl ?_)
        refine r_nil ?_
        refine g_seq ?_
        refine g_false rfl ?_
        refine g_exit (by rfl) ?_
        refine g_seq ?_
        refine g_region ?_
        refine r_cons (s_fieldAddr 55 2 2 2 41 rfl fi_55_2 rfl rfl ?_)
        refine r_cons (s_fieldAddr 41 5 5 7 26 rfl fi_41_5 rfl rfl ?_)
        refine r_cons (s_load (.slice pp130 (((l.getD k default).v.dgm.body).length) cc131) ag_26 rfl (H135.blk_at (i := 6) rfl) rfl rfl ?_)
        refine r_cons (s_len (((l.getD k default).v.dgm.body).length) rfl ⟨_, un_26⟩ rfl ?_)
        refine r_cons (s_move (.int .i64 0) rfl rfl ?_)
        refine r_nil ?_
        refine g_block ?_
        refine g_loop_inv (fun (x_ : Nat × (List UInt8)) => match x_ with | (jz, zs) => [(1, .slice pp5 m.length cc6), (4, .pointer (some ⟨bk12, 0, none⟩)), (9, .pointer (some ⟨bk93, 0, none⟩)), (11, .pointer (some ⟨bk96, 0, none⟩)), (109, .slice pp1 l.length cc2), (110, .int .i64 (l.length : Int)), (111, .int .i64 (k : Int)), (14, .pointer (some ⟨bk119, 0, none⟩)), (147, .int .i64 (((l.getD k default).v.dgm.body).length : Int)), (148, .int .i64 (jz : Int))]) (fun (x_ : Nat × (List UInt8)) w => match x_ with | (jz, zs) => (jz ≤ (l.getD k default).v.dgm.body.length) ∧ (zs.length = (l.getD k default).v.dgm.body.length) ∧ St W w (LkA bk93 (doS s ((l.getD k default).v)) :: RfA bk96 (doS s ((l.getD k default).v)) :: Row 5 1 (.slice pp130 (((l.getD k default).v.dgm.body).length) cc131) (((l.getD k default).v.dgm.body).length) (zs.flatMap u8c) :: Row 5 1 (.slice pp126 (((l.getD k default).v.body).length) cc127) (((l.getD k default).v.body).length) (ys.flatMap u8c) :: Im 1 (.slice ((l.getD k default).p2) ((l.getD k default).v.dgm.body.length) ((l.getD k default).c2)) (((l.getD k default).v.dgm.body).length) (((l.getD k default).v.dgm.body).flatMap u8c) :: Im 1 (.slice ((l.getD k default).p) ((l.getD k default).v.body.length) ((l.getD k default).c)) (((l.getD k default).v.body).length) (((l.getD k default).v.body).flatMap u8c) :: blk bk119 (.cells #[.int .i64 ((l.getD k default).v.do_.v), .slice pp126 (((l.getD k default).v.body).length) cc127, .int .i64 ((l.getD k default).v.dgm.frm.v), .int .i64 ((l.getD k default).v.dgm.to_.v), .int .i64 ((l.getD k default).v.dgm.kind.v), .int .i64 ((l.getD k default).v.dgm.seq.v), .int .i64 ((l.getD k default).v.dgm.ack.v), .slice pp130 (((l.getD k default).v.dgm.body).length) cc131] 55 (0, 0)) :: imi (0 < l.length) gA101 (.cells kA103 eA104 zA105) :: byA (lopBy m) :: byA (lopBy l) :: Im 8 (.slice pp5 m.length cc6) m.length (m.flatMap lopCell) :: Im 8 (.slice pp1 l.length cc2) l.length (l.flatMap lopCell) :: blk bk12 (.cells #[.bool false] 4 (0, 0)) :: blk D86 (.deferred (some [])) :: blk D51 (.deferred (some [])) :: F)) (fun (x_ : Nat × (List UInt8)) => match x_ with | (jz, zs) => (l.getD k default).v.dgm.body.length - jz) (0, (l.getD k default).v.dgm.body) ?_ ?_ ?_
        ·exact ⟨by first | rfl | exact vint (by omega), by first | rfl | exact vint (by omega), by first | rfl | exact vint (by omega), by first | rfl | exact vint (by omega), by first | rfl | exact vint (by omega), by first | rfl | exact vint (by omega), by first | rfl | exact vint (by omega), by first | rfl | exact vint (by omega), by first | rfl | exact vint (by omega), by first | rfl | exact vint (by omega), trivial⟩
        ·exact ⟨(by omega), rfl, H135⟩
        ·rintro ⟨jz, zs⟩ ρ155 w156 ⟨hjz, hzs, H157⟩ nx158
         change Ends _ _ (upds ρ155 [(1, .slice pp5 m.length cc6), (4, .pointer (some ⟨bk12, 0, none⟩)), (9, .pointer (some ⟨bk93, 0, none⟩)), (11, .pointer (some ⟨bk96, 0, none⟩)), (109, .slice pp1 l.length cc2), (110, .int .i64 (l.length : Int)), (111, .int .i64 (k : Int)), (14, .pointer (some ⟨bk119, 0, none⟩)), (147, .int .i64 (((l.getD k default).v.dgm.body).length : Int)), (148, .int .i64 (jz : Int))]) w156
         refine g_seq ?_
         refine g_region ?_
         by_cases hc159 : (jz : Int) < (((l.getD k default).v.dgm.body).length : Int)
         ·skip
          refine r_cons (s_lss true rfl rfl (dtrue hc159) rfl ?_)
          refine r_nil ?_
          refine g_seq ?_
          refine g_true rfl ?_
          refine g_skip ?_
          refine g_seq ?_
          refine g_block ?_
          refine g_seq ?_
          refine g_region ?_
          refine r_cons (s_move (.int .i64 (jz : Int)) rfl rfl ?_)
          refine r_cons (s_assign (.int .i64 (jz : Int)) rfl rfl ?_)
          refine r_nil ?_
          refine g_region ?_
          refine r_cons (s_fieldAddr 55 2 2 2 41 rfl fi_55_2 rfl rfl ?_)
          refine r_cons (s_fieldAddr 41 5 5 7 26 rfl fi_41_5 rfl rfl ?_)
          refine r_cons (s_load (.slice pp130 (((l.getD k default).v.dgm.body).length) cc131) ag_26 rfl (H157.blk_at (i := 6) rfl) rfl rfl ?_)
          obtain ⟨bk160, cur161, hp162, h163, h164, h165, h166, h167, H168⟩ := Row.open2 H157 (i := 2) rfl (by omega)
          have hx8 : ((zs.getD jz 0).toNat ^^^ 255) < 256 := Nat.xor_lt_two_pow (n := 8) (UInt8.toNat_lt _) (by decide)
          refine r_cons (s_move (.int .i64 (jz : Int)) rfl rfl ?_)
          refine r_cons (s_indexAddr bk160 (off := 0) (jz : Int) 1 (0 + jz * 1) (by exact congrArg (fun z_ => Value.slice z_ (((l.getD k default).v.dgm.body).length) cc131) ((fun (_ : 0 < 1) => hp162) (by omega))) rfl el_26 (by omega) rfl rfl ?_)
          refine r_cons (s_load (.int .u8 ((zs.getD jz 0).toNat : Int)) ag_5 rfl (H168.blk_at (i := 2) rfl) (elem_cell (L := zs) (i := jz) u8c_len (by rw [hzs]; exact h166) (by have hh : zs.length = ((l.getD k default).v.dgm.body).length := hzs; omega) 0 0 (by decide) _ rfl) rfl ?_)
          refine r_cons (s_xor ((((zs.getD jz 0).toNat ^^^ 255) : Nat) : Int) rfl rfl (by rw [show (255 : Int) = ((255 : Nat) : Int) from rfl, bit_xor (UInt8.toNat_lt _) (by decide)]; exact (wu8 (by omega)).trans (by omega)) rfl ?_)
          refine r_cons (s_indexAddr bk160 (off := 0) (jz : Int) 1 (0 + jz * 1) (by exact congrArg (fun z_ => Value.slice z_ (((l.getD k default).v.dgm.body).length) cc131) ((fun (_ : 0 < 1) => hp162) (by omega))) rfl el_26 (by omega) rfl rfl ?_)
          have hx171 := row_set1 (f := u8c) (L := zs) (cur := cur161) u8c_len (by rw [hzs]; exact h166) (show zs.length * 1 ≤ cur161.size by rw [hzs, h165]; exact Nat.mul_le_mul_right 1 h163) (j := jz) (by have hh := hzs; omega) 0 (.int .u8 ((((zs.getD jz 0).toNat ^^^ 255) : Nat) : Int)) (UInt8.ofNat ((zs.getD jz 0).toNat ^^^ 255)) ((u8_set hx8))
          refine r_cons (s_store H168 2 (.int .u8 ((((zs.getD jz 0).toNat ^^^ 255) : Nat) : Int)) rfl rfl rfl sz_5 rfl (by have hh := hzs; have hk := (show zs.length * 1 ≤ cur161.size by rw [hzs, h165]; exact Nat.mul_le_mul_right 1 h163); omega) rfl (cs' := (cur161.setIfInBounds (0 + jz * 1) (.int .u8 ((((zs.getD jz 0).toNat ^^^ 255) : Nat) : Int)))) rfl ?_); intro w169 H170
          refine r_nil ?_
          refine g_inBlock ?_
          refine g_region ?_
          refine r_cons (s_add ((jz : Int) + 1) rfl rfl (wi64 (by omega)) rfl ?_)
          refine r_cons (s_move (.int .i64 ((jz : Int) + 1)) rfl rfl ?_)
          refine r_nil ?_
          have H172 := Row.shut2 (p := pp130) (n := ((l.getD k default).v.dgm.body).length) (c := cc131) (size := 1) (xs := (zs.set jz (UInt8.ofNat ((zs.getD jz 0).toNat ^^^ 255))).flatMap u8c) H170 (i := 2) rfl hp162 h163 h164 (show ((cur161.setIfInBounds (0 + jz * 1) (.int .u8 ((((zs.getD jz 0).toNat ^^^ 255) : Nat) : Int)))).size = cc131 * 1 from by rw [Array.size_setIfInBounds]; exact h165) (by have hh : ((cur161.setIfInBounds (0 + jz * 1) (.int .u8 ((((zs.getD jz 0).toNat ^^^ 255) : Nat) : Int))).toList.drop 0).take ((zs.set jz (UInt8.ofNat ((zs.getD jz 0).toNat ^^^ 255))).length * 1) = (zs.set jz (UInt8.ofNat ((zs.getD jz 0).toNat ^^^ 255))).flatMap u8c := hx171; have hk : (zs.set jz (UInt8.ofNat ((zs.getD jz 0).toNat ^^^ 255))).length = ((l.getD k default).v.dgm.body).length := (show (zs.set jz (UInt8.ofNat ((zs.getD jz 0).toNat ^^^ 255))).length = ((l.getD k default).v.dgm.body).length from by first | (rw [List.length_set]; exact hzs) | rw [List.length_set]); rw [hk] at hh; exact hh) (one_u8 _)
          have H173 : St W w169 (Im 8 (.slice pp5 m.length cc6) m.length (m.flatMap lopCell) :: Im 8 (.slice pp1 l.length cc2) l.length (l.flatMap lopCell) :: blk bk12 (.cells #[.bool false] 4 (0, 0)) :: blk D86 (.deferred (some [])) :: blk D51 (.deferred (some [])) :: LkA bk93 (doS s ((l.getD k default).v)) :: RfA bk96 (doS s ((l.getD k default).v)) :: Row 5 1 (.slice pp130 (((l.getD k default).v.dgm.body).length) cc131) (((l.getD k default).v.dgm.body).length) ((zs.set jz (UInt8.ofNat ((zs.getD jz 0).toNat ^^^ 255))).flatMap u8c) :: Row 5 1 (.slice pp126 (((l.getD k default).v.body).length) cc127) (((l.getD k default).v.body).length) (ys.flatMap u8c) :: Im 1 (.slice ((l.getD k default).p2) ((l.getD k default).v.dgm.body.length) ((l.getD k default).c2)) (((l.getD k default).v.dgm.body).length) (((l.getD k default).v.dgm.body).flatMap u8c) :: Im 1 (.slice ((l.getD k default).p) ((l.getD k default).v.body.length) ((l.getD k default).c)) (((l.getD k default).v.body).length) (((l.getD k default).v.body).flatMap u8c) :: blk bk119 (.cells #[.int .i64 ((l.getD k default).v.do_.v), .slice pp126 (((l.getD k default).v.body).length) cc127, .int .i64 ((l.getD k default).v.dgm.frm.v), .int .i64 ((l.getD k default).v.dgm.to_.v), .int .i64 ((l.getD k default).v.dgm.kind.v), .int .i64 ((l.getD k default).v.dgm.seq.v), .int .i64 ((l.getD k default).v.dgm.ack.v), .slice pp130 (((l.getD k default).v.dgm.body).length) cc131] 55 (0, 0)) :: imi (0 < l.length) gA101 (.cells kA103 eA104 zA105) :: byA (lopBy m) :: byA (lopBy l) :: F) := (((((H172.move 14 rfl).move 14 rfl).move 14 rfl).move 14 rfl).move 14 rfl)
          have H174 : St W w169 (Im 1 (.slice ((l.getD k default).p) ((l.getD k default).v.body.length) ((l.getD k default).c)) (((l.getD k default).v.body).length) (((l.getD k default).v.body).flatMap u8c) :: blk bk119 (.cells #[.int .i64 ((l.getD k default).v.do_.v), .slice pp126 (((l.getD k default).v.body).length) cc127, .int .i64 ((l.getD k default).v.dgm.frm.v), .int .i64 ((l.getD k default).v.dgm.to_.v), .int .i64 ((l.getD k default).v.dgm.kind.v), .int .i64 ((l.getD k default).v.dgm.seq.v), .int .i64 ((l.getD k default).v.dgm.ack.v), .slice pp130 (((l.getD k default).v.dgm.body).length) cc131] 55 (0, 0)) :: imi (0 < l.length) gA101 (.cells kA103 eA104 zA105) :: byA (lopBy m) :: byA (lopBy l) :: Im 8 (.slice pp5 m.length cc6) m.length (m.flatMap lopCell) :: Im 8 (.slice pp1 l.length cc2) l.length (l.flatMap lopCell) :: blk bk12 (.cells #[.bool false] 4 (0, 0)) :: blk D86 (.deferred (some [])) :: blk D51 (.deferred (some [])) :: LkA bk93 (doS s ((l.getD k default).v)) :: RfA bk96 (doS s ((l.getD k default).v)) :: Row 5 1 (.slice pp130 (((l.getD k default).v.dgm.body).length) cc131) (((l.getD k default).v.dgm.body).length) ((zs.set jz (UInt8.ofNat ((zs.getD jz 0).toNat ^^^ 255))).flatMap u8c) :: Row 5 1 (.slice pp126 (((l.getD k default).v.body).length) cc127) (((l.getD k default).v.body).length) (ys.flatMap u8c) :: Im 1 (.slice ((l.getD k default).p2) ((l.getD k default).v.dgm.body.length) ((l.getD k default).c2)) (((l.getD k default).v.dgm.body).length) (((l.getD k default).v.dgm.body).flatMap u8c) :: F) := (((((H173.move 14 rfl).move 14 rfl).move 14 rfl).move 14 rfl).move 14 rfl)
          have H175 : St W w169 (LkA bk93 (doS s ((l.getD k default).v)) :: RfA bk96 (doS s ((l.getD k default).v)) :: Row 5 1 (.slice pp130 (((l.getD k default).v.dgm.body).length) cc131) (((l.getD k default).v.dgm.body).length) ((zs.set jz (UInt8.ofNat ((zs.getD jz 0).toNat ^^^ 255))).flatMap u8c) :: Row 5 1 (.slice pp126 (((l.getD k default).v.body).length) cc127) (((l.getD k default).v.body).length) (ys.flatMap u8c) :: Im 1 (.slice ((l.getD k default).p2) ((l.getD k default).v.dgm.body.length) ((l.getD k default).c2)) (((l.getD k default).v.dgm.body).length) (((l.getD k default).v.dgm.body).flatMap u8c) :: Im 1 (.slice ((l.getD k default).p) ((l.getD k default).v.body.length) ((l.getD k default).c)) (((l.getD k default).v.body).length) (((l.getD k default).v.body).flatMap u8c) :: blk bk119 (.cells #[.int .i64 ((l.getD k default).v.do_.v), .slice pp126 (((l.getD k default).v.body).length) cc127, .int .i64 ((l.getD k default).v.dgm.frm.v), .int .i64 ((l.getD k default).v.dgm.to_.v), .int .i64 ((l.getD k default).v.dgm.kind.v), .int .i64 ((l.getD k default).v.dgm.seq.v), .int .i64 ((l.getD k default).v.dgm.ack.v), .slice pp130 (((l.getD k default).v.dgm.body).length) cc131] 55 (0, 0)) :: imi (0 < l.length) gA101 (.cells kA103 eA104 zA105) :: byA (lopBy m) :: byA (lopBy l) :: Im 8 (.slice pp5 m.length cc6) m.length (m.flatMap lopCell) :: Im 8 (.slice pp1 l.length cc2) l.length (l.flatMap lopCell) :: blk bk12 (.cells #[.bool false] 4 (0, 0)) :: blk D86 (.deferred (some [])) :: blk D51 (.deferred (some [])) :: F) := (((((H174.move 14 rfl).move 14 rfl).move 14 rfl).move 14 rfl).move 14 rfl)
          have H176 : St W w169 (LkA bk93 (doS s ((l.getD k default).v)) :: RfA bk96 (doS s ((l.getD k default).v)) :: Row 5 1 (.slice pp130 (((l.getD k default).v.dgm.body).length) cc131) (((l.getD k default).v.dgm.body).length) ((zs.set jz (UInt8.ofNat ((zs.getD jz 0).toNat ^^^ 255))).flatMap u8c) :: Row 5 1 (.slice pp126 (((l.getD k default).v.body).length) cc127) (((l.getD k default).v.body).length) (ys.flatMap u8c) :: Im 1 (.slice ((l.getD k default).p2) ((l.getD k default).v.dgm.body.length) ((l.getD k default).c2)) (((l.getD k default).v.dgm.body).length) (((l.getD k default).v.dgm.body).flatMap u8c) :: Im 1 (.slice ((l.getD k default).p) ((l.getD k default).v.body.length) ((l.getD k default).c)) (((l.getD k default).v.body).length) (((l.getD k default).v.body).flatMap u8c) :: blk bk119 (.cells #[.int .i64 ((l.getD k default).v.do_.v), .slice pp126 (((l.getD k default).v.body).length) cc127, .int .i64 ((l.getD k default).v.dgm.frm.v), .int .i64 ((l.getD k default).v.dgm.to_.v), .int .i64 ((l.getD k default).v.dgm.kind.v), .int .i64 ((l.getD k default).v.dgm.seq.v), .int .i64 ((l.getD k default).v.dgm.ack.v), .slice pp130 (((l.getD k default).v.dgm.body).length) cc131] 55 (0, 0)) :: imi (0 < l.length) gA101 (.cells kA103 eA104 zA105) :: byA (lopBy m) :: byA (lopBy l) :: Im 8 (.slice pp5 m.length cc6) m.length (m.flatMap lopCell) :: Im 8 (.slice pp1 l.length cc2) l.length (l.flatMap lopCell) :: blk bk12 (.cells #[.bool false] 4 (0, 0)) :: blk D86 (.deferred (some [])) :: blk D51 (.deferred (some [])) :: F) := H175
          exact nx158 (jz + 1, zs.set jz (UInt8.ofNat ((zs.getD jz 0).toNat ^^^ 255))) _ _ ⟨(by omega), (by rw [List.length_set]; exact hzs), H176⟩ (by first | (dsimp only; omega) | omega) ⟨by first | rfl | exact vint (by omega), by first | rfl | exact vint (by omega), by first | rfl | exact vint (by omega), by first | rfl | exact vint (by omega), by first | rfl | exact vint (by omega), by first | rfl | exact vint (by omega), by first | rfl | exact vint (by omega), by first | rfl | exact vint (by omega), by first | rfl | exact vint (by omega), by first | rfl | exact vint (by omega), trivial⟩
         ·skip
          refine r_cons (s_lss false rfl rfl (dfalse hc159) rfl ?_)
          refine r_nil ?_
          refine g_seq ?_
          refine g_false rfl ?_
          refine g_exit (by rfl) ?_
          refine g_inBlock ?_
          refine g_region ?_
          refine r_cons (s_add ((k : Int) + 1) rfl rfl (wi64 (by omega)) rfl ?_)
          refine r_cons (s_move (.int .i64 ((k : Int) + 1)) rfl rfl ?_)
          refine r_nil ?_
          have H177 : St W w156 (LkA bk93 (doS s ((l.getD k default).v)) :: RfA bk96 (doS s ((l.getD k default).v)) :: imi (0 < l.length) gA101 (.cells kA103 eA104 zA105) :: byA (lopBy m) :: byA (lopBy l) :: Im 8 (.slice pp5 m.length cc6) m.length (m.flatMap lopCell) :: Im 8 (.slice pp1 l.length cc2) l.length (l.flatMap lopCell) :: blk bk12 (.cells #[.bool false] 4 (0, 0)) :: blk D86 (.deferred (some [])) :: blk D51 (.deferred (some [])) :: F) := (((((((((((((((H157.move 14 rfl).move 14 rfl).move 14 rfl).move 14 rfl).move 14 rfl).move 14 rfl).move 14 rfl).move 14 rfl).move 9 rfl).move 9 rfl).drop 10 rfl).drop 10 rfl).drop 10 rfl).drop 10 rfl).drop 10 rfl)
          exact nx117 (k + 1, (doS s (l.getD k default).v)) _ _ ⟨(by omega), hD2, H177⟩ (by first | (dsimp only; omega) | omega) ⟨by first | rfl | exact vint (by omega), by first | rfl | exact vint (by omega), by first | rfl | exact vint (by omega), by first | rfl | exact vint (by omega), by first | rfl | exact vint (by omega), by first | rfl | exact vint (by omega), by first | rfl | exact vint (by omega), trivial⟩
     ·intro join126
      refine g_any mixed 12 rfl ?_
      intro w178 hw179
      have H180 := H125.drew
      rw [← hw179] at H180
      clear hw179
      refine a_take 0 (listed' := #[true, false, false, false, false, false, false, false, false, false, false, false]) rfl (by kernel_rfl) (by kernel_rfl) (by kernel_rfl) rfl rfl rfl rfl (fun w => x_fieldAddr 55 1 1 1 26 rfl fi_55_1 rfl w) ?_
      refine a_take 3 (listed' := #[true, false, false, true, false, false, false, false, false, false, false, false]) rfl (by kernel_rfl) (by kernel_rfl) (by kernel_rfl) rfl rfl rfl rfl (fun w => x_fieldAddr 55 2 2 2 41 rfl fi_55_2 rfl w) ?_
      refine a_take 4 (listed' := #[true, false, false, true, true, false, false, false, false, false, false, false]) rfl (by kernel_rfl) (by kernel_rfl) (by kernel_rfl) rfl rfl rfl rfl (fun w => x_fieldAddr 41 5 5 7 26 rfl fi_41_5 rfl w) ?_
      refine a_all (rs := [1, 5]) (by kernel_rfl) (by simp) ?_
      refine a_cons ⟨_, rfl, ?_⟩ (a_cons ⟨_, rfl, ?_⟩ (fun x hx => absurd hx (by simp)))
      ·skip
       refine s_load (.slice ((l.getD k default).p) ((l.getD k default).v.body.length) ((l.getD k default).c)) ag_26 rfl (H180.blk_at (i := 2) rfl) rfl rfl ?_
       change AnyG _ _ _ _ #[true, true, false, true, true, false, false, false, false, false, false, false] _ _
       refine a_all (rs := [2, 5]) (by kernel_rfl) (by simp) ?_
       refine a_cons ⟨_, rfl, ?_⟩ (a_cons ⟨_, rfl, ?_⟩ (fun x hx => absurd hx (by simp)))
       ·skip
        refine s_call [.slice ((l.getD k default).p) ((l.getD k default).v.body.length) ((l.getD k default).c)] pl_29 rfl rfl (bytes_Clone _ _ (((l.getD k default).v.body).length) (((l.getD k default).v.body).flatMap u8c) RdA.im (by first | omega | (have hlp := Nat.le_refl 0; omega)) (j := 1) rfl H180) ?_
        rintro _ w183 ⟨pp181, cc182, rfl, H184⟩
        change AnyG _ _ _ _ #[true, true, true, true, true, false, false, false, false, false, false, false] _ _
        refine a_all (rs := [5]) (by kernel_rfl) (by simp) ?_
        refine a_cons ⟨_, rfl, ?_⟩ (fun x hx => absurd hx (by simp))
        refine s_load (.slice ((l.getD k default).p2) ((l.getD k default).v.dgm.body.length) ((l.getD k default).c2)) ag_26 rfl (H184.blk_at (i := 3) rfl) rfl rfl ?_
        change AnyG _ _ _ _ #[true, true, true, true, true, true, false, false, false, false, false, false] _ _
        refine a_take 7 (listed' := #[true, true, true, true, true, true, false, true, false, false, false, false]) rfl (by kernel_rfl) (by kernel_rfl) (by kernel_rfl) rfl rfl rfl rfl (fun w => x_fieldAddr 55 1 1 1 26 rfl fi_55_1 rfl w) ?_
        refine a_all (rs := [6]) (by kernel_rfl) (by simp) ?_
        refine a_cons ⟨_, rfl, ?_⟩ (fun x hx => absurd hx (by simp))
        refine s_call [.slice ((l.getD k default).p2) ((l.getD k default).v.dgm.body.length) ((l.getD k default).c2)] pl_29 rfl rfl (bytes_Clone _ _ (((l.getD k default).v.dgm.body).length) (((l.getD k default).v.dgm.body).flatMap u8c) RdA.im (by first | omega | (have hlp := Nat.le_refl 0; omega)) (j := 1) rfl H184) ?_
        rintro _ w187 ⟨pp185, cc186, rfl, H188⟩
        change AnyG _ _ _ _ #[true, true, true, true, true, true, true, true, false, false, false, false] _ _
        refine a_all (rs := [8]) (by kernel_rfl) (by simp) ?_
        refine a_cons ⟨_, rfl, ?_⟩ (fun x hx => absurd hx (by simp))
        refine s_store H188 4 (.slice pp181 (((l.getD k default).v.body).length) cc182) rfl rfl rfl sz_26 rfl (nbl rfl) rfl (cs' := #[.int .i64 ((l.getD k default).v.do_.v), .slice pp181 (((l.getD k default).v.body).length) cc182, .int .i64 ((l.getD k default).v.dgm.frm.v), .int .i64 ((l.getD k default).v.dgm.to_.v), .int .i64 ((l.getD k default).v.dgm.kind.v), .int .i64 ((l.getD k default).v.dgm.seq.v), .int .i64 ((l.getD k default).v.dgm.ack.v), .slice ((l.getD k default).p2) ((l.getD k default).v.dgm.body.length) ((l.getD k default).c2)]) rfl ?_; intro w189 H190
        change AnyG _ _ _ _ #[true, true, true, true, true, true, true, true, true, false, false, false] _ _
        refine a_take 9 (listed' := #[true, true, true, true, true, true, true, true, true, true, false, false]) rfl (by kernel_rfl) (by kernel_rfl) (by kernel_rfl) rfl rfl rfl rfl (fun w => x_fieldAddr 55 2 2 2 41 rfl fi_55_2 rfl w) ?_
        refine a_take 10 (listed' := #[true, true, true, true, true, true, true, true, true, true, true, false]) rfl (by kernel_rfl) (by kernel_rfl) (by kernel_rfl) rfl rfl rfl rfl (fun w => x_fieldAddr 41 5 5 7 26 rfl fi_41_5 rfl w) ?_
        refine a_all (rs := [11]) (by kernel_rfl) (by simp) ?_
        refine a_cons ⟨_, rfl, ?_⟩ (fun x hx => absurd hx (by simp))
        refine s_store H190 4 (.slice pp185 (((l.getD k default).v.dgm.body).length) cc186) rfl rfl rfl sz_26 rfl (nbl rfl) rfl (cs' := #[.int .i64 ((l.getD k default).v.do_.v), .slice pp181 (((l.getD k default).v.body).length) cc182, .int .i64 ((l.getD k default).v.dgm.frm.v), .int .i64 ((l.getD k default).v.dgm.to_.v), .int .i64 ((l.getD k default).v.dgm.kind.v), .int .i64 ((l.getD k default).v.dgm.seq.v), .int .i64 ((l.getD k default).v.dgm.ack.v), .slice pp185 (((l.getD k default).v.dgm.body).length) cc186]) rfl ?_; intro w191 H192
        change AnyG _ _ _ _ #[true, true, true, true, true, true, true, true, true, true, true, true] _ _
        refine a_done (by kernel_rfl) ?_
        exact join126 (pp181, cc182, pp185, cc186) _ _ H192 ⟨rfl, rfl, rfl, rfl, rfl, rfl, rfl, rfl, rfl, rfl, rfl, rfl, rfl, rfl, rfl, rfl, rfl, rfl, rfl, rfl, rfl, trivial⟩
       ·skip
        refine s_load (.slice ((l.getD k default).p2) ((l.getD k default).v.dgm.body.length) ((l.getD k default).c2)) ag_26 rfl (H180.blk_at (i := 2) rfl) rfl rfl ?_
        change AnyG _ _ _ _ #[true, true, false, true, true, true, false, false, false, false, false, false] _ _
        refine a_all (rs := [2]) (by kernel_rfl) (by simp) ?_
        refine a_cons ⟨_, rfl, ?_⟩ (fun x hx => absurd hx (by simp))
        refine s_call [.slice ((l.getD k default).p) ((l.getD k default).v.body.length) ((l.getD k default).c)] pl_29 rfl rfl (bytes_Clone _ _ (((l.getD k default).v.body).length) (((l.getD k default).v.body).flatMap u8c) RdA.im (by first | omega | (have hlp := Nat.le_refl 0; omega)) (j := 1) rfl H180) ?_
        rintro _ w195 ⟨pp193, cc194, rfl, H196⟩
        change AnyG _ _ _ _ #[true, true, true, true, true, true, false, false, false, false, false, false] _ _
        refine a_take 7 (listed' := #[true, true, true, true, true, true, false, true, false, false, false, false]) rfl (by kernel_rfl) (by kernel_rfl) (by kernel_rfl) rfl rfl rfl rfl (fun w => x_fieldAddr 55 1 1 1 26 rfl fi_55_1 rfl w) ?_
        refine a_all (rs := [6]) (by kernel_rfl) (by simp) ?_
        refine a_cons ⟨_, rfl, ?_⟩ (fun x hx => absurd hx (by simp))
        refine s_call [.slice ((l.getD k default).p2) ((l.getD k default).v.dgm.body.length) ((l.getD k default).c2)] pl_29 rfl rfl (bytes_Clone _ _ (((l.getD k default).v.dgm.body).length) (((l.getD k default).v.dgm.body).flatMap u8c) RdA.im (by first | omega | (have hlp := Nat.le_refl 0; omega)) (j := 1) rfl H196) ?_
        rintro _ w199 ⟨pp197, cc198, rfl, H200⟩
        change AnyG _ _ _ _ #[true, true, true, true, true, true, true, true, false, false, false, false] _ _
        refine a_all (rs := [8]) (by kernel_rfl) (by simp) ?_
        refine a_cons ⟨_, rfl, ?_⟩ (fun x hx => absurd hx (by simp))
        refine s_store H200 4 (.slice pp193 (((l.getD k default).v.body).length) cc194) rfl rfl rfl sz_26 rfl (nbl rfl) rfl (cs' := #[.int .i64 ((l.getD k default).v.do_.v), .slice pp193 (((l.getD k default).v.body).length) cc194, .int .i64 ((l.getD k default).v.dgm.frm.v), .int .i64 ((l.getD k default).v.dgm.to_.v), .int .i64 ((l.getD k default).v.dgm.kind.v), .int .i64 ((l.getD k default).v.dgm.seq.v), .int .i64 ((l.getD k default).v.dgm.ack.v), .slice ((l.getD k default).p2) ((l.getD k default).v.dgm.body.length) ((l.getD k default).c2)]) rfl ?_; intro w201 H202
        change AnyG _ _ _ _ #[true, true, true, true, true, true, true, true, true, false, false, false] _ _
        refine a_take 9 (listed' := #[true, true, true, true, true, true, true, true, true, true, false, false]) rfl (by kernel_rfl) (by kernel_rfl) (by kernel_rfl) rfl rfl rfl rfl (fun w => x_fieldAddr 55 2 2 2 41 rfl fi_55_2 rfl w) ?_
        refine a_take 10 (listed' := #[true, true, true, true, true, true, true, true, true, true, true, false]) rfl (by kernel_rfl) (by kernel_rfl) (by kernel_rfl) rfl rfl rfl rfl (fun w => x_fieldAddr 41 5 5 7 26 rfl fi_41_5 rfl w) ?_
        refine a_all (rs := [11]) (by kernel_rfl) (by simp) ?_
        refine a_cons ⟨_, rfl, ?_⟩ (fun x hx => absurd hx (by simp))
        refine s_store H202 4 (.slice pp197 (((l.getD k default).v.dgm.body).length) cc198) rfl rfl rfl sz_26 rfl (nbl rfl) rfl (cs' := #[.int .i64 ((l.getD k default).v.do_.v), .slice pp193 (((l.getD k default).v.body).length) cc194, .int .i64 ((l.getD k default).v.dgm.frm.v), .int .i64 ((l.getD k default).v.dgm.to_.v), .int .i64 ((l.getD k default).v.dgm.kind.v), .int .i64 ((l.getD k default).v.dgm.seq.v), .int .i64 ((l.getD k default).v.dgm.ack.v), .slice pp197 (((l.getD k default).v.dgm.body).length) cc198]) rfl ?_; intro w203 H204
        change AnyG _ _ _ _ #[true, true, true, true, true, true, true, true, true, true, true, true] _ _
        refine a_done (by kernel_rfl) ?_
        exact join126 (pp193, cc194, pp197, cc198) _ _ H204 ⟨rfl, rfl, rfl, rfl, rfl, rfl, rfl, rfl, rfl, rfl, rfl, rfl, rfl, rfl, rfl, rfl, rfl, rfl, rfl, rfl, rfl, trivial⟩
      ·skip
       refine s_load (.slice ((l.getD k default).p2) ((l.getD k default).v.dgm.body.length) ((l.getD k default).c2)) ag_26 rfl (H180.blk_at (i := 2) rfl) rfl rfl ?_
       change AnyG _ _ _ _ #[true, false, false, true, true, true, false, false, false, false, false, false] _ _
       refine a_all (rs := [1]) (by kernel_rfl) (by simp) ?_
       refine a_cons ⟨_, rfl, ?_⟩ (fun x hx => absurd hx (by simp))
       refine s_load (.slice ((l.getD k default).p) ((l.getD k default).v.body.length) ((l.getD k default).c)) ag_26 rfl (H180.blk_at (i := 2) rfl) rfl rfl ?_
       change AnyG _ _ _ _ #[true, true, false, true, true, true, false, false, false, false, false, false] _ _
       refine a_all (rs := [2]) (by kernel_rfl) (by simp) ?_
       refine a_cons ⟨_, rfl, ?_⟩ (fun x hx => absurd hx (by simp))
       refine s_call [.slice ((l.getD k default).p) ((l.getD k default).v.body.length) ((l.getD k default).c)] pl_29 rfl rfl (bytes_Clone _ _ (((l.getD k default).v.body).length) (((l.getD k default).v.body).flatMap u8c) RdA.im (by first | omega | (have hlp := Nat.le_refl 0; omega)) (j := 1) rfl H180) ?_
       rintro _ w207 ⟨pp205, cc206, rfl, H208⟩
       change AnyG _ _ _ _ #[true, true, true, true, true, true, false, false, false, false, false, false] _ _
       refine a_take 7 (listed' := #[true, true, true, true, true, true, false, true, false, false, false, false]) rfl (by kernel_rfl) (by kernel_rfl) (by kernel_rfl) rfl rfl rfl rfl (fun w => x_fieldAddr 55 1 1 1 26 rfl fi_55_1 rfl w) ?_
       refine a_all (rs := [6]) (by kernel_rfl) (by simp) ?_
       refine a_cons ⟨_, rfl, ?_⟩ (fun x hx => absurd hx (by simp))
       refine s_call [.slice ((l.getD k default).p2) ((l.getD k default).v.dgm.body.length) ((l.getD k default).c2)] pl_29 rfl rfl (bytes_Clone _ _ (((l.getD k default).v.dgm.body).length) (((l.getD k default).v.dgm.body).flatMap u8c) RdA.im (by first | omega | (have hlp := Nat.le_refl 0; omega)) (j := 1) rfl H208) ?_
       rintro _ w211 ⟨pp209, cc210, rfl, H212⟩
       change AnyG _ _ _ _ #[true, true, true, true, true, true, true, true, false, false, false, false] _ _
       refine a_all (rs := [8]) (by kernel_rfl) (by simp) ?_
       refine a_cons ⟨_, rfl, ?_⟩ (fun x hx => absurd hx (by simp))
       refine s_store H212 4 (.slice pp205 (((l.getD k default).v.body).length) cc206) rfl rfl rfl sz_26 rfl (nbl rfl) rfl (cs' := #[.int .i64 ((l.getD k default).v.do_.v), .slice pp205 (((l.getD k default).v.body).length) cc206, .int .i64 ((l.getD k default).v.dgm.frm.v), .int .i64 ((l.getD k default).v.dgm.to_.v), .int .i64 ((l.getD k default).v.dgm.kind.v), .int .i64 ((l.getD k default).v.dgm.seq.v), .int .i64 ((l.getD k default).v.dgm.ack.v), .slice ((l.getD k default).p2) ((l.getD k default).v.dgm.body.length) ((l.getD k default).c2)]) rfl ?_; intro w213 H214
       change AnyG _ _ _ _ #[true, true, true, true, true, true, true, true, true, false, false, false] _ _
       refine a_take 9 (listed' := #[true, true, true, true, true, true, true, true, true, true, false, false]) rfl (by kernel_rfl) (by kernel_rfl) (by kernel_rfl) rfl rfl rfl rfl (fun w => x_fieldAddr 55 2 2 2 41 rfl fi_55_2 rfl w) ?_
       refine a_take 10 (listed' := #[true, true, true, true, true, true, true, true, true, true, true, false]) rfl (by kernel_rfl) (by kernel_rfl) (by kernel_rfl) rfl rfl rfl rfl (fun w => x_fieldAddr 41 5 5 7 26 rfl fi_41_5 rfl w) ?_
       refine a_all (rs := [11]) (by kernel_rfl) (by simp) ?_
       refine a_cons ⟨_, rfl, ?_⟩ (fun x hx => absurd hx (by simp))
       refine s_store H214 4 (.slice pp209 (((l.getD k default).v.dgm.body).length) cc210) rfl rfl rfl sz_26 rfl (nbl rfl) rfl (cs' := #[.int .i64 ((l.getD k default).v.do_.v), .slice pp205 (((l.getD k default).v.body).length) cc206, .int .i64 ((l.getD k default).v.dgm.frm.v), .int .i64 ((l.getD k default).v.dgm.to_.v), .int .i64 ((l.getD k default).v.dgm.kind.v), .int .i64 ((l.getD k default).v.dgm.seq.v), .int .i64 ((l.getD k default).v.dgm.ack.v), .slice pp209 (((l.getD k default).v.dgm.body).length) cc210]) rfl ?_; intro w215 H216
       change AnyG _ _ _ _ #[true, true, true, true, true, true, true, true, true, true, true, true] _ _
       refine a_done (by kernel_rfl) ?_
       exact join126 (pp205, cc206, pp209, cc210) _ _ H216 ⟨rfl, rfl, rfl, rfl, rfl, rfl, rfl, rfl, rfl, rfl, rfl, rfl, rfl, rfl, rfl, rfl, rfl, rfl, rfl, rfl, rfl, trivial⟩
    ·skip
     refine r_cons (s_lss false rfl rfl (dfalse hc118) rfl ?_)
     refine r_nil ?_
     refine g_seq ?_
     refine g_false rfl ?_
     refine g_exit (by rfl) ?_
     refine g_seq ?_
     refine g_region ?_
     refine r_cons (s_move (.pointer (some ⟨bk93, 0, none⟩)) rfl rfl ?_)
     refine r_cons (s_call [.pointer (some ⟨bk93, 0, none⟩)] pl_27 rfl rfl (Lk_Clone bk93 s hD.i (i := 0) rfl H116) ?_)
     rintro _ w220 ⟨bk217, h2218, rfl, hp219, H221⟩
     refine r_cons (s_move (.pointer (some ⟨bk96, 0, none⟩)) rfl rfl ?_)
     refine r_cons (s_call [.pointer (some ⟨bk96, 0, none⟩)] pl_30 rfl rfl (Rf_Clone bk96 s hD.i (i := 2) rfl H221) ?_)
     rintro _ w223 ⟨bk222, rfl, H224⟩
     refine r_cons (s_assign (.pointer (some ⟨bk217, 0, none⟩)) rfl rfl ?_)
     refine r_cons (s_assign (.pointer (some ⟨bk222, 0, none⟩)) rfl rfl ?_)
     refine r_nil ?_
     refine g_seq ?_
     refine g_seq ?_
     refine g_region ?_
     refine r_cons (s_move (.slice pp5 m.length cc6) rfl rfl ?_)
     refine r_cons (s_len m.length rfl ⟨_, un_47⟩ rfl ?_)
     refine r_cons (s_move (.int .i64 0) rfl rfl ?_)
     refine r_nil ?_
     refine g_block ?_
     have H225 : St W w223 (RfA bk222 ({ s with held := h2218 } : EndV) :: LkA bk217 ({ s with held := h2218 } : EndV) :: LkA bk93 s :: RfA bk96 s :: imi (0 < l.length) gA101 (.cells kA103 eA104 zA105) :: byA (lopBy m) :: byA (lopBy l) :: Im 8 (.slice pp5 m.length cc6) m.length (m.flatMap lopCell) :: Im 8 (.slice pp1 l.length cc2) l.length (l.flatMap lopCell) :: blk bk12 (.cells #[.bool false] 4 (0, 0)) :: blk D86 (.deferred (some [])) :: blk D51 (.deferred (some [])) :: F) := RfA_perm hp219 H224
     have hk9 : k = l.length := by omega
     have hD30 : DInv (l.length + 0) ({ s with held := h2218 } : EndV) := hk9 ▸ hD.perm hp219
     obtain ⟨pA226, cA227, gA228, oA229, kA230, eA231, zA232, he238, hn233, hp234, hx235, hs236, hml, H237⟩ := Im.open_ H225 (i := 7) rfl
     obtain ⟨rfl, rfl⟩ : pp5 = pA226 ∧ cc6 = cA227 := by injection he238 with a_ b_ c_; exact ⟨a_, c_⟩
     have H239 : St W w223 (Im 8 (.slice pp5 m.length cc6) m.length (m.flatMap lopCell) :: Im 8 (.slice pp1 l.length cc2) l.length (l.flatMap lopCell) :: blk bk12 (.cells #[.bool false] 4 (0, 0)) :: blk D86 (.deferred (some [])) :: blk D51 (.deferred (some [])) :: imi (0 < m.length) gA228 (.cells kA230 eA231 zA232) :: RfA bk222 ({ s with held := h2218 } : EndV) :: LkA bk217 ({ s with held := h2218 } : EndV) :: LkA bk93 s :: RfA bk96 s :: imi (0 < l.length) gA101 (.cells kA103 eA104 zA105) :: byA (lopBy m) :: byA (lopBy l) :: F) := (((((H237.move 12 rfl).move 12 rfl).move 12 rfl).move 12 rfl).move 12 rfl)
     have H240 : St W w223 (RfA bk96 s :: imi (0 < m.length) gA228 (.cells kA230 eA231 zA232) :: imi (0 < l.length) gA101 (.cells kA103 eA104 zA105) :: byA (lopBy m) :: byA (lopBy l) :: Im 8 (.slice pp5 m.length cc6) m.length (m.flatMap lopCell) :: Im 8 (.slice pp1 l.length cc2) l.length (l.flatMap lopCell) :: blk bk12 (.cells #[.bool false] 4 (0, 0)) :: blk D86 (.deferred (some [])) :: blk D51 (.deferred (some [])) :: RfA bk222 ({ s with held := h2218 } : EndV) :: LkA bk217 ({ s with held := h2218 } : EndV) :: LkA bk93 s :: F) := (((((H239.move 12 rfl).move 12 rfl).move 12 rfl).move 8 rfl).move 12 rfl)
     have H241 : St W w223 (LkA bk217 ({ s with held := h2218 } : EndV) :: RfA bk222 ({ s with held := h2218 } : EndV) :: LkA bk93 s :: RfA bk96 s :: imi (0 < m.length) gA228 (.cells kA230 eA231 zA232) :: imi (0 < l.length) gA101 (.cells kA103 eA104 zA105) :: byA (lopBy m) :: byA (lopBy l) :: Im 8 (.slice pp5 m.length cc6) m.length (m.flatMap lopCell) :: Im 8 (.slice pp1 l.length cc2) l.length (l.flatMap lopCell) :: blk bk12 (.cells #[.bool false] 4 (0, 0)) :: blk D86 (.deferred (some [])) :: blk D51 (.deferred (some [])) :: F) := (((H240.move 12 rfl).move 11 rfl).move 12 rfl)
     have H242 : St W w223 (LkA bk217 ({ s with held := h2218 } : EndV) :: RfA bk222 ({ s with held := h2218 } : EndV) :: LkA bk93 s :: RfA bk96 s :: imi (0 < m.length) gA228 (.cells kA230 eA231 zA232) :: imi (0 < l.length) gA101 (.cells kA103 eA104 zA105) :: byA (lopBy m) :: byA (lopBy l) :: Im 8 (.slice pp5 m.length cc6) m.length (m.flatMap lopCell) :: Im 8 (.slice pp1 l.length cc2) l.length (l.flatMap lopCell) :: blk bk12 (.cells #[.bool false] 4 (0, 0)) :: blk D86 (.deferred (some [])) :: blk D51 (.deferred (some [])) :: F) := H241
     refine g_loop_inv (fun (x_ : Nat × EndV) => match x_ with | (k3, s3) => [(4, .pointer (some ⟨bk12, 0, none⟩)), (9, .pointer (some ⟨bk93, 0, none⟩)), (11, .pointer (some ⟨bk96, 0, none⟩)), (17, .pointer (some ⟨bk217, 0, none⟩)), (18, .pointer (some ⟨bk222, 0, none⟩)), (165, .slice pp5 m.length cc6), (166, .int .i64 (m.length : Int)), (167, .int .i64 (k3 : Int))]) (fun (x_ : Nat × EndV) w => match x_ with | (k3, s3) => (k3 ≤ m.length) ∧ (DInv (l.length + k3) s3) ∧ St W w (LkA bk217 s3 :: RfA bk222 s3 :: LkA bk93 s :: RfA bk96 s :: imi (0 < m.length) gA228 (.cells kA230 eA231 zA232) :: imi (0 < l.length) gA101 (.cells kA103 eA104 zA105) :: byA (lopBy m) :: byA (lopBy l) :: Im 8 (.slice pp5 m.length cc6) m.length (m.flatMap lopCell) :: Im 8 (.slice pp1 l.length cc2) l.length (l.flatMap lopCell) :: blk bk12 (.cells #[.bool false] 4 (0, 0)) :: blk D86 (.deferred (some [])) :: blk D51 (.deferred (some [])) :: F)) (fun (x_ : Nat × EndV) => match x_ with | (k3, s3) => m.length - k3) (0, ({ s with held := h2218 } : EndV)) ?_ ?_ ?_
     ·exact ⟨by first | rfl | exact vint (by omega), by first | rfl | exact vint (by omega), by first | rfl | exact vint (by omega), by first | rfl | exact vint (by omega), by first | rfl | exact vint (by omega), by first | rfl | exact vint (by omega), by first | rfl | exact vint (by omega), by first | rfl | exact vint (by omega), trivial⟩
     ·exact ⟨(by omega), hD30, H242⟩
     ·rintro ⟨k3, s3⟩ ρ243 w244 ⟨hkn3, hD3, H245⟩ nx246
      change Ends _ _ (upds ρ243 [(4, .pointer (some ⟨bk12, 0, none⟩)), (9, .pointer (some ⟨bk93, 0, none⟩)), (11, .pointer (some ⟨bk96, 0, none⟩)), (17, .pointer (some ⟨bk217, 0, none⟩)), (18, .pointer (some ⟨bk222, 0, none⟩)), (165, .slice pp5 m.length cc6), (166, .int .i64 (m.length : Int)), (167, .int .i64 (k3 : Int))]) w244
      refine g_seq ?_
      refine g_region ?_
      by_cases hc247 : (k3 : Int) < (m.length : Int)
      ·skip
       refine r_cons (s_lss true rfl rfl (dtrue hc247) rfl ?_)
       refine r_nil ?_
       refine g_seq ?_
       refine g_true rfl ?_
       refine g_skip ?_
       refine g_seq ?_
       refine g_block ?_
       refine g_seq ?_
       refine g_region ?_
       refine r_cons (s_indexAddr gA228 (off := oA229) (k3 : Int) 8 (oA229 + k3 * 8) (by exact congrArg (fun z_ => Value.slice z_ m.length cc6) (hp234 (by omega))) rfl el_47 (by omega) rfl rfl ?_)
       refine r_cons (s_loadAgg [.int .i64 ((m.getD k3 default).v.do_.v), .slice ((m.getD k3 default).p) ((m.getD k3 default).v.body.length) ((m.getD k3 default).c), .int .i64 ((m.getD k3 default).v.dgm.frm.v), .int .i64 ((m.getD k3 default).v.dgm.to_.v), .int .i64 ((m.getD k3 default).v.dgm.kind.v), .int .i64 ((m.getD k3 default).v.dgm.seq.v), .int .i64 ((m.getD k3 default).v.dgm.ack.v), .slice ((m.getD k3 default).p2) ((m.getD k3 default).v.dgm.body.length) ((m.getD k3 default).c2)] 8 ag_55 rfl (H245.imi_at (i := 4) rfl (by omega)) (by have := elem_size (i := k3) (s := 8) (hs236 (by omega)) (by omega); omega) (elem_take lopCell_len (hx235 (by omega)) (by omega) default) rfl ?_)
       refine r_cons (s_alloc H245 55 ze_55 rfl ?_); intro bk248 w249 H250
       refine r_cons (s_storeAgg H250 0 #[.int .i64 ((m.getD k3 default).v.do_.v), .slice ((m.getD k3 default).p) ((m.getD k3 default).v.body.length) ((m.getD k3 default).c), .int .i64 ((m.getD k3 default).v.dgm.frm.v), .int .i64 ((m.getD k3 default).v.dgm.to_.v), .int .i64 ((m.getD k3 default).v.dgm.kind.v), .int .i64 ((m.getD k3 default).v.dgm.seq.v), .int .i64 ((m.getD k3 default).v.dgm.ack.v), .slice ((m.getD k3 default).p2) ((m.getD k3 default).v.dgm.body.length) ((m.getD k3 default).c2)] 8 rfl rfl rfl sz_55 rfl (by simp [Value.oneCell']) (nbl rfl) (fun o h1 h2 => by first | (simp; done) | (simp; omega)) (cs' := #[.int .i64 ((m.getD k3 default).v.do_.v), .slice ((m.getD k3 default).p) ((m.getD k3 default).v.body.length) ((m.getD k3 default).c), .int .i64 ((m.getD k3 default).v.dgm.frm.v), .int .i64 ((m.getD k3 default).v.dgm.to_.v), .int .i64 ((m.getD k3 default).v.dgm.kind.v), .int .i64 ((m.getD k3 default).v.dgm.seq.v), .int .i64 ((m.getD k3 default).v.dgm.ack.v), .slice ((m.getD k3 default).p2) ((m.getD k3 default).v.dgm.body.length) ((m.getD k3 default).c2)]) rfl ?_); intro w251 H252
       refine r_nil ?_
       refine g_seq ?_
       refine g_region ?_
       refine r_cons (s_move (.pointer (some ⟨bk217, 0, none⟩)) rfl rfl ?_)
       refine r_cons (s_move (.pointer (some ⟨bk222, 0, none⟩)) rfl rfl ?_)
       refine r_cons (s_loadAgg [.int .i64 ((m.getD k3 default).v.do_.v), .slice ((m.getD k3 default).p) ((m.getD k3 default).v.body.length) ((m.getD k3 default).c), .int .i64 ((m.getD k3 default).v.dgm.frm.v), .int .i64 ((m.getD k3 default).v.dgm.to_.v), .int .i64 ((m.getD k3 default).v.dgm.kind.v), .int .i64 ((m.getD k3 default).v.dgm.seq.v), .int .i64 ((m.getD k3 default).v.dgm.ack.v), .slice ((m.getD k3 default).p2) ((m.getD k3 default).v.dgm.body.length) ((m.getD k3 default).c2)] 8 ag_55 rfl (H252.blk_at (i := 0) rfl) (nbl rfl) rfl rfl ?_)
       have H253 : St W w251 (Im 1 (.slice ((m.getD k3 default).p) ((m.getD k3 default).v.body.length) ((m.getD k3 default).c)) (((m.getD k3 default).v.body).length) (((m.getD k3 default).v.body).flatMap u8c) :: blk bk248 (.cells #[.int .i64 ((m.getD k3 default).v.do_.v), .slice ((m.getD k3 default).p) ((m.getD k3 default).v.body.length) ((m.getD k3 default).c), .int .i64 ((m.getD k3 default).v.dgm.frm.v), .int .i64 ((m.getD k3 default).v.dgm.to_.v), .int .i64 ((m.getD k3 default).v.dgm.kind.v), .int .i64 ((m.getD k3 default).v.dgm.seq.v), .int .i64 ((m.getD k3 default).v.dgm.ack.v), .slice ((m.getD k3 default).p2) ((m.getD k3 default).v.dgm.body.length) ((m.getD k3 default).c2)] 55 (0, 0)) :: LkA bk217 s3 :: RfA bk222 s3 :: LkA bk93 s :: RfA bk96 s :: imi (0 < m.length) gA228 (.cells kA230 eA231 zA232) :: imi (0 < l.length) gA101 (.cells kA103 eA104 zA105) :: byA (lopBy m) :: byA (lopBy l) :: Im 8 (.slice pp5 m.length cc6) m.length (m.flatMap lopCell) :: Im 8 (.slice pp1 l.length cc2) l.length (l.flatMap lopCell) :: blk bk12 (.cells #[.bool false] 4 (0, 0)) :: blk D86 (.deferred (some [])) :: blk D51 (.deferred (some [])) :: F) := byA_at H252 (i := 7) rfl (lop_at1 (k := k3) (by omega))
       have H254 : St W w251 (Im 1 (.slice ((m.getD k3 default).p2) ((m.getD k3 default).v.dgm.body.length) ((m.getD k3 default).c2)) (((m.getD k3 default).v.dgm.body).length) (((m.getD k3 default).v.dgm.body).flatMap u8c) :: Im 1 (.slice ((m.getD k3 default).p) ((m.getD k3 default).v.body.length) ((m.getD k3 default).c)) (((m.getD k3 default).v.body).length) (((m.getD k3 default).v.body).flatMap u8c) :: blk bk248 (.cells #[.int .i64 ((m.getD k3 default).v.do_.v), .slice ((m.getD k3 default).p) ((m.getD k3 default).v.body.length) ((m.getD k3 default).c), .int .i64 ((m.getD k3 default).v.dgm.frm.v), .int .i64 ((m.getD k3 default).v.dgm.to_.v), .int .i64 ((m.getD k3 default).v.dgm.kind.v), .int .i64 ((m.getD k3 default).v.dgm.seq.v), .int .i64 ((m.getD k3 default).v.dgm.ack.v), .slice ((m.getD k3 default).p2) ((m.getD k3 default).v.dgm.body.length) ((m.getD k3 default).c2)] 55 (0, 0)) :: LkA bk217 s3 :: RfA bk222 s3 :: LkA bk93 s :: RfA bk96 s :: imi (0 < m.length) gA228 (.cells kA230 eA231 zA232) :: imi (0 < l.length) gA101 (.cells kA103 eA104 zA105) :: byA (lopBy m) :: byA (lopBy l) :: Im 8 (.slice pp5 m.length cc6) m.length (m.flatMap lopCell) :: Im 8 (.slice pp1 l.length cc2) l.length (l.flatMap lopCell) :: blk bk12 (.cells #[.bool false] 4 (0, 0)) :: blk D86 (.deferred (some [])) :: blk D51 (.deferred (some [])) :: F) := byA_at H253 (i := 8) rfl (lop_at2 (k := k3) (by omega))
       have hD32 := hD3.do (by omega) (m.getD k3 default).v
       have H255 : St W w251 (LkA bk217 s3 :: RfA bk222 s3 :: Im 1 (.slice ((m.getD k3 default).p2) ((m.getD k3 default).v.dgm.body.length) ((m.getD k3 default).c2)) (((m.getD k3 default).v.dgm.body).length) (((m.getD k3 default).v.dgm.body).flatMap u8c) :: Im 1 (.slice ((m.getD k3 default).p) ((m.getD k3 default).v.body.length) ((m.getD k3 default).c)) (((m.getD k3 default).v.body).length) (((m.getD k3 default).v.body).flatMap u8c) :: blk bk248 (.cells #[.int .i64 ((m.getD k3 default).v.do_.v), .slice ((m.getD k3 default).p) ((m.getD k3 default).v.body.length) ((m.getD k3 default).c), .int .i64 ((m.getD k3 default).v.dgm.frm.v), .int .i64 ((m.getD k3 default).v.dgm.to_.v), .int .i64 ((m.getD k3 default).v.dgm.kind.v), .int .i64 ((m.getD k3 default).v.dgm.seq.v), .int .i64 ((m.getD k3 default).v.dgm.ack.v), .slice ((m.getD k3 default).p2) ((m.getD k3 default).v.dgm.body.length) ((m.getD k3 default).c2)] 55 (0, 0)) :: LkA bk93 s :: RfA bk96 s :: imi (0 < m.length) gA228 (.cells kA230 eA231 zA232) :: imi (0 < l.length) gA101 (.cells kA103 eA104 zA105) :: byA (lopBy m) :: byA (lopBy l) :: Im 8 (.slice pp5 m.length cc6) m.length (m.flatMap lopCell) :: Im 8 (.slice pp1 l.length cc2) l.length (l.flatMap lopCell) :: blk bk12 (.cells #[.bool false] 4 (0, 0)) :: blk D86 (.deferred (some [])) :: blk D51 (.deferred (some [])) :: F) := ((H254.move 4 rfl).move 4 rfl)
       refine r_cons (s_call [.pointer (some ⟨bk217, 0, none⟩), .pointer (some ⟨bk222, 0, none⟩), .agg #[.int .i64 ((m.getD k3 default).v.do_.v), .slice ((m.getD k3 default).p) ((m.getD k3 default).v.body.length) ((m.getD k3 default).c), .int .i64 ((m.getD k3 default).v.dgm.frm.v), .int .i64 ((m.getD k3 default).v.dgm.to_.v), .int .i64 ((m.getD k3 default).v.dgm.kind.v), .int .i64 ((m.getD k3 default).v.dgm.seq.v), .int .i64 ((m.getD k3 default).v.dgm.ack.v), .slice ((m.getD k3 default).p2) ((m.getD k3 default).v.dgm.body.length) ((m.getD k3 default).c2)]] pl_19 rfl rfl (does_ bk217 bk222 (l.length + k3) s3 ((m.getD k3 default).v) (.slice ((m.getD k3 default).p) ((m.getD k3 default).v.body.length) ((m.getD k3 default).c)) (.slice ((m.getD k3 default).p2) ((m.getD k3 default).v.dgm.body.length) ((m.getD k3 default).c2)) hD3 (by omega) RdA.im RdA.im (j := 1) rfl (k := 0) rfl H255) ?_)
       rintro _ w256 ⟨rfl, H257⟩
       refine r_cons (s_not true rfl false rfl rfl ?_)
       refine r_nil ?_
       refine g_false rfl ?_
       refine g_skip ?_
       refine g_inBlock ?_
       refine g_region ?_
       refine r_cons (s_add ((k3 : Int) + 1) rfl rfl (wi64 (by omega)) rfl ?_)
       refine r_cons (s_move (.int .i64 ((k3 : Int) + 1)) rfl rfl ?_)
       refine r_nil ?_
       have H258 : St W w256 (Im 8 (.slice pp5 m.length cc6) m.length (m.flatMap lopCell) :: Im 8 (.slice pp1 l.length cc2) l.length (l.flatMap lopCell) :: blk bk12 (.cells #[.bool false] 4 (0, 0)) :: blk D86 (.deferred (some [])) :: blk D51 (.deferred (some [])) :: LkA bk217 (doS s3 ((m.getD k3 default).v)) :: RfA bk222 (doS s3 ((m.getD k3 default).v)) :: Im 1 (.slice ((m.getD k3 default).p2) ((m.getD k3 default).v.dgm.body.length) ((m.getD k3 default).c2)) (((m.getD k3 default).v.dgm.body).length) (((m.getD k3 default).v.dgm.body).flatMap u8c) :: Im 1 (.slice ((m.getD k3 default).p) ((m.getD k3 default).v.body.length) ((m.getD k3 default).c)) (((m.getD k3 default).v.body).length) (((m.getD k3 default).v.body).flatMap u8c) :: blk bk248 (.cells #[.int .i64 ((m.getD k3 default).v.do_.v), .slice ((m.getD k3 default).p) ((m.getD k3 default).v.body.length) ((m.getD k3 default).c), .int .i64 ((m.getD k3 default).v.dgm.frm.v), .int .i64 ((m.getD k3 default).v.dgm.to_.v), .int .i64 ((m.getD k3 default).v.dgm.kind.v), .int .i64 ((m.getD k3 default).v.dgm.seq.v), .int .i64 ((m.getD k3 default).v.dgm.ack.v), .slice ((m.getD k3 default).p2) ((m.getD k3 default).v.dgm.body.length) ((m.getD k3 default).c2)] 55 (0, 0)) :: LkA bk93 s :: RfA bk96 s :: imi (0 < m.length) gA228 (.cells kA230 eA231 zA232) :: imi (0 < l.length) gA101 (.cells kA103 eA104 zA105) :: byA (lopBy m) :: byA (lopBy l) :: F) := (((((H257.move 15 rfl).move 15 rfl).move 15 rfl).move 15 rfl).move 15 rfl)
       have H259 : St W w256 (RfA bk96 s :: imi (0 < m.length) gA228 (.cells kA230 eA231 zA232) :: imi (0 < l.length) gA101 (.cells kA103 eA104 zA105) :: byA (lopBy m) :: byA (lopBy l) :: Im 8 (.slice pp5 m.length cc6) m.length (m.flatMap lopCell) :: Im 8 (.slice pp1 l.length cc2) l.length (l.flatMap lopCell) :: blk bk12 (.cells #[.bool false] 4 (0, 0)) :: blk D86 (.deferred (some [])) :: blk D51 (.deferred (some [])) :: LkA bk217 (doS s3 ((m.getD k3 default).v)) :: RfA bk222 (doS s3 ((m.getD k3 default).v)) :: Im 1 (.slice ((m.getD k3 default).p2) ((m.getD k3 default).v.dgm.body.length) ((m.getD k3 default).c2)) (((m.getD k3 default).v.dgm.body).length) (((m.getD k3 default).v.dgm.body).flatMap u8c) :: Im 1 (.slice ((m.getD k3 default).p) ((m.getD k3 default).v.body.length) ((m.getD k3 default).c)) (((m.getD k3 default).v.body).length) (((m.getD k3 default).v.body).flatMap u8c) :: blk bk248 (.cells #[.int .i64 ((m.getD k3 default).v.do_.v), .slice ((m.getD k3 default).p) ((m.getD k3 default).v.body.length) ((m.getD k3 default).c), .int .i64 ((m.getD k3 default).v.dgm.frm.v), .int .i64 ((m.getD k3 default).v.dgm.to_.v), .int .i64 ((m.getD k3 default).v.dgm.kind.v), .int .i64 ((m.getD k3 default).v.dgm.seq.v), .int .i64 ((m.getD k3 default).v.dgm.ack.v), .slice ((m.getD k3 default).p2) ((m.getD k3 default).v.dgm.body.length) ((m.getD k3 default).c2)] 55 (0, 0)) :: LkA bk93 s :: F) := (((((H258.move 15 rfl).move 15 rfl).move 15 rfl).move 15 rfl).move 15 rfl)
       have H260 : St W w256 (LkA bk217 (doS s3 ((m.getD k3 default).v)) :: RfA bk222 (doS s3 ((m.getD k3 default).v)) :: LkA bk93 s :: RfA bk96 s :: imi (0 < m.length) gA228 (.cells kA230 eA231 zA232) :: imi (0 < l.length) gA101 (.cells kA103 eA104 zA105) :: byA (lopBy m) :: byA (lopBy l) :: Im 8 (.slice pp5 m.length cc6) m.length (m.flatMap lopCell) :: Im 8 (.slice pp1 l.length cc2) l.length (l.flatMap lopCell) :: blk bk12 (.cells #[.bool false] 4 (0, 0)) :: blk D86 (.deferred (some [])) :: blk D51 (.deferred (some [])) :: F) := ((((((H259.move 15 rfl).move 12 rfl).move 12 rfl).drop 13 rfl).drop 13 rfl).drop 13 rfl)
       exact nx246 (k3 + 1, (doS s3 (m.getD k3 default).v)) _ _ ⟨(by omega), hD32, H260⟩ (by first | (dsimp only; omega) | omega) ⟨by first | rfl | exact vint (by omega), by first | rfl | exact vint (by omega), by first | rfl | exact vint (by omega), by first | rfl | exact vint (by omega), by first | rfl | exact vint (by omega), by first | rfl | exact vint (by omega), by first | rfl | exact vint (by omega), by first | rfl | exact vint (by omega), trivial⟩
      ·skip
       refine r_cons (s_lss false rfl rfl (dfalse hc247) rfl ?_)
       refine r_nil ?_
       refine g_seq ?_
       refine g_false rfl ?_
       refine g_exit (by rfl) ?_
       refine g_seq ?_
       refine g_region ?_
       refine r_cons (s_move (.pointer (some ⟨bk93, 0, none⟩)) rfl rfl ?_)
       refine r_cons (s_move (.pointer (some ⟨bk96, 0, none⟩)) rfl rfl ?_)
       have H261 : St W w244 (LkA bk93 s :: RfA bk96 s :: LkA bk217 s3 :: RfA bk222 s3 :: imi (0 < m.length) gA228 (.cells kA230 eA231 zA232) :: imi (0 < l.length) gA101 (.cells kA103 eA104 zA105) :: byA (lopBy m) :: byA (lopBy l) :: Im 8 (.slice pp5 m.length cc6) m.length (m.flatMap lopCell) :: Im 8 (.slice pp1 l.length cc2) l.length (l.flatMap lopCell) :: blk bk12 (.cells #[.bool false] 4 (0, 0)) :: blk D86 (.deferred (some [])) :: blk D51 (.deferred (some [])) :: F) := ((H245.move 3 rfl).move 3 rfl)
       refine r_cons (s_call [.pointer (some ⟨bk93, 0, none⟩), .pointer (some ⟨bk96, 0, none⟩)] pl_20 rfl rfl (same_ bk93 bk96 s hD.i (by have h9 := hD.i.heldN; omega) H261) ?_)
       rintro _ w262 ⟨rfl, H263⟩
       refine r_cons (s_move (.bool true) rfl rfl ?_)
       refine r_cons (r_take rfl rfl ?_)
       refine s_move (.pointer (some ⟨bk217, 0, none⟩)) rfl rfl ?_
       refine r_cons (r_take rfl rfl ?_)
       refine s_move (.pointer (some ⟨bk222, 0, none⟩)) rfl rfl ?_
       refine r_cons (r_take rfl rfl ?_)
       have H264 : St W w262 (LkA bk217 s3 :: RfA bk222 s3 :: LkA bk93 s :: RfA bk96 s :: imi (0 < m.length) gA228 (.cells kA230 eA231 zA232) :: imi (0 < l.length) gA101 (.cells kA103 eA104 zA105) :: byA (lopBy m) :: byA (lopBy l) :: Im 8 (.slice pp5 m.length cc6) m.length (m.flatMap lopCell) :: Im 8 (.slice pp1 l.length cc2) l.length (l.flatMap lopCell) :: blk bk12 (.cells #[.bool false] 4 (0, 0)) :: blk D86 (.deferred (some [])) :: blk D51 (.deferred (some [])) :: F) := ((H263.move 3 rfl).move 3 rfl)
       refine s_call [.pointer (some ⟨bk217, 0, none⟩), .pointer (some ⟨bk222, 0, none⟩)] pl_20 rfl rfl (same_ bk217 bk222 s3 hD3.i (by have h9 := hD3.i.heldN; omega) H264) ?_
       rintro _ w265 ⟨rfl, H266⟩
       refine r_cons (s_pick_t (.bool true) rfl rfl rfl ?_)
       refine r_cons (s_store H266 10 (.bool true) rfl rfl rfl sz_4 rfl (nbl rfl) rfl (cs' := #[.bool true]) rfl ?_); intro w267 H268
       refine r_nil ?_
       obtain ⟨hd269, H270⟩ := H268.collect (i := 11) rfl
       obtain ⟨hd271, H272⟩ := H270.collect (i := 11) rfl
       refine g_retD _ [.bool true] Try.func6 Try.results6 rfl ⟨hd269, hd271, trivial⟩ ⟨(res_cell1 rfl ag_4 (H272.blk_at (i := 10) rfl) rfl), trivial⟩ ?_
       have H273 : St W ((w267.putObj D86 (.deferred none)).putObj D51 (.deferred none)) (imi (0 < m.length) gA228 (.cells kA230 eA231 zA232) :: imi (0 < l.length) gA101 (.cells kA103 eA104 zA105) :: byA (lopBy m) :: byA (lopBy l) :: Im 8 (.slice pp5 m.length cc6) m.length (m.flatMap lopCell) :: Im 8 (.slice pp1 l.length cc2) l.length (l.flatMap lopCell) :: blk bk12 (.cells #[.bool true] 4 (0, 0)) :: F) := ((((H272.drop 0 rfl).drop 0 rfl).drop 0 rfl).drop 0 rfl)
       have H274 : St W ((w267.putObj D86 (.deferred none)).putObj D51 (.deferred none)) (Im 8 (.slice pp5 m.length cc6) m.length (m.flatMap lopCell) :: Im 8 (.slice pp1 l.length cc2) l.length (l.flatMap lopCell) :: blk bk12 (.cells #[.bool true] 4 (0, 0)) :: F) := ((((H273.drop 0 rfl).drop 0 rfl).drop 0 rfl).drop 0 rfl)
       have H275 : St W ((w267.putObj D86 (.deferred none)).putObj D51 (.deferred none)) F := (((H274.drop 0 rfl).drop 0 rfl).drop 0 rfl)
       exact ⟨rfl, H275⟩
  ·intro _ _ _ _ h; exact h.elim
 ·intro _ _ _ _ h; exact h.elim
end Sl
