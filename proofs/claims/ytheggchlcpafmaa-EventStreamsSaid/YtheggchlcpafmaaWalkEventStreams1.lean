/- Walks of the program's functions. Printed by a program of this claim's author. No condition. -/
import Derived.Test.YtheggchlcpafmaaSlQ
import Derived.Test.YtheggchlcpafmaaSlR
import Derived.Test.YtheggchlcpafmaaSlBB
import Derived.Test.YtheggchlcpafmaaProg
import Derived.Test.YtheggchlcpafmaaWalkEventStreams0
namespace Sl
open _root_.Go _root_.Go.RowKit _root_.Go.Proofs
set_option linter.all false
set_option maxHeartbeats 4000000 in
set_option maxRecDepth 100000 in
theorem ref04_Same {W w : World} {F : List Atom} (a b : EvM) (av bv : Value) {j k : Nat} (hj : F[j]? = some (Attrs av a.attrs)) (hk : F[k]? = some (Attrs bv b.attrs)) (H : St W w F) : Calls Try.prog 20 #[.agg #[.int .i64 a.src.v, .int .i64 a.seq.v, .int .i64 a.time.v, .string a.typ.v, av], .agg #[.int .i64 b.src.v, .int .i64 b.seq.v, .int .i64 b.time.v, .string b.typ.v, bv]] w (Ret fun v w' => v = .bool (sameEv a b) ∧ St W w' F) := by
  have H0 := (H.dup hj (Attrs_pers _ _)).dup (i := k + 1) (by exact hk) (Attrs_pers _ _)
  refine calls_of_go (n := 31) Try.func20 rfl Try.ntmps20 rfl ?_
  refine g_seq ?_
  refine g_region ?_
  refine r_cons (s_box H0 33 (.agg #[.int .i64 a.src.v, .int .i64 a.seq.v, .int .i64 a.time.v, .string a.typ.v, av]) rfl (cs := #[.int .i64 a.src.v, .int .i64 a.seq.v, .int .i64 a.time.v, .string a.typ.v, av]) rfl rfl ?_); intro bk1 w2 H3
  refine r_cons (s_box H3 33 (.agg #[.int .i64 b.src.v, .int .i64 b.seq.v, .int .i64 b.time.v, .string b.typ.v, bv]) rfl (cs := #[.int .i64 b.src.v, .int .i64 b.seq.v, .int .i64 b.time.v, .string b.typ.v, bv]) rfl rfl ?_); intro bk4 w5 H6
  refine r_cons (s_assign (.bool false) rfl rfl ?_)
  refine r_nil ?_
  refine g_seq ?_
  refine g_region ?_
  refine r_cons (s_fieldAddr 33 0 0 0 30 rfl fi_33_0 rfl rfl ?_)
  refine r_cons (s_loadAgg [.int .i64 a.src.v, .int .i64 a.seq.v] 2 ag_30 rfl (H6.blk_at (i := 1) rfl) (Nat.le_of_ble_eq_true rfl) rfl rfl ?_)
  refine r_cons (s_fieldAddr 33 0 0 0 30 rfl fi_33_0 rfl rfl ?_)
  refine r_cons (s_loadAgg [.int .i64 b.src.v, .int .i64 b.seq.v] 2 ag_30 rfl (H6.blk_at (i := 0) rfl) (Nat.le_of_ble_eq_true rfl) rfl rfl ?_)
  refine r_cons (s_aeql ((decide (a.src.v = b.src.v) && (decide (a.seq.v = b.seq.v) && true))) gd_30 ev_30 rfl rfl rfl rfl ?_)
  refine r_cons (s_move (.bool (decide (a.src.v = b.src.v) && (decide (a.seq.v = b.seq.v) && true))) rfl rfl ?_)
  by_cases hb7 : ((decide (a.src.v = b.src.v) && (decide (a.seq.v = b.seq.v) && true))) = true
  · skip
    refine r_cons (r_take rfl (congrArg some hb7) ?_)
    refine s_fieldAddr 33 1 2 2 2 rfl fi_33_1 rfl rfl ?_
    refine r_cons (r_take rfl (congrArg some hb7) ?_)
    refine s_load (.int .i64 a.time.v) ag_2 rfl (H6.blk_at (i := 1) rfl) rfl rfl ?_
    refine r_cons (r_take rfl (congrArg some hb7) ?_)
    refine s_fieldAddr 33 1 2 2 2 rfl fi_33_1 rfl rfl ?_
    refine r_cons (r_take rfl (congrArg some hb7) ?_)
    refine s_load (.int .i64 b.time.v) ag_2 rfl (H6.blk_at (i := 0) rfl) rfl rfl ?_
    refine r_cons (r_take rfl (congrArg some hb7) ?_)
    by_cases hc8 : a.time.v = b.time.v
    · skip
      refine s_eql true rfl rfl (dtrue hc8) rfl ?_
      refine r_cons (s_pick_t (.bool true) (by exact congrArg Value.bool hb7) rfl rfl ?_)
      refine r_cons (s_move (.bool true) rfl rfl ?_)
      refine r_cons (r_take rfl rfl ?_)
      refine s_fieldAddr 33 2 3 3 9 rfl fi_33_2 rfl rfl ?_
      refine r_cons (r_take rfl rfl ?_)
      refine s_load (.string a.typ.v) ag_9 rfl (H6.blk_at (i := 1) rfl) rfl rfl ?_
      refine r_cons (r_take rfl rfl ?_)
      refine s_fieldAddr 33 2 3 3 9 rfl fi_33_2 rfl rfl ?_
      refine r_cons (r_take rfl rfl ?_)
      refine s_load (.string b.typ.v) ag_9 rfl (H6.blk_at (i := 0) rfl) rfl rfl ?_
      refine r_cons (r_take rfl rfl ?_)
      by_cases hc9 : a.typ.v = b.typ.v
      · skip
        refine s_seql true rfl rfl (dtrue hc9) rfl ?_
        refine r_cons (s_pick_t (.bool true) rfl rfl rfl ?_)
        refine r_cons (s_move (.bool true) rfl rfl ?_)
        refine r_cons (r_take rfl rfl ?_)
        refine s_fieldAddr 33 3 4 4 31 rfl fi_33_3 rfl rfl ?_
        refine r_cons (r_take rfl rfl ?_)
        refine s_load (av) ag_31 rfl (H6.blk_at (i := 1) rfl) rfl rfl ?_
        refine r_cons (r_take rfl rfl ?_)
        refine s_fieldAddr 33 3 4 4 31 rfl fi_33_3 rfl rfl ?_
        refine r_cons (r_take rfl rfl ?_)
        refine s_load (bv) ag_31 rfl (H6.blk_at (i := 0) rfl) rfl rfl ?_
        refine r_cons (r_take rfl rfl ?_)
        refine s_call [av, bv] pl_66 rfl rfl (ref03_SameAttrs a.attrs b.attrs av bv (j := 3) (k := 2) rfl rfl H6) ?_
        rintro _ w10 ⟨rfl, H11⟩
        refine r_cons (s_pick_t (.bool (sameAs a.attrs b.attrs)) rfl rfl rfl ?_)
        refine r_cons (s_assign (.bool (sameAs a.attrs b.attrs)) rfl rfl ?_)
        refine r_nil ?_
        refine g_ret' [.bool (sameAs a.attrs b.attrs)] Try.func20 Try.results20 ⟨rfl, trivial⟩ ?_
        have H12 : St W w10 F := ((((H11.drop 0 rfl).drop 0 rfl).drop 0 rfl).drop 0 rfl)
        exact ⟨congrArg Value.bool (by unfold sameEv; (try simp only [Bool.and_true, Bool.and_eq_true, Bool.and_eq_false_iff, decide_eq_true_eq, decide_eq_false_iff_not] at *); first | (simp_all; done) | (simp_all; omega)), H12⟩
      · skip
        refine s_seql false rfl rfl (dfalse hc9) rfl ?_
        refine r_cons (s_pick_t (.bool false) rfl rfl rfl ?_)
        refine r_cons (s_move (.bool false) rfl rfl ?_)
        refine r_cons (r_pass rfl rfl rfl rfl rfl ?_)
        refine r_cons (r_pass rfl rfl rfl rfl rfl ?_)
        refine r_cons (r_pass rfl rfl rfl rfl rfl ?_)
        refine r_cons (r_pass rfl rfl rfl rfl rfl ?_)
        refine r_cons (r_pass rfl rfl rfl rfl rfl ?_)
        refine r_cons (s_pick_f (.bool false) rfl rfl rfl ?_)
        refine r_cons (s_assign (.bool false) rfl rfl ?_)
        refine r_nil ?_
        refine g_ret' [.bool false] Try.func20 Try.results20 ⟨rfl, trivial⟩ ?_
        have H13 : St W w5 F := ((((H6.drop 0 rfl).drop 0 rfl).drop 0 rfl).drop 0 rfl)
        exact ⟨congrArg Value.bool (by unfold sameEv; (try simp only [Bool.and_true, Bool.and_eq_true, Bool.and_eq_false_iff, decide_eq_true_eq, decide_eq_false_iff_not] at *); first | (simp_all; done) | (simp_all; omega)), H13⟩
    · skip
      refine s_eql false rfl rfl (dfalse hc8) rfl ?_
      refine r_cons (s_pick_t (.bool false) (by exact congrArg Value.bool hb7) rfl rfl ?_)
      refine r_cons (s_move (.bool false) rfl rfl ?_)
      refine r_cons (r_pass rfl rfl rfl rfl rfl ?_)
      refine r_cons (r_pass rfl rfl rfl rfl rfl ?_)
      refine r_cons (r_pass rfl rfl rfl rfl rfl ?_)
      refine r_cons (r_pass rfl rfl rfl rfl rfl ?_)
      refine r_cons (r_pass rfl rfl rfl rfl rfl ?_)
      refine r_cons (s_pick_f (.bool false) rfl rfl rfl ?_)
      refine r_cons (s_move (.bool false) rfl rfl ?_)
      refine r_cons (r_pass rfl rfl rfl rfl rfl ?_)
      refine r_cons (r_pass rfl rfl rfl rfl rfl ?_)
      refine r_cons (r_pass rfl rfl rfl rfl rfl ?_)
      refine r_cons (r_pass rfl rfl rfl rfl rfl ?_)
      refine r_cons (r_pass rfl rfl rfl rfl rfl ?_)
      refine r_cons (s_pick_f (.bool false) rfl rfl rfl ?_)
      refine r_cons (s_assign (.bool false) rfl rfl ?_)
      refine r_nil ?_
      refine g_ret' [.bool false] Try.func20 Try.results20 ⟨rfl, trivial⟩ ?_
      have H14 : St W w5 F := ((((H6.drop 0 rfl).drop 0 rfl).drop 0 rfl).drop 0 rfl)
      exact ⟨congrArg Value.bool (by unfold sameEv; (try simp only [Bool.and_true, Bool.and_eq_true, Bool.and_eq_false_iff, decide_eq_true_eq, decide_eq_false_iff_not] at *); first | (simp_all; done) | (simp_all; omega)), H14⟩
  · have hb7 := eq_false_of_ne_true hb7
    refine r_cons (r_pass rfl (congrArg some hb7) rfl rfl rfl ?_)
    refine r_cons (r_pass rfl (congrArg some hb7) rfl rfl rfl ?_)
    refine r_cons (r_pass rfl (congrArg some hb7) rfl rfl rfl ?_)
    refine r_cons (r_pass rfl (congrArg some hb7) rfl rfl rfl ?_)
    refine r_cons (r_pass rfl (congrArg some hb7) rfl rfl rfl ?_)
    refine r_cons (s_pick_f (.bool false) (by exact congrArg Value.bool hb7) rfl rfl ?_)
    refine r_cons (s_move (.bool false) rfl rfl ?_)
    refine r_cons (r_pass rfl rfl rfl rfl rfl ?_)
    refine r_cons (r_pass rfl rfl rfl rfl rfl ?_)
    refine r_cons (r_pass rfl rfl rfl rfl rfl ?_)
    refine r_cons (r_pass rfl rfl rfl rfl rfl ?_)
    refine r_cons (r_pass rfl rfl rfl rfl rfl ?_)
    refine r_cons (s_pick_f (.bool false) rfl rfl rfl ?_)
    refine r_cons (s_move (.bool false) rfl rfl ?_)
    refine r_cons (r_pass rfl rfl rfl rfl rfl ?_)
    refine r_cons (r_pass rfl rfl rfl rfl rfl ?_)
    refine r_cons (r_pass rfl rfl rfl rfl rfl ?_)
    refine r_cons (r_pass rfl rfl rfl rfl rfl ?_)
    refine r_cons (r_pass rfl rfl rfl rfl rfl ?_)
    refine r_cons (s_pick_f (.bool false) rfl rfl rfl ?_)
    refine r_cons (s_assign (.bool false) rfl rfl ?_)
    refine r_nil ?_
    refine g_ret' [.bool false] Try.func20 Try.results20 ⟨rfl, trivial⟩ ?_
    have H15 : St W w5 F := ((((H6.drop 0 rfl).drop 0 rfl).drop 0 rfl).drop 0 rfl)
    exact ⟨congrArg Value.bool (by unfold sameEv; (try simp only [Bool.and_true, Bool.and_eq_true, Bool.and_eq_false_iff, decide_eq_true_eq, decide_eq_false_iff_not] at *); first | (simp_all; done) | (simp_all; omega)), H15⟩
set_option maxHeartbeats 4000000 in
set_option maxRecDepth 100000 in
theorem ref04_Clone {W w : World} {F : List Atom} (e : EvM) (av : Value) (hb : e.attrs.length * 48 ≤ 140737488355328) {j : Nat} (hj : F[j]? = some (Attrs av e.attrs)) (H : St W w F) : Calls Try.prog 55 #[.agg #[.int .i64 e.src.v, .int .i64 e.seq.v, .int .i64 e.time.v, .string e.typ.v, av]] w (Ret fun v w' => ∃ p c, v = .agg #[.int .i64 e.src.v, .int .i64 e.seq.v, .int .i64 e.time.v, .string e.typ.v, .slice p e.attrs.length c] ∧ St W w' (Attrs (.slice p e.attrs.length c) e.attrs :: F)) := by
  replace H := H.dup hj (Attrs_pers _ _)
  refine calls_of_go (n := 8) Try.func55 rfl Try.ntmps55 rfl ?_
  refine g_seq ?_
  refine g_region ?_
  refine r_cons (s_box H 33 (.agg #[.int .i64 e.src.v, .int .i64 e.seq.v, .int .i64 e.time.v, .string e.typ.v, av]) rfl (cs := #[.int .i64 e.src.v, .int .i64 e.seq.v, .int .i64 e.time.v, .string e.typ.v, av]) rfl rfl ?_); intro bk1 w2 H3
  refine r_cons (s_alloc H3 33 ze_33 rfl ?_); intro bk4 w5 H6
  refine r_nil ?_
  refine g_seq ?_
  refine g_region ?_
  refine r_cons (s_fieldAddr 33 3 4 4 31 rfl fi_33_3 rfl rfl ?_)
  refine r_cons (s_load (av) ag_31 rfl (H6.blk_at (i := 1) rfl) rfl rfl ?_)
  have H7 := Row.nil_intro H6 91 4
  refine r_cons (s_append H7 0 rfl rfl rfl (Im.rd H7 (i := 3) rfl) ap_31 (by decide) (by unfold maxLen; omega) (by omega) (n' := e.attrs.length) (xs' := e.attrs.flatMap attrCell) (by omega) (by first | rfl | simp) rfl ?_); intro vv8 w9 H10 hn11
  obtain ⟨pp12, cc13, rfl⟩ := Row.slice H10 (i := 0) rfl
  refine r_cons (s_fieldAddr 33 3 4 4 31 rfl fi_33_3 rfl rfl ?_)
  refine r_cons (s_store H10 2 (.slice pp12 e.attrs.length cc13) rfl rfl rfl sz_31 rfl (Nat.le_of_ble_eq_true rfl) rfl (cs' := #[.int .i64 e.src.v, .int .i64 e.seq.v, .int .i64 e.time.v, .string e.typ.v, .slice pp12 e.attrs.length cc13]) rfl ?_); intro w14 H15
  refine r_nil ?_
  refine g_seq ?_
  refine g_region ?_
  refine r_cons (s_loadAgg [.int .i64 e.src.v, .int .i64 e.seq.v, .int .i64 e.time.v, .string e.typ.v, .slice pp12 e.attrs.length cc13] 5 ag_33 rfl (H15.blk_at (i := 2) rfl) (Nat.le_of_ble_eq_true rfl) rfl rfl ?_)
  refine r_cons (s_storeAgg H15 1 #[.int .i64 e.src.v, .int .i64 e.seq.v, .int .i64 e.time.v, .string e.typ.v, .slice pp12 e.attrs.length cc13] 5 rfl rfl rfl sz_33 rfl (by simp [Value.oneCell']) (Nat.le_of_ble_eq_true rfl) (fun o h1 h2 => by first | (simp; done) | (simp; omega)) (cs' := #[.int .i64 e.src.v, .int .i64 e.seq.v, .int .i64 e.time.v, .string e.typ.v, .slice pp12 e.attrs.length cc13]) rfl ?_); intro w16 H17
  refine r_nil ?_
  refine g_ret' [.agg #[.int .i64 e.src.v, .int .i64 e.seq.v, .int .i64 e.time.v, .string e.typ.v, .slice pp12 e.attrs.length cc13]] Try.func55 Try.results55 ⟨(res_cellN rfl ag_33 (H17.blk_at (i := 1) rfl) (Nat.le_of_ble_eq_true rfl) rfl), trivial⟩ ?_
  have H18 : St W w16 (Row 91 4 (.slice pp12 e.attrs.length cc13) e.attrs.length (e.attrs.flatMap attrCell) :: F) := (((H17.drop 1 rfl).drop 1 rfl).drop 1 rfl)
  have H19 := Row.im H18 (i := 0) rfl
  exact ⟨_, _, rfl, H19⟩
set_option maxHeartbeats 4000000 in
set_option maxRecDepth 100000 in
theorem begun_one {W w : World} {F : List Atom} (s t : I64) (H : St W w F) : Calls Try.prog 56 #[.int .i64 s.v, .int .i64 t.v] w (Ret fun v w' => v = .agg #[.int .i64 ((bev s t).src.v), .int .i64 ((bev s t).seq.v), .int .i64 ((bev s t).time.v), .string ((bev s t).typ.v), .slice none 0 0] ∧ St W w' F) := by
  refine calls_of_go (n := 9) Try.func56 rfl Try.ntmps56 rfl ?_
  refine g_seq ?_
  refine g_region ?_
  refine r_cons (s_alloc H 33 ze_33 rfl ?_); intro bk1 w2 H3
  refine r_nil ?_
  refine g_seq ?_
  refine g_region ?_
  refine r_cons (s_move (.int .i64 s.v) rfl rfl ?_)
  refine r_cons (s_build (cs := #[.int .i64 0, .int .i64 s.v]) (by kernel_rfl) rfl ?_)
  refine r_cons (s_move (.int .i64 t.v) rfl rfl ?_)
  refine r_cons (s_build (cs := #[.int .i64 0, .int .i64 s.v, .int .i64 t.v, .string (⟨#[116]⟩), .slice none 0 0]) (by kernel_rfl) rfl ?_)
  refine r_cons (s_storeAgg H3 0 #[.int .i64 0, .int .i64 s.v, .int .i64 t.v, .string (⟨#[116]⟩), .slice none 0 0] 5 rfl rfl rfl sz_33 rfl (by simp [Value.oneCell']) (Nat.le_of_ble_eq_true rfl) (fun o h1 h2 => by first | (simp; done) | (simp; omega)) (cs' := #[.int .i64 0, .int .i64 s.v, .int .i64 t.v, .string (⟨#[116]⟩), .slice none 0 0]) rfl ?_); intro w4 H5
  refine r_nil ?_
  refine g_ret' [.agg #[.int .i64 0, .int .i64 s.v, .int .i64 t.v, .string (⟨#[116]⟩), .slice none 0 0]] Try.func56 Try.results56 ⟨(res_cellN rfl ag_33 (H5.blk_at (i := 0) rfl) (Nat.le_of_ble_eq_true rfl) rfl), trivial⟩ ?_
  have H6 : St W w4 F := (H5.drop 0 rfl)
  exact ⟨rfl, H6⟩
set_option maxHeartbeats 4000000 in
set_option maxRecDepth 100000 in
theorem begun_ {W w : World} {F : List Atom}  (H : St W w F) : Calls Try.prog 12 #[] w (Ret fun v w' => v = .bool true ∧ St W w' F) := by
  have H0 := Row.im (Row.nil_intro H 91 4) (i := 0) rfl
  refine calls_of_go (n := 50) Try.func12 rfl Try.ntmps12 rfl ?_
  refine g_seq ?_
  refine g_region ?_
  refine r_cons (s_assign (.bool false) rfl rfl ?_)
  refine r_nil ?_
  refine g_seq ?_
  refine g_region ?_
  refine r_cons (s_call [.int .i64 2] pl_11 rfl rfl (event_New 2 (by decide) H0) ?_)
  rintro _ w2 ⟨bk1, rfl, H3⟩
  refine r_cons (s_move (.tuple #[.pointer (some ⟨bk1, 0, none⟩), .int .i64 0]) rfl rfl ?_)
  refine r_cons (s_extract (.pointer (some ⟨bk1, 0, none⟩)) #[.pointer (some ⟨bk1, 0, none⟩), .int .i64 0] rfl rfl rfl ?_)
  refine r_cons (s_extract (.int .i64 0) #[.pointer (some ⟨bk1, 0, none⟩), .int .i64 0] rfl rfl rfl ?_)
  refine r_cons (s_assign (.pointer (some ⟨bk1, 0, none⟩)) rfl rfl ?_)
  refine r_cons (s_assign (.int .i64 0) rfl rfl ?_)
  refine r_nil ?_
  refine g_seq ?_
  refine g_seq ?_
  refine g_region ?_
  refine r_cons (s_move (.pointer (some ⟨bk1, 0, none⟩)) rfl rfl ?_)
  refine r_cons (s_peql false un_23 rfl rfl rfl rfl ?_)
  refine r_cons (s_move (.bool false) rfl rfl ?_)
  refine r_cons (r_take rfl rfl ?_)
  refine s_move (.int .i64 0) rfl rfl ?_
  refine r_cons (r_take rfl rfl ?_)
  refine s_neq false rfl rfl (ntrue (by decide)) rfl ?_
  refine r_cons (s_pick_f (.bool false) rfl rfl rfl ?_)
  refine r_nil ?_
  refine g_false rfl ?_
  refine g_skip ?_
  refine g_seq ?_
  refine g_region ?_
  refine r_cons (s_assign (.func (.func 56) #[] #[]) rfl rfl ?_)
  refine r_nil ?_
  refine g_seq ?_
  refine g_region ?_
  refine r_cons (s_move (.pointer (some ⟨bk1, 0, none⟩)) rfl rfl ?_)
  refine r_cons (s_move (.func (.func 56) #[] #[]) rfl rfl ?_)
  refine r_cons (s_callv [] [.int .i64 0, .int .i64 5] rfl pl_56 rfl rfl (begun_one (i64' 0) (i64' 5) H3) ?_)
  rintro _ w4 ⟨rfl, H5⟩
  refine r_cons (s_call [.pointer (some ⟨bk1, 0, none⟩), .agg #[.int .i64 ((bev (i64' 0) (i64' 5)).src.v), .int .i64 ((bev (i64' 0) (i64' 5)).seq.v), .int .i64 ((bev (i64' 0) (i64' 5)).time.v), .string ((bev (i64' 0) (i64' 5)).typ.v), .slice none 0 0]] pl_16 rfl rfl (Streams_Accept bk1 2 zeroSt [] (bev (i64' 0) (i64' 5)) (.slice none 0 0) (j := 1) rfl (i := 0) rfl H5) ?_)
  rintro _ w6 ⟨rfl, H7⟩
  refine r_cons (s_eql true rfl rfl (dtrue (by decide +kernel)) rfl ?_)
  refine r_cons (s_move (.bool true) rfl rfl ?_)
  refine r_cons (r_take rfl rfl ?_)
  refine s_move (.pointer (some ⟨bk1, 0, none⟩)) rfl rfl ?_
  refine r_cons (r_take rfl rfl ?_)
  refine s_move (.func (.func 56) #[] #[]) rfl rfl ?_
  refine r_cons (r_take rfl rfl ?_)
  refine s_callv [] [.int .i64 1, .int .i64 4] rfl pl_56 rfl rfl (begun_one (i64' 1) (i64' 4) H7) ?_
  rintro _ w8 ⟨rfl, H9⟩
  refine r_cons (r_take rfl rfl ?_)
  refine s_call [.pointer (some ⟨bk1, 0, none⟩), .agg #[.int .i64 ((bev (i64' 1) (i64' 4)).src.v), .int .i64 ((bev (i64' 1) (i64' 4)).seq.v), .int .i64 ((bev (i64' 1) (i64' 4)).time.v), .string ((bev (i64' 1) (i64' 4)).typ.v), .slice none 0 0]] pl_16 rfl rfl (Streams_Accept bk1 2 (accSt 2 zeroSt [] (bev (i64' 0) (i64' 5))) (accEvs 2 zeroSt [] (bev (i64' 0) (i64' 5))) (bev (i64' 1) (i64' 4)) (.slice none 0 0) (j := 1) rfl (i := 0) rfl H9) ?_
  rintro _ w10 ⟨rfl, H11⟩
  refine r_cons (r_take rfl rfl ?_)
  refine s_eql true rfl rfl (dtrue (by decide +kernel)) rfl ?_
  refine r_cons (s_pick_t (.bool true) rfl rfl rfl ?_)
  refine r_cons (s_move (.bool true) rfl rfl ?_)
  refine r_cons (r_take rfl rfl ?_)
  refine s_move (.pointer (some ⟨bk1, 0, none⟩)) rfl rfl ?_
  refine r_cons (r_take rfl rfl ?_)
  refine s_move (.func (.func 56) #[] #[]) rfl rfl ?_
  refine r_cons (r_take rfl rfl ?_)
  refine s_callv [] [.int .i64 2, .int .i64 6] rfl pl_56 rfl rfl (begun_one (i64' 2) (i64' 6) H11) ?_
  rintro _ w12 ⟨rfl, H13⟩
  refine r_cons (r_take rfl rfl ?_)
  refine s_call [.pointer (some ⟨bk1, 0, none⟩), .agg #[.int .i64 ((bev (i64' 2) (i64' 6)).src.v), .int .i64 ((bev (i64' 2) (i64' 6)).seq.v), .int .i64 ((bev (i64' 2) (i64' 6)).time.v), .string ((bev (i64' 2) (i64' 6)).typ.v), .slice none 0 0]] pl_16 rfl rfl (Streams_Accept bk1 2 (accSt 2 (accSt 2 zeroSt [] (bev (i64' 0) (i64' 5))) (accEvs 2 zeroSt [] (bev (i64' 0) (i64' 5))) (bev (i64' 1) (i64' 4))) (accEvs 2 (accSt 2 zeroSt [] (bev (i64' 0) (i64' 5))) (accEvs 2 zeroSt [] (bev (i64' 0) (i64' 5))) (bev (i64' 1) (i64' 4))) (bev (i64' 2) (i64' 6)) (.slice none 0 0) (j := 1) rfl (i := 0) rfl H13) ?_
  rintro _ w14 ⟨rfl, H15⟩
  refine r_cons (r_take rfl rfl ?_)
  refine s_eql true rfl rfl (dtrue (by decide +kernel)) rfl ?_
  refine r_cons (s_pick_t (.bool true) rfl rfl rfl ?_)
  refine r_cons (s_move (.bool true) rfl rfl ?_)
  refine r_cons (r_take rfl rfl ?_)
  refine s_move (.pointer (some ⟨bk1, 0, none⟩)) rfl rfl ?_
  refine r_cons (r_take rfl rfl ?_)
  refine s_move (.func (.func 56) #[] #[]) rfl rfl ?_
  refine r_cons (r_take rfl rfl ?_)
  refine s_callv [] [.int .i64 1, .int .i64 5] rfl pl_56 rfl rfl (begun_one (i64' 1) (i64' 5) H15) ?_
  rintro _ w16 ⟨rfl, H17⟩
  refine r_cons (r_take rfl rfl ?_)
  refine s_call [.pointer (some ⟨bk1, 0, none⟩), .agg #[.int .i64 ((bev (i64' 1) (i64' 5)).src.v), .int .i64 ((bev (i64' 1) (i64' 5)).seq.v), .int .i64 ((bev (i64' 1) (i64' 5)).time.v), .string ((bev (i64' 1) (i64' 5)).typ.v), .slice none 0 0]] pl_16 rfl rfl (Streams_Accept bk1 2 (accSt 2 (accSt 2 (accSt 2 zeroSt [] (bev (i64' 0) (i64' 5))) (accEvs 2 zeroSt [] (bev (i64' 0) (i64' 5))) (bev (i64' 1) (i64' 4))) (accEvs 2 (accSt 2 zeroSt [] (bev (i64' 0) (i64' 5))) (accEvs 2 zeroSt [] (bev (i64' 0) (i64' 5))) (bev (i64' 1) (i64' 4))) (bev (i64' 2) (i64' 6))) (accEvs 2 (accSt 2 (accSt 2 zeroSt [] (bev (i64' 0) (i64' 5))) (accEvs 2 zeroSt [] (bev (i64' 0) (i64' 5))) (bev (i64' 1) (i64' 4))) (accEvs 2 (accSt 2 zeroSt [] (bev (i64' 0) (i64' 5))) (accEvs 2 zeroSt [] (bev (i64' 0) (i64' 5))) (bev (i64' 1) (i64' 4))) (bev (i64' 2) (i64' 6))) (bev (i64' 1) (i64' 5)) (.slice none 0 0) (j := 1) rfl (i := 0) rfl H17) ?_
  rintro _ w18 ⟨rfl, H19⟩
  refine r_cons (r_take rfl rfl ?_)
  refine s_eql true rfl rfl (dtrue (by decide +kernel)) rfl ?_
  refine r_cons (s_pick_t (.bool true) rfl rfl rfl ?_)
  refine r_cons (s_move (.bool true) rfl rfl ?_)
  refine r_cons (r_take rfl rfl ?_)
  refine s_move (.pointer (some ⟨bk1, 0, none⟩)) rfl rfl ?_
  refine r_cons (r_take rfl rfl ?_)
  refine s_call [.pointer (some ⟨bk1, 0, none⟩), .int .i64 0] pl_13 rfl rfl (Streams_Mark bk1 2 (accSt 2 (accSt 2 (accSt 2 (accSt 2 zeroSt [] (bev (i64' 0) (i64' 5))) (accEvs 2 zeroSt [] (bev (i64' 0) (i64' 5))) (bev (i64' 1) (i64' 4))) (accEvs 2 (accSt 2 zeroSt [] (bev (i64' 0) (i64' 5))) (accEvs 2 zeroSt [] (bev (i64' 0) (i64' 5))) (bev (i64' 1) (i64' 4))) (bev (i64' 2) (i64' 6))) (accEvs 2 (accSt 2 (accSt 2 zeroSt [] (bev (i64' 0) (i64' 5))) (accEvs 2 zeroSt [] (bev (i64' 0) (i64' 5))) (bev (i64' 1) (i64' 4))) (accEvs 2 (accSt 2 zeroSt [] (bev (i64' 0) (i64' 5))) (accEvs 2 zeroSt [] (bev (i64' 0) (i64' 5))) (bev (i64' 1) (i64' 4))) (bev (i64' 2) (i64' 6))) (bev (i64' 1) (i64' 5))) (accEvs 2 (accSt 2 (accSt 2 (accSt 2 zeroSt [] (bev (i64' 0) (i64' 5))) (accEvs 2 zeroSt [] (bev (i64' 0) (i64' 5))) (bev (i64' 1) (i64' 4))) (accEvs 2 (accSt 2 zeroSt [] (bev (i64' 0) (i64' 5))) (accEvs 2 zeroSt [] (bev (i64' 0) (i64' 5))) (bev (i64' 1) (i64' 4))) (bev (i64' 2) (i64' 6))) (accEvs 2 (accSt 2 (accSt 2 zeroSt [] (bev (i64' 0) (i64' 5))) (accEvs 2 zeroSt [] (bev (i64' 0) (i64' 5))) (bev (i64' 1) (i64' 4))) (accEvs 2 (accSt 2 zeroSt [] (bev (i64' 0) (i64' 5))) (accEvs 2 zeroSt [] (bev (i64' 0) (i64' 5))) (bev (i64' 1) (i64' 4))) (bev (i64' 2) (i64' 6))) (bev (i64' 1) (i64' 5))) (0 : Int) (i := 0) rfl H19) ?_
  rintro _ w20 ⟨rfl, H21⟩
  refine r_cons (r_take rfl rfl ?_)
  refine s_eql true rfl rfl (dtrue (by decide +kernel)) rfl ?_
  refine r_cons (s_pick_t (.bool true) rfl rfl rfl ?_)
  refine r_cons (s_move (.bool true) rfl rfl ?_)
  refine r_cons (r_take rfl rfl ?_)
  refine s_move (.pointer (some ⟨bk1, 0, none⟩)) rfl rfl ?_
  refine r_cons (r_take rfl rfl ?_)
  refine s_call [.pointer (some ⟨bk1, 0, none⟩)] pl_32 rfl rfl (Streams_Len bk1 2 (accSt 2 (accSt 2 (accSt 2 (accSt 2 zeroSt [] (bev (i64' 0) (i64' 5))) (accEvs 2 zeroSt [] (bev (i64' 0) (i64' 5))) (bev (i64' 1) (i64' 4))) (accEvs 2 (accSt 2 zeroSt [] (bev (i64' 0) (i64' 5))) (accEvs 2 zeroSt [] (bev (i64' 0) (i64' 5))) (bev (i64' 1) (i64' 4))) (bev (i64' 2) (i64' 6))) (accEvs 2 (accSt 2 (accSt 2 zeroSt [] (bev (i64' 0) (i64' 5))) (accEvs 2 zeroSt [] (bev (i64' 0) (i64' 5))) (bev (i64' 1) (i64' 4))) (accEvs 2 (accSt 2 zeroSt [] (bev (i64' 0) (i64' 5))) (accEvs 2 zeroSt [] (bev (i64' 0) (i64' 5))) (bev (i64' 1) (i64' 4))) (bev (i64' 2) (i64' 6))) (bev (i64' 1) (i64' 5))) (accEvs 2 (accSt 2 (accSt 2 (accSt 2 zeroSt [] (bev (i64' 0) (i64' 5))) (accEvs 2 zeroSt [] (bev (i64' 0) (i64' 5))) (bev (i64' 1) (i64' 4))) (accEvs 2 (accSt 2 zeroSt [] (bev (i64' 0) (i64' 5))) (accEvs 2 zeroSt [] (bev (i64' 0) (i64' 5))) (bev (i64' 1) (i64' 4))) (bev (i64' 2) (i64' 6))) (accEvs 2 (accSt 2 (accSt 2 zeroSt [] (bev (i64' 0) (i64' 5))) (accEvs 2 zeroSt [] (bev (i64' 0) (i64' 5))) (bev (i64' 1) (i64' 4))) (accEvs 2 (accSt 2 zeroSt [] (bev (i64' 0) (i64' 5))) (accEvs 2 zeroSt [] (bev (i64' 0) (i64' 5))) (bev (i64' 1) (i64' 4))) (bev (i64' 2) (i64' 6))) (bev (i64' 1) (i64' 5)))  (i := 0) rfl H21) ?_
  rintro _ w22 ⟨rfl, H23⟩
  refine r_cons (r_take rfl rfl ?_)
  refine s_eql true rfl rfl (dtrue (by decide +kernel)) rfl ?_
  refine r_cons (s_pick_t (.bool true) rfl rfl rfl ?_)
  refine r_cons (s_assign (.bool true) rfl rfl ?_)
  refine r_nil ?_
  refine g_ret' [.bool true] Try.func12 Try.results12 ⟨rfl, trivial⟩ ?_
  have H24 : St W w22 F := ((H23.drop 0 rfl).drop 0 rfl)
  exact ⟨rfl, H24⟩
/-- The document's streams. -/
def RStr (b : Nat) (many : Int) (L : List EvD) (gone : List Bool) : Atom := ex fun p : (Option Addr × Nat) × (Option Addr × Nat) => star [blk b (.cells #[.int .i64 many, .slice p.1.1 L.length p.1.2, .slice p.2.1 gone.length p.2.2] 52 (0, 0)), Im 5 (.slice p.1.1 L.length p.1.2) L.length (L.flatMap evdCell), evA L, Im 1 (.slice p.2.1 gone.length p.2.2) gone.length (gone.flatMap blc)]
set_option maxHeartbeats 4000000 in
set_option maxRecDepth 100000 in
theorem RStr_is_in {W w : World} {F : List Atom} (b : Nat) (many : Int) (L : List EvD) (gone : List Bool) (n : Int) (hn : (0 ≤ n ∧ n < many)) {i : Nat} (hi : F[i]? = some (RStr b many L gone)) (H : St W w F) : Calls Try.prog 71 #[.pointer (some ⟨b, 0, none⟩), .int .i64 n] w (Ret fun v w' => v = .bool true ∧ St W w' F) := by
  have H0 := H.front hi
  refine calls_of_go (n := 15) Try.func71 rfl Try.ntmps71 rfl ?_
  refine g_seq ?_
  refine g_region ?_
  refine r_cons (s_assign (.bool false) rfl rfl ?_)
  refine r_nil ?_
  refine g_seq ?_
  refine g_region ?_
  refine r_cons (s_move (.int .i64 n) rfl rfl ?_)
  refine r_cons (s_geq true rfl rfl (dtrue (by omega)) rfl ?_)
  refine r_cons (s_move (.bool true) rfl rfl ?_)
  refine r_cons (r_take rfl rfl ?_)
  refine s_move (.int .i64 n) rfl rfl ?_
  refine r_cons (r_take rfl rfl ?_)
  refine s_move (.pointer (some ⟨b, 0, none⟩)) rfl rfl ?_
  refine r_cons (r_take rfl rfl ?_)
  refine s_nilCheck (.pointer (some ⟨b, 0, none⟩)) rfl ⟨_, rfl⟩ rfl ?_
  refine r_cons (r_take rfl rfl ?_)
  refine s_fieldAddr 52 0 0 0 3 rfl fi_52_0 rfl rfl ?_
  refine r_cons (r_take rfl rfl ?_)
  have H1 := H0.move 0 rfl
  obtain ⟨⟨⟨pp2, cc3⟩, pp4, cc5⟩, H6⟩ := St.open_ex H1
  have H7 := St.open_star H6
  dsimp only at H7
  have H8 : St W w (blk b (.cells #[.int .i64 many, .slice pp2 L.length cc3, .slice pp4 gone.length cc5] 52 (0, 0)) :: Im 5 (.slice pp2 L.length cc3) L.length (L.flatMap evdCell) :: evA L :: Im 1 (.slice pp4 gone.length cc5) gone.length (gone.flatMap blc) :: (F.set i emp)) := H7
  refine s_load (.int .i64 many) ag_3 rfl (H8.blk_at (i := 0) rfl) rfl rfl ?_
  refine r_cons (r_take rfl rfl ?_)
  refine s_lss true rfl rfl (dtrue (by omega)) rfl ?_
  refine r_cons (s_pick_t (.bool true) rfl rfl rfl ?_)
  refine r_cons (s_assign (.bool true) rfl rfl ?_)
  refine r_nil ?_
  refine g_ret' [.bool true] Try.func71 Try.results71 ⟨rfl, trivial⟩ ?_
  have H9 : St W w (RStr b many L gone :: (F.set i emp)) := St.shut_ex ((pp2, cc3), (pp4, cc5)) (St.shut_star (ls := [blk b (.cells #[.int .i64 many, .slice pp2 L.length cc3, .slice pp4 gone.length cc5] 52 (0, 0)), Im 5 (.slice pp2 L.length cc3) L.length (L.flatMap evdCell), evA L, Im 1 (.slice pp4 gone.length cc5) gone.length (gone.flatMap blc)]) H8)
  have H10 : St W w (RStr b many L gone :: (F.set i emp)) := H9
  exact ⟨rfl, St.back_same hi H10⟩
set_option maxHeartbeats 4000000 in
set_option maxRecDepth 100000 in
theorem RStr_is_out {W w : World} {F : List Atom} (b : Nat) (many : Int) (L : List EvD) (gone : List Bool) (n : Int) (hn : ¬ (0 ≤ n ∧ n < many)) {i : Nat} (hi : F[i]? = some (RStr b many L gone)) (H : St W w F) : Calls Try.prog 71 #[.pointer (some ⟨b, 0, none⟩), .int .i64 n] w (Ret fun v w' => v = .bool false ∧ St W w' F) := by
  have H0 := H.front hi
  refine calls_of_go (n := 15) Try.func71 rfl Try.ntmps71 rfl ?_
  refine g_seq ?_
  refine g_region ?_
  refine r_cons (s_assign (.bool false) rfl rfl ?_)
  refine r_nil ?_
  refine g_seq ?_
  refine g_region ?_
  refine r_cons (s_move (.int .i64 n) rfl rfl ?_)
  by_cases hc1 : (0 : Int) ≤ n
  · skip
    refine r_cons (s_geq true rfl rfl (dtrue hc1) rfl ?_)
    refine r_cons (s_move (.bool true) rfl rfl ?_)
    refine r_cons (r_take rfl rfl ?_)
    refine s_move (.int .i64 n) rfl rfl ?_
    refine r_cons (r_take rfl rfl ?_)
    refine s_move (.pointer (some ⟨b, 0, none⟩)) rfl rfl ?_
    refine r_cons (r_take rfl rfl ?_)
    refine s_nilCheck (.pointer (some ⟨b, 0, none⟩)) rfl ⟨_, rfl⟩ rfl ?_
    refine r_cons (r_take rfl rfl ?_)
    refine s_fieldAddr 52 0 0 0 3 rfl fi_52_0 rfl rfl ?_
    refine r_cons (r_take rfl rfl ?_)
    have H2 := H0.move 0 rfl
    obtain ⟨⟨⟨pp3, cc4⟩, pp5, cc6⟩, H7⟩ := St.open_ex H2
    have H8 := St.open_star H7
    dsimp only at H8
    have H9 : St W w (blk b (.cells #[.int .i64 many, .slice pp3 L.length cc4, .slice pp5 gone.length cc6] 52 (0, 0)) :: Im 5 (.slice pp3 L.length cc4) L.length (L.flatMap evdCell) :: evA L :: Im 1 (.slice pp5 gone.length cc6) gone.length (gone.flatMap blc) :: (F.set i emp)) := H8
    refine s_load (.int .i64 many) ag_3 rfl (H9.blk_at (i := 0) rfl) rfl rfl ?_
    refine r_cons (r_take rfl rfl ?_)
    refine s_lss false rfl rfl (dfalse (by omega)) rfl ?_
    refine r_cons (s_pick_t (.bool false) rfl rfl rfl ?_)
    refine r_cons (s_assign (.bool false) rfl rfl ?_)
    refine r_nil ?_
    refine g_ret' [.bool false] Try.func71 Try.results71 ⟨rfl, trivial⟩ ?_
    have H10 : St W w (RStr b many L gone :: (F.set i emp)) := St.shut_ex ((pp3, cc4), (pp5, cc6)) (St.shut_star (ls := [blk b (.cells #[.int .i64 many, .slice pp3 L.length cc4, .slice pp5 gone.length cc6] 52 (0, 0)), Im 5 (.slice pp3 L.length cc4) L.length (L.flatMap evdCell), evA L, Im 1 (.slice pp5 gone.length cc6) gone.length (gone.flatMap blc)]) H9)
    have H11 : St W w (RStr b many L gone :: (F.set i emp)) := H10
    exact ⟨rfl, St.back_same hi H11⟩
  · skip
    refine r_cons (s_geq false rfl rfl (dfalse hc1) rfl ?_)
    refine r_cons (s_move (.bool false) rfl rfl ?_)
    refine r_cons (r_pass rfl rfl rfl rfl rfl ?_)
    refine r_cons (r_pass rfl rfl rfl rfl rfl ?_)
    refine r_cons (r_pass rfl rfl rfl rfl rfl ?_)
    refine r_cons (r_pass rfl rfl rfl rfl rfl ?_)
    refine r_cons (r_pass rfl rfl rfl rfl rfl ?_)
    refine r_cons (r_pass rfl rfl rfl rfl rfl ?_)
    refine r_cons (s_pick_f (.bool false) rfl rfl rfl ?_)
    refine r_cons (s_assign (.bool false) rfl rfl ?_)
    refine r_nil ?_
    refine g_ret' [.bool false] Try.func71 Try.results71 ⟨rfl, trivial⟩ ?_
    have H12 : St W w (RStr b many L gone :: (F.set i emp)) := H0
    exact ⟨rfl, St.back_same hi H12⟩
set_option maxHeartbeats 4000000 in
set_option maxRecDepth 100000 in
theorem RStr_Closed {W w : World} {F : List Atom} (b : Nat) (many : Int) (L : List EvD) (gone : List Bool) (n : Int) (hgl0 : gone.length = many.toNat) (hm16 : many ≤ 16) {i : Nat} (hi : F[i]? = some (RStr b many L gone)) (H : St W w F) : Calls Try.prog 31 #[.pointer (some ⟨b, 0, none⟩), .int .i64 n] w (Ret fun v w' => v = .bool (rClosed many gone n) ∧ St W w' F) := by
  have H0 := H.front hi
  have hgl : gone.length = many.toNat := hgl0
  refine calls_of_go (n := 17) Try.func31 rfl Try.ntmps31 rfl ?_
  refine g_seq ?_
  refine g_region ?_
  refine r_cons (s_assign (.bool false) rfl rfl ?_)
  refine r_nil ?_
  refine g_seq ?_
  refine g_region ?_
  refine r_cons (s_move (.pointer (some ⟨b, 0, none⟩)) rfl rfl ?_)
  refine r_cons (s_move (.int .i64 n) rfl rfl ?_)
  by_cases hc1 : 0 ≤ n ∧ n < many
  · skip
    refine r_cons (s_call [.pointer (some ⟨b, 0, none⟩), .int .i64 n] pl_71 rfl rfl (RStr_is_in b many L gone n hc1 (i := 0) rfl H0) ?_)
    rintro _ w2 ⟨rfl, H3⟩
    refine r_cons (s_move (.bool true) rfl rfl ?_)
    refine r_cons (r_take rfl rfl ?_)
    refine s_move (.pointer (some ⟨b, 0, none⟩)) rfl rfl ?_
    refine r_cons (r_take rfl rfl ?_)
    refine s_nilCheck (.pointer (some ⟨b, 0, none⟩)) rfl ⟨_, rfl⟩ rfl ?_
    refine r_cons (r_take rfl rfl ?_)
    refine s_fieldAddr 52 2 2 2 50 rfl fi_52_2 rfl rfl ?_
    refine r_cons (r_take rfl rfl ?_)
    have H4 := H3.move 0 rfl
    obtain ⟨⟨⟨pp5, cc6⟩, pp7, cc8⟩, H9⟩ := St.open_ex H4
    have H10 := St.open_star H9
    dsimp only at H10
    have H11 : St W w2 (blk b (.cells #[.int .i64 many, .slice pp5 L.length cc6, .slice pp7 gone.length cc8] 52 (0, 0)) :: Im 5 (.slice pp5 L.length cc6) L.length (L.flatMap evdCell) :: evA L :: Im 1 (.slice pp7 gone.length cc8) gone.length (gone.flatMap blc) :: (F.set i emp)) := H10
    refine s_load (.slice pp7 gone.length cc8) ag_50 rfl (H11.blk_at (i := 0) rfl) rfl rfl ?_
    refine r_cons (r_take rfl rfl ?_)
    refine s_move (.int .i64 n) rfl rfl ?_
    refine r_cons (r_take rfl rfl ?_)
    obtain ⟨pA12, cA13, gA14, oA15, kA16, eA17, zA18, he24, hn19, hp20, hx21, hs22, hml, H23⟩ := Im.open_ H11 (i := 3) rfl
    obtain ⟨rfl, rfl⟩ : pp7 = pA12 ∧ cc8 = cA13 := by injection he24 with a_ b_ c_; exact ⟨a_, c_⟩
    refine s_indexAddr gA14 (off := oA15) n 1 (oA15 + n.toNat * 1) (by exact congrArg (fun z_ => Value.slice z_ gone.length cc8) (hp20 (by omega))) rfl el_50 (by omega) rfl rfl ?_
    refine r_cons (r_take rfl rfl ?_)
    refine s_load (.bool (gone.getD n.toNat false)) ag_4 rfl (H23.imi_at (i := 0) rfl (by omega)) (elem_cell (L := gone) (i := n.toNat) blc_len (hx21 (by omega)) (by omega) false 0 (by decide) _ rfl) rfl ?_
    refine r_cons (s_pick_t (.bool (gone.getD n.toNat false)) rfl rfl rfl ?_)
    refine r_cons (s_assign (.bool (gone.getD n.toNat false)) rfl rfl ?_)
    refine r_nil ?_
    refine g_ret' [.bool (gone.getD n.toNat false)] Try.func31 Try.results31 ⟨rfl, trivial⟩ ?_
    have H25 : St W w2 (blk b (.cells #[.int .i64 many, .slice pp5 L.length cc6, .slice pp7 gone.length cc8] 52 (0, 0)) :: Im 5 (.slice pp5 L.length cc6) L.length (L.flatMap evdCell) :: evA L :: Im 1 (.slice pp7 gone.length cc8) gone.length (gone.flatMap blc) :: imi (0 < gone.length) gA14 (.cells kA16 eA17 zA18) :: (F.set i emp)) := ((((H23.move 4 rfl).move 4 rfl).move 4 rfl).move 4 rfl)
    have H26 : St W w2 (RStr b many L gone :: imi (0 < gone.length) gA14 (.cells kA16 eA17 zA18) :: (F.set i emp)) := St.shut_ex ((pp5, cc6), (pp7, cc8)) (St.shut_star (ls := [blk b (.cells #[.int .i64 many, .slice pp5 L.length cc6, .slice pp7 gone.length cc8] 52 (0, 0)), Im 5 (.slice pp5 L.length cc6) L.length (L.flatMap evdCell), evA L, Im 1 (.slice pp7 gone.length cc8) gone.length (gone.flatMap blc)]) H25)
    have H27 : St W w2 (RStr b many L gone :: (F.set i emp)) := (H26.drop 1 rfl)
    exact ⟨congrArg Value.bool (rClosed_in hc1).symm, St.back_same hi H27⟩
  · skip
    refine r_cons (s_call [.pointer (some ⟨b, 0, none⟩), .int .i64 n] pl_71 rfl rfl (RStr_is_out b many L gone n hc1 (i := 0) rfl H0) ?_)
    rintro _ w28 ⟨rfl, H29⟩
    refine r_cons (s_move (.bool false) rfl rfl ?_)
    refine r_cons (r_pass rfl rfl rfl rfl rfl ?_)
    refine r_cons (r_pass rfl rfl rfl rfl rfl ?_)
    refine r_cons (r_pass rfl rfl rfl rfl rfl ?_)
    refine r_cons (r_pass rfl rfl rfl rfl rfl ?_)
    refine r_cons (r_pass rfl rfl rfl rfl rfl ?_)
    refine r_cons (r_pass rfl rfl rfl rfl rfl ?_)
    refine r_cons (r_pass rfl rfl rfl rfl rfl ?_)
    refine r_cons (s_pick_f (.bool false) rfl rfl rfl ?_)
    refine r_cons (s_assign (.bool false) rfl rfl ?_)
    refine r_nil ?_
    refine g_ret' [.bool false] Try.func31 Try.results31 ⟨rfl, trivial⟩ ?_
    have H30 : St W w28 (RStr b many L gone :: (F.set i emp)) := H29
    exact ⟨congrArg Value.bool (rClosed_out hc1).symm, St.back_same hi H30⟩
set_option maxHeartbeats 4000000 in
set_option maxRecDepth 100000 in
theorem RStr_Next {W w : World} {F : List Atom} (b : Nat) (many : Int) (L : List EvD) (gone : List Bool) (n : Int) {i : Nat} (hi : F[i]? = some (RStr b many L gone)) (H : St W w F) : Calls Try.prog 29 #[.pointer (some ⟨b, 0, none⟩), .int .i64 n] w (Ret fun v w' => v = .int .i64 (cntK (L.map EvD.ev) n (L.map EvD.ev).length) ∧ St W w' F) := by
  have H0 := H.front hi
  refine calls_of_go (n := 30) Try.func29 rfl Try.ntmps29 rfl ?_
  refine g_seq ?_
  refine g_region ?_
  refine r_cons (s_assign (.int .i64 0) rfl rfl ?_)
  refine r_nil ?_
  refine g_seq ?_
  refine g_region ?_
  refine r_cons (s_assign (.int .i64 0) rfl rfl ?_)
  refine r_nil ?_
  refine g_seq ?_
  refine g_seq ?_
  refine g_region ?_
  refine r_cons (s_assign (.int .i64 0) rfl rfl ?_)
  refine r_nil ?_
  refine g_block ?_
  have H1 := H0.move 0 rfl
  obtain ⟨⟨⟨pp2, cc3⟩, pp4, cc5⟩, H6⟩ := St.open_ex H1
  have H7 := St.open_star H6
  dsimp only at H7
  have H8 : St W w (blk b (.cells #[.int .i64 many, .slice pp2 L.length cc3, .slice pp4 gone.length cc5] 52 (0, 0)) :: Im 5 (.slice pp2 L.length cc3) L.length (L.flatMap evdCell) :: evA L :: Im 1 (.slice pp4 gone.length cc5) gone.length (gone.flatMap blc) :: (F.set i emp)) := H7
  have H9 : St W w (blk b (.cells #[.int .i64 many, .slice pp2 L.length cc3, .slice pp4 gone.length cc5] 52 (0, 0)) :: Im 5 (.slice pp2 L.length cc3) L.length (L.flatMap evdCell) :: evA L :: Im 1 (.slice pp4 gone.length cc5) gone.length (gone.flatMap blc) :: (F.set i emp)) := ((((H8.move 3 rfl).move 3 rfl).move 3 rfl).move 3 rfl)
  obtain ⟨pA10, cA11, gA12, oA13, kA14, eA15, zA16, he22, hn17, hp18, hx19, hs20, hml, H21⟩ := Im.open_ H9 (i := 1) rfl
  obtain ⟨rfl, rfl⟩ : pp2 = pA10 ∧ cc3 = cA11 := by injection he22 with a_ b_ c_; exact ⟨a_, c_⟩
  refine g_loop_inv (fun (x_ : Nat) => match x_ with | j => [(0, .pointer (some ⟨b, 0, none⟩)), (1, .int .i64 n), (4, .int .i64 0), (5, .int .i64 (cntK (L.map EvD.ev) n j)), (6, .int .i64 (j : Int))]) (fun (x_ : Nat) w => match x_ with | j => (j ≤ L.length) ∧ St W w (imi (0 < L.length) gA12 (.cells kA14 eA15 zA16) :: blk b (.cells #[.int .i64 many, .slice pp2 L.length cc3, .slice pp4 gone.length cc5] 52 (0, 0)) :: Im 5 (.slice pp2 L.length cc3) L.length (L.flatMap evdCell) :: evA L :: Im 1 (.slice pp4 gone.length cc5) gone.length (gone.flatMap blc) :: (F.set i emp))) (fun (x_ : Nat) => match x_ with | j => L.length - j) (0) ?_ ?_ ?_
  · exact ⟨by first | rfl | exact vint (by omega), by first | rfl | exact vint (by omega), by first | rfl | exact vint (by omega), rfl, by first | rfl | exact vint (by omega), trivial⟩
  · exact ⟨(by omega), H21⟩
  · rintro j ρ23 w24 ⟨hjn, H25⟩ nx26
    change Ends _ _ (upds ρ23 [(0, .pointer (some ⟨b, 0, none⟩)), (1, .int .i64 n), (4, .int .i64 0), (5, .int .i64 (cntK (L.map EvD.ev) n j)), (6, .int .i64 (j : Int))]) w24
    have hck := cntK_range (L.map EvD.ev) n j
    refine g_seq ?_
    refine g_seq ?_
    refine g_region ?_
    refine r_cons (s_move (.int .i64 (j : Int)) rfl rfl ?_)
    refine r_cons (s_move (.pointer (some ⟨b, 0, none⟩)) rfl rfl ?_)
    refine r_cons (s_nilCheck (.pointer (some ⟨b, 0, none⟩)) rfl ⟨_, rfl⟩ rfl ?_)
    refine r_cons (s_fieldAddr 52 1 1 1 49 rfl fi_52_1 rfl rfl ?_)
    refine r_cons (s_load (.slice pp2 L.length cc3) ag_49 rfl (H25.blk_at (i := 1) rfl) rfl rfl ?_)
    refine r_cons (s_len L.length rfl ⟨_, un_49⟩ rfl ?_)
    by_cases hc27 : (j : Int) < (L.length : Int)
    · skip
      refine r_cons (s_lss true rfl rfl (dtrue hc27) rfl ?_)
      refine r_nil ?_
      refine g_true rfl ?_
      refine g_skip ?_
      refine g_seq ?_
      refine g_block ?_
      refine g_seq ?_
      refine g_region ?_
      refine r_cons (s_move (.pointer (some ⟨b, 0, none⟩)) rfl rfl ?_)
      refine r_cons (s_nilCheck (.pointer (some ⟨b, 0, none⟩)) rfl ⟨_, rfl⟩ rfl ?_)
      refine r_cons (s_fieldAddr 52 1 1 1 49 rfl fi_52_1 rfl rfl ?_)
      refine r_cons (s_load (.slice pp2 L.length cc3) ag_49 rfl (H25.blk_at (i := 1) rfl) rfl rfl ?_)
      refine r_cons (s_move (.int .i64 (j : Int)) rfl rfl ?_)
      refine r_cons (s_indexAddr gA12 (off := oA13) (j : Int) 5 (oA13 + j * 5) (by exact congrArg (fun z_ => Value.slice z_ L.length cc3) (hp18 (by omega))) rfl el_49 (by omega) rfl rfl ?_)
      refine r_cons (s_fieldAddr 33 0 0 (oA13 + j * 5) 30 rfl fi_33_0 rfl rfl ?_)
      refine r_cons (s_fieldAddr 30 0 0 (oA13 + j * 5) 3 rfl fi_30_0 rfl rfl ?_)
      refine r_cons (s_load (.int .i64 ((L.getD j default).ev.src.v)) ag_3 rfl (H25.imi_at (i := 0) rfl (by omega)) (elem_cell (L := L) (i := j) evdCell_len (hx19 (by omega)) (by omega) default 0 (by decide) _ rfl) rfl ?_)
      refine r_cons (s_move (.int .i64 n) rfl rfl ?_)
      by_cases hc28 : (L.getD j default).ev.src.v = n
      · skip
        refine r_cons (s_eql true rfl rfl (dtrue hc28) rfl ?_)
        refine r_nil ?_
        refine g_true rfl ?_
        refine g_region ?_
        refine r_cons (s_move (.int .i64 (cntK (L.map EvD.ev) n j)) rfl rfl ?_)
        refine r_cons (s_add (cntK (L.map EvD.ev) n j + 1) rfl rfl (wi64 (by omega)) rfl ?_)
        refine r_cons (s_assign (.int .i64 (cntK (L.map EvD.ev) n j + 1)) rfl rfl ?_)
        refine r_nil ?_
        refine g_inBlock ?_
        refine g_region ?_
        refine r_cons (s_move (.int .i64 (j : Int)) rfl rfl ?_)
        refine r_cons (s_add ((j : Int) + 1) rfl rfl (wi64 (by omega)) rfl ?_)
        refine r_cons (s_assign (.int .i64 ((j : Int) + 1)) rfl rfl ?_)
        refine r_nil ?_
        have H29 : St W w24 (imi (0 < L.length) gA12 (.cells kA14 eA15 zA16) :: blk b (.cells #[.int .i64 many, .slice pp2 L.length cc3, .slice pp4 gone.length cc5] 52 (0, 0)) :: Im 5 (.slice pp2 L.length cc3) L.length (L.flatMap evdCell) :: evA L :: Im 1 (.slice pp4 gone.length cc5) gone.length (gone.flatMap blc) :: (F.set i emp)) := (((((H25.move 4 rfl).move 4 rfl).move 4 rfl).move 4 rfl).move 4 rfl)
        exact nx26 (j + 1) _ _ ⟨(by omega), H29⟩ (by first | (dsimp only; omega) | omega) ⟨by first | rfl | exact vint (by omega), by first | rfl | exact vint (by omega), by first | rfl | exact vint (by omega), vint (cnt_yes hc28).symm, by first | rfl | exact vint (by omega), trivial⟩
      · skip
        refine r_cons (s_eql false rfl rfl (dfalse hc28) rfl ?_)
        refine r_nil ?_
        refine g_false rfl ?_
        refine g_skip ?_
        refine g_inBlock ?_
        refine g_region ?_
        refine r_cons (s_move (.int .i64 (j : Int)) rfl rfl ?_)
        refine r_cons (s_add ((j : Int) + 1) rfl rfl (wi64 (by omega)) rfl ?_)
        refine r_cons (s_assign (.int .i64 ((j : Int) + 1)) rfl rfl ?_)
        refine r_nil ?_
        have H30 : St W w24 (imi (0 < L.length) gA12 (.cells kA14 eA15 zA16) :: blk b (.cells #[.int .i64 many, .slice pp2 L.length cc3, .slice pp4 gone.length cc5] 52 (0, 0)) :: Im 5 (.slice pp2 L.length cc3) L.length (L.flatMap evdCell) :: evA L :: Im 1 (.slice pp4 gone.length cc5) gone.length (gone.flatMap blc) :: (F.set i emp)) := (((((H25.move 4 rfl).move 4 rfl).move 4 rfl).move 4 rfl).move 4 rfl)
        exact nx26 (j + 1) _ _ ⟨(by omega), H30⟩ (by first | (dsimp only; omega) | omega) ⟨by first | rfl | exact vint (by omega), by first | rfl | exact vint (by omega), by first | rfl | exact vint (by omega), vint (cnt_no hc28).symm, by first | rfl | exact vint (by omega), trivial⟩
    · skip
      refine r_cons (s_lss false rfl rfl (dfalse hc27) rfl ?_)
      refine r_nil ?_
      refine g_false rfl ?_
      refine g_exit (by rfl) ?_
      refine g_seq ?_
      refine g_region ?_
      refine r_cons (s_move (.int .i64 (cntK (L.map EvD.ev) n j)) rfl rfl ?_)
      refine r_cons (s_assign (.int .i64 (cntK (L.map EvD.ev) n j)) rfl rfl ?_)
      refine r_nil ?_
      refine g_ret' [.int .i64 (cntK (L.map EvD.ev) n j)] Try.func29 Try.results29 ⟨rfl, trivial⟩ ?_
      have H31 : St W w24 (blk b (.cells #[.int .i64 many, .slice pp2 L.length cc3, .slice pp4 gone.length cc5] 52 (0, 0)) :: Im 5 (.slice pp2 L.length cc3) L.length (L.flatMap evdCell) :: evA L :: Im 1 (.slice pp4 gone.length cc5) gone.length (gone.flatMap blc) :: imi (0 < L.length) gA12 (.cells kA14 eA15 zA16) :: (F.set i emp)) := ((((H25.move 4 rfl).move 4 rfl).move 4 rfl).move 4 rfl)
      have H32 : St W w24 (RStr b many L gone :: imi (0 < L.length) gA12 (.cells kA14 eA15 zA16) :: (F.set i emp)) := St.shut_ex ((pp2, cc3), (pp4, cc5)) (St.shut_star (ls := [blk b (.cells #[.int .i64 many, .slice pp2 L.length cc3, .slice pp4 gone.length cc5] 52 (0, 0)), Im 5 (.slice pp2 L.length cc3) L.length (L.flatMap evdCell), evA L, Im 1 (.slice pp4 gone.length cc5) gone.length (gone.flatMap blc)]) H31)
      have H33 : St W w24 (RStr b many L gone :: (F.set i emp)) := (H32.drop 1 rfl)
      exact ⟨vint (cnt_end (by omega)), St.back_same hi H33⟩
set_option maxHeartbeats 4000000 in
set_option maxRecDepth 100000 in
theorem RStr_Mark {W w : World} {F : List Atom} (b : Nat) (many : Int) (L : List EvD) (gone : List Bool) (n : Int) (hgl0 : gone.length = many.toNat) (hm16 : many ≤ 16) {i : Nat} (hi : F[i]? = some (RStr b many L gone)) (H : St W w F) : Calls Try.prog 30 #[.pointer (some ⟨b, 0, none⟩), .int .i64 n] w (Ret fun v w' => v = .int .i64 (rMark many (L.map EvD.ev) gone n) ∧ St W w' F) := by
  have H0 := H.front hi
  have hgl : gone.length = many.toNat := hgl0
  refine calls_of_go (n := 39) Try.func30 rfl Try.ntmps30 rfl ?_
  refine g_seq ?_
  refine g_region ?_
  refine r_cons (s_assign (.int .i64 0) rfl rfl ?_)
  refine r_nil ?_
  refine g_seq ?_
  refine g_seq ?_
  refine g_region ?_
  refine r_cons (s_move (.pointer (some ⟨b, 0, none⟩)) rfl rfl ?_)
  refine r_cons (s_move (.int .i64 n) rfl rfl ?_)
  refine r_cons (s_call [.pointer (some ⟨b, 0, none⟩), .int .i64 n] pl_31 rfl rfl (RStr_Closed b many L gone n (by first | assumption | omega) (by first | assumption | omega) (i := 0) rfl H0) ?_)
  rintro _ w1 ⟨rfl, H2⟩
  refine r_nil ?_
  by_cases hb3 : (rClosed many gone n) = true
  · skip
    refine g_true (congrArg Value.bool hb3) ?_
    refine g_seq ?_
    refine g_region ?_
    refine r_cons (s_assign (.int .i64 1099511627777) rfl rfl ?_)
    refine r_nil ?_
    refine g_ret' [.int .i64 1099511627777] Try.func30 Try.results30 ⟨rfl, trivial⟩ ?_
    have H4 : St W w1 (RStr b many L gone :: (F.set i emp)) := H2
    exact ⟨vint (rMark_c hb3).symm, St.back_same hi H4⟩
  · have hb3 := eq_false_of_ne_true hb3
    refine g_false (congrArg Value.bool hb3) ?_
    refine g_skip ?_
    refine g_seq ?_
    refine g_region ?_
    refine r_cons (s_assign (.int .i64 0) rfl rfl ?_)
    refine r_nil ?_
    refine g_seq ?_
    refine g_seq ?_
    refine g_region ?_
    refine r_cons (s_assign (.int .i64 0) rfl rfl ?_)
    refine r_nil ?_
    refine g_block ?_
    have H5 := H2.move 0 rfl
    obtain ⟨⟨⟨pp6, cc7⟩, pp8, cc9⟩, H10⟩ := St.open_ex H5
    have H11 := St.open_star H10
    dsimp only at H11
    have H12 : St W w1 (blk b (.cells #[.int .i64 many, .slice pp6 L.length cc7, .slice pp8 gone.length cc9] 52 (0, 0)) :: Im 5 (.slice pp6 L.length cc7) L.length (L.flatMap evdCell) :: evA L :: Im 1 (.slice pp8 gone.length cc9) gone.length (gone.flatMap blc) :: (F.set i emp)) := H11
    have H13 : St W w1 (blk b (.cells #[.int .i64 many, .slice pp6 L.length cc7, .slice pp8 gone.length cc9] 52 (0, 0)) :: Im 5 (.slice pp6 L.length cc7) L.length (L.flatMap evdCell) :: evA L :: Im 1 (.slice pp8 gone.length cc9) gone.length (gone.flatMap blc) :: (F.set i emp)) := ((((H12.move 3 rfl).move 3 rfl).move 3 rfl).move 3 rfl)
    obtain ⟨pA14, cA15, gA16, oA17, kA18, eA19, zA20, he26, hn21, hp22, hx23, hs24, hml, H25⟩ := Im.open_ H13 (i := 1) rfl
    obtain ⟨rfl, rfl⟩ : pp6 = pA14 ∧ cc7 = cA15 := by injection he26 with a_ b_ c_; exact ⟨a_, c_⟩
    refine g_loop_inv (fun (x_ : Nat) => match x_ with | j => [(0, .pointer (some ⟨b, 0, none⟩)), (1, .int .i64 n), (4, .int .i64 0), (5, .int .i64 (lastK (L.map EvD.ev) n j)), (6, .int .i64 (j : Int))]) (fun (x_ : Nat) w => match x_ with | j => (j ≤ L.length) ∧ St W w (imi (0 < L.length) gA16 (.cells kA18 eA19 zA20) :: blk b (.cells #[.int .i64 many, .slice pp6 L.length cc7, .slice pp8 gone.length cc9] 52 (0, 0)) :: Im 5 (.slice pp6 L.length cc7) L.length (L.flatMap evdCell) :: evA L :: Im 1 (.slice pp8 gone.length cc9) gone.length (gone.flatMap blc) :: (F.set i emp))) (fun (x_ : Nat) => match x_ with | j => L.length - j) (0) ?_ ?_ ?_
    · exact ⟨by first | rfl | exact vint (by omega), by first | rfl | exact vint (by omega), by first | rfl | exact vint (by omega), rfl, by first | rfl | exact vint (by omega), trivial⟩
    · exact ⟨(by omega), H25⟩
    · rintro j ρ27 w28 ⟨hjn, H29⟩ nx30
      change Ends _ _ (upds ρ27 [(0, .pointer (some ⟨b, 0, none⟩)), (1, .int .i64 n), (4, .int .i64 0), (5, .int .i64 (lastK (L.map EvD.ev) n j)), (6, .int .i64 (j : Int))]) w28
      refine g_seq ?_
      refine g_seq ?_
      refine g_region ?_
      refine r_cons (s_move (.int .i64 (j : Int)) rfl rfl ?_)
      refine r_cons (s_move (.pointer (some ⟨b, 0, none⟩)) rfl rfl ?_)
      refine r_cons (s_nilCheck (.pointer (some ⟨b, 0, none⟩)) rfl ⟨_, rfl⟩ rfl ?_)
      refine r_cons (s_fieldAddr 52 1 1 1 49 rfl fi_52_1 rfl rfl ?_)
      refine r_cons (s_load (.slice pp6 L.length cc7) ag_49 rfl (H29.blk_at (i := 1) rfl) rfl rfl ?_)
      refine r_cons (s_len L.length rfl ⟨_, un_49⟩ rfl ?_)
      by_cases hc31 : (j : Int) < (L.length : Int)
      · skip
        refine r_cons (s_lss true rfl rfl (dtrue hc31) rfl ?_)
        refine r_nil ?_
        refine g_true rfl ?_
        refine g_skip ?_
        refine g_seq ?_
        refine g_block ?_
        refine g_seq ?_
        refine g_region ?_
        refine r_cons (s_move (.pointer (some ⟨b, 0, none⟩)) rfl rfl ?_)
        refine r_cons (s_nilCheck (.pointer (some ⟨b, 0, none⟩)) rfl ⟨_, rfl⟩ rfl ?_)
        refine r_cons (s_fieldAddr 52 1 1 1 49 rfl fi_52_1 rfl rfl ?_)
        refine r_cons (s_load (.slice pp6 L.length cc7) ag_49 rfl (H29.blk_at (i := 1) rfl) rfl rfl ?_)
        refine r_cons (s_move (.int .i64 (j : Int)) rfl rfl ?_)
        refine r_cons (s_indexAddr gA16 (off := oA17) (j : Int) 5 (oA17 + j * 5) (by exact congrArg (fun z_ => Value.slice z_ L.length cc7) (hp22 (by omega))) rfl el_49 (by omega) rfl rfl ?_)
        refine r_cons (s_fieldAddr 33 0 0 (oA17 + j * 5) 30 rfl fi_33_0 rfl rfl ?_)
        refine r_cons (s_fieldAddr 30 0 0 (oA17 + j * 5) 3 rfl fi_30_0 rfl rfl ?_)
        refine r_cons (s_load (.int .i64 ((L.getD j default).ev.src.v)) ag_3 rfl (H29.imi_at (i := 0) rfl (by omega)) (elem_cell (L := L) (i := j) evdCell_len (hx23 (by omega)) (by omega) default 0 (by decide) _ rfl) rfl ?_)
        refine r_cons (s_move (.int .i64 n) rfl rfl ?_)
        by_cases hc32 : (L.getD j default).ev.src.v = n
        · skip
          refine r_cons (s_eql true rfl rfl (dtrue hc32) rfl ?_)
          refine r_nil ?_
          refine g_true rfl ?_
          refine g_region ?_
          refine r_cons (s_move (.pointer (some ⟨b, 0, none⟩)) rfl rfl ?_)
          refine r_cons (s_nilCheck (.pointer (some ⟨b, 0, none⟩)) rfl ⟨_, rfl⟩ rfl ?_)
          refine r_cons (s_fieldAddr 52 1 1 1 49 rfl fi_52_1 rfl rfl ?_)
          refine r_cons (s_load (.slice pp6 L.length cc7) ag_49 rfl (H29.blk_at (i := 1) rfl) rfl rfl ?_)
          refine r_cons (s_move (.int .i64 (j : Int)) rfl rfl ?_)
          refine r_cons (s_indexAddr gA16 (off := oA17) (j : Int) 5 (oA17 + j * 5) (by exact congrArg (fun z_ => Value.slice z_ L.length cc7) (hp22 (by omega))) rfl el_49 (by omega) rfl rfl ?_)
          refine r_cons (s_fieldAddr 33 1 2 (oA17 + j * 5 + 2) 2 rfl fi_33_1 rfl rfl ?_)
          refine r_cons (s_load (.int .i64 ((L.getD j default).ev.time.v)) ag_2 rfl (H29.imi_at (i := 0) rfl (by omega)) (elem_cell (L := L) (i := j) evdCell_len (hx23 (by omega)) (by omega) default 2 (by decide) _ rfl) rfl ?_)
          refine r_cons (s_assign (.int .i64 ((L.getD j default).ev.time.v)) rfl rfl ?_)
          refine r_nil ?_
          refine g_inBlock ?_
          refine g_region ?_
          refine r_cons (s_move (.int .i64 (j : Int)) rfl rfl ?_)
          refine r_cons (s_add ((j : Int) + 1) rfl rfl (wi64 (by omega)) rfl ?_)
          refine r_cons (s_assign (.int .i64 ((j : Int) + 1)) rfl rfl ?_)
          refine r_nil ?_
          have H33 : St W w28 (imi (0 < L.length) gA16 (.cells kA18 eA19 zA20) :: blk b (.cells #[.int .i64 many, .slice pp6 L.length cc7, .slice pp8 gone.length cc9] 52 (0, 0)) :: Im 5 (.slice pp6 L.length cc7) L.length (L.flatMap evdCell) :: evA L :: Im 1 (.slice pp8 gone.length cc9) gone.length (gone.flatMap blc) :: (F.set i emp)) := (((((H29.move 4 rfl).move 4 rfl).move 4 rfl).move 4 rfl).move 4 rfl)
          exact nx30 (j + 1) _ _ ⟨(by omega), H33⟩ (by first | (dsimp only; omega) | omega) ⟨by first | rfl | exact vint (by omega), by first | rfl | exact vint (by omega), by first | rfl | exact vint (by omega), vint (last_yes hc32).symm, by first | rfl | exact vint (by omega), trivial⟩
        · skip
          refine r_cons (s_eql false rfl rfl (dfalse hc32) rfl ?_)
          refine r_nil ?_
          refine g_false rfl ?_
          refine g_skip ?_
          refine g_inBlock ?_
          refine g_region ?_
          refine r_cons (s_move (.int .i64 (j : Int)) rfl rfl ?_)
          refine r_cons (s_add ((j : Int) + 1) rfl rfl (wi64 (by omega)) rfl ?_)
          refine r_cons (s_assign (.int .i64 ((j : Int) + 1)) rfl rfl ?_)
          refine r_nil ?_
          have H34 : St W w28 (imi (0 < L.length) gA16 (.cells kA18 eA19 zA20) :: blk b (.cells #[.int .i64 many, .slice pp6 L.length cc7, .slice pp8 gone.length cc9] 52 (0, 0)) :: Im 5 (.slice pp6 L.length cc7) L.length (L.flatMap evdCell) :: evA L :: Im 1 (.slice pp8 gone.length cc9) gone.length (gone.flatMap blc) :: (F.set i emp)) := (((((H29.move 4 rfl).move 4 rfl).move 4 rfl).move 4 rfl).move 4 rfl)
          exact nx30 (j + 1) _ _ ⟨(by omega), H34⟩ (by first | (dsimp only; omega) | omega) ⟨by first | rfl | exact vint (by omega), by first | rfl | exact vint (by omega), by first | rfl | exact vint (by omega), vint (last_no hc32).symm, by first | rfl | exact vint (by omega), trivial⟩
      · skip
        refine r_cons (s_lss false rfl rfl (dfalse hc31) rfl ?_)
        refine r_nil ?_
        refine g_false rfl ?_
        refine g_exit (by rfl) ?_
        refine g_seq ?_
        refine g_region ?_
        refine r_cons (s_move (.int .i64 (lastK (L.map EvD.ev) n j)) rfl rfl ?_)
        refine r_cons (s_assign (.int .i64 (lastK (L.map EvD.ev) n j)) rfl rfl ?_)
        refine r_nil ?_
        refine g_ret' [.int .i64 (lastK (L.map EvD.ev) n j)] Try.func30 Try.results30 ⟨rfl, trivial⟩ ?_
        have H35 : St W w28 (blk b (.cells #[.int .i64 many, .slice pp6 L.length cc7, .slice pp8 gone.length cc9] 52 (0, 0)) :: Im 5 (.slice pp6 L.length cc7) L.length (L.flatMap evdCell) :: evA L :: Im 1 (.slice pp8 gone.length cc9) gone.length (gone.flatMap blc) :: imi (0 < L.length) gA16 (.cells kA18 eA19 zA20) :: (F.set i emp)) := ((((H29.move 4 rfl).move 4 rfl).move 4 rfl).move 4 rfl)
        have H36 : St W w28 (RStr b many L gone :: imi (0 < L.length) gA16 (.cells kA18 eA19 zA20) :: (F.set i emp)) := St.shut_ex ((pp6, cc7), (pp8, cc9)) (St.shut_star (ls := [blk b (.cells #[.int .i64 many, .slice pp6 L.length cc7, .slice pp8 gone.length cc9] 52 (0, 0)), Im 5 (.slice pp6 L.length cc7) L.length (L.flatMap evdCell), evA L, Im 1 (.slice pp8 gone.length cc9) gone.length (gone.flatMap blc)]) H35)
        have H37 : St W w28 (RStr b many L gone :: (F.set i emp)) := (H36.drop 1 rfl)
        exact ⟨vint ((last_end (by omega)).trans (rMark_o hb3).symm), St.back_same hi H37⟩
set_option maxHeartbeats 4000000 in
set_option maxRecDepth 100000 in
theorem RStr_Accept {W w : World} {F : List Atom} (b : Nat) (many : Int) (L : List EvD) (gone : List Bool) (hgl0 : gone.length = many.toNat) (hm16 : many ≤ 16) (e : EvM) (av : Value) {j : Nat} (hj : F[j]? = some (Attrs av e.attrs)) {i : Nat} (hi : F[i]? = some (RStr b many L gone)) (H : St W w F) : Calls Try.prog 25 #[.pointer (some ⟨b, 0, none⟩), .agg #[.int .i64 e.src.v, .int .i64 e.seq.v, .int .i64 e.time.v, .string e.typ.v, av]] w (Ret fun v w' => v = .int .i64 (rAcc many (L.map EvD.ev) gone e) ∧ ∃ L2 : List EvD, L2.map EvD.ev = rList many (L.map EvD.ev) gone e ∧ St W w' (F.set i (RStr b many L2 gone))) := by
  have hgl : gone.length = many.toNat := hgl0
  have H0 := (H.dup hj (Attrs_pers _ _)).front (i := i + 1) (by simpa using hi)
  refine calls_of_go (n := 62) Try.func25 rfl Try.ntmps25 rfl ?_
  refine g_seq ?_
  refine g_region ?_
  refine r_cons (s_box H0 33 (.agg #[.int .i64 e.src.v, .int .i64 e.seq.v, .int .i64 e.time.v, .string e.typ.v, av]) rfl (cs := #[.int .i64 e.src.v, .int .i64 e.seq.v, .int .i64 e.time.v, .string e.typ.v, av]) rfl rfl ?_); intro bk1 w2 H3
  refine r_cons (s_assign (.int .i64 0) rfl rfl ?_)
  refine r_nil ?_
  refine g_seq ?_
  refine g_seq ?_
  refine g_region ?_
  refine r_cons (s_loadAgg [.int .i64 e.src.v, .int .i64 e.seq.v, .int .i64 e.time.v, .string e.typ.v, av] 5 ag_33 rfl (H3.blk_at (i := 0) rfl) (Nat.le_of_ble_eq_true rfl) rfl rfl ?_)
  refine r_cons (s_call [.agg #[.int .i64 e.src.v, .int .i64 e.seq.v, .int .i64 e.time.v, .string e.typ.v, av]] pl_18 rfl rfl (ref04_Check e av (j := 2) rfl H3) ?_)
  rintro _ w4 ⟨rfl, H5⟩
  refine r_cons (s_assign (.int .i64 (evE e)) rfl rfl ?_)
  refine r_nil ?_
  refine g_seq ?_
  refine g_region ?_
  refine r_cons (s_move (.int .i64 (evE e)) rfl rfl ?_)
  by_cases hc6 : evE e = 0
  · skip
    refine r_cons (s_neq false rfl rfl (ntrue hc6) rfl ?_)
    refine r_nil ?_
    refine g_false rfl ?_
    refine g_skip ?_
    refine g_seq ?_
    refine g_region ?_
    have hr := evE_range ‹evE e = 0›
    have hl := attrsE_len hr.2.2.2.2.2
    have hq := timeB_range hr.2.2.1
    have hr1 := hr.1
    have hr2 := hr.2.1
    clear hr
    refine r_cons (s_fieldAddr 33 0 0 0 30 rfl fi_33_0 rfl rfl ?_)
    refine r_cons (s_fieldAddr 30 0 0 0 3 rfl fi_30_0 rfl rfl ?_)
    refine r_cons (s_load (.int .i64 e.src.v) ag_3 rfl (H5.blk_at (i := 0) rfl) rfl rfl ?_)
    refine r_cons (s_assign (.int .i64 e.src.v) rfl rfl ?_)
    refine r_nil ?_
    refine g_seq ?_
    refine g_block ?_
    refine g_seq ?_
    refine g_region ?_
    refine r_cons (s_move (.pointer (some ⟨b, 0, none⟩)) rfl rfl ?_)
    refine r_cons (s_move (.int .i64 e.src.v) rfl rfl ?_)
    by_cases hc7 : 0 ≤ e.src.v ∧ e.src.v < many
    · skip
      refine r_cons (s_call [.pointer (some ⟨b, 0, none⟩), .int .i64 e.src.v] pl_71 rfl rfl (RStr_is_in b many L gone e.src.v hc7 (i := 1) rfl H5) ?_)
      rintro _ w8 ⟨rfl, H9⟩
      refine r_cons (s_not true rfl false rfl rfl ?_)
      refine r_cons (s_assign (.bool false) rfl rfl ?_)
      refine r_nil ?_
      refine g_false rfl ?_
      refine g_seq ?_
      refine g_region ?_
      refine r_cons (s_move (.pointer (some ⟨b, 0, none⟩)) rfl rfl ?_)
      refine r_cons (s_nilCheck (.pointer (some ⟨b, 0, none⟩)) rfl ⟨_, rfl⟩ rfl ?_)
      refine r_cons (s_fieldAddr 52 2 2 2 50 rfl fi_52_2 rfl rfl ?_)
      have H10 := H9.move 1 rfl
      obtain ⟨⟨⟨pp11, cc12⟩, pp13, cc14⟩, H15⟩ := St.open_ex H10
      have H16 := St.open_star H15
      dsimp only at H16
      have H17 : St W w8 (blk b (.cells #[.int .i64 many, .slice pp11 L.length cc12, .slice pp13 gone.length cc14] 52 (0, 0)) :: Im 5 (.slice pp11 L.length cc12) L.length (L.flatMap evdCell) :: evA L :: Im 1 (.slice pp13 gone.length cc14) gone.length (gone.flatMap blc) :: blk bk1 (.cells #[.int .i64 e.src.v, .int .i64 e.seq.v, .int .i64 e.time.v, .string e.typ.v, av] 33 (0, 0)) :: Attrs av e.attrs :: (F.set i emp)) := H16
      refine r_cons (s_load (.slice pp13 gone.length cc14) ag_50 rfl (H17.blk_at (i := 0) rfl) rfl rfl ?_)
      refine r_cons (s_move (.int .i64 e.src.v) rfl rfl ?_)
      obtain ⟨pA18, cA19, gA20, oA21, kA22, eA23, zA24, he30, hn25, hp26, hx27, hs28, hml, H29⟩ := Im.open_ H17 (i := 3) rfl
      obtain ⟨rfl, rfl⟩ : pp13 = pA18 ∧ cc14 = cA19 := by injection he30 with a_ b_ c_; exact ⟨a_, c_⟩
      refine r_cons (s_indexAddr gA20 (off := oA21) e.src.v 1 (oA21 + e.src.v.toNat * 1) (by exact congrArg (fun z_ => Value.slice z_ gone.length cc14) (hp26 (by omega))) rfl el_50 (by omega) rfl rfl ?_)
      refine r_cons (s_load (.bool (gone.getD e.src.v.toNat false)) ag_4 rfl (H29.imi_at (i := 0) rfl (by omega)) (elem_cell (L := gone) (i := e.src.v.toNat) blc_len (hx27 (by omega)) (by omega) false 0 (by decide) _ rfl) rfl ?_)
      refine r_cons (s_assign (.bool (gone.getD e.src.v.toNat false)) rfl rfl ?_)
      refine r_nil ?_
      by_cases hb31 : (gone.getD e.src.v.toNat false) = true
      · skip
        refine g_true (congrArg Value.bool hb31) ?_
        refine g_seq ?_
        refine g_region ?_
        refine r_cons (s_assign (.int .i64 43) rfl rfl ?_)
        refine r_nil ?_
        refine g_ret' [.int .i64 43] Try.func25 Try.results25 ⟨rfl, trivial⟩ ?_
        have hA : rAcc many (L.map EvD.ev) gone e = 43 := by first | exact rAcc_1 ‹_› | exact rAcc_2 ‹_› ‹_› | exact rAcc_3 ‹_› ‹_› ‹_› | exact rAcc_4 ‹_› ‹_› ‹_› ‹_› | exact rAcc_5 ‹_› ‹_› ‹_› ‹_› ‹_› | exact rAcc_6 ‹_› ‹_› ‹_› ‹_› ‹_› (by rw [List.length_map]; omega)
        have hB : ¬ rAcc many (L.map EvD.ev) gone e = 0 := by rw [hA]; first | assumption | decide
        have H32 : St W w8 (blk b (.cells #[.int .i64 many, .slice pp11 L.length cc12, .slice pp13 gone.length cc14] 52 (0, 0)) :: Im 5 (.slice pp11 L.length cc12) L.length (L.flatMap evdCell) :: evA L :: Im 1 (.slice pp13 gone.length cc14) gone.length (gone.flatMap blc) :: imi (0 < gone.length) gA20 (.cells kA22 eA23 zA24) :: blk bk1 (.cells #[.int .i64 e.src.v, .int .i64 e.seq.v, .int .i64 e.time.v, .string e.typ.v, av] 33 (0, 0)) :: Attrs av e.attrs :: (F.set i emp)) := ((((H29.move 4 rfl).move 4 rfl).move 4 rfl).move 4 rfl)
        have H33 : St W w8 (RStr b many L gone :: imi (0 < gone.length) gA20 (.cells kA22 eA23 zA24) :: blk bk1 (.cells #[.int .i64 e.src.v, .int .i64 e.seq.v, .int .i64 e.time.v, .string e.typ.v, av] 33 (0, 0)) :: Attrs av e.attrs :: (F.set i emp)) := St.shut_ex ((pp11, cc12), (pp13, cc14)) (St.shut_star (ls := [blk b (.cells #[.int .i64 many, .slice pp11 L.length cc12, .slice pp13 gone.length cc14] 52 (0, 0)), Im 5 (.slice pp11 L.length cc12) L.length (L.flatMap evdCell), evA L, Im 1 (.slice pp13 gone.length cc14) gone.length (gone.flatMap blc)]) H32)
        have H34 : St W w8 (RStr b many L gone :: (F.set i emp)) := (((H33.drop 1 rfl).drop 1 rfl).drop 1 rfl)
        exact ⟨vint hA.symm, L, (rList_no hB).symm, St.back hi H34⟩
      · have hb31 := eq_false_of_ne_true hb31
        refine g_false (congrArg Value.bool hb31) ?_
        refine g_seq ?_
        have H35 : St W w8 (blk b (.cells #[.int .i64 many, .slice pp11 L.length cc12, .slice pp13 gone.length cc14] 52 (0, 0)) :: Im 5 (.slice pp11 L.length cc12) L.length (L.flatMap evdCell) :: evA L :: Im 1 (.slice pp13 gone.length cc14) gone.length (gone.flatMap blc) :: imi (0 < gone.length) gA20 (.cells kA22 eA23 zA24) :: blk bk1 (.cells #[.int .i64 e.src.v, .int .i64 e.seq.v, .int .i64 e.time.v, .string e.typ.v, av] 33 (0, 0)) :: Attrs av e.attrs :: (F.set i emp)) := ((((H29.move 4 rfl).move 4 rfl).move 4 rfl).move 4 rfl)
        have H36 : St W w8 (RStr b many L gone :: imi (0 < gone.length) gA20 (.cells kA22 eA23 zA24) :: blk bk1 (.cells #[.int .i64 e.src.v, .int .i64 e.seq.v, .int .i64 e.time.v, .string e.typ.v, av] 33 (0, 0)) :: Attrs av e.attrs :: (F.set i emp)) := St.shut_ex ((pp11, cc12), (pp13, cc14)) (St.shut_star (ls := [blk b (.cells #[.int .i64 many, .slice pp11 L.length cc12, .slice pp13 gone.length cc14] 52 (0, 0)), Im 5 (.slice pp11 L.length cc12) L.length (L.flatMap evdCell), evA L, Im 1 (.slice pp13 gone.length cc14) gone.length (gone.flatMap blc)]) H35)
        refine g_quiet (fun w' => St W w' (RStr b many L gone :: imi (0 < gone.length) gA20 (.cells kA22 eA23 zA24) :: blk bk1 (.cells #[.int .i64 e.src.v, .int .i64 e.seq.v, .int .i64 e.time.v, .string e.typ.v, av] 33 (0, 0)) :: Attrs av e.attrs :: (F.set i emp))) mixed (by kernel_rfl) H36.drew ?_
        refine q_cons (q_val rfl rfl rfl (by intro w hw; exact x_fieldAddr 33 0 0 0 30 rfl fi_33_0 rfl w) ?_)
        refine q_cons (q_val rfl rfl rfl (by intro w hw; exact x_fieldAddr 30 1 1 1 2 rfl fi_30_1 rfl w) ?_)
        refine q_cons (q_val rfl rfl rfl (by intro w hw; exact x_load (.int .i64 e.seq.v) ag_2 rfl (hw.blk_at (i := 2) rfl) rfl) ?_)
        refine q_cons (q_val rfl rfl rfl (by intro w hw; exact x_move (.pointer (some ⟨b, 0, none⟩)) rfl w) ?_)
        refine q_cons (q_val rfl rfl rfl (by intro w hw; exact x_move (.int .i64 e.src.v) rfl w) ?_)
        refine q_cons (q_enter (args := #[.pointer (some ⟨b, 0, none⟩), .int .i64 e.src.v]) (v := .int .i64 (cntK (L.map EvD.ev) e.src.v (L.map EvD.ev).length)) rfl rfl rfl (x_call pl_29 [.pointer (some ⟨b, 0, none⟩), .int .i64 e.src.v] rfl) (fun w hw => RStr_Next b many L gone e.src.v (i := 0) rfl hw) ?_)
        by_cases hc37 : e.seq.v = cntK (L.map EvD.ev) e.src.v (L.map EvD.ev).length
        · skip
          refine q_cons (q_val rfl rfl rfl (by intro w hw; exact x_neq false rfl rfl (ntrue hc37) w) ?_)
          refine q_cons (q_val rfl rfl rfl (by intro w hw; exact x_assign (.bool false) rfl w) ?_)
          refine q_nil ?_
          intro w38 H39
          refine g_false rfl ?_
          refine g_seq ?_
          refine g_quiet (fun w' => St W w' (RStr b many L gone :: imi (0 < gone.length) gA20 (.cells kA22 eA23 zA24) :: blk bk1 (.cells #[.int .i64 e.src.v, .int .i64 e.seq.v, .int .i64 e.time.v, .string e.typ.v, av] 33 (0, 0)) :: Attrs av e.attrs :: (F.set i emp))) mixed (by kernel_rfl) H39.drew ?_
          refine q_cons (q_val rfl rfl rfl (by intro w hw; exact x_fieldAddr 33 1 2 2 2 rfl fi_33_1 rfl w) ?_)
          refine q_cons (q_val rfl rfl rfl (by intro w hw; exact x_load (.int .i64 e.time.v) ag_2 rfl (hw.blk_at (i := 2) rfl) rfl) ?_)
          refine q_cons (q_val rfl rfl rfl (by intro w hw; exact x_move (.pointer (some ⟨b, 0, none⟩)) rfl w) ?_)
          refine q_cons (q_val rfl rfl rfl (by intro w hw; exact x_move (.int .i64 e.src.v) rfl w) ?_)
          refine q_cons (q_enter (args := #[.pointer (some ⟨b, 0, none⟩), .int .i64 e.src.v]) (v := .int .i64 (rMark many (L.map EvD.ev) gone e.src.v)) rfl rfl rfl (x_call pl_30 [.pointer (some ⟨b, 0, none⟩), .int .i64 e.src.v] rfl) (fun w hw => RStr_Mark b many L gone e.src.v (by first | assumption | omega) (by first | assumption | omega) (i := 0) rfl hw) ?_)
          by_cases hc40 : e.time.v < rMark many (L.map EvD.ev) gone e.src.v
          · skip
            refine q_cons (q_val rfl rfl rfl (by intro w hw; exact x_lss true rfl rfl (dtrue hc40) w) ?_)
            refine q_cons (q_val rfl rfl rfl (by intro w hw; exact x_assign (.bool true) rfl w) ?_)
            refine q_nil ?_
            intro w41 H42
            refine g_true rfl ?_
            refine g_seq ?_
            refine g_region ?_
            refine r_cons (s_assign (.int .i64 41) rfl rfl ?_)
            refine r_nil ?_
            refine g_ret' [.int .i64 41] Try.func25 Try.results25 ⟨rfl, trivial⟩ ?_
            have hA : rAcc many (L.map EvD.ev) gone e = 41 := by first | exact rAcc_1 ‹_› | exact rAcc_2 ‹_› ‹_› | exact rAcc_3 ‹_› ‹_› ‹_› | exact rAcc_4 ‹_› ‹_› ‹_› ‹_› | exact rAcc_5 ‹_› ‹_› ‹_› ‹_› ‹_› | exact rAcc_6 ‹_› ‹_› ‹_› ‹_› ‹_› (by rw [List.length_map]; omega)
            have hB : ¬ rAcc many (L.map EvD.ev) gone e = 0 := by rw [hA]; first | assumption | decide
            have H43 : St W w41 (RStr b many L gone :: (F.set i emp)) := (((H42.drop 1 rfl).drop 1 rfl).drop 1 rfl)
            exact ⟨vint hA.symm, L, (rList_no hB).symm, St.back hi H43⟩
          · skip
            refine q_cons (q_val rfl rfl rfl (by intro w hw; exact x_lss false rfl rfl (dfalse hc40) w) ?_)
            refine q_cons (q_val rfl rfl rfl (by intro w hw; exact x_assign (.bool false) rfl w) ?_)
            refine q_nil ?_
            intro w44 H45
            refine g_false rfl ?_
            refine g_seq ?_
            refine g_region ?_
            refine r_cons (s_move (.pointer (some ⟨b, 0, none⟩)) rfl rfl ?_)
            refine r_cons (s_nilCheck (.pointer (some ⟨b, 0, none⟩)) rfl ⟨_, rfl⟩ rfl ?_)
            refine r_cons (s_fieldAddr 52 1 1 1 49 rfl fi_52_1 rfl rfl ?_)
            have H46 := H45.move 0 rfl
            obtain ⟨⟨⟨pp47, cc48⟩, pp49, cc50⟩, H51⟩ := St.open_ex H46
            have H52 := St.open_star H51
            dsimp only at H52
            have H53 : St W w44 (blk b (.cells #[.int .i64 many, .slice pp47 L.length cc48, .slice pp49 gone.length cc50] 52 (0, 0)) :: Im 5 (.slice pp47 L.length cc48) L.length (L.flatMap evdCell) :: evA L :: Im 1 (.slice pp49 gone.length cc50) gone.length (gone.flatMap blc) :: imi (0 < gone.length) gA20 (.cells kA22 eA23 zA24) :: blk bk1 (.cells #[.int .i64 e.src.v, .int .i64 e.seq.v, .int .i64 e.time.v, .string e.typ.v, av] 33 (0, 0)) :: Attrs av e.attrs :: (F.set i emp)) := H52
            refine r_cons (s_load (.slice pp47 L.length cc48) ag_49 rfl (H53.blk_at (i := 0) rfl) rfl rfl ?_)
            refine r_cons (s_len L.length rfl ⟨_, un_49⟩ rfl ?_)
            by_cases hc54 : (65536 : Int) ≤ (L.length : Int)
            · skip
              refine r_cons (s_geq true rfl rfl (dtrue hc54) rfl ?_)
              refine r_cons (s_assign (.bool true) rfl rfl ?_)
              refine r_nil ?_
              refine g_true rfl ?_
              refine g_seq ?_
              refine g_region ?_
              refine r_cons (s_assign (.int .i64 3) rfl rfl ?_)
              refine r_nil ?_
              refine g_ret' [.int .i64 3] Try.func25 Try.results25 ⟨rfl, trivial⟩ ?_
              have hA : rAcc many (L.map EvD.ev) gone e = 3 := by first | exact rAcc_1 ‹_› | exact rAcc_2 ‹_› ‹_› | exact rAcc_3 ‹_› ‹_› ‹_› | exact rAcc_4 ‹_› ‹_› ‹_› ‹_› | exact rAcc_5 ‹_› ‹_› ‹_› ‹_› ‹_› | exact rAcc_6 ‹_› ‹_› ‹_› ‹_› ‹_› (by rw [List.length_map]; omega)
              have hB : ¬ rAcc many (L.map EvD.ev) gone e = 0 := by rw [hA]; first | assumption | decide
              have H55 : St W w44 (RStr b many L gone :: imi (0 < gone.length) gA20 (.cells kA22 eA23 zA24) :: blk bk1 (.cells #[.int .i64 e.src.v, .int .i64 e.seq.v, .int .i64 e.time.v, .string e.typ.v, av] 33 (0, 0)) :: Attrs av e.attrs :: (F.set i emp)) := St.shut_ex ((pp47, cc48), (pp49, cc50)) (St.shut_star (ls := [blk b (.cells #[.int .i64 many, .slice pp47 L.length cc48, .slice pp49 gone.length cc50] 52 (0, 0)), Im 5 (.slice pp47 L.length cc48) L.length (L.flatMap evdCell), evA L, Im 1 (.slice pp49 gone.length cc50) gone.length (gone.flatMap blc)]) H53)
              have H56 : St W w44 (RStr b many L gone :: (F.set i emp)) := (((H55.drop 1 rfl).drop 1 rfl).drop 1 rfl)
              exact ⟨vint hA.symm, L, (rList_no hB).symm, St.back hi H56⟩
            · skip
              refine r_cons (s_geq false rfl rfl (dfalse hc54) rfl ?_)
              refine r_cons (s_assign (.bool false) rfl rfl ?_)
              refine r_nil ?_
              refine g_false rfl ?_
              refine g_skip ?_
              refine g_inBlock ?_
              refine g_seq ?_
              have H57 : St W w44 (Im 5 (.slice pp47 L.length cc48) L.length (L.flatMap evdCell) :: evA L :: Im 1 (.slice pp49 gone.length cc50) gone.length (gone.flatMap blc) :: imi (0 < gone.length) gA20 (.cells kA22 eA23 zA24) :: blk bk1 (.cells #[.int .i64 e.src.v, .int .i64 e.seq.v, .int .i64 e.time.v, .string e.typ.v, av] 33 (0, 0)) :: Attrs av e.attrs :: blk b (.cells #[.int .i64 many, .slice pp47 L.length cc48, .slice pp49 gone.length cc50] 52 (0, 0)) :: (F.set i emp)) := ((((((H53.move 6 rfl).move 6 rfl).move 6 rfl).move 6 rfl).move 6 rfl).move 6 rfl)
              refine g_mix (fun t_ w => St W w (Im 5 (.slice pp47 L.length cc48) L.length (L.flatMap evdCell) :: evA L :: Im 1 (.slice pp49 gone.length cc50) gone.length (gone.flatMap blc) :: imi (0 < gone.length) gA20 (.cells kA22 eA23 zA24) :: blk bk1 (.cells #[.int .i64 e.src.v, .int .i64 e.seq.v, .int .i64 e.time.v, .string e.typ.v, av] 33 (0, 0)) :: Attrs av e.attrs :: t_)) (blk b (.cells #[.int .i64 many, .slice pp47 L.length cc48, .slice pp49 gone.length cc50] 52 (0, 0)) :: (F.set i emp)) mixed 13 rfl H57.drew ?_
              refine f_first 0 (listed' := #[true, false, false, false, false, false, false, false, false, false, false, false, false]) rfl (by kernel_rfl) (by kernel_rfl) (by kernel_rfl) rfl ?_
              refine f_val rfl rfl rfl (by intro t_ w hw; exact x_move (.pointer (some ⟨b, 0, none⟩)) rfl w) ?_
              refine f_first 1 (listed' := #[true, true, false, false, false, false, false, false, false, false, false, false, false]) rfl (by kernel_rfl) (by kernel_rfl) (by kernel_rfl) rfl ?_
              refine f_val rfl rfl rfl (by intro t_ w hw; exact x_move (.pointer (some ⟨b, 0, none⟩)) rfl w) ?_
              refine f_first 2 (listed' := #[true, true, true, false, false, false, false, false, false, false, false, false, false]) rfl (by kernel_rfl) (by kernel_rfl) (by kernel_rfl) rfl ?_
              refine f_val rfl rfl rfl (by intro t_ w hw; exact x_nilCheck (.pointer (some ⟨b, 0, none⟩)) rfl ⟨_, rfl⟩ w) ?_
              refine f_first 3 (listed' := #[true, true, true, true, false, false, false, false, false, false, false, false, false]) rfl (by kernel_rfl) (by kernel_rfl) (by kernel_rfl) rfl ?_
              refine f_val rfl rfl rfl (by intro t_ w hw; exact x_fieldAddr 52 1 1 1 49 rfl fi_52_1 rfl w) ?_
              refine f_first 6 (listed' := #[true, true, true, true, false, false, true, false, false, false, false, false, false]) rfl (by kernel_rfl) (by kernel_rfl) (by kernel_rfl) rfl ?_
              refine f_val rfl rfl rfl (by intro t_ w hw; exact x_loadAgg [.int .i64 e.src.v, .int .i64 e.seq.v, .int .i64 e.time.v, .string e.typ.v, av] 5 ag_33 rfl (hw.blk_at (i := 4) rfl) (Nat.le_of_ble_eq_true rfl) rfl) ?_
              refine f_all (rs := [4]) (by kernel_rfl) (by simp) ?_
              refine a_cons ⟨_, rfl, ?_⟩ (fun x hx => absurd hx (by simp))
              intro w58 H59
              try dsimp only at H59
              refine s_load (.slice pp47 L.length cc48) ag_49 rfl (H59.blk_at (i := 6) rfl) rfl rfl ?_
              refine ⟨blk b (.cells #[.int .i64 many, .slice pp47 L.length cc48, .slice pp49 gone.length cc50] 52 (0, 0)) :: (F.set i emp), ?_, H59⟩
              change FReg _ _ _ _ _ #[true, true, true, true, true, false, true, false, false, false, false, false, false] _ _
              refine f_all (rs := [5]) (by kernel_rfl) (by simp) ?_
              refine a_cons ⟨_, rfl, ?_⟩ (fun x hx => absurd hx (by simp))
              intro w60 H61
              try dsimp only at H61
              have H62 := Row.nil_intro H61 33 5
              refine s_append H62 0 rfl rfl rfl (Im.rd H62 (i := 1) rfl) ap_49 (by decide) (by unfold maxLen; omega) (by omega) (n' := L.length) (xs' := L.flatMap evdCell) (by omega) (by first | rfl | simp) rfl ?_; intro vv63 w64 H65 hn66
              obtain ⟨pp67, cc68, rfl⟩ := Row.slice H65 (i := 0) rfl
              have H69 : St W w64 (Im 5 (.slice pp47 L.length cc48) L.length (L.flatMap evdCell) :: evA L :: Im 1 (.slice pp49 gone.length cc50) gone.length (gone.flatMap blc) :: imi (0 < gone.length) gA20 (.cells kA22 eA23 zA24) :: blk bk1 (.cells #[.int .i64 e.src.v, .int .i64 e.seq.v, .int .i64 e.time.v, .string e.typ.v, av] 33 (0, 0)) :: Attrs av e.attrs :: Row 33 5 (.slice pp67 L.length cc68) L.length (L.flatMap evdCell) :: blk b (.cells #[.int .i64 many, .slice pp47 L.length cc48, .slice pp49 gone.length cc50] 52 (0, 0)) :: (F.set i emp)) := ((((((((H65.move 7 rfl).move 1 rfl).move 7 rfl).move 7 rfl).move 7 rfl).move 7 rfl).move 7 rfl).move 7 rfl)
              refine ⟨Row 33 5 (.slice pp67 L.length cc68) L.length (L.flatMap evdCell) :: blk b (.cells #[.int .i64 many, .slice pp47 L.length cc48, .slice pp49 gone.length cc50] 52 (0, 0)) :: (F.set i emp), ?_, H69⟩
              change FReg _ _ _ _ _ #[true, true, true, true, true, true, true, false, false, false, false, false, false] _ _
              refine f_all (rs := [7]) (by kernel_rfl) (by simp) ?_
              refine a_cons ⟨_, rfl, ?_⟩ (fun x hx => absurd hx (by simp))
              intro w70 H71
              try dsimp only at H71
              refine s_call [.agg #[.int .i64 e.src.v, .int .i64 e.seq.v, .int .i64 e.time.v, .string e.typ.v, av]] pl_55 rfl rfl (ref04_Clone e av (by omega) (j := 5) rfl H71) ?_
              rintro _ w74 ⟨pp72, cc73, rfl, H75⟩
              have H76 : St W w74 (Im 5 (.slice pp47 L.length cc48) L.length (L.flatMap evdCell) :: evA L :: Im 1 (.slice pp49 gone.length cc50) gone.length (gone.flatMap blc) :: imi (0 < gone.length) gA20 (.cells kA22 eA23 zA24) :: blk bk1 (.cells #[.int .i64 e.src.v, .int .i64 e.seq.v, .int .i64 e.time.v, .string e.typ.v, av] 33 (0, 0)) :: Attrs av e.attrs :: Attrs (.slice pp72 e.attrs.length cc73) e.attrs :: Row 33 5 (.slice pp67 L.length cc68) L.length (L.flatMap evdCell) :: blk b (.cells #[.int .i64 many, .slice pp47 L.length cc48, .slice pp49 gone.length cc50] 52 (0, 0)) :: (F.set i emp)) := (((((((((H75.move 8 rfl).move 8 rfl).move 2 rfl).move 8 rfl).move 8 rfl).move 8 rfl).move 8 rfl).move 8 rfl).move 8 rfl)
              refine ⟨Attrs (.slice pp72 e.attrs.length cc73) e.attrs :: Row 33 5 (.slice pp67 L.length cc68) L.length (L.flatMap evdCell) :: blk b (.cells #[.int .i64 many, .slice pp47 L.length cc48, .slice pp49 gone.length cc50] 52 (0, 0)) :: (F.set i emp), ?_, H76⟩
              change FReg _ _ _ _ _ #[true, true, true, true, true, true, true, true, false, false, false, false, false] _ _
              refine f_all (rs := [8]) (by kernel_rfl) (by simp) ?_
              refine a_cons ⟨_, rfl, ?_⟩ (fun x hx => absurd hx (by simp))
              intro w77 H78
              try dsimp only at H78
              refine s_buildSlice H78 5 1 (cs := #[.int .i64 e.src.v, .int .i64 e.seq.v, .int .i64 e.time.v, .string e.typ.v, .slice pp72 e.attrs.length cc73]) #[.int .i64 0, .int .i64 0, .int .i64 0, .string ByteArray.empty, .slice none 0 0] el_49 ze_33 (by decide) (by decide) (by kernel_rfl) rfl ?_; intro bk79 w80 H81
              have H82 : St W w80 (Im 5 (.slice pp47 L.length cc48) L.length (L.flatMap evdCell) :: evA L :: Im 1 (.slice pp49 gone.length cc50) gone.length (gone.flatMap blc) :: imi (0 < gone.length) gA20 (.cells kA22 eA23 zA24) :: blk bk1 (.cells #[.int .i64 e.src.v, .int .i64 e.seq.v, .int .i64 e.time.v, .string e.typ.v, av] 33 (0, 0)) :: Attrs av e.attrs :: blk bk79 (.cells #[.int .i64 e.src.v, .int .i64 e.seq.v, .int .i64 e.time.v, .string e.typ.v, .slice pp72 e.attrs.length cc73] 33 (0, 0)) :: Attrs (.slice pp72 e.attrs.length cc73) e.attrs :: Row 33 5 (.slice pp67 L.length cc68) L.length (L.flatMap evdCell) :: blk b (.cells #[.int .i64 many, .slice pp47 L.length cc48, .slice pp49 gone.length cc50] 52 (0, 0)) :: (F.set i emp)) := ((((((((((H81.move 9 rfl).move 9 rfl).move 9 rfl).move 3 rfl).move 9 rfl).move 9 rfl).move 9 rfl).move 9 rfl).move 9 rfl).move 9 rfl)
              refine ⟨blk bk79 (.cells #[.int .i64 e.src.v, .int .i64 e.seq.v, .int .i64 e.time.v, .string e.typ.v, .slice pp72 e.attrs.length cc73] 33 (0, 0)) :: Attrs (.slice pp72 e.attrs.length cc73) e.attrs :: Row 33 5 (.slice pp67 L.length cc68) L.length (L.flatMap evdCell) :: blk b (.cells #[.int .i64 many, .slice pp47 L.length cc48, .slice pp49 gone.length cc50] 52 (0, 0)) :: (F.set i emp), ?_, H82⟩
              change FReg _ _ _ _ _ #[true, true, true, true, true, true, true, true, true, false, false, false, false] _ _
              refine f_all (rs := [9]) (by kernel_rfl) (by simp) ?_
              refine a_cons ⟨_, rfl, ?_⟩ (fun x hx => absurd hx (by simp))
              intro w83 H84
              try dsimp only at H84
              refine s_append H84 8 rfl rfl rfl (rd_blk (H84.blk_at (i := 6) rfl) rfl (Nat.le_of_ble_eq_true rfl) (by simp [Value.oneCell'])) ap_49 (by decide) (by unfold maxLen; omega) (by omega) (n' := L.length + 1) (xs' := L.flatMap evdCell ++ ([.int .i64 e.src.v, .int .i64 e.seq.v, .int .i64 e.time.v, .string e.typ.v, .slice pp72 e.attrs.length cc73] : List Value)) (by omega) (by first | rfl | simp) rfl ?_; intro vv85 w86 H87 hn88
              obtain ⟨pp89, cc90, rfl⟩ := Row.slice H87 (i := 8) rfl
              refine ⟨blk bk79 (.cells #[.int .i64 e.src.v, .int .i64 e.seq.v, .int .i64 e.time.v, .string e.typ.v, .slice pp72 e.attrs.length cc73] 33 (0, 0)) :: Attrs (.slice pp72 e.attrs.length cc73) e.attrs :: Row 33 5 (.slice pp89 (L.length + 1) cc90) (L.length + 1) (L.flatMap evdCell ++ ([.int .i64 e.src.v, .int .i64 e.seq.v, .int .i64 e.time.v, .string e.typ.v, .slice pp72 e.attrs.length cc73] : List Value)) :: blk b (.cells #[.int .i64 many, .slice pp47 L.length cc48, .slice pp49 gone.length cc50] 52 (0, 0)) :: (F.set i emp), ?_, H87⟩
              change FReg _ _ _ _ _ #[true, true, true, true, true, true, true, true, true, true, false, false, false] _ _
              refine f_first 10 (listed' := #[true, true, true, true, true, true, true, true, true, true, true, false, false]) rfl (by kernel_rfl) (by kernel_rfl) (by kernel_rfl) rfl ?_
              refine f_val rfl rfl rfl (by intro t_ w hw; exact x_nilCheck (.pointer (some ⟨b, 0, none⟩)) rfl ⟨_, rfl⟩ w) ?_
              refine f_first 11 (listed' := #[true, true, true, true, true, true, true, true, true, true, true, true, false]) rfl (by kernel_rfl) (by kernel_rfl) (by kernel_rfl) rfl ?_
              refine f_val rfl rfl rfl (by intro t_ w hw; exact x_fieldAddr 52 1 1 1 49 rfl fi_52_1 rfl w) ?_
              refine f_all (rs := [12]) (by kernel_rfl) (by simp) ?_
              refine a_cons ⟨_, rfl, ?_⟩ (fun x hx => absurd hx (by simp))
              intro w91 H92
              try dsimp only at H92
              refine s_store H92 9 (.slice pp89 (L.length + 1) cc90) rfl rfl rfl sz_49 rfl (Nat.le_of_ble_eq_true rfl) rfl (cs' := #[.int .i64 many, .slice pp89 (L.length + 1) cc90, .slice pp49 gone.length cc50]) rfl ?_; intro w93 H94
              refine ⟨blk bk79 (.cells #[.int .i64 e.src.v, .int .i64 e.seq.v, .int .i64 e.time.v, .string e.typ.v, .slice pp72 e.attrs.length cc73] 33 (0, 0)) :: Attrs (.slice pp72 e.attrs.length cc73) e.attrs :: Row 33 5 (.slice pp89 (L.length + 1) cc90) (L.length + 1) (L.flatMap evdCell ++ ([.int .i64 e.src.v, .int .i64 e.seq.v, .int .i64 e.time.v, .string e.typ.v, .slice pp72 e.attrs.length cc73] : List Value)) :: blk b (.cells #[.int .i64 many, .slice pp89 (L.length + 1) cc90, .slice pp49 gone.length cc50] 52 (0, 0)) :: (F.set i emp), ?_, H94⟩
              change FReg _ _ _ _ _ #[true, true, true, true, true, true, true, true, true, true, true, true, true] _ _
              refine f_done (by kernel_rfl) ?_
              intro w95 H96
              refine g_seq ?_
              refine g_region ?_
              refine r_cons (s_assign (.int .i64 0) rfl rfl ?_)
              refine r_nil ?_
              refine g_ret' [.int .i64 0] Try.func25 Try.results25 ⟨rfl, trivial⟩ ?_
              have hA : rAcc many (L.map EvD.ev) gone e = 0 := rAcc_0 ‹_› ‹_› ‹_› ‹_› ‹_› (by rw [List.length_map]; omega)
              have H97 : St W w95 (Im 5 (.slice pp47 L.length cc48) L.length (L.flatMap evdCell) :: evA L :: Im 1 (.slice pp49 gone.length cc50) gone.length (gone.flatMap blc) :: imi (0 < gone.length) gA20 (.cells kA22 eA23 zA24) :: blk bk1 (.cells #[.int .i64 e.src.v, .int .i64 e.seq.v, .int .i64 e.time.v, .string e.typ.v, av] 33 (0, 0)) :: Attrs av e.attrs :: blk bk79 (.cells #[.int .i64 e.src.v, .int .i64 e.seq.v, .int .i64 e.time.v, .string e.typ.v, .slice pp72 e.attrs.length cc73] 33 (0, 0)) :: Attrs (.slice pp72 e.attrs.length cc73) e.attrs :: Im 5 (.slice pp89 (L.length + 1) cc90) (L.length + 1) (L.flatMap evdCell ++ ([.int .i64 e.src.v, .int .i64 e.seq.v, .int .i64 e.time.v, .string e.typ.v, .slice pp72 e.attrs.length cc73] : List Value)) :: blk b (.cells #[.int .i64 many, .slice pp89 (L.length + 1) cc90, .slice pp49 gone.length cc50] 52 (0, 0)) :: (F.set i emp)) := Row.im H96 (i := 8) rfl
              have H98 : St W w95 (Attrs (.slice pp72 e.attrs.length cc73) e.attrs :: evA L :: Im 5 (.slice pp47 L.length cc48) L.length (L.flatMap evdCell) :: Im 1 (.slice pp49 gone.length cc50) gone.length (gone.flatMap blc) :: imi (0 < gone.length) gA20 (.cells kA22 eA23 zA24) :: blk bk1 (.cells #[.int .i64 e.src.v, .int .i64 e.seq.v, .int .i64 e.time.v, .string e.typ.v, av] 33 (0, 0)) :: Attrs av e.attrs :: blk bk79 (.cells #[.int .i64 e.src.v, .int .i64 e.seq.v, .int .i64 e.time.v, .string e.typ.v, .slice pp72 e.attrs.length cc73] 33 (0, 0)) :: Im 5 (.slice pp89 (L.length + 1) cc90) (L.length + 1) (L.flatMap evdCell ++ ([.int .i64 e.src.v, .int .i64 e.seq.v, .int .i64 e.time.v, .string e.typ.v, .slice pp72 e.attrs.length cc73] : List Value)) :: blk b (.cells #[.int .i64 many, .slice pp89 (L.length + 1) cc90, .slice pp49 gone.length cc50] 52 (0, 0)) :: (F.set i emp)) := ((H97.move 1 rfl).move 7 rfl)
              have H99 : St W w95 (evA (L ++ [(⟨e, pp72, cc73⟩ : EvD)]) :: Im 5 (.slice pp47 L.length cc48) L.length (L.flatMap evdCell) :: Im 1 (.slice pp49 gone.length cc50) gone.length (gone.flatMap blc) :: imi (0 < gone.length) gA20 (.cells kA22 eA23 zA24) :: blk bk1 (.cells #[.int .i64 e.src.v, .int .i64 e.seq.v, .int .i64 e.time.v, .string e.typ.v, av] 33 (0, 0)) :: Attrs av e.attrs :: blk bk79 (.cells #[.int .i64 e.src.v, .int .i64 e.seq.v, .int .i64 e.time.v, .string e.typ.v, .slice pp72 e.attrs.length cc73] 33 (0, 0)) :: Im 5 (.slice pp89 (L.length + 1) cc90) (L.length + 1) (L.flatMap evdCell ++ ([.int .i64 e.src.v, .int .i64 e.seq.v, .int .i64 e.time.v, .string e.typ.v, .slice pp72 e.attrs.length cc73] : List Value)) :: blk b (.cells #[.int .i64 many, .slice pp89 (L.length + 1) cc90, .slice pp49 gone.length cc50] 52 (0, 0)) :: (F.set i emp)) := evA_snoc (e := (⟨e, pp72, cc73⟩ : EvD)) H98
              have H100 : St W w95 (evA (L ++ [(⟨e, pp72, cc73⟩ : EvD)]) :: Im 5 (.slice pp47 L.length cc48) L.length (L.flatMap evdCell) :: Im 1 (.slice pp49 gone.length cc50) gone.length (gone.flatMap blc) :: imi (0 < gone.length) gA20 (.cells kA22 eA23 zA24) :: blk bk1 (.cells #[.int .i64 e.src.v, .int .i64 e.seq.v, .int .i64 e.time.v, .string e.typ.v, av] 33 (0, 0)) :: Attrs av e.attrs :: blk bk79 (.cells #[.int .i64 e.src.v, .int .i64 e.seq.v, .int .i64 e.time.v, .string e.typ.v, .slice pp72 e.attrs.length cc73] 33 (0, 0)) :: Im 5 (.slice pp89 ((L ++ [(⟨e, pp72, cc73⟩ : EvD)]).length) cc90) ((L ++ [(⟨e, pp72, cc73⟩ : EvD)]).length) ((L ++ [(⟨e, pp72, cc73⟩ : EvD)]).flatMap evdCell) :: blk b (.cells #[.int .i64 many, .slice pp89 ((L ++ [(⟨e, pp72, cc73⟩ : EvD)]).length) cc90, .slice pp49 gone.length cc50] 52 (0, 0)) :: (F.set i emp)) := by rw [List.flatMap_append, List.length_append]; exact H99
              have H101 : St W w95 (blk b (.cells #[.int .i64 many, .slice pp89 ((L ++ [(⟨e, pp72, cc73⟩ : EvD)]).length) cc90, .slice pp49 gone.length cc50] 52 (0, 0)) :: Im 5 (.slice pp89 ((L ++ [(⟨e, pp72, cc73⟩ : EvD)]).length) cc90) ((L ++ [(⟨e, pp72, cc73⟩ : EvD)]).length) ((L ++ [(⟨e, pp72, cc73⟩ : EvD)]).flatMap evdCell) :: evA (L ++ [(⟨e, pp72, cc73⟩ : EvD)]) :: Im 1 (.slice pp49 gone.length cc50) gone.length (gone.flatMap blc) :: Im 5 (.slice pp47 L.length cc48) L.length (L.flatMap evdCell) :: imi (0 < gone.length) gA20 (.cells kA22 eA23 zA24) :: blk bk1 (.cells #[.int .i64 e.src.v, .int .i64 e.seq.v, .int .i64 e.time.v, .string e.typ.v, av] 33 (0, 0)) :: Attrs av e.attrs :: blk bk79 (.cells #[.int .i64 e.src.v, .int .i64 e.seq.v, .int .i64 e.time.v, .string e.typ.v, .slice pp72 e.attrs.length cc73] 33 (0, 0)) :: (F.set i emp)) := ((((H100.move 2 rfl).move 1 rfl).move 7 rfl).move 8 rfl)
              have H102 : St W w95 (RStr b many (L ++ [(⟨e, pp72, cc73⟩ : EvD)]) gone :: Im 5 (.slice pp47 L.length cc48) L.length (L.flatMap evdCell) :: imi (0 < gone.length) gA20 (.cells kA22 eA23 zA24) :: blk bk1 (.cells #[.int .i64 e.src.v, .int .i64 e.seq.v, .int .i64 e.time.v, .string e.typ.v, av] 33 (0, 0)) :: Attrs av e.attrs :: blk bk79 (.cells #[.int .i64 e.src.v, .int .i64 e.seq.v, .int .i64 e.time.v, .string e.typ.v, .slice pp72 e.attrs.length cc73] 33 (0, 0)) :: (F.set i emp)) := St.shut_ex ((pp89, cc90), (pp49, cc50)) (St.shut_star (ls := [blk b (.cells #[.int .i64 many, .slice pp89 ((L ++ [(⟨e, pp72, cc73⟩ : EvD)]).length) cc90, .slice pp49 gone.length cc50] 52 (0, 0)), Im 5 (.slice pp89 ((L ++ [(⟨e, pp72, cc73⟩ : EvD)]).length) cc90) ((L ++ [(⟨e, pp72, cc73⟩ : EvD)]).length) ((L ++ [(⟨e, pp72, cc73⟩ : EvD)]).flatMap evdCell), evA (L ++ [(⟨e, pp72, cc73⟩ : EvD)]), Im 1 (.slice pp49 gone.length cc50) gone.length (gone.flatMap blc)]) H101)
              have H103 : St W w95 (RStr b many (L ++ [(⟨e, pp72, cc73⟩ : EvD)]) gone :: (F.set i emp)) := (((((H102.drop 1 rfl).drop 1 rfl).drop 1 rfl).drop 1 rfl).drop 1 rfl)
              exact ⟨vint hA.symm, (L ++ [(⟨e, pp72, cc73⟩ : EvD)]), by rw [rList_yes hA, List.map_append]; rfl, St.back hi H103⟩
        · skip
          refine q_cons (q_val rfl rfl rfl (by intro w hw; exact x_neq true rfl rfl (nfalse hc37) w) ?_)
          refine q_cons (q_val rfl rfl rfl (by intro w hw; exact x_assign (.bool true) rfl w) ?_)
          refine q_nil ?_
          intro w104 H105
          refine g_true rfl ?_
          refine g_seq ?_
          refine g_region ?_
          refine r_cons (s_assign (.int .i64 42) rfl rfl ?_)
          refine r_nil ?_
          refine g_ret' [.int .i64 42] Try.func25 Try.results25 ⟨rfl, trivial⟩ ?_
          have hA : rAcc many (L.map EvD.ev) gone e = 42 := by first | exact rAcc_1 ‹_› | exact rAcc_2 ‹_› ‹_› | exact rAcc_3 ‹_› ‹_› ‹_› | exact rAcc_4 ‹_› ‹_› ‹_› ‹_› | exact rAcc_5 ‹_› ‹_› ‹_› ‹_› ‹_› | exact rAcc_6 ‹_› ‹_› ‹_› ‹_› ‹_› (by rw [List.length_map]; omega)
          have hB : ¬ rAcc many (L.map EvD.ev) gone e = 0 := by rw [hA]; first | assumption | decide
          have H106 : St W w104 (RStr b many L gone :: (F.set i emp)) := (((H105.drop 1 rfl).drop 1 rfl).drop 1 rfl)
          exact ⟨vint hA.symm, L, (rList_no hB).symm, St.back hi H106⟩
    · skip
      refine r_cons (s_call [.pointer (some ⟨b, 0, none⟩), .int .i64 e.src.v] pl_71 rfl rfl (RStr_is_out b many L gone e.src.v hc7 (i := 1) rfl H5) ?_)
      rintro _ w107 ⟨rfl, H108⟩
      refine r_cons (s_not false rfl true rfl rfl ?_)
      refine r_cons (s_assign (.bool true) rfl rfl ?_)
      refine r_nil ?_
      refine g_true rfl ?_
      refine g_seq ?_
      refine g_region ?_
      refine r_cons (s_assign (.int .i64 40) rfl rfl ?_)
      refine r_nil ?_
      refine g_ret' [.int .i64 40] Try.func25 Try.results25 ⟨rfl, trivial⟩ ?_
      have hA : rAcc many (L.map EvD.ev) gone e = 40 := by first | exact rAcc_1 ‹_› | exact rAcc_2 ‹_› ‹_› | exact rAcc_3 ‹_› ‹_› ‹_› | exact rAcc_4 ‹_› ‹_› ‹_› ‹_› | exact rAcc_5 ‹_› ‹_› ‹_› ‹_› ‹_› | exact rAcc_6 ‹_› ‹_› ‹_› ‹_› ‹_› (by rw [List.length_map]; omega)
      have hB : ¬ rAcc many (L.map EvD.ev) gone e = 0 := by rw [hA]; first | assumption | decide
      have H109 : St W w107 (RStr b many L gone :: (F.set i emp)) := (((H108.move 1 rfl).drop 1 rfl).drop 1 rfl)
      exact ⟨vint hA.symm, L, (rList_no hB).symm, St.back hi H109⟩
  · skip
    refine r_cons (s_neq true rfl rfl (nfalse hc6) rfl ?_)
    refine r_nil ?_
    refine g_true rfl ?_
    refine g_seq ?_
    refine g_region ?_
    refine r_cons (s_move (.int .i64 (evE e)) rfl rfl ?_)
    refine r_cons (s_assign (.int .i64 (evE e)) rfl rfl ?_)
    refine r_nil ?_
    refine g_ret' [.int .i64 (evE e)] Try.func25 Try.results25 ⟨rfl, trivial⟩ ?_
    have hA : rAcc many (L.map EvD.ev) gone e = evE e := by first | exact rAcc_1 ‹_› | exact rAcc_2 ‹_› ‹_› | exact rAcc_3 ‹_› ‹_› ‹_› | exact rAcc_4 ‹_› ‹_› ‹_› ‹_› | exact rAcc_5 ‹_› ‹_› ‹_› ‹_› ‹_› | exact rAcc_6 ‹_› ‹_› ‹_› ‹_› ‹_› (by rw [List.length_map]; omega)
    have hB : ¬ rAcc many (L.map EvD.ev) gone e = 0 := by rw [hA]; first | assumption | decide
    have H110 : St W w4 (RStr b many L gone :: (F.set i emp)) := (((H5.move 1 rfl).drop 1 rfl).drop 1 rfl)
    exact ⟨vint hA.symm, L, (rList_no hB).symm, St.back hi H110⟩
set_option maxHeartbeats 4000000 in
set_option maxRecDepth 100000 in
theorem RStr_Close {W w : World} {F : List Atom} (b : Nat) (many : Int) (L : List EvD) (gone : List Bool) (n : Int) (hgl0 : gone.length = many.toNat) (hm16 : many ≤ 16) {i : Nat} (hi : F[i]? = some (RStr b many L gone)) (H : St W w F) : Calls Try.prog 26 #[.pointer (some ⟨b, 0, none⟩), .int .i64 n] w (Ret fun v w' => v = .int .i64 (rClose many gone n) ∧ St W w' (F.set i (RStr b many L (rGone many gone n)))) := by
  have H0 := H.front hi
  have hgl : gone.length = many.toNat := hgl0
  refine calls_of_go (n := 29) Try.func26 rfl Try.ntmps26 rfl ?_
  refine g_seq ?_
  refine g_region ?_
  refine r_cons (s_assign (.int .i64 0) rfl rfl ?_)
  refine r_nil ?_
  refine g_seq ?_
  refine g_seq ?_
  refine g_region ?_
  refine r_cons (s_move (.pointer (some ⟨b, 0, none⟩)) rfl rfl ?_)
  refine r_cons (s_move (.int .i64 n) rfl rfl ?_)
  by_cases hc1 : 0 ≤ n ∧ n < many
  · skip
    refine r_cons (s_call [.pointer (some ⟨b, 0, none⟩), .int .i64 n] pl_71 rfl rfl (RStr_is_in b many L gone n hc1 (i := 0) rfl H0) ?_)
    rintro _ w2 ⟨rfl, H3⟩
    refine r_cons (s_not true rfl false rfl rfl ?_)
    refine r_nil ?_
    refine g_false rfl ?_
    refine g_skip ?_
    refine g_seq ?_
    refine g_seq ?_
    refine g_region ?_
    refine r_cons (s_move (.pointer (some ⟨b, 0, none⟩)) rfl rfl ?_)
    refine r_cons (s_nilCheck (.pointer (some ⟨b, 0, none⟩)) rfl ⟨_, rfl⟩ rfl ?_)
    refine r_cons (s_fieldAddr 52 2 2 2 50 rfl fi_52_2 rfl rfl ?_)
    have H4 := H3.move 0 rfl
    obtain ⟨⟨⟨pp5, cc6⟩, pp7, cc8⟩, H9⟩ := St.open_ex H4
    have H10 := St.open_star H9
    dsimp only at H10
    have H11 : St W w2 (blk b (.cells #[.int .i64 many, .slice pp5 L.length cc6, .slice pp7 gone.length cc8] 52 (0, 0)) :: Im 5 (.slice pp5 L.length cc6) L.length (L.flatMap evdCell) :: evA L :: Im 1 (.slice pp7 gone.length cc8) gone.length (gone.flatMap blc) :: (F.set i emp)) := H10
    refine r_cons (s_load (.slice pp7 gone.length cc8) ag_50 rfl (H11.blk_at (i := 0) rfl) rfl rfl ?_)
    refine r_cons (s_move (.int .i64 n) rfl rfl ?_)
    obtain ⟨pA12, cA13, gA14, oA15, kA16, eA17, zA18, he24, hn19, hp20, hx21, hs22, hml, H23⟩ := Im.open_ H11 (i := 3) rfl
    obtain ⟨rfl, rfl⟩ : pp7 = pA12 ∧ cc8 = cA13 := by injection he24 with a_ b_ c_; exact ⟨a_, c_⟩
    refine r_cons (s_indexAddr gA14 (off := oA15) n 1 (oA15 + n.toNat * 1) (by exact congrArg (fun z_ => Value.slice z_ gone.length cc8) (hp20 (by omega))) rfl el_50 (by omega) rfl rfl ?_)
    refine r_cons (s_load (.bool (gone.getD n.toNat false)) ag_4 rfl (H23.imi_at (i := 0) rfl (by omega)) (elem_cell (L := gone) (i := n.toNat) blc_len (hx21 (by omega)) (by omega) false 0 (by decide) _ rfl) rfl ?_)
    refine r_nil ?_
    by_cases hb25 : (gone.getD n.toNat false) = true
    · skip
      refine g_true (congrArg Value.bool hb25) ?_
      refine g_seq ?_
      refine g_region ?_
      refine r_cons (s_assign (.int .i64 43) rfl rfl ?_)
      refine r_nil ?_
      refine g_ret' [.int .i64 43] Try.func26 Try.results26 ⟨rfl, trivial⟩ ?_
      have hA : rClose many gone n = 43 := rClose_43 hc1 ‹_›
      have hB : ¬ rClose many gone n = 0 := by rw [hA]; decide
      have H26 : St W w2 (blk b (.cells #[.int .i64 many, .slice pp5 L.length cc6, .slice pp7 gone.length cc8] 52 (0, 0)) :: Im 5 (.slice pp5 L.length cc6) L.length (L.flatMap evdCell) :: evA L :: Im 1 (.slice pp7 gone.length cc8) gone.length (gone.flatMap blc) :: imi (0 < gone.length) gA14 (.cells kA16 eA17 zA18) :: (F.set i emp)) := ((((H23.move 4 rfl).move 4 rfl).move 4 rfl).move 4 rfl)
      have H27 : St W w2 (RStr b many L gone :: imi (0 < gone.length) gA14 (.cells kA16 eA17 zA18) :: (F.set i emp)) := St.shut_ex ((pp5, cc6), (pp7, cc8)) (St.shut_star (ls := [blk b (.cells #[.int .i64 many, .slice pp5 L.length cc6, .slice pp7 gone.length cc8] 52 (0, 0)), Im 5 (.slice pp5 L.length cc6) L.length (L.flatMap evdCell), evA L, Im 1 (.slice pp7 gone.length cc8) gone.length (gone.flatMap blc)]) H26)
      have H28 : St W w2 (RStr b many L gone :: (F.set i emp)) := (H27.drop 1 rfl)
      exact ⟨vint hA.symm, by rw [rGone_no hB]; exact St.back hi H28⟩
    · have hb25 := eq_false_of_ne_true hb25
      refine g_false (congrArg Value.bool hb25) ?_
      refine g_skip ?_
      refine g_seq ?_
      refine g_region ?_
      refine r_cons (s_move (.pointer (some ⟨b, 0, none⟩)) rfl rfl ?_)
      refine r_cons (s_nilCheck (.pointer (some ⟨b, 0, none⟩)) rfl ⟨_, rfl⟩ rfl ?_)
      refine r_cons (s_fieldAddr 52 2 2 2 50 rfl fi_52_2 rfl rfl ?_)
      refine r_cons (s_load (.slice pp7 gone.length cc8) ag_50 rfl (H23.blk_at (i := 1) rfl) rfl rfl ?_)
      have H29 := Row.nil_intro H23 4 1
      refine r_cons (s_append H29 0 rfl rfl rfl (Im.rd H29 (i := 5) rfl) ap_50 (by decide) (by unfold maxLen; omega) (by omega) (n' := gone.length) (xs' := gone.flatMap blc) (by omega) (by first | rfl | simp) rfl ?_); intro vv30 w31 H32 hn33
      obtain ⟨pp34, cc35, rfl⟩ := Row.slice H32 (i := 0) rfl
      refine r_cons (s_assign (.slice pp34 gone.length cc35) rfl rfl ?_)
      refine r_nil ?_
      refine g_seq ?_
      refine g_region ?_
      refine r_cons (s_move (.slice pp34 gone.length cc35) rfl rfl ?_)
      refine r_cons (s_move (.int .i64 n) rfl rfl ?_)
      obtain ⟨bk36, cur37, hp38, h39, h40, h41, h42, h43, H44⟩ := Row.open2 H32 (i := 0) rfl (by omega)
      refine r_cons (s_indexAddr bk36 (off := 0) n 1 (0 + n.toNat * 1) (by exact congrArg (fun z_ => Value.slice z_ gone.length cc35) ((fun (_ : 0 < 1) => hp38) (by omega))) rfl el_50 (by omega) rfl rfl ?_)
      have hx47 := row_set1 (f := blc) (L := gone) (cur := cur37) blc_len (by rw [(rfl : gone.length = gone.length)]; exact h42) (show gone.length * 1 ≤ cur37.size by rw [(rfl : gone.length = gone.length), h41]; exact Nat.mul_le_mul_right 1 h39) (j := n.toNat) (by have hh := (rfl : gone.length = gone.length); omega) false (.bool true) (true) (rfl)
      refine r_cons (s_store H44 0 (.bool true) rfl rfl rfl sz_4 rfl (by have hh := (rfl : gone.length = gone.length); have hk := (show gone.length * 1 ≤ cur37.size by rw [(rfl : gone.length = gone.length), h41]; exact Nat.mul_le_mul_right 1 h39); omega) rfl (cs' := (cur37.setIfInBounds (0 + n.toNat * 1) (.bool true))) rfl ?_); intro w45 H46
      refine r_nil ?_
      refine g_seq ?_
      refine g_region ?_
      refine r_cons (s_move (.pointer (some ⟨b, 0, none⟩)) rfl rfl ?_)
      refine r_cons (s_move (.slice pp34 gone.length cc35) rfl rfl ?_)
      refine r_cons (s_nilCheck (.pointer (some ⟨b, 0, none⟩)) rfl ⟨_, rfl⟩ rfl ?_)
      refine r_cons (s_fieldAddr 52 2 2 2 50 rfl fi_52_2 rfl rfl ?_)
      refine r_cons (s_store H46 2 (.slice pp34 gone.length cc35) rfl rfl rfl sz_50 rfl (Nat.le_of_ble_eq_true rfl) rfl (cs' := #[.int .i64 many, .slice pp5 L.length cc6, .slice pp34 gone.length cc35]) rfl ?_); intro w48 H49
      refine r_nil ?_
      refine g_seq ?_
      refine g_region ?_
      refine r_cons (s_assign (.int .i64 0) rfl rfl ?_)
      refine r_nil ?_
      refine g_ret' [.int .i64 0] Try.func26 Try.results26 ⟨rfl, trivial⟩ ?_
      have hA : rClose many gone n = 0 := rClose_0 hc1 ‹_›
      have H50 := Row.shut2 (p := pp34) (n := gone.length) (c := cc35) (size := 1) (xs := (gone.set n.toNat true).flatMap blc) H49 (i := 0) rfl hp38 h39 h40 (by rw [Array.size_setIfInBounds]; exact h41) (by have hh : ((cur37.setIfInBounds (0 + n.toNat * 1) (.bool true)).toList.drop 0).take ((gone.set n.toNat true).length * 1) = (gone.set n.toNat true).flatMap blc := hx47; have hk : (gone.set n.toNat true).length = gone.length := (by first | (rw [List.length_set]; exact (rfl : gone.length = gone.length)) | rw [List.length_set]); rw [hk] at hh; exact hh) (one_bl _)
      have H51 : St W w48 (Im 1 (.slice pp34 gone.length cc35) gone.length ((gone.set n.toNat true).flatMap blc) :: imi (0 < gone.length) gA14 (.cells kA16 eA17 zA18) :: blk b (.cells #[.int .i64 many, .slice pp5 L.length cc6, .slice pp34 gone.length cc35] 52 (0, 0)) :: Im 5 (.slice pp5 L.length cc6) L.length (L.flatMap evdCell) :: evA L :: Im 1 (.slice pp7 gone.length cc8) gone.length (gone.flatMap blc) :: (F.set i emp)) := Row.im H50 (i := 0) rfl
      have H52 : St W w48 (Im 1 (.slice pp34 ((rGone many gone n).length) cc35) ((rGone many gone n).length) ((rGone many gone n).flatMap blc) :: imi (0 < gone.length) gA14 (.cells kA16 eA17 zA18) :: blk b (.cells #[.int .i64 many, .slice pp5 L.length cc6, .slice pp34 ((rGone many gone n).length) cc35] 52 (0, 0)) :: Im 5 (.slice pp5 L.length cc6) L.length (L.flatMap evdCell) :: evA L :: Im 1 (.slice pp7 gone.length cc8) gone.length (gone.flatMap blc) :: (F.set i emp)) := by rw [rGone_yes hA, List.length_set]; exact H51
      have H53 : St W w48 (blk b (.cells #[.int .i64 many, .slice pp5 L.length cc6, .slice pp34 ((rGone many gone n).length) cc35] 52 (0, 0)) :: Im 5 (.slice pp5 L.length cc6) L.length (L.flatMap evdCell) :: evA L :: Im 1 (.slice pp34 ((rGone many gone n).length) cc35) ((rGone many gone n).length) ((rGone many gone n).flatMap blc) :: imi (0 < gone.length) gA14 (.cells kA16 eA17 zA18) :: Im 1 (.slice pp7 gone.length cc8) gone.length (gone.flatMap blc) :: (F.set i emp)) := (((H52.move 4 rfl).move 4 rfl).move 4 rfl)
      have H54 : St W w48 (RStr b many L (rGone many gone n) :: imi (0 < gone.length) gA14 (.cells kA16 eA17 zA18) :: Im 1 (.slice pp7 gone.length cc8) gone.length (gone.flatMap blc) :: (F.set i emp)) := St.shut_ex ((pp5, cc6), (pp34, cc35)) (St.shut_star (ls := [blk b (.cells #[.int .i64 many, .slice pp5 L.length cc6, .slice pp34 ((rGone many gone n).length) cc35] 52 (0, 0)), Im 5 (.slice pp5 L.length cc6) L.length (L.flatMap evdCell), evA L, Im 1 (.slice pp34 ((rGone many gone n).length) cc35) ((rGone many gone n).length) ((rGone many gone n).flatMap blc)]) H53)
      have H55 : St W w48 (RStr b many L (rGone many gone n) :: (F.set i emp)) := ((H54.drop 1 rfl).drop 1 rfl)
      exact ⟨vint hA.symm, St.back hi H55⟩
  · skip
    refine r_cons (s_call [.pointer (some ⟨b, 0, none⟩), .int .i64 n] pl_71 rfl rfl (RStr_is_out b many L gone n hc1 (i := 0) rfl H0) ?_)
    rintro _ w56 ⟨rfl, H57⟩
    refine r_cons (s_not false rfl true rfl rfl ?_)
    refine r_nil ?_
    refine g_true rfl ?_
    refine g_seq ?_
    refine g_region ?_
    refine r_cons (s_assign (.int .i64 1) rfl rfl ?_)
    refine r_nil ?_
    refine g_ret' [.int .i64 1] Try.func26 Try.results26 ⟨rfl, trivial⟩ ?_
    have hA : rClose many gone n = 1 := rClose_1 hc1
    have hB : ¬ rClose many gone n = 0 := by rw [hA]; decide
    have H58 : St W w56 (RStr b many L gone :: (F.set i emp)) := H57
    exact ⟨vint hA.symm, by rw [rGone_no hB]; exact St.back hi H58⟩
/-- What a closure over events has captured. -/
def AllA (g : Nat) (evs : List EvM) : Atom := ex fun q : (Option Addr × Nat) × List EvD => star [pure' (q.2.map EvD.ev = evs), blk g (.cells #[.slice q.1.1 evs.length q.1.2] 49 (0, 0)), Row 33 5 (.slice q.1.1 evs.length q.1.2) evs.length (q.2.flatMap evdCell), evA q.2]
set_option maxHeartbeats 4000000 in
set_option maxRecDepth 100000 in
theorem Streams_All {W w : World} {F : List Atom} (b : Nat) (many : Int) (st : List S3) (evs : List EvM) (hne : ∀ e ∈ evs, evE e = 0) (hnl : evs.length ≤ 65536) {i : Nat} (hi : F[i]? = some (Streams b many st evs)) (H : St W w F) : Calls Try.prog 34 #[.pointer (some ⟨b, 0, none⟩)] w (Ret fun v w' => ∃ g, v = .func (.func 72) #[] #[.pointer (some ⟨g, 0, none⟩)] ∧ St W w' (AllA g evs :: F)) := by
  have H0 := H.front hi
  refine calls_of_go (n := 25) Try.func34 rfl Try.ntmps34 rfl ?_
  refine g_seq ?_
  refine g_region ?_
  refine r_cons (s_assign (.nilFunc) rfl rfl ?_)
  refine r_nil ?_
  refine g_seq ?_
  refine g_region ?_
  refine r_cons (s_alloc H0 49 ze_49 rfl ?_); intro bk1 w2 H3
  refine r_nil ?_
  refine g_seq ?_
  refine g_seq ?_
  refine g_region ?_
  refine r_cons (s_move (.pointer (some ⟨b, 0, none⟩)) rfl rfl ?_)
  refine r_cons (s_call [.pointer (some ⟨b, 0, none⟩)] pl_58 rfl rfl (Streams_none b many st evs  (i := 1) rfl H3) ?_)
  rintro _ w4 ⟨rfl, H5⟩
  refine r_cons (s_not false rfl true rfl rfl ?_)
  refine r_nil ?_
  refine g_true rfl ?_
  refine g_seq ?_
  refine g_region ?_
  refine r_cons (s_move (.pointer (some ⟨b, 0, none⟩)) rfl rfl ?_)
  refine r_cons (s_nilCheck (.pointer (some ⟨b, 0, none⟩)) rfl ⟨_, rfl⟩ rfl ?_)
  refine r_cons (s_fieldAddr 96 2 49 49 49 rfl fi_96_2 rfl rfl ?_)
  have H6 := H5.move 1 rfl
  obtain ⟨⟨vv7, avs8⟩, H13⟩ := St.open_ex H6
  obtain ⟨⟨h9, hm10, hm11, hav12⟩, H14⟩ := St.open_pure (St.open_star H13)
  dsimp only at hav12 H14
  obtain ⟨pp16, cc17, rfl⟩ := Row.slice (i := 1) H14 rfl
  have H18 : St W w4 (blk b (.cells (stCells many st (.slice pp16 evs.length cc17)) 96 (0, 0)) :: Row 33 5 (.slice pp16 evs.length cc17) evs.length (evRow evs avs8) :: star (evIms evs avs8) :: blk bk1 (.cells #[.slice none 0 0] 49 (0, 0)) :: (F.set i emp)) := H14
  refine r_cons (s_load (.slice pp16 evs.length cc17) ag_49 rfl (H18.blk_at (i := 0) rfl) (st_all h9 _ _) rfl ?_)
  refine r_cons (s_len evs.length rfl ⟨_, un_49⟩ rfl ?_)
  refine r_cons (s_move (.int .i64 0) rfl rfl ?_)
  refine r_nil ?_
  refine g_block ?_
  obtain ⟨L19, ⟨hL20, hR21⟩, H22⟩ := evd_of hav12 H18 (i := 2) rfl
  have H23 : St W w4 (evA L19 :: blk b (.cells (stCells many st (.slice pp16 evs.length cc17)) 96 (0, 0)) :: Row 33 5 (.slice pp16 evs.length cc17) evs.length (L19.flatMap evdCell) :: star (evIms evs avs8) :: blk bk1 (.cells #[.slice none 0 0] 49 (0, 0)) :: (F.set i emp)) := by rw [← hR21]; exact H22
  have hl0 : L19.length = evs.length := by rw [← hL20, List.length_map]
  have H24 := Row.nil_intro H23 33 5
  have H25 := evA_nil H24
  have H26 : St W w4 (blk bk1 (.cells #[.slice none 0 0] 49 (0, 0)) :: Row 33 5 (.slice none 0 0) 0 [] :: evA [] :: blk b (.cells (stCells many st (.slice pp16 evs.length cc17)) 96 (0, 0)) :: Row 33 5 (.slice pp16 evs.length cc17) evs.length (L19.flatMap evdCell) :: star (evIms evs avs8) :: evA L19 :: (F.set i emp)) := (((((((H25.move 2 rfl).move 5 rfl).move 5 rfl).move 5 rfl).move 4 rfl).move 5 rfl).move 6 rfl)
  refine g_loop_inv (fun (x_ : Nat × (List EvD) × (Option Addr) × Nat) => match x_ with | (j, pre, q, c) => [(2, .nilFunc), (3, .pointer (some ⟨bk1, 0, none⟩)), (12, .slice pp16 evs.length cc17), (13, .int .i64 (evs.length : Int)), (14, .int .i64 (j : Int))]) (fun (x_ : Nat × (List EvD) × (Option Addr) × Nat) w => match x_ with | (j, pre, q, c) => (j ≤ evs.length) ∧ (pre.map EvD.ev = evs.take j) ∧ St W w (blk bk1 (.cells #[.slice q j c] 49 (0, 0)) :: Row 33 5 (.slice q j c) j (pre.flatMap evdCell) :: evA pre :: blk b (.cells (stCells many st (.slice pp16 evs.length cc17)) 96 (0, 0)) :: Row 33 5 (.slice pp16 evs.length cc17) evs.length (L19.flatMap evdCell) :: star (evIms evs avs8) :: evA L19 :: (F.set i emp))) (fun (x_ : Nat × (List EvD) × (Option Addr) × Nat) => match x_ with | (j, pre, q, c) => evs.length - j) (0, [], none, 0) ?_ ?_ ?_
  · exact ⟨by first | rfl | exact vint (by omega), by first | rfl | exact vint (by omega), by first | rfl | exact vint (by omega), by first | rfl | exact vint (by omega), by first | rfl | exact vint (by omega), trivial⟩
  · exact ⟨(by omega), (by simp), H26⟩
  · rintro ⟨j, pre, q, c⟩ ρ27 w28 ⟨hjn, hpj, H29⟩ nx30
    change Ends _ _ (upds ρ27 [(2, .nilFunc), (3, .pointer (some ⟨bk1, 0, none⟩)), (12, .slice pp16 evs.length cc17), (13, .int .i64 (evs.length : Int)), (14, .int .i64 (j : Int))]) w28
    refine g_seq ?_
    refine g_region ?_
    by_cases hc31 : (j : Int) < (evs.length : Int)
    · skip
      refine r_cons (s_lss true rfl rfl (dtrue hc31) rfl ?_)
      refine r_nil ?_
      refine g_seq ?_
      refine g_true rfl ?_
      refine g_skip ?_
      refine g_seq ?_
      refine g_block ?_
      refine g_seq ?_
      refine g_region ?_
      have hab := ev_bound hne hL20 (j := j) (by omega)
      have H32 := evA_at H29 (i := 6) rfl (j := j) (by omega)
      obtain ⟨bk33, cur34, hp35, hl36, hx37, hs38, H39, hcl40⟩ := Row.openL (f := evdCell) evdCell_len (by decide) (L := L19) H32 (i := 5) rfl (by omega)
      refine r_cons (s_indexAddr bk33 (off := 0) (j : Int) 5 (0 + j * 5) (by exact congrArg (fun z_ => Value.slice z_ evs.length cc17) ((fun (_ : 0 < 1) => hp35) (by omega))) rfl el_49 (by omega) rfl rfl ?_)
      refine r_cons (s_loadAgg [.int .i64 ((L19.getD j default).ev.src.v), .int .i64 ((L19.getD j default).ev.seq.v), .int .i64 ((L19.getD j default).ev.time.v), .string ((L19.getD j default).ev.typ.v), .slice ((L19.getD j default).p) ((L19.getD j default).ev.attrs.length) ((L19.getD j default).c)] 5 ag_33 rfl (H39.blk_at (i := 5) rfl) (by have := elem_size (i := j) (s := 5) hs38 (by have hh : L19.length = evs.length := hl36; omega); omega) (elem_take evdCell_len hx37 (by have hh : L19.length = evs.length := hl36; omega) default) rfl ?_)
      refine r_cons (s_alloc H39 33 ze_33 rfl ?_); intro bk41 w42 H43
      refine r_cons (s_storeAgg H43 0 #[.int .i64 ((L19.getD j default).ev.src.v), .int .i64 ((L19.getD j default).ev.seq.v), .int .i64 ((L19.getD j default).ev.time.v), .string ((L19.getD j default).ev.typ.v), .slice ((L19.getD j default).p) ((L19.getD j default).ev.attrs.length) ((L19.getD j default).c)] 5 rfl rfl rfl sz_33 rfl (by simp [Value.oneCell']) (Nat.le_of_ble_eq_true rfl) (fun o h1 h2 => by first | (simp; done) | (simp; omega)) (cs' := #[.int .i64 ((L19.getD j default).ev.src.v), .int .i64 ((L19.getD j default).ev.seq.v), .int .i64 ((L19.getD j default).ev.time.v), .string ((L19.getD j default).ev.typ.v), .slice ((L19.getD j default).p) ((L19.getD j default).ev.attrs.length) ((L19.getD j default).c)]) rfl ?_); intro w44 H45
      refine r_nil ?_
      refine g_cut (fun (x : Option Addr × Nat × Nat × Option Addr × Nat) => match x with | (pp46, cc47, bk50, pp57, cc58) => [(2, .nilFunc), (3, .pointer (some ⟨bk1, 0, none⟩)), (12, .slice pp16 evs.length cc17), (13, .int .i64 (evs.length : Int)), (14, .int .i64 (j : Int)), (15, .bool true), (16, .pointer (some ⟨bk33, 0 + j * 5, none⟩)), (17, .agg #[.int .i64 ((L19.getD j default).ev.src.v), .int .i64 ((L19.getD j default).ev.seq.v), .int .i64 ((L19.getD j default).ev.time.v), .string ((L19.getD j default).ev.typ.v), .slice ((L19.getD j default).p) ((L19.getD j default).ev.attrs.length) ((L19.getD j default).c)]), (5, .pointer (some ⟨bk41, 0, none⟩)), (18, .slice q j c), (19, .agg #[.int .i64 ((L19.getD j default).ev.src.v), .int .i64 ((L19.getD j default).ev.seq.v), .int .i64 ((L19.getD j default).ev.time.v), .string ((L19.getD j default).ev.typ.v), .slice ((L19.getD j default).p) ((L19.getD j default).ev.attrs.length) ((L19.getD j default).c)]), (20, .agg #[.int .i64 ((L19.getD j default).ev.src.v), .int .i64 ((L19.getD j default).ev.seq.v), .int .i64 ((L19.getD j default).ev.time.v), .string ((L19.getD j default).ev.typ.v), .slice pp46 ((L19.getD j default).ev.attrs.length) cc47]), (21, .slice (some ⟨bk50, 0, none⟩) 1 1), (22, .slice pp57 (j + 1) cc58)]) (fun (x : Option Addr × Nat × Nat × Option Addr × Nat) w => match x with | (pp46, cc47, bk50, pp57, cc58) => St W w (blk bk50 (.cells #[.int .i64 ((L19.getD j default).ev.src.v), .int .i64 ((L19.getD j default).ev.seq.v), .int .i64 ((L19.getD j default).ev.time.v), .string ((L19.getD j default).ev.typ.v), .slice pp46 ((L19.getD j default).ev.attrs.length) cc47] 33 (0, 0)) :: Attrs (.slice pp46 ((L19.getD j default).ev.attrs.length) cc47) ((L19.getD j default).ev.attrs) :: blk bk41 (.cells #[.int .i64 ((L19.getD j default).ev.src.v), .int .i64 ((L19.getD j default).ev.seq.v), .int .i64 ((L19.getD j default).ev.time.v), .string ((L19.getD j default).ev.typ.v), .slice ((L19.getD j default).p) ((L19.getD j default).ev.attrs.length) ((L19.getD j default).c)] 33 (0, 0)) :: Attrs (.slice ((L19.getD j default).p) ((L19.getD j default).ev.attrs.length) ((L19.getD j default).c)) ((L19.getD j default).ev.attrs) :: blk bk1 (.cells #[.slice pp57 (j + 1) cc58] 49 (0, 0)) :: Row 33 5 (.slice pp57 (j + 1) cc58) (j + 1) (pre.flatMap evdCell ++ ([.int .i64 ((L19.getD j default).ev.src.v), .int .i64 ((L19.getD j default).ev.seq.v), .int .i64 ((L19.getD j default).ev.time.v), .string ((L19.getD j default).ev.typ.v), .slice pp46 ((L19.getD j default).ev.attrs.length) cc47] : List Value)) :: evA pre :: blk b (.cells (stCells many st (.slice pp16 evs.length cc17)) 96 (0, 0)) :: blk bk33 (.cells cur34 33 (0, 0)) :: star (evIms evs avs8) :: evA L19 :: (F.set i emp))) ?_ ?_
      · rintro ⟨pp46, cc47, bk50, pp57, cc58⟩ ρ49 w47 H48
        change Ends _ _ (upds ρ49 [(2, .nilFunc), (3, .pointer (some ⟨bk1, 0, none⟩)), (12, .slice pp16 evs.length cc17), (13, .int .i64 (evs.length : Int)), (14, .int .i64 (j : Int)), (15, .bool true), (16, .pointer (some ⟨bk33, 0 + j * 5, none⟩)), (17, .agg #[.int .i64 ((L19.getD j default).ev.src.v), .int .i64 ((L19.getD j default).ev.seq.v), .int .i64 ((L19.getD j default).ev.time.v), .string ((L19.getD j default).ev.typ.v), .slice ((L19.getD j default).p) ((L19.getD j default).ev.attrs.length) ((L19.getD j default).c)]), (5, .pointer (some ⟨bk41, 0, none⟩)), (18, .slice q j c), (19, .agg #[.int .i64 ((L19.getD j default).ev.src.v), .int .i64 ((L19.getD j default).ev.seq.v), .int .i64 ((L19.getD j default).ev.time.v), .string ((L19.getD j default).ev.typ.v), .slice ((L19.getD j default).p) ((L19.getD j default).ev.attrs.length) ((L19.getD j default).c)]), (20, .agg #[.int .i64 ((L19.getD j default).ev.src.v), .int .i64 ((L19.getD j default).ev.seq.v), .int .i64 ((L19.getD j default).ev.time.v), .string ((L19.getD j default).ev.typ.v), .slice pp46 ((L19.getD j default).ev.attrs.length) cc47]), (21, .slice (some ⟨bk50, 0, none⟩) 1 1), (22, .slice pp57 (j + 1) cc58)]) w47
        refine g_inBlock ?_
        refine g_region ?_
        refine r_cons (s_add ((j : Int) + 1) rfl rfl (wi64 (by omega)) rfl ?_)
        refine r_cons (s_move (.int .i64 ((j : Int) + 1)) rfl rfl ?_)
        refine r_nil ?_
        have H50 : St W w47 (blk bk50 (.cells #[.int .i64 ((L19.getD j default).ev.src.v), .int .i64 ((L19.getD j default).ev.seq.v), .int .i64 ((L19.getD j default).ev.time.v), .string ((L19.getD j default).ev.typ.v), .slice pp46 ((L19.getD j default).ev.attrs.length) cc47] 33 (0, 0)) :: Attrs (.slice pp46 ((L19.getD j default).ev.attrs.length) cc47) ((L19.getD j default).ev.attrs) :: blk bk41 (.cells #[.int .i64 ((L19.getD j default).ev.src.v), .int .i64 ((L19.getD j default).ev.seq.v), .int .i64 ((L19.getD j default).ev.time.v), .string ((L19.getD j default).ev.typ.v), .slice ((L19.getD j default).p) ((L19.getD j default).ev.attrs.length) ((L19.getD j default).c)] 33 (0, 0)) :: Attrs (.slice ((L19.getD j default).p) ((L19.getD j default).ev.attrs.length) ((L19.getD j default).c)) ((L19.getD j default).ev.attrs) :: blk bk1 (.cells #[.slice pp57 (j + 1) cc58] 49 (0, 0)) :: Row 33 5 (.slice pp57 (j + 1) cc58) (j + 1) (pre.flatMap evdCell ++ ([.int .i64 ((L19.getD j default).ev.src.v), .int .i64 ((L19.getD j default).ev.seq.v), .int .i64 ((L19.getD j default).ev.time.v), .string ((L19.getD j default).ev.typ.v), .slice pp46 ((L19.getD j default).ev.attrs.length) cc47] : List Value)) :: evA pre :: blk b (.cells (stCells many st (.slice pp16 evs.length cc17)) 96 (0, 0)) :: Row 33 5 (.slice pp16 evs.length cc17) evs.length (L19.flatMap evdCell) :: star (evIms evs avs8) :: evA L19 :: (F.set i emp)) := hcl40 8 H48 rfl
        have H51 : St W w47 (Attrs (.slice pp46 ((L19.getD j default).ev.attrs.length) cc47) ((L19.getD j default).ev.attrs) :: evA pre :: blk bk50 (.cells #[.int .i64 ((L19.getD j default).ev.src.v), .int .i64 ((L19.getD j default).ev.seq.v), .int .i64 ((L19.getD j default).ev.time.v), .string ((L19.getD j default).ev.typ.v), .slice pp46 ((L19.getD j default).ev.attrs.length) cc47] 33 (0, 0)) :: blk bk41 (.cells #[.int .i64 ((L19.getD j default).ev.src.v), .int .i64 ((L19.getD j default).ev.seq.v), .int .i64 ((L19.getD j default).ev.time.v), .string ((L19.getD j default).ev.typ.v), .slice ((L19.getD j default).p) ((L19.getD j default).ev.attrs.length) ((L19.getD j default).c)] 33 (0, 0)) :: Attrs (.slice ((L19.getD j default).p) ((L19.getD j default).ev.attrs.length) ((L19.getD j default).c)) ((L19.getD j default).ev.attrs) :: blk bk1 (.cells #[.slice pp57 (j + 1) cc58] 49 (0, 0)) :: Row 33 5 (.slice pp57 (j + 1) cc58) (j + 1) (pre.flatMap evdCell ++ ([.int .i64 ((L19.getD j default).ev.src.v), .int .i64 ((L19.getD j default).ev.seq.v), .int .i64 ((L19.getD j default).ev.time.v), .string ((L19.getD j default).ev.typ.v), .slice pp46 ((L19.getD j default).ev.attrs.length) cc47] : List Value)) :: blk b (.cells (stCells many st (.slice pp16 evs.length cc17)) 96 (0, 0)) :: Row 33 5 (.slice pp16 evs.length cc17) evs.length (L19.flatMap evdCell) :: star (evIms evs avs8) :: evA L19 :: (F.set i emp)) := ((H50.move 6 rfl).move 2 rfl)
        have H52 : St W w47 (evA (pre ++ [(⟨(L19.getD j default).ev, pp46, cc47⟩ : EvD)]) :: blk bk50 (.cells #[.int .i64 ((L19.getD j default).ev.src.v), .int .i64 ((L19.getD j default).ev.seq.v), .int .i64 ((L19.getD j default).ev.time.v), .string ((L19.getD j default).ev.typ.v), .slice pp46 ((L19.getD j default).ev.attrs.length) cc47] 33 (0, 0)) :: blk bk41 (.cells #[.int .i64 ((L19.getD j default).ev.src.v), .int .i64 ((L19.getD j default).ev.seq.v), .int .i64 ((L19.getD j default).ev.time.v), .string ((L19.getD j default).ev.typ.v), .slice ((L19.getD j default).p) ((L19.getD j default).ev.attrs.length) ((L19.getD j default).c)] 33 (0, 0)) :: Attrs (.slice ((L19.getD j default).p) ((L19.getD j default).ev.attrs.length) ((L19.getD j default).c)) ((L19.getD j default).ev.attrs) :: blk bk1 (.cells #[.slice pp57 (j + 1) cc58] 49 (0, 0)) :: Row 33 5 (.slice pp57 (j + 1) cc58) (j + 1) (pre.flatMap evdCell ++ ([.int .i64 ((L19.getD j default).ev.src.v), .int .i64 ((L19.getD j default).ev.seq.v), .int .i64 ((L19.getD j default).ev.time.v), .string ((L19.getD j default).ev.typ.v), .slice pp46 ((L19.getD j default).ev.attrs.length) cc47] : List Value)) :: blk b (.cells (stCells many st (.slice pp16 evs.length cc17)) 96 (0, 0)) :: Row 33 5 (.slice pp16 evs.length cc17) evs.length (L19.flatMap evdCell) :: star (evIms evs avs8) :: evA L19 :: (F.set i emp)) := evA_snoc (e := (⟨(L19.getD j default).ev, pp46, cc47⟩ : EvD)) H51
        have H53 : St W w47 (evA (pre ++ [(⟨(L19.getD j default).ev, pp46, cc47⟩ : EvD)]) :: blk bk50 (.cells #[.int .i64 ((L19.getD j default).ev.src.v), .int .i64 ((L19.getD j default).ev.seq.v), .int .i64 ((L19.getD j default).ev.time.v), .string ((L19.getD j default).ev.typ.v), .slice pp46 ((L19.getD j default).ev.attrs.length) cc47] 33 (0, 0)) :: blk bk41 (.cells #[.int .i64 ((L19.getD j default).ev.src.v), .int .i64 ((L19.getD j default).ev.seq.v), .int .i64 ((L19.getD j default).ev.time.v), .string ((L19.getD j default).ev.typ.v), .slice ((L19.getD j default).p) ((L19.getD j default).ev.attrs.length) ((L19.getD j default).c)] 33 (0, 0)) :: Attrs (.slice ((L19.getD j default).p) ((L19.getD j default).ev.attrs.length) ((L19.getD j default).c)) ((L19.getD j default).ev.attrs) :: blk bk1 (.cells #[.slice pp57 (j + 1) cc58] 49 (0, 0)) :: Row 33 5 (.slice pp57 (j + 1) cc58) (j + 1) ((pre ++ [(⟨(L19.getD j default).ev, pp46, cc47⟩ : EvD)]).flatMap evdCell) :: blk b (.cells (stCells many st (.slice pp16 evs.length cc17)) 96 (0, 0)) :: Row 33 5 (.slice pp16 evs.length cc17) evs.length (L19.flatMap evdCell) :: star (evIms evs avs8) :: evA L19 :: (F.set i emp)) := by rw [flat_snocE]; exact H52
        have H54 : St W w47 (blk bk1 (.cells #[.slice pp57 (j + 1) cc58] 49 (0, 0)) :: Row 33 5 (.slice pp57 (j + 1) cc58) (j + 1) ((pre ++ [(⟨(L19.getD j default).ev, pp46, cc47⟩ : EvD)]).flatMap evdCell) :: evA (pre ++ [(⟨(L19.getD j default).ev, pp46, cc47⟩ : EvD)]) :: blk b (.cells (stCells many st (.slice pp16 evs.length cc17)) 96 (0, 0)) :: Row 33 5 (.slice pp16 evs.length cc17) evs.length (L19.flatMap evdCell) :: star (evIms evs avs8) :: evA L19 :: (F.set i emp)) := ((((((((((H53.move 9 rfl).move 9 rfl).move 9 rfl).move 9 rfl).move 4 rfl).move 9 rfl).move 9 rfl).drop 7 rfl).drop 7 rfl).drop 7 rfl)
        exact nx30 (j + 1, (pre ++ [(⟨(L19.getD j default).ev, pp46, cc47⟩ : EvD)]), pp57, cc58) _ _ ⟨(by omega), (ok_step (x := (⟨(L19.getD j default).ev, pp46, cc47⟩ : EvD)) hpj hL20 (by omega) rfl).1, H54⟩ (by first | (dsimp only; omega) | omega) ⟨by first | rfl | exact vint (by omega), by first | rfl | exact vint (by omega), by first | rfl | exact vint (by omega), by first | rfl | exact vint (by omega), by first | rfl | exact vint (by omega), trivial⟩
      · intro join46
        refine g_any mixed 6 rfl ?_
        intro w55 hw56
        have H57 := H45.drew
        rw [← hw56] at H57
        clear hw56
        refine a_all (rs := [0, 1]) (by kernel_rfl) (by simp) ?_
        refine a_cons ⟨_, rfl, ?_⟩ (a_cons ⟨_, rfl, ?_⟩ (fun x hx => absurd hx (by simp)))
        · skip
          refine s_load (.slice q j c) ag_49 rfl (H57.blk_at (i := 2) rfl) rfl rfl ?_
          change AnyG _ _ _ _ #[true, false, false, false, false, false] _ _
          refine a_all (rs := [1]) (by kernel_rfl) (by simp) ?_
          refine a_cons ⟨_, rfl, ?_⟩ (fun x hx => absurd hx (by simp))
          refine s_loadAgg [.int .i64 ((L19.getD j default).ev.src.v), .int .i64 ((L19.getD j default).ev.seq.v), .int .i64 ((L19.getD j default).ev.time.v), .string ((L19.getD j default).ev.typ.v), .slice ((L19.getD j default).p) ((L19.getD j default).ev.attrs.length) ((L19.getD j default).c)] 5 ag_33 rfl (H57.blk_at (i := 0) rfl) (Nat.le_of_ble_eq_true rfl) rfl rfl ?_
          change AnyG _ _ _ _ #[true, true, false, false, false, false] _ _
          refine a_all (rs := [2]) (by kernel_rfl) (by simp) ?_
          refine a_cons ⟨_, rfl, ?_⟩ (fun x hx => absurd hx (by simp))
          refine s_call [.agg #[.int .i64 ((L19.getD j default).ev.src.v), .int .i64 ((L19.getD j default).ev.seq.v), .int .i64 ((L19.getD j default).ev.time.v), .string ((L19.getD j default).ev.typ.v), .slice ((L19.getD j default).p) ((L19.getD j default).ev.attrs.length) ((L19.getD j default).c)]] pl_23 rfl rfl (event_Clone ((L19.getD j default).ev) (.slice ((L19.getD j default).p) ((L19.getD j default).ev.attrs.length) ((L19.getD j default).c)) (by omega) (j := 1) rfl H57) ?_
          rintro _ w60 ⟨pp58, cc59, rfl, H61⟩
          change AnyG _ _ _ _ #[true, true, true, false, false, false] _ _
          refine a_all (rs := [3]) (by kernel_rfl) (by simp) ?_
          refine a_cons ⟨_, rfl, ?_⟩ (fun x hx => absurd hx (by simp))
          refine s_buildSlice H61 5 1 (cs := #[.int .i64 ((L19.getD j default).ev.src.v), .int .i64 ((L19.getD j default).ev.seq.v), .int .i64 ((L19.getD j default).ev.time.v), .string ((L19.getD j default).ev.typ.v), .slice pp58 ((L19.getD j default).ev.attrs.length) cc59]) #[.int .i64 0, .int .i64 0, .int .i64 0, .string ByteArray.empty, .slice none 0 0] el_49 ze_33 (by decide) (by decide) (by kernel_rfl) rfl ?_; intro bk62 w63 H64
          change AnyG _ _ _ _ #[true, true, true, true, false, false] _ _
          refine a_all (rs := [4]) (by kernel_rfl) (by simp) ?_
          refine a_cons ⟨_, rfl, ?_⟩ (fun x hx => absurd hx (by simp))
          refine s_append H64 5 rfl rfl rfl (rd_blk (H64.blk_at (i := 0) rfl) rfl (Nat.le_of_ble_eq_true rfl) (by simp [Value.oneCell'])) ap_49 (by decide) (by unfold maxLen; omega) (by omega) (n' := j + 1) (xs' := pre.flatMap evdCell ++ ([.int .i64 ((L19.getD j default).ev.src.v), .int .i64 ((L19.getD j default).ev.seq.v), .int .i64 ((L19.getD j default).ev.time.v), .string ((L19.getD j default).ev.typ.v), .slice pp58 ((L19.getD j default).ev.attrs.length) cc59] : List Value)) (by omega) (by first | rfl | simp) rfl ?_; intro vv65 w66 H67 hn68
          obtain ⟨pp69, cc70, rfl⟩ := Row.slice H67 (i := 5) rfl
          change AnyG _ _ _ _ #[true, true, true, true, true, false] _ _
          refine a_all (rs := [5]) (by kernel_rfl) (by simp) ?_
          refine a_cons ⟨_, rfl, ?_⟩ (fun x hx => absurd hx (by simp))
          refine s_store H67 4 (.slice pp69 (j + 1) cc70) rfl rfl rfl sz_49 rfl (Nat.le_of_ble_eq_true rfl) rfl (cs' := #[.slice pp69 (j + 1) cc70]) rfl ?_; intro w71 H72
          change AnyG _ _ _ _ #[true, true, true, true, true, true] _ _
          refine a_done (by kernel_rfl) ?_
          exact join46 (pp58, cc59, bk62, pp69, cc70) _ _ H72 ⟨rfl, rfl, rfl, rfl, rfl, rfl, rfl, rfl, rfl, rfl, rfl, rfl, rfl, rfl, trivial⟩
        · skip
          refine s_loadAgg [.int .i64 ((L19.getD j default).ev.src.v), .int .i64 ((L19.getD j default).ev.seq.v), .int .i64 ((L19.getD j default).ev.time.v), .string ((L19.getD j default).ev.typ.v), .slice ((L19.getD j default).p) ((L19.getD j default).ev.attrs.length) ((L19.getD j default).c)] 5 ag_33 rfl (H57.blk_at (i := 0) rfl) (Nat.le_of_ble_eq_true rfl) rfl rfl ?_
          change AnyG _ _ _ _ #[false, true, false, false, false, false] _ _
          refine a_all (rs := [0, 2]) (by kernel_rfl) (by simp) ?_
          refine a_cons ⟨_, rfl, ?_⟩ (a_cons ⟨_, rfl, ?_⟩ (fun x hx => absurd hx (by simp)))
          · skip
            refine s_load (.slice q j c) ag_49 rfl (H57.blk_at (i := 2) rfl) rfl rfl ?_
            change AnyG _ _ _ _ #[true, true, false, false, false, false] _ _
            refine a_all (rs := [2]) (by kernel_rfl) (by simp) ?_
            refine a_cons ⟨_, rfl, ?_⟩ (fun x hx => absurd hx (by simp))
            refine s_call [.agg #[.int .i64 ((L19.getD j default).ev.src.v), .int .i64 ((L19.getD j default).ev.seq.v), .int .i64 ((L19.getD j default).ev.time.v), .string ((L19.getD j default).ev.typ.v), .slice ((L19.getD j default).p) ((L19.getD j default).ev.attrs.length) ((L19.getD j default).c)]] pl_23 rfl rfl (event_Clone ((L19.getD j default).ev) (.slice ((L19.getD j default).p) ((L19.getD j default).ev.attrs.length) ((L19.getD j default).c)) (by omega) (j := 1) rfl H57) ?_
            rintro _ w75 ⟨pp73, cc74, rfl, H76⟩
            change AnyG _ _ _ _ #[true, true, true, false, false, false] _ _
            refine a_all (rs := [3]) (by kernel_rfl) (by simp) ?_
            refine a_cons ⟨_, rfl, ?_⟩ (fun x hx => absurd hx (by simp))
            refine s_buildSlice H76 5 1 (cs := #[.int .i64 ((L19.getD j default).ev.src.v), .int .i64 ((L19.getD j default).ev.seq.v), .int .i64 ((L19.getD j default).ev.time.v), .string ((L19.getD j default).ev.typ.v), .slice pp73 ((L19.getD j default).ev.attrs.length) cc74]) #[.int .i64 0, .int .i64 0, .int .i64 0, .string ByteArray.empty, .slice none 0 0] el_49 ze_33 (by decide) (by decide) (by kernel_rfl) rfl ?_; intro bk77 w78 H79
            change AnyG _ _ _ _ #[true, true, true, true, false, false] _ _
            refine a_all (rs := [4]) (by kernel_rfl) (by simp) ?_
            refine a_cons ⟨_, rfl, ?_⟩ (fun x hx => absurd hx (by simp))
            refine s_append H79 5 rfl rfl rfl (rd_blk (H79.blk_at (i := 0) rfl) rfl (Nat.le_of_ble_eq_true rfl) (by simp [Value.oneCell'])) ap_49 (by decide) (by unfold maxLen; omega) (by omega) (n' := j + 1) (xs' := pre.flatMap evdCell ++ ([.int .i64 ((L19.getD j default).ev.src.v), .int .i64 ((L19.getD j default).ev.seq.v), .int .i64 ((L19.getD j default).ev.time.v), .string ((L19.getD j default).ev.typ.v), .slice pp73 ((L19.getD j default).ev.attrs.length) cc74] : List Value)) (by omega) (by first | rfl | simp) rfl ?_; intro vv80 w81 H82 hn83
            obtain ⟨pp84, cc85, rfl⟩ := Row.slice H82 (i := 5) rfl
            change AnyG _ _ _ _ #[true, true, true, true, true, false] _ _
            refine a_all (rs := [5]) (by kernel_rfl) (by simp) ?_
            refine a_cons ⟨_, rfl, ?_⟩ (fun x hx => absurd hx (by simp))
            refine s_store H82 4 (.slice pp84 (j + 1) cc85) rfl rfl rfl sz_49 rfl (Nat.le_of_ble_eq_true rfl) rfl (cs' := #[.slice pp84 (j + 1) cc85]) rfl ?_; intro w86 H87
            change AnyG _ _ _ _ #[true, true, true, true, true, true] _ _
            refine a_done (by kernel_rfl) ?_
            exact join46 (pp73, cc74, bk77, pp84, cc85) _ _ H87 ⟨rfl, rfl, rfl, rfl, rfl, rfl, rfl, rfl, rfl, rfl, rfl, rfl, rfl, rfl, trivial⟩
          · skip
            refine s_call [.agg #[.int .i64 ((L19.getD j default).ev.src.v), .int .i64 ((L19.getD j default).ev.seq.v), .int .i64 ((L19.getD j default).ev.time.v), .string ((L19.getD j default).ev.typ.v), .slice ((L19.getD j default).p) ((L19.getD j default).ev.attrs.length) ((L19.getD j default).c)]] pl_23 rfl rfl (event_Clone ((L19.getD j default).ev) (.slice ((L19.getD j default).p) ((L19.getD j default).ev.attrs.length) ((L19.getD j default).c)) (by omega) (j := 1) rfl H57) ?_
            rintro _ w90 ⟨pp88, cc89, rfl, H91⟩
            change AnyG _ _ _ _ #[false, true, true, false, false, false] _ _
            refine a_all (rs := [0, 3]) (by kernel_rfl) (by simp) ?_
            refine a_cons ⟨_, rfl, ?_⟩ (a_cons ⟨_, rfl, ?_⟩ (fun x hx => absurd hx (by simp)))
            · skip
              refine s_load (.slice q j c) ag_49 rfl (H91.blk_at (i := 3) rfl) rfl rfl ?_
              change AnyG _ _ _ _ #[true, true, true, false, false, false] _ _
              refine a_all (rs := [3]) (by kernel_rfl) (by simp) ?_
              refine a_cons ⟨_, rfl, ?_⟩ (fun x hx => absurd hx (by simp))
              refine s_buildSlice H91 5 1 (cs := #[.int .i64 ((L19.getD j default).ev.src.v), .int .i64 ((L19.getD j default).ev.seq.v), .int .i64 ((L19.getD j default).ev.time.v), .string ((L19.getD j default).ev.typ.v), .slice pp88 ((L19.getD j default).ev.attrs.length) cc89]) #[.int .i64 0, .int .i64 0, .int .i64 0, .string ByteArray.empty, .slice none 0 0] el_49 ze_33 (by decide) (by decide) (by kernel_rfl) rfl ?_; intro bk92 w93 H94
              change AnyG _ _ _ _ #[true, true, true, true, false, false] _ _
              refine a_all (rs := [4]) (by kernel_rfl) (by simp) ?_
              refine a_cons ⟨_, rfl, ?_⟩ (fun x hx => absurd hx (by simp))
              refine s_append H94 5 rfl rfl rfl (rd_blk (H94.blk_at (i := 0) rfl) rfl (Nat.le_of_ble_eq_true rfl) (by simp [Value.oneCell'])) ap_49 (by decide) (by unfold maxLen; omega) (by omega) (n' := j + 1) (xs' := pre.flatMap evdCell ++ ([.int .i64 ((L19.getD j default).ev.src.v), .int .i64 ((L19.getD j default).ev.seq.v), .int .i64 ((L19.getD j default).ev.time.v), .string ((L19.getD j default).ev.typ.v), .slice pp88 ((L19.getD j default).ev.attrs.length) cc89] : List Value)) (by omega) (by first | rfl | simp) rfl ?_; intro vv95 w96 H97 hn98
              obtain ⟨pp99, cc100, rfl⟩ := Row.slice H97 (i := 5) rfl
              change AnyG _ _ _ _ #[true, true, true, true, true, false] _ _
              refine a_all (rs := [5]) (by kernel_rfl) (by simp) ?_
              refine a_cons ⟨_, rfl, ?_⟩ (fun x hx => absurd hx (by simp))
              refine s_store H97 4 (.slice pp99 (j + 1) cc100) rfl rfl rfl sz_49 rfl (Nat.le_of_ble_eq_true rfl) rfl (cs' := #[.slice pp99 (j + 1) cc100]) rfl ?_; intro w101 H102
              change AnyG _ _ _ _ #[true, true, true, true, true, true] _ _
              refine a_done (by kernel_rfl) ?_
              exact join46 (pp88, cc89, bk92, pp99, cc100) _ _ H102 ⟨rfl, rfl, rfl, rfl, rfl, rfl, rfl, rfl, rfl, rfl, rfl, rfl, rfl, rfl, trivial⟩
            · skip
              refine s_buildSlice H91 5 1 (cs := #[.int .i64 ((L19.getD j default).ev.src.v), .int .i64 ((L19.getD j default).ev.seq.v), .int .i64 ((L19.getD j default).ev.time.v), .string ((L19.getD j default).ev.typ.v), .slice pp88 ((L19.getD j default).ev.attrs.length) cc89]) #[.int .i64 0, .int .i64 0, .int .i64 0, .string ByteArray.empty, .slice none 0 0] el_49 ze_33 (by decide) (by decide) (by kernel_rfl) rfl ?_; intro bk103 w104 H105
              change AnyG _ _ _ _ #[false, true, true, true, false, false] _ _
              refine a_all (rs := [0]) (by kernel_rfl) (by simp) ?_
              refine a_cons ⟨_, rfl, ?_⟩ (fun x hx => absurd hx (by simp))
              refine s_load (.slice q j c) ag_49 rfl (H105.blk_at (i := 4) rfl) rfl rfl ?_
              change AnyG _ _ _ _ #[true, true, true, true, false, false] _ _
              refine a_all (rs := [4]) (by kernel_rfl) (by simp) ?_
              refine a_cons ⟨_, rfl, ?_⟩ (fun x hx => absurd hx (by simp))
              refine s_append H105 5 rfl rfl rfl (rd_blk (H105.blk_at (i := 0) rfl) rfl (Nat.le_of_ble_eq_true rfl) (by simp [Value.oneCell'])) ap_49 (by decide) (by unfold maxLen; omega) (by omega) (n' := j + 1) (xs' := pre.flatMap evdCell ++ ([.int .i64 ((L19.getD j default).ev.src.v), .int .i64 ((L19.getD j default).ev.seq.v), .int .i64 ((L19.getD j default).ev.time.v), .string ((L19.getD j default).ev.typ.v), .slice pp88 ((L19.getD j default).ev.attrs.length) cc89] : List Value)) (by omega) (by first | rfl | simp) rfl ?_; intro vv106 w107 H108 hn109
              obtain ⟨pp110, cc111, rfl⟩ := Row.slice H108 (i := 5) rfl
              change AnyG _ _ _ _ #[true, true, true, true, true, false] _ _
              refine a_all (rs := [5]) (by kernel_rfl) (by simp) ?_
              refine a_cons ⟨_, rfl, ?_⟩ (fun x hx => absurd hx (by simp))
              refine s_store H108 4 (.slice pp110 (j + 1) cc111) rfl rfl rfl sz_49 rfl (Nat.le_of_ble_eq_true rfl) rfl (cs' := #[.slice pp110 (j + 1) cc111]) rfl ?_; intro w112 H113
              change AnyG _ _ _ _ #[true, true, true, true, true, true] _ _
              refine a_done (by kernel_rfl) ?_
              exact join46 (pp88, cc89, bk103, pp110, cc111) _ _ H113 ⟨rfl, rfl, rfl, rfl, rfl, rfl, rfl, rfl, rfl, rfl, rfl, rfl, rfl, rfl, trivial⟩
    · skip
      refine r_cons (s_lss false rfl rfl (dfalse hc31) rfl ?_)
      refine r_nil ?_
      refine g_seq ?_
      refine g_false rfl ?_
      refine g_exit (by rfl) ?_
      refine g_seq ?_
      refine g_region ?_
      refine r_cons (s_makeFunc (.func (.func 72) #[] #[.pointer (some ⟨bk1, 0, none⟩)]) rfl rfl ?_)
      refine r_cons (s_assign (.func (.func 72) #[] #[.pointer (some ⟨bk1, 0, none⟩)]) rfl rfl ?_)
      refine r_nil ?_
      refine g_ret' [.func (.func 72) #[] #[.pointer (some ⟨bk1, 0, none⟩)]] Try.func34 Try.results34 ⟨rfl, trivial⟩ ?_
      have hje : j = evs.length := by omega
      subst hje
      have hpe : pre.map EvD.ev = evs := by rw [hpj, List.take_length]
      have H114 : St W w28 (blk bk1 (.cells #[.slice q evs.length c] 49 (0, 0)) :: Row 33 5 (.slice q evs.length c) evs.length (pre.flatMap evdCell) :: evA pre :: blk b (.cells (stCells many st (.slice pp16 evs.length cc17)) 96 (0, 0)) :: Row 33 5 (.slice pp16 evs.length cc17) evs.length (L19.flatMap evdCell) :: star (evIms evs avs8) :: evA L19 :: (F.set i emp)) := H29
      have H115 : St W w28 (AllA bk1 evs :: blk b (.cells (stCells many st (.slice pp16 evs.length cc17)) 96 (0, 0)) :: Row 33 5 (.slice pp16 evs.length cc17) evs.length (L19.flatMap evdCell) :: star (evIms evs avs8) :: evA L19 :: (F.set i emp)) := St.shut_ex ((q, c), pre) (St.shut_star (ls := [pure' (pre.map EvD.ev = evs), blk bk1 (.cells #[.slice q evs.length c] 49 (0, 0)), Row 33 5 (.slice q evs.length c) evs.length (pre.flatMap evdCell), evA pre]) (St.shut_pure hpe H114))
      have H116 : St W w28 (AllA bk1 evs :: blk b (.cells (stCells many st (.slice pp16 evs.length cc17)) 96 (0, 0)) :: Row 33 5 (.slice pp16 evs.length cc17) evs.length (evRow evs avs8) :: star (evIms evs avs8) :: evA L19 :: (F.set i emp)) := by rw [hR21]; exact H115
      have H117 : St W w28 (blk b (.cells (stCells many st (.slice pp16 evs.length cc17)) 96 (0, 0)) :: Row 33 5 (.slice pp16 evs.length cc17) evs.length (evRow evs avs8) :: star (evIms evs avs8) :: AllA bk1 evs :: evA L19 :: (F.set i emp)) := (((((H116.move 4 rfl).move 1 rfl).move 4 rfl).move 4 rfl).move 4 rfl)
      have H118 : St W w28 (Streams b many st evs :: AllA bk1 evs :: evA L19 :: (F.set i emp)) := St.shut_ex (.slice pp16 evs.length cc17, avs8) (St.shut_star (ls := [pure' (st.length = 16 ∧ 1 ≤ many ∧ many ≤ 16 ∧ (avs8).length = (evs).length), blk b (.cells (stCells many st (.slice pp16 evs.length cc17)) 96 (0, 0)), Row 33 5 (.slice pp16 evs.length cc17) evs.length (evRow evs avs8), star (evIms evs avs8)]) (St.shut_pure ⟨h9, hm10, hm11, hav12⟩ H117))
      have H119 : St W w28 (Streams b many st evs :: AllA bk1 evs :: (F.set i emp)) := (((H118.move 1 rfl).move 1 rfl).drop 2 rfl)
      have H120 : St W w28 (Streams b many st evs :: (AllA bk1 evs :: F).set (i + 1) emp) := H119
      exact ⟨bk1, rfl, St.back_same (i := i + 1) (by exact hi) H120⟩
set_option maxHeartbeats 4000000 in
set_option maxRecDepth 100000 in
theorem Streams_All1 {W w : World} {F : List Atom} (g l : Nat) (evs : List EvM) (J Jx : List EvD → Atom) (hne : ∀ e ∈ evs, evE e = 0) (hnl : evs.length ≤ 65536) {i : Nat} (hi : F[i]? = some (AllA g evs)) (hY : ∀ w G pre (x : EvD), (pre ++ [x]).map EvD.ev <+: evs → St W w (J pre :: Attrs x.av x.ev.attrs :: G) → YieldAt Try.prog l [.agg #[.int .i64 x.ev.src.v, .int .i64 x.ev.seq.v, .int .i64 x.ev.time.v, .string x.ev.typ.v, .slice x.p x.ev.attrs.length x.c]] w (fun v w' => (v = .bool true ∧ St W w' (J (pre ++ [x]) :: G)) ∨ (v = .bool false ∧ St W w' (Jx (pre ++ [x]) :: G)))) (H : St W w (J [] :: F)) : Calls Try.prog 72 #[.func (.yield l) #[] #[], .pointer (some ⟨g, 0, none⟩)] w (Ret fun v w' => ∃ L : List EvD, (L.map EvD.ev = evs ∧ St W w' (J L :: F)) ∨ (L.map EvD.ev <+: evs ∧ St W w' (Jx L :: F))) := by
  have H0 := H.front (i := i + 1) (by exact hi)
  refine calls_of_go (n := 17) Try.func72 rfl Try.ntmps72 rfl ?_
  refine g_seq ?_
  refine g_region ?_
  have H1 := H0.move 0 rfl
  obtain ⟨⟨⟨pp2, cc3⟩, L4⟩, H5⟩ := St.open_ex H1
  obtain ⟨hL7, H6⟩ := St.open_pure (St.open_star H5)
  dsimp only at hL7 H6
  have H8 : St W w (blk g (.cells #[.slice pp2 evs.length cc3] 49 (0, 0)) :: Row 33 5 (.slice pp2 evs.length cc3) evs.length (L4.flatMap evdCell) :: evA L4 :: J [] :: (F.set i emp)) := H6
  refine r_cons (s_load (.slice pp2 evs.length cc3) ag_49 rfl (H8.blk_at (i := 0) rfl) rfl rfl ?_)
  refine r_cons (s_len evs.length rfl ⟨_, un_49⟩ rfl ?_)
  refine r_cons (s_move (.int .i64 0) rfl rfl ?_)
  refine r_nil ?_
  refine g_block ?_
  have hl0 : L4.length = evs.length := by rw [← hL7, List.length_map]
  have H9 : St W w (J [] :: blk g (.cells #[.slice pp2 evs.length cc3] 49 (0, 0)) :: Row 33 5 (.slice pp2 evs.length cc3) evs.length (L4.flatMap evdCell) :: evA L4 :: (F.set i emp)) := ((((H8.move 2 rfl).move 2 rfl).move 2 rfl).move 3 rfl)
  refine g_loop_inv (fun (x_ : Nat × (List EvD)) => match x_ with | (j, pre) => [(0, .func (.yield l) #[] #[]), (5, .slice pp2 evs.length cc3), (6, .int .i64 (evs.length : Int)), (7, .int .i64 (j : Int))]) (fun (x_ : Nat × (List EvD)) w => match x_ with | (j, pre) => (j ≤ evs.length) ∧ (pre.map EvD.ev = evs.take j) ∧ St W w (J pre :: blk g (.cells #[.slice pp2 evs.length cc3] 49 (0, 0)) :: Row 33 5 (.slice pp2 evs.length cc3) evs.length (L4.flatMap evdCell) :: evA L4 :: (F.set i emp))) (fun (x_ : Nat × (List EvD)) => match x_ with | (j, pre) => evs.length - j) (0, []) ?_ ?_ ?_
  · exact ⟨by first | rfl | exact vint (by omega), by first | rfl | exact vint (by omega), by first | rfl | exact vint (by omega), by first | rfl | exact vint (by omega), trivial⟩
  · exact ⟨(by omega), (by simp), H9⟩
  · rintro ⟨j, pre⟩ ρ10 w11 ⟨hjn, hpj, H12⟩ nx13
    change Ends _ _ (upds ρ10 [(0, .func (.yield l) #[] #[]), (5, .slice pp2 evs.length cc3), (6, .int .i64 (evs.length : Int)), (7, .int .i64 (j : Int))]) w11
    refine g_seq ?_
    refine g_region ?_
    by_cases hc14 : (j : Int) < (evs.length : Int)
    · skip
      refine r_cons (s_lss true rfl rfl (dtrue hc14) rfl ?_)
      refine r_nil ?_
      refine g_seq ?_
      refine g_true rfl ?_
      refine g_skip ?_
      refine g_seq ?_
      refine g_block ?_
      refine g_seq ?_
      refine g_region ?_
      have hab := ev_bound hne hL7 (j := j) (by omega)
      have H15 := evA_at H12 (i := 3) rfl (j := j) (by omega)
      obtain ⟨bk16, cur17, hp18, hl19, hx20, hs21, H22, hcl23⟩ := Row.openL (f := evdCell) evdCell_len (by decide) (L := L4) H15 (i := 3) rfl (by omega)
      refine r_cons (s_indexAddr bk16 (off := 0) (j : Int) 5 (0 + j * 5) (by exact congrArg (fun z_ => Value.slice z_ evs.length cc3) ((fun (_ : 0 < 1) => hp18) (by omega))) rfl el_49 (by omega) rfl rfl ?_)
      refine r_cons (s_loadAgg [.int .i64 ((L4.getD j default).ev.src.v), .int .i64 ((L4.getD j default).ev.seq.v), .int .i64 ((L4.getD j default).ev.time.v), .string ((L4.getD j default).ev.typ.v), .slice ((L4.getD j default).p) ((L4.getD j default).ev.attrs.length) ((L4.getD j default).c)] 5 ag_33 rfl (H22.blk_at (i := 3) rfl) (by have := elem_size (i := j) (s := 5) hs21 (by have hh : L4.length = evs.length := hl19; omega); omega) (elem_take evdCell_len hx20 (by have hh : L4.length = evs.length := hl19; omega) default) rfl ?_)
      refine r_cons (s_alloc H22 33 ze_33 rfl ?_); intro bk24 w25 H26
      refine r_cons (s_storeAgg H26 0 #[.int .i64 ((L4.getD j default).ev.src.v), .int .i64 ((L4.getD j default).ev.seq.v), .int .i64 ((L4.getD j default).ev.time.v), .string ((L4.getD j default).ev.typ.v), .slice ((L4.getD j default).p) ((L4.getD j default).ev.attrs.length) ((L4.getD j default).c)] 5 rfl rfl rfl sz_33 rfl (by simp [Value.oneCell']) (Nat.le_of_ble_eq_true rfl) (fun o h1 h2 => by first | (simp; done) | (simp; omega)) (cs' := #[.int .i64 ((L4.getD j default).ev.src.v), .int .i64 ((L4.getD j default).ev.seq.v), .int .i64 ((L4.getD j default).ev.time.v), .string ((L4.getD j default).ev.typ.v), .slice ((L4.getD j default).p) ((L4.getD j default).ev.attrs.length) ((L4.getD j default).c)]) rfl ?_); intro w27 H28
      refine r_nil ?_
      refine g_seq ?_
      refine g_region ?_
      refine r_cons (s_move (.func (.yield l) #[] #[]) rfl rfl ?_)
      refine r_cons (s_loadAgg [.int .i64 ((L4.getD j default).ev.src.v), .int .i64 ((L4.getD j default).ev.seq.v), .int .i64 ((L4.getD j default).ev.time.v), .string ((L4.getD j default).ev.typ.v), .slice ((L4.getD j default).p) ((L4.getD j default).ev.attrs.length) ((L4.getD j default).c)] 5 ag_33 rfl (H28.blk_at (i := 0) rfl) (Nat.le_of_ble_eq_true rfl) rfl rfl ?_)
      refine r_cons (s_call [.agg #[.int .i64 ((L4.getD j default).ev.src.v), .int .i64 ((L4.getD j default).ev.seq.v), .int .i64 ((L4.getD j default).ev.time.v), .string ((L4.getD j default).ev.typ.v), .slice ((L4.getD j default).p) ((L4.getD j default).ev.attrs.length) ((L4.getD j default).c)]] pl_23 rfl rfl (event_Clone ((L4.getD j default).ev) (.slice ((L4.getD j default).p) ((L4.getD j default).ev.attrs.length) ((L4.getD j default).c)) (by omega) (j := 1) rfl H28) ?_)
      rintro _ w31 ⟨pp29, cc30, rfl, H32⟩
      have H33 : St W w31 (J pre :: Attrs (.slice pp29 ((L4.getD j default).ev.attrs.length) cc30) ((L4.getD j default).ev.attrs) :: blk bk24 (.cells #[.int .i64 ((L4.getD j default).ev.src.v), .int .i64 ((L4.getD j default).ev.seq.v), .int .i64 ((L4.getD j default).ev.time.v), .string ((L4.getD j default).ev.typ.v), .slice ((L4.getD j default).p) ((L4.getD j default).ev.attrs.length) ((L4.getD j default).c)] 33 (0, 0)) :: Attrs (.slice ((L4.getD j default).p) ((L4.getD j default).ev.attrs.length) ((L4.getD j default).c)) ((L4.getD j default).ev.attrs) :: blk g (.cells #[.slice pp2 evs.length cc3] 49 (0, 0)) :: blk bk16 (.cells cur17 33 (0, 0)) :: evA L4 :: (F.set i emp)) := (H32.move 3 rfl)
      refine r_cons (s_yield l [.agg #[.int .i64 ((L4.getD j default).ev.src.v), .int .i64 ((L4.getD j default).ev.seq.v), .int .i64 ((L4.getD j default).ev.time.v), .string ((L4.getD j default).ev.typ.v), .slice pp29 ((L4.getD j default).ev.attrs.length) cc30]] rfl rfl rfl (hY _ _ pre (⟨(L4.getD j default).ev, pp29, cc30⟩ : EvD) (ok_step (x := (⟨(L4.getD j default).ev, pp29, cc30⟩ : EvD)) hpj hL7 (by omega) rfl).2 H33) ?_)
      rintro _ w34 (⟨rfl, H35⟩ | ⟨rfl, H35⟩)
      · skip
        have H36 : St W w34 (J (pre ++ [(⟨(L4.getD j default).ev, pp29, cc30⟩ : EvD)]) :: blk bk24 (.cells #[.int .i64 ((L4.getD j default).ev.src.v), .int .i64 ((L4.getD j default).ev.seq.v), .int .i64 ((L4.getD j default).ev.time.v), .string ((L4.getD j default).ev.typ.v), .slice ((L4.getD j default).p) ((L4.getD j default).ev.attrs.length) ((L4.getD j default).c)] 33 (0, 0)) :: Attrs (.slice ((L4.getD j default).p) ((L4.getD j default).ev.attrs.length) ((L4.getD j default).c)) ((L4.getD j default).ev.attrs) :: blk g (.cells #[.slice pp2 evs.length cc3] 49 (0, 0)) :: blk bk16 (.cells cur17 33 (0, 0)) :: evA L4 :: (F.set i emp)) := H35
        refine r_cons (s_not true rfl false rfl rfl ?_)
        refine r_nil ?_
        refine g_false rfl ?_
        refine g_skip ?_
        refine g_inBlock ?_
        refine g_region ?_
        refine r_cons (s_add ((j : Int) + 1) rfl rfl (wi64 (by omega)) rfl ?_)
        refine r_cons (s_move (.int .i64 ((j : Int) + 1)) rfl rfl ?_)
        refine r_nil ?_
        have H37 : St W w34 (J (pre ++ [(⟨(L4.getD j default).ev, pp29, cc30⟩ : EvD)]) :: blk bk24 (.cells #[.int .i64 ((L4.getD j default).ev.src.v), .int .i64 ((L4.getD j default).ev.seq.v), .int .i64 ((L4.getD j default).ev.time.v), .string ((L4.getD j default).ev.typ.v), .slice ((L4.getD j default).p) ((L4.getD j default).ev.attrs.length) ((L4.getD j default).c)] 33 (0, 0)) :: Attrs (.slice ((L4.getD j default).p) ((L4.getD j default).ev.attrs.length) ((L4.getD j default).c)) ((L4.getD j default).ev.attrs) :: blk g (.cells #[.slice pp2 evs.length cc3] 49 (0, 0)) :: Row 33 5 (.slice pp2 evs.length cc3) evs.length (L4.flatMap evdCell) :: evA L4 :: (F.set i emp)) := hcl23 4 H36 rfl
        have H38 : St W w34 (J (pre ++ [(⟨(L4.getD j default).ev, pp29, cc30⟩ : EvD)]) :: blk g (.cells #[.slice pp2 evs.length cc3] 49 (0, 0)) :: Row 33 5 (.slice pp2 evs.length cc3) evs.length (L4.flatMap evdCell) :: evA L4 :: (F.set i emp)) := ((((((H37.move 5 rfl).move 5 rfl).move 5 rfl).move 3 rfl).drop 4 rfl).drop 4 rfl)
        exact nx13 (j + 1, (pre ++ [(⟨(L4.getD j default).ev, pp29, cc30⟩ : EvD)])) _ _ ⟨(by omega), (ok_step (x := (⟨(L4.getD j default).ev, pp29, cc30⟩ : EvD)) hpj hL7 (by omega) rfl).1, H38⟩ (by first | (dsimp only; omega) | omega) ⟨by first | rfl | exact vint (by omega), by first | rfl | exact vint (by omega), by first | rfl | exact vint (by omega), by first | rfl | exact vint (by omega), trivial⟩
      · skip
        have H39 : St W w34 (Jx (pre ++ [(⟨(L4.getD j default).ev, pp29, cc30⟩ : EvD)]) :: blk bk24 (.cells #[.int .i64 ((L4.getD j default).ev.src.v), .int .i64 ((L4.getD j default).ev.seq.v), .int .i64 ((L4.getD j default).ev.time.v), .string ((L4.getD j default).ev.typ.v), .slice ((L4.getD j default).p) ((L4.getD j default).ev.attrs.length) ((L4.getD j default).c)] 33 (0, 0)) :: Attrs (.slice ((L4.getD j default).p) ((L4.getD j default).ev.attrs.length) ((L4.getD j default).c)) ((L4.getD j default).ev.attrs) :: blk g (.cells #[.slice pp2 evs.length cc3] 49 (0, 0)) :: blk bk16 (.cells cur17 33 (0, 0)) :: evA L4 :: (F.set i emp)) := H35
        refine r_cons (s_not false rfl true rfl rfl ?_)
        refine r_nil ?_
        refine g_true rfl ?_
        refine g_ret' [] Try.func72 Try.results72 trivial ?_
        have H40 : St W w34 (Jx (pre ++ [(⟨(L4.getD j default).ev, pp29, cc30⟩ : EvD)]) :: blk bk24 (.cells #[.int .i64 ((L4.getD j default).ev.src.v), .int .i64 ((L4.getD j default).ev.seq.v), .int .i64 ((L4.getD j default).ev.time.v), .string ((L4.getD j default).ev.typ.v), .slice ((L4.getD j default).p) ((L4.getD j default).ev.attrs.length) ((L4.getD j default).c)] 33 (0, 0)) :: Attrs (.slice ((L4.getD j default).p) ((L4.getD j default).ev.attrs.length) ((L4.getD j default).c)) ((L4.getD j default).ev.attrs) :: blk g (.cells #[.slice pp2 evs.length cc3] 49 (0, 0)) :: Row 33 5 (.slice pp2 evs.length cc3) evs.length (L4.flatMap evdCell) :: evA L4 :: (F.set i emp)) := hcl23 4 H39 rfl
        have H41 : St W w34 (blk g (.cells #[.slice pp2 evs.length cc3] 49 (0, 0)) :: Row 33 5 (.slice pp2 evs.length cc3) evs.length (L4.flatMap evdCell) :: evA L4 :: Jx (pre ++ [(⟨(L4.getD j default).ev, pp29, cc30⟩ : EvD)]) :: blk bk24 (.cells #[.int .i64 ((L4.getD j default).ev.src.v), .int .i64 ((L4.getD j default).ev.seq.v), .int .i64 ((L4.getD j default).ev.time.v), .string ((L4.getD j default).ev.typ.v), .slice ((L4.getD j default).p) ((L4.getD j default).ev.attrs.length) ((L4.getD j default).c)] 33 (0, 0)) :: Attrs (.slice ((L4.getD j default).p) ((L4.getD j default).ev.attrs.length) ((L4.getD j default).c)) ((L4.getD j default).ev.attrs) :: (F.set i emp)) := (((H40.move 5 rfl).move 5 rfl).move 5 rfl)
        have H42 : St W w34 (AllA g evs :: Jx (pre ++ [(⟨(L4.getD j default).ev, pp29, cc30⟩ : EvD)]) :: blk bk24 (.cells #[.int .i64 ((L4.getD j default).ev.src.v), .int .i64 ((L4.getD j default).ev.seq.v), .int .i64 ((L4.getD j default).ev.time.v), .string ((L4.getD j default).ev.typ.v), .slice ((L4.getD j default).p) ((L4.getD j default).ev.attrs.length) ((L4.getD j default).c)] 33 (0, 0)) :: Attrs (.slice ((L4.getD j default).p) ((L4.getD j default).ev.attrs.length) ((L4.getD j default).c)) ((L4.getD j default).ev.attrs) :: (F.set i emp)) := St.shut_ex ((pp2, cc3), L4) (St.shut_star (ls := [pure' (L4.map EvD.ev = evs), blk g (.cells #[.slice pp2 evs.length cc3] 49 (0, 0)), Row 33 5 (.slice pp2 evs.length cc3) evs.length (L4.flatMap evdCell), evA L4]) (St.shut_pure hL7 H41))
        have H43 : St W w34 (AllA g evs :: Jx (pre ++ [(⟨(L4.getD j default).ev, pp29, cc30⟩ : EvD)]) :: (F.set i emp)) := ((((H42.move 1 rfl).move 1 rfl).drop 2 rfl).drop 2 rfl)
        have H44 : St W w34 (AllA g evs :: (Jx (pre ++ [(⟨(L4.getD j default).ev, pp29, cc30⟩ : EvD)]) :: F).set (i + 1) emp) := H43
        exact ⟨_, .inr ⟨(ok_step (x := (⟨(L4.getD j default).ev, pp29, cc30⟩ : EvD)) hpj hL7 (by omega) rfl).2, St.back_same (i := i + 1) (by exact hi) H44⟩⟩
    · skip
      refine r_cons (s_lss false rfl rfl (dfalse hc14) rfl ?_)
      refine r_nil ?_
      refine g_seq ?_
      refine g_false rfl ?_
      refine g_exit (by rfl) ?_
      refine g_end' [] Try.func72 Try.results72 trivial ?_
      have H45 : St W w11 (blk g (.cells #[.slice pp2 evs.length cc3] 49 (0, 0)) :: Row 33 5 (.slice pp2 evs.length cc3) evs.length (L4.flatMap evdCell) :: evA L4 :: J pre :: (F.set i emp)) := (((H12.move 3 rfl).move 3 rfl).move 3 rfl)
      have H46 : St W w11 (AllA g evs :: J pre :: (F.set i emp)) := St.shut_ex ((pp2, cc3), L4) (St.shut_star (ls := [pure' (L4.map EvD.ev = evs), blk g (.cells #[.slice pp2 evs.length cc3] 49 (0, 0)), Row 33 5 (.slice pp2 evs.length cc3) evs.length (L4.flatMap evdCell), evA L4]) (St.shut_pure hL7 H45))
      have H47 : St W w11 (AllA g evs :: J pre :: (F.set i emp)) := ((H46.move 1 rfl).move 1 rfl)
      have H48 : St W w11 (AllA g evs :: (J pre :: F).set (i + 1) emp) := H47
      have hje : j = evs.length := by omega
      exact ⟨_, .inl ⟨by rw [hpj, hje, List.take_length], St.back_same (i := i + 1) (by exact hi) H48⟩⟩
set_option maxHeartbeats 4000000 in
set_option maxRecDepth 100000 in
theorem told_ {W w : World} {F : List Atom} (g : Nat) (evs : List EvM) (Lw : List EvD) (wv : Value) (hne : ∀ e ∈ evs, evE e = 0) (hnl : evs.length ≤ 65536) {i j k : Nat} (hi : F[i]? = some (AllA g evs)) (hj : F[j]? = some (Im 5 wv Lw.length (Lw.flatMap evdCell))) (hk : F[k]? = some (evA Lw)) (H : St W w F) : Calls Try.prog 33 #[.func (.func 72) #[] #[.pointer (some ⟨g, 0, none⟩)], wv] w (Ret fun v w' => v = .bool (toldB evs (Lw.map EvD.ev)) ∧ St W w' F) := by
  obtain ⟨pp1, cc2, rfl, hn3⟩ := Rd.shape (Im.rd H (i := j) hj)
  have H4 := (H.dup hj (Im_pers _ _ _ _)).dup (i := k + 1) (by exact hk) (evA_pers _)
  have hml := Im.len H4 (i := 1) rfl
  refine calls_of_go (n := 28) Try.func33 rfl Try.ntmps33 rfl ?_
  refine g_seq ?_
  refine g_region ?_
  refine r_cons (s_box H4 49 (.slice pp1 Lw.length cc2) rfl (cs := #[.slice pp1 Lw.length cc2]) rfl rfl ?_); intro bk6 w7 H8
  refine r_cons (s_alloc H8 4 ze_4 rfl ?_); intro bk9 w10 H11
  refine r_nil ?_
  refine g_seq ?_
  refine g_region ?_
  refine r_cons (s_alloc H11 3 ze_3 rfl ?_); intro bk12 w13 H14
  refine r_cons (s_store H14 0 (.int .i64 0) rfl rfl rfl sz_3 rfl (Nat.le_of_ble_eq_true rfl) rfl (cs' := #[.int .i64 0]) rfl ?_); intro w15 H16
  refine r_nil ?_
  refine g_seq ?_
  refine g_seq ?_
  refine g_region ?_
  refine r_cons (s_move (.func (.func 72) #[] #[.pointer (some ⟨g, 0, none⟩)]) rfl rfl ?_)
  refine r_nil ?_
  refine g_block ?_
  have H17 : St W w15 (blk bk6 (.cells #[.slice pp1 Lw.length cc2] 49 (0, 0)) :: blk bk9 (.cells #[.bool false] 4 (0, 0)) :: blk bk12 (.cells #[.int .i64 0] 3 (0, 0)) :: Im 5 (.slice pp1 Lw.length cc2) Lw.length (Lw.flatMap evdCell) :: evA Lw :: F) := (((((H16.move 3 rfl).move 4 rfl).move 2 rfl).move 3 rfl).move 4 rfl)
  have H18 : St W w15 (star [pure' (([] : List EvD).map EvD.ev = (Lw.map EvD.ev).take ([] : List EvD).length ∧ ([] : List EvD).length ≤ Lw.length), blk bk6 (.cells #[.slice pp1 Lw.length cc2] 49 (0, 0)), blk bk9 (.cells #[.bool false] 4 (0, 0)), blk bk12 (.cells #[.int .i64 (([] : List EvD).length : Int)] 3 (0, 0)), Im 5 (.slice pp1 Lw.length cc2) Lw.length (Lw.flatMap evdCell), evA Lw] :: F) := St.shut_star (ls := [pure' (([] : List EvD).map EvD.ev = (Lw.map EvD.ev).take ([] : List EvD).length ∧ ([] : List EvD).length ≤ Lw.length), blk bk6 (.cells #[.slice pp1 Lw.length cc2] 49 (0, 0)), blk bk9 (.cells #[.bool false] 4 (0, 0)), blk bk12 (.cells #[.int .i64 0] 3 (0, 0)), Im 5 (.slice pp1 Lw.length cc2) Lw.length (Lw.flatMap evdCell), evA Lw]) (St.shut_pure ⟨by simp, by simp⟩ H17)
  refine g_range1 (W := W) (F := F) 72 [.pointer (some ⟨g, 0, none⟩)] rfl rfl pl_72 (fun x_ : EvD => .agg #[.int .i64 x_.ev.src.v, .int .i64 x_.ev.seq.v, .int .i64 x_.ev.time.v, .string x_.ev.typ.v, .slice x_.p x_.ev.attrs.length x_.c]) rfl (fun x_ : EvD => Attrs (.slice x_.p x_.ev.attrs.length x_.c) x_.ev.attrs) (fun pre_ => star [pure' (pre_.map EvD.ev = (Lw.map EvD.ev).take pre_.length ∧ pre_.length ≤ Lw.length), blk bk6 (.cells #[.slice pp1 Lw.length cc2] 49 (0, 0)), blk bk9 (.cells #[.bool false] 4 (0, 0)), blk bk12 (.cells #[.int .i64 (pre_.length : Int)] 3 (0, 0)), Im 5 (.slice pp1 Lw.length cc2) Lw.length (Lw.flatMap evdCell), evA Lw]) (fun c_ pre_ => star [pure' (c_ = .ret ∧ ¬ pre_.map EvD.ev <+: (Lw.map EvD.ev)), blk bk9 (.cells #[.bool false] 4 (0, 0))]) (fun pre_ x_ => (pre_ ++ [x_]).map EvD.ev <+: evs) (fun L_ => L_.map EvD.ev = evs) (fun L_ => L_.map EvD.ev <+: evs) H18 ?_ ?_ ?_ ?_
  · intro l19 r20 w21 G22 pre23 x24 hr25 hr26 hok27 H28
    try dsimp only at hok27 H28
    have H29 : St W w21 (blk l19 (.loop r20) :: star [pure' (pre23.map EvD.ev = (Lw.map EvD.ev).take pre23.length ∧ pre23.length ≤ Lw.length), blk bk6 (.cells #[.slice pp1 Lw.length cc2] 49 (0, 0)), blk bk9 (.cells #[.bool false] 4 (0, 0)), blk bk12 (.cells #[.int .i64 (pre23.length : Int)] 3 (0, 0)), Im 5 (.slice pp1 Lw.length cc2) Lw.length (Lw.flatMap evdCell), evA Lw] :: Attrs (.slice x24.p x24.ev.attrs.length x24.c) x24.ev.attrs :: G22) := H28
    have H30 := H29.move 1 rfl
    obtain ⟨hpre31, H32⟩ := St.open_pure (St.open_star H30)
    obtain ⟨n33, hn34⟩ : ∃ n : Nat, n = pre23.length := ⟨_, rfl⟩
    have H35 : St W w21 (blk bk6 (.cells #[.slice pp1 Lw.length cc2] 49 (0, 0)) :: blk bk9 (.cells #[.bool false] 4 (0, 0)) :: blk bk12 (.cells #[.int .i64 (n33 : Int)] 3 (0, 0)) :: Im 5 (.slice pp1 Lw.length cc2) Lw.length (Lw.flatMap evdCell) :: evA Lw :: blk l19 (.loop r20) :: Attrs (.slice x24.p x24.ev.attrs.length x24.c) x24.ev.attrs :: G22) := by rw [hn34]; exact H32
    obtain ⟨pA36, cA37, gA38, oA39, kA40, eA41, zA42, he48, hn43, hp44, hx45, hs46, hml, H47⟩ := Im.open_ H35 (i := 3) rfl
    obtain ⟨rfl, rfl⟩ : pp1 = pA36 ∧ cc2 = cA37 := by injection he48 with a_ b_ c_; exact ⟨a_, c_⟩
    have H49 := evA_atD n33 H47 (i := 5) rfl
    have hnn : n33 ≤ Lw.length := hn34 ▸ hpre31.2
    refine g_region ?_
    refine r_cons (s_alloc H49 33 ze_33 rfl ?_); intro bk50 w51 H52
    refine r_cons (s_storeAgg H52 0 #[.int .i64 x24.ev.src.v, .int .i64 x24.ev.seq.v, .int .i64 x24.ev.time.v, .string x24.ev.typ.v, .slice x24.p x24.ev.attrs.length x24.c] 5 rfl rfl rfl sz_33 rfl (by simp [Value.oneCell']) (Nat.le_of_ble_eq_true rfl) (fun o h1 h2 => by first | (simp; done) | (simp; omega)) (cs' := #[.int .i64 x24.ev.src.v, .int .i64 x24.ev.seq.v, .int .i64 x24.ev.time.v, .string x24.ev.typ.v, .slice x24.p x24.ev.attrs.length x24.c]) rfl ?_); intro w53 H54
    refine r_nil ?_
    refine g_beginRound H54 (i := 8) rfl hr25 ?_; intro w55 H56
    have H57 : St W w55 (blk bk50 (.cells #[.int .i64 x24.ev.src.v, .int .i64 x24.ev.seq.v, .int .i64 x24.ev.time.v, .string x24.ev.typ.v, .slice x24.p x24.ev.attrs.length x24.c] 33 (0, 0)) :: Attrs (.slice ((Lw.getD n33 default).p) ((Lw.getD n33 default).ev.attrs.length) ((Lw.getD n33 default).c)) ((Lw.getD n33 default).ev.attrs) :: imi (0 < Lw.length) gA38 (.cells kA40 eA41 zA42) :: blk bk6 (.cells #[.slice pp1 Lw.length cc2] 49 (0, 0)) :: blk bk9 (.cells #[.bool false] 4 (0, 0)) :: blk bk12 (.cells #[.int .i64 (n33 : Int)] 3 (0, 0)) :: Im 5 (.slice pp1 Lw.length cc2) Lw.length (Lw.flatMap evdCell) :: evA Lw :: blk l19 (.loop { r20 with state := .busy }) :: Attrs (.slice x24.p x24.ev.attrs.length x24.c) x24.ev.attrs :: G22) := H56
    refine g_block ?_
    refine g_seq ?_
    refine g_seq ?_
    refine g_quiet (fun w' => St W w' (blk bk50 (.cells #[.int .i64 x24.ev.src.v, .int .i64 x24.ev.seq.v, .int .i64 x24.ev.time.v, .string x24.ev.typ.v, .slice x24.p x24.ev.attrs.length x24.c] 33 (0, 0)) :: Attrs (.slice ((Lw.getD n33 default).p) ((Lw.getD n33 default).ev.attrs.length) ((Lw.getD n33 default).c)) ((Lw.getD n33 default).ev.attrs) :: imi (0 < Lw.length) gA38 (.cells kA40 eA41 zA42) :: blk bk6 (.cells #[.slice pp1 Lw.length cc2] 49 (0, 0)) :: blk bk9 (.cells #[.bool false] 4 (0, 0)) :: blk bk12 (.cells #[.int .i64 (n33 : Int)] 3 (0, 0)) :: Im 5 (.slice pp1 Lw.length cc2) Lw.length (Lw.flatMap evdCell) :: evA Lw :: blk l19 (.loop { r20 with state := .busy }) :: Attrs (.slice x24.p x24.ev.attrs.length x24.c) x24.ev.attrs :: G22)) mixed (by kernel_rfl) H57.drew ?_
    refine q_cons (q_val rfl rfl rfl (by intro w hw; exact x_load (.int .i64 (n33 : Int)) ag_3 rfl (hw.blk_at (i := 5) rfl) rfl) ?_)
    refine q_cons (q_val rfl rfl rfl (by intro w hw; exact x_load (.slice pp1 Lw.length cc2) ag_49 rfl (hw.blk_at (i := 3) rfl) rfl) ?_)
    refine q_cons (q_val rfl rfl rfl (by intro w hw; exact x_len Lw.length rfl ⟨_, un_49⟩ w) ?_)
    by_cases hc58 : (Lw.length : Int) ≤ (n33 : Int)
    · skip
      refine q_cons (q_val rfl rfl rfl (by intro w hw; exact x_geq true rfl rfl (dtrue hc58) w) ?_)
      refine q_cons (q_val rfl rfl rfl (by intro w hw; exact x_move (.bool true) rfl w) ?_)
      refine q_cons (q_pass rfl rfl rfl rfl rfl ?_)
      refine q_cons (q_pass rfl rfl rfl rfl rfl ?_)
      refine q_cons (q_pass rfl rfl rfl rfl rfl ?_)
      refine q_cons (q_pass rfl rfl rfl rfl rfl ?_)
      refine q_cons (q_pass rfl rfl rfl rfl rfl ?_)
      refine q_cons (q_pass rfl rfl rfl rfl rfl ?_)
      refine q_cons (q_pass rfl rfl rfl rfl rfl ?_)
      refine q_cons (q_val rfl rfl rfl (by intro w hw; exact x_pick_t (.bool true) rfl rfl w) ?_)
      refine q_nil ?_
      intro w59 H60
      refine g_true rfl ?_
      refine g_seq ?_
      refine g_region ?_
      refine r_cons (s_store H60 4 (.bool false) rfl rfl rfl sz_4 rfl (Nat.le_of_ble_eq_true rfl) rfl (cs' := #[.bool false]) rfl ?_); intro w61 H62
      refine r_nil ?_
      have H63 : St W w61 (blk bk9 (.cells #[.bool false] 4 (0, 0)) :: blk bk50 (.cells #[.int .i64 x24.ev.src.v, .int .i64 x24.ev.seq.v, .int .i64 x24.ev.time.v, .string x24.ev.typ.v, .slice x24.p x24.ev.attrs.length x24.c] 33 (0, 0)) :: Attrs (.slice ((Lw.getD n33 default).p) ((Lw.getD n33 default).ev.attrs.length) ((Lw.getD n33 default).c)) ((Lw.getD n33 default).ev.attrs) :: imi (0 < Lw.length) gA38 (.cells kA40 eA41 zA42) :: blk bk6 (.cells #[.slice pp1 Lw.length cc2] 49 (0, 0)) :: blk bk12 (.cells #[.int .i64 (n33 : Int)] 3 (0, 0)) :: Im 5 (.slice pp1 Lw.length cc2) Lw.length (Lw.flatMap evdCell) :: evA Lw :: blk l19 (.loop { r20 with state := .busy }) :: Attrs (.slice x24.p x24.ev.attrs.length x24.c) x24.ev.attrs :: G22) := (H62.move 4 rfl)
      have H64 : St W w61 (star [pure' ((.ret : Code) = .ret ∧ ¬ (pre23 ++ [x24]).map EvD.ev <+: (Lw.map EvD.ev)), blk bk9 (.cells #[.bool false] 4 (0, 0))] :: blk bk50 (.cells #[.int .i64 x24.ev.src.v, .int .i64 x24.ev.seq.v, .int .i64 x24.ev.time.v, .string x24.ev.typ.v, .slice x24.p x24.ev.attrs.length x24.c] 33 (0, 0)) :: Attrs (.slice ((Lw.getD n33 default).p) ((Lw.getD n33 default).ev.attrs.length) ((Lw.getD n33 default).c)) ((Lw.getD n33 default).ev.attrs) :: imi (0 < Lw.length) gA38 (.cells kA40 eA41 zA42) :: blk bk6 (.cells #[.slice pp1 Lw.length cc2] 49 (0, 0)) :: blk bk12 (.cells #[.int .i64 (n33 : Int)] 3 (0, 0)) :: Im 5 (.slice pp1 Lw.length cc2) Lw.length (Lw.flatMap evdCell) :: evA Lw :: blk l19 (.loop { r20 with state := .busy }) :: Attrs (.slice x24.p x24.ev.attrs.length x24.c) x24.ev.attrs :: G22) := St.shut_star (ls := [pure' ((.ret : Code) = .ret ∧ ¬ (pre23 ++ [x24]).map EvD.ev <+: (Lw.map EvD.ev)), blk bk9 (.cells #[.bool false] 4 (0, 0))]) (St.shut_pure ⟨rfl, told_no1 hn34 (by omega)⟩ H63)
      have H65 : St W w61 (blk l19 (.loop { r20 with state := .busy }) :: star [pure' ((.ret : Code) = .ret ∧ ¬ (pre23 ++ [x24]).map EvD.ev <+: (Lw.map EvD.ev)), blk bk9 (.cells #[.bool false] 4 (0, 0))] :: G22) := (((((((((H64.move 8 rfl).drop 2 rfl).drop 2 rfl).drop 2 rfl).drop 2 rfl).drop 2 rfl).drop 2 rfl).drop 2 rfl).drop 2 rfl)
      refine g_round_ret H65 (i := 0) rfl ?_; intro w66 H67
      exact .inr ⟨rfl, _, H67⟩
    · skip
      refine q_cons (q_val rfl rfl rfl (by intro w hw; exact x_geq false rfl rfl (dfalse hc58) w) ?_)
      refine q_cons (q_val rfl rfl rfl (by intro w hw; exact x_move (.bool false) rfl w) ?_)
      refine q_cons (q_take rfl rfl ?_)
      refine q_val rfl rfl rfl (by intro w hw; exact x_loadAgg [.int .i64 x24.ev.src.v, .int .i64 x24.ev.seq.v, .int .i64 x24.ev.time.v, .string x24.ev.typ.v, .slice x24.p x24.ev.attrs.length x24.c] 5 ag_33 rfl (hw.blk_at (i := 0) rfl) (Nat.le_of_ble_eq_true rfl) rfl) ?_
      refine q_cons (q_take rfl rfl ?_)
      refine q_val rfl rfl rfl (by intro w hw; exact x_load (.slice pp1 Lw.length cc2) ag_49 rfl (hw.blk_at (i := 3) rfl) rfl) ?_
      refine q_cons (q_take rfl rfl ?_)
      refine q_val rfl rfl rfl (by intro w hw; exact x_load (.int .i64 (n33 : Int)) ag_3 rfl (hw.blk_at (i := 5) rfl) rfl) ?_
      refine q_cons (q_take rfl rfl ?_)
      refine q_val rfl rfl rfl (by intro w hw; exact x_indexAddr gA38 (off := oA39) (n33 : Int) 5 (oA39 + n33 * 5) (by exact congrArg (fun z_ => Value.slice z_ Lw.length cc2) (hp44 (by omega))) rfl el_49 (by omega) rfl w) ?_
      refine q_cons (q_take rfl rfl ?_)
      refine q_val rfl rfl rfl (by intro w hw; exact x_loadAgg [.int .i64 ((Lw.getD n33 default).ev.src.v), .int .i64 ((Lw.getD n33 default).ev.seq.v), .int .i64 ((Lw.getD n33 default).ev.time.v), .string ((Lw.getD n33 default).ev.typ.v), .slice ((Lw.getD n33 default).p) ((Lw.getD n33 default).ev.attrs.length) ((Lw.getD n33 default).c)] 5 ag_33 rfl (hw.imi_at (i := 2) rfl (by omega)) (by have := elem_size (i := n33) (s := 5) (hs46 (by omega)) (by omega); omega) (elem_take evdCell_len (hx45 (by omega)) (by omega) default)) ?_
      refine q_cons (q_take rfl rfl ?_)
      refine q_enter (args := #[.agg #[.int .i64 x24.ev.src.v, .int .i64 x24.ev.seq.v, .int .i64 x24.ev.time.v, .string x24.ev.typ.v, .slice x24.p x24.ev.attrs.length x24.c], .agg #[.int .i64 ((Lw.getD n33 default).ev.src.v), .int .i64 ((Lw.getD n33 default).ev.seq.v), .int .i64 ((Lw.getD n33 default).ev.time.v), .string ((Lw.getD n33 default).ev.typ.v), .slice ((Lw.getD n33 default).p) ((Lw.getD n33 default).ev.attrs.length) ((Lw.getD n33 default).c)]]) (v := .bool (sameEv x24.ev ((Lw.getD n33 default).ev))) rfl rfl rfl (x_call pl_20 [.agg #[.int .i64 x24.ev.src.v, .int .i64 x24.ev.seq.v, .int .i64 x24.ev.time.v, .string x24.ev.typ.v, .slice x24.p x24.ev.attrs.length x24.c], .agg #[.int .i64 ((Lw.getD n33 default).ev.src.v), .int .i64 ((Lw.getD n33 default).ev.seq.v), .int .i64 ((Lw.getD n33 default).ev.time.v), .string ((Lw.getD n33 default).ev.typ.v), .slice ((Lw.getD n33 default).p) ((Lw.getD n33 default).ev.attrs.length) ((Lw.getD n33 default).c)]] rfl) (fun w hw => ref04_Same x24.ev ((Lw.getD n33 default).ev) (.slice x24.p x24.ev.attrs.length x24.c) (.slice ((Lw.getD n33 default).p) ((Lw.getD n33 default).ev.attrs.length) ((Lw.getD n33 default).c)) (j := 9) (k := 1) rfl rfl hw) ?_
      refine q_cons (q_take rfl rfl ?_)
      refine q_val rfl rfl rfl (by intro w hw; exact x_not (sameEv x24.ev ((Lw.getD n33 default).ev)) rfl (!(sameEv x24.ev ((Lw.getD n33 default).ev))) rfl w) ?_
      refine q_cons (q_val rfl rfl rfl (by intro w hw; exact x_pick_f (.bool (!(sameEv x24.ev ((Lw.getD n33 default).ev)))) rfl rfl w) ?_)
      refine q_nil ?_
      intro w68 H69
      by_cases hb70 : (!(sameEv x24.ev ((Lw.getD n33 default).ev))) = true
      · skip
        refine g_true (congrArg Value.bool hb70) ?_
        refine g_seq ?_
        refine g_region ?_
        refine r_cons (s_store H69 4 (.bool false) rfl rfl rfl sz_4 rfl (Nat.le_of_ble_eq_true rfl) rfl (cs' := #[.bool false]) rfl ?_); intro w71 H72
        refine r_nil ?_
        have H73 : St W w71 (blk bk9 (.cells #[.bool false] 4 (0, 0)) :: blk bk50 (.cells #[.int .i64 x24.ev.src.v, .int .i64 x24.ev.seq.v, .int .i64 x24.ev.time.v, .string x24.ev.typ.v, .slice x24.p x24.ev.attrs.length x24.c] 33 (0, 0)) :: Attrs (.slice ((Lw.getD n33 default).p) ((Lw.getD n33 default).ev.attrs.length) ((Lw.getD n33 default).c)) ((Lw.getD n33 default).ev.attrs) :: imi (0 < Lw.length) gA38 (.cells kA40 eA41 zA42) :: blk bk6 (.cells #[.slice pp1 Lw.length cc2] 49 (0, 0)) :: blk bk12 (.cells #[.int .i64 (n33 : Int)] 3 (0, 0)) :: Im 5 (.slice pp1 Lw.length cc2) Lw.length (Lw.flatMap evdCell) :: evA Lw :: blk l19 (.loop { r20 with state := .busy }) :: Attrs (.slice x24.p x24.ev.attrs.length x24.c) x24.ev.attrs :: G22) := (H72.move 4 rfl)
        have H74 : St W w71 (star [pure' ((.ret : Code) = .ret ∧ ¬ (pre23 ++ [x24]).map EvD.ev <+: (Lw.map EvD.ev)), blk bk9 (.cells #[.bool false] 4 (0, 0))] :: blk bk50 (.cells #[.int .i64 x24.ev.src.v, .int .i64 x24.ev.seq.v, .int .i64 x24.ev.time.v, .string x24.ev.typ.v, .slice x24.p x24.ev.attrs.length x24.c] 33 (0, 0)) :: Attrs (.slice ((Lw.getD n33 default).p) ((Lw.getD n33 default).ev.attrs.length) ((Lw.getD n33 default).c)) ((Lw.getD n33 default).ev.attrs) :: imi (0 < Lw.length) gA38 (.cells kA40 eA41 zA42) :: blk bk6 (.cells #[.slice pp1 Lw.length cc2] 49 (0, 0)) :: blk bk12 (.cells #[.int .i64 (n33 : Int)] 3 (0, 0)) :: Im 5 (.slice pp1 Lw.length cc2) Lw.length (Lw.flatMap evdCell) :: evA Lw :: blk l19 (.loop { r20 with state := .busy }) :: Attrs (.slice x24.p x24.ev.attrs.length x24.c) x24.ev.attrs :: G22) := St.shut_star (ls := [pure' ((.ret : Code) = .ret ∧ ¬ (pre23 ++ [x24]).map EvD.ev <+: (Lw.map EvD.ev)), blk bk9 (.cells #[.bool false] 4 (0, 0))]) (St.shut_pure ⟨rfl, told_no2 hn34 (show sameEv x24.ev (Lw.getD n33 default).ev = false by simpa using hb70)⟩ H73)
        have H75 : St W w71 (blk l19 (.loop { r20 with state := .busy }) :: star [pure' ((.ret : Code) = .ret ∧ ¬ (pre23 ++ [x24]).map EvD.ev <+: (Lw.map EvD.ev)), blk bk9 (.cells #[.bool false] 4 (0, 0))] :: G22) := (((((((((H74.move 8 rfl).drop 2 rfl).drop 2 rfl).drop 2 rfl).drop 2 rfl).drop 2 rfl).drop 2 rfl).drop 2 rfl).drop 2 rfl)
        refine g_round_ret H75 (i := 0) rfl ?_; intro w76 H77
        exact .inr ⟨rfl, _, H77⟩
      · have hb70 := eq_false_of_ne_true hb70
        refine g_false (congrArg Value.bool hb70) ?_
        refine g_skip ?_
        refine g_region ?_
        refine r_cons (s_load (.int .i64 (n33 : Int)) ag_3 rfl (H69.blk_at (i := 5) rfl) rfl rfl ?_)
        refine r_cons (s_add ((n33 : Int) + 1) rfl rfl (wi64 (by omega)) rfl ?_)
        refine r_cons (s_store H69 5 (.int .i64 ((n33 : Int) + 1)) rfl rfl rfl sz_3 rfl (Nat.le_of_ble_eq_true rfl) rfl (cs' := #[.int .i64 ((n33 : Int) + 1)]) rfl ?_); intro w78 H79
        refine r_nil ?_
        refine g_inBlock ?_
        have H80 : St W w78 (blk bk6 (.cells #[.slice pp1 Lw.length cc2] 49 (0, 0)) :: blk bk9 (.cells #[.bool false] 4 (0, 0)) :: blk bk12 (.cells #[.int .i64 ((n33 : Int) + 1)] 3 (0, 0)) :: Im 5 (.slice pp1 Lw.length cc2) Lw.length (Lw.flatMap evdCell) :: evA Lw :: blk bk50 (.cells #[.int .i64 x24.ev.src.v, .int .i64 x24.ev.seq.v, .int .i64 x24.ev.time.v, .string x24.ev.typ.v, .slice x24.p x24.ev.attrs.length x24.c] 33 (0, 0)) :: Attrs (.slice ((Lw.getD n33 default).p) ((Lw.getD n33 default).ev.attrs.length) ((Lw.getD n33 default).c)) ((Lw.getD n33 default).ev.attrs) :: imi (0 < Lw.length) gA38 (.cells kA40 eA41 zA42) :: blk l19 (.loop { r20 with state := .busy }) :: Attrs (.slice x24.p x24.ev.attrs.length x24.c) x24.ev.attrs :: G22) := (((((H79.move 7 rfl).move 7 rfl).move 7 rfl).move 7 rfl).move 7 rfl)
        have hst := told_step hpre31.1 hn34 (by omega) (show sameEv x24.ev (Lw.getD n33 default).ev = true by simpa using hb70)
        have H81 : St W w78 (blk bk6 (.cells #[.slice pp1 Lw.length cc2] 49 (0, 0)) :: blk bk9 (.cells #[.bool false] 4 (0, 0)) :: blk bk12 (.cells #[.int .i64 ((pre23 ++ [x24]).length : Int)] 3 (0, 0)) :: Im 5 (.slice pp1 Lw.length cc2) Lw.length (Lw.flatMap evdCell) :: evA Lw :: blk bk50 (.cells #[.int .i64 x24.ev.src.v, .int .i64 x24.ev.seq.v, .int .i64 x24.ev.time.v, .string x24.ev.typ.v, .slice x24.p x24.ev.attrs.length x24.c] 33 (0, 0)) :: Attrs (.slice ((Lw.getD n33 default).p) ((Lw.getD n33 default).ev.attrs.length) ((Lw.getD n33 default).c)) ((Lw.getD n33 default).ev.attrs) :: imi (0 < Lw.length) gA38 (.cells kA40 eA41 zA42) :: blk l19 (.loop { r20 with state := .busy }) :: Attrs (.slice x24.p x24.ev.attrs.length x24.c) x24.ev.attrs :: G22) := by rw [len_snoc, ← hn34]; exact H80
        have H82 : St W w78 (star [pure' ((pre23 ++ [x24]).map EvD.ev = (Lw.map EvD.ev).take (pre23 ++ [x24]).length ∧ (pre23 ++ [x24]).length ≤ Lw.length), blk bk6 (.cells #[.slice pp1 Lw.length cc2] 49 (0, 0)), blk bk9 (.cells #[.bool false] 4 (0, 0)), blk bk12 (.cells #[.int .i64 ((pre23 ++ [x24]).length : Int)] 3 (0, 0)), Im 5 (.slice pp1 Lw.length cc2) Lw.length (Lw.flatMap evdCell), evA Lw] :: blk bk50 (.cells #[.int .i64 x24.ev.src.v, .int .i64 x24.ev.seq.v, .int .i64 x24.ev.time.v, .string x24.ev.typ.v, .slice x24.p x24.ev.attrs.length x24.c] 33 (0, 0)) :: Attrs (.slice ((Lw.getD n33 default).p) ((Lw.getD n33 default).ev.attrs.length) ((Lw.getD n33 default).c)) ((Lw.getD n33 default).ev.attrs) :: imi (0 < Lw.length) gA38 (.cells kA40 eA41 zA42) :: blk l19 (.loop { r20 with state := .busy }) :: Attrs (.slice x24.p x24.ev.attrs.length x24.c) x24.ev.attrs :: G22) := St.shut_star (ls := [pure' ((pre23 ++ [x24]).map EvD.ev = (Lw.map EvD.ev).take (pre23 ++ [x24]).length ∧ (pre23 ++ [x24]).length ≤ Lw.length), blk bk6 (.cells #[.slice pp1 Lw.length cc2] 49 (0, 0)), blk bk9 (.cells #[.bool false] 4 (0, 0)), blk bk12 (.cells #[.int .i64 ((pre23 ++ [x24]).length : Int)] 3 (0, 0)), Im 5 (.slice pp1 Lw.length cc2) Lw.length (Lw.flatMap evdCell), evA Lw]) (St.shut_pure hst H81)
        have H83 : St W w78 (blk l19 (.loop { r20 with state := .busy }) :: star [pure' ((pre23 ++ [x24]).map EvD.ev = (Lw.map EvD.ev).take (pre23 ++ [x24]).length ∧ (pre23 ++ [x24]).length ≤ Lw.length), blk bk6 (.cells #[.slice pp1 Lw.length cc2] 49 (0, 0)), blk bk9 (.cells #[.bool false] 4 (0, 0)), blk bk12 (.cells #[.int .i64 ((pre23 ++ [x24]).length : Int)] 3 (0, 0)), Im 5 (.slice pp1 Lw.length cc2) Lw.length (Lw.flatMap evdCell), evA Lw] :: G22) := (((((H82.move 4 rfl).drop 2 rfl).drop 2 rfl).drop 2 rfl).drop 2 rfl)
        refine g_round_end hr25 hr26 H83 (i := 0) rfl ?_; intro w84 H85
        exact .inl ⟨rfl, H85⟩
  · intro l J Jx B w H hY; exact Streams_All1 g l evs J Jx hne hnl (i := i + 1) (by exact hi) hY H
  · intro D86 L87 w88 hS89 H90
    have H92 : St W w88 (star [pure' (L87.map EvD.ev = (Lw.map EvD.ev).take L87.length ∧ L87.length ≤ Lw.length), blk bk6 (.cells #[.slice pp1 Lw.length cc2] 49 (0, 0)), blk bk9 (.cells #[.bool false] 4 (0, 0)), blk bk12 (.cells #[.int .i64 (L87.length : Int)] 3 (0, 0)), Im 5 (.slice pp1 Lw.length cc2) Lw.length (Lw.flatMap evdCell), evA Lw] :: blk D86 (.deferred (some [])) :: F) := H90
    obtain ⟨hpre93, H94⟩ := St.open_pure (St.open_star H92)
    obtain ⟨n95, hn96⟩ : ∃ n : Nat, n = L87.length := ⟨_, rfl⟩
    have H97 : St W w88 (blk bk6 (.cells #[.slice pp1 Lw.length cc2] 49 (0, 0)) :: blk bk9 (.cells #[.bool false] 4 (0, 0)) :: blk bk12 (.cells #[.int .i64 (n95 : Int)] 3 (0, 0)) :: Im 5 (.slice pp1 Lw.length cc2) Lw.length (Lw.flatMap evdCell) :: evA Lw :: blk D86 (.deferred (some [])) :: F) := by rw [hn96]; exact H94
    refine g_inBlock ?_
    refine g_seq ?_
    refine g_region ?_
    refine r_cons (s_load (.int .i64 (n95 : Int)) ag_3 rfl (H97.blk_at (i := 2) rfl) rfl rfl ?_)
    refine r_cons (s_load (.slice pp1 Lw.length cc2) ag_49 rfl (H97.blk_at (i := 0) rfl) rfl rfl ?_)
    refine r_cons (s_len Lw.length rfl ⟨_, un_49⟩ rfl ?_)
    refine r_cons (s_eql (decide ((n95 : Int) = (Lw.length : Int))) rfl rfl rfl rfl ?_)
    refine r_cons (s_store H97 1 (.bool (decide ((n95 : Int) = (Lw.length : Int)))) rfl rfl rfl sz_4 rfl (Nat.le_of_ble_eq_true rfl) rfl (cs' := #[.bool (decide ((n95 : Int) = (Lw.length : Int)))]) rfl ?_); intro w98 H99
    refine r_nil ?_
    obtain ⟨hd100, H101⟩ := H99.collect (i := 5) rfl
    refine g_retD _ [.bool (decide ((n95 : Int) = (Lw.length : Int)))] Try.func33 Try.results33 rfl ⟨hd100, trivial⟩ ⟨(res_cell1 rfl ag_4 (H101.blk_at (i := 1) rfl) rfl), trivial⟩ ?_
    have H102 : St W (w98.putObj D86 (.deferred none)) F := (((((H101.drop 0 rfl).drop 0 rfl).drop 0 rfl).drop 0 rfl).drop 0 rfl)
    exact ⟨congrArg Value.bool (told_end hS89 hpre93.1 hpre93.2 hn96), H102⟩
  · intro D103 c108 L104 w105 hS106 H107
    have H109 : St W w105 (star [pure' (c108 = .ret ∧ ¬ L104.map EvD.ev <+: (Lw.map EvD.ev)), blk bk9 (.cells #[.bool false] 4 (0, 0))] :: blk D103 (.deferred (some [])) :: F) := H107
    obtain ⟨⟨hc110, hno111⟩, H112⟩ := St.open_pure (St.open_star H109)
    subst hc110
    have H113 : St W w105 (blk bk9 (.cells #[.bool false] 4 (0, 0)) :: blk D103 (.deferred (some [])) :: F) := H112
    obtain ⟨hd114, H115⟩ := H113.collect (i := 1) rfl
    refine g_retD _ [.bool false] Try.func33 Try.results33 rfl ⟨hd114, trivial⟩ ⟨(res_cell1 rfl ag_4 (H115.blk_at (i := 0) rfl) rfl), trivial⟩ ?_
    have H116 : St W (w105.putObj D103 (.deferred none)) F := (H115.drop 0 rfl)
    exact ⟨congrArg Value.bool ((told_stop hS106 hno111).symm), H116⟩
theorem Streams_of {W w : World} {F : List Atom} {o : Nat} {many : Int} {st : List S3} {p : Option Addr} {c : Nat} {L : List EvD} (h16 : st.length = 16) (h1 : 1 ≤ many) (h2 : many ≤ 16) (H : St W w (blk o (.cells (stCells many st (.slice p L.length c)) 96 (0, 0)) :: Row 33 5 (.slice p L.length c) L.length (L.flatMap evdCell) :: evA L :: F)) : St W w (Streams o many st (L.map EvD.ev) :: F) := by
  have H2 := evIms_of H (i := 2) rfl
  refine St.shut_ex (.slice p L.length c, L.map EvD.av) (St.shut_star (ls := [pure' (st.length = 16 ∧ 1 ≤ many ∧ many ≤ 16 ∧ (L.map EvD.av).length = (L.map EvD.ev).length), blk o (.cells (stCells many st (.slice p L.length c)) 96 (0, 0)), Row 33 5 (.slice p L.length c) (L.map EvD.ev).length (evRow (L.map EvD.ev) (L.map EvD.av)), star (evIms (L.map EvD.ev) (L.map EvD.av))]) (St.shut_pure ⟨h16, h1, h2, by simp⟩ ?_))
  rw [evRow_of, List.length_map]
  exact H2
set_option maxHeartbeats 4000000 in
set_option maxRecDepth 100000 in
theorem Streams_Clone {W w : World} {F : List Atom} (b : Nat) (many : Int) (st : List S3) (evs : List EvM) (hne : ∀ e ∈ evs, evE e = 0) (hnl : evs.length ≤ 65536) {i : Nat} (hi : F[i]? = some (Streams b many st evs)) (H : St W w F) : Calls Try.prog 27 #[.pointer (some ⟨b, 0, none⟩)] w (Ret fun v w' => ∃ o, v = .pointer (some ⟨o, 0, none⟩) ∧ St W w' (Streams o many st evs :: F)) := by
  have H0 := H.front hi
  refine calls_of_go (n := 20) Try.func27 rfl Try.ntmps27 rfl ?_
  refine g_seq ?_
  refine g_region ?_
  refine r_cons (s_assign (.pointer none) rfl rfl ?_)
  refine r_nil ?_
  refine g_seq ?_
  refine g_seq ?_
  refine g_region ?_
  refine r_cons (s_move (.pointer (some ⟨b, 0, none⟩)) rfl rfl ?_)
  refine r_cons (s_call [.pointer (some ⟨b, 0, none⟩)] pl_58 rfl rfl (Streams_none b many st evs  (i := 0) rfl H0) ?_)
  rintro _ w1 ⟨rfl, H2⟩
  refine r_nil ?_
  refine g_false rfl ?_
  refine g_skip ?_
  refine g_seq ?_
  refine g_region ?_
  refine r_cons (s_move (.pointer (some ⟨b, 0, none⟩)) rfl rfl ?_)
  refine r_cons (s_nilCheck (.pointer (some ⟨b, 0, none⟩)) rfl ⟨_, rfl⟩ rfl ?_)
  have H3 := H2.move 0 rfl
  obtain ⟨⟨vv4, avs5⟩, H10⟩ := St.open_ex H3
  obtain ⟨⟨h6, hm7, hm8, hav9⟩, H11⟩ := St.open_pure (St.open_star H10)
  dsimp only at hav9 H11
  obtain ⟨pp13, cc14, rfl⟩ := Row.slice (i := 1) H11 rfl
  have H15 : St W w1 (blk b (.cells (stCells many st (.slice pp13 evs.length cc14)) 96 (0, 0)) :: Row 33 5 (.slice pp13 evs.length cc14) evs.length (evRow evs avs5) :: star (evIms evs avs5) :: (F.set i emp)) := H11
  refine r_cons (s_loadAgg ((stCells many st (.slice pp13 evs.length cc14)).toList) 50 ag_96 rfl (H15.blk_at (i := 0) rfl) (by rw [st_size, h6]; decide) (by rw [List.drop_zero, List.take_of_length_le (by rw [Array.length_toList, st_size, h6]; decide)]) rfl ?_)
  refine r_cons (s_alloc H15 96 ze_96 rfl ?_); intro bk16 w17 H18
  refine r_cons (s_storeAgg H18 0 ((stCells many st (.slice pp13 evs.length cc14)).toList.toArray) 50 rfl rfl rfl sz_96 (by rw [List.size_toArray, Array.length_toList, st_size, h6]) st_one (by decide) (fun o h1 h2 => by simp) (cs' := stCells many st (.slice pp13 evs.length cc14)) (by rw [writes_whole (by rw [Array.length_toList, st_size, h6]; rfl)]) ?_); intro w19 H20
  refine r_nil ?_
  refine g_seq ?_
  refine g_region ?_
  refine r_cons (s_fieldAddr 96 2 49 49 49 rfl fi_96_2 rfl rfl ?_)
  refine r_cons (s_store H20 0 (.slice none 0 0) rfl rfl rfl sz_49 rfl (by rw [st_size, h6]; decide) rfl (st_setAll h6 _ _ _) ?_); intro w21 H22
  refine r_nil ?_
  refine g_seq ?_
  refine g_seq ?_
  refine g_region ?_
  refine r_cons (s_move (.pointer (some ⟨b, 0, none⟩)) rfl rfl ?_)
  have H23 : St W w21 (blk b (.cells (stCells many st (.slice pp13 evs.length cc14)) 96 (0, 0)) :: Row 33 5 (.slice pp13 evs.length cc14) evs.length (evRow evs avs5) :: star (evIms evs avs5) :: blk bk16 (.cells (stCells many st (.slice none 0 0)) 96 (0, 0)) :: (F.set i emp)) := (((H22.move 3 rfl).move 3 rfl).move 3 rfl)
  have H24 : St W w21 (Streams b many st evs :: blk bk16 (.cells (stCells many st (.slice none 0 0)) 96 (0, 0)) :: (F.set i emp)) := St.shut_ex (.slice pp13 evs.length cc14, avs5) (St.shut_star (ls := [pure' (st.length = 16 ∧ 1 ≤ many ∧ many ≤ 16 ∧ (avs5).length = (evs).length), blk b (.cells (stCells many st (.slice pp13 evs.length cc14)) 96 (0, 0)), Row 33 5 (.slice pp13 evs.length cc14) evs.length (evRow evs avs5), star (evIms evs avs5)]) (St.shut_pure ⟨h6, hm7, hm8, hav9⟩ H23))
  refine r_cons (s_call [.pointer (some ⟨b, 0, none⟩)] pl_34 rfl rfl (Streams_All b many st evs hne hnl (i := 0) rfl H24) ?_)
  rintro _ w26 ⟨bk25, rfl, H27⟩
  refine r_nil ?_
  refine g_block ?_
  have H28 : St W w26 (blk bk16 (.cells (stCells many st (.slice none 0 0)) 96 (0, 0)) :: AllA bk25 evs :: Streams b many st evs :: (F.set i emp)) := (H27.move 2 rfl)
  have H29 := Row.nil_intro H28 33 5
  have H30 := evA_nil H29
  have H31 : St W w26 (blk bk16 (.cells (stCells many st (.slice none 0 0)) 96 (0, 0)) :: Row 33 5 (.slice none 0 0) 0 [] :: evA ([] : List EvD) :: AllA bk25 evs :: Streams b many st evs :: (F.set i emp)) := ((H30.move 1 rfl).move 2 rfl)
  have H32 : St W w26 ((ex fun q : Option Addr × Nat => star [blk bk16 (.cells (stCells many st (.slice q.1 ([] : List EvD).length q.2)) 96 (0, 0)), Row 33 5 (.slice q.1 ([] : List EvD).length q.2) ([] : List EvD).length (([] : List EvD).flatMap evdCell), evA ([] : List EvD)]) :: AllA bk25 evs :: Streams b many st evs :: (F.set i emp)) := St.shut_ex (none, 0) (St.shut_star (ls := [blk bk16 (.cells (stCells many st (.slice none 0 0)) 96 (0, 0)), Row 33 5 (.slice none 0 0) 0 [], evA ([] : List EvD)]) H31)
  refine g_range1 (W := W) (F := AllA bk25 evs :: Streams b many st evs :: (F.set i emp)) 72 [.pointer (some ⟨bk25, 0, none⟩)] rfl rfl pl_72 (fun x_ : EvD => .agg #[.int .i64 x_.ev.src.v, .int .i64 x_.ev.seq.v, .int .i64 x_.ev.time.v, .string x_.ev.typ.v, .slice x_.p x_.ev.attrs.length x_.c]) rfl (fun x_ : EvD => Attrs (.slice x_.p x_.ev.attrs.length x_.c) x_.ev.attrs) (fun pre_ => (ex fun q : Option Addr × Nat => star [blk bk16 (.cells (stCells many st (.slice q.1 pre_.length q.2)) 96 (0, 0)), Row 33 5 (.slice q.1 pre_.length q.2) pre_.length (pre_.flatMap evdCell), evA pre_])) (fun c_ pre_ => pure' False) (fun pre_ x_ => (pre_ ++ [x_]).map EvD.ev <+: evs) (fun L_ => L_.map EvD.ev = evs) (fun L_ => L_.map EvD.ev <+: evs) H32 ?_ ?_ ?_ ?_
  · intro l33 r34 w35 G36 pre37 x38 hr39 hr40 hok41 H42
    try dsimp only at hok41 H42
    have H43 : St W w35 (blk l33 (.loop r34) :: (ex fun q : Option Addr × Nat => star [blk bk16 (.cells (stCells many st (.slice q.1 pre37.length q.2)) 96 (0, 0)), Row 33 5 (.slice q.1 pre37.length q.2) pre37.length (pre37.flatMap evdCell), evA pre37]) :: Attrs (.slice x38.p x38.ev.attrs.length x38.c) x38.ev.attrs :: G36) := H42
    have H44 := H43.move 1 rfl
    obtain ⟨⟨pp45, cc46⟩, H47⟩ := St.open_ex H44
    have H48 := St.open_star H47
    have H49 : St W w35 (blk bk16 (.cells (stCells many st (.slice pp45 pre37.length cc46)) 96 (0, 0)) :: Row 33 5 (.slice pp45 pre37.length cc46) pre37.length (pre37.flatMap evdCell) :: evA pre37 :: blk l33 (.loop r34) :: Attrs (.slice x38.p x38.ev.attrs.length x38.c) x38.ev.attrs :: G36) := H48
    have hpl := (pre_snoc hok41).2.1
    refine g_region ?_
    refine r_cons (s_alloc H49 33 ze_33 rfl ?_); intro bk50 w51 H52
    refine r_cons (s_storeAgg H52 0 #[.int .i64 x38.ev.src.v, .int .i64 x38.ev.seq.v, .int .i64 x38.ev.time.v, .string x38.ev.typ.v, .slice x38.p x38.ev.attrs.length x38.c] 5 rfl rfl rfl sz_33 rfl (by simp [Value.oneCell']) (Nat.le_of_ble_eq_true rfl) (fun o h1 h2 => by first | (simp; done) | (simp; omega)) (cs' := #[.int .i64 x38.ev.src.v, .int .i64 x38.ev.seq.v, .int .i64 x38.ev.time.v, .string x38.ev.typ.v, .slice x38.p x38.ev.attrs.length x38.c]) rfl ?_); intro w53 H54
    refine r_nil ?_
    refine g_beginRound H54 (i := 4) rfl hr39 ?_; intro w55 H56
    have H57 : St W w55 (blk bk50 (.cells #[.int .i64 x38.ev.src.v, .int .i64 x38.ev.seq.v, .int .i64 x38.ev.time.v, .string x38.ev.typ.v, .slice x38.p x38.ev.attrs.length x38.c] 33 (0, 0)) :: blk bk16 (.cells (stCells many st (.slice pp45 pre37.length cc46)) 96 (0, 0)) :: Row 33 5 (.slice pp45 pre37.length cc46) pre37.length (pre37.flatMap evdCell) :: evA pre37 :: blk l33 (.loop { r34 with state := .busy }) :: Attrs (.slice x38.p x38.ev.attrs.length x38.c) x38.ev.attrs :: G36) := H56
    refine g_block ?_
    refine g_region ?_
    refine r_cons (s_fieldAddr 96 2 49 49 49 rfl fi_96_2 rfl rfl ?_)
    refine r_cons (s_load (.slice pp45 pre37.length cc46) ag_49 rfl (H57.blk_at (i := 1) rfl) (st_all h6 _ _) rfl ?_)
    refine r_cons (s_loadAgg [.int .i64 x38.ev.src.v, .int .i64 x38.ev.seq.v, .int .i64 x38.ev.time.v, .string x38.ev.typ.v, .slice x38.p x38.ev.attrs.length x38.c] 5 ag_33 rfl (H57.blk_at (i := 0) rfl) (Nat.le_of_ble_eq_true rfl) rfl rfl ?_)
    refine r_cons (s_buildSlice H57 5 1 (cs := #[.int .i64 x38.ev.src.v, .int .i64 x38.ev.seq.v, .int .i64 x38.ev.time.v, .string x38.ev.typ.v, .slice x38.p x38.ev.attrs.length x38.c]) #[.int .i64 0, .int .i64 0, .int .i64 0, .string ByteArray.empty, .slice none 0 0] el_49 ze_33 (by decide) (by decide) (by kernel_rfl) rfl ?_); intro bk58 w59 H60
    refine r_cons (s_append H60 3 rfl rfl rfl (rd_blk (H60.blk_at (i := 0) rfl) rfl (Nat.le_of_ble_eq_true rfl) (by simp [Value.oneCell'])) ap_49 (by decide) (by unfold maxLen; omega) (by omega) (n' := pre37.length + 1) (xs' := pre37.flatMap evdCell ++ ([.int .i64 x38.ev.src.v, .int .i64 x38.ev.seq.v, .int .i64 x38.ev.time.v, .string x38.ev.typ.v, .slice x38.p x38.ev.attrs.length x38.c] : List Value)) (by omega) (by first | rfl | simp) rfl ?_); intro vv61 w62 H63 hn64
    obtain ⟨pp65, cc66, rfl⟩ := Row.slice H63 (i := 3) rfl
    refine r_cons (s_fieldAddr 96 2 49 49 49 rfl fi_96_2 rfl rfl ?_)
    refine r_cons (s_store H63 2 (.slice pp65 (pre37.length + 1) cc66) rfl rfl rfl sz_49 rfl (by rw [st_size, h6]; decide) rfl (st_setAll h6 _ _ _) ?_); intro w67 H68
    refine r_nil ?_
    refine g_inBlock ?_
    have H69 : St W w67 (Attrs (.slice x38.p x38.ev.attrs.length x38.c) x38.ev.attrs :: evA pre37 :: blk bk58 (.cells #[.int .i64 x38.ev.src.v, .int .i64 x38.ev.seq.v, .int .i64 x38.ev.time.v, .string x38.ev.typ.v, .slice x38.p x38.ev.attrs.length x38.c] 33 (0, 0)) :: blk bk50 (.cells #[.int .i64 x38.ev.src.v, .int .i64 x38.ev.seq.v, .int .i64 x38.ev.time.v, .string x38.ev.typ.v, .slice x38.p x38.ev.attrs.length x38.c] 33 (0, 0)) :: blk bk16 (.cells (stCells many st (.slice pp65 (pre37.length + 1) cc66)) 96 (0, 0)) :: Row 33 5 (.slice pp65 (pre37.length + 1) cc66) (pre37.length + 1) (pre37.flatMap evdCell ++ ([.int .i64 x38.ev.src.v, .int .i64 x38.ev.seq.v, .int .i64 x38.ev.time.v, .string x38.ev.typ.v, .slice x38.p x38.ev.attrs.length x38.c] : List Value)) :: blk l33 (.loop { r34 with state := .busy }) :: G36) := ((H68.move 4 rfl).move 6 rfl)
    have H70 : St W w67 (evA (pre37 ++ [x38]) :: blk bk58 (.cells #[.int .i64 x38.ev.src.v, .int .i64 x38.ev.seq.v, .int .i64 x38.ev.time.v, .string x38.ev.typ.v, .slice x38.p x38.ev.attrs.length x38.c] 33 (0, 0)) :: blk bk50 (.cells #[.int .i64 x38.ev.src.v, .int .i64 x38.ev.seq.v, .int .i64 x38.ev.time.v, .string x38.ev.typ.v, .slice x38.p x38.ev.attrs.length x38.c] 33 (0, 0)) :: blk bk16 (.cells (stCells many st (.slice pp65 (pre37.length + 1) cc66)) 96 (0, 0)) :: Row 33 5 (.slice pp65 (pre37.length + 1) cc66) (pre37.length + 1) (pre37.flatMap evdCell ++ ([.int .i64 x38.ev.src.v, .int .i64 x38.ev.seq.v, .int .i64 x38.ev.time.v, .string x38.ev.typ.v, .slice x38.p x38.ev.attrs.length x38.c] : List Value)) :: blk l33 (.loop { r34 with state := .busy }) :: G36) := evA_snoc (e := x38) H69
    have H71 : St W w67 (evA (pre37 ++ [x38]) :: blk bk58 (.cells #[.int .i64 x38.ev.src.v, .int .i64 x38.ev.seq.v, .int .i64 x38.ev.time.v, .string x38.ev.typ.v, .slice x38.p x38.ev.attrs.length x38.c] 33 (0, 0)) :: blk bk50 (.cells #[.int .i64 x38.ev.src.v, .int .i64 x38.ev.seq.v, .int .i64 x38.ev.time.v, .string x38.ev.typ.v, .slice x38.p x38.ev.attrs.length x38.c] 33 (0, 0)) :: blk bk16 (.cells (stCells many st (.slice pp65 ((pre37 ++ [x38]).length) cc66)) 96 (0, 0)) :: Row 33 5 (.slice pp65 ((pre37 ++ [x38]).length) cc66) ((pre37 ++ [x38]).length) ((pre37 ++ [x38]).flatMap evdCell) :: blk l33 (.loop { r34 with state := .busy }) :: G36) := by rw [flat_snocE, List.length_append]; exact H70
    have H72 : St W w67 (blk bk16 (.cells (stCells many st (.slice pp65 ((pre37 ++ [x38]).length) cc66)) 96 (0, 0)) :: Row 33 5 (.slice pp65 ((pre37 ++ [x38]).length) cc66) ((pre37 ++ [x38]).length) ((pre37 ++ [x38]).flatMap evdCell) :: evA (pre37 ++ [x38]) :: blk bk58 (.cells #[.int .i64 x38.ev.src.v, .int .i64 x38.ev.seq.v, .int .i64 x38.ev.time.v, .string x38.ev.typ.v, .slice x38.p x38.ev.attrs.length x38.c] 33 (0, 0)) :: blk bk50 (.cells #[.int .i64 x38.ev.src.v, .int .i64 x38.ev.seq.v, .int .i64 x38.ev.time.v, .string x38.ev.typ.v, .slice x38.p x38.ev.attrs.length x38.c] 33 (0, 0)) :: blk l33 (.loop { r34 with state := .busy }) :: G36) := ((H71.move 4 rfl).move 4 rfl)
    have H73 : St W w67 ((ex fun q : Option Addr × Nat => star [blk bk16 (.cells (stCells many st (.slice q.1 (pre37 ++ [x38]).length q.2)) 96 (0, 0)), Row 33 5 (.slice q.1 (pre37 ++ [x38]).length q.2) (pre37 ++ [x38]).length ((pre37 ++ [x38]).flatMap evdCell), evA (pre37 ++ [x38])]) :: blk bk58 (.cells #[.int .i64 x38.ev.src.v, .int .i64 x38.ev.seq.v, .int .i64 x38.ev.time.v, .string x38.ev.typ.v, .slice x38.p x38.ev.attrs.length x38.c] 33 (0, 0)) :: blk bk50 (.cells #[.int .i64 x38.ev.src.v, .int .i64 x38.ev.seq.v, .int .i64 x38.ev.time.v, .string x38.ev.typ.v, .slice x38.p x38.ev.attrs.length x38.c] 33 (0, 0)) :: blk l33 (.loop { r34 with state := .busy }) :: G36) := St.shut_ex (pp65, cc66) (St.shut_star (ls := [blk bk16 (.cells (stCells many st (.slice pp65 ((pre37 ++ [x38]).length) cc66)) 96 (0, 0)), Row 33 5 (.slice pp65 ((pre37 ++ [x38]).length) cc66) ((pre37 ++ [x38]).length) ((pre37 ++ [x38]).flatMap evdCell), evA (pre37 ++ [x38])]) H72)
    have H74 : St W w67 (blk l33 (.loop { r34 with state := .busy }) :: (ex fun q : Option Addr × Nat => star [blk bk16 (.cells (stCells many st (.slice q.1 (pre37 ++ [x38]).length q.2)) 96 (0, 0)), Row 33 5 (.slice q.1 (pre37 ++ [x38]).length q.2) (pre37 ++ [x38]).length ((pre37 ++ [x38]).flatMap evdCell), evA (pre37 ++ [x38])]) :: G36) := (((H73.move 3 rfl).drop 2 rfl).drop 2 rfl)
    refine g_round_end hr39 hr40 H74 (i := 0) rfl ?_; intro w75 H76
    exact .inl ⟨rfl, H76⟩
  · intro l J Jx B w H hY; exact Streams_All1 _ l evs J Jx hne hnl (i := 1) rfl hY H
  · intro D77 L78 w79 hS80 H81
    have H83 : St W w79 ((ex fun q : Option Addr × Nat => star [blk bk16 (.cells (stCells many st (.slice q.1 L78.length q.2)) 96 (0, 0)), Row 33 5 (.slice q.1 L78.length q.2) L78.length (L78.flatMap evdCell), evA L78]) :: blk D77 (.deferred (some [])) :: AllA bk25 evs :: Streams b many st evs :: (F.set i emp)) := H81
    obtain ⟨⟨pp84, cc85⟩, H86⟩ := St.open_ex H83
    have H87 := St.open_star H86
    have H88 : St W w79 (blk bk16 (.cells (stCells many st (.slice pp84 L78.length cc85)) 96 (0, 0)) :: Row 33 5 (.slice pp84 L78.length cc85) L78.length (L78.flatMap evdCell) :: evA L78 :: blk D77 (.deferred (some [])) :: AllA bk25 evs :: Streams b many st evs :: (F.set i emp)) := H87
    have H89 : St W w79 (Streams bk16 many st evs :: blk D77 (.deferred (some [])) :: AllA bk25 evs :: Streams b many st evs :: (F.set i emp)) := by have hx := Streams_of h6 (by exact ⟨hm7, hm8⟩ : 1 ≤ many ∧ many ≤ 16).1 (by exact ⟨hm7, hm8⟩ : 1 ≤ many ∧ many ≤ 16).2 H88; rw [hS80] at hx; exact hx
    refine g_inBlock ?_
    refine g_seq ?_
    refine g_region ?_
    refine r_cons (s_assign (.pointer (some ⟨bk16, 0, none⟩)) rfl rfl ?_)
    refine r_nil ?_
    obtain ⟨hd90, H91⟩ := H89.collect (i := 1) rfl
    refine g_retD _ [.pointer (some ⟨bk16, 0, none⟩)] Try.func27 Try.results27 rfl ⟨hd90, trivial⟩ ⟨rfl, trivial⟩ ?_
    have H92 : St W (w79.putObj D77 (.deferred none)) (Streams b many st evs :: Streams bk16 many st evs :: (F.set i emp)) := ((H91.move 2 rfl).drop 2 rfl)
    have H93 : St W (w79.putObj D77 (.deferred none)) (Streams b many st evs :: (Streams bk16 many st evs :: F).set (i + 1) emp) := H92
    exact ⟨bk16, rfl, St.back_same (i := i + 1) (by exact hi) H93⟩
  · intro D94 c99 L95 w96 hS97 H98
    have H100 : St W w96 (pure' False :: blk D94 (.deferred (some [])) :: AllA bk25 evs :: Streams b many st evs :: (F.set i emp)) := H98
    exact (St.open_pure H100).1.elim
set_option maxHeartbeats 4000000 in
set_option maxRecDepth 100000 in
theorem Streams_Sources {W w : World} {F : List Atom} (b : Nat) (many : Int) (st : List S3) (evs : List EvM) {i : Nat} (hi : F[i]? = some (Streams b many st evs)) (H : St W w F) : Calls Try.prog 35 #[.pointer (some ⟨b, 0, none⟩)] w (Ret fun v w' => v = .int .i64 many ∧ St W w' F) := by
  have H0 := H.front hi
  refine calls_of_go (n := 9) Try.func35 rfl Try.ntmps35 rfl ?_
  refine g_seq ?_
  refine g_region ?_
  refine r_cons (s_assign (.int .i64 0) rfl rfl ?_)
  refine r_nil ?_
  refine g_seq ?_
  refine g_seq ?_
  refine g_region ?_
  refine r_cons (s_move (.pointer (some ⟨b, 0, none⟩)) rfl rfl ?_)
  refine r_cons (s_call [.pointer (some ⟨b, 0, none⟩)] pl_58 rfl rfl (Streams_none b many st evs  (i := 0) rfl H0) ?_)
  rintro _ w1 ⟨rfl, H2⟩
  refine r_nil ?_
  refine g_false rfl ?_
  refine g_skip ?_
  refine g_seq ?_
  refine g_region ?_
  refine r_cons (s_move (.pointer (some ⟨b, 0, none⟩)) rfl rfl ?_)
  refine r_cons (s_nilCheck (.pointer (some ⟨b, 0, none⟩)) rfl ⟨_, rfl⟩ rfl ?_)
  refine r_cons (s_fieldAddr 96 0 0 0 3 rfl fi_96_0 rfl rfl ?_)
  have H3 := H2.move 0 rfl
  obtain ⟨⟨vv4, avs5⟩, H10⟩ := St.open_ex H3
  obtain ⟨⟨h6, hm7, hm8, hav9⟩, H11⟩ := St.open_pure (St.open_star H10)
  dsimp only at hav9 H11
  obtain ⟨pp13, cc14, rfl⟩ := Row.slice (i := 1) H11 rfl
  have H15 : St W w1 (blk b (.cells (stCells many st (.slice pp13 evs.length cc14)) 96 (0, 0)) :: Row 33 5 (.slice pp13 evs.length cc14) evs.length (evRow evs avs5) :: star (evIms evs avs5) :: (F.set i emp)) := H11
  refine r_cons (s_load (.int .i64 many) ag_3 rfl (H15.blk_at (i := 0) rfl) (st_many _ _ _) rfl ?_)
  refine r_cons (s_assign (.int .i64 many) rfl rfl ?_)
  refine r_nil ?_
  refine g_ret' [.int .i64 many] Try.func35 Try.results35 ⟨rfl, trivial⟩ ?_
  have H16 : St W w1 (Streams b many st evs :: (F.set i emp)) := St.shut_ex (.slice pp13 evs.length cc14, avs5) (St.shut_star (ls := [pure' (st.length = 16 ∧ 1 ≤ many ∧ many ≤ 16 ∧ (avs5).length = (evs).length), blk b (.cells (stCells many st (.slice pp13 evs.length cc14)) 96 (0, 0)), Row 33 5 (.slice pp13 evs.length cc14) evs.length (evRow evs avs5), star (evIms evs avs5)]) (St.shut_pure ⟨h6, hm7, hm8, hav9⟩ H15))
  have H17 : St W w1 (Streams b many st evs :: (F.set i emp)) := H16
  exact ⟨rfl, St.back_same hi H17⟩
set_option maxHeartbeats 4000000 in
set_option maxRecDepth 100000 in
theorem ref04_New {W w : World} {F : List Atom} (n : Int) (hn : 1 ≤ n ∧ n ≤ 16) (H : St W w F) : Calls Try.prog 24 #[.int .i64 n] w (Ret fun v w' => ∃ b, v = .tuple #[.pointer (some ⟨b, 0, none⟩), .int .i64 0] ∧ St W w' (RStr b n [] (List.replicate n.toNat false) :: F)) := by
  refine calls_of_go (n := 15) Try.func24 rfl Try.ntmps24 rfl ?_
  refine g_seq ?_
  refine g_region ?_
  refine r_cons (s_assign (.pointer none) rfl rfl ?_)
  refine r_cons (s_assign (.int .i64 0) rfl rfl ?_)
  refine r_nil ?_
  refine g_seq ?_
  refine g_seq ?_
  refine g_region ?_
  refine r_cons (s_move (.int .i64 n) rfl rfl ?_)
  refine r_cons (s_lss false rfl rfl (dfalse (by omega)) rfl ?_)
  refine r_cons (s_move (.bool false) rfl rfl ?_)
  refine r_cons (r_take rfl rfl ?_)
  refine s_move (.int .i64 n) rfl rfl ?_
  refine r_cons (r_take rfl rfl ?_)
  refine s_gtr false rfl rfl (dfalse (by omega)) rfl ?_
  refine r_cons (s_pick_f (.bool false) rfl rfl rfl ?_)
  refine r_nil ?_
  refine g_false rfl ?_
  refine g_skip ?_
  refine g_seq ?_
  refine g_region ?_
  refine r_cons (s_move (.int .i64 n) rfl rfl ?_)
  refine r_cons (s_move (.int .i64 n) rfl rfl ?_)
  refine r_cons (s_make H n 1 1 rfl rfl un_50 in_4 (by omega) (by omega) (by omega) (by exact made_bools n.toNat) rfl ?_); intro bk1 w2 H3
  have H4 : St W w2 (Row 4 1 (.slice (some ⟨bk1, 0, none⟩) n.toNat n.toNat) n.toNat ((List.replicate n.toNat false).flatMap blc) :: F) := Row.of_list (xs := (List.replicate n.toNat false).flatMap blc) (n := n.toNat) H3 (i := 0) rfl (by unfold maxLen; omega) (by rw [flat_len blc_len]; simp) (one_bl _)
  refine r_cons (s_build (cs := #[.int .i64 n, .slice none 0 0, .slice (some ⟨bk1, 0, none⟩) n.toNat n.toNat]) (by kernel_rfl) rfl ?_)
  refine r_cons (s_box H4 52 (.agg #[.int .i64 n, .slice none 0 0, .slice (some ⟨bk1, 0, none⟩) n.toNat n.toNat]) rfl (cs := #[.int .i64 n, .slice none 0 0, .slice (some ⟨bk1, 0, none⟩) n.toNat n.toNat]) rfl rfl ?_); intro bk5 w6 H7
  refine r_cons (s_assign (.pointer (some ⟨bk5, 0, none⟩)) rfl rfl ?_)
  refine r_cons (s_assign (.int .i64 0) rfl rfl ?_)
  refine r_nil ?_
  refine g_ret' [.pointer (some ⟨bk5, 0, none⟩), .int .i64 0] Try.func24 Try.results24 ⟨rfl, rfl, trivial⟩ ?_
  have H8 : St W w6 (blk bk5 (.cells #[.int .i64 n, .slice none 0 0, .slice (some ⟨bk1, 0, none⟩) n.toNat n.toNat] 52 (0, 0)) :: Im 1 (.slice (some ⟨bk1, 0, none⟩) n.toNat n.toNat) n.toNat ((List.replicate n.toNat false).flatMap blc) :: F) := Row.im H7 (i := 1) rfl
  have H9 : St W w6 (Im 5 (.slice none 0 0) 0 [] :: blk bk5 (.cells #[.int .i64 n, .slice none 0 0, .slice (some ⟨bk1, 0, none⟩) n.toNat n.toNat] 52 (0, 0)) :: Im 1 (.slice (some ⟨bk1, 0, none⟩) n.toNat n.toNat) n.toNat ((List.replicate n.toNat false).flatMap blc) :: F) := Row.im (Row.nil_intro H8 33 5) (i := 0) rfl
  have H10 := evA_nil H9
  have H11 : St W w6 (blk bk5 (.cells #[.int .i64 n, .slice none 0 0, .slice (some ⟨bk1, 0, none⟩) n.toNat n.toNat] 52 (0, 0)) :: Im 5 (.slice none 0 0) 0 [] :: evA ([] : List EvD) :: Im 1 (.slice (some ⟨bk1, 0, none⟩) n.toNat n.toNat) n.toNat ((List.replicate n.toNat false).flatMap blc) :: F) := ((((H10.move 3 rfl).move 1 rfl).move 2 rfl).move 3 rfl)
  have H12 : St W w6 (blk bk5 (.cells #[.int .i64 n, .slice none 0 0, .slice (some ⟨bk1, 0, none⟩) n.toNat n.toNat] 52 (0, 0)) :: Im 5 (.slice none 0 0) 0 [] :: evA ([] : List EvD) :: Im 1 (.slice (some ⟨bk1, 0, none⟩) n.toNat n.toNat) n.toNat ((List.replicate n.toNat false).flatMap blc) :: F) := ((((H11.move 3 rfl).move 3 rfl).move 3 rfl).move 3 rfl)
  have H13 : St W w6 (blk bk5 (.cells #[.int .i64 n, .slice none ([] : List EvD).length 0, .slice (some ⟨bk1, 0, none⟩) (List.replicate n.toNat false).length n.toNat] 52 (0, 0)) :: Im 5 (.slice none ([] : List EvD).length 0) ([] : List EvD).length (([] : List EvD).flatMap evdCell) :: evA [] :: Im 1 (.slice (some ⟨bk1, 0, none⟩) (List.replicate n.toNat false).length n.toNat) (List.replicate n.toNat false).length ((List.replicate n.toNat false).flatMap blc) :: F) := by rw [List.length_replicate]; exact H12
  exact ⟨bk5, rfl, St.shut_ex ((none, 0), (some ⟨bk1, 0, none⟩, n.toNat)) (St.shut_star (ls := [_, _, _, _]) H13)⟩
set_option maxHeartbeats 4000000 in
set_option maxRecDepth 100000 in
theorem ref04_New_no {W w : World} {F : List Atom} (n : Int) (hn : ¬ (1 ≤ n ∧ n ≤ 16)) (H : St W w F) : Calls Try.prog 24 #[.int .i64 n] w (Ret fun v w' => v = .tuple #[.pointer none, .int .i64 1] ∧ St W w' F) := by
  refine calls_of_go (n := 15) Try.func24 rfl Try.ntmps24 rfl ?_
  refine g_seq ?_
  refine g_region ?_
  refine r_cons (s_assign (.pointer none) rfl rfl ?_)
  refine r_cons (s_assign (.int .i64 0) rfl rfl ?_)
  refine r_nil ?_
  refine g_seq ?_
  refine g_seq ?_
  refine g_region ?_
  refine r_cons (s_move (.int .i64 n) rfl rfl ?_)
  by_cases hc1 : n < 1
  · skip
    refine r_cons (s_lss true rfl rfl (dtrue hc1) rfl ?_)
    refine r_cons (s_move (.bool true) rfl rfl ?_)
    refine r_cons (r_pass rfl rfl rfl rfl rfl ?_)
    refine r_cons (r_pass rfl rfl rfl rfl rfl ?_)
    refine r_cons (s_pick_t (.bool true) rfl rfl rfl ?_)
    refine r_nil ?_
    refine g_true rfl ?_
    refine g_seq ?_
    refine g_region ?_
    refine r_cons (s_assign (.pointer none) rfl rfl ?_)
    refine r_cons (s_assign (.int .i64 1) rfl rfl ?_)
    refine r_nil ?_
    refine g_ret' [.pointer none, .int .i64 1] Try.func24 Try.results24 ⟨rfl, rfl, trivial⟩ ?_
    exact ⟨by first | rfl | (exfalso; omega), H⟩
  · skip
    refine r_cons (s_lss false rfl rfl (dfalse hc1) rfl ?_)
    refine r_cons (s_move (.bool false) rfl rfl ?_)
    refine r_cons (r_take rfl rfl ?_)
    refine s_move (.int .i64 n) rfl rfl ?_
    refine r_cons (r_take rfl rfl ?_)
    by_cases hc2 : (16 : Int) < n
    · skip
      refine s_gtr true rfl rfl (dtrue hc2) rfl ?_
      refine r_cons (s_pick_f (.bool true) rfl rfl rfl ?_)
      refine r_nil ?_
      refine g_true rfl ?_
      refine g_seq ?_
      refine g_region ?_
      refine r_cons (s_assign (.pointer none) rfl rfl ?_)
      refine r_cons (s_assign (.int .i64 1) rfl rfl ?_)
      refine r_nil ?_
      refine g_ret' [.pointer none, .int .i64 1] Try.func24 Try.results24 ⟨rfl, rfl, trivial⟩ ?_
      exact ⟨by first | rfl | (exfalso; omega), H⟩
    · skip
      refine s_gtr false rfl rfl (dfalse hc2) rfl ?_
      refine r_cons (s_pick_f (.bool false) rfl rfl rfl ?_)
      refine r_nil ?_
      refine g_false rfl ?_
      refine g_skip ?_
      refine g_seq ?_
      refine g_region ?_
      refine r_cons (s_move (.int .i64 n) rfl rfl ?_)
      refine r_cons (s_move (.int .i64 n) rfl rfl ?_)
      refine r_cons (s_make H n 1 1 rfl rfl un_50 in_4 (by omega) (by omega) (by omega) (by exact made_bools n.toNat) rfl ?_); intro bk3 w4 H5
      refine r_cons (s_build (cs := #[.int .i64 n, .slice none 0 0, .slice (some ⟨bk3, 0, none⟩) n.toNat n.toNat]) (by kernel_rfl) rfl ?_)
      refine r_cons (s_box H5 52 (.agg #[.int .i64 n, .slice none 0 0, .slice (some ⟨bk3, 0, none⟩) n.toNat n.toNat]) rfl (cs := #[.int .i64 n, .slice none 0 0, .slice (some ⟨bk3, 0, none⟩) n.toNat n.toNat]) rfl rfl ?_); intro bk6 w7 H8
      refine r_cons (s_assign (.pointer (some ⟨bk6, 0, none⟩)) rfl rfl ?_)
      refine r_cons (s_assign (.int .i64 0) rfl rfl ?_)
      refine r_nil ?_
      refine g_ret' [.pointer (some ⟨bk6, 0, none⟩), .int .i64 0] Try.func24 Try.results24 ⟨rfl, rfl, trivial⟩ ?_
      have H9 : St W w7 F := ((H8.drop 0 rfl).drop 0 rfl)
      exact ⟨by first | rfl | (exfalso; omega), H9⟩
end Sl
