/- Walks of the program's functions. Printed by a program of this claim's author. No condition. -/
import Derived.Test.YtlpbkclkhadnaaaSlBF
import Derived.Test.YtlpbkclkhadnaaaSlQ
import Derived.Test.YtlpbkclkhadnaaaProg
import Derived.Test.YtlpbkclkhadnaaaWalkPredOnce0
namespace Sl
open _root_.Go _root_.Go.RowKit _root_.Go.Proofs
set_option linter.all false
set_option maxHeartbeats 4000000 in
set_option maxRecDepth 100000 in
theorem pred_Cond {W w : World} {F : List Atom} (c : CondV) (bs : List BoundD) (bv : Value) {ip : Nat} (hp : F[ip]? = some (Im 6 bv bs.length (bs.flatMap bndCell))) {iq : Nat} (hq : F[iq]? = some (bndsA bs)) (H : St W w F) : Calls Try.prog 15 #[.agg #[.string c.left.var.v, .string c.left.attr.v, .int .i64 c.left.val.kind.v, .int .i64 c.left.val.n.v, .string c.left.val.s.v, .int .i64 c.rel.v, .string c.right.var.v, .string c.right.attr.v, .int .i64 c.right.val.kind.v, .int .i64 c.right.val.n.v, .string c.right.val.s.v], .agg #[bv]] w (Ret fun v w' => v = .bool (condB c bs) ∧ St W w' F) := by
  obtain ⟨pp1, cc2, rfl, hn3⟩ := Rd.shape (Im.rd H (i := ip) hp)
  have H4 := H.dup (i := ip + 0) (by exact hp) (Im_pers _ _ _ _)
  have H5 : St W w (Im 6 (.slice pp1 bs.length cc2) bs.length (bs.flatMap bndCell) :: F) := H4
  have H6 := H5.dup (i := iq + 1) (by exact hq) (bndsA_pers _)
  have H7 : St W w (bndsA bs :: Im 6 (.slice pp1 bs.length cc2) bs.length (bs.flatMap bndCell) :: F) := H6
  refine calls_of_go (n := 36) Try.func15 rfl Try.ntmps15 rfl ?_
  refine g_seq ?_
  refine g_region ?_
  refine r_cons (s_box H7 27 (.agg #[.string c.left.var.v, .string c.left.attr.v, .int .i64 c.left.val.kind.v, .int .i64 c.left.val.n.v, .string c.left.val.s.v, .int .i64 c.rel.v, .string c.right.var.v, .string c.right.attr.v, .int .i64 c.right.val.kind.v, .int .i64 c.right.val.n.v, .string c.right.val.s.v]) rfl (cs := #[.string c.left.var.v, .string c.left.attr.v, .int .i64 c.left.val.kind.v, .int .i64 c.left.val.n.v, .string c.left.val.s.v, .int .i64 c.rel.v, .string c.right.var.v, .string c.right.attr.v, .int .i64 c.right.val.kind.v, .int .i64 c.right.val.n.v, .string c.right.val.s.v]) rfl rfl ?_); intro bk8 w9 H10
  refine r_cons (s_box H10 43 (.agg #[.slice pp1 bs.length cc2]) rfl (cs := #[.slice pp1 bs.length cc2]) rfl rfl ?_); intro bk11 w12 H13
  refine r_cons (s_assign (.bool false) rfl rfl ?_)
  refine r_nil ?_
  refine g_seq ?_
  refine g_region ?_
  refine r_cons (s_fieldAddr 27 0 0 0 25 rfl fi_27_0 rfl rfl ?_)
  refine r_cons (s_loadAgg [.string c.left.var.v, .string c.left.attr.v, .int .i64 c.left.val.kind.v, .int .i64 c.left.val.n.v, .string c.left.val.s.v] 5 ag_25 rfl (H13.blk_at (i := 1) rfl) (Nat.le_of_ble_eq_true rfl) rfl rfl ?_)
  refine r_cons (s_loadAgg [.slice pp1 bs.length cc2] 1 ag_43 rfl (H13.blk_at (i := 0) rfl) (Nat.le_of_ble_eq_true rfl) rfl rfl ?_)
  refine r_cons (s_call [.agg #[.string c.left.var.v, .string c.left.attr.v, .int .i64 c.left.val.kind.v, .int .i64 c.left.val.n.v, .string c.left.val.s.v], .agg #[.slice pp1 bs.length cc2]] pl_13 rfl rfl (pred_Value c.left bs (.slice pp1 bs.length cc2) (ip := 3) rfl (iq := 2) rfl H13) ?_)
  rintro _ w14 ⟨rfl, H15⟩
  refine r_cons (s_move (.tuple #[.agg #[.int .i64 ((bvV c.left bs).kind.v), .int .i64 ((bvV c.left bs).n.v), .string ((bvV c.left bs).s.v)], .bool (bvIs c.left bs)]) rfl rfl ?_)
  refine r_cons (s_extract (.agg #[.int .i64 ((bvV c.left bs).kind.v), .int .i64 ((bvV c.left bs).n.v), .string ((bvV c.left bs).s.v)]) #[.agg #[.int .i64 ((bvV c.left bs).kind.v), .int .i64 ((bvV c.left bs).n.v), .string ((bvV c.left bs).s.v)], .bool (bvIs c.left bs)] rfl rfl rfl ?_)
  refine r_cons (s_extract (.bool (bvIs c.left bs)) #[.agg #[.int .i64 ((bvV c.left bs).kind.v), .int .i64 ((bvV c.left bs).n.v), .string ((bvV c.left bs).s.v)], .bool (bvIs c.left bs)] rfl rfl rfl ?_)
  refine r_cons (s_alloc H15 23 ze_23 rfl ?_); intro bk16 w17 H18
  refine r_cons (s_storeAgg H18 0 #[.int .i64 ((bvV c.left bs).kind.v), .int .i64 ((bvV c.left bs).n.v), .string ((bvV c.left bs).s.v)] 3 rfl rfl rfl sz_23 rfl (by simp [Value.oneCell']) (Nat.le_of_ble_eq_true rfl) (fun o h1 h2 => by first | (simp; done) | (simp; omega)) (cs' := #[.int .i64 ((bvV c.left bs).kind.v), .int .i64 ((bvV c.left bs).n.v), .string ((bvV c.left bs).s.v)]) rfl ?_); intro w19 H20
  refine r_cons (s_assign (.bool (bvIs c.left bs)) rfl rfl ?_)
  refine r_nil ?_
  refine g_seq ?_
  refine g_region ?_
  refine r_cons (s_fieldAddr 27 2 6 6 25 rfl fi_27_2 rfl rfl ?_)
  refine r_cons (s_loadAgg [.string c.right.var.v, .string c.right.attr.v, .int .i64 c.right.val.kind.v, .int .i64 c.right.val.n.v, .string c.right.val.s.v] 5 ag_25 rfl (H20.blk_at (i := 2) rfl) (Nat.le_of_ble_eq_true rfl) rfl rfl ?_)
  refine r_cons (s_loadAgg [.slice pp1 bs.length cc2] 1 ag_43 rfl (H20.blk_at (i := 1) rfl) (Nat.le_of_ble_eq_true rfl) rfl rfl ?_)
  refine r_cons (s_call [.agg #[.string c.right.var.v, .string c.right.attr.v, .int .i64 c.right.val.kind.v, .int .i64 c.right.val.n.v, .string c.right.val.s.v], .agg #[.slice pp1 bs.length cc2]] pl_13 rfl rfl (pred_Value c.right bs (.slice pp1 bs.length cc2) (ip := 4) rfl (iq := 3) rfl H20) ?_)
  rintro _ w21 ⟨rfl, H22⟩
  refine r_cons (s_move (.tuple #[.agg #[.int .i64 ((bvV c.right bs).kind.v), .int .i64 ((bvV c.right bs).n.v), .string ((bvV c.right bs).s.v)], .bool (bvIs c.right bs)]) rfl rfl ?_)
  refine r_cons (s_extract (.agg #[.int .i64 ((bvV c.right bs).kind.v), .int .i64 ((bvV c.right bs).n.v), .string ((bvV c.right bs).s.v)]) #[.agg #[.int .i64 ((bvV c.right bs).kind.v), .int .i64 ((bvV c.right bs).n.v), .string ((bvV c.right bs).s.v)], .bool (bvIs c.right bs)] rfl rfl rfl ?_)
  refine r_cons (s_extract (.bool (bvIs c.right bs)) #[.agg #[.int .i64 ((bvV c.right bs).kind.v), .int .i64 ((bvV c.right bs).n.v), .string ((bvV c.right bs).s.v)], .bool (bvIs c.right bs)] rfl rfl rfl ?_)
  refine r_cons (s_alloc H22 23 ze_23 rfl ?_); intro bk23 w24 H25
  refine r_cons (s_storeAgg H25 0 #[.int .i64 ((bvV c.right bs).kind.v), .int .i64 ((bvV c.right bs).n.v), .string ((bvV c.right bs).s.v)] 3 rfl rfl rfl sz_23 rfl (by simp [Value.oneCell']) (Nat.le_of_ble_eq_true rfl) (fun o h1 h2 => by first | (simp; done) | (simp; omega)) (cs' := #[.int .i64 ((bvV c.right bs).kind.v), .int .i64 ((bvV c.right bs).n.v), .string ((bvV c.right bs).s.v)]) rfl ?_); intro w26 H27
  refine r_cons (s_assign (.bool (bvIs c.right bs)) rfl rfl ?_)
  refine r_nil ?_
  refine g_seq ?_
  refine g_region ?_
  refine r_cons (s_move (.bool (bvIs c.left bs)) rfl rfl ?_)
  refine r_cons (s_not (bvIs c.left bs) rfl (!(bvIs c.left bs)) rfl rfl ?_)
  refine r_cons (s_move (.bool (!(bvIs c.left bs))) rfl rfl ?_)
  by_cases hb28 : (!(bvIs c.left bs)) = true
  · skip
    refine r_cons (r_pass rfl (congrArg some hb28) rfl rfl rfl ?_)
    refine r_cons (r_pass rfl (congrArg some hb28) rfl rfl rfl ?_)
    refine r_cons (s_pick_t (.bool true) (by exact congrArg Value.bool hb28) rfl rfl ?_)
    refine r_cons (s_move (.bool true) rfl rfl ?_)
    refine r_cons (r_pass rfl rfl rfl rfl rfl ?_)
    refine r_cons (r_pass rfl rfl rfl rfl rfl ?_)
    refine r_cons (r_pass rfl rfl rfl rfl rfl ?_)
    refine r_cons (r_pass rfl rfl rfl rfl rfl ?_)
    refine r_cons (r_pass rfl rfl rfl rfl rfl ?_)
    refine r_cons (s_pick_t (.bool true) rfl rfl rfl ?_)
    refine r_cons (s_assign (.bool true) rfl rfl ?_)
    refine r_nil ?_
    refine g_ret' [.bool true] Try.func15 Try.results15 ⟨rfl, trivial⟩ ?_
    have H29 : St W w26 F := ((((((H27.drop 0 rfl).drop 0 rfl).drop 0 rfl).drop 0 rfl).drop 0 rfl).drop 0 rfl)
    exact ⟨congrArg Value.bool (by unfold condB; rw [hb28]; simp), H29⟩
  · have hb28 := eq_false_of_ne_true hb28
    refine r_cons (r_take rfl (congrArg some hb28) ?_)
    refine s_move (.bool (bvIs c.right bs)) rfl rfl ?_
    refine r_cons (r_take rfl (congrArg some hb28) ?_)
    refine s_not (bvIs c.right bs) rfl (!(bvIs c.right bs)) rfl rfl ?_
    refine r_cons (s_pick_f (.bool (!(bvIs c.right bs))) (by exact congrArg Value.bool hb28) rfl rfl ?_)
    refine r_cons (s_move (.bool (!(bvIs c.right bs))) rfl rfl ?_)
    by_cases hb30 : (!(bvIs c.right bs)) = true
    · skip
      refine r_cons (r_pass rfl (congrArg some hb30) rfl rfl rfl ?_)
      refine r_cons (r_pass rfl (congrArg some hb30) rfl rfl rfl ?_)
      refine r_cons (r_pass rfl (congrArg some hb30) rfl rfl rfl ?_)
      refine r_cons (r_pass rfl (congrArg some hb30) rfl rfl rfl ?_)
      refine r_cons (r_pass rfl (congrArg some hb30) rfl rfl rfl ?_)
      refine r_cons (s_pick_t (.bool true) (by exact congrArg Value.bool hb30) rfl rfl ?_)
      refine r_cons (s_assign (.bool true) rfl rfl ?_)
      refine r_nil ?_
      refine g_ret' [.bool true] Try.func15 Try.results15 ⟨rfl, trivial⟩ ?_
      have H31 : St W w26 F := ((((((H27.drop 0 rfl).drop 0 rfl).drop 0 rfl).drop 0 rfl).drop 0 rfl).drop 0 rfl)
      exact ⟨congrArg Value.bool (by unfold condB; rw [hb28, hb30]; simp), H31⟩
    · have hb30 := eq_false_of_ne_true hb30
      refine r_cons (r_take rfl (congrArg some hb30) ?_)
      refine s_fieldAddr 27 1 5 5 3 rfl fi_27_1 rfl rfl ?_
      refine r_cons (r_take rfl (congrArg some hb30) ?_)
      refine s_load (.int .i64 c.rel.v) ag_3 rfl (H27.blk_at (i := 3) rfl) rfl rfl ?_
      refine r_cons (r_take rfl (congrArg some hb30) ?_)
      refine s_loadAgg [.int .i64 ((bvV c.left bs).kind.v), .int .i64 ((bvV c.left bs).n.v), .string ((bvV c.left bs).s.v)] 3 ag_23 rfl (H27.blk_at (i := 1) rfl) (Nat.le_of_ble_eq_true rfl) rfl rfl ?_
      refine r_cons (r_take rfl (congrArg some hb30) ?_)
      refine s_loadAgg [.int .i64 ((bvV c.right bs).kind.v), .int .i64 ((bvV c.right bs).n.v), .string ((bvV c.right bs).s.v)] 3 ag_23 rfl (H27.blk_at (i := 0) rfl) (Nat.le_of_ble_eq_true rfl) rfl rfl ?_
      refine r_cons (r_take rfl (congrArg some hb30) ?_)
      refine s_call [.int .i64 c.rel.v, .agg #[.int .i64 ((bvV c.left bs).kind.v), .int .i64 ((bvV c.left bs).n.v), .string ((bvV c.left bs).s.v)], .agg #[.int .i64 ((bvV c.right bs).kind.v), .int .i64 ((bvV c.right bs).n.v), .string ((bvV c.right bs).s.v)]] pl_30 rfl rfl (value_Holds c.rel.v (⟨(bvV c.left bs).kind, (bvV c.left bs).n, (bvV c.left bs).s⟩ : ValV) (⟨(bvV c.right bs).kind, (bvV c.right bs).n, (bvV c.right bs).s⟩ : ValV) H27) ?_
      rintro _ w32 ⟨rfl, H33⟩
      refine r_cons (s_pick_f (.bool (holdsB c.rel.v (⟨(bvV c.left bs).kind, (bvV c.left bs).n, (bvV c.left bs).s⟩ : ValV) (⟨(bvV c.right bs).kind, (bvV c.right bs).n, (bvV c.right bs).s⟩ : ValV))) (by exact congrArg Value.bool hb30) rfl rfl ?_)
      refine r_cons (s_assign (.bool (holdsB c.rel.v (⟨(bvV c.left bs).kind, (bvV c.left bs).n, (bvV c.left bs).s⟩ : ValV) (⟨(bvV c.right bs).kind, (bvV c.right bs).n, (bvV c.right bs).s⟩ : ValV))) rfl rfl ?_)
      refine r_nil ?_
      refine g_ret' [.bool (holdsB c.rel.v (⟨(bvV c.left bs).kind, (bvV c.left bs).n, (bvV c.left bs).s⟩ : ValV) (⟨(bvV c.right bs).kind, (bvV c.right bs).n, (bvV c.right bs).s⟩ : ValV))] Try.func15 Try.results15 ⟨rfl, trivial⟩ ?_
      have H34 : St W w32 F := ((((((H33.drop 0 rfl).drop 0 rfl).drop 0 rfl).drop 0 rfl).drop 0 rfl).drop 0 rfl)
      exact ⟨congrArg Value.bool (by unfold condB; rw [hb28, hb30]; simp), H34⟩
set_option maxHeartbeats 4000000 in
set_option maxRecDepth 100000 in
theorem pred_live {W w : World} {F : List Atom}  (H : St W w F) : Calls Try.prog 8 #[] w (Ret fun v w' => v = .bool true ∧ St W w' F) := by
  refine calls_of_go (n := 33) Try.func8 rfl Try.ntmps8 rfl ?_
  refine g_seq ?_
  refine g_region ?_
  refine r_cons (s_assign (.bool false) rfl rfl ?_)
  refine r_nil ?_
  refine g_seq ?_
  refine g_region ?_
  refine r_cons (s_build (cs := #[.string ByteArray.empty, .string (⟨#[120]⟩), .int .i64 0, .int .i64 0, .string ByteArray.empty]) (by kernel_rfl) rfl ?_)
  refine r_cons (s_build (cs := #[.int .i64 1, .int .i64 3, .string ByteArray.empty]) (by kernel_rfl) rfl ?_)
  refine r_cons (s_build (cs := #[.string ByteArray.empty, .string ByteArray.empty, .int .i64 1, .int .i64 3, .string ByteArray.empty]) (by kernel_rfl) rfl ?_)
  refine r_cons (s_build (cs := #[.string ByteArray.empty, .string (⟨#[120]⟩), .int .i64 0, .int .i64 0, .string ByteArray.empty, .int .i64 5, .string ByteArray.empty, .string ByteArray.empty, .int .i64 1, .int .i64 3, .string ByteArray.empty]) (by kernel_rfl) rfl ?_)
  refine r_cons (s_alloc H 27 ze_27 rfl ?_); intro bk1 w2 H3
  refine r_cons (s_storeAgg H3 0 #[.string ByteArray.empty, .string (⟨#[120]⟩), .int .i64 0, .int .i64 0, .string ByteArray.empty, .int .i64 5, .string ByteArray.empty, .string ByteArray.empty, .int .i64 1, .int .i64 3, .string ByteArray.empty] 11 rfl rfl rfl sz_27 rfl (by simp [Value.oneCell']) (Nat.le_of_ble_eq_true rfl) (fun o h1 h2 => by first | (simp; done) | (simp; omega)) (cs' := #[.string ByteArray.empty, .string (⟨#[120]⟩), .int .i64 0, .int .i64 0, .string ByteArray.empty, .int .i64 5, .string ByteArray.empty, .string ByteArray.empty, .int .i64 1, .int .i64 3, .string ByteArray.empty]) (by kernel_rfl) ?_); intro w4 H5
  refine r_nil ?_
  refine g_seq ?_
  refine g_region ?_
  refine r_cons (s_build (cs := #[.int .i64 1, .int .i64 5, .string ByteArray.empty]) (by kernel_rfl) rfl ?_)
  refine r_cons (s_build (cs := #[.string (⟨#[120]⟩), .int .i64 1, .int .i64 5, .string ByteArray.empty]) (by kernel_rfl) rfl ?_)
  refine r_cons (s_buildSlice H5 4 1 (cs := #[.string (⟨#[120]⟩), .int .i64 1, .int .i64 5, .string ByteArray.empty]) #[.string ByteArray.empty, .int .i64 0, .int .i64 0, .string ByteArray.empty] el_34 ze_65 (by decide) (by decide) (by kernel_rfl) rfl ?_); intro bk6 w7 H8
  refine r_cons (s_build (cs := #[.int .i64 0, .int .i64 0, .int .i64 0, .string (⟨#[65]⟩), .slice (some ⟨bk6, 0, none⟩) 1 1]) (by kernel_rfl) rfl ?_)
  refine r_cons (s_alloc H8 36 ze_36 rfl ?_); intro bk9 w10 H11
  refine r_cons (s_storeAgg H11 0 #[.int .i64 0, .int .i64 0, .int .i64 0, .string (⟨#[65]⟩), .slice (some ⟨bk6, 0, none⟩) 1 1] 5 rfl rfl rfl sz_36 rfl (by simp [Value.oneCell']) (Nat.le_of_ble_eq_true rfl) (fun o h1 h2 => by first | (simp; done) | (simp; omega)) (cs' := #[.int .i64 0, .int .i64 0, .int .i64 0, .string (⟨#[65]⟩), .slice (some ⟨bk6, 0, none⟩) 1 1]) rfl ?_); intro w12 H13
  refine r_nil ?_
  refine g_seq ?_
  refine g_region ?_
  refine r_cons (s_loadAgg [.string ByteArray.empty, .string (⟨#[120]⟩), .int .i64 0, .int .i64 0, .string ByteArray.empty, .int .i64 5, .string ByteArray.empty, .string ByteArray.empty, .int .i64 1, .int .i64 3, .string ByteArray.empty] 11 ag_27 rfl (H13.blk_at (i := 2) rfl) (Nat.le_of_ble_eq_true rfl) rfl rfl ?_)
  refine r_cons (s_loadAgg [.int .i64 0, .int .i64 0, .int .i64 0, .string (⟨#[65]⟩), .slice (some ⟨bk6, 0, none⟩) 1 1] 5 ag_36 rfl (H13.blk_at (i := 0) rfl) (Nat.le_of_ble_eq_true rfl) rfl rfl ?_)
  have H14 := Row.cut (n := 0) (m := 1) (c := 1) (size := 4) (xs := [.string (⟨#[120]⟩), .int .i64 1, .int .i64 5, .string ByteArray.empty]) H13 (i := 1) rfl (by decide) (by decide +kernel) rfl rfl (by simp [Value.oneCell'])
  have H15 : St W w12 (blk bk9 (.cells #[.int .i64 0, .int .i64 0, .int .i64 0, .string (⟨#[65]⟩), .slice (some ⟨bk6, 0, none⟩) 1 1] 36 (0, 0)) :: Row 65 4 (.slice (some ⟨bk6, 0, none⟩) 1 1) 1 [.string (⟨#[120]⟩), .int .i64 1, .int .i64 5, .string ByteArray.empty] :: blk bk1 (.cells #[.string ByteArray.empty, .string (⟨#[120]⟩), .int .i64 0, .int .i64 0, .string ByteArray.empty, .int .i64 5, .string ByteArray.empty, .string ByteArray.empty, .int .i64 1, .int .i64 3, .string ByteArray.empty] 27 (0, 0)) :: F) := H14
  have H16 : St W w12 (blk bk9 (.cells #[.int .i64 0, .int .i64 0, .int .i64 0, .string (⟨#[65]⟩), .slice (some ⟨bk6, 0, none⟩) 1 1] 36 (0, 0)) :: Attrs (.slice (some ⟨bk6, 0, none⟩) 1 1) [(⟨(⟨⟨#[120]⟩, by decide⟩ : Str), (⟨1, by decide, by decide⟩ : I64), (⟨5, by decide, by decide⟩ : I64), Str.none⟩ : AttrV)] :: blk bk1 (.cells #[.string ByteArray.empty, .string (⟨#[120]⟩), .int .i64 0, .int .i64 0, .string ByteArray.empty, .int .i64 5, .string ByteArray.empty, .string ByteArray.empty, .int .i64 1, .int .i64 3, .string ByteArray.empty] 27 (0, 0)) :: F) := Row.im H15 (i := 1) rfl
  refine r_cons (s_call [.agg #[.string ByteArray.empty, .string (⟨#[120]⟩), .int .i64 0, .int .i64 0, .string ByteArray.empty, .int .i64 5, .string ByteArray.empty, .string ByteArray.empty, .int .i64 1, .int .i64 3, .string ByteArray.empty], .agg #[.int .i64 0, .int .i64 0, .int .i64 0, .string (⟨#[65]⟩), .slice (some ⟨bk6, 0, none⟩) 1 1]] pl_9 rfl rfl (pred_Test (⟨(⟨Str.none, (⟨⟨#[120]⟩, by decide⟩ : Str), (⟨(⟨0, by decide, by decide⟩ : I64), (⟨0, by decide, by decide⟩ : I64), Str.none⟩ : ValV)⟩ : OpdV), (⟨5, by decide, by decide⟩ : I64), (⟨Str.none, Str.none, (⟨(⟨1, by decide, by decide⟩ : I64), (⟨3, by decide, by decide⟩ : I64), Str.none⟩ : ValV)⟩ : OpdV)⟩ : CondV) (⟨(⟨0, by decide, by decide⟩ : I64), (⟨0, by decide, by decide⟩ : I64), (⟨0, by decide, by decide⟩ : I64), (⟨⟨#[65]⟩, by decide⟩ : Str), [(⟨(⟨⟨#[120]⟩, by decide⟩ : Str), (⟨1, by decide, by decide⟩ : I64), (⟨5, by decide, by decide⟩ : I64), Str.none⟩ : AttrV)]⟩ : EvM) (.slice (some ⟨bk6, 0, none⟩) 1 1) (j := 1) rfl H16) ?_)
  rintro _ w17 ⟨rfl, H18⟩
  refine r_cons (s_move (.bool (testB (⟨(⟨Str.none, (⟨⟨#[120]⟩, by decide⟩ : Str), (⟨(⟨0, by decide, by decide⟩ : I64), (⟨0, by decide, by decide⟩ : I64), Str.none⟩ : ValV)⟩ : OpdV), (⟨5, by decide, by decide⟩ : I64), (⟨Str.none, Str.none, (⟨(⟨1, by decide, by decide⟩ : I64), (⟨3, by decide, by decide⟩ : I64), Str.none⟩ : ValV)⟩ : OpdV)⟩ : CondV) (⟨(⟨0, by decide, by decide⟩ : I64), (⟨0, by decide, by decide⟩ : I64), (⟨0, by decide, by decide⟩ : I64), (⟨⟨#[65]⟩, by decide⟩ : Str), [(⟨(⟨⟨#[120]⟩, by decide⟩ : Str), (⟨1, by decide, by decide⟩ : I64), (⟨5, by decide, by decide⟩ : I64), Str.none⟩ : AttrV)]⟩ : EvM).attrs)) rfl rfl ?_)
  refine r_cons (r_take rfl (congrArg some (show (testB (⟨(⟨Str.none, (⟨⟨#[120]⟩, by decide⟩ : Str), (⟨(⟨0, by decide, by decide⟩ : I64), (⟨0, by decide, by decide⟩ : I64), Str.none⟩ : ValV)⟩ : OpdV), (⟨5, by decide, by decide⟩ : I64), (⟨Str.none, Str.none, (⟨(⟨1, by decide, by decide⟩ : I64), (⟨3, by decide, by decide⟩ : I64), Str.none⟩ : ValV)⟩ : OpdV)⟩ : CondV) (⟨(⟨0, by decide, by decide⟩ : I64), (⟨0, by decide, by decide⟩ : I64), (⟨0, by decide, by decide⟩ : I64), (⟨⟨#[65]⟩, by decide⟩ : Str), [(⟨(⟨⟨#[120]⟩, by decide⟩ : Str), (⟨1, by decide, by decide⟩ : I64), (⟨5, by decide, by decide⟩ : I64), Str.none⟩ : AttrV)]⟩ : EvM).attrs) = true from by decide +kernel)) ?_)
  refine s_loadAgg [.string ByteArray.empty, .string (⟨#[120]⟩), .int .i64 0, .int .i64 0, .string ByteArray.empty, .int .i64 5, .string ByteArray.empty, .string ByteArray.empty, .int .i64 1, .int .i64 3, .string ByteArray.empty] 11 ag_27 rfl (H18.blk_at (i := 2) rfl) (Nat.le_of_ble_eq_true rfl) rfl rfl ?_
  refine r_cons (r_take rfl (congrArg some (show (testB (⟨(⟨Str.none, (⟨⟨#[120]⟩, by decide⟩ : Str), (⟨(⟨0, by decide, by decide⟩ : I64), (⟨0, by decide, by decide⟩ : I64), Str.none⟩ : ValV)⟩ : OpdV), (⟨5, by decide, by decide⟩ : I64), (⟨Str.none, Str.none, (⟨(⟨1, by decide, by decide⟩ : I64), (⟨3, by decide, by decide⟩ : I64), Str.none⟩ : ValV)⟩ : OpdV)⟩ : CondV) (⟨(⟨0, by decide, by decide⟩ : I64), (⟨0, by decide, by decide⟩ : I64), (⟨0, by decide, by decide⟩ : I64), (⟨⟨#[65]⟩, by decide⟩ : Str), [(⟨(⟨⟨#[120]⟩, by decide⟩ : Str), (⟨1, by decide, by decide⟩ : I64), (⟨5, by decide, by decide⟩ : I64), Str.none⟩ : AttrV)]⟩ : EvM).attrs) = true from by decide +kernel)) ?_)
  refine s_build (cs := #[.int .i64 0, .int .i64 0, .int .i64 0, .string ByteArray.empty, .slice none 0 0]) (by kernel_rfl) rfl ?_
  refine r_cons (r_take rfl (congrArg some (show (testB (⟨(⟨Str.none, (⟨⟨#[120]⟩, by decide⟩ : Str), (⟨(⟨0, by decide, by decide⟩ : I64), (⟨0, by decide, by decide⟩ : I64), Str.none⟩ : ValV)⟩ : OpdV), (⟨5, by decide, by decide⟩ : I64), (⟨Str.none, Str.none, (⟨(⟨1, by decide, by decide⟩ : I64), (⟨3, by decide, by decide⟩ : I64), Str.none⟩ : ValV)⟩ : OpdV)⟩ : CondV) (⟨(⟨0, by decide, by decide⟩ : I64), (⟨0, by decide, by decide⟩ : I64), (⟨0, by decide, by decide⟩ : I64), (⟨⟨#[65]⟩, by decide⟩ : Str), [(⟨(⟨⟨#[120]⟩, by decide⟩ : Str), (⟨1, by decide, by decide⟩ : I64), (⟨5, by decide, by decide⟩ : I64), Str.none⟩ : AttrV)]⟩ : EvM).attrs) = true from by decide +kernel)) ?_)
  have H19 : St W w17 (Attrs (.slice none 0 0) [] :: blk bk9 (.cells #[.int .i64 0, .int .i64 0, .int .i64 0, .string (⟨#[65]⟩), .slice (some ⟨bk6, 0, none⟩) 1 1] 36 (0, 0)) :: Attrs (.slice (some ⟨bk6, 0, none⟩) 1 1) [(⟨(⟨⟨#[120]⟩, by decide⟩ : Str), (⟨1, by decide, by decide⟩ : I64), (⟨5, by decide, by decide⟩ : I64), Str.none⟩ : AttrV)] :: blk bk1 (.cells #[.string ByteArray.empty, .string (⟨#[120]⟩), .int .i64 0, .int .i64 0, .string ByteArray.empty, .int .i64 5, .string ByteArray.empty, .string ByteArray.empty, .int .i64 1, .int .i64 3, .string ByteArray.empty] 27 (0, 0)) :: F) := Row.im (Row.nil_intro H18 65 4) (i := 0) rfl
  refine s_call [.agg #[.string ByteArray.empty, .string (⟨#[120]⟩), .int .i64 0, .int .i64 0, .string ByteArray.empty, .int .i64 5, .string ByteArray.empty, .string ByteArray.empty, .int .i64 1, .int .i64 3, .string ByteArray.empty], .agg #[.int .i64 0, .int .i64 0, .int .i64 0, .string ByteArray.empty, .slice none 0 0]] pl_9 rfl rfl (pred_Test (⟨(⟨Str.none, (⟨⟨#[120]⟩, by decide⟩ : Str), (⟨(⟨0, by decide, by decide⟩ : I64), (⟨0, by decide, by decide⟩ : I64), Str.none⟩ : ValV)⟩ : OpdV), (⟨5, by decide, by decide⟩ : I64), (⟨Str.none, Str.none, (⟨(⟨1, by decide, by decide⟩ : I64), (⟨3, by decide, by decide⟩ : I64), Str.none⟩ : ValV)⟩ : OpdV)⟩ : CondV) (⟨(⟨0, by decide, by decide⟩ : I64), (⟨0, by decide, by decide⟩ : I64), (⟨0, by decide, by decide⟩ : I64), Str.none, []⟩ : EvM) (.slice none 0 0) (j := 0) rfl H19) ?_
  rintro _ w20 ⟨rfl, H21⟩
  refine r_cons (r_take rfl (congrArg some (show (testB (⟨(⟨Str.none, (⟨⟨#[120]⟩, by decide⟩ : Str), (⟨(⟨0, by decide, by decide⟩ : I64), (⟨0, by decide, by decide⟩ : I64), Str.none⟩ : ValV)⟩ : OpdV), (⟨5, by decide, by decide⟩ : I64), (⟨Str.none, Str.none, (⟨(⟨1, by decide, by decide⟩ : I64), (⟨3, by decide, by decide⟩ : I64), Str.none⟩ : ValV)⟩ : OpdV)⟩ : CondV) (⟨(⟨0, by decide, by decide⟩ : I64), (⟨0, by decide, by decide⟩ : I64), (⟨0, by decide, by decide⟩ : I64), (⟨⟨#[65]⟩, by decide⟩ : Str), [(⟨(⟨⟨#[120]⟩, by decide⟩ : Str), (⟨1, by decide, by decide⟩ : I64), (⟨5, by decide, by decide⟩ : I64), Str.none⟩ : AttrV)]⟩ : EvM).attrs) = true from by decide +kernel)) ?_)
  refine s_not (testB (⟨(⟨Str.none, (⟨⟨#[120]⟩, by decide⟩ : Str), (⟨(⟨0, by decide, by decide⟩ : I64), (⟨0, by decide, by decide⟩ : I64), Str.none⟩ : ValV)⟩ : OpdV), (⟨5, by decide, by decide⟩ : I64), (⟨Str.none, Str.none, (⟨(⟨1, by decide, by decide⟩ : I64), (⟨3, by decide, by decide⟩ : I64), Str.none⟩ : ValV)⟩ : OpdV)⟩ : CondV) (⟨(⟨0, by decide, by decide⟩ : I64), (⟨0, by decide, by decide⟩ : I64), (⟨0, by decide, by decide⟩ : I64), Str.none, []⟩ : EvM).attrs) rfl true (by rw [(show (testB (⟨(⟨Str.none, (⟨⟨#[120]⟩, by decide⟩ : Str), (⟨(⟨0, by decide, by decide⟩ : I64), (⟨0, by decide, by decide⟩ : I64), Str.none⟩ : ValV)⟩ : OpdV), (⟨5, by decide, by decide⟩ : I64), (⟨Str.none, Str.none, (⟨(⟨1, by decide, by decide⟩ : I64), (⟨3, by decide, by decide⟩ : I64), Str.none⟩ : ValV)⟩ : OpdV)⟩ : CondV) (⟨(⟨0, by decide, by decide⟩ : I64), (⟨0, by decide, by decide⟩ : I64), (⟨0, by decide, by decide⟩ : I64), Str.none, []⟩ : EvM).attrs) = false from by decide +kernel)]; rfl) rfl ?_
  refine r_cons (s_pick_t (.bool true) (by exact congrArg Value.bool (show (testB (⟨(⟨Str.none, (⟨⟨#[120]⟩, by decide⟩ : Str), (⟨(⟨0, by decide, by decide⟩ : I64), (⟨0, by decide, by decide⟩ : I64), Str.none⟩ : ValV)⟩ : OpdV), (⟨5, by decide, by decide⟩ : I64), (⟨Str.none, Str.none, (⟨(⟨1, by decide, by decide⟩ : I64), (⟨3, by decide, by decide⟩ : I64), Str.none⟩ : ValV)⟩ : OpdV)⟩ : CondV) (⟨(⟨0, by decide, by decide⟩ : I64), (⟨0, by decide, by decide⟩ : I64), (⟨0, by decide, by decide⟩ : I64), (⟨⟨#[65]⟩, by decide⟩ : Str), [(⟨(⟨⟨#[120]⟩, by decide⟩ : Str), (⟨1, by decide, by decide⟩ : I64), (⟨5, by decide, by decide⟩ : I64), Str.none⟩ : AttrV)]⟩ : EvM).attrs) = true from by decide +kernel)) rfl rfl ?_)
  refine r_cons (s_move (.bool true) rfl rfl ?_)
  refine r_cons (r_take rfl rfl ?_)
  refine s_loadAgg [.string ByteArray.empty, .string (⟨#[120]⟩), .int .i64 0, .int .i64 0, .string ByteArray.empty, .int .i64 5, .string ByteArray.empty, .string ByteArray.empty, .int .i64 1, .int .i64 3, .string ByteArray.empty] 11 ag_27 rfl (H21.blk_at (i := 3) rfl) (Nat.le_of_ble_eq_true rfl) rfl rfl ?_
  refine r_cons (r_take rfl rfl ?_)
  refine s_buildSlice H21 11 1 (cs := #[.string ByteArray.empty, .string (⟨#[120]⟩), .int .i64 0, .int .i64 0, .string ByteArray.empty, .int .i64 5, .string ByteArray.empty, .string ByteArray.empty, .int .i64 1, .int .i64 3, .string ByteArray.empty]) #[.string ByteArray.empty, .string ByteArray.empty, .int .i64 0, .int .i64 0, .string ByteArray.empty, .int .i64 0, .string ByteArray.empty, .string ByteArray.empty, .int .i64 0, .int .i64 0, .string ByteArray.empty] el_28 ze_27 (by decide) (by decide) (by kernel_rfl) rfl ?_; intro bk22 w23 H24
  refine r_cons (r_take rfl rfl ?_)
  refine s_build (cs := #[.int .i64 1, .string ByteArray.empty, .string (⟨#[65]⟩), .slice (some ⟨bk22, 0, none⟩) 1 1, .slice none 0 0]) (by kernel_rfl) rfl ?_
  refine r_cons (r_take rfl rfl ?_)
  refine s_loadAgg [.int .i64 0, .int .i64 0, .int .i64 0, .string (⟨#[65]⟩), .slice (some ⟨bk6, 0, none⟩) 1 1] 5 ag_36 rfl (H24.blk_at (i := 2) rfl) (Nat.le_of_ble_eq_true rfl) rfl rfl ?_
  refine r_cons (r_take rfl rfl ?_)
  have H25 := Row.cut (n := 0) (m := 1) (c := 1) (size := 11) (xs := [.string ByteArray.empty, .string (⟨#[120]⟩), .int .i64 0, .int .i64 0, .string ByteArray.empty, .int .i64 5, .string ByteArray.empty, .string ByteArray.empty, .int .i64 1, .int .i64 3, .string ByteArray.empty]) H24 (i := 0) rfl (by decide) (by decide +kernel) rfl rfl (by simp [Value.oneCell'])
  have H26 : St W w23 (Row 27 11 (.slice (some ⟨bk22, 0, none⟩) 1 1) 1 [.string ByteArray.empty, .string (⟨#[120]⟩), .int .i64 0, .int .i64 0, .string ByteArray.empty, .int .i64 5, .string ByteArray.empty, .string ByteArray.empty, .int .i64 1, .int .i64 3, .string ByteArray.empty] :: Attrs (.slice none 0 0) [] :: blk bk9 (.cells #[.int .i64 0, .int .i64 0, .int .i64 0, .string (⟨#[65]⟩), .slice (some ⟨bk6, 0, none⟩) 1 1] 36 (0, 0)) :: Attrs (.slice (some ⟨bk6, 0, none⟩) 1 1) [(⟨(⟨⟨#[120]⟩, by decide⟩ : Str), (⟨1, by decide, by decide⟩ : I64), (⟨5, by decide, by decide⟩ : I64), Str.none⟩ : AttrV)] :: blk bk1 (.cells #[.string ByteArray.empty, .string (⟨#[120]⟩), .int .i64 0, .int .i64 0, .string ByteArray.empty, .int .i64 5, .string ByteArray.empty, .string ByteArray.empty, .int .i64 1, .int .i64 3, .string ByteArray.empty] 27 (0, 0)) :: F) := H25
  have H27 : St W w23 (Im 11 (.slice (some ⟨bk22, 0, none⟩) 1 1) 1 ([(⟨(⟨Str.none, (⟨⟨#[120]⟩, by decide⟩ : Str), (⟨(⟨0, by decide, by decide⟩ : I64), (⟨0, by decide, by decide⟩ : I64), Str.none⟩ : ValV)⟩ : OpdV), (⟨5, by decide, by decide⟩ : I64), (⟨Str.none, Str.none, (⟨(⟨1, by decide, by decide⟩ : I64), (⟨3, by decide, by decide⟩ : I64), Str.none⟩ : ValV)⟩ : OpdV)⟩ : CondV)].flatMap condCell) :: Attrs (.slice none 0 0) [] :: blk bk9 (.cells #[.int .i64 0, .int .i64 0, .int .i64 0, .string (⟨#[65]⟩), .slice (some ⟨bk6, 0, none⟩) 1 1] 36 (0, 0)) :: Attrs (.slice (some ⟨bk6, 0, none⟩) 1 1) [(⟨(⟨⟨#[120]⟩, by decide⟩ : Str), (⟨1, by decide, by decide⟩ : I64), (⟨5, by decide, by decide⟩ : I64), Str.none⟩ : AttrV)] :: blk bk1 (.cells #[.string ByteArray.empty, .string (⟨#[120]⟩), .int .i64 0, .int .i64 0, .string ByteArray.empty, .int .i64 5, .string ByteArray.empty, .string ByteArray.empty, .int .i64 1, .int .i64 3, .string ByteArray.empty] 27 (0, 0)) :: F) := Row.im H26 (i := 0) rfl
  refine s_call [.agg #[.int .i64 1, .string ByteArray.empty, .string (⟨#[65]⟩), .slice (some ⟨bk22, 0, none⟩) 1 1, .slice none 0 0], .agg #[.int .i64 0, .int .i64 0, .int .i64 0, .string (⟨#[65]⟩), .slice (some ⟨bk6, 0, none⟩) 1 1]] pl_11 rfl rfl (pred_Term 1 ByteArray.empty (⟨#[65]⟩) (some ⟨bk22, 0, none⟩) 1 [(⟨(⟨Str.none, (⟨⟨#[120]⟩, by decide⟩ : Str), (⟨(⟨0, by decide, by decide⟩ : I64), (⟨0, by decide, by decide⟩ : I64), Str.none⟩ : ValV)⟩ : OpdV), (⟨5, by decide, by decide⟩ : I64), (⟨Str.none, Str.none, (⟨(⟨1, by decide, by decide⟩ : I64), (⟨3, by decide, by decide⟩ : I64), Str.none⟩ : ValV)⟩ : OpdV)⟩ : CondV)] (.slice none 0 0) (⟨(⟨0, by decide, by decide⟩ : I64), (⟨0, by decide, by decide⟩ : I64), (⟨0, by decide, by decide⟩ : I64), (⟨⟨#[65]⟩, by decide⟩ : Str), [(⟨(⟨⟨#[120]⟩, by decide⟩ : Str), (⟨1, by decide, by decide⟩ : I64), (⟨5, by decide, by decide⟩ : I64), Str.none⟩ : AttrV)]⟩ : EvM) (.slice (some ⟨bk6, 0, none⟩) 1 1) (m := 0) rfl (j := 3) rfl H27) ?_
  rintro _ w28 ⟨rfl, H29⟩
  refine r_cons (s_pick_t (.bool (termB 1 (⟨#[65]⟩) [(⟨(⟨Str.none, (⟨⟨#[120]⟩, by decide⟩ : Str), (⟨(⟨0, by decide, by decide⟩ : I64), (⟨0, by decide, by decide⟩ : I64), Str.none⟩ : ValV)⟩ : OpdV), (⟨5, by decide, by decide⟩ : I64), (⟨Str.none, Str.none, (⟨(⟨1, by decide, by decide⟩ : I64), (⟨3, by decide, by decide⟩ : I64), Str.none⟩ : ValV)⟩ : OpdV)⟩ : CondV)] (⟨(⟨0, by decide, by decide⟩ : I64), (⟨0, by decide, by decide⟩ : I64), (⟨0, by decide, by decide⟩ : I64), (⟨⟨#[65]⟩, by decide⟩ : Str), [(⟨(⟨⟨#[120]⟩, by decide⟩ : Str), (⟨1, by decide, by decide⟩ : I64), (⟨5, by decide, by decide⟩ : I64), Str.none⟩ : AttrV)]⟩ : EvM))) rfl rfl rfl ?_)
  refine r_cons (s_move (.bool (termB 1 (⟨#[65]⟩) [(⟨(⟨Str.none, (⟨⟨#[120]⟩, by decide⟩ : Str), (⟨(⟨0, by decide, by decide⟩ : I64), (⟨0, by decide, by decide⟩ : I64), Str.none⟩ : ValV)⟩ : OpdV), (⟨5, by decide, by decide⟩ : I64), (⟨Str.none, Str.none, (⟨(⟨1, by decide, by decide⟩ : I64), (⟨3, by decide, by decide⟩ : I64), Str.none⟩ : ValV)⟩ : OpdV)⟩ : CondV)] (⟨(⟨0, by decide, by decide⟩ : I64), (⟨0, by decide, by decide⟩ : I64), (⟨0, by decide, by decide⟩ : I64), (⟨⟨#[65]⟩, by decide⟩ : Str), [(⟨(⟨⟨#[120]⟩, by decide⟩ : Str), (⟨1, by decide, by decide⟩ : I64), (⟨5, by decide, by decide⟩ : I64), Str.none⟩ : AttrV)]⟩ : EvM))) rfl rfl ?_)
  refine r_cons (r_take rfl (congrArg some (show (termB 1 (⟨#[65]⟩) [(⟨(⟨Str.none, (⟨⟨#[120]⟩, by decide⟩ : Str), (⟨(⟨0, by decide, by decide⟩ : I64), (⟨0, by decide, by decide⟩ : I64), Str.none⟩ : ValV)⟩ : OpdV), (⟨5, by decide, by decide⟩ : I64), (⟨Str.none, Str.none, (⟨(⟨1, by decide, by decide⟩ : I64), (⟨3, by decide, by decide⟩ : I64), Str.none⟩ : ValV)⟩ : OpdV)⟩ : CondV)] (⟨(⟨0, by decide, by decide⟩ : I64), (⟨0, by decide, by decide⟩ : I64), (⟨0, by decide, by decide⟩ : I64), (⟨⟨#[65]⟩, by decide⟩ : Str), [(⟨(⟨⟨#[120]⟩, by decide⟩ : Str), (⟨1, by decide, by decide⟩ : I64), (⟨5, by decide, by decide⟩ : I64), Str.none⟩ : AttrV)]⟩ : EvM)) = true from by decide +kernel)) ?_)
  refine s_loadAgg [.string ByteArray.empty, .string (⟨#[120]⟩), .int .i64 0, .int .i64 0, .string ByteArray.empty, .int .i64 5, .string ByteArray.empty, .string ByteArray.empty, .int .i64 1, .int .i64 3, .string ByteArray.empty] 11 ag_27 rfl (H29.blk_at (i := 4) rfl) (Nat.le_of_ble_eq_true rfl) rfl rfl ?_
  refine r_cons (r_take rfl (congrArg some (show (termB 1 (⟨#[65]⟩) [(⟨(⟨Str.none, (⟨⟨#[120]⟩, by decide⟩ : Str), (⟨(⟨0, by decide, by decide⟩ : I64), (⟨0, by decide, by decide⟩ : I64), Str.none⟩ : ValV)⟩ : OpdV), (⟨5, by decide, by decide⟩ : I64), (⟨Str.none, Str.none, (⟨(⟨1, by decide, by decide⟩ : I64), (⟨3, by decide, by decide⟩ : I64), Str.none⟩ : ValV)⟩ : OpdV)⟩ : CondV)] (⟨(⟨0, by decide, by decide⟩ : I64), (⟨0, by decide, by decide⟩ : I64), (⟨0, by decide, by decide⟩ : I64), (⟨⟨#[65]⟩, by decide⟩ : Str), [(⟨(⟨⟨#[120]⟩, by decide⟩ : Str), (⟨1, by decide, by decide⟩ : I64), (⟨5, by decide, by decide⟩ : I64), Str.none⟩ : AttrV)]⟩ : EvM)) = true from by decide +kernel)) ?_)
  refine s_call [.agg #[.string ByteArray.empty, .string (⟨#[120]⟩), .int .i64 0, .int .i64 0, .string ByteArray.empty, .int .i64 5, .string ByteArray.empty, .string ByteArray.empty, .int .i64 1, .int .i64 3, .string ByteArray.empty]] pl_20 rfl rfl (pred_Names (⟨(⟨Str.none, (⟨⟨#[120]⟩, by decide⟩ : Str), (⟨(⟨0, by decide, by decide⟩ : I64), (⟨0, by decide, by decide⟩ : I64), Str.none⟩ : ValV)⟩ : OpdV), (⟨5, by decide, by decide⟩ : I64), (⟨Str.none, Str.none, (⟨(⟨1, by decide, by decide⟩ : I64), (⟨3, by decide, by decide⟩ : I64), Str.none⟩ : ValV)⟩ : OpdV)⟩ : CondV) H29) ?_
  rintro _ w32 ⟨pp30, cc31, rfl, H33⟩
  refine r_cons (r_take rfl (congrArg some (show (termB 1 (⟨#[65]⟩) [(⟨(⟨Str.none, (⟨⟨#[120]⟩, by decide⟩ : Str), (⟨(⟨0, by decide, by decide⟩ : I64), (⟨0, by decide, by decide⟩ : I64), Str.none⟩ : ValV)⟩ : OpdV), (⟨5, by decide, by decide⟩ : I64), (⟨Str.none, Str.none, (⟨(⟨1, by decide, by decide⟩ : I64), (⟨3, by decide, by decide⟩ : I64), Str.none⟩ : ValV)⟩ : OpdV)⟩ : CondV)] (⟨(⟨0, by decide, by decide⟩ : I64), (⟨0, by decide, by decide⟩ : I64), (⟨0, by decide, by decide⟩ : I64), (⟨⟨#[65]⟩, by decide⟩ : Str), [(⟨(⟨⟨#[120]⟩, by decide⟩ : Str), (⟨1, by decide, by decide⟩ : I64), (⟨5, by decide, by decide⟩ : I64), Str.none⟩ : AttrV)]⟩ : EvM)) = true from by decide +kernel)) ?_)
  refine s_buildSlice H33 1 1 (cs := #[.string ByteArray.empty]) #[.string ByteArray.empty] el_49 ze_9 (by decide) (by decide) (by kernel_rfl) rfl ?_; intro bk34 w35 H36
  refine r_cons (r_take rfl (congrArg some (show (termB 1 (⟨#[65]⟩) [(⟨(⟨Str.none, (⟨⟨#[120]⟩, by decide⟩ : Str), (⟨(⟨0, by decide, by decide⟩ : I64), (⟨0, by decide, by decide⟩ : I64), Str.none⟩ : ValV)⟩ : OpdV), (⟨5, by decide, by decide⟩ : I64), (⟨Str.none, Str.none, (⟨(⟨1, by decide, by decide⟩ : I64), (⟨3, by decide, by decide⟩ : I64), Str.none⟩ : ValV)⟩ : OpdV)⟩ : CondV)] (⟨(⟨0, by decide, by decide⟩ : I64), (⟨0, by decide, by decide⟩ : I64), (⟨0, by decide, by decide⟩ : I64), (⟨⟨#[65]⟩, by decide⟩ : Str), [(⟨(⟨⟨#[120]⟩, by decide⟩ : Str), (⟨1, by decide, by decide⟩ : I64), (⟨5, by decide, by decide⟩ : I64), Str.none⟩ : AttrV)]⟩ : EvM)) = true from by decide +kernel)) ?_)
  have H37 := Row.cut (n := 0) (m := 1) (c := 1) (size := 1) (xs := [.string ByteArray.empty]) H36 (i := 0) rfl (by decide) (by decide +kernel) rfl rfl (by simp [Value.oneCell'])
  have H38 : St W w35 (Row 9 1 (.slice (some ⟨bk34, 0, none⟩) 1 1) 1 [.string ByteArray.empty] :: Im 1 (.slice pp30 ((namesV (⟨(⟨Str.none, (⟨⟨#[120]⟩, by decide⟩ : Str), (⟨(⟨0, by decide, by decide⟩ : I64), (⟨0, by decide, by decide⟩ : I64), Str.none⟩ : ValV)⟩ : OpdV), (⟨5, by decide, by decide⟩ : I64), (⟨Str.none, Str.none, (⟨(⟨1, by decide, by decide⟩ : I64), (⟨3, by decide, by decide⟩ : I64), Str.none⟩ : ValV)⟩ : OpdV)⟩ : CondV)).length) cc31) ((namesV (⟨(⟨Str.none, (⟨⟨#[120]⟩, by decide⟩ : Str), (⟨(⟨0, by decide, by decide⟩ : I64), (⟨0, by decide, by decide⟩ : I64), Str.none⟩ : ValV)⟩ : OpdV), (⟨5, by decide, by decide⟩ : I64), (⟨Str.none, Str.none, (⟨(⟨1, by decide, by decide⟩ : I64), (⟨3, by decide, by decide⟩ : I64), Str.none⟩ : ValV)⟩ : OpdV)⟩ : CondV)).length) ((namesV (⟨(⟨Str.none, (⟨⟨#[120]⟩, by decide⟩ : Str), (⟨(⟨0, by decide, by decide⟩ : I64), (⟨0, by decide, by decide⟩ : I64), Str.none⟩ : ValV)⟩ : OpdV), (⟨5, by decide, by decide⟩ : I64), (⟨Str.none, Str.none, (⟨(⟨1, by decide, by decide⟩ : I64), (⟨3, by decide, by decide⟩ : I64), Str.none⟩ : ValV)⟩ : OpdV)⟩ : CondV)).flatMap strCell) :: Im 11 (.slice (some ⟨bk22, 0, none⟩) 1 1) 1 ([(⟨(⟨Str.none, (⟨⟨#[120]⟩, by decide⟩ : Str), (⟨(⟨0, by decide, by decide⟩ : I64), (⟨0, by decide, by decide⟩ : I64), Str.none⟩ : ValV)⟩ : OpdV), (⟨5, by decide, by decide⟩ : I64), (⟨Str.none, Str.none, (⟨(⟨1, by decide, by decide⟩ : I64), (⟨3, by decide, by decide⟩ : I64), Str.none⟩ : ValV)⟩ : OpdV)⟩ : CondV)].flatMap condCell) :: Attrs (.slice none 0 0) [] :: blk bk9 (.cells #[.int .i64 0, .int .i64 0, .int .i64 0, .string (⟨#[65]⟩), .slice (some ⟨bk6, 0, none⟩) 1 1] 36 (0, 0)) :: Attrs (.slice (some ⟨bk6, 0, none⟩) 1 1) [(⟨(⟨⟨#[120]⟩, by decide⟩ : Str), (⟨1, by decide, by decide⟩ : I64), (⟨5, by decide, by decide⟩ : I64), Str.none⟩ : AttrV)] :: blk bk1 (.cells #[.string ByteArray.empty, .string (⟨#[120]⟩), .int .i64 0, .int .i64 0, .string ByteArray.empty, .int .i64 5, .string ByteArray.empty, .string ByteArray.empty, .int .i64 1, .int .i64 3, .string ByteArray.empty] 27 (0, 0)) :: F) := H37
  have H39 : St W w35 (Im 1 (.slice (some ⟨bk34, 0, none⟩) 1 1) 1 ([Str.none].flatMap strCell) :: Im 1 (.slice pp30 ((namesV (⟨(⟨Str.none, (⟨⟨#[120]⟩, by decide⟩ : Str), (⟨(⟨0, by decide, by decide⟩ : I64), (⟨0, by decide, by decide⟩ : I64), Str.none⟩ : ValV)⟩ : OpdV), (⟨5, by decide, by decide⟩ : I64), (⟨Str.none, Str.none, (⟨(⟨1, by decide, by decide⟩ : I64), (⟨3, by decide, by decide⟩ : I64), Str.none⟩ : ValV)⟩ : OpdV)⟩ : CondV)).length) cc31) ((namesV (⟨(⟨Str.none, (⟨⟨#[120]⟩, by decide⟩ : Str), (⟨(⟨0, by decide, by decide⟩ : I64), (⟨0, by decide, by decide⟩ : I64), Str.none⟩ : ValV)⟩ : OpdV), (⟨5, by decide, by decide⟩ : I64), (⟨Str.none, Str.none, (⟨(⟨1, by decide, by decide⟩ : I64), (⟨3, by decide, by decide⟩ : I64), Str.none⟩ : ValV)⟩ : OpdV)⟩ : CondV)).length) ((namesV (⟨(⟨Str.none, (⟨⟨#[120]⟩, by decide⟩ : Str), (⟨(⟨0, by decide, by decide⟩ : I64), (⟨0, by decide, by decide⟩ : I64), Str.none⟩ : ValV)⟩ : OpdV), (⟨5, by decide, by decide⟩ : I64), (⟨Str.none, Str.none, (⟨(⟨1, by decide, by decide⟩ : I64), (⟨3, by decide, by decide⟩ : I64), Str.none⟩ : ValV)⟩ : OpdV)⟩ : CondV)).flatMap strCell) :: Im 11 (.slice (some ⟨bk22, 0, none⟩) 1 1) 1 ([(⟨(⟨Str.none, (⟨⟨#[120]⟩, by decide⟩ : Str), (⟨(⟨0, by decide, by decide⟩ : I64), (⟨0, by decide, by decide⟩ : I64), Str.none⟩ : ValV)⟩ : OpdV), (⟨5, by decide, by decide⟩ : I64), (⟨Str.none, Str.none, (⟨(⟨1, by decide, by decide⟩ : I64), (⟨3, by decide, by decide⟩ : I64), Str.none⟩ : ValV)⟩ : OpdV)⟩ : CondV)].flatMap condCell) :: Attrs (.slice none 0 0) [] :: blk bk9 (.cells #[.int .i64 0, .int .i64 0, .int .i64 0, .string (⟨#[65]⟩), .slice (some ⟨bk6, 0, none⟩) 1 1] 36 (0, 0)) :: Attrs (.slice (some ⟨bk6, 0, none⟩) 1 1) [(⟨(⟨⟨#[120]⟩, by decide⟩ : Str), (⟨1, by decide, by decide⟩ : I64), (⟨5, by decide, by decide⟩ : I64), Str.none⟩ : AttrV)] :: blk bk1 (.cells #[.string ByteArray.empty, .string (⟨#[120]⟩), .int .i64 0, .int .i64 0, .string ByteArray.empty, .int .i64 5, .string ByteArray.empty, .string ByteArray.empty, .int .i64 1, .int .i64 3, .string ByteArray.empty] 27 (0, 0)) :: F) := Row.im H38 (i := 0) rfl
  refine s_call [.slice pp30 ((namesV (⟨(⟨Str.none, (⟨⟨#[120]⟩, by decide⟩ : Str), (⟨(⟨0, by decide, by decide⟩ : I64), (⟨0, by decide, by decide⟩ : I64), Str.none⟩ : ValV)⟩ : OpdV), (⟨5, by decide, by decide⟩ : I64), (⟨Str.none, Str.none, (⟨(⟨1, by decide, by decide⟩ : I64), (⟨3, by decide, by decide⟩ : I64), Str.none⟩ : ValV)⟩ : OpdV)⟩ : CondV)).length) cc31, .slice (some ⟨bk34, 0, none⟩) 1 1] pl_19 rfl rfl (Equal_str (namesV (⟨(⟨Str.none, (⟨⟨#[120]⟩, by decide⟩ : Str), (⟨(⟨0, by decide, by decide⟩ : I64), (⟨0, by decide, by decide⟩ : I64), Str.none⟩ : ValV)⟩ : OpdV), (⟨5, by decide, by decide⟩ : I64), (⟨Str.none, Str.none, (⟨(⟨1, by decide, by decide⟩ : I64), (⟨3, by decide, by decide⟩ : I64), Str.none⟩ : ValV)⟩ : OpdV)⟩ : CondV)) [Str.none] (.slice pp30 ((namesV (⟨(⟨Str.none, (⟨⟨#[120]⟩, by decide⟩ : Str), (⟨(⟨0, by decide, by decide⟩ : I64), (⟨0, by decide, by decide⟩ : I64), Str.none⟩ : ValV)⟩ : OpdV), (⟨5, by decide, by decide⟩ : I64), (⟨Str.none, Str.none, (⟨(⟨1, by decide, by decide⟩ : I64), (⟨3, by decide, by decide⟩ : I64), Str.none⟩ : ValV)⟩ : OpdV)⟩ : CondV)).length) cc31) (.slice (some ⟨bk34, 0, none⟩) 1 1) (m := 1) rfl (n := 0) rfl H39) ?_
  rintro _ w40 ⟨rfl, H41⟩
  refine r_cons (s_pick_t (.bool (eqS (namesV (⟨(⟨Str.none, (⟨⟨#[120]⟩, by decide⟩ : Str), (⟨(⟨0, by decide, by decide⟩ : I64), (⟨0, by decide, by decide⟩ : I64), Str.none⟩ : ValV)⟩ : OpdV), (⟨5, by decide, by decide⟩ : I64), (⟨Str.none, Str.none, (⟨(⟨1, by decide, by decide⟩ : I64), (⟨3, by decide, by decide⟩ : I64), Str.none⟩ : ValV)⟩ : OpdV)⟩ : CondV)) [Str.none])) (by exact congrArg Value.bool (show (termB 1 (⟨#[65]⟩) [(⟨(⟨Str.none, (⟨⟨#[120]⟩, by decide⟩ : Str), (⟨(⟨0, by decide, by decide⟩ : I64), (⟨0, by decide, by decide⟩ : I64), Str.none⟩ : ValV)⟩ : OpdV), (⟨5, by decide, by decide⟩ : I64), (⟨Str.none, Str.none, (⟨(⟨1, by decide, by decide⟩ : I64), (⟨3, by decide, by decide⟩ : I64), Str.none⟩ : ValV)⟩ : OpdV)⟩ : CondV)] (⟨(⟨0, by decide, by decide⟩ : I64), (⟨0, by decide, by decide⟩ : I64), (⟨0, by decide, by decide⟩ : I64), (⟨⟨#[65]⟩, by decide⟩ : Str), [(⟨(⟨⟨#[120]⟩, by decide⟩ : Str), (⟨1, by decide, by decide⟩ : I64), (⟨5, by decide, by decide⟩ : I64), Str.none⟩ : AttrV)]⟩ : EvM)) = true from by decide +kernel)) rfl rfl ?_)
  refine r_cons (s_assign (.bool (eqS (namesV (⟨(⟨Str.none, (⟨⟨#[120]⟩, by decide⟩ : Str), (⟨(⟨0, by decide, by decide⟩ : I64), (⟨0, by decide, by decide⟩ : I64), Str.none⟩ : ValV)⟩ : OpdV), (⟨5, by decide, by decide⟩ : I64), (⟨Str.none, Str.none, (⟨(⟨1, by decide, by decide⟩ : I64), (⟨3, by decide, by decide⟩ : I64), Str.none⟩ : ValV)⟩ : OpdV)⟩ : CondV)) [Str.none])) rfl rfl ?_)
  refine r_nil ?_
  refine g_ret' [.bool (eqS (namesV (⟨(⟨Str.none, (⟨⟨#[120]⟩, by decide⟩ : Str), (⟨(⟨0, by decide, by decide⟩ : I64), (⟨0, by decide, by decide⟩ : I64), Str.none⟩ : ValV)⟩ : OpdV), (⟨5, by decide, by decide⟩ : I64), (⟨Str.none, Str.none, (⟨(⟨1, by decide, by decide⟩ : I64), (⟨3, by decide, by decide⟩ : I64), Str.none⟩ : ValV)⟩ : OpdV)⟩ : CondV)) [Str.none])] Try.func8 Try.results8 ⟨rfl, trivial⟩ ?_
  have H42 : St W w40 F := (((((((H41.drop 0 rfl).drop 0 rfl).drop 0 rfl).drop 0 rfl).drop 0 rfl).drop 0 rfl).drop 0 rfl)
  exact ⟨congrArg Value.bool (show eqS (namesV (⟨(⟨Str.none, (⟨⟨#[120]⟩, by decide⟩ : Str), (⟨(⟨0, by decide, by decide⟩ : I64), (⟨0, by decide, by decide⟩ : I64), Str.none⟩ : ValV)⟩ : OpdV), (⟨5, by decide, by decide⟩ : I64), (⟨Str.none, Str.none, (⟨(⟨1, by decide, by decide⟩ : I64), (⟨3, by decide, by decide⟩ : I64), Str.none⟩ : ValV)⟩ : OpdV)⟩ : CondV)) [Str.none] = true from by decide +kernel), H42⟩
set_option maxHeartbeats 4000000 in
set_option maxRecDepth 100000 in
theorem Grow_bnd {W w : World} {F : List Atom} (m : Nat) (hm : m * 80 ≤ 281474976710656) (H : St W w F) : Calls Try.prog 45 #[.slice none 0 0, .int .i64 (m : Int)] w (Ret fun v w' => ∃ p c, v = .slice p 0 c ∧ m ≤ c ∧ St W w' (Row 61 6 (.slice p 0 c) 0 [] :: F)) := by
  refine calls_of_go (n := 27) Try.func45 rfl Try.ntmps45 rfl ?_
  refine g_seq ?_
  refine g_region ?_
  refine r_cons (s_assign (.slice none 0 0) rfl rfl ?_)
  refine r_nil ?_
  refine g_seq ?_
  refine g_seq ?_
  refine g_region ?_
  refine r_cons (s_move (.int .i64 (m : Int)) rfl rfl ?_)
  refine r_cons (s_lss false rfl rfl (dfalse (by omega)) rfl ?_)
  refine r_nil ?_
  refine g_false rfl ?_
  refine g_skip ?_
  refine g_seq ?_
  refine g_seq ?_
  refine g_region ?_
  refine r_cons (s_move (.int .i64 (m : Int)) rfl rfl ?_)
  refine r_cons (s_move (.slice none 0 0) rfl rfl ?_)
  refine r_cons (s_cap 0 rfl ⟨_, un_41⟩ rfl ?_)
  refine r_cons (s_move (.slice none 0 0) rfl rfl ?_)
  refine r_cons (s_len 0 rfl ⟨_, un_41⟩ rfl ?_)
  refine r_cons (s_sub 0 rfl rfl (wi64 (by omega)) rfl ?_)
  refine r_cons (s_sub (m : Int) rfl rfl (by rw [show (m : Int) - 0 = m from by omega]; exact wi64 (by omega)) rfl ?_)
  refine r_cons (s_assign (.int .i64 (m : Int)) rfl rfl ?_)
  refine r_nil ?_
  refine g_seq ?_
  refine g_region ?_
  refine r_cons (s_move (.int .i64 (m : Int)) rfl rfl ?_)
  by_cases hc1 : (0 : Int) < (m : Int)
  · skip
    refine r_cons (s_gtr true rfl rfl (dtrue hc1) rfl ?_)
    refine r_nil ?_
    refine g_true rfl ?_
    refine g_region ?_
    refine r_cons (s_move (.slice none 0 0) rfl rfl ?_)
    refine r_cons (s_move (.slice none 0 0) rfl rfl ?_)
    refine r_cons (s_cap 0 rfl ⟨_, un_41⟩ rfl ?_)
    refine r_cons (s_slice_h none 0 6 (.slice none 0 0) rfl rfl el_41 (by omega) rfl rfl ?_)
    refine r_cons (s_move (.int .i64 (m : Int)) rfl rfl ?_)
    refine r_cons (s_append0n (m := m) H (by omega) rfl rfl un_41 un_3 in_61 rfl (by decide) (by decide) (by unfold maxLen; omega) (by omega) rfl ?_); intro g2 c3 cur4 w5 H6 h7 h8 h9
    refine r_cons (s_move (.slice none 0 0) rfl rfl ?_)
    refine r_cons (s_len 0 rfl ⟨_, un_41⟩ rfl ?_)
    refine r_cons (s_slice_h (some ⟨g2, 0, none⟩) 0 6 (.slice (some ⟨g2, 0, none⟩) 0 c3) rfl rfl el_41 (by omega) rfl rfl ?_)
    refine r_cons (s_assign (.slice (some ⟨g2, 0, none⟩) 0 c3) rfl rfl ?_)
    refine r_nil ?_
    refine g_seq ?_
    refine g_region ?_
    refine r_cons (s_move (.slice (some ⟨g2, 0, none⟩) 0 c3) rfl rfl ?_)
    refine r_cons (s_assign (.slice (some ⟨g2, 0, none⟩) 0 c3) rfl rfl ?_)
    refine r_nil ?_
    refine g_ret' [.slice (some ⟨g2, 0, none⟩) 0 c3] Try.func45 Try.results45 ⟨rfl, trivial⟩ ?_
    have H11 : St W w5 (blk g2 (.cells cur4 61 (0, 0)) :: F) := H6
    exact ⟨_, _, rfl, h7, Row.cut (n := 0) (m := 0) (c := c3) (size := 6) (xs := []) H11 (i := 0) rfl (Nat.zero_le _) h8 h9 (by simp) (fun _ h => nomatch h)⟩
  · skip
    refine r_cons (s_gtr false rfl rfl (dfalse hc1) rfl ?_)
    refine r_nil ?_
    refine g_false rfl ?_
    refine g_skip ?_
    refine g_seq ?_
    refine g_region ?_
    refine r_cons (s_move (.slice none 0 0) rfl rfl ?_)
    refine r_cons (s_assign (.slice none 0 0) rfl rfl ?_)
    refine r_nil ?_
    refine g_ret' [.slice none 0 0] Try.func45 Try.results45 ⟨rfl, trivial⟩ ?_
    have H12 : St W w F := H
    exact ⟨none, 0, rfl, by omega, Row.nil_intro H12 61 6⟩
set_option maxHeartbeats 4000000 in
set_option maxRecDepth 100000 in
theorem Concat_bnd {W w : World} {F : List Atom} (bs ms : List BoundD) (p1 p2 : Option Addr) (c1 c2 g : Nat) (hbb : (bs.length + ms.length) * 80 ≤ 281474976710656) {i : Nat} (hi : F[i]? = some (blk g (.cells #[.slice p1 bs.length c1, .slice p2 ms.length c2] 41 (0, 0)))) {i1 i2 : Nat} (h1 : F[i1]? = some (Im 6 (.slice p1 bs.length c1) bs.length (bs.flatMap bndCell))) (h2 : F[i2]? = some (Im 6 (.slice p2 ms.length c2) ms.length (ms.flatMap bndCell))) (H : St W w F) : Calls Try.prog 27 #[.slice (some ⟨g, 0, none⟩) 2 2] w (Ret fun v w' => ∃ p c, v = .slice p (bs ++ ms).length c ∧ St W w' (Im 6 (.slice p (bs ++ ms).length c) (bs ++ ms).length ((bs ++ ms).flatMap bndCell) :: F)) := by
  have H0 := ((H.dup h1 (Im_pers _ _ _ _)).dup (i := i2 + 1) (by exact h2) (Im_pers _ _ _ _)).front (i := i + 2) (by exact hi)
  have H1 : St W w (blk g (.cells #[.slice p1 bs.length c1, .slice p2 ms.length c2] 41 (0, 0)) :: Im 6 (.slice p2 ms.length c2) ms.length (ms.flatMap bndCell) :: Im 6 (.slice p1 bs.length c1) bs.length (bs.flatMap bndCell) :: (F.set i emp)) := H0
  refine calls_of_go (n := 36) Try.func27 rfl Try.ntmps27 rfl ?_
  refine g_seq ?_
  refine g_region ?_
  refine r_cons (s_assign (.slice none 0 0) rfl rfl ?_)
  refine r_nil ?_
  refine g_seq ?_
  refine g_region ?_
  refine r_cons (s_assign (.int .i64 0) rfl rfl ?_)
  refine r_nil ?_
  refine g_seq ?_
  refine g_seq ?_
  refine g_region ?_
  refine r_cons (s_move (.slice (some ⟨g, 0, none⟩) 2 2) rfl rfl ?_)
  refine r_cons (s_len 2 rfl ⟨_, un_80⟩ rfl ?_)
  refine r_cons (s_move (.int .i64 0) rfl rfl ?_)
  refine r_nil ?_
  refine g_block ?_
  refine g_loop ?_
  refine g_seq ?_
  refine g_region ?_
  refine r_cons (s_lss true rfl rfl (dtrue (by decide)) rfl ?_)
  refine r_nil ?_
  refine g_seq ?_
  refine g_true rfl ?_
  refine g_skip ?_
  refine g_seq ?_
  refine g_block ?_
  refine g_seq ?_
  refine g_region ?_
  refine r_cons (s_indexAddr g 0 1 0 rfl rfl el_80 (by omega) rfl rfl ?_)
  refine r_cons (s_load (.slice p1 bs.length c1) ag_41 rfl (H1.blk_at (i := 0) rfl) rfl rfl ?_)
  refine r_cons (s_assign (.slice p1 bs.length c1) rfl rfl ?_)
  refine r_nil ?_
  refine g_seq ?_
  refine g_region ?_
  refine r_cons (s_move (.int .i64 0) rfl rfl ?_)
  refine r_cons (s_move (.slice p1 bs.length c1) rfl rfl ?_)
  refine r_cons (s_len bs.length rfl ⟨_, un_41⟩ rfl ?_)
  refine r_cons (s_add (0 + (bs.length : Int)) rfl rfl (wi64 (by omega)) rfl ?_)
  refine r_cons (s_assign (.int .i64 (0 + (bs.length : Int))) rfl rfl ?_)
  refine r_nil ?_
  refine g_seq ?_
  refine g_region ?_
  refine r_cons (s_move (.int .i64 (0 + (bs.length : Int))) rfl rfl ?_)
  refine r_cons (s_lss false rfl rfl (dfalse (by omega)) rfl ?_)
  refine r_nil ?_
  refine g_false rfl ?_
  refine g_skip ?_
  refine g_inBlock ?_
  refine g_region ?_
  refine r_cons (s_add 1 rfl rfl (wi64 (by omega)) rfl ?_)
  refine r_cons (s_move (.int .i64 1) rfl rfl ?_)
  refine r_nil ?_
  refine g_inLoop ?_
  refine g_seq ?_
  refine g_region ?_
  refine r_cons (s_lss true rfl rfl (dtrue (by decide)) rfl ?_)
  refine r_nil ?_
  refine g_seq ?_
  refine g_true rfl ?_
  refine g_skip ?_
  refine g_seq ?_
  refine g_block ?_
  refine g_seq ?_
  refine g_region ?_
  refine r_cons (s_indexAddr g 1 1 1 rfl rfl el_80 (by omega) rfl rfl ?_)
  refine r_cons (s_load (.slice p2 ms.length c2) ag_41 rfl (H1.blk_at (i := 0) rfl) rfl rfl ?_)
  refine r_cons (s_assign (.slice p2 ms.length c2) rfl rfl ?_)
  refine r_nil ?_
  refine g_seq ?_
  refine g_region ?_
  refine r_cons (s_move (.int .i64 (0 + (bs.length : Int))) rfl rfl ?_)
  refine r_cons (s_move (.slice p2 ms.length c2) rfl rfl ?_)
  refine r_cons (s_len ms.length rfl ⟨_, un_41⟩ rfl ?_)
  refine r_cons (s_add (0 + (bs.length : Int) + (ms.length : Int)) rfl rfl (wi64 (by omega)) rfl ?_)
  refine r_cons (s_assign (.int .i64 (0 + (bs.length : Int) + (ms.length : Int))) rfl rfl ?_)
  refine r_nil ?_
  refine g_seq ?_
  refine g_region ?_
  refine r_cons (s_move (.int .i64 (0 + (bs.length : Int) + (ms.length : Int))) rfl rfl ?_)
  refine r_cons (s_lss false rfl rfl (dfalse (by omega)) rfl ?_)
  refine r_nil ?_
  refine g_false rfl ?_
  refine g_skip ?_
  refine g_inBlock ?_
  refine g_region ?_
  refine r_cons (s_add 2 rfl rfl (wi64 (by omega)) rfl ?_)
  refine r_cons (s_move (.int .i64 2) rfl rfl ?_)
  refine r_nil ?_
  refine g_inLoop ?_
  refine g_seq ?_
  refine g_region ?_
  refine r_cons (s_lss false rfl rfl (dfalse (by decide)) rfl ?_)
  refine r_nil ?_
  refine g_seq ?_
  refine g_false rfl ?_
  refine g_exit (by rfl) ?_
  refine g_seq ?_
  refine g_region ?_
  refine r_cons (s_move (.int .i64 (0 + (bs.length : Int) + (ms.length : Int))) rfl rfl ?_)
  refine r_cons (s_call [.slice none 0 0, .int .i64 (0 + (bs.length : Int) + (ms.length : Int))] pl_45 rfl rfl (Grow_bnd (0 + bs.length + ms.length) (by omega) H1) ?_)
  rintro _ w5 ⟨pp2, cc3, rfl, hg4, H6⟩
  refine r_cons (s_assign (.slice pp2 0 cc3) rfl rfl ?_)
  refine r_nil ?_
  refine g_seq ?_
  refine g_seq ?_
  refine g_region ?_
  refine r_cons (s_move (.slice (some ⟨g, 0, none⟩) 2 2) rfl rfl ?_)
  refine r_cons (s_len 2 rfl ⟨_, un_80⟩ rfl ?_)
  refine r_cons (s_move (.int .i64 0) rfl rfl ?_)
  refine r_nil ?_
  refine g_block ?_
  refine g_loop ?_
  refine g_seq ?_
  refine g_region ?_
  refine r_cons (s_lss true rfl rfl (dtrue (by decide)) rfl ?_)
  refine r_nil ?_
  refine g_seq ?_
  refine g_true rfl ?_
  refine g_skip ?_
  refine g_seq ?_
  refine g_block ?_
  refine g_seq ?_
  refine g_region ?_
  refine r_cons (s_indexAddr g 0 1 0 rfl rfl el_80 (by omega) rfl rfl ?_)
  refine r_cons (s_load (.slice p1 bs.length c1) ag_41 rfl (H6.blk_at (i := 1) rfl) rfl rfl ?_)
  refine r_cons (s_assign (.slice p1 bs.length c1) rfl rfl ?_)
  refine r_nil ?_
  refine g_region ?_
  refine r_cons (s_move (.slice pp2 0 cc3) rfl rfl ?_)
  refine r_cons (s_move (.slice p1 bs.length c1) rfl rfl ?_)
  refine r_cons (s_append_room H6 0 rfl (by omega) rfl rfl (Im.rd H6 (i := 3) rfl) ap_41 (by decide) (by unfold maxLen; omega) (n' := bs.length) (xs' := bs.flatMap bndCell) (by omega) (by first | rfl | simp) rfl ?_); intro w7 H8
  refine r_cons (s_assign (.slice pp2 bs.length cc3) rfl rfl ?_)
  refine r_nil ?_
  refine g_inBlock ?_
  refine g_region ?_
  refine r_cons (s_add 1 rfl rfl (wi64 (by omega)) rfl ?_)
  refine r_cons (s_move (.int .i64 1) rfl rfl ?_)
  refine r_nil ?_
  refine g_inLoop ?_
  refine g_seq ?_
  refine g_region ?_
  refine r_cons (s_lss true rfl rfl (dtrue (by decide)) rfl ?_)
  refine r_nil ?_
  refine g_seq ?_
  refine g_true rfl ?_
  refine g_skip ?_
  refine g_seq ?_
  refine g_block ?_
  refine g_seq ?_
  refine g_region ?_
  refine r_cons (s_indexAddr g 1 1 1 rfl rfl el_80 (by omega) rfl rfl ?_)
  refine r_cons (s_load (.slice p2 ms.length c2) ag_41 rfl (H8.blk_at (i := 1) rfl) rfl rfl ?_)
  refine r_cons (s_assign (.slice p2 ms.length c2) rfl rfl ?_)
  refine r_nil ?_
  refine g_region ?_
  refine r_cons (s_move (.slice pp2 bs.length cc3) rfl rfl ?_)
  refine r_cons (s_move (.slice p2 ms.length c2) rfl rfl ?_)
  refine r_cons (s_append_room H8 0 rfl (by omega) rfl rfl (Im.rd H8 (i := 2) rfl) ap_41 (by decide) (by unfold maxLen; omega) (n' := bs.length + ms.length) (xs' := bs.flatMap bndCell ++ ms.flatMap bndCell) (by omega) (by first | rfl | simp) rfl ?_); intro w9 H10
  refine r_cons (s_assign (.slice pp2 (bs.length + ms.length) cc3) rfl rfl ?_)
  refine r_nil ?_
  refine g_inBlock ?_
  refine g_region ?_
  refine r_cons (s_add 2 rfl rfl (wi64 (by omega)) rfl ?_)
  refine r_cons (s_move (.int .i64 2) rfl rfl ?_)
  refine r_nil ?_
  refine g_inLoop ?_
  refine g_seq ?_
  refine g_region ?_
  refine r_cons (s_lss false rfl rfl (dfalse (by decide)) rfl ?_)
  refine r_nil ?_
  refine g_seq ?_
  refine g_false rfl ?_
  refine g_exit (by rfl) ?_
  refine g_seq ?_
  refine g_region ?_
  refine r_cons (s_move (.slice pp2 (bs.length + ms.length) cc3) rfl rfl ?_)
  refine r_cons (s_assign (.slice pp2 (bs.length + ms.length) cc3) rfl rfl ?_)
  refine r_nil ?_
  refine g_ret' [.slice pp2 (bs.length + ms.length) cc3] Try.func27 Try.results27 ⟨rfl, trivial⟩ ?_
  have H11 : St W w9 (blk g (.cells #[.slice p1 bs.length c1, .slice p2 ms.length c2] 41 (0, 0)) :: Row 61 6 (.slice pp2 (bs.length + ms.length) cc3) (bs.length + ms.length) (bs.flatMap bndCell ++ ms.flatMap bndCell) :: (F.set i emp)) := (((H10.move 1 rfl).drop 2 rfl).drop 2 rfl)
  have H12 : St W w9 (Row 61 6 (.slice pp2 ((bs ++ ms).length) cc3) (bs ++ ms).length ((bs ++ ms).flatMap bndCell) :: F) := by
    have h9 : St W w9 (blk g (.cells #[.slice p1 bs.length c1, .slice p2 ms.length c2] 41 (0, 0)) :: (Row 61 6 (.slice pp2 (bs.length + ms.length) cc3) (bs.length + ms.length) (bs.flatMap bndCell ++ ms.flatMap bndCell) :: F).set (i + 1) emp) := H11
    have h8 := St.back_same (i := i + 1) (by exact hi) h9
    rw [List.length_append, List.flatMap_append]; exact h8
  exact ⟨pp2, cc3, by rw [List.length_append]; rfl, Row.im H12 (i := 0) rfl⟩
set_option maxHeartbeats 4000000 in
set_option maxRecDepth 100000 in
theorem PredOnce_ {W w : World} {F : List Atom} (c : CondV) (bs : List BoundD) (bv : Value) (ms : List BoundD) (mv : Value) {ip : Nat} (hp : F[ip]? = some (Im 6 bv bs.length (bs.flatMap bndCell))) {iq : Nat} (hq : F[iq]? = some (bndsA bs)) {ip2 : Nat} (hp2 : F[ip2]? = some (Im 6 mv ms.length (ms.flatMap bndCell))) {iq2 : Nat} (hq2 : F[iq2]? = some (bndsA ms)) (hbb : (bs.length + ms.length) * 80 ≤ 281474976710656) (H : St W w F) : Calls Try.prog 7 #[.agg #[.string c.left.var.v, .string c.left.attr.v, .int .i64 c.left.val.kind.v, .int .i64 c.left.val.n.v, .string c.left.val.s.v, .int .i64 c.rel.v, .string c.right.var.v, .string c.right.attr.v, .int .i64 c.right.val.kind.v, .int .i64 c.right.val.n.v, .string c.right.val.s.v], .agg #[bv], .agg #[mv]] w (Ret fun v w' => v = .bool true ∧ St W w' F) := by
  obtain ⟨pp1, cc2, rfl, hn3⟩ := Rd.shape (Im.rd H (i := ip) hp)
  have H4 := H.dup (i := ip + 0) (by exact hp) (Im_pers _ _ _ _)
  have H5 : St W w (Im 6 (.slice pp1 bs.length cc2) bs.length (bs.flatMap bndCell) :: F) := H4
  have H6 := H5.dup (i := iq + 1) (by exact hq) (bndsA_pers _)
  have H7 : St W w (bndsA bs :: Im 6 (.slice pp1 bs.length cc2) bs.length (bs.flatMap bndCell) :: F) := H6
  obtain ⟨pp8, cc9, rfl, hn10⟩ := Rd.shape (Im.rd H (i := ip2) hp2)
  have H11 := H7.dup (i := ip2 + 2) (by exact hp2) (Im_pers _ _ _ _)
  have H12 : St W w (Im 6 (.slice pp8 ms.length cc9) ms.length (ms.flatMap bndCell) :: bndsA bs :: Im 6 (.slice pp1 bs.length cc2) bs.length (bs.flatMap bndCell) :: F) := H11
  have H13 := H12.dup (i := iq2 + 3) (by exact hq2) (bndsA_pers _)
  have H14 : St W w (bndsA ms :: Im 6 (.slice pp8 ms.length cc9) ms.length (ms.flatMap bndCell) :: bndsA bs :: Im 6 (.slice pp1 bs.length cc2) bs.length (bs.flatMap bndCell) :: F) := H13
  refine calls_of_go (n := 47) Try.func7 rfl Try.ntmps7 rfl ?_
  refine g_seq ?_
  refine g_region ?_
  refine r_cons (s_box H14 27 (.agg #[.string c.left.var.v, .string c.left.attr.v, .int .i64 c.left.val.kind.v, .int .i64 c.left.val.n.v, .string c.left.val.s.v, .int .i64 c.rel.v, .string c.right.var.v, .string c.right.attr.v, .int .i64 c.right.val.kind.v, .int .i64 c.right.val.n.v, .string c.right.val.s.v]) rfl (cs := #[.string c.left.var.v, .string c.left.attr.v, .int .i64 c.left.val.kind.v, .int .i64 c.left.val.n.v, .string c.left.val.s.v, .int .i64 c.rel.v, .string c.right.var.v, .string c.right.attr.v, .int .i64 c.right.val.kind.v, .int .i64 c.right.val.n.v, .string c.right.val.s.v]) rfl rfl ?_); intro bk15 w16 H17
  refine r_cons (s_box H17 43 (.agg #[.slice pp1 bs.length cc2]) rfl (cs := #[.slice pp1 bs.length cc2]) rfl rfl ?_); intro bk18 w19 H20
  refine r_cons (s_box H20 43 (.agg #[.slice pp8 ms.length cc9]) rfl (cs := #[.slice pp8 ms.length cc9]) rfl rfl ?_); intro bk21 w22 H23
  refine r_cons (s_assign (.bool false) rfl rfl ?_)
  refine r_nil ?_
  refine g_seq ?_
  refine g_region ?_
  refine r_cons (s_assign (.slice none 0 0) rfl rfl ?_)
  refine r_nil ?_
  refine g_seq ?_
  refine g_seq ?_
  refine g_region ?_
  refine r_cons (s_fieldAddr 43 0 0 0 41 rfl fi_43_0 rfl rfl ?_)
  refine r_cons (s_load (.slice pp1 bs.length cc2) ag_41 rfl (H23.blk_at (i := 1) rfl) rfl rfl ?_)
  refine r_cons (s_len bs.length rfl ⟨_, un_41⟩ rfl ?_)
  refine r_cons (s_move (.int .i64 0) rfl rfl ?_)
  refine r_nil ?_
  refine g_block ?_
  obtain ⟨pA24, cA25, gA26, oA27, kA28, eA29, zA30, he36, hn31, hp32, hx33, hs34, hml, H35⟩ := Im.open_ H23 (i := 6) rfl
  obtain ⟨rfl, rfl⟩ : pp1 = pA24 ∧ cc2 = cA25 := by injection he36 with a_ b_ c_; exact ⟨a_, c_⟩
  have H37 := Row.nil_intro H35 9 1
  have H38 : St W w22 (Row 9 1 (.slice none 0 0) 0 (((bs.take 0).map BoundD.var).flatMap strCell) :: imi (0 < bs.length) gA26 (.cells kA28 eA29 zA30) :: blk bk21 (.cells #[.slice pp8 ms.length cc9] 43 (0, 0)) :: blk bk18 (.cells #[.slice pp1 bs.length cc2] 43 (0, 0)) :: blk bk15 (.cells #[.string c.left.var.v, .string c.left.attr.v, .int .i64 c.left.val.kind.v, .int .i64 c.left.val.n.v, .string c.left.val.s.v, .int .i64 c.rel.v, .string c.right.var.v, .string c.right.attr.v, .int .i64 c.right.val.kind.v, .int .i64 c.right.val.n.v, .string c.right.val.s.v] 27 (0, 0)) :: bndsA ms :: Im 6 (.slice pp8 ms.length cc9) ms.length (ms.flatMap bndCell) :: bndsA bs :: Im 6 (.slice pp1 bs.length cc2) bs.length (bs.flatMap bndCell) :: F) := H37
  have H39 : St W w22 (Row 9 1 (.slice none 0 0) 0 (((bs.take 0).map BoundD.var).flatMap strCell) :: imi (0 < bs.length) gA26 (.cells kA28 eA29 zA30) :: blk bk21 (.cells #[.slice pp8 ms.length cc9] 43 (0, 0)) :: blk bk18 (.cells #[.slice pp1 bs.length cc2] 43 (0, 0)) :: blk bk15 (.cells #[.string c.left.var.v, .string c.left.attr.v, .int .i64 c.left.val.kind.v, .int .i64 c.left.val.n.v, .string c.left.val.s.v, .int .i64 c.rel.v, .string c.right.var.v, .string c.right.attr.v, .int .i64 c.right.val.kind.v, .int .i64 c.right.val.n.v, .string c.right.val.s.v] 27 (0, 0)) :: bndsA ms :: Im 6 (.slice pp8 ms.length cc9) ms.length (ms.flatMap bndCell) :: bndsA bs :: Im 6 (.slice pp1 bs.length cc2) bs.length (bs.flatMap bndCell) :: F) := (((((((((H38.move 8 rfl).move 8 rfl).move 8 rfl).move 8 rfl).move 8 rfl).move 8 rfl).move 8 rfl).move 8 rfl).move 8 rfl)
  refine g_loop_inv (fun (x_ : Nat × (Option Addr) × Nat) => match x_ with | (j, p, q) => [(3, .pointer (some ⟨bk15, 0, none⟩)), (4, .pointer (some ⟨bk18, 0, none⟩)), (5, .pointer (some ⟨bk21, 0, none⟩)), (6, .bool false), (7, .slice p j q), (12, .slice pp1 bs.length cc2), (13, .int .i64 (bs.length : Int)), (14, .int .i64 (j : Int))]) (fun (x_ : Nat × (Option Addr) × Nat) w => match x_ with | (j, p, q) => (j ≤ bs.length) ∧ St W w (Row 9 1 (.slice p j q) j (((bs.take j).map BoundD.var).flatMap strCell) :: imi (0 < bs.length) gA26 (.cells kA28 eA29 zA30) :: blk bk21 (.cells #[.slice pp8 ms.length cc9] 43 (0, 0)) :: blk bk18 (.cells #[.slice pp1 bs.length cc2] 43 (0, 0)) :: blk bk15 (.cells #[.string c.left.var.v, .string c.left.attr.v, .int .i64 c.left.val.kind.v, .int .i64 c.left.val.n.v, .string c.left.val.s.v, .int .i64 c.rel.v, .string c.right.var.v, .string c.right.attr.v, .int .i64 c.right.val.kind.v, .int .i64 c.right.val.n.v, .string c.right.val.s.v] 27 (0, 0)) :: bndsA ms :: Im 6 (.slice pp8 ms.length cc9) ms.length (ms.flatMap bndCell) :: bndsA bs :: Im 6 (.slice pp1 bs.length cc2) bs.length (bs.flatMap bndCell) :: F)) (fun (x_ : Nat × (Option Addr) × Nat) => match x_ with | (j, p, q) => bs.length - j) (0, none, 0) ?_ ?_ ?_
  · exact ⟨by first | rfl | exact vint (by omega), by first | rfl | exact vint (by omega), by first | rfl | exact vint (by omega), by first | rfl | exact vint (by omega), by first | rfl | exact vint (by omega), by first | rfl | exact vint (by omega), by first | rfl | exact vint (by omega), by first | rfl | exact vint (by omega), trivial⟩
  · exact ⟨(by omega), H39⟩
  · rintro ⟨j, p, q⟩ ρ40 w41 ⟨hjl, H42⟩ nx43
    change Ends _ _ (upds ρ40 [(3, .pointer (some ⟨bk15, 0, none⟩)), (4, .pointer (some ⟨bk18, 0, none⟩)), (5, .pointer (some ⟨bk21, 0, none⟩)), (6, .bool false), (7, .slice p j q), (12, .slice pp1 bs.length cc2), (13, .int .i64 (bs.length : Int)), (14, .int .i64 (j : Int))]) w41
    refine g_seq ?_
    refine g_region ?_
    by_cases hc44 : (j : Int) < (bs.length : Int)
    · skip
      refine r_cons (s_lss true rfl rfl (dtrue hc44) rfl ?_)
      refine r_nil ?_
      refine g_seq ?_
      refine g_true rfl ?_
      refine g_skip ?_
      refine g_seq ?_
      refine g_block ?_
      refine g_seq ?_
      refine g_region ?_
      refine r_cons (s_indexAddr gA26 (off := oA27) (j : Int) 6 (oA27 + j * 6) (by exact congrArg (fun z_ => Value.slice z_ bs.length cc2) (hp32 (by omega))) rfl el_41 (by omega) rfl rfl ?_)
      refine r_cons (s_loadAgg [.string ((bs.getD j default).var.v), .int .i64 ((bs.getD j default).ev.ev.src.v), .int .i64 ((bs.getD j default).ev.ev.seq.v), .int .i64 ((bs.getD j default).ev.ev.time.v), .string ((bs.getD j default).ev.ev.typ.v), .slice ((bs.getD j default).ev.p) ((bs.getD j default).ev.ev.attrs.length) ((bs.getD j default).ev.c)] 6 ag_61 rfl (H42.imi_at (i := 1) rfl (by omega)) (by have := elem_size (i := j) (s := 6) (hs34 (by omega)) (by omega); omega) (elem_take bndCell_len (hx33 (by omega)) (by omega) default) rfl ?_)
      refine r_cons (s_alloc H42 61 ze_61 rfl ?_); intro bk45 w46 H47
      refine r_cons (s_storeAgg H47 0 #[.string ((bs.getD j default).var.v), .int .i64 ((bs.getD j default).ev.ev.src.v), .int .i64 ((bs.getD j default).ev.ev.seq.v), .int .i64 ((bs.getD j default).ev.ev.time.v), .string ((bs.getD j default).ev.ev.typ.v), .slice ((bs.getD j default).ev.p) ((bs.getD j default).ev.ev.attrs.length) ((bs.getD j default).ev.c)] 6 rfl rfl rfl sz_61 rfl (by simp [Value.oneCell']) (Nat.le_of_ble_eq_true rfl) (fun o h1 h2 => by first | (simp; done) | (simp; omega)) (cs' := #[.string ((bs.getD j default).var.v), .int .i64 ((bs.getD j default).ev.ev.src.v), .int .i64 ((bs.getD j default).ev.ev.seq.v), .int .i64 ((bs.getD j default).ev.ev.time.v), .string ((bs.getD j default).ev.ev.typ.v), .slice ((bs.getD j default).ev.p) ((bs.getD j default).ev.ev.attrs.length) ((bs.getD j default).ev.c)]) rfl ?_); intro w48 H49
      refine r_nil ?_
      refine g_region ?_
      refine r_cons (s_move (.slice p j q) rfl rfl ?_)
      refine r_cons (s_fieldAddr 61 0 0 0 9 rfl fi_61_0 rfl rfl ?_)
      refine r_cons (s_load (.string ((bs.getD j default).var.v)) ag_9 rfl (H49.blk_at (i := 0) rfl) rfl rfl ?_)
      refine r_cons (s_buildSlice H49 1 1 (cs := #[.string ((bs.getD j default).var.v)]) #[.string ByteArray.empty] el_49 ze_9 (by decide) (by decide) (by kernel_rfl) rfl ?_); intro bk50 w51 H52
      refine r_cons (s_append H52 2 rfl rfl rfl (rd_blk (H52.blk_at (i := 0) rfl) rfl (Nat.le_of_ble_eq_true rfl) (by simp [Value.oneCell'])) ap_49 (by decide) (by unfold maxLen; omega) (by omega) (n' := j + 1) (xs' := ((bs.take j).map BoundD.var).flatMap strCell ++ ([.string ((bs.getD j default).var.v)] : List Value)) (by omega) (by first | rfl | simp) rfl ?_); intro vv53 w54 H55 hn56
      obtain ⟨pp57, cc58, rfl⟩ := Row.slice H55 (i := 2) rfl
      refine r_cons (s_assign (.slice pp57 (j + 1) cc58) rfl rfl ?_)
      refine r_nil ?_
      refine g_inBlock ?_
      refine g_region ?_
      refine r_cons (s_add ((j : Int) + 1) rfl rfl (wi64 (by omega)) rfl ?_)
      refine r_cons (s_move (.int .i64 ((j : Int) + 1)) rfl rfl ?_)
      refine r_nil ?_
      have H59 : St W w54 (blk bk50 (.cells #[.string ((bs.getD j default).var.v)] 9 (0, 0)) :: blk bk45 (.cells #[.string ((bs.getD j default).var.v), .int .i64 ((bs.getD j default).ev.ev.src.v), .int .i64 ((bs.getD j default).ev.ev.seq.v), .int .i64 ((bs.getD j default).ev.ev.time.v), .string ((bs.getD j default).ev.ev.typ.v), .slice ((bs.getD j default).ev.p) ((bs.getD j default).ev.ev.attrs.length) ((bs.getD j default).ev.c)] 61 (0, 0)) :: Row 9 1 (.slice pp57 (j + 1) cc58) (j + 1) (((bs.take (j + 1)).map BoundD.var).flatMap strCell) :: imi (0 < bs.length) gA26 (.cells kA28 eA29 zA30) :: blk bk21 (.cells #[.slice pp8 ms.length cc9] 43 (0, 0)) :: blk bk18 (.cells #[.slice pp1 bs.length cc2] 43 (0, 0)) :: blk bk15 (.cells #[.string c.left.var.v, .string c.left.attr.v, .int .i64 c.left.val.kind.v, .int .i64 c.left.val.n.v, .string c.left.val.s.v, .int .i64 c.rel.v, .string c.right.var.v, .string c.right.attr.v, .int .i64 c.right.val.kind.v, .int .i64 c.right.val.n.v, .string c.right.val.s.v] 27 (0, 0)) :: bndsA ms :: Im 6 (.slice pp8 ms.length cc9) ms.length (ms.flatMap bndCell) :: bndsA bs :: Im 6 (.slice pp1 bs.length cc2) bs.length (bs.flatMap bndCell) :: F) := by rw [map_take_snoc (by omega), List.flatMap_append]; exact H55
      have H60 : St W w54 (Row 9 1 (.slice pp57 (j + 1) cc58) (j + 1) (((bs.take (j + 1)).map BoundD.var).flatMap strCell) :: imi (0 < bs.length) gA26 (.cells kA28 eA29 zA30) :: blk bk21 (.cells #[.slice pp8 ms.length cc9] 43 (0, 0)) :: blk bk18 (.cells #[.slice pp1 bs.length cc2] 43 (0, 0)) :: blk bk15 (.cells #[.string c.left.var.v, .string c.left.attr.v, .int .i64 c.left.val.kind.v, .int .i64 c.left.val.n.v, .string c.left.val.s.v, .int .i64 c.rel.v, .string c.right.var.v, .string c.right.attr.v, .int .i64 c.right.val.kind.v, .int .i64 c.right.val.n.v, .string c.right.val.s.v] 27 (0, 0)) :: bndsA ms :: Im 6 (.slice pp8 ms.length cc9) ms.length (ms.flatMap bndCell) :: bndsA bs :: Im 6 (.slice pp1 bs.length cc2) bs.length (bs.flatMap bndCell) :: F) := (((((((((((H59.move 10 rfl).move 10 rfl).move 10 rfl).move 10 rfl).move 10 rfl).move 10 rfl).move 10 rfl).move 10 rfl).move 10 rfl).drop 9 rfl).drop 9 rfl)
      exact nx43 (j + 1, pp57, cc58) _ _ ⟨(by omega), H60⟩ (by first | (dsimp only; omega) | omega) ⟨by first | rfl | exact vint (by omega), by first | rfl | exact vint (by omega), by first | rfl | exact vint (by omega), by first | rfl | exact vint (by omega), by first | rfl | exact vint (by omega), by first | rfl | exact vint (by omega), by first | rfl | exact vint (by omega), by first | rfl | exact vint (by omega), trivial⟩
    · skip
      refine r_cons (s_lss false rfl rfl (dfalse hc44) rfl ?_)
      refine r_nil ?_
      refine g_seq ?_
      refine g_false rfl ?_
      refine g_exit (by rfl) ?_
      refine g_seq ?_
      refine g_region ?_
      have hjj : j = bs.length := by omega
      subst hjj
      have H61 : St W w41 (Im 1 (.slice p bs.length q) ((bs.map BoundD.var).length) ((bs.map BoundD.var).flatMap strCell) :: imi (0 < bs.length) gA26 (.cells kA28 eA29 zA30) :: blk bk21 (.cells #[.slice pp8 ms.length cc9] 43 (0, 0)) :: blk bk18 (.cells #[.slice pp1 bs.length cc2] 43 (0, 0)) :: blk bk15 (.cells #[.string c.left.var.v, .string c.left.attr.v, .int .i64 c.left.val.kind.v, .int .i64 c.left.val.n.v, .string c.left.val.s.v, .int .i64 c.rel.v, .string c.right.var.v, .string c.right.attr.v, .int .i64 c.right.val.kind.v, .int .i64 c.right.val.n.v, .string c.right.val.s.v] 27 (0, 0)) :: bndsA ms :: Im 6 (.slice pp8 ms.length cc9) ms.length (ms.flatMap bndCell) :: bndsA bs :: Im 6 (.slice pp1 bs.length cc2) bs.length (bs.flatMap bndCell) :: F) := by rw [List.length_map]; have h9 := Row.im H42 (i := 0) rfl; rw [List.take_length] at h9; exact h9
      refine r_cons (s_fieldAddr 43 0 0 0 41 rfl fi_43_0 rfl rfl ?_)
      refine r_cons (s_load (.slice pp1 bs.length cc2) ag_41 rfl (H61.blk_at (i := 3) rfl) rfl rfl ?_)
      refine r_cons (s_fieldAddr 43 0 0 0 41 rfl fi_43_0 rfl rfl ?_)
      refine r_cons (s_load (.slice pp8 ms.length cc9) ag_41 rfl (H61.blk_at (i := 2) rfl) rfl rfl ?_)
      refine r_cons (s_buildSlice H61 1 2 (cs := #[.slice pp1 bs.length cc2, .slice pp8 ms.length cc9]) #[.slice none 0 0] el_80 ze_41 (by decide) (by decide) (by kernel_rfl) rfl ?_); intro bk62 w63 H64
      refine r_cons (s_call [.slice (some ⟨bk62, 0, none⟩) 2 2] pl_27 rfl rfl (Concat_bnd bs ms pp1 pp8 cc2 cc9 bk62 hbb (i := 0) rfl (i1 := 9) (i2 := 7) rfl rfl H64) ?_)
      rintro _ w67 ⟨pp65, cc66, rfl, H68⟩
      have H69 := bnds_app H68 (i := 9) (j := 7) rfl rfl
      refine r_cons (s_build (cs := #[.slice pp65 ((bs ++ ms).length) cc66]) (by kernel_rfl) rfl ?_)
      refine r_cons (s_alloc H69 43 ze_43 rfl ?_); intro bk70 w71 H72
      refine r_cons (s_storeAgg H72 0 #[.slice pp65 ((bs ++ ms).length) cc66] 1 rfl rfl rfl sz_43 rfl (by simp [Value.oneCell']) (Nat.le_of_ble_eq_true rfl) (fun o h1 h2 => by first | (simp; done) | (simp; omega)) (cs' := #[.slice pp65 ((bs ++ ms).length) cc66]) rfl ?_); intro w73 H74
      refine r_nil ?_
      refine g_seq ?_
      refine g_quiet (fun w' => St W w' (blk bk70 (.cells #[.slice pp65 ((bs ++ ms).length) cc66] 43 (0, 0)) :: bndsA (bs ++ ms) :: Im 6 (.slice pp65 ((bs ++ ms).length) cc66) ((bs ++ ms).length) ((bs ++ ms).flatMap bndCell) :: blk bk62 (.cells #[.slice pp1 bs.length cc2, .slice pp8 ms.length cc9] 41 (0, 0)) :: Im 1 (.slice p bs.length q) ((bs.map BoundD.var).length) ((bs.map BoundD.var).flatMap strCell) :: imi (0 < bs.length) gA26 (.cells kA28 eA29 zA30) :: blk bk21 (.cells #[.slice pp8 ms.length cc9] 43 (0, 0)) :: blk bk18 (.cells #[.slice pp1 bs.length cc2] 43 (0, 0)) :: blk bk15 (.cells #[.string c.left.var.v, .string c.left.attr.v, .int .i64 c.left.val.kind.v, .int .i64 c.left.val.n.v, .string c.left.val.s.v, .int .i64 c.rel.v, .string c.right.var.v, .string c.right.attr.v, .int .i64 c.right.val.kind.v, .int .i64 c.right.val.n.v, .string c.right.val.s.v] 27 (0, 0)) :: bndsA ms :: Im 6 (.slice pp8 ms.length cc9) ms.length (ms.flatMap bndCell) :: bndsA bs :: Im 6 (.slice pp1 bs.length cc2) bs.length (bs.flatMap bndCell) :: F)) mixed (by kernel_rfl) H74.drew ?_
      refine q_cons (q_enter (args := #[]) (v := .bool true) rfl rfl rfl (x_call pl_8 [] rfl) (fun w hw => pred_live hw) ?_)
      refine q_cons (q_val rfl rfl rfl (by intro w hw; exact x_move (.bool true) rfl w) ?_)
      refine q_cons (q_take rfl rfl ?_)
      refine q_val rfl rfl rfl (by intro w hw; exact x_loadAgg [.string c.left.var.v, .string c.left.attr.v, .int .i64 c.left.val.kind.v, .int .i64 c.left.val.n.v, .string c.left.val.s.v, .int .i64 c.rel.v, .string c.right.var.v, .string c.right.attr.v, .int .i64 c.right.val.kind.v, .int .i64 c.right.val.n.v, .string c.right.val.s.v] 11 ag_27 rfl (hw.blk_at (i := 8) rfl) (Nat.le_of_ble_eq_true rfl) rfl) ?_
      refine q_cons (q_take rfl rfl ?_)
      refine q_val rfl rfl rfl (by intro w hw; exact x_move (.slice p bs.length q) rfl w) ?_
      refine q_cons (q_take rfl rfl ?_)
      refine q_enter (args := #[.agg #[.string c.left.var.v, .string c.left.attr.v, .int .i64 c.left.val.kind.v, .int .i64 c.left.val.n.v, .string c.left.val.s.v, .int .i64 c.rel.v, .string c.right.var.v, .string c.right.attr.v, .int .i64 c.right.val.kind.v, .int .i64 c.right.val.n.v, .string c.right.val.s.v], .slice p bs.length q]) (v := .bool (readyB c (bs.map BoundD.var))) rfl rfl rfl (x_call pl_22 [.agg #[.string c.left.var.v, .string c.left.attr.v, .int .i64 c.left.val.kind.v, .int .i64 c.left.val.n.v, .string c.left.val.s.v, .int .i64 c.rel.v, .string c.right.var.v, .string c.right.attr.v, .int .i64 c.right.val.kind.v, .int .i64 c.right.val.n.v, .string c.right.val.s.v], .slice p bs.length q] rfl) (fun w hw => pred_Ready c (bs.map BoundD.var) (.slice p bs.length q) (jv := 4) rfl hw) ?_
      refine q_cons (q_take rfl rfl ?_)
      refine q_val rfl rfl rfl (by intro w hw; exact x_not (readyB c (bs.map BoundD.var)) rfl (!(readyB c (bs.map BoundD.var))) rfl w) ?_
      refine q_cons (q_take rfl rfl ?_)
      refine q_val rfl rfl rfl (by intro w hw; exact x_move (.bool (!(readyB c (bs.map BoundD.var)))) rfl w) ?_
      by_cases hb75 : (!(readyB c (bs.map BoundD.var))) = true
      · skip
        refine q_cons (q_pass rfl (congrArg some hb75) rfl rfl rfl ?_)
        refine q_cons (q_pass rfl (congrArg some hb75) rfl rfl rfl ?_)
        refine q_cons (q_pass rfl (congrArg some hb75) rfl rfl rfl ?_)
        refine q_cons (q_pass rfl (congrArg some hb75) rfl rfl rfl ?_)
        refine q_cons (q_pass rfl (congrArg some hb75) rfl rfl rfl ?_)
        refine q_cons (q_pass rfl (congrArg some hb75) rfl rfl rfl ?_)
        refine q_cons (q_pass rfl (congrArg some hb75) rfl rfl rfl ?_)
        refine q_cons (q_take rfl rfl ?_)
        refine q_val rfl rfl rfl (by intro w hw; exact x_pick_t (.bool true) (by exact congrArg Value.bool hb75) rfl w) ?_
        refine q_cons (q_val rfl rfl rfl (by intro w hw; exact x_pick_t (.bool true) rfl rfl w) ?_)
        refine q_cons (q_val rfl rfl rfl (by intro w hw; exact x_assign (.bool true) rfl w) ?_)
        refine q_nil ?_
        intro w76 H77
        refine g_ret' [.bool true] Try.func7 Try.results7 ⟨rfl, trivial⟩ ?_
        have H78 : St W w76 F := (((((((((((((H77.drop 0 rfl).drop 0 rfl).drop 0 rfl).drop 0 rfl).drop 0 rfl).drop 0 rfl).drop 0 rfl).drop 0 rfl).drop 0 rfl).drop 0 rfl).drop 0 rfl).drop 0 rfl).drop 0 rfl)
        exact ⟨rfl, H78⟩
      · have hb75 := eq_false_of_ne_true hb75
        refine q_cons (q_take rfl (congrArg some hb75) ?_)
        refine q_val rfl rfl rfl (by intro w hw; exact x_loadAgg [.string c.left.var.v, .string c.left.attr.v, .int .i64 c.left.val.kind.v, .int .i64 c.left.val.n.v, .string c.left.val.s.v, .int .i64 c.rel.v, .string c.right.var.v, .string c.right.attr.v, .int .i64 c.right.val.kind.v, .int .i64 c.right.val.n.v, .string c.right.val.s.v] 11 ag_27 rfl (hw.blk_at (i := 8) rfl) (Nat.le_of_ble_eq_true rfl) rfl) ?_
        refine q_cons (q_take rfl (congrArg some hb75) ?_)
        refine q_val rfl rfl rfl (by intro w hw; exact x_loadAgg [.slice pp1 bs.length cc2] 1 ag_43 rfl (hw.blk_at (i := 7) rfl) (Nat.le_of_ble_eq_true rfl) rfl) ?_
        refine q_cons (q_take rfl (congrArg some hb75) ?_)
        refine q_enter (args := #[.agg #[.string c.left.var.v, .string c.left.attr.v, .int .i64 c.left.val.kind.v, .int .i64 c.left.val.n.v, .string c.left.val.s.v, .int .i64 c.rel.v, .string c.right.var.v, .string c.right.attr.v, .int .i64 c.right.val.kind.v, .int .i64 c.right.val.n.v, .string c.right.val.s.v], .agg #[.slice pp1 bs.length cc2]]) (v := .bool (condB c bs)) rfl rfl rfl (x_call pl_15 [.agg #[.string c.left.var.v, .string c.left.attr.v, .int .i64 c.left.val.kind.v, .int .i64 c.left.val.n.v, .string c.left.val.s.v, .int .i64 c.rel.v, .string c.right.var.v, .string c.right.attr.v, .int .i64 c.right.val.kind.v, .int .i64 c.right.val.n.v, .string c.right.val.s.v], .agg #[.slice pp1 bs.length cc2]] rfl) (fun w hw => pred_Cond c bs (.slice pp1 bs.length cc2) (ip := 12) rfl (iq := 11) rfl hw) ?_
        refine q_cons (q_take rfl (congrArg some hb75) ?_)
        refine q_val rfl rfl rfl (by intro w hw; exact x_loadAgg [.string c.left.var.v, .string c.left.attr.v, .int .i64 c.left.val.kind.v, .int .i64 c.left.val.n.v, .string c.left.val.s.v, .int .i64 c.rel.v, .string c.right.var.v, .string c.right.attr.v, .int .i64 c.right.val.kind.v, .int .i64 c.right.val.n.v, .string c.right.val.s.v] 11 ag_27 rfl (hw.blk_at (i := 8) rfl) (Nat.le_of_ble_eq_true rfl) rfl) ?_
        refine q_cons (q_take rfl (congrArg some hb75) ?_)
        refine q_val rfl rfl rfl (by intro w hw; exact x_loadAgg [.slice pp65 ((bs ++ ms).length) cc66] 1 ag_43 rfl (hw.blk_at (i := 0) rfl) (Nat.le_of_ble_eq_true rfl) rfl) ?_
        refine q_cons (q_take rfl (congrArg some hb75) ?_)
        refine q_enter (args := #[.agg #[.string c.left.var.v, .string c.left.attr.v, .int .i64 c.left.val.kind.v, .int .i64 c.left.val.n.v, .string c.left.val.s.v, .int .i64 c.rel.v, .string c.right.var.v, .string c.right.attr.v, .int .i64 c.right.val.kind.v, .int .i64 c.right.val.n.v, .string c.right.val.s.v], .agg #[.slice pp65 ((bs ++ ms).length) cc66]]) (v := .bool (condB c (bs ++ ms))) rfl rfl rfl (x_call pl_15 [.agg #[.string c.left.var.v, .string c.left.attr.v, .int .i64 c.left.val.kind.v, .int .i64 c.left.val.n.v, .string c.left.val.s.v, .int .i64 c.rel.v, .string c.right.var.v, .string c.right.attr.v, .int .i64 c.right.val.kind.v, .int .i64 c.right.val.n.v, .string c.right.val.s.v], .agg #[.slice pp65 ((bs ++ ms).length) cc66]] rfl) (fun w hw => pred_Cond c (bs ++ ms) (.slice pp65 ((bs ++ ms).length) cc66) (ip := 2) rfl (iq := 1) rfl hw) ?_
        refine q_cons (q_take rfl (congrArg some hb75) ?_)
        refine q_val rfl rfl rfl (by intro w hw; exact x_beql true un_4 rfl rfl (dtrue (once (by simpa using hb75))) w) ?_
        refine q_cons (q_take rfl rfl ?_)
        refine q_val rfl rfl rfl (by intro w hw; exact x_pick_f (.bool true) (by exact congrArg Value.bool hb75) rfl w) ?_
        refine q_cons (q_val rfl rfl rfl (by intro w hw; exact x_pick_t (.bool true) rfl rfl w) ?_)
        refine q_cons (q_val rfl rfl rfl (by intro w hw; exact x_assign (.bool true) rfl w) ?_)
        refine q_nil ?_
        intro w79 H80
        refine g_ret' [.bool true] Try.func7 Try.results7 ⟨rfl, trivial⟩ ?_
        have H81 : St W w79 F := (((((((((((((H80.drop 0 rfl).drop 0 rfl).drop 0 rfl).drop 0 rfl).drop 0 rfl).drop 0 rfl).drop 0 rfl).drop 0 rfl).drop 0 rfl).drop 0 rfl).drop 0 rfl).drop 0 rfl).drop 0 rfl)
        exact ⟨rfl, H81⟩
end Sl
