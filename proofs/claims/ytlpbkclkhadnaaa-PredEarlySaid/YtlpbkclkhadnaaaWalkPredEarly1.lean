/- Walks of the program's functions. Printed by a program of this claim's author. No condition. -/
import Derived.Test.YtlpbkclkhadnaaaSlBF
import Derived.Test.YtlpbkclkhadnaaaSlQ
import Derived.Test.YtlpbkclkhadnaaaProg
import Derived.Test.YtlpbkclkhadnaaaWalkPredEarly0
namespace Sl
open _root_.Go _root_.Go.RowKit _root_.Go.Proofs
set_option linter.all false
set_option maxHeartbeats 4000000 in
set_option maxRecDepth 100000 in
theorem pred_Cond {W w : World} {F : List Atom} (c : CondV) (bs : List BoundD) (bv : Value) {ip : Nat} (hp : F[ip]? = some (Im 6 bv bs.length (bs.flatMap bndCell))) {iq : Nat} (hq : F[iq]? = some (bndsA bs)) (H : St W w F) : Calls Try.prog 15 #[.agg #[.string c.left.var.v, .string c.left.attr.v, .int .i64 c.left.val.kind.v, .int .i64 c.left.val.n.v, .string c.left.val.s.v, .int .i64 c.rel.v, .string c.right.var.v, .string c.right.attr.v, .int .i64 c.right.val.kind.v, .int .i64 c.right.val.n.v, .string c.right.val.s.v], .agg #[bv]] w (Ret fun v w' => v = .bool (condB c bs) ∧ St W w' F) := by
  obtain ⟨pp1, cc2, rfl, hn3⟩ := Rd.shape (Im.rd H (i := ip) hp)
  have H4 := H.dup (i := ip + 0) (by exact hp) (Im_pers _ _ _ _)
  have H5 : St W w (Im 6 (.slice pp1 bs.length cc2) bs.length (bs.flatMap bndCell) :: F) := H4
  have H6 := H5.dup (i := iq + 1) (by exact hq) (bndsA_pers _)
  have H7 : St W w (bndsA bs :: Im 6 (.slice pp1 bs.length cc2) bs.length (bs.flatMap bndCell) :: F) := H6
  refine calls_of_go (n := 36) Try.func15 rfl Try.ntmps15 rfl ?_
  refine g_seq ?_
  refine g_region ?_
  refine r_cons (s_box H7 27 (.agg #[.string c.left.var.v, .string c.left.attr.v, .int .i64 c.left.val.kind.v, .int .i64 c.left.val.n.v, .string c.left.val.s.v, .int .i64 c.rel.v, .string c.right.var.v, .string c.right.attr.v, .int .i64 c.right.val.kind.v, .int .i64 c.right.val.n.v, .string c.right.val.s.v]) rfl (cs := #[.string c.left.var.v, .string c.left.attr.v, .int .i64 c.left.val.kind.v, .int .i64 c.left.val.n.v, .string c.left.val.s.v, .int .i64 c.rel.v, .string c.right.var.v, .string c.right.attr.v, .int .i64 c.right.val.kind.v, .int .i64 c.right.val.n.v, .string c.right.val.s.v]) rfl rfl ?_); intro bk8 w9 H10
  refine r_cons (s_box H10 43 (.agg #[.slice pp1 bs.length cc2]) rfl (cs := #[.slice pp1 bs.length cc2]) rfl rfl ?_); intro bk11 w12 H13
  refine r_cons (s_assign (.bool false) rfl rfl ?_)
  refine r_nil ?_
  refine g_seq ?_
  refine g_region ?_
  refine r_cons (s_fieldAddr 27 0 0 0 25 rfl fi_27_0 rfl rfl ?_)
  refine r_cons (s_loadAgg [.string c.left.var.v, .string c.left.attr.v, .int .i64 c.left.val.kind.v, .int .i64 c.left.val.n.v, .string c.left.val.s.v] 5 ag_25 rfl (H13.blk_at (i := 1) rfl) (Nat.le_of_ble_eq_true rfl) rfl rfl ?_)
  refine r_cons (s_loadAgg [.slice pp1 bs.length cc2] 1 ag_43 rfl (H13.blk_at (i := 0) rfl) (Nat.le_of_ble_eq_true rfl) rfl rfl ?_)
  refine r_cons (s_call [.agg #[.string c.left.var.v, .string c.left.attr.v, .int .i64 c.left.val.kind.v, .int .i64 c.left.val.n.v, .string c.left.val.s.v], .agg #[.slice pp1 bs.length cc2]] pl_13 rfl rfl (pred_Value c.left bs (.slice pp1 bs.length cc2) (ip := 3) rfl (iq := 2) rfl H13) ?_)
  rintro _ w14 ⟨rfl, H15⟩
  refine r_cons (s_move (.tuple #[.agg #[.int .i64 ((bvV c.left bs).kind.v), .int .i64 ((bvV c.left bs).n.v), .string ((bvV c.left bs).s.v)], .bool (bvIs c.left bs)]) rfl rfl ?_)
  refine r_cons (s_extract (.agg #[.int .i64 ((bvV c.left bs).kind.v), .int .i64 ((bvV c.left bs).n.v), .string ((bvV c.left bs).s.v)]) #[.agg #[.int .i64 ((bvV c.left bs).kind.v), .int .i64 ((bvV c.left bs).n.v), .string ((bvV c.left bs).s.v)], .bool (bvIs c.left bs)] rfl rfl rfl ?_)
  refine r_cons (s_extract (.bool (bvIs c.left bs)) #[.agg #[.int .i64 ((bvV c.left bs).kind.v), .int .i64 ((bvV c.left bs).n.v), .string ((bvV c.left bs).s.v)], .bool (bvIs c.left bs)] rfl rfl rfl ?_)
  refine r_cons (s_alloc H15 23 ze_23 rfl ?_); intro bk16 w17 H18
  refine r_cons (s_storeAgg H18 0 #[.int .i64 ((bvV c.left bs).kind.v), .int .i64 ((bvV c.left bs).n.v), .string ((bvV c.left bs).s.v)] 3 rfl rfl rfl sz_23 rfl (by simp [Value.oneCell']) (Nat.le_of_ble_eq_true rfl) (fun o h1 h2 => by first | (simp; done) | (simp; omega)) (cs' := #[.int .i64 ((bvV c.left bs).kind.v), .int .i64 ((bvV c.left bs).n.v), .string ((bvV c.left bs).s.v)]) rfl ?_); intro w19 H20
  refine r_cons (s_assign (.bool (bvIs c.left bs)) rfl rfl ?_)
  refine r_nil ?_
  refine g_seq ?_
  refine g_region ?_
  refine r_cons (s_fieldAddr 27 2 6 6 25 rfl fi_27_2 rfl rfl ?_)
  refine r_cons (s_loadAgg [.string c.right.var.v, .string c.right.attr.v, .int .i64 c.right.val.kind.v, .int .i64 c.right.val.n.v, .string c.right.val.s.v] 5 ag_25 rfl (H20.blk_at (i := 2) rfl) (Nat.le_of_ble_eq_true rfl) rfl rfl ?_)
  refine r_cons (s_loadAgg [.slice pp1 bs.length cc2] 1 ag_43 rfl (H20.blk_at (i := 1) rfl) (Nat.le_of_ble_eq_true rfl) rfl rfl ?_)
  refine r_cons (s_call [.agg #[.string c.right.var.v, .string c.right.attr.v, .int .i64 c.right.val.kind.v, .int .i64 c.right.val.n.v, .string c.right.val.s.v], .agg #[.slice pp1 bs.length cc2]] pl_13 rfl rfl (pred_Value c.right bs (.slice pp1 bs.length cc2) (ip := 4) rfl (iq := 3) rfl H20) ?_)
  rintro _ w21 ⟨rfl, H22⟩
  refine r_cons (s_move (.tuple #[.agg #[.int .i64 ((bvV c.right bs).kind.v), .int .i64 ((bvV c.right bs).n.v), .string ((bvV c.right bs).s.v)], .bool (bvIs c.right bs)]) rfl rfl ?_)
  refine r_cons (s_extract (.agg #[.int .i64 ((bvV c.right bs).kind.v), .int .i64 ((bvV c.right bs).n.v), .string ((bvV c.right bs).s.v)]) #[.agg #[.int .i64 ((bvV c.right bs).kind.v), .int .i64 ((bvV c.right bs).n.v), .string ((bvV c.right bs).s.v)], .bool (bvIs c.right bs)] rfl rfl rfl ?_)
  refine r_cons (s_extract (.bool (bvIs c.right bs)) #[.agg #[.int .i64 ((bvV c.right bs).kind.v), .int .i64 ((bvV c.right bs).n.v), .string ((bvV c.right bs).s.v)], .bool (bvIs c.right bs)] rfl rfl rfl ?_)
  refine r_cons (s_alloc H22 23 ze_23 rfl ?_); intro bk23 w24 H25
  refine r_cons (s_storeAgg H25 0 #[.int .i64 ((bvV c.right bs).kind.v), .int .i64 ((bvV c.right bs).n.v), .string ((bvV c.right bs).s.v)] 3 rfl rfl rfl sz_23 rfl (by simp [Value.oneCell']) (Nat.le_of_ble_eq_true rfl) (fun o h1 h2 => by first | (simp; done) | (simp; omega)) (cs' := #[.int .i64 ((bvV c.right bs).kind.v), .int .i64 ((bvV c.right bs).n.v), .string ((bvV c.right bs).s.v)]) rfl ?_); intro w26 H27
  refine r_cons (s_assign (.bool (bvIs c.right bs)) rfl rfl ?_)
  refine r_nil ?_
  refine g_seq ?_
  refine g_region ?_
  refine r_cons (s_move (.bool (bvIs c.left bs)) rfl rfl ?_)
  refine r_cons (s_not (bvIs c.left bs) rfl (!(bvIs c.left bs)) rfl rfl ?_)
  refine r_cons (s_move (.bool (!(bvIs c.left bs))) rfl rfl ?_)
  by_cases hb28 : (!(bvIs c.left bs)) = true
  · skip
    refine r_cons (r_pass rfl (congrArg some hb28) rfl rfl rfl ?_)
    refine r_cons (r_pass rfl (congrArg some hb28) rfl rfl rfl ?_)
    refine r_cons (s_pick_t (.bool true) (by exact congrArg Value.bool hb28) rfl rfl ?_)
    refine r_cons (s_move (.bool true) rfl rfl ?_)
    refine r_cons (r_pass rfl rfl rfl rfl rfl ?_)
    refine r_cons (r_pass rfl rfl rfl rfl rfl ?_)
    refine r_cons (r_pass rfl rfl rfl rfl rfl ?_)
    refine r_cons (r_pass rfl rfl rfl rfl rfl ?_)
    refine r_cons (r_pass rfl rfl rfl rfl rfl ?_)
    refine r_cons (s_pick_t (.bool true) rfl rfl rfl ?_)
    refine r_cons (s_assign (.bool true) rfl rfl ?_)
    refine r_nil ?_
    refine g_ret' [.bool true] Try.func15 Try.results15 ⟨rfl, trivial⟩ ?_
    have H29 : St W w26 F := ((((((H27.drop 0 rfl).drop 0 rfl).drop 0 rfl).drop 0 rfl).drop 0 rfl).drop 0 rfl)
    exact ⟨congrArg Value.bool (by unfold condB; rw [hb28]; simp), H29⟩
  · have hb28 := eq_false_of_ne_true hb28
    refine r_cons (r_take rfl (congrArg some hb28) ?_)
    refine s_move (.bool (bvIs c.right bs)) rfl rfl ?_
    refine r_cons (r_take rfl (congrArg some hb28) ?_)
    refine s_not (bvIs c.right bs) rfl (!(bvIs c.right bs)) rfl rfl ?_
    refine r_cons (s_pick_f (.bool (!(bvIs c.right bs))) (by exact congrArg Value.bool hb28) rfl rfl ?_)
    refine r_cons (s_move (.bool (!(bvIs c.right bs))) rfl rfl ?_)
    by_cases hb30 : (!(bvIs c.right bs)) = true
    · skip
      refine r_cons (r_pass rfl (congrArg some hb30) rfl rfl rfl ?_)
      refine r_cons (r_pass rfl (congrArg some hb30) rfl rfl rfl ?_)
      refine r_cons (r_pass rfl (congrArg some hb30) rfl rfl rfl ?_)
      refine r_cons (r_pass rfl (congrArg some hb30) rfl rfl rfl ?_)
      refine r_cons (r_pass rfl (congrArg some hb30) rfl rfl rfl ?_)
      refine r_cons (s_pick_t (.bool true) (by exact congrArg Value.bool hb30) rfl rfl ?_)
      refine r_cons (s_assign (.bool true) rfl rfl ?_)
      refine r_nil ?_
      refine g_ret' [.bool true] Try.func15 Try.results15 ⟨rfl, trivial⟩ ?_
      have H31 : St W w26 F := ((((((H27.drop 0 rfl).drop 0 rfl).drop 0 rfl).drop 0 rfl).drop 0 rfl).drop 0 rfl)
      exact ⟨congrArg Value.bool (by unfold condB; rw [hb28, hb30]; simp), H31⟩
    · have hb30 := eq_false_of_ne_true hb30
      refine r_cons (r_take rfl (congrArg some hb30) ?_)
      refine s_fieldAddr 27 1 5 5 3 rfl fi_27_1 rfl rfl ?_
      refine r_cons (r_take rfl (congrArg some hb30) ?_)
      refine s_load (.int .i64 c.rel.v) ag_3 rfl (H27.blk_at (i := 3) rfl) rfl rfl ?_
      refine r_cons (r_take rfl (congrArg some hb30) ?_)
      refine s_loadAgg [.int .i64 ((bvV c.left bs).kind.v), .int .i64 ((bvV c.left bs).n.v), .string ((bvV c.left bs).s.v)] 3 ag_23 rfl (H27.blk_at (i := 1) rfl) (Nat.le_of_ble_eq_true rfl) rfl rfl ?_
      refine r_cons (r_take rfl (congrArg some hb30) ?_)
      refine s_loadAgg [.int .i64 ((bvV c.right bs).kind.v), .int .i64 ((bvV c.right bs).n.v), .string ((bvV c.right bs).s.v)] 3 ag_23 rfl (H27.blk_at (i := 0) rfl) (Nat.le_of_ble_eq_true rfl) rfl rfl ?_
      refine r_cons (r_take rfl (congrArg some hb30) ?_)
      refine s_call [.int .i64 c.rel.v, .agg #[.int .i64 ((bvV c.left bs).kind.v), .int .i64 ((bvV c.left bs).n.v), .string ((bvV c.left bs).s.v)], .agg #[.int .i64 ((bvV c.right bs).kind.v), .int .i64 ((bvV c.right bs).n.v), .string ((bvV c.right bs).s.v)]] pl_30 rfl rfl (value_Holds c.rel.v (⟨(bvV c.left bs).kind, (bvV c.left bs).n, (bvV c.left bs).s⟩ : ValV) (⟨(bvV c.right bs).kind, (bvV c.right bs).n, (bvV c.right bs).s⟩ : ValV) H27) ?_
      rintro _ w32 ⟨rfl, H33⟩
      refine r_cons (s_pick_f (.bool (holdsB c.rel.v (⟨(bvV c.left bs).kind, (bvV c.left bs).n, (bvV c.left bs).s⟩ : ValV) (⟨(bvV c.right bs).kind, (bvV c.right bs).n, (bvV c.right bs).s⟩ : ValV))) (by exact congrArg Value.bool hb30) rfl rfl ?_)
      refine r_cons (s_assign (.bool (holdsB c.rel.v (⟨(bvV c.left bs).kind, (bvV c.left bs).n, (bvV c.left bs).s⟩ : ValV) (⟨(bvV c.right bs).kind, (bvV c.right bs).n, (bvV c.right bs).s⟩ : ValV))) rfl rfl ?_)
      refine r_nil ?_
      refine g_ret' [.bool (holdsB c.rel.v (⟨(bvV c.left bs).kind, (bvV c.left bs).n, (bvV c.left bs).s⟩ : ValV) (⟨(bvV c.right bs).kind, (bvV c.right bs).n, (bvV c.right bs).s⟩ : ValV))] Try.func15 Try.results15 ⟨rfl, trivial⟩ ?_
      have H34 : St W w32 F := ((((((H33.drop 0 rfl).drop 0 rfl).drop 0 rfl).drop 0 rfl).drop 0 rfl).drop 0 rfl)
      exact ⟨congrArg Value.bool (by unfold condB; rw [hb28, hb30]; simp), H34⟩
set_option maxHeartbeats 4000000 in
set_option maxRecDepth 100000 in
theorem pred_All1 {W w : World} {F : List Atom} (c : CondV) (g : Nat) (bs : List BoundD) (bv : Value) {i : Nat} (hi : F[i]? = some (blk g (.cells #[bv] 43 (0, 0)))) {ip : Nat} (hp : F[ip]? = some (Im 6 bv bs.length (bs.flatMap bndCell))) {iq : Nat} (hq : F[iq]? = some (bndsA bs)) (H : St W w F) : Calls Try.prog 37 #[.agg #[.string c.left.var.v, .string c.left.attr.v, .int .i64 c.left.val.kind.v, .int .i64 c.left.val.n.v, .string c.left.val.s.v, .int .i64 c.rel.v, .string c.right.var.v, .string c.right.attr.v, .int .i64 c.right.val.kind.v, .int .i64 c.right.val.n.v, .string c.right.val.s.v], .pointer (some ⟨g, 0, none⟩)] w (Ret fun v w' => v = .bool (!condB c bs) ∧ St W w' F) := by
  obtain ⟨pp1, cc2, rfl, hn3⟩ := Rd.shape (Im.rd H (i := ip) hp)
  have H4 := H.dup (i := ip + 0) (by exact hp) (Im_pers _ _ _ _)
  have H5 : St W w (Im 6 (.slice pp1 bs.length cc2) bs.length (bs.flatMap bndCell) :: F) := H4
  have H6 := H5.dup (i := iq + 1) (by exact hq) (bndsA_pers _)
  have H7 : St W w (bndsA bs :: Im 6 (.slice pp1 bs.length cc2) bs.length (bs.flatMap bndCell) :: F) := H6
  have H8 := H7.front (i := i + 2) (by exact hi)
  refine calls_of_go (n := 8) Try.func37 rfl Try.ntmps37 rfl ?_
  refine g_seq ?_
  refine g_region ?_
  refine r_cons (s_box H8 27 (.agg #[.string c.left.var.v, .string c.left.attr.v, .int .i64 c.left.val.kind.v, .int .i64 c.left.val.n.v, .string c.left.val.s.v, .int .i64 c.rel.v, .string c.right.var.v, .string c.right.attr.v, .int .i64 c.right.val.kind.v, .int .i64 c.right.val.n.v, .string c.right.val.s.v]) rfl (cs := #[.string c.left.var.v, .string c.left.attr.v, .int .i64 c.left.val.kind.v, .int .i64 c.left.val.n.v, .string c.left.val.s.v, .int .i64 c.rel.v, .string c.right.var.v, .string c.right.attr.v, .int .i64 c.right.val.kind.v, .int .i64 c.right.val.n.v, .string c.right.val.s.v]) rfl rfl ?_); intro bk9 w10 H11
  refine r_cons (s_assign (.bool false) rfl rfl ?_)
  refine r_nil ?_
  refine g_seq ?_
  refine g_region ?_
  refine r_cons (s_loadAgg [.string c.left.var.v, .string c.left.attr.v, .int .i64 c.left.val.kind.v, .int .i64 c.left.val.n.v, .string c.left.val.s.v, .int .i64 c.rel.v, .string c.right.var.v, .string c.right.attr.v, .int .i64 c.right.val.kind.v, .int .i64 c.right.val.n.v, .string c.right.val.s.v] 11 ag_27 rfl (H11.blk_at (i := 0) rfl) (Nat.le_of_ble_eq_true rfl) rfl rfl ?_)
  refine r_cons (s_loadAgg [.slice pp1 bs.length cc2] 1 ag_43 rfl (H11.blk_at (i := 1) rfl) (Nat.le_of_ble_eq_true rfl) rfl rfl ?_)
  refine r_cons (s_call [.agg #[.string c.left.var.v, .string c.left.attr.v, .int .i64 c.left.val.kind.v, .int .i64 c.left.val.n.v, .string c.left.val.s.v, .int .i64 c.rel.v, .string c.right.var.v, .string c.right.attr.v, .int .i64 c.right.val.kind.v, .int .i64 c.right.val.n.v, .string c.right.val.s.v], .agg #[.slice pp1 bs.length cc2]] pl_15 rfl rfl (pred_Cond c bs (.slice pp1 bs.length cc2) (ip := 3) rfl (iq := 2) rfl H11) ?_)
  rintro _ w12 ⟨rfl, H13⟩
  refine r_cons (s_not (condB c bs) rfl (!(condB c bs)) rfl rfl ?_)
  refine r_cons (s_assign (.bool (!(condB c bs))) rfl rfl ?_)
  refine r_nil ?_
  refine g_ret' [.bool (!(condB c bs))] Try.func37 Try.results37 ⟨rfl, trivial⟩ ?_
  have H14 : St W w12 (blk g (.cells #[.slice pp1 bs.length cc2] 43 (0, 0)) :: (F.set i emp)) := ((((H13.move 1 rfl).drop 1 rfl).drop 1 rfl).drop 1 rfl)
  exact ⟨rfl, St.back_same hi H14⟩
set_option maxHeartbeats 4000000 in
set_option maxRecDepth 100000 in
theorem IndexFunc_cond_all {W w : World} {F : List Atom} (L : List CondV) (lv : Value) (g : Nat) (bs : List BoundD) (bv : Value) {m : Nat} (hm : F[m]? = some (Im 11 lv L.length (L.flatMap condCell))) {i : Nat} (hi : F[i]? = some (blk g (.cells #[bv] 43 (0, 0)))) {ip : Nat} (hp : F[ip]? = some (Im 6 bv bs.length (bs.flatMap bndCell))) {iq : Nat} (hq : F[iq]? = some (bndsA bs)) (H : St W w F) : Calls Try.prog 53 #[lv, .func (.func 37) #[] #[.pointer (some ⟨g, 0, none⟩)]] w (Ret fun v w' => v = .int .i64 (idxB (fun x : CondV => !condB x bs) L) ∧ St W w' F) := by
  obtain ⟨pp1, cc2, rfl, hn3⟩ := Rd.shape (Im.rd H (i := m) hm)
  have H4 := H.dup hm (Im_pers _ _ _ _)
  have H5 := H4.dup (i := ip + 1) (by exact hp) (Im_pers _ _ _ _)
  have H6 := H5.dup (i := iq + 2) (by exact hq) (bndsA_pers _)
  have H7 := H6.front (i := i + 3) (by exact hi)
  obtain ⟨pA8, cA9, gA10, oA11, kA12, eA13, zA14, he20, hn15, hp16, hx17, hs18, hml, H19⟩ := Im.open_ H7 (i := 3) rfl
  obtain ⟨rfl, rfl⟩ : pp1 = pA8 ∧ cc2 = cA9 := by injection he20 with a_ b_ c_; exact ⟨a_, c_⟩
  refine calls_of_go (n := 19) Try.func53 rfl Try.ntmps53 rfl ?_
  refine g_seq ?_
  refine g_region ?_
  refine r_cons (s_assign (.int .i64 0) rfl rfl ?_)
  refine r_nil ?_
  refine g_seq ?_
  refine g_seq ?_
  refine g_region ?_
  refine r_cons (s_move (.slice pp1 L.length cc2) rfl rfl ?_)
  refine r_cons (s_len L.length rfl ⟨_, un_28⟩ rfl ?_)
  refine r_cons (s_move (.int .i64 0) rfl rfl ?_)
  refine r_nil ?_
  refine g_block ?_
  have H21 : St W w (imi (0 < L.length) gA10 (.cells kA12 eA13 zA14) :: blk g (.cells #[bv] 43 (0, 0)) :: bndsA bs :: Im 6 bv bs.length (bs.flatMap bndCell) :: Im 11 (.slice pp1 L.length cc2) L.length (L.flatMap condCell) :: (F.set i emp)) := (((((H19.move 4 rfl).move 4 rfl).move 4 rfl).move 4 rfl).move 4 rfl)
  refine g_loop_inv (fun (x_ : Nat) => match x_ with | j => [(0, .slice pp1 L.length cc2), (1, .func (.func 37) #[] #[.pointer (some ⟨g, 0, none⟩)]), (4, .int .i64 0), (7, .int .i64 (L.length : Int)), (8, .int .i64 (j : Int))]) (fun (x_ : Nat) w => match x_ with | j => (j ≤ L.length) ∧ (∀ q, q < j → (fun x : CondV => !condB x bs) (L.getD q default) = false) ∧ St W w (imi (0 < L.length) gA10 (.cells kA12 eA13 zA14) :: blk g (.cells #[bv] 43 (0, 0)) :: bndsA bs :: Im 6 bv bs.length (bs.flatMap bndCell) :: Im 11 (.slice pp1 L.length cc2) L.length (L.flatMap condCell) :: (F.set i emp))) (fun (x_ : Nat) => match x_ with | j => L.length - j) (0) ?_ ?_ ?_
  · exact ⟨by first | rfl | exact vint (by omega), by first | rfl | exact vint (by omega), by first | rfl | exact vint (by omega), by first | rfl | exact vint (by omega), by first | rfl | exact vint (by omega), trivial⟩
  · exact ⟨(by omega), (fun q hq => by omega), H21⟩
  · rintro j ρ22 w23 ⟨hjn, hz, H24⟩ nx25
    change Ends _ _ (upds ρ22 [(0, .slice pp1 L.length cc2), (1, .func (.func 37) #[] #[.pointer (some ⟨g, 0, none⟩)]), (4, .int .i64 0), (7, .int .i64 (L.length : Int)), (8, .int .i64 (j : Int))]) w23
    refine g_seq ?_
    refine g_region ?_
    by_cases hc26 : (j : Int) < (L.length : Int)
    · skip
      refine r_cons (s_lss true rfl rfl (dtrue hc26) rfl ?_)
      refine r_nil ?_
      refine g_seq ?_
      refine g_true rfl ?_
      refine g_skip ?_
      refine g_seq ?_
      refine g_block ?_
      refine g_seq ?_
      refine g_region ?_
      refine r_cons (s_move (.int .i64 (j : Int)) rfl rfl ?_)
      refine r_cons (s_assign (.int .i64 (j : Int)) rfl rfl ?_)
      refine r_nil ?_
      refine g_seq ?_
      refine g_region ?_
      refine r_cons (s_move (.func (.func 37) #[] #[.pointer (some ⟨g, 0, none⟩)]) rfl rfl ?_)
      refine r_cons (s_move (.slice pp1 L.length cc2) rfl rfl ?_)
      refine r_cons (s_move (.int .i64 (j : Int)) rfl rfl ?_)
      refine r_cons (s_indexAddr gA10 (off := oA11) (j : Int) 11 (oA11 + j * 11) (by exact congrArg (fun z_ => Value.slice z_ L.length cc2) (hp16 (by omega))) rfl el_28 (by omega) rfl rfl ?_)
      refine r_cons (s_loadAgg [.string ((L.getD j default).left.var.v), .string ((L.getD j default).left.attr.v), .int .i64 ((L.getD j default).left.val.kind.v), .int .i64 ((L.getD j default).left.val.n.v), .string ((L.getD j default).left.val.s.v), .int .i64 ((L.getD j default).rel.v), .string ((L.getD j default).right.var.v), .string ((L.getD j default).right.attr.v), .int .i64 ((L.getD j default).right.val.kind.v), .int .i64 ((L.getD j default).right.val.n.v), .string ((L.getD j default).right.val.s.v)] 11 ag_27 rfl (H24.imi_at (i := 0) rfl (by omega)) (by have := elem_size (i := j) (s := 11) (hs18 (by omega)) (by omega); omega) (elem_take condCell_len (hx17 (by omega)) (by omega) default) rfl ?_)
      refine r_cons (s_callv [.pointer (some ⟨g, 0, none⟩)] [.agg #[.string ((L.getD j default).left.var.v), .string ((L.getD j default).left.attr.v), .int .i64 ((L.getD j default).left.val.kind.v), .int .i64 ((L.getD j default).left.val.n.v), .string ((L.getD j default).left.val.s.v), .int .i64 ((L.getD j default).rel.v), .string ((L.getD j default).right.var.v), .string ((L.getD j default).right.attr.v), .int .i64 ((L.getD j default).right.val.kind.v), .int .i64 ((L.getD j default).right.val.n.v), .string ((L.getD j default).right.val.s.v)], .pointer (some ⟨g, 0, none⟩)] rfl pl_37 rfl rfl (pred_All1 (L.getD j default) g bs bv (i := 1) rfl (ip := 3) rfl (iq := 2) rfl H24) ?_)
      rintro _ w27 ⟨rfl, H28⟩
      refine r_nil ?_
      by_cases hb29 : (!condB (L.getD j default) bs) = true
      · skip
        refine g_true (congrArg Value.bool hb29) ?_
        refine g_seq ?_
        refine g_region ?_
        refine r_cons (s_move (.int .i64 (j : Int)) rfl rfl ?_)
        refine r_cons (s_assign (.int .i64 (j : Int)) rfl rfl ?_)
        refine r_nil ?_
        refine g_ret' [.int .i64 (j : Int)] Try.func53 Try.results53 ⟨rfl, trivial⟩ ?_
        have H30 : St W w27 (blk g (.cells #[bv] 43 (0, 0)) :: (F.set i emp)) := (((((H28.move 1 rfl).drop 1 rfl).drop 1 rfl).drop 1 rfl).drop 1 rfl)
        exact ⟨vint (idxB_at (p := fun x : CondV => !condB x bs) hz (by omega) (by exact hb29)).symm, St.back_same hi H30⟩
      · have hb29 := eq_false_of_ne_true hb29
        refine g_false (congrArg Value.bool hb29) ?_
        refine g_skip ?_
        refine g_inBlock ?_
        refine g_region ?_
        refine r_cons (s_add ((j : Int) + 1) rfl rfl (wi64 (by omega)) rfl ?_)
        refine r_cons (s_move (.int .i64 ((j : Int) + 1)) rfl rfl ?_)
        refine r_nil ?_
        have H31 : St W w27 (imi (0 < L.length) gA10 (.cells kA12 eA13 zA14) :: blk g (.cells #[bv] 43 (0, 0)) :: bndsA bs :: Im 6 bv bs.length (bs.flatMap bndCell) :: Im 11 (.slice pp1 L.length cc2) L.length (L.flatMap condCell) :: (F.set i emp)) := (((((H28.move 4 rfl).move 4 rfl).move 4 rfl).move 4 rfl).move 4 rfl)
        exact nx25 (j + 1) _ _ ⟨(by omega), (fun q hq => (Nat.lt_or_ge q j).elim (hz q) (fun h => by rw [show q = j from by omega]; exact hb29)), H31⟩ (by first | (dsimp only; omega) | omega) ⟨by first | rfl | exact vint (by omega), by first | rfl | exact vint (by omega), by first | rfl | exact vint (by omega), by first | rfl | exact vint (by omega), by first | rfl | exact vint (by omega), trivial⟩
    · skip
      refine r_cons (s_lss false rfl rfl (dfalse hc26) rfl ?_)
      refine r_nil ?_
      refine g_seq ?_
      refine g_false rfl ?_
      refine g_exit (by rfl) ?_
      refine g_seq ?_
      refine g_region ?_
      refine r_cons (s_assign (.int .i64 (-1)) rfl rfl ?_)
      refine r_nil ?_
      refine g_ret' [.int .i64 (-1)] Try.func53 Try.results53 ⟨rfl, trivial⟩ ?_
      have H32 : St W w23 (blk g (.cells #[bv] 43 (0, 0)) :: (F.set i emp)) := (((((H24.move 1 rfl).drop 1 rfl).drop 1 rfl).drop 1 rfl).drop 1 rfl)
      exact ⟨vint (idxB_none (p := fun x : CondV => !condB x bs) (fun q hq => hz q (by omega))).symm, St.back_same hi H32⟩
set_option maxHeartbeats 4000000 in
set_option maxRecDepth 100000 in
theorem ContainsFunc_cond_all {W w : World} {F : List Atom} (L : List CondV) (lv : Value) (g : Nat) (bs : List BoundD) (bv : Value) {m : Nat} (hm : F[m]? = some (Im 11 lv L.length (L.flatMap condCell))) {i : Nat} (hi : F[i]? = some (blk g (.cells #[bv] 43 (0, 0)))) {ip : Nat} (hp : F[ip]? = some (Im 6 bv bs.length (bs.flatMap bndCell))) {iq : Nat} (hq : F[iq]? = some (bndsA bs)) (H : St W w F) : Calls Try.prog 33 #[lv, .func (.func 37) #[] #[.pointer (some ⟨g, 0, none⟩)]] w (Ret fun v w' => v = .bool (L.any (fun x : CondV => !condB x bs)) ∧ St W w' F) := by
  refine calls_of_go (n := 9) Try.func33 rfl Try.ntmps33 rfl ?_
  refine g_seq ?_
  refine g_region ?_
  refine r_cons (s_assign (.bool false) rfl rfl ?_)
  refine r_nil ?_
  refine g_seq ?_
  refine g_region ?_
  refine r_cons (s_move (lv) rfl rfl ?_)
  refine r_cons (s_move (.func (.func 37) #[] #[.pointer (some ⟨g, 0, none⟩)]) rfl rfl ?_)
  refine r_cons (s_call [lv, .func (.func 37) #[] #[.pointer (some ⟨g, 0, none⟩)]] pl_53 rfl rfl (IndexFunc_cond_all L lv g bs bv hm hi hp hq H) ?_)
  rintro _ w1 ⟨rfl, H2⟩
  refine r_cons (s_geq (decide ((0 : Int) ≤ idxB (fun x : CondV => !condB x bs) L)) rfl rfl rfl rfl ?_)
  refine r_cons (s_assign (.bool (decide ((0 : Int) ≤ idxB (fun x : CondV => !condB x bs) L))) rfl rfl ?_)
  refine r_nil ?_
  refine g_ret' [.bool (decide ((0 : Int) ≤ idxB (fun x : CondV => !condB x bs) L))] Try.func33 Try.results33 ⟨rfl, trivial⟩ ?_
  exact ⟨congrArg Value.bool (idxB_any (p := fun x : CondV => !condB x bs)), H2⟩
set_option maxHeartbeats 4000000 in
set_option maxRecDepth 100000 in
theorem pred_All {W w : World} {F : List Atom} (l : List CondV) (lv : Value) (bs : List BoundD) (bv : Value) {m : Nat} (hm : F[m]? = some (Im 11 lv l.length (l.flatMap condCell))) {ip : Nat} (hp : F[ip]? = some (Im 6 bv bs.length (bs.flatMap bndCell))) {iq : Nat} (hq : F[iq]? = some (bndsA bs)) (H : St W w F) : Calls Try.prog 17 #[lv, .agg #[bv]] w (Ret fun v w' => v = .bool (allB l bs) ∧ St W w' F) := by
  obtain ⟨pp1, cc2, rfl, hn3⟩ := Rd.shape (Im.rd H (i := m) hm)
  have H4 := H.dup (i := m + 0) (by exact hm) (Im_pers _ _ _ _)
  have H5 : St W w (Im 11 (.slice pp1 l.length cc2) l.length (l.flatMap condCell) :: F) := H4
  obtain ⟨pp6, cc7, rfl, hn8⟩ := Rd.shape (Im.rd H (i := ip) hp)
  have H9 := H5.dup (i := ip + 1) (by exact hp) (Im_pers _ _ _ _)
  have H10 : St W w (Im 6 (.slice pp6 bs.length cc7) bs.length (bs.flatMap bndCell) :: Im 11 (.slice pp1 l.length cc2) l.length (l.flatMap condCell) :: F) := H9
  have H11 := H10.dup (i := iq + 2) (by exact hq) (bndsA_pers _)
  have H12 : St W w (bndsA bs :: Im 6 (.slice pp6 bs.length cc7) bs.length (bs.flatMap bndCell) :: Im 11 (.slice pp1 l.length cc2) l.length (l.flatMap condCell) :: F) := H11
  refine calls_of_go (n := 9) Try.func17 rfl Try.ntmps17 rfl ?_
  refine g_seq ?_
  refine g_region ?_
  refine r_cons (s_box H12 43 (.agg #[.slice pp6 bs.length cc7]) rfl (cs := #[.slice pp6 bs.length cc7]) rfl rfl ?_); intro bk13 w14 H15
  refine r_cons (s_assign (.bool false) rfl rfl ?_)
  refine r_nil ?_
  refine g_seq ?_
  refine g_region ?_
  refine r_cons (s_move (.slice pp1 l.length cc2) rfl rfl ?_)
  refine r_cons (s_makeFunc (.func (.func 37) #[] #[.pointer (some ⟨bk13, 0, none⟩)]) rfl rfl ?_)
  refine r_cons (s_call [.slice pp1 l.length cc2, .func (.func 37) #[] #[.pointer (some ⟨bk13, 0, none⟩)]] pl_33 rfl rfl (ContainsFunc_cond_all l (.slice pp1 l.length cc2) bk13 bs (.slice pp6 bs.length cc7) (m := 3) rfl (i := 0) rfl (ip := 2) rfl (iq := 1) rfl H15) ?_)
  rintro _ w16 ⟨rfl, H17⟩
  refine r_cons (s_not (l.any (fun x : CondV => !condB x bs)) rfl (!(l.any (fun x : CondV => !condB x bs))) rfl rfl ?_)
  refine r_cons (s_assign (.bool (!(l.any (fun x : CondV => !condB x bs)))) rfl rfl ?_)
  refine r_nil ?_
  refine g_ret' [.bool (!(l.any (fun x : CondV => !condB x bs)))] Try.func17 Try.results17 ⟨rfl, trivial⟩ ?_
  have H18 : St W w16 F := ((((H17.drop 0 rfl).drop 0 rfl).drop 0 rfl).drop 0 rfl)
  exact ⟨rfl, H18⟩
set_option maxHeartbeats 4000000 in
set_option maxRecDepth 100000 in
theorem pred_Split1 {W w : World} {F : List Atom} (is : Bool) (g1 g2 : Nat) (l : List CondV) (lv : Value) (vars : List Str) (vv : Value) {i1 i2 : Nat} (h1 : F[i1]? = some (imm g1 (.cells #[lv] 28 (0, 0)))) (h2 : F[i2]? = some (imm g2 (.cells #[vv] 49 (0, 0)))) {m : Nat} (hm : F[m]? = some (Im 11 lv l.length (l.flatMap condCell))) {jv : Nat} (hv : F[jv]? = some (Im 1 vv vars.length (vars.flatMap strCell))) (hb : l.length * 136 ≤ 140737488355328) (H : St W w F) : Calls Try.prog 44 #[.bool is, .pointer (some ⟨g1, 0, none⟩), .pointer (some ⟨g2, 0, none⟩)] w (Ret fun v w' => ∃ p q, v = .slice p (pickB l vars is).length q ∧ St W w' (Im 11 (.slice p (pickB l vars is).length q) (pickB l vars is).length ((pickB l vars is).flatMap condCell) :: F)) := by
  obtain ⟨pp1, cc2, rfl, hn3⟩ := Rd.shape (Im.rd H (i := m) hm)
  have H4 := H.dup (i := m + 0) (by exact hm) (Im_pers _ _ _ _)
  have H5 : St W w (Im 11 (.slice pp1 l.length cc2) l.length (l.flatMap condCell) :: F) := H4
  obtain ⟨pp6, cc7, rfl, hn8⟩ := Rd.shape (Im.rd H (i := jv) hv)
  have H9 := H5.dup (i := jv + 1) (by exact hv) (Im_pers _ _ _ _)
  have H10 : St W w (Im 1 (.slice pp6 vars.length cc7) vars.length (vars.flatMap strCell) :: Im 11 (.slice pp1 l.length cc2) l.length (l.flatMap condCell) :: F) := H9
  have H11 := H10.dup (i := i1 + 2) (by exact h1) (imm_pers _ _)
  have H12 : St W w (imm g1 (.cells #[.slice pp1 l.length cc2] 28 (0, 0)) :: Im 1 (.slice pp6 vars.length cc7) vars.length (vars.flatMap strCell) :: Im 11 (.slice pp1 l.length cc2) l.length (l.flatMap condCell) :: F) := H11
  have H13 := H12.dup (i := i2 + 3) (by exact h2) (imm_pers _ _)
  have H14 : St W w (imm g2 (.cells #[.slice pp6 vars.length cc7] 49 (0, 0)) :: imm g1 (.cells #[.slice pp1 l.length cc2] 28 (0, 0)) :: Im 1 (.slice pp6 vars.length cc7) vars.length (vars.flatMap strCell) :: Im 11 (.slice pp1 l.length cc2) l.length (l.flatMap condCell) :: F) := H13
  refine calls_of_go (n := 25) Try.func44 rfl Try.ntmps44 rfl ?_
  refine g_seq ?_
  refine g_region ?_
  refine r_cons (s_assign (.slice none 0 0) rfl rfl ?_)
  refine r_nil ?_
  refine g_seq ?_
  refine g_region ?_
  refine r_cons (s_assign (.slice none 0 0) rfl rfl ?_)
  refine r_nil ?_
  refine g_seq ?_
  refine g_seq ?_
  refine g_region ?_
  refine r_cons (s_load (.slice pp1 l.length cc2) ag_28 rfl (H14.imm_at (i := 1) rfl) rfl rfl ?_)
  refine r_cons (s_len l.length rfl ⟨_, un_28⟩ rfl ?_)
  refine r_cons (s_move (.int .i64 0) rfl rfl ?_)
  refine r_nil ?_
  refine g_block ?_
  obtain ⟨pA15, cA16, gA17, oA18, kA19, eA20, zA21, he27, hn22, hp23, hx24, hs25, hml, H26⟩ := Im.open_ H14 (i := 3) rfl
  obtain ⟨rfl, rfl⟩ : pp1 = pA15 ∧ cc2 = cA16 := by injection he27 with a_ b_ c_; exact ⟨a_, c_⟩
  have H28 := Row.nil_intro H26 27 11
  have H29 : St W w (Row 27 11 (.slice none 0 0) 0 ((pickB (l.take 0) vars is).flatMap condCell) :: imi (0 < l.length) gA17 (.cells kA19 eA20 zA21) :: imm g2 (.cells #[.slice pp6 vars.length cc7] 49 (0, 0)) :: imm g1 (.cells #[.slice pp1 l.length cc2] 28 (0, 0)) :: Im 1 (.slice pp6 vars.length cc7) vars.length (vars.flatMap strCell) :: Im 11 (.slice pp1 l.length cc2) l.length (l.flatMap condCell) :: F) := H28
  have H30 : St W w (Row 27 11 (.slice none 0 0) 0 ((pickB (l.take 0) vars is).flatMap condCell) :: imi (0 < l.length) gA17 (.cells kA19 eA20 zA21) :: imm g2 (.cells #[.slice pp6 vars.length cc7] 49 (0, 0)) :: imm g1 (.cells #[.slice pp1 l.length cc2] 28 (0, 0)) :: Im 1 (.slice pp6 vars.length cc7) vars.length (vars.flatMap strCell) :: Im 11 (.slice pp1 l.length cc2) l.length (l.flatMap condCell) :: F) := ((((((H29.move 5 rfl).move 5 rfl).move 5 rfl).move 5 rfl).move 5 rfl).move 5 rfl)
  refine g_loop_inv (fun (x_ : Nat × Nat × (Option Addr) × Nat) => match x_ with | (j, n, p, c) => [(0, .bool is), (2, .pointer (some ⟨g2, 0, none⟩)), (4, .slice none 0 0), (5, .slice p n c), (8, .slice pp1 l.length cc2), (9, .int .i64 (l.length : Int)), (10, .int .i64 (j : Int))]) (fun (x_ : Nat × Nat × (Option Addr) × Nat) w => match x_ with | (j, n, p, c) => (j ≤ l.length) ∧ (n ≤ j) ∧ (n = (pickB (l.take j) vars is).length) ∧ St W w (Row 27 11 (.slice p n c) n ((pickB (l.take j) vars is).flatMap condCell) :: imi (0 < l.length) gA17 (.cells kA19 eA20 zA21) :: imm g2 (.cells #[.slice pp6 vars.length cc7] 49 (0, 0)) :: imm g1 (.cells #[.slice pp1 l.length cc2] 28 (0, 0)) :: Im 1 (.slice pp6 vars.length cc7) vars.length (vars.flatMap strCell) :: Im 11 (.slice pp1 l.length cc2) l.length (l.flatMap condCell) :: F)) (fun (x_ : Nat × Nat × (Option Addr) × Nat) => match x_ with | (j, n, p, c) => l.length - j) (0, 0, none, 0) ?_ ?_ ?_
  · exact ⟨by first | rfl | exact vint (by omega), by first | rfl | exact vint (by omega), by first | rfl | exact vint (by omega), by first | rfl | exact vint (by omega), by first | rfl | exact vint (by omega), by first | rfl | exact vint (by omega), by first | rfl | exact vint (by omega), trivial⟩
  · exact ⟨(by omega), (by omega), rfl, H30⟩
  · rintro ⟨j, n, p, c⟩ ρ31 w32 ⟨hjl, hnjn, hnln, H33⟩ nx34
    change Ends _ _ (upds ρ31 [(0, .bool is), (2, .pointer (some ⟨g2, 0, none⟩)), (4, .slice none 0 0), (5, .slice p n c), (8, .slice pp1 l.length cc2), (9, .int .i64 (l.length : Int)), (10, .int .i64 (j : Int))]) w32
    refine g_seq ?_
    refine g_region ?_
    by_cases hc35 : (j : Int) < (l.length : Int)
    · skip
      refine r_cons (s_lss true rfl rfl (dtrue hc35) rfl ?_)
      refine r_nil ?_
      refine g_seq ?_
      refine g_true rfl ?_
      refine g_skip ?_
      refine g_seq ?_
      refine g_block ?_
      refine g_seq ?_
      refine g_region ?_
      refine r_cons (s_indexAddr gA17 (off := oA18) (j : Int) 11 (oA18 + j * 11) (by exact congrArg (fun z_ => Value.slice z_ l.length cc2) (hp23 (by omega))) rfl el_28 (by omega) rfl rfl ?_)
      refine r_cons (s_loadAgg [.string ((l.getD j default).left.var.v), .string ((l.getD j default).left.attr.v), .int .i64 ((l.getD j default).left.val.kind.v), .int .i64 ((l.getD j default).left.val.n.v), .string ((l.getD j default).left.val.s.v), .int .i64 ((l.getD j default).rel.v), .string ((l.getD j default).right.var.v), .string ((l.getD j default).right.attr.v), .int .i64 ((l.getD j default).right.val.kind.v), .int .i64 ((l.getD j default).right.val.n.v), .string ((l.getD j default).right.val.s.v)] 11 ag_27 rfl (H33.imi_at (i := 1) rfl (by omega)) (by have := elem_size (i := j) (s := 11) (hs25 (by omega)) (by omega); omega) (elem_take condCell_len (hx24 (by omega)) (by omega) default) rfl ?_)
      refine r_cons (s_alloc H33 27 ze_27 rfl ?_); intro bk36 w37 H38
      refine r_cons (s_storeAgg H38 0 #[.string ((l.getD j default).left.var.v), .string ((l.getD j default).left.attr.v), .int .i64 ((l.getD j default).left.val.kind.v), .int .i64 ((l.getD j default).left.val.n.v), .string ((l.getD j default).left.val.s.v), .int .i64 ((l.getD j default).rel.v), .string ((l.getD j default).right.var.v), .string ((l.getD j default).right.attr.v), .int .i64 ((l.getD j default).right.val.kind.v), .int .i64 ((l.getD j default).right.val.n.v), .string ((l.getD j default).right.val.s.v)] 11 rfl rfl rfl sz_27 rfl (by simp [Value.oneCell']) (Nat.le_of_ble_eq_true rfl) (fun o h1 h2 => by first | (simp; done) | (simp; omega)) (cs' := #[.string ((l.getD j default).left.var.v), .string ((l.getD j default).left.attr.v), .int .i64 ((l.getD j default).left.val.kind.v), .int .i64 ((l.getD j default).left.val.n.v), .string ((l.getD j default).left.val.s.v), .int .i64 ((l.getD j default).rel.v), .string ((l.getD j default).right.var.v), .string ((l.getD j default).right.attr.v), .int .i64 ((l.getD j default).right.val.kind.v), .int .i64 ((l.getD j default).right.val.n.v), .string ((l.getD j default).right.val.s.v)]) (by kernel_rfl) ?_); intro w39 H40
      refine r_nil ?_
      refine g_seq ?_
      refine g_region ?_
      refine r_cons (s_loadAgg [.string ((l.getD j default).left.var.v), .string ((l.getD j default).left.attr.v), .int .i64 ((l.getD j default).left.val.kind.v), .int .i64 ((l.getD j default).left.val.n.v), .string ((l.getD j default).left.val.s.v), .int .i64 ((l.getD j default).rel.v), .string ((l.getD j default).right.var.v), .string ((l.getD j default).right.attr.v), .int .i64 ((l.getD j default).right.val.kind.v), .int .i64 ((l.getD j default).right.val.n.v), .string ((l.getD j default).right.val.s.v)] 11 ag_27 rfl (H40.blk_at (i := 0) rfl) (Nat.le_of_ble_eq_true rfl) rfl rfl ?_)
      refine r_cons (s_load (.slice pp6 vars.length cc7) ag_49 rfl (H40.imm_at (i := 3) rfl) rfl rfl ?_)
      refine r_cons (s_call [.agg #[.string ((l.getD j default).left.var.v), .string ((l.getD j default).left.attr.v), .int .i64 ((l.getD j default).left.val.kind.v), .int .i64 ((l.getD j default).left.val.n.v), .string ((l.getD j default).left.val.s.v), .int .i64 ((l.getD j default).rel.v), .string ((l.getD j default).right.var.v), .string ((l.getD j default).right.attr.v), .int .i64 ((l.getD j default).right.val.kind.v), .int .i64 ((l.getD j default).right.val.n.v), .string ((l.getD j default).right.val.s.v)], .slice pp6 vars.length cc7] pl_22 rfl rfl (pred_Ready (l.getD j default) vars (.slice pp6 vars.length cc7) (jv := 5) rfl H40) ?_)
      rintro _ w41 ⟨rfl, H42⟩
      refine r_cons (s_move (.bool is) rfl rfl ?_)
      refine r_cons (s_beql (decide (readyB (l.getD j default) vars = is)) un_4 rfl rfl rfl rfl ?_)
      refine r_nil ?_
      by_cases hb43 : (decide (readyB (l.getD j default) vars = is)) = true
      · skip
        refine g_true (congrArg Value.bool hb43) ?_
        refine g_region ?_
        refine r_cons (s_move (.slice p n c) rfl rfl ?_)
        refine r_cons (s_loadAgg [.string ((l.getD j default).left.var.v), .string ((l.getD j default).left.attr.v), .int .i64 ((l.getD j default).left.val.kind.v), .int .i64 ((l.getD j default).left.val.n.v), .string ((l.getD j default).left.val.s.v), .int .i64 ((l.getD j default).rel.v), .string ((l.getD j default).right.var.v), .string ((l.getD j default).right.attr.v), .int .i64 ((l.getD j default).right.val.kind.v), .int .i64 ((l.getD j default).right.val.n.v), .string ((l.getD j default).right.val.s.v)] 11 ag_27 rfl (H42.blk_at (i := 0) rfl) (Nat.le_of_ble_eq_true rfl) rfl rfl ?_)
        refine r_cons (s_buildSlice H42 11 1 (cs := #[.string ((l.getD j default).left.var.v), .string ((l.getD j default).left.attr.v), .int .i64 ((l.getD j default).left.val.kind.v), .int .i64 ((l.getD j default).left.val.n.v), .string ((l.getD j default).left.val.s.v), .int .i64 ((l.getD j default).rel.v), .string ((l.getD j default).right.var.v), .string ((l.getD j default).right.attr.v), .int .i64 ((l.getD j default).right.val.kind.v), .int .i64 ((l.getD j default).right.val.n.v), .string ((l.getD j default).right.val.s.v)]) #[.string ByteArray.empty, .string ByteArray.empty, .int .i64 0, .int .i64 0, .string ByteArray.empty, .int .i64 0, .string ByteArray.empty, .string ByteArray.empty, .int .i64 0, .int .i64 0, .string ByteArray.empty] el_28 ze_27 (by decide) (by decide) (by kernel_rfl) rfl ?_); intro bk44 w45 H46
        refine r_cons (s_append H46 2 rfl rfl rfl (rd_blk (H46.blk_at (i := 0) rfl) rfl (Nat.le_of_ble_eq_true rfl) (by simp [Value.oneCell'])) ap_28 (by decide) (by unfold maxLen; omega) (by omega) (n' := n + 1) (xs' := (pickB (l.take j) vars is).flatMap condCell ++ ([.string ((l.getD j default).left.var.v), .string ((l.getD j default).left.attr.v), .int .i64 ((l.getD j default).left.val.kind.v), .int .i64 ((l.getD j default).left.val.n.v), .string ((l.getD j default).left.val.s.v), .int .i64 ((l.getD j default).rel.v), .string ((l.getD j default).right.var.v), .string ((l.getD j default).right.attr.v), .int .i64 ((l.getD j default).right.val.kind.v), .int .i64 ((l.getD j default).right.val.n.v), .string ((l.getD j default).right.val.s.v)] : List Value)) (by omega) (by first | rfl | simp) rfl ?_); intro vv47 w48 H49 hn50
        obtain ⟨pp51, cc52, rfl⟩ := Row.slice H49 (i := 2) rfl
        refine r_cons (s_assign (.slice pp51 (n + 1) cc52) rfl rfl ?_)
        refine r_nil ?_
        refine g_inBlock ?_
        refine g_region ?_
        refine r_cons (s_add ((j : Int) + 1) rfl rfl (wi64 (by omega)) rfl ?_)
        refine r_cons (s_move (.int .i64 ((j : Int) + 1)) rfl rfl ?_)
        refine r_nil ?_
        have hpkn : (pickB (l.take (j + 1)) vars is) = (pickB (l.take j) vars is) ++ [(l.getD j default)] := pick_yes (by omega) (of_decide_eq_true hb43)
        have H53 : St W w48 (blk bk44 (.cells #[.string ((l.getD j default).left.var.v), .string ((l.getD j default).left.attr.v), .int .i64 ((l.getD j default).left.val.kind.v), .int .i64 ((l.getD j default).left.val.n.v), .string ((l.getD j default).left.val.s.v), .int .i64 ((l.getD j default).rel.v), .string ((l.getD j default).right.var.v), .string ((l.getD j default).right.attr.v), .int .i64 ((l.getD j default).right.val.kind.v), .int .i64 ((l.getD j default).right.val.n.v), .string ((l.getD j default).right.val.s.v)] 27 (0, 0)) :: blk bk36 (.cells #[.string ((l.getD j default).left.var.v), .string ((l.getD j default).left.attr.v), .int .i64 ((l.getD j default).left.val.kind.v), .int .i64 ((l.getD j default).left.val.n.v), .string ((l.getD j default).left.val.s.v), .int .i64 ((l.getD j default).rel.v), .string ((l.getD j default).right.var.v), .string ((l.getD j default).right.attr.v), .int .i64 ((l.getD j default).right.val.kind.v), .int .i64 ((l.getD j default).right.val.n.v), .string ((l.getD j default).right.val.s.v)] 27 (0, 0)) :: Row 27 11 (.slice pp51 (n + 1) cc52) (n + 1) ((pickB (l.take (j + 1)) vars is).flatMap condCell) :: imi (0 < l.length) gA17 (.cells kA19 eA20 zA21) :: imm g2 (.cells #[.slice pp6 vars.length cc7] 49 (0, 0)) :: imm g1 (.cells #[.slice pp1 l.length cc2] 28 (0, 0)) :: Im 1 (.slice pp6 vars.length cc7) vars.length (vars.flatMap strCell) :: Im 11 (.slice pp1 l.length cc2) l.length (l.flatMap condCell) :: F) := by rw [hpkn, List.flatMap_append]; exact H49
        have H54 : St W w48 (Row 27 11 (.slice pp51 (n + 1) cc52) (n + 1) ((pickB (l.take (j + 1)) vars is).flatMap condCell) :: imi (0 < l.length) gA17 (.cells kA19 eA20 zA21) :: imm g2 (.cells #[.slice pp6 vars.length cc7] 49 (0, 0)) :: imm g1 (.cells #[.slice pp1 l.length cc2] 28 (0, 0)) :: Im 1 (.slice pp6 vars.length cc7) vars.length (vars.flatMap strCell) :: Im 11 (.slice pp1 l.length cc2) l.length (l.flatMap condCell) :: F) := ((((((((H53.move 7 rfl).move 7 rfl).move 7 rfl).move 7 rfl).move 7 rfl).move 7 rfl).drop 6 rfl).drop 6 rfl)
        exact nx34 (j + 1, n + 1, pp51, cc52) _ _ ⟨(by omega), (by omega), (by rw [hpkn, List.length_append, List.length_singleton]; omega), H54⟩ (by first | (dsimp only; omega) | omega) ⟨by first | rfl | exact vint (by omega), by first | rfl | exact vint (by omega), by first | rfl | exact vint (by omega), by first | rfl | exact vint (by omega), by first | rfl | exact vint (by omega), by first | rfl | exact vint (by omega), by first | rfl | exact vint (by omega), trivial⟩
      · have hb43 := eq_false_of_ne_true hb43
        refine g_false (congrArg Value.bool hb43) ?_
        refine g_skip ?_
        refine g_inBlock ?_
        refine g_region ?_
        refine r_cons (s_add ((j : Int) + 1) rfl rfl (wi64 (by omega)) rfl ?_)
        refine r_cons (s_move (.int .i64 ((j : Int) + 1)) rfl rfl ?_)
        refine r_nil ?_
        have hpkn : (pickB (l.take (j + 1)) vars is) = (pickB (l.take j) vars is) := pick_no (by omega) (of_decide_eq_false hb43)
        have H55 : St W w41 (blk bk36 (.cells #[.string ((l.getD j default).left.var.v), .string ((l.getD j default).left.attr.v), .int .i64 ((l.getD j default).left.val.kind.v), .int .i64 ((l.getD j default).left.val.n.v), .string ((l.getD j default).left.val.s.v), .int .i64 ((l.getD j default).rel.v), .string ((l.getD j default).right.var.v), .string ((l.getD j default).right.attr.v), .int .i64 ((l.getD j default).right.val.kind.v), .int .i64 ((l.getD j default).right.val.n.v), .string ((l.getD j default).right.val.s.v)] 27 (0, 0)) :: Row 27 11 (.slice p n c) n ((pickB (l.take (j + 1)) vars is).flatMap condCell) :: imi (0 < l.length) gA17 (.cells kA19 eA20 zA21) :: imm g2 (.cells #[.slice pp6 vars.length cc7] 49 (0, 0)) :: imm g1 (.cells #[.slice pp1 l.length cc2] 28 (0, 0)) :: Im 1 (.slice pp6 vars.length cc7) vars.length (vars.flatMap strCell) :: Im 11 (.slice pp1 l.length cc2) l.length (l.flatMap condCell) :: F) := by rw [hpkn]; exact H42
        have H56 : St W w41 (Row 27 11 (.slice p n c) n ((pickB (l.take (j + 1)) vars is).flatMap condCell) :: imi (0 < l.length) gA17 (.cells kA19 eA20 zA21) :: imm g2 (.cells #[.slice pp6 vars.length cc7] 49 (0, 0)) :: imm g1 (.cells #[.slice pp1 l.length cc2] 28 (0, 0)) :: Im 1 (.slice pp6 vars.length cc7) vars.length (vars.flatMap strCell) :: Im 11 (.slice pp1 l.length cc2) l.length (l.flatMap condCell) :: F) := (((((((H55.move 6 rfl).move 6 rfl).move 6 rfl).move 6 rfl).move 6 rfl).move 6 rfl).drop 6 rfl)
        exact nx34 (j + 1, n, p, c) _ _ ⟨(by omega), (by omega), (by rw [hpkn]; omega), H56⟩ (by first | (dsimp only; omega) | omega) ⟨by first | rfl | exact vint (by omega), by first | rfl | exact vint (by omega), by first | rfl | exact vint (by omega), by first | rfl | exact vint (by omega), by first | rfl | exact vint (by omega), by first | rfl | exact vint (by omega), by first | rfl | exact vint (by omega), trivial⟩
    · skip
      refine r_cons (s_lss false rfl rfl (dfalse hc35) rfl ?_)
      refine r_nil ?_
      refine g_seq ?_
      refine g_false rfl ?_
      refine g_exit (by rfl) ?_
      refine g_seq ?_
      refine g_region ?_
      refine r_cons (s_move (.slice p n c) rfl rfl ?_)
      refine r_cons (s_assign (.slice p n c) rfl rfl ?_)
      refine r_nil ?_
      refine g_ret' [.slice p n c] Try.func44 Try.results44 ⟨rfl, trivial⟩ ?_
      have H57 : St W w32 (Row 27 11 (.slice p n c) n ((pickB (l.take j) vars is).flatMap condCell) :: F) := (((((H33.drop 1 rfl).drop 1 rfl).drop 1 rfl).drop 1 rfl).drop 1 rfl)
      have he : (pickB (l.take j) vars is) = (pickB l vars is) := pick_all (by omega)
      have hH := H57
      rw [he] at hH hnln
      subst hnln
      exact ⟨_, _, rfl, Row.im hH (i := 0) rfl⟩
set_option maxHeartbeats 4000000 in
set_option maxRecDepth 100000 in
theorem pred_Split {W w : World} {F : List Atom} (l : List CondV) (lv : Value) (vars : List Str) (vv : Value) {m : Nat} (hm : F[m]? = some (Im 11 lv l.length (l.flatMap condCell))) {jv : Nat} (hv : F[jv]? = some (Im 1 vv vars.length (vars.flatMap strCell))) (hb : l.length * 136 ≤ 140737488355328) (H : St W w F) : Calls Try.prog 24 #[lv, vv] w (Ret fun v w' => ∃ p q p2 q2, v = .tuple #[.slice p (pickB l vars true).length q, .slice p2 (pickB l vars false).length q2] ∧ St W w' (Im 11 (.slice p (pickB l vars true).length q) (pickB l vars true).length ((pickB l vars true).flatMap condCell) :: Im 11 (.slice p2 (pickB l vars false).length q2) (pickB l vars false).length ((pickB l vars false).flatMap condCell) :: F)) := by
  obtain ⟨pp1, cc2, rfl, hn3⟩ := Rd.shape (Im.rd H (i := m) hm)
  have H4 := H.dup (i := m + 0) (by exact hm) (Im_pers _ _ _ _)
  have H5 : St W w (Im 11 (.slice pp1 l.length cc2) l.length (l.flatMap condCell) :: F) := H4
  obtain ⟨pp6, cc7, rfl, hn8⟩ := Rd.shape (Im.rd H (i := jv) hv)
  have H9 := H5.dup (i := jv + 1) (by exact hv) (Im_pers _ _ _ _)
  have H10 : St W w (Im 1 (.slice pp6 vars.length cc7) vars.length (vars.flatMap strCell) :: Im 11 (.slice pp1 l.length cc2) l.length (l.flatMap condCell) :: F) := H9
  refine calls_of_go (n := 12) Try.func24 rfl Try.ntmps24 rfl ?_
  refine g_seq ?_
  refine g_region ?_
  refine r_cons (s_box H10 28 (.slice pp1 l.length cc2) rfl (cs := #[.slice pp1 l.length cc2]) rfl rfl ?_); intro bk11 w12 H13
  refine r_cons (s_box H13 49 (.slice pp6 vars.length cc7) rfl (cs := #[.slice pp6 vars.length cc7]) rfl rfl ?_); intro bk14 w15 H16
  refine r_cons (s_assign (.slice none 0 0) rfl rfl ?_)
  refine r_cons (s_assign (.slice none 0 0) rfl rfl ?_)
  refine r_nil ?_
  refine g_seq ?_
  refine g_region ?_
  refine r_cons (s_makeFunc (.func (.func 44) #[] #[.pointer (some ⟨bk11, 0, none⟩), .pointer (some ⟨bk14, 0, none⟩)]) rfl rfl ?_)
  refine r_cons (s_assign (.func (.func 44) #[] #[.pointer (some ⟨bk11, 0, none⟩), .pointer (some ⟨bk14, 0, none⟩)]) rfl rfl ?_)
  refine r_nil ?_
  refine g_seq ?_
  refine g_region ?_
  refine r_cons (s_move (.func (.func 44) #[] #[.pointer (some ⟨bk11, 0, none⟩), .pointer (some ⟨bk14, 0, none⟩)]) rfl rfl ?_)
  have H17 : St W w15 (blk bk14 (.cells #[.slice pp6 vars.length cc7] 49 (0, 0)) :: imm bk11 (.cells #[.slice pp1 l.length cc2] 28 (0, 0)) :: Im 1 (.slice pp6 vars.length cc7) vars.length (vars.flatMap strCell) :: Im 11 (.slice pp1 l.length cc2) l.length (l.flatMap condCell) :: F) := blk_imm H16 (i := 1) rfl
  have H18 : St W w15 (imm bk14 (.cells #[.slice pp6 vars.length cc7] 49 (0, 0)) :: imm bk11 (.cells #[.slice pp1 l.length cc2] 28 (0, 0)) :: Im 1 (.slice pp6 vars.length cc7) vars.length (vars.flatMap strCell) :: Im 11 (.slice pp1 l.length cc2) l.length (l.flatMap condCell) :: F) := blk_imm H17 (i := 0) rfl
  refine r_cons (s_callv [.pointer (some ⟨bk11, 0, none⟩), .pointer (some ⟨bk14, 0, none⟩)] [.bool true, .pointer (some ⟨bk11, 0, none⟩), .pointer (some ⟨bk14, 0, none⟩)] rfl pl_44 rfl rfl (pred_Split1 true bk11 bk14 l (.slice pp1 l.length cc2) vars (.slice pp6 vars.length cc7) (i1 := 1) (i2 := 0) rfl rfl (m := 3) rfl (jv := 2) rfl hb H18) ?_)
  rintro _ w21 ⟨pp19, cc20, rfl, H22⟩
  refine r_cons (s_move (.func (.func 44) #[] #[.pointer (some ⟨bk11, 0, none⟩), .pointer (some ⟨bk14, 0, none⟩)]) rfl rfl ?_)
  refine r_cons (s_callv [.pointer (some ⟨bk11, 0, none⟩), .pointer (some ⟨bk14, 0, none⟩)] [.bool false, .pointer (some ⟨bk11, 0, none⟩), .pointer (some ⟨bk14, 0, none⟩)] rfl pl_44 rfl rfl (pred_Split1 false bk11 bk14 l (.slice pp1 l.length cc2) vars (.slice pp6 vars.length cc7) (i1 := 2) (i2 := 1) rfl rfl (m := 4) rfl (jv := 3) rfl hb H22) ?_)
  rintro _ w25 ⟨pp23, cc24, rfl, H26⟩
  refine r_cons (s_assign (.slice pp19 ((pickB l vars true).length) cc20) rfl rfl ?_)
  refine r_cons (s_assign (.slice pp23 ((pickB l vars false).length) cc24) rfl rfl ?_)
  refine r_nil ?_
  refine g_ret' [.slice pp19 ((pickB l vars true).length) cc20, .slice pp23 ((pickB l vars false).length) cc24] Try.func24 Try.results24 ⟨rfl, rfl, trivial⟩ ?_
  have H27 : St W w25 (Im 11 (.slice pp19 ((pickB l vars true).length) cc20) ((pickB l vars true).length) ((pickB l vars true).flatMap condCell) :: Im 11 (.slice pp23 ((pickB l vars false).length) cc24) ((pickB l vars false).length) ((pickB l vars false).flatMap condCell) :: F) := (((((H26.move 1 rfl).drop 2 rfl).drop 2 rfl).drop 2 rfl).drop 2 rfl)
  exact ⟨_, _, _, _, rfl, H27⟩
set_option maxHeartbeats 4000000 in
set_option maxRecDepth 100000 in
theorem pred_live {W w : World} {F : List Atom}  (H : St W w F) : Calls Try.prog 8 #[] w (Ret fun v w' => v = .bool true ∧ St W w' F) := by
  refine calls_of_go (n := 33) Try.func8 rfl Try.ntmps8 rfl ?_
  refine g_seq ?_
  refine g_region ?_
  refine r_cons (s_assign (.bool false) rfl rfl ?_)
  refine r_nil ?_
  refine g_seq ?_
  refine g_region ?_
  refine r_cons (s_build (cs := #[.string ByteArray.empty, .string (⟨#[120]⟩), .int .i64 0, .int .i64 0, .string ByteArray.empty]) (by kernel_rfl) rfl ?_)
  refine r_cons (s_build (cs := #[.int .i64 1, .int .i64 3, .string ByteArray.empty]) (by kernel_rfl) rfl ?_)
  refine r_cons (s_build (cs := #[.string ByteArray.empty, .string ByteArray.empty, .int .i64 1, .int .i64 3, .string ByteArray.empty]) (by kernel_rfl) rfl ?_)
  refine r_cons (s_build (cs := #[.string ByteArray.empty, .string (⟨#[120]⟩), .int .i64 0, .int .i64 0, .string ByteArray.empty, .int .i64 5, .string ByteArray.empty, .string ByteArray.empty, .int .i64 1, .int .i64 3, .string ByteArray.empty]) (by kernel_rfl) rfl ?_)
  refine r_cons (s_alloc H 27 ze_27 rfl ?_); intro bk1 w2 H3
  refine r_cons (s_storeAgg H3 0 #[.string ByteArray.empty, .string (⟨#[120]⟩), .int .i64 0, .int .i64 0, .string ByteArray.empty, .int .i64 5, .string ByteArray.empty, .string ByteArray.empty, .int .i64 1, .int .i64 3, .string ByteArray.empty] 11 rfl rfl rfl sz_27 rfl (by simp [Value.oneCell']) (Nat.le_of_ble_eq_true rfl) (fun o h1 h2 => by first | (simp; done) | (simp; omega)) (cs' := #[.string ByteArray.empty, .string (⟨#[120]⟩), .int .i64 0, .int .i64 0, .string ByteArray.empty, .int .i64 5, .string ByteArray.empty, .string ByteArray.empty, .int .i64 1, .int .i64 3, .string ByteArray.empty]) (by kernel_rfl) ?_); intro w4 H5
  refine r_nil ?_
  refine g_seq ?_
  refine g_region ?_
  refine r_cons (s_build (cs := #[.int .i64 1, .int .i64 5, .string ByteArray.empty]) (by kernel_rfl) rfl ?_)
  refine r_cons (s_build (cs := #[.string (⟨#[120]⟩), .int .i64 1, .int .i64 5, .string ByteArray.empty]) (by kernel_rfl) rfl ?_)
  refine r_cons (s_buildSlice H5 4 1 (cs := #[.string (⟨#[120]⟩), .int .i64 1, .int .i64 5, .string ByteArray.empty]) #[.string ByteArray.empty, .int .i64 0, .int .i64 0, .string ByteArray.empty] el_34 ze_65 (by decide) (by decide) (by kernel_rfl) rfl ?_); intro bk6 w7 H8
  refine r_cons (s_build (cs := #[.int .i64 0, .int .i64 0, .int .i64 0, .string (⟨#[65]⟩), .slice (some ⟨bk6, 0, none⟩) 1 1]) (by kernel_rfl) rfl ?_)
  refine r_cons (s_alloc H8 36 ze_36 rfl ?_); intro bk9 w10 H11
  refine r_cons (s_storeAgg H11 0 #[.int .i64 0, .int .i64 0, .int .i64 0, .string (⟨#[65]⟩), .slice (some ⟨bk6, 0, none⟩) 1 1] 5 rfl rfl rfl sz_36 rfl (by simp [Value.oneCell']) (Nat.le_of_ble_eq_true rfl) (fun o h1 h2 => by first | (simp; done) | (simp; omega)) (cs' := #[.int .i64 0, .int .i64 0, .int .i64 0, .string (⟨#[65]⟩), .slice (some ⟨bk6, 0, none⟩) 1 1]) rfl ?_); intro w12 H13
  refine r_nil ?_
  refine g_seq ?_
  refine g_region ?_
  refine r_cons (s_loadAgg [.string ByteArray.empty, .string (⟨#[120]⟩), .int .i64 0, .int .i64 0, .string ByteArray.empty, .int .i64 5, .string ByteArray.empty, .string ByteArray.empty, .int .i64 1, .int .i64 3, .string ByteArray.empty] 11 ag_27 rfl (H13.blk_at (i := 2) rfl) (Nat.le_of_ble_eq_true rfl) rfl rfl ?_)
  refine r_cons (s_loadAgg [.int .i64 0, .int .i64 0, .int .i64 0, .string (⟨#[65]⟩), .slice (some ⟨bk6, 0, none⟩) 1 1] 5 ag_36 rfl (H13.blk_at (i := 0) rfl) (Nat.le_of_ble_eq_true rfl) rfl rfl ?_)
  have H14 := Row.cut (n := 0) (m := 1) (c := 1) (size := 4) (xs := [.string (⟨#[120]⟩), .int .i64 1, .int .i64 5, .string ByteArray.empty]) H13 (i := 1) rfl (by decide) (by decide +kernel) rfl rfl (by simp [Value.oneCell'])
  have H15 : St W w12 (blk bk9 (.cells #[.int .i64 0, .int .i64 0, .int .i64 0, .string (⟨#[65]⟩), .slice (some ⟨bk6, 0, none⟩) 1 1] 36 (0, 0)) :: Row 65 4 (.slice (some ⟨bk6, 0, none⟩) 1 1) 1 [.string (⟨#[120]⟩), .int .i64 1, .int .i64 5, .string ByteArray.empty] :: blk bk1 (.cells #[.string ByteArray.empty, .string (⟨#[120]⟩), .int .i64 0, .int .i64 0, .string ByteArray.empty, .int .i64 5, .string ByteArray.empty, .string ByteArray.empty, .int .i64 1, .int .i64 3, .string ByteArray.empty] 27 (0, 0)) :: F) := H14
  have H16 : St W w12 (blk bk9 (.cells #[.int .i64 0, .int .i64 0, .int .i64 0, .string (⟨#[65]⟩), .slice (some ⟨bk6, 0, none⟩) 1 1] 36 (0, 0)) :: Attrs (.slice (some ⟨bk6, 0, none⟩) 1 1) [(⟨(⟨⟨#[120]⟩, by decide⟩ : Str), (⟨1, by decide, by decide⟩ : I64), (⟨5, by decide, by decide⟩ : I64), Str.none⟩ : AttrV)] :: blk bk1 (.cells #[.string ByteArray.empty, .string (⟨#[120]⟩), .int .i64 0, .int .i64 0, .string ByteArray.empty, .int .i64 5, .string ByteArray.empty, .string ByteArray.empty, .int .i64 1, .int .i64 3, .string ByteArray.empty] 27 (0, 0)) :: F) := Row.im H15 (i := 1) rfl
  refine r_cons (s_call [.agg #[.string ByteArray.empty, .string (⟨#[120]⟩), .int .i64 0, .int .i64 0, .string ByteArray.empty, .int .i64 5, .string ByteArray.empty, .string ByteArray.empty, .int .i64 1, .int .i64 3, .string ByteArray.empty], .agg #[.int .i64 0, .int .i64 0, .int .i64 0, .string (⟨#[65]⟩), .slice (some ⟨bk6, 0, none⟩) 1 1]] pl_9 rfl rfl (pred_Test (⟨(⟨Str.none, (⟨⟨#[120]⟩, by decide⟩ : Str), (⟨(⟨0, by decide, by decide⟩ : I64), (⟨0, by decide, by decide⟩ : I64), Str.none⟩ : ValV)⟩ : OpdV), (⟨5, by decide, by decide⟩ : I64), (⟨Str.none, Str.none, (⟨(⟨1, by decide, by decide⟩ : I64), (⟨3, by decide, by decide⟩ : I64), Str.none⟩ : ValV)⟩ : OpdV)⟩ : CondV) (⟨(⟨0, by decide, by decide⟩ : I64), (⟨0, by decide, by decide⟩ : I64), (⟨0, by decide, by decide⟩ : I64), (⟨⟨#[65]⟩, by decide⟩ : Str), [(⟨(⟨⟨#[120]⟩, by decide⟩ : Str), (⟨1, by decide, by decide⟩ : I64), (⟨5, by decide, by decide⟩ : I64), Str.none⟩ : AttrV)]⟩ : EvM) (.slice (some ⟨bk6, 0, none⟩) 1 1) (j := 1) rfl H16) ?_)
  rintro _ w17 ⟨rfl, H18⟩
  refine r_cons (s_move (.bool (testB (⟨(⟨Str.none, (⟨⟨#[120]⟩, by decide⟩ : Str), (⟨(⟨0, by decide, by decide⟩ : I64), (⟨0, by decide, by decide⟩ : I64), Str.none⟩ : ValV)⟩ : OpdV), (⟨5, by decide, by decide⟩ : I64), (⟨Str.none, Str.none, (⟨(⟨1, by decide, by decide⟩ : I64), (⟨3, by decide, by decide⟩ : I64), Str.none⟩ : ValV)⟩ : OpdV)⟩ : CondV) (⟨(⟨0, by decide, by decide⟩ : I64), (⟨0, by decide, by decide⟩ : I64), (⟨0, by decide, by decide⟩ : I64), (⟨⟨#[65]⟩, by decide⟩ : Str), [(⟨(⟨⟨#[120]⟩, by decide⟩ : Str), (⟨1, by decide, by decide⟩ : I64), (⟨5, by decide, by decide⟩ : I64), Str.none⟩ : AttrV)]⟩ : EvM).attrs)) rfl rfl ?_)
  refine r_cons (r_take rfl (congrArg some (show (testB (⟨(⟨Str.none, (⟨⟨#[120]⟩, by decide⟩ : Str), (⟨(⟨0, by decide, by decide⟩ : I64), (⟨0, by decide, by decide⟩ : I64), Str.none⟩ : ValV)⟩ : OpdV), (⟨5, by decide, by decide⟩ : I64), (⟨Str.none, Str.none, (⟨(⟨1, by decide, by decide⟩ : I64), (⟨3, by decide, by decide⟩ : I64), Str.none⟩ : ValV)⟩ : OpdV)⟩ : CondV) (⟨(⟨0, by decide, by decide⟩ : I64), (⟨0, by decide, by decide⟩ : I64), (⟨0, by decide, by decide⟩ : I64), (⟨⟨#[65]⟩, by decide⟩ : Str), [(⟨(⟨⟨#[120]⟩, by decide⟩ : Str), (⟨1, by decide, by decide⟩ : I64), (⟨5, by decide, by decide⟩ : I64), Str.none⟩ : AttrV)]⟩ : EvM).attrs) = true from by decide +kernel)) ?_)
  refine s_loadAgg [.string ByteArray.empty, .string (⟨#[120]⟩), .int .i64 0, .int .i64 0, .string ByteArray.empty, .int .i64 5, .string ByteArray.empty, .string ByteArray.empty, .int .i64 1, .int .i64 3, .string ByteArray.empty] 11 ag_27 rfl (H18.blk_at (i := 2) rfl) (Nat.le_of_ble_eq_true rfl) rfl rfl ?_
  refine r_cons (r_take rfl (congrArg some (show (testB (⟨(⟨Str.none, (⟨⟨#[120]⟩, by decide⟩ : Str), (⟨(⟨0, by decide, by decide⟩ : I64), (⟨0, by decide, by decide⟩ : I64), Str.none⟩ : ValV)⟩ : OpdV), (⟨5, by decide, by decide⟩ : I64), (⟨Str.none, Str.none, (⟨(⟨1, by decide, by decide⟩ : I64), (⟨3, by decide, by decide⟩ : I64), Str.none⟩ : ValV)⟩ : OpdV)⟩ : CondV) (⟨(⟨0, by decide, by decide⟩ : I64), (⟨0, by decide, by decide⟩ : I64), (⟨0, by decide, by decide⟩ : I64), (⟨⟨#[65]⟩, by decide⟩ : Str), [(⟨(⟨⟨#[120]⟩, by decide⟩ : Str), (⟨1, by decide, by decide⟩ : I64), (⟨5, by decide, by decide⟩ : I64), Str.none⟩ : AttrV)]⟩ : EvM).attrs) = true from by decide +kernel)) ?_)
  refine s_build (cs := #[.int .i64 0, .int .i64 0, .int .i64 0, .string ByteArray.empty, .slice none 0 0]) (by kernel_rfl) rfl ?_
  refine r_cons (r_take rfl (congrArg some (show (testB (⟨(⟨Str.none, (⟨⟨#[120]⟩, by decide⟩ : Str), (⟨(⟨0, by decide, by decide⟩ : I64), (⟨0, by decide, by decide⟩ : I64), Str.none⟩ : ValV)⟩ : OpdV), (⟨5, by decide, by decide⟩ : I64), (⟨Str.none, Str.none, (⟨(⟨1, by decide, by decide⟩ : I64), (⟨3, by decide, by decide⟩ : I64), Str.none⟩ : ValV)⟩ : OpdV)⟩ : CondV) (⟨(⟨0, by decide, by decide⟩ : I64), (⟨0, by decide, by decide⟩ : I64), (⟨0, by decide, by decide⟩ : I64), (⟨⟨#[65]⟩, by decide⟩ : Str), [(⟨(⟨⟨#[120]⟩, by decide⟩ : Str), (⟨1, by decide, by decide⟩ : I64), (⟨5, by decide, by decide⟩ : I64), Str.none⟩ : AttrV)]⟩ : EvM).attrs) = true from by decide +kernel)) ?_)
  have H19 : St W w17 (Attrs (.slice none 0 0) [] :: blk bk9 (.cells #[.int .i64 0, .int .i64 0, .int .i64 0, .string (⟨#[65]⟩), .slice (some ⟨bk6, 0, none⟩) 1 1] 36 (0, 0)) :: Attrs (.slice (some ⟨bk6, 0, none⟩) 1 1) [(⟨(⟨⟨#[120]⟩, by decide⟩ : Str), (⟨1, by decide, by decide⟩ : I64), (⟨5, by decide, by decide⟩ : I64), Str.none⟩ : AttrV)] :: blk bk1 (.cells #[.string ByteArray.empty, .string (⟨#[120]⟩), .int .i64 0, .int .i64 0, .string ByteArray.empty, .int .i64 5, .string ByteArray.empty, .string ByteArray.empty, .int .i64 1, .int .i64 3, .string ByteArray.empty] 27 (0, 0)) :: F) := Row.im (Row.nil_intro H18 65 4) (i := 0) rfl
  refine s_call [.agg #[.string ByteArray.empty, .string (⟨#[120]⟩), .int .i64 0, .int .i64 0, .string ByteArray.empty, .int .i64 5, .string ByteArray.empty, .string ByteArray.empty, .int .i64 1, .int .i64 3, .string ByteArray.empty], .agg #[.int .i64 0, .int .i64 0, .int .i64 0, .string ByteArray.empty, .slice none 0 0]] pl_9 rfl rfl (pred_Test (⟨(⟨Str.none, (⟨⟨#[120]⟩, by decide⟩ : Str), (⟨(⟨0, by decide, by decide⟩ : I64), (⟨0, by decide, by decide⟩ : I64), Str.none⟩ : ValV)⟩ : OpdV), (⟨5, by decide, by decide⟩ : I64), (⟨Str.none, Str.none, (⟨(⟨1, by decide, by decide⟩ : I64), (⟨3, by decide, by decide⟩ : I64), Str.none⟩ : ValV)⟩ : OpdV)⟩ : CondV) (⟨(⟨0, by decide, by decide⟩ : I64), (⟨0, by decide, by decide⟩ : I64), (⟨0, by decide, by decide⟩ : I64), Str.none, []⟩ : EvM) (.slice none 0 0) (j := 0) rfl H19) ?_
  rintro _ w20 ⟨rfl, H21⟩
  refine r_cons (r_take rfl (congrArg some (show (testB (⟨(⟨Str.none, (⟨⟨#[120]⟩, by decide⟩ : Str), (⟨(⟨0, by decide, by decide⟩ : I64), (⟨0, by decide, by decide⟩ : I64), Str.none⟩ : ValV)⟩ : OpdV), (⟨5, by decide, by decide⟩ : I64), (⟨Str.none, Str.none, (⟨(⟨1, by decide, by decide⟩ : I64), (⟨3, by decide, by decide⟩ : I64), Str.none⟩ : ValV)⟩ : OpdV)⟩ : CondV) (⟨(⟨0, by decide, by decide⟩ : I64), (⟨0, by decide, by decide⟩ : I64), (⟨0, by decide, by decide⟩ : I64), (⟨⟨#[65]⟩, by decide⟩ : Str), [(⟨(⟨⟨#[120]⟩, by decide⟩ : Str), (⟨1, by decide, by decide⟩ : I64), (⟨5, by decide, by decide⟩ : I64), Str.none⟩ : AttrV)]⟩ : EvM).attrs) = true from by decide +kernel)) ?_)
  refine s_not (testB (⟨(⟨Str.none, (⟨⟨#[120]⟩, by decide⟩ : Str), (⟨(⟨0, by decide, by decide⟩ : I64), (⟨0, by decide, by decide⟩ : I64), Str.none⟩ : ValV)⟩ : OpdV), (⟨5, by decide, by decide⟩ : I64), (⟨Str.none, Str.none, (⟨(⟨1, by decide, by decide⟩ : I64), (⟨3, by decide, by decide⟩ : I64), Str.none⟩ : ValV)⟩ : OpdV)⟩ : CondV) (⟨(⟨0, by decide, by decide⟩ : I64), (⟨0, by decide, by decide⟩ : I64), (⟨0, by decide, by decide⟩ : I64), Str.none, []⟩ : EvM).attrs) rfl true (by rw [(show (testB (⟨(⟨Str.none, (⟨⟨#[120]⟩, by decide⟩ : Str), (⟨(⟨0, by decide, by decide⟩ : I64), (⟨0, by decide, by decide⟩ : I64), Str.none⟩ : ValV)⟩ : OpdV), (⟨5, by decide, by decide⟩ : I64), (⟨Str.none, Str.none, (⟨(⟨1, by decide, by decide⟩ : I64), (⟨3, by decide, by decide⟩ : I64), Str.none⟩ : ValV)⟩ : OpdV)⟩ : CondV) (⟨(⟨0, by decide, by decide⟩ : I64), (⟨0, by decide, by decide⟩ : I64), (⟨0, by decide, by decide⟩ : I64), Str.none, []⟩ : EvM).attrs) = false from by decide +kernel)]; rfl) rfl ?_
  refine r_cons (s_pick_t (.bool true) (by exact congrArg Value.bool (show (testB (⟨(⟨Str.none, (⟨⟨#[120]⟩, by decide⟩ : Str), (⟨(⟨0, by decide, by decide⟩ : I64), (⟨0, by decide, by decide⟩ : I64), Str.none⟩ : ValV)⟩ : OpdV), (⟨5, by decide, by decide⟩ : I64), (⟨Str.none, Str.none, (⟨(⟨1, by decide, by decide⟩ : I64), (⟨3, by decide, by decide⟩ : I64), Str.none⟩ : ValV)⟩ : OpdV)⟩ : CondV) (⟨(⟨0, by decide, by decide⟩ : I64), (⟨0, by decide, by decide⟩ : I64), (⟨0, by decide, by decide⟩ : I64), (⟨⟨#[65]⟩, by decide⟩ : Str), [(⟨(⟨⟨#[120]⟩, by decide⟩ : Str), (⟨1, by decide, by decide⟩ : I64), (⟨5, by decide, by decide⟩ : I64), Str.none⟩ : AttrV)]⟩ : EvM).attrs) = true from by decide +kernel)) rfl rfl ?_)
  refine r_cons (s_move (.bool true) rfl rfl ?_)
  refine r_cons (r_take rfl rfl ?_)
  refine s_loadAgg [.string ByteArray.empty, .string (⟨#[120]⟩), .int .i64 0, .int .i64 0, .string ByteArray.empty, .int .i64 5, .string ByteArray.empty, .string ByteArray.empty, .int .i64 1, .int .i64 3, .string ByteArray.empty] 11 ag_27 rfl (H21.blk_at (i := 3) rfl) (Nat.le_of_ble_eq_true rfl) rfl rfl ?_
  refine r_cons (r_take rfl rfl ?_)
  refine s_buildSlice H21 11 1 (cs := #[.string ByteArray.empty, .string (⟨#[120]⟩), .int .i64 0, .int .i64 0, .string ByteArray.empty, .int .i64 5, .string ByteArray.empty, .string ByteArray.empty, .int .i64 1, .int .i64 3, .string ByteArray.empty]) #[.string ByteArray.empty, .string ByteArray.empty, .int .i64 0, .int .i64 0, .string ByteArray.empty, .int .i64 0, .string ByteArray.empty, .string ByteArray.empty, .int .i64 0, .int .i64 0, .string ByteArray.empty] el_28 ze_27 (by decide) (by decide) (by kernel_rfl) rfl ?_; intro bk22 w23 H24
  refine r_cons (r_take rfl rfl ?_)
  refine s_build (cs := #[.int .i64 1, .string ByteArray.empty, .string (⟨#[65]⟩), .slice (some ⟨bk22, 0, none⟩) 1 1, .slice none 0 0]) (by kernel_rfl) rfl ?_
  refine r_cons (r_take rfl rfl ?_)
  refine s_loadAgg [.int .i64 0, .int .i64 0, .int .i64 0, .string (⟨#[65]⟩), .slice (some ⟨bk6, 0, none⟩) 1 1] 5 ag_36 rfl (H24.blk_at (i := 2) rfl) (Nat.le_of_ble_eq_true rfl) rfl rfl ?_
  refine r_cons (r_take rfl rfl ?_)
  have H25 := Row.cut (n := 0) (m := 1) (c := 1) (size := 11) (xs := [.string ByteArray.empty, .string (⟨#[120]⟩), .int .i64 0, .int .i64 0, .string ByteArray.empty, .int .i64 5, .string ByteArray.empty, .string ByteArray.empty, .int .i64 1, .int .i64 3, .string ByteArray.empty]) H24 (i := 0) rfl (by decide) (by decide +kernel) rfl rfl (by simp [Value.oneCell'])
  have H26 : St W w23 (Row 27 11 (.slice (some ⟨bk22, 0, none⟩) 1 1) 1 [.string ByteArray.empty, .string (⟨#[120]⟩), .int .i64 0, .int .i64 0, .string ByteArray.empty, .int .i64 5, .string ByteArray.empty, .string ByteArray.empty, .int .i64 1, .int .i64 3, .string ByteArray.empty] :: Attrs (.slice none 0 0) [] :: blk bk9 (.cells #[.int .i64 0, .int .i64 0, .int .i64 0, .string (⟨#[65]⟩), .slice (some ⟨bk6, 0, none⟩) 1 1] 36 (0, 0)) :: Attrs (.slice (some ⟨bk6, 0, none⟩) 1 1) [(⟨(⟨⟨#[120]⟩, by decide⟩ : Str), (⟨1, by decide, by decide⟩ : I64), (⟨5, by decide, by decide⟩ : I64), Str.none⟩ : AttrV)] :: blk bk1 (.cells #[.string ByteArray.empty, .string (⟨#[120]⟩), .int .i64 0, .int .i64 0, .string ByteArray.empty, .int .i64 5, .string ByteArray.empty, .string ByteArray.empty, .int .i64 1, .int .i64 3, .string ByteArray.empty] 27 (0, 0)) :: F) := H25
  have H27 : St W w23 (Im 11 (.slice (some ⟨bk22, 0, none⟩) 1 1) 1 ([(⟨(⟨Str.none, (⟨⟨#[120]⟩, by decide⟩ : Str), (⟨(⟨0, by decide, by decide⟩ : I64), (⟨0, by decide, by decide⟩ : I64), Str.none⟩ : ValV)⟩ : OpdV), (⟨5, by decide, by decide⟩ : I64), (⟨Str.none, Str.none, (⟨(⟨1, by decide, by decide⟩ : I64), (⟨3, by decide, by decide⟩ : I64), Str.none⟩ : ValV)⟩ : OpdV)⟩ : CondV)].flatMap condCell) :: Attrs (.slice none 0 0) [] :: blk bk9 (.cells #[.int .i64 0, .int .i64 0, .int .i64 0, .string (⟨#[65]⟩), .slice (some ⟨bk6, 0, none⟩) 1 1] 36 (0, 0)) :: Attrs (.slice (some ⟨bk6, 0, none⟩) 1 1) [(⟨(⟨⟨#[120]⟩, by decide⟩ : Str), (⟨1, by decide, by decide⟩ : I64), (⟨5, by decide, by decide⟩ : I64), Str.none⟩ : AttrV)] :: blk bk1 (.cells #[.string ByteArray.empty, .string (⟨#[120]⟩), .int .i64 0, .int .i64 0, .string ByteArray.empty, .int .i64 5, .string ByteArray.empty, .string ByteArray.empty, .int .i64 1, .int .i64 3, .string ByteArray.empty] 27 (0, 0)) :: F) := Row.im H26 (i := 0) rfl
  refine s_call [.agg #[.int .i64 1, .string ByteArray.empty, .string (⟨#[65]⟩), .slice (some ⟨bk22, 0, none⟩) 1 1, .slice none 0 0], .agg #[.int .i64 0, .int .i64 0, .int .i64 0, .string (⟨#[65]⟩), .slice (some ⟨bk6, 0, none⟩) 1 1]] pl_11 rfl rfl (pred_Term 1 ByteArray.empty (⟨#[65]⟩) (some ⟨bk22, 0, none⟩) 1 [(⟨(⟨Str.none, (⟨⟨#[120]⟩, by decide⟩ : Str), (⟨(⟨0, by decide, by decide⟩ : I64), (⟨0, by decide, by decide⟩ : I64), Str.none⟩ : ValV)⟩ : OpdV), (⟨5, by decide, by decide⟩ : I64), (⟨Str.none, Str.none, (⟨(⟨1, by decide, by decide⟩ : I64), (⟨3, by decide, by decide⟩ : I64), Str.none⟩ : ValV)⟩ : OpdV)⟩ : CondV)] (.slice none 0 0) (⟨(⟨0, by decide, by decide⟩ : I64), (⟨0, by decide, by decide⟩ : I64), (⟨0, by decide, by decide⟩ : I64), (⟨⟨#[65]⟩, by decide⟩ : Str), [(⟨(⟨⟨#[120]⟩, by decide⟩ : Str), (⟨1, by decide, by decide⟩ : I64), (⟨5, by decide, by decide⟩ : I64), Str.none⟩ : AttrV)]⟩ : EvM) (.slice (some ⟨bk6, 0, none⟩) 1 1) (m := 0) rfl (j := 3) rfl H27) ?_
  rintro _ w28 ⟨rfl, H29⟩
  refine r_cons (s_pick_t (.bool (termB 1 (⟨#[65]⟩) [(⟨(⟨Str.none, (⟨⟨#[120]⟩, by decide⟩ : Str), (⟨(⟨0, by decide, by decide⟩ : I64), (⟨0, by decide, by decide⟩ : I64), Str.none⟩ : ValV)⟩ : OpdV), (⟨5, by decide, by decide⟩ : I64), (⟨Str.none, Str.none, (⟨(⟨1, by decide, by decide⟩ : I64), (⟨3, by decide, by decide⟩ : I64), Str.none⟩ : ValV)⟩ : OpdV)⟩ : CondV)] (⟨(⟨0, by decide, by decide⟩ : I64), (⟨0, by decide, by decide⟩ : I64), (⟨0, by decide, by decide⟩ : I64), (⟨⟨#[65]⟩, by decide⟩ : Str), [(⟨(⟨⟨#[120]⟩, by decide⟩ : Str), (⟨1, by decide, by decide⟩ : I64), (⟨5, by decide, by decide⟩ : I64), Str.none⟩ : AttrV)]⟩ : EvM))) rfl rfl rfl ?_)
  refine r_cons (s_move (.bool (termB 1 (⟨#[65]⟩) [(⟨(⟨Str.none, (⟨⟨#[120]⟩, by decide⟩ : Str), (⟨(⟨0, by decide, by decide⟩ : I64), (⟨0, by decide, by decide⟩ : I64), Str.none⟩ : ValV)⟩ : OpdV), (⟨5, by decide, by decide⟩ : I64), (⟨Str.none, Str.none, (⟨(⟨1, by decide, by decide⟩ : I64), (⟨3, by decide, by decide⟩ : I64), Str.none⟩ : ValV)⟩ : OpdV)⟩ : CondV)] (⟨(⟨0, by decide, by decide⟩ : I64), (⟨0, by decide, by decide⟩ : I64), (⟨0, by decide, by decide⟩ : I64), (⟨⟨#[65]⟩, by decide⟩ : Str), [(⟨(⟨⟨#[120]⟩, by decide⟩ : Str), (⟨1, by decide, by decide⟩ : I64), (⟨5, by decide, by decide⟩ : I64), Str.none⟩ : AttrV)]⟩ : EvM))) rfl rfl ?_)
  refine r_cons (r_take rfl (congrArg some (show (termB 1 (⟨#[65]⟩) [(⟨(⟨Str.none, (⟨⟨#[120]⟩, by decide⟩ : Str), (⟨(⟨0, by decide, by decide⟩ : I64), (⟨0, by decide, by decide⟩ : I64), Str.none⟩ : ValV)⟩ : OpdV), (⟨5, by decide, by decide⟩ : I64), (⟨Str.none, Str.none, (⟨(⟨1, by decide, by decide⟩ : I64), (⟨3, by decide, by decide⟩ : I64), Str.none⟩ : ValV)⟩ : OpdV)⟩ : CondV)] (⟨(⟨0, by decide, by decide⟩ : I64), (⟨0, by decide, by decide⟩ : I64), (⟨0, by decide, by decide⟩ : I64), (⟨⟨#[65]⟩, by decide⟩ : Str), [(⟨(⟨⟨#[120]⟩, by decide⟩ : Str), (⟨1, by decide, by decide⟩ : I64), (⟨5, by decide, by decide⟩ : I64), Str.none⟩ : AttrV)]⟩ : EvM)) = true from by decide +kernel)) ?_)
  refine s_loadAgg [.string ByteArray.empty, .string (⟨#[120]⟩), .int .i64 0, .int .i64 0, .string ByteArray.empty, .int .i64 5, .string ByteArray.empty, .string ByteArray.empty, .int .i64 1, .int .i64 3, .string ByteArray.empty] 11 ag_27 rfl (H29.blk_at (i := 4) rfl) (Nat.le_of_ble_eq_true rfl) rfl rfl ?_
  refine r_cons (r_take rfl (congrArg some (show (termB 1 (⟨#[65]⟩) [(⟨(⟨Str.none, (⟨⟨#[120]⟩, by decide⟩ : Str), (⟨(⟨0, by decide, by decide⟩ : I64), (⟨0, by decide, by decide⟩ : I64), Str.none⟩ : ValV)⟩ : OpdV), (⟨5, by decide, by decide⟩ : I64), (⟨Str.none, Str.none, (⟨(⟨1, by decide, by decide⟩ : I64), (⟨3, by decide, by decide⟩ : I64), Str.none⟩ : ValV)⟩ : OpdV)⟩ : CondV)] (⟨(⟨0, by decide, by decide⟩ : I64), (⟨0, by decide, by decide⟩ : I64), (⟨0, by decide, by decide⟩ : I64), (⟨⟨#[65]⟩, by decide⟩ : Str), [(⟨(⟨⟨#[120]⟩, by decide⟩ : Str), (⟨1, by decide, by decide⟩ : I64), (⟨5, by decide, by decide⟩ : I64), Str.none⟩ : AttrV)]⟩ : EvM)) = true from by decide +kernel)) ?_)
  refine s_call [.agg #[.string ByteArray.empty, .string (⟨#[120]⟩), .int .i64 0, .int .i64 0, .string ByteArray.empty, .int .i64 5, .string ByteArray.empty, .string ByteArray.empty, .int .i64 1, .int .i64 3, .string ByteArray.empty]] pl_20 rfl rfl (pred_Names (⟨(⟨Str.none, (⟨⟨#[120]⟩, by decide⟩ : Str), (⟨(⟨0, by decide, by decide⟩ : I64), (⟨0, by decide, by decide⟩ : I64), Str.none⟩ : ValV)⟩ : OpdV), (⟨5, by decide, by decide⟩ : I64), (⟨Str.none, Str.none, (⟨(⟨1, by decide, by decide⟩ : I64), (⟨3, by decide, by decide⟩ : I64), Str.none⟩ : ValV)⟩ : OpdV)⟩ : CondV) H29) ?_
  rintro _ w32 ⟨pp30, cc31, rfl, H33⟩
  refine r_cons (r_take rfl (congrArg some (show (termB 1 (⟨#[65]⟩) [(⟨(⟨Str.none, (⟨⟨#[120]⟩, by decide⟩ : Str), (⟨(⟨0, by decide, by decide⟩ : I64), (⟨0, by decide, by decide⟩ : I64), Str.none⟩ : ValV)⟩ : OpdV), (⟨5, by decide, by decide⟩ : I64), (⟨Str.none, Str.none, (⟨(⟨1, by decide, by decide⟩ : I64), (⟨3, by decide, by decide⟩ : I64), Str.none⟩ : ValV)⟩ : OpdV)⟩ : CondV)] (⟨(⟨0, by decide, by decide⟩ : I64), (⟨0, by decide, by decide⟩ : I64), (⟨0, by decide, by decide⟩ : I64), (⟨⟨#[65]⟩, by decide⟩ : Str), [(⟨(⟨⟨#[120]⟩, by decide⟩ : Str), (⟨1, by decide, by decide⟩ : I64), (⟨5, by decide, by decide⟩ : I64), Str.none⟩ : AttrV)]⟩ : EvM)) = true from by decide +kernel)) ?_)
  refine s_buildSlice H33 1 1 (cs := #[.string ByteArray.empty]) #[.string ByteArray.empty] el_49 ze_9 (by decide) (by decide) (by kernel_rfl) rfl ?_; intro bk34 w35 H36
  refine r_cons (r_take rfl (congrArg some (show (termB 1 (⟨#[65]⟩) [(⟨(⟨Str.none, (⟨⟨#[120]⟩, by decide⟩ : Str), (⟨(⟨0, by decide, by decide⟩ : I64), (⟨0, by decide, by decide⟩ : I64), Str.none⟩ : ValV)⟩ : OpdV), (⟨5, by decide, by decide⟩ : I64), (⟨Str.none, Str.none, (⟨(⟨1, by decide, by decide⟩ : I64), (⟨3, by decide, by decide⟩ : I64), Str.none⟩ : ValV)⟩ : OpdV)⟩ : CondV)] (⟨(⟨0, by decide, by decide⟩ : I64), (⟨0, by decide, by decide⟩ : I64), (⟨0, by decide, by decide⟩ : I64), (⟨⟨#[65]⟩, by decide⟩ : Str), [(⟨(⟨⟨#[120]⟩, by decide⟩ : Str), (⟨1, by decide, by decide⟩ : I64), (⟨5, by decide, by decide⟩ : I64), Str.none⟩ : AttrV)]⟩ : EvM)) = true from by decide +kernel)) ?_)
  have H37 := Row.cut (n := 0) (m := 1) (c := 1) (size := 1) (xs := [.string ByteArray.empty]) H36 (i := 0) rfl (by decide) (by decide +kernel) rfl rfl (by simp [Value.oneCell'])
  have H38 : St W w35 (Row 9 1 (.slice (some ⟨bk34, 0, none⟩) 1 1) 1 [.string ByteArray.empty] :: Im 1 (.slice pp30 ((namesV (⟨(⟨Str.none, (⟨⟨#[120]⟩, by decide⟩ : Str), (⟨(⟨0, by decide, by decide⟩ : I64), (⟨0, by decide, by decide⟩ : I64), Str.none⟩ : ValV)⟩ : OpdV), (⟨5, by decide, by decide⟩ : I64), (⟨Str.none, Str.none, (⟨(⟨1, by decide, by decide⟩ : I64), (⟨3, by decide, by decide⟩ : I64), Str.none⟩ : ValV)⟩ : OpdV)⟩ : CondV)).length) cc31) ((namesV (⟨(⟨Str.none, (⟨⟨#[120]⟩, by decide⟩ : Str), (⟨(⟨0, by decide, by decide⟩ : I64), (⟨0, by decide, by decide⟩ : I64), Str.none⟩ : ValV)⟩ : OpdV), (⟨5, by decide, by decide⟩ : I64), (⟨Str.none, Str.none, (⟨(⟨1, by decide, by decide⟩ : I64), (⟨3, by decide, by decide⟩ : I64), Str.none⟩ : ValV)⟩ : OpdV)⟩ : CondV)).length) ((namesV (⟨(⟨Str.none, (⟨⟨#[120]⟩, by decide⟩ : Str), (⟨(⟨0, by decide, by decide⟩ : I64), (⟨0, by decide, by decide⟩ : I64), Str.none⟩ : ValV)⟩ : OpdV), (⟨5, by decide, by decide⟩ : I64), (⟨Str.none, Str.none, (⟨(⟨1, by decide, by decide⟩ : I64), (⟨3, by decide, by decide⟩ : I64), Str.none⟩ : ValV)⟩ : OpdV)⟩ : CondV)).flatMap strCell) :: Im 11 (.slice (some ⟨bk22, 0, none⟩) 1 1) 1 ([(⟨(⟨Str.none, (⟨⟨#[120]⟩, by decide⟩ : Str), (⟨(⟨0, by decide, by decide⟩ : I64), (⟨0, by decide, by decide⟩ : I64), Str.none⟩ : ValV)⟩ : OpdV), (⟨5, by decide, by decide⟩ : I64), (⟨Str.none, Str.none, (⟨(⟨1, by decide, by decide⟩ : I64), (⟨3, by decide, by decide⟩ : I64), Str.none⟩ : ValV)⟩ : OpdV)⟩ : CondV)].flatMap condCell) :: Attrs (.slice none 0 0) [] :: blk bk9 (.cells #[.int .i64 0, .int .i64 0, .int .i64 0, .string (⟨#[65]⟩), .slice (some ⟨bk6, 0, none⟩) 1 1] 36 (0, 0)) :: Attrs (.slice (some ⟨bk6, 0, none⟩) 1 1) [(⟨(⟨⟨#[120]⟩, by decide⟩ : Str), (⟨1, by decide, by decide⟩ : I64), (⟨5, by decide, by decide⟩ : I64), Str.none⟩ : AttrV)] :: blk bk1 (.cells #[.string ByteArray.empty, .string (⟨#[120]⟩), .int .i64 0, .int .i64 0, .string ByteArray.empty, .int .i64 5, .string ByteArray.empty, .string ByteArray.empty, .int .i64 1, .int .i64 3, .string ByteArray.empty] 27 (0, 0)) :: F) := H37
  have H39 : St W w35 (Im 1 (.slice (some ⟨bk34, 0, none⟩) 1 1) 1 ([Str.none].flatMap strCell) :: Im 1 (.slice pp30 ((namesV (⟨(⟨Str.none, (⟨⟨#[120]⟩, by decide⟩ : Str), (⟨(⟨0, by decide, by decide⟩ : I64), (⟨0, by decide, by decide⟩ : I64), Str.none⟩ : ValV)⟩ : OpdV), (⟨5, by decide, by decide⟩ : I64), (⟨Str.none, Str.none, (⟨(⟨1, by decide, by decide⟩ : I64), (⟨3, by decide, by decide⟩ : I64), Str.none⟩ : ValV)⟩ : OpdV)⟩ : CondV)).length) cc31) ((namesV (⟨(⟨Str.none, (⟨⟨#[120]⟩, by decide⟩ : Str), (⟨(⟨0, by decide, by decide⟩ : I64), (⟨0, by decide, by decide⟩ : I64), Str.none⟩ : ValV)⟩ : OpdV), (⟨5, by decide, by decide⟩ : I64), (⟨Str.none, Str.none, (⟨(⟨1, by decide, by decide⟩ : I64), (⟨3, by decide, by decide⟩ : I64), Str.none⟩ : ValV)⟩ : OpdV)⟩ : CondV)).length) ((namesV (⟨(⟨Str.none, (⟨⟨#[120]⟩, by decide⟩ : Str), (⟨(⟨0, by decide, by decide⟩ : I64), (⟨0, by decide, by decide⟩ : I64), Str.none⟩ : ValV)⟩ : OpdV), (⟨5, by decide, by decide⟩ : I64), (⟨Str.none, Str.none, (⟨(⟨1, by decide, by decide⟩ : I64), (⟨3, by decide, by decide⟩ : I64), Str.none⟩ : ValV)⟩ : OpdV)⟩ : CondV)).flatMap strCell) :: Im 11 (.slice (some ⟨bk22, 0, none⟩) 1 1) 1 ([(⟨(⟨Str.none, (⟨⟨#[120]⟩, by decide⟩ : Str), (⟨(⟨0, by decide, by decide⟩ : I64), (⟨0, by decide, by decide⟩ : I64), Str.none⟩ : ValV)⟩ : OpdV), (⟨5, by decide, by decide⟩ : I64), (⟨Str.none, Str.none, (⟨(⟨1, by decide, by decide⟩ : I64), (⟨3, by decide, by decide⟩ : I64), Str.none⟩ : ValV)⟩ : OpdV)⟩ : CondV)].flatMap condCell) :: Attrs (.slice none 0 0) [] :: blk bk9 (.cells #[.int .i64 0, .int .i64 0, .int .i64 0, .string (⟨#[65]⟩), .slice (some ⟨bk6, 0, none⟩) 1 1] 36 (0, 0)) :: Attrs (.slice (some ⟨bk6, 0, none⟩) 1 1) [(⟨(⟨⟨#[120]⟩, by decide⟩ : Str), (⟨1, by decide, by decide⟩ : I64), (⟨5, by decide, by decide⟩ : I64), Str.none⟩ : AttrV)] :: blk bk1 (.cells #[.string ByteArray.empty, .string (⟨#[120]⟩), .int .i64 0, .int .i64 0, .string ByteArray.empty, .int .i64 5, .string ByteArray.empty, .string ByteArray.empty, .int .i64 1, .int .i64 3, .string ByteArray.empty] 27 (0, 0)) :: F) := Row.im H38 (i := 0) rfl
  refine s_call [.slice pp30 ((namesV (⟨(⟨Str.none, (⟨⟨#[120]⟩, by decide⟩ : Str), (⟨(⟨0, by decide, by decide⟩ : I64), (⟨0, by decide, by decide⟩ : I64), Str.none⟩ : ValV)⟩ : OpdV), (⟨5, by decide, by decide⟩ : I64), (⟨Str.none, Str.none, (⟨(⟨1, by decide, by decide⟩ : I64), (⟨3, by decide, by decide⟩ : I64), Str.none⟩ : ValV)⟩ : OpdV)⟩ : CondV)).length) cc31, .slice (some ⟨bk34, 0, none⟩) 1 1] pl_19 rfl rfl (Equal_str (namesV (⟨(⟨Str.none, (⟨⟨#[120]⟩, by decide⟩ : Str), (⟨(⟨0, by decide, by decide⟩ : I64), (⟨0, by decide, by decide⟩ : I64), Str.none⟩ : ValV)⟩ : OpdV), (⟨5, by decide, by decide⟩ : I64), (⟨Str.none, Str.none, (⟨(⟨1, by decide, by decide⟩ : I64), (⟨3, by decide, by decide⟩ : I64), Str.none⟩ : ValV)⟩ : OpdV)⟩ : CondV)) [Str.none] (.slice pp30 ((namesV (⟨(⟨Str.none, (⟨⟨#[120]⟩, by decide⟩ : Str), (⟨(⟨0, by decide, by decide⟩ : I64), (⟨0, by decide, by decide⟩ : I64), Str.none⟩ : ValV)⟩ : OpdV), (⟨5, by decide, by decide⟩ : I64), (⟨Str.none, Str.none, (⟨(⟨1, by decide, by decide⟩ : I64), (⟨3, by decide, by decide⟩ : I64), Str.none⟩ : ValV)⟩ : OpdV)⟩ : CondV)).length) cc31) (.slice (some ⟨bk34, 0, none⟩) 1 1) (m := 1) rfl (n := 0) rfl H39) ?_
  rintro _ w40 ⟨rfl, H41⟩
  refine r_cons (s_pick_t (.bool (eqS (namesV (⟨(⟨Str.none, (⟨⟨#[120]⟩, by decide⟩ : Str), (⟨(⟨0, by decide, by decide⟩ : I64), (⟨0, by decide, by decide⟩ : I64), Str.none⟩ : ValV)⟩ : OpdV), (⟨5, by decide, by decide⟩ : I64), (⟨Str.none, Str.none, (⟨(⟨1, by decide, by decide⟩ : I64), (⟨3, by decide, by decide⟩ : I64), Str.none⟩ : ValV)⟩ : OpdV)⟩ : CondV)) [Str.none])) (by exact congrArg Value.bool (show (termB 1 (⟨#[65]⟩) [(⟨(⟨Str.none, (⟨⟨#[120]⟩, by decide⟩ : Str), (⟨(⟨0, by decide, by decide⟩ : I64), (⟨0, by decide, by decide⟩ : I64), Str.none⟩ : ValV)⟩ : OpdV), (⟨5, by decide, by decide⟩ : I64), (⟨Str.none, Str.none, (⟨(⟨1, by decide, by decide⟩ : I64), (⟨3, by decide, by decide⟩ : I64), Str.none⟩ : ValV)⟩ : OpdV)⟩ : CondV)] (⟨(⟨0, by decide, by decide⟩ : I64), (⟨0, by decide, by decide⟩ : I64), (⟨0, by decide, by decide⟩ : I64), (⟨⟨#[65]⟩, by decide⟩ : Str), [(⟨(⟨⟨#[120]⟩, by decide⟩ : Str), (⟨1, by decide, by decide⟩ : I64), (⟨5, by decide, by decide⟩ : I64), Str.none⟩ : AttrV)]⟩ : EvM)) = true from by decide +kernel)) rfl rfl ?_)
  refine r_cons (s_assign (.bool (eqS (namesV (⟨(⟨Str.none, (⟨⟨#[120]⟩, by decide⟩ : Str), (⟨(⟨0, by decide, by decide⟩ : I64), (⟨0, by decide, by decide⟩ : I64), Str.none⟩ : ValV)⟩ : OpdV), (⟨5, by decide, by decide⟩ : I64), (⟨Str.none, Str.none, (⟨(⟨1, by decide, by decide⟩ : I64), (⟨3, by decide, by decide⟩ : I64), Str.none⟩ : ValV)⟩ : OpdV)⟩ : CondV)) [Str.none])) rfl rfl ?_)
  refine r_nil ?_
  refine g_ret' [.bool (eqS (namesV (⟨(⟨Str.none, (⟨⟨#[120]⟩, by decide⟩ : Str), (⟨(⟨0, by decide, by decide⟩ : I64), (⟨0, by decide, by decide⟩ : I64), Str.none⟩ : ValV)⟩ : OpdV), (⟨5, by decide, by decide⟩ : I64), (⟨Str.none, Str.none, (⟨(⟨1, by decide, by decide⟩ : I64), (⟨3, by decide, by decide⟩ : I64), Str.none⟩ : ValV)⟩ : OpdV)⟩ : CondV)) [Str.none])] Try.func8 Try.results8 ⟨rfl, trivial⟩ ?_
  have H42 : St W w40 F := (((((((H41.drop 0 rfl).drop 0 rfl).drop 0 rfl).drop 0 rfl).drop 0 rfl).drop 0 rfl).drop 0 rfl)
  exact ⟨congrArg Value.bool (show eqS (namesV (⟨(⟨Str.none, (⟨⟨#[120]⟩, by decide⟩ : Str), (⟨(⟨0, by decide, by decide⟩ : I64), (⟨0, by decide, by decide⟩ : I64), Str.none⟩ : ValV)⟩ : OpdV), (⟨5, by decide, by decide⟩ : I64), (⟨Str.none, Str.none, (⟨(⟨1, by decide, by decide⟩ : I64), (⟨3, by decide, by decide⟩ : I64), Str.none⟩ : ValV)⟩ : OpdV)⟩ : CondV)) [Str.none] = true from by decide +kernel), H42⟩
set_option maxHeartbeats 4000000 in
set_option maxRecDepth 100000 in
theorem PredEarly_ {W w : World} {F : List Atom} (l : List CondV) (lv : Value) (vars : List Str) (vv : Value) (bs : List BoundD) (bv : Value) {m : Nat} (hm : F[m]? = some (Im 11 lv l.length (l.flatMap condCell))) {jv : Nat} (hv : F[jv]? = some (Im 1 vv vars.length (vars.flatMap strCell))) {ip : Nat} (hp : F[ip]? = some (Im 6 bv bs.length (bs.flatMap bndCell))) {iq : Nat} (hq : F[iq]? = some (bndsA bs)) (hb : l.length * 136 ≤ 140737488355328) (H : St W w F) : Calls Try.prog 6 #[lv, vv, .agg #[bv]] w (Ret fun v w' => v = .bool true ∧ St W w' F) := by
  obtain ⟨pp1, cc2, rfl, hn3⟩ := Rd.shape (Im.rd H (i := m) hm)
  have H4 := H.dup (i := m + 0) (by exact hm) (Im_pers _ _ _ _)
  have H5 : St W w (Im 11 (.slice pp1 l.length cc2) l.length (l.flatMap condCell) :: F) := H4
  obtain ⟨pp6, cc7, rfl, hn8⟩ := Rd.shape (Im.rd H (i := jv) hv)
  have H9 := H5.dup (i := jv + 1) (by exact hv) (Im_pers _ _ _ _)
  have H10 : St W w (Im 1 (.slice pp6 vars.length cc7) vars.length (vars.flatMap strCell) :: Im 11 (.slice pp1 l.length cc2) l.length (l.flatMap condCell) :: F) := H9
  obtain ⟨pp11, cc12, rfl, hn13⟩ := Rd.shape (Im.rd H (i := ip) hp)
  have H14 := H10.dup (i := ip + 2) (by exact hp) (Im_pers _ _ _ _)
  have H15 : St W w (Im 6 (.slice pp11 bs.length cc12) bs.length (bs.flatMap bndCell) :: Im 1 (.slice pp6 vars.length cc7) vars.length (vars.flatMap strCell) :: Im 11 (.slice pp1 l.length cc2) l.length (l.flatMap condCell) :: F) := H14
  have H16 := H15.dup (i := iq + 3) (by exact hq) (bndsA_pers _)
  have H17 : St W w (bndsA bs :: Im 6 (.slice pp11 bs.length cc12) bs.length (bs.flatMap bndCell) :: Im 1 (.slice pp6 vars.length cc7) vars.length (vars.flatMap strCell) :: Im 11 (.slice pp1 l.length cc2) l.length (l.flatMap condCell) :: F) := H16
  have hp2 := pick_two l vars
  refine calls_of_go (n := 40) Try.func6 rfl Try.ntmps6 rfl ?_
  refine g_seq ?_
  refine g_region ?_
  refine r_cons (s_box H17 43 (.agg #[.slice pp11 bs.length cc12]) rfl (cs := #[.slice pp11 bs.length cc12]) rfl rfl ?_); intro bk18 w19 H20
  refine r_cons (s_assign (.bool false) rfl rfl ?_)
  refine r_nil ?_
  refine g_seq ?_
  refine g_region ?_
  refine r_cons (s_move (.slice pp1 l.length cc2) rfl rfl ?_)
  refine r_cons (s_move (.slice pp6 vars.length cc7) rfl rfl ?_)
  refine r_cons (s_call [.slice pp1 l.length cc2, .slice pp6 vars.length cc7] pl_24 rfl rfl (pred_Split l (.slice pp1 l.length cc2) vars (.slice pp6 vars.length cc7) (m := 4) rfl (jv := 3) rfl hb H20) ?_)
  rintro _ w25 ⟨pp21, cc22, pp23, cc24, rfl, H26⟩
  refine r_cons (s_move (.tuple #[.slice pp21 ((pickB l vars true).length) cc22, .slice pp23 ((pickB l vars false).length) cc24]) rfl rfl ?_)
  refine r_cons (s_extract (.slice pp21 ((pickB l vars true).length) cc22) #[.slice pp21 ((pickB l vars true).length) cc22, .slice pp23 ((pickB l vars false).length) cc24] rfl rfl rfl ?_)
  refine r_cons (s_extract (.slice pp23 ((pickB l vars false).length) cc24) #[.slice pp21 ((pickB l vars true).length) cc22, .slice pp23 ((pickB l vars false).length) cc24] rfl rfl rfl ?_)
  refine r_cons (s_assign (.slice pp21 ((pickB l vars true).length) cc22) rfl rfl ?_)
  refine r_cons (s_assign (.slice pp23 ((pickB l vars false).length) cc24) rfl rfl ?_)
  refine r_nil ?_
  refine g_seq ?_
  refine g_quiet (fun w' => St W w' (Im 11 (.slice pp21 ((pickB l vars true).length) cc22) ((pickB l vars true).length) ((pickB l vars true).flatMap condCell) :: Im 11 (.slice pp23 ((pickB l vars false).length) cc24) ((pickB l vars false).length) ((pickB l vars false).flatMap condCell) :: blk bk18 (.cells #[.slice pp11 bs.length cc12] 43 (0, 0)) :: bndsA bs :: Im 6 (.slice pp11 bs.length cc12) bs.length (bs.flatMap bndCell) :: Im 1 (.slice pp6 vars.length cc7) vars.length (vars.flatMap strCell) :: Im 11 (.slice pp1 l.length cc2) l.length (l.flatMap condCell) :: F)) mixed (by kernel_rfl) H26.drew ?_
  refine q_cons (q_enter (args := #[]) (v := .bool true) rfl rfl rfl (x_call pl_8 [] rfl) (fun w hw => pred_live hw) ?_)
  refine q_cons (q_val rfl rfl rfl (by intro w hw; exact x_move (.bool true) rfl w) ?_)
  refine q_cons (q_take rfl rfl ?_)
  refine q_val rfl rfl rfl (by intro w hw; exact x_move (.slice pp21 ((pickB l vars true).length) cc22) rfl w) ?_
  refine q_cons (q_take rfl rfl ?_)
  refine q_val rfl rfl rfl (by intro w hw; exact x_len ((pickB l vars true).length) rfl ⟨_, un_28⟩ w) ?_
  refine q_cons (q_take rfl rfl ?_)
  refine q_val rfl rfl rfl (by intro w hw; exact x_move (.slice pp23 ((pickB l vars false).length) cc24) rfl w) ?_
  refine q_cons (q_take rfl rfl ?_)
  refine q_val rfl rfl rfl (by intro w hw; exact x_len ((pickB l vars false).length) rfl ⟨_, un_28⟩ w) ?_
  refine q_cons (q_take rfl rfl ?_)
  refine q_val rfl rfl rfl (by intro w hw; exact x_add (((pickB l vars true).length : Int) + ((pickB l vars false).length : Int)) rfl rfl (wi64 (by omega)) w) ?_
  refine q_cons (q_take rfl rfl ?_)
  refine q_val rfl rfl rfl (by intro w hw; exact x_move (.slice pp1 l.length cc2) rfl w) ?_
  refine q_cons (q_take rfl rfl ?_)
  refine q_val rfl rfl rfl (by intro w hw; exact x_len l.length rfl ⟨_, un_28⟩ w) ?_
  refine q_cons (q_take rfl rfl ?_)
  refine q_val rfl rfl rfl (by intro w hw; exact x_eql true rfl rfl (dtrue (by omega)) w) ?_
  refine q_cons (q_val rfl rfl rfl (by intro w hw; exact x_pick_t (.bool true) rfl rfl w) ?_)
  refine q_cons (q_val rfl rfl rfl (by intro w hw; exact x_move (.bool true) rfl w) ?_)
  refine q_cons (q_take rfl rfl ?_)
  refine q_val rfl rfl rfl (by intro w hw; exact x_move (.slice pp1 l.length cc2) rfl w) ?_
  refine q_cons (q_take rfl rfl ?_)
  refine q_val rfl rfl rfl (by intro w hw; exact x_loadAgg [.slice pp11 bs.length cc12] 1 ag_43 rfl (hw.blk_at (i := 2) rfl) (Nat.le_of_ble_eq_true rfl) rfl) ?_
  refine q_cons (q_take rfl rfl ?_)
  refine q_enter (args := #[.slice pp1 l.length cc2, .agg #[.slice pp11 bs.length cc12]]) (v := .bool (allB l bs)) rfl rfl rfl (x_call pl_17 [.slice pp1 l.length cc2, .agg #[.slice pp11 bs.length cc12]] rfl) (fun w hw => pred_All l (.slice pp1 l.length cc2) bs (.slice pp11 bs.length cc12) (m := 6) rfl (ip := 4) rfl (iq := 3) rfl hw) ?_
  refine q_cons (q_take rfl rfl ?_)
  refine q_val rfl rfl rfl (by intro w hw; exact x_move (.slice pp21 ((pickB l vars true).length) cc22) rfl w) ?_
  refine q_cons (q_take rfl rfl ?_)
  refine q_val rfl rfl rfl (by intro w hw; exact x_loadAgg [.slice pp11 bs.length cc12] 1 ag_43 rfl (hw.blk_at (i := 2) rfl) (Nat.le_of_ble_eq_true rfl) rfl) ?_
  refine q_cons (q_take rfl rfl ?_)
  refine q_enter (args := #[.slice pp21 ((pickB l vars true).length) cc22, .agg #[.slice pp11 bs.length cc12]]) (v := .bool (allB (pickB l vars true) bs)) rfl rfl rfl (x_call pl_17 [.slice pp21 ((pickB l vars true).length) cc22, .agg #[.slice pp11 bs.length cc12]] rfl) (fun w hw => pred_All (pickB l vars true) (.slice pp21 ((pickB l vars true).length) cc22) bs (.slice pp11 bs.length cc12) (m := 0) rfl (ip := 4) rfl (iq := 3) rfl hw) ?_
  refine q_cons (q_take rfl rfl ?_)
  refine q_val rfl rfl rfl (by intro w hw; exact x_move (.bool (allB (pickB l vars true) bs)) rfl w) ?_
  by_cases hb27 : (allB (pickB l vars true) bs) = true
  · skip
    refine q_cons (q_take rfl (congrArg some hb27) ?_)
    refine q_val rfl rfl rfl (by intro w hw; exact x_move (.slice pp23 ((pickB l vars false).length) cc24) rfl w) ?_
    refine q_cons (q_take rfl (congrArg some hb27) ?_)
    refine q_val rfl rfl rfl (by intro w hw; exact x_loadAgg [.slice pp11 bs.length cc12] 1 ag_43 rfl (hw.blk_at (i := 2) rfl) (Nat.le_of_ble_eq_true rfl) rfl) ?_
    refine q_cons (q_take rfl (congrArg some hb27) ?_)
    refine q_enter (args := #[.slice pp23 ((pickB l vars false).length) cc24, .agg #[.slice pp11 bs.length cc12]]) (v := .bool (allB (pickB l vars false) bs)) rfl rfl rfl (x_call pl_17 [.slice pp23 ((pickB l vars false).length) cc24, .agg #[.slice pp11 bs.length cc12]] rfl) (fun w hw => pred_All (pickB l vars false) (.slice pp23 ((pickB l vars false).length) cc24) bs (.slice pp11 bs.length cc12) (m := 1) rfl (ip := 4) rfl (iq := 3) rfl hw) ?_
    refine q_cons (q_take rfl rfl ?_)
    refine q_val rfl rfl rfl (by intro w hw; exact x_pick_t (.bool (allB (pickB l vars false) bs)) (by exact congrArg Value.bool hb27) rfl w) ?_
    refine q_cons (q_take rfl rfl ?_)
    refine q_val rfl rfl rfl (by intro w hw; exact x_beql true un_4 rfl rfl (dtrue (by rw [all_two l vars bs, hb27]; rfl)) w) ?_
    refine q_cons (q_val rfl rfl rfl (by intro w hw; exact x_pick_t (.bool true) rfl rfl w) ?_)
    refine q_cons (q_val rfl rfl rfl (by intro w hw; exact x_assign (.bool true) rfl w) ?_)
    refine q_nil ?_
    intro w28 H29
    refine g_ret' [.bool true] Try.func6 Try.results6 ⟨rfl, trivial⟩ ?_
    have H30 : St W w28 F := (((((((H29.drop 0 rfl).drop 0 rfl).drop 0 rfl).drop 0 rfl).drop 0 rfl).drop 0 rfl).drop 0 rfl)
    exact ⟨rfl, H30⟩
  · have hb27 := eq_false_of_ne_true hb27
    refine q_cons (q_pass rfl (congrArg some hb27) rfl rfl rfl ?_)
    refine q_cons (q_pass rfl (congrArg some hb27) rfl rfl rfl ?_)
    refine q_cons (q_pass rfl (congrArg some hb27) rfl rfl rfl ?_)
    refine q_cons (q_take rfl rfl ?_)
    refine q_val rfl rfl rfl (by intro w hw; exact x_pick_f (.bool false) (by exact congrArg Value.bool hb27) rfl w) ?_
    refine q_cons (q_take rfl rfl ?_)
    refine q_val rfl rfl rfl (by intro w hw; exact x_beql true un_4 rfl rfl (dtrue (by rw [all_two l vars bs, hb27]; rfl)) w) ?_
    refine q_cons (q_val rfl rfl rfl (by intro w hw; exact x_pick_t (.bool true) rfl rfl w) ?_)
    refine q_cons (q_val rfl rfl rfl (by intro w hw; exact x_assign (.bool true) rfl w) ?_)
    refine q_nil ?_
    intro w31 H32
    refine g_ret' [.bool true] Try.func6 Try.results6 ⟨rfl, trivial⟩ ?_
    have H33 : St W w31 F := (((((((H32.drop 0 rfl).drop 0 rfl).drop 0 rfl).drop 0 rfl).drop 0 rfl).drop 0 rfl).drop 0 rfl)
    exact ⟨rfl, H33⟩
end Sl
