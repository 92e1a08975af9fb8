/- Walks of the program's functions. Printed by a program of this claim's author. No condition. -/
import Derived.Test.YtlpbkclkhadnaaaSlBF
import Derived.Test.YtlpbkclkhadnaaaSlQ
import Derived.Test.YtlpbkclkhadnaaaProg
import Derived.Test.YtlpbkclkhadnaaaWalkPredValues0
namespace Sl
open _root_.Go _root_.Go.RowKit _root_.Go.Proofs
set_option linter.all false
set_option maxHeartbeats 4000000 in
set_option maxRecDepth 100000 in
theorem IndexFunc_bound {W w : World} {F : List Atom} (L : List BoundD) (lv : Value) (g : Nat) (o : OpdV) {m : Nat} (hm : F[m]? = some (Im 6 lv L.length (L.flatMap bndCell))) {i : Nat} (hi : F[i]? = some (blk g (.cells #[.string o.var.v, .string o.attr.v, .int .i64 o.val.kind.v, .int .i64 o.val.n.v, .string o.val.s.v] 25 (0, 0)))) (H : St W w F) : Calls Try.prog 35 #[lv, .func (.func 36) #[] #[.pointer (some ⟨g, 0, none⟩)]] w (Ret fun v w' => v = .int .i64 (idxB (fun x : BoundD => decide (x.var.v = o.var.v)) L) ∧ St W w' F) := by
  obtain ⟨pp1, cc2, rfl, hn3⟩ := Rd.shape (Im.rd H (i := m) hm)
  have H4 := H.dup hm (Im_pers _ _ _ _)
  have H5 := H4.front (i := i + 1) (by exact hi)
  obtain ⟨pA6, cA7, gA8, oA9, kA10, eA11, zA12, he18, hn13, hp14, hx15, hs16, hml, H17⟩ := Im.open_ H5 (i := 1) rfl
  obtain ⟨rfl, rfl⟩ : pp1 = pA6 ∧ cc2 = cA7 := by injection he18 with a_ b_ c_; exact ⟨a_, c_⟩
  refine calls_of_go (n := 19) Try.func35 rfl Try.ntmps35 rfl ?_
  refine g_seq ?_
  refine g_region ?_
  refine r_cons (s_assign (.int .i64 0) rfl rfl ?_)
  refine r_nil ?_
  refine g_seq ?_
  refine g_seq ?_
  refine g_region ?_
  refine r_cons (s_move (.slice pp1 L.length cc2) rfl rfl ?_)
  refine r_cons (s_len L.length rfl ⟨_, un_41⟩ rfl ?_)
  refine r_cons (s_move (.int .i64 0) rfl rfl ?_)
  refine r_nil ?_
  refine g_block ?_
  have H19 : St W w (imi (0 < L.length) gA8 (.cells kA10 eA11 zA12) :: blk g (.cells #[.string o.var.v, .string o.attr.v, .int .i64 o.val.kind.v, .int .i64 o.val.n.v, .string o.val.s.v] 25 (0, 0)) :: Im 6 (.slice pp1 L.length cc2) L.length (L.flatMap bndCell) :: (F.set i emp)) := (((H17.move 2 rfl).move 2 rfl).move 2 rfl)
  refine g_loop_inv (fun (x_ : Nat) => match x_ with | j => [(0, .slice pp1 L.length cc2), (1, .func (.func 36) #[] #[.pointer (some ⟨g, 0, none⟩)]), (4, .int .i64 0), (7, .int .i64 (L.length : Int)), (8, .int .i64 (j : Int))]) (fun (x_ : Nat) w => match x_ with | j => (j ≤ L.length) ∧ (∀ q, q < j → (fun x : BoundD => decide (x.var.v = o.var.v)) (L.getD q default) = false) ∧ St W w (imi (0 < L.length) gA8 (.cells kA10 eA11 zA12) :: blk g (.cells #[.string o.var.v, .string o.attr.v, .int .i64 o.val.kind.v, .int .i64 o.val.n.v, .string o.val.s.v] 25 (0, 0)) :: Im 6 (.slice pp1 L.length cc2) L.length (L.flatMap bndCell) :: (F.set i emp))) (fun (x_ : Nat) => match x_ with | j => L.length - j) (0) ?_ ?_ ?_
  · exact ⟨by first | rfl | exact vint (by omega), by first | rfl | exact vint (by omega), by first | rfl | exact vint (by omega), by first | rfl | exact vint (by omega), by first | rfl | exact vint (by omega), trivial⟩
  · exact ⟨(by omega), (fun q hq => by omega), H19⟩
  · rintro j ρ20 w21 ⟨hjn, hz, H22⟩ nx23
    change Ends _ _ (upds ρ20 [(0, .slice pp1 L.length cc2), (1, .func (.func 36) #[] #[.pointer (some ⟨g, 0, none⟩)]), (4, .int .i64 0), (7, .int .i64 (L.length : Int)), (8, .int .i64 (j : Int))]) w21
    refine g_seq ?_
    refine g_region ?_
    by_cases hc24 : (j : Int) < (L.length : Int)
    · skip
      refine r_cons (s_lss true rfl rfl (dtrue hc24) rfl ?_)
      refine r_nil ?_
      refine g_seq ?_
      refine g_true rfl ?_
      refine g_skip ?_
      refine g_seq ?_
      refine g_block ?_
      refine g_seq ?_
      refine g_region ?_
      refine r_cons (s_move (.int .i64 (j : Int)) rfl rfl ?_)
      refine r_cons (s_assign (.int .i64 (j : Int)) rfl rfl ?_)
      refine r_nil ?_
      refine g_seq ?_
      refine g_region ?_
      refine r_cons (s_move (.func (.func 36) #[] #[.pointer (some ⟨g, 0, none⟩)]) rfl rfl ?_)
      refine r_cons (s_move (.slice pp1 L.length cc2) rfl rfl ?_)
      refine r_cons (s_move (.int .i64 (j : Int)) rfl rfl ?_)
      refine r_cons (s_indexAddr gA8 (off := oA9) (j : Int) 6 (oA9 + j * 6) (by exact congrArg (fun z_ => Value.slice z_ L.length cc2) (hp14 (by omega))) rfl el_41 (by omega) rfl rfl ?_)
      refine r_cons (s_loadAgg [.string ((L.getD j default).var.v), .int .i64 ((L.getD j default).ev.ev.src.v), .int .i64 ((L.getD j default).ev.ev.seq.v), .int .i64 ((L.getD j default).ev.ev.time.v), .string ((L.getD j default).ev.ev.typ.v), .slice ((L.getD j default).ev.p) ((L.getD j default).ev.ev.attrs.length) ((L.getD j default).ev.c)] 6 ag_61 rfl (H22.imi_at (i := 0) rfl (by omega)) (by have := elem_size (i := j) (s := 6) (hs16 (by omega)) (by omega); omega) (elem_take bndCell_len (hx15 (by omega)) (by omega) default) rfl ?_)
      refine r_cons (s_callv [.pointer (some ⟨g, 0, none⟩)] [.agg #[.string ((L.getD j default).var.v), .int .i64 ((L.getD j default).ev.ev.src.v), .int .i64 ((L.getD j default).ev.ev.seq.v), .int .i64 ((L.getD j default).ev.ev.time.v), .string ((L.getD j default).ev.ev.typ.v), .slice ((L.getD j default).ev.p) ((L.getD j default).ev.ev.attrs.length) ((L.getD j default).ev.c)], .pointer (some ⟨g, 0, none⟩)] rfl pl_36 rfl rfl (pred_Value1 (L.getD j default) g o (i := 1) rfl H22) ?_)
      rintro _ w25 ⟨rfl, H26⟩
      refine r_nil ?_
      by_cases hb27 : (decide ((L.getD j default).var.v = o.var.v)) = true
      · skip
        refine g_true (congrArg Value.bool hb27) ?_
        refine g_seq ?_
        refine g_region ?_
        refine r_cons (s_move (.int .i64 (j : Int)) rfl rfl ?_)
        refine r_cons (s_assign (.int .i64 (j : Int)) rfl rfl ?_)
        refine r_nil ?_
        refine g_ret' [.int .i64 (j : Int)] Try.func35 Try.results35 ⟨rfl, trivial⟩ ?_
        have H28 : St W w25 (blk g (.cells #[.string o.var.v, .string o.attr.v, .int .i64 o.val.kind.v, .int .i64 o.val.n.v, .string o.val.s.v] 25 (0, 0)) :: (F.set i emp)) := (((H26.move 1 rfl).drop 1 rfl).drop 1 rfl)
        exact ⟨vint (idxB_at (p := fun x : BoundD => decide (x.var.v = o.var.v)) hz (by omega) (by exact hb27)).symm, St.back_same hi H28⟩
      · have hb27 := eq_false_of_ne_true hb27
        refine g_false (congrArg Value.bool hb27) ?_
        refine g_skip ?_
        refine g_inBlock ?_
        refine g_region ?_
        refine r_cons (s_add ((j : Int) + 1) rfl rfl (wi64 (by omega)) rfl ?_)
        refine r_cons (s_move (.int .i64 ((j : Int) + 1)) rfl rfl ?_)
        refine r_nil ?_
        have H29 : St W w25 (imi (0 < L.length) gA8 (.cells kA10 eA11 zA12) :: blk g (.cells #[.string o.var.v, .string o.attr.v, .int .i64 o.val.kind.v, .int .i64 o.val.n.v, .string o.val.s.v] 25 (0, 0)) :: Im 6 (.slice pp1 L.length cc2) L.length (L.flatMap bndCell) :: (F.set i emp)) := (((H26.move 2 rfl).move 2 rfl).move 2 rfl)
        exact nx23 (j + 1) _ _ ⟨(by omega), (fun q hq => (Nat.lt_or_ge q j).elim (hz q) (fun h => by rw [show q = j from by omega]; exact hb27)), H29⟩ (by first | (dsimp only; omega) | omega) ⟨by first | rfl | exact vint (by omega), by first | rfl | exact vint (by omega), by first | rfl | exact vint (by omega), by first | rfl | exact vint (by omega), by first | rfl | exact vint (by omega), trivial⟩
    · skip
      refine r_cons (s_lss false rfl rfl (dfalse hc24) rfl ?_)
      refine r_nil ?_
      refine g_seq ?_
      refine g_false rfl ?_
      refine g_exit (by rfl) ?_
      refine g_seq ?_
      refine g_region ?_
      refine r_cons (s_assign (.int .i64 (-1)) rfl rfl ?_)
      refine r_nil ?_
      refine g_ret' [.int .i64 (-1)] Try.func35 Try.results35 ⟨rfl, trivial⟩ ?_
      have H30 : St W w21 (blk g (.cells #[.string o.var.v, .string o.attr.v, .int .i64 o.val.kind.v, .int .i64 o.val.n.v, .string o.val.s.v] 25 (0, 0)) :: (F.set i emp)) := (((H22.move 1 rfl).drop 1 rfl).drop 1 rfl)
      exact ⟨vint (idxB_none (p := fun x : BoundD => decide (x.var.v = o.var.v)) (fun q hq => hz q (by omega))).symm, St.back_same hi H30⟩
set_option maxHeartbeats 4000000 in
set_option maxRecDepth 100000 in
theorem pred_Value {W w : World} {F : List Atom} (o : OpdV) (bs : List BoundD) (bv : Value) {ip : Nat} (hp : F[ip]? = some (Im 6 bv bs.length (bs.flatMap bndCell))) {iq : Nat} (hq : F[iq]? = some (bndsA bs)) (H : St W w F) : Calls Try.prog 13 #[.agg #[.string o.var.v, .string o.attr.v, .int .i64 o.val.kind.v, .int .i64 o.val.n.v, .string o.val.s.v], .agg #[bv]] w (Ret fun v w' => v = .tuple #[.agg #[.int .i64 ((bvV o bs).kind.v), .int .i64 ((bvV o bs).n.v), .string ((bvV o bs).s.v)], .bool (bvIs o bs)] ∧ St W w' F) := by
  obtain ⟨pp1, cc2, rfl, hn3⟩ := Rd.shape (Im.rd H (i := ip) hp)
  have H4 := H.dup (i := ip + 0) (by exact hp) (Im_pers _ _ _ _)
  have H5 : St W w (Im 6 (.slice pp1 bs.length cc2) bs.length (bs.flatMap bndCell) :: F) := H4
  have H6 := H5.dup (i := iq + 1) (by exact hq) (bndsA_pers _)
  have H7 : St W w (bndsA bs :: Im 6 (.slice pp1 bs.length cc2) bs.length (bs.flatMap bndCell) :: F) := H6
  have hrg : -1 ≤ bIdx o bs ∧ bIdx o bs < (bs.length : Int) := idxB_range _ _
  refine calls_of_go (n := 35) Try.func13 rfl Try.ntmps13 rfl ?_
  refine g_seq ?_
  refine g_region ?_
  refine r_cons (s_box H7 25 (.agg #[.string o.var.v, .string o.attr.v, .int .i64 o.val.kind.v, .int .i64 o.val.n.v, .string o.val.s.v]) rfl (cs := #[.string o.var.v, .string o.attr.v, .int .i64 o.val.kind.v, .int .i64 o.val.n.v, .string o.val.s.v]) rfl rfl ?_); intro bk8 w9 H10
  refine r_cons (s_box H10 43 (.agg #[.slice pp1 bs.length cc2]) rfl (cs := #[.slice pp1 bs.length cc2]) rfl rfl ?_); intro bk11 w12 H13
  refine r_cons (s_alloc H13 23 ze_23 rfl ?_); intro bk14 w15 H16
  refine r_cons (s_assign (.bool false) rfl rfl ?_)
  refine r_nil ?_
  refine g_seq ?_
  refine g_seq ?_
  refine g_region ?_
  refine r_cons (s_fieldAddr 25 1 1 1 9 rfl fi_25_1 rfl rfl ?_)
  refine r_cons (s_load (.string o.attr.v) ag_9 rfl (H16.blk_at (i := 2) rfl) rfl rfl ?_)
  by_cases hc17 : o.attr.v = ByteArray.empty
  · skip
    refine r_cons (s_seql true rfl rfl (dtrue hc17) rfl ?_)
    refine r_nil ?_
    refine g_true rfl ?_
    refine g_seq ?_
    refine g_region ?_
    refine r_cons (s_fieldAddr 25 2 2 2 23 rfl fi_25_2 rfl rfl ?_)
    refine r_cons (s_loadAgg [.int .i64 o.val.kind.v, .int .i64 o.val.n.v, .string o.val.s.v] 3 ag_23 rfl (H16.blk_at (i := 2) rfl) (Nat.le_of_ble_eq_true rfl) rfl rfl ?_)
    refine r_cons (s_storeAgg H16 0 #[.int .i64 o.val.kind.v, .int .i64 o.val.n.v, .string o.val.s.v] 3 rfl rfl rfl sz_23 rfl (by simp [Value.oneCell']) (Nat.le_of_ble_eq_true rfl) (fun o h1 h2 => by first | (simp; done) | (simp; omega)) (cs' := #[.int .i64 o.val.kind.v, .int .i64 o.val.n.v, .string o.val.s.v]) rfl ?_); intro w18 H19
    refine r_cons (s_assign (.bool true) rfl rfl ?_)
    refine r_nil ?_
    refine g_ret' [.agg #[.int .i64 o.val.kind.v, .int .i64 o.val.n.v, .string o.val.s.v], .bool true] Try.func13 Try.results13 ⟨(res_cellN rfl ag_23 (H19.blk_at (i := 0) rfl) (Nat.le_of_ble_eq_true rfl) rfl), rfl, trivial⟩ ?_
    have H20 : St W w18 F := (((((H19.drop 0 rfl).drop 0 rfl).drop 0 rfl).drop 0 rfl).drop 0 rfl)
    have hR := (bv_val hc17 : bvV o bs = _ ∧ bvIs o bs = _)
    exact ⟨by rw [hR.1, hR.2]; rfl, H20⟩
  · skip
    refine r_cons (s_seql false rfl rfl (dfalse hc17) rfl ?_)
    refine r_nil ?_
    refine g_false rfl ?_
    refine g_skip ?_
    refine g_seq ?_
    refine g_region ?_
    refine r_cons (s_fieldAddr 43 0 0 0 41 rfl fi_43_0 rfl rfl ?_)
    refine r_cons (s_load (.slice pp1 bs.length cc2) ag_41 rfl (H16.blk_at (i := 1) rfl) rfl rfl ?_)
    refine r_cons (s_makeFunc (.func (.func 36) #[] #[.pointer (some ⟨bk8, 0, none⟩)]) rfl rfl ?_)
    refine r_cons (s_call [.slice pp1 bs.length cc2, .func (.func 36) #[] #[.pointer (some ⟨bk8, 0, none⟩)]] pl_35 rfl rfl (IndexFunc_bound bs (.slice pp1 bs.length cc2) bk8 o (m := 4) rfl (i := 2) rfl H16) ?_)
    rintro _ w21 ⟨rfl, H22⟩
    refine r_cons (s_assign (.int .i64 (bIdx o bs)) rfl rfl ?_)
    refine r_nil ?_
    refine g_seq ?_
    refine g_seq ?_
    refine g_region ?_
    refine r_cons (s_move (.int .i64 (bIdx o bs)) rfl rfl ?_)
    by_cases hc23 : bIdx o bs < 0
    · skip
      refine r_cons (s_lss true rfl rfl (dtrue hc23) rfl ?_)
      refine r_nil ?_
      refine g_true rfl ?_
      refine g_seq ?_
      refine g_region ?_
      refine r_cons (s_build (cs := #[.int .i64 0, .int .i64 0, .string ByteArray.empty]) (by kernel_rfl) rfl ?_)
      refine r_cons (s_storeAgg H22 0 #[.int .i64 0, .int .i64 0, .string ByteArray.empty] 3 rfl rfl rfl sz_23 rfl (by simp [Value.oneCell']) (Nat.le_of_ble_eq_true rfl) (fun o h1 h2 => by first | (simp; done) | (simp; omega)) (cs' := #[.int .i64 0, .int .i64 0, .string ByteArray.empty]) rfl ?_); intro w24 H25
      refine r_cons (s_assign (.bool false) rfl rfl ?_)
      refine r_nil ?_
      refine g_ret' [.agg #[.int .i64 0, .int .i64 0, .string ByteArray.empty], .bool false] Try.func13 Try.results13 ⟨(res_cellN rfl ag_23 (H25.blk_at (i := 0) rfl) (Nat.le_of_ble_eq_true rfl) rfl), rfl, trivial⟩ ?_
      have H26 : St W w24 F := (((((H25.drop 0 rfl).drop 0 rfl).drop 0 rfl).drop 0 rfl).drop 0 rfl)
      have hR := (bv_no hc17 (by omega) : bvV o bs = _ ∧ bvIs o bs = _)
      exact ⟨by rw [hR.1, hR.2]; rfl, H26⟩
    · skip
      refine r_cons (s_lss false rfl rfl (dfalse hc23) rfl ?_)
      refine r_nil ?_
      refine g_false rfl ?_
      refine g_skip ?_
      refine g_seq ?_
      obtain ⟨pA27, cA28, gA29, oA30, kA31, eA32, zA33, he39, hn34, hp35, hx36, hs37, hml, H38⟩ := Im.open_ H22 (i := 4) rfl
      obtain ⟨rfl, rfl⟩ : pp1 = pA27 ∧ cc2 = cA28 := by injection he39 with a_ b_ c_; exact ⟨a_, c_⟩
      have H40 := bndsA_at ((bIdx o bs).toNat) H38 (i := 4) rfl
      refine g_mix (fun t_ w => St W w (Attrs (.slice ((bs.getD ((bIdx o bs).toNat) default).ev.p) ((bs.getD ((bIdx o bs).toNat) default).ev.ev.attrs.length) ((bs.getD ((bIdx o bs).toNat) default).ev.c)) ((bs.getD ((bIdx o bs).toNat) default).ev.ev.attrs) :: imi (0 < bs.length) gA29 (.cells kA31 eA32 zA33) :: blk bk14 (.cells #[.int .i64 0, .int .i64 0, .string ByteArray.empty] 23 (0, 0)) :: blk bk11 (.cells #[.slice pp1 bs.length cc2] 43 (0, 0)) :: blk bk8 (.cells #[.string o.var.v, .string o.attr.v, .int .i64 o.val.kind.v, .int .i64 o.val.n.v, .string o.val.s.v] 25 (0, 0)) :: bndsA bs :: Im 6 (.slice pp1 bs.length cc2) bs.length (bs.flatMap bndCell) :: t_)) F mixed 16 rfl H40.drew ?_
      refine f_first 0 (listed' := #[true, false, false, false, false, false, false, false, false, false, false, false, false, false, false, false]) rfl (by kernel_rfl) (by kernel_rfl) (by kernel_rfl) rfl ?_
      refine f_val rfl rfl rfl (by intro t_ w hw; exact x_fieldAddr 43 0 0 0 41 rfl fi_43_0 rfl w) ?_
      refine f_first 1 (listed' := #[true, true, false, false, false, false, false, false, false, false, false, false, false, false, false, false]) rfl (by kernel_rfl) (by kernel_rfl) (by kernel_rfl) rfl ?_
      refine f_val rfl rfl rfl (by intro t_ w hw; exact x_load (.slice pp1 bs.length cc2) ag_41 rfl (hw.blk_at (i := 3) rfl) rfl) ?_
      refine f_first 2 (listed' := #[true, true, true, false, false, false, false, false, false, false, false, false, false, false, false, false]) rfl (by kernel_rfl) (by kernel_rfl) (by kernel_rfl) rfl ?_
      refine f_val rfl rfl rfl (by intro t_ w hw; exact x_move (.int .i64 (bIdx o bs)) rfl w) ?_
      refine f_first 3 (listed' := #[true, true, true, true, false, false, false, false, false, false, false, false, false, false, false, false]) rfl (by kernel_rfl) (by kernel_rfl) (by kernel_rfl) rfl ?_
      refine f_val rfl rfl rfl (by intro t_ w hw; exact x_indexAddr gA29 (off := oA30) (bIdx o bs) 6 (oA30 + ((bIdx o bs).toNat) * 6) (by exact congrArg (fun z_ => Value.slice z_ bs.length cc2) (hp35 (by omega))) rfl el_41 (by omega) rfl w) ?_
      refine f_first 4 (listed' := #[true, true, true, true, true, false, false, false, false, false, false, false, false, false, false, false]) rfl (by kernel_rfl) (by kernel_rfl) (by kernel_rfl) rfl ?_
      refine f_val rfl rfl rfl (by intro t_ w hw; exact x_fieldAddr 61 1 1 (oA30 + ((bIdx o bs).toNat) * 6 + 1) 36 rfl fi_61_1 rfl w) ?_
      refine f_first 5 (listed' := #[true, true, true, true, true, true, false, false, false, false, false, false, false, false, false, false]) rfl (by kernel_rfl) (by kernel_rfl) (by kernel_rfl) rfl ?_
      refine f_val rfl rfl rfl (by intro t_ w hw; exact x_fieldAddr 36 3 4 (oA30 + ((bIdx o bs).toNat) * 6 + 5) 34 rfl fi_36_3 rfl w) ?_
      refine f_first 6 (listed' := #[true, true, true, true, true, true, true, false, false, false, false, false, false, false, false, false]) rfl (by kernel_rfl) (by kernel_rfl) (by kernel_rfl) rfl ?_
      refine f_val rfl rfl rfl (by intro t_ w hw; exact x_load (.slice ((bs.getD ((bIdx o bs).toNat) default).ev.p) ((bs.getD ((bIdx o bs).toNat) default).ev.ev.attrs.length) ((bs.getD ((bIdx o bs).toNat) default).ev.c)) ag_34 rfl (hw.imi_at (i := 1) rfl (by omega)) (elem_cell (L := bs) (i := (bIdx o bs).toNat) bndCell_len (hx36 (by omega)) (by omega) default 5 (by decide) _ rfl)) ?_
      refine f_first 7 (listed' := #[true, true, true, true, true, true, true, true, false, false, false, false, false, false, false, false]) rfl (by kernel_rfl) (by kernel_rfl) (by kernel_rfl) rfl ?_
      refine f_val rfl rfl rfl (by intro t_ w hw; exact x_fieldAddr 25 1 1 1 9 rfl fi_25_1 rfl w) ?_
      refine f_first 8 (listed' := #[true, true, true, true, true, true, true, true, true, false, false, false, false, false, false, false]) rfl (by kernel_rfl) (by kernel_rfl) (by kernel_rfl) rfl ?_
      refine f_val rfl rfl rfl (by intro t_ w hw; exact x_load (.string o.attr.v) ag_9 rfl (hw.blk_at (i := 4) rfl) rfl) ?_
      refine f_first 9 (listed' := #[true, true, true, true, true, true, true, true, true, true, false, false, false, false, false, false]) rfl (by kernel_rfl) (by kernel_rfl) (by kernel_rfl) rfl ?_
      refine f_enter (args := #[.slice ((bs.getD ((bIdx o bs).toNat) default).ev.p) ((bs.getD ((bIdx o bs).toNat) default).ev.ev.attrs.length) ((bs.getD ((bIdx o bs).toNat) default).ev.c), .string o.attr.v]) (v := .tuple #[.agg #[.int .i64 ((getV ((bs.getD ((bIdx o bs).toNat) default).ev.ev.attrs) o.attr.v).kind.v), .int .i64 ((getV ((bs.getD ((bIdx o bs).toNat) default).ev.ev.attrs) o.attr.v).n.v), .string ((getV ((bs.getD ((bIdx o bs).toNat) default).ev.ev.attrs) o.attr.v).s.v)], .bool (hasV ((bs.getD ((bIdx o bs).toNat) default).ev.ev.attrs) o.attr.v)]) rfl rfl rfl (x_call pl_29 [.slice ((bs.getD ((bIdx o bs).toNat) default).ev.p) ((bs.getD ((bIdx o bs).toNat) default).ev.ev.attrs.length) ((bs.getD ((bIdx o bs).toNat) default).ev.c), .string o.attr.v] rfl) (fun t_ w hw => value_Get ((bs.getD ((bIdx o bs).toNat) default).ev.ev.attrs) (.slice ((bs.getD ((bIdx o bs).toNat) default).ev.p) ((bs.getD ((bIdx o bs).toNat) default).ev.ev.attrs.length) ((bs.getD ((bIdx o bs).toNat) default).ev.c)) o.attr.v (j := 0) rfl hw) ?_
      refine f_first 10 (listed' := #[true, true, true, true, true, true, true, true, true, true, true, false, false, false, false, false]) rfl (by kernel_rfl) (by kernel_rfl) (by kernel_rfl) rfl ?_
      refine f_val rfl rfl rfl (by intro t_ w hw; exact x_move (.tuple #[.agg #[.int .i64 ((getV ((bs.getD ((bIdx o bs).toNat) default).ev.ev.attrs) o.attr.v).kind.v), .int .i64 ((getV ((bs.getD ((bIdx o bs).toNat) default).ev.ev.attrs) o.attr.v).n.v), .string ((getV ((bs.getD ((bIdx o bs).toNat) default).ev.ev.attrs) o.attr.v).s.v)], .bool (hasV ((bs.getD ((bIdx o bs).toNat) default).ev.ev.attrs) o.attr.v)]) rfl w) ?_
      refine f_first 11 (listed' := #[true, true, true, true, true, true, true, true, true, true, true, true, false, false, false, false]) rfl (by kernel_rfl) (by kernel_rfl) (by kernel_rfl) rfl ?_
      refine f_val rfl rfl rfl (by intro t_ w hw; exact x_extract (.agg #[.int .i64 ((getV ((bs.getD ((bIdx o bs).toNat) default).ev.ev.attrs) o.attr.v).kind.v), .int .i64 ((getV ((bs.getD ((bIdx o bs).toNat) default).ev.ev.attrs) o.attr.v).n.v), .string ((getV ((bs.getD ((bIdx o bs).toNat) default).ev.ev.attrs) o.attr.v).s.v)]) #[.agg #[.int .i64 ((getV ((bs.getD ((bIdx o bs).toNat) default).ev.ev.attrs) o.attr.v).kind.v), .int .i64 ((getV ((bs.getD ((bIdx o bs).toNat) default).ev.ev.attrs) o.attr.v).n.v), .string ((getV ((bs.getD ((bIdx o bs).toNat) default).ev.ev.attrs) o.attr.v).s.v)], .bool (hasV ((bs.getD ((bIdx o bs).toNat) default).ev.ev.attrs) o.attr.v)] rfl rfl w) ?_
      refine f_first 12 (listed' := #[true, true, true, true, true, true, true, true, true, true, true, true, true, false, false, false]) rfl (by kernel_rfl) (by kernel_rfl) (by kernel_rfl) rfl ?_
      refine f_val rfl rfl rfl (by intro t_ w hw; exact x_extract (.bool (hasV ((bs.getD ((bIdx o bs).toNat) default).ev.ev.attrs) o.attr.v)) #[.agg #[.int .i64 ((getV ((bs.getD ((bIdx o bs).toNat) default).ev.ev.attrs) o.attr.v).kind.v), .int .i64 ((getV ((bs.getD ((bIdx o bs).toNat) default).ev.ev.attrs) o.attr.v).n.v), .string ((getV ((bs.getD ((bIdx o bs).toNat) default).ev.ev.attrs) o.attr.v).s.v)], .bool (hasV ((bs.getD ((bIdx o bs).toNat) default).ev.ev.attrs) o.attr.v)] rfl rfl w) ?_
      refine f_all (rs := [13]) (by kernel_rfl) (by simp) ?_
      refine a_cons ⟨_, rfl, ?_⟩ (fun x hx => absurd hx (by simp))
      intro w41 H42
      try dsimp only at H42
      refine s_alloc H42 23 ze_23 rfl ?_; intro bk43 w44 H45
      have H46 : St W w44 (Attrs (.slice ((bs.getD ((bIdx o bs).toNat) default).ev.p) ((bs.getD ((bIdx o bs).toNat) default).ev.ev.attrs.length) ((bs.getD ((bIdx o bs).toNat) default).ev.c)) ((bs.getD ((bIdx o bs).toNat) default).ev.ev.attrs) :: imi (0 < bs.length) gA29 (.cells kA31 eA32 zA33) :: blk bk14 (.cells #[.int .i64 0, .int .i64 0, .string ByteArray.empty] 23 (0, 0)) :: blk bk11 (.cells #[.slice pp1 bs.length cc2] 43 (0, 0)) :: blk bk8 (.cells #[.string o.var.v, .string o.attr.v, .int .i64 o.val.kind.v, .int .i64 o.val.n.v, .string o.val.s.v] 25 (0, 0)) :: bndsA bs :: Im 6 (.slice pp1 bs.length cc2) bs.length (bs.flatMap bndCell) :: blk bk43 (.cells #[.int .i64 0, .int .i64 0, .string ByteArray.empty] 23 (0, 0)) :: F) := (((((((H45.move 7 rfl).move 7 rfl).move 7 rfl).move 7 rfl).move 7 rfl).move 7 rfl).move 7 rfl)
      refine ⟨blk bk43 (.cells #[.int .i64 0, .int .i64 0, .string ByteArray.empty] 23 (0, 0)) :: F, ?_, H46⟩
      change FReg _ _ _ _ _ #[true, true, true, true, true, true, true, true, true, true, true, true, true, true, false, false] _ _
      refine f_all (rs := [14]) (by kernel_rfl) (by simp) ?_
      refine a_cons ⟨_, rfl, ?_⟩ (fun x hx => absurd hx (by simp))
      intro w47 H48
      try dsimp only at H48
      refine s_storeAgg H48 7 #[.int .i64 ((getV ((bs.getD ((bIdx o bs).toNat) default).ev.ev.attrs) o.attr.v).kind.v), .int .i64 ((getV ((bs.getD ((bIdx o bs).toNat) default).ev.ev.attrs) o.attr.v).n.v), .string ((getV ((bs.getD ((bIdx o bs).toNat) default).ev.ev.attrs) o.attr.v).s.v)] 3 rfl rfl rfl sz_23 rfl (by simp [Value.oneCell']) (Nat.le_of_ble_eq_true rfl) (fun o h1 h2 => by first | (simp; done) | (simp; omega)) (cs' := #[.int .i64 ((getV ((bs.getD ((bIdx o bs).toNat) default).ev.ev.attrs) o.attr.v).kind.v), .int .i64 ((getV ((bs.getD ((bIdx o bs).toNat) default).ev.ev.attrs) o.attr.v).n.v), .string ((getV ((bs.getD ((bIdx o bs).toNat) default).ev.ev.attrs) o.attr.v).s.v)]) rfl ?_; intro w49 H50
      refine ⟨blk bk43 (.cells #[.int .i64 ((getV ((bs.getD ((bIdx o bs).toNat) default).ev.ev.attrs) o.attr.v).kind.v), .int .i64 ((getV ((bs.getD ((bIdx o bs).toNat) default).ev.ev.attrs) o.attr.v).n.v), .string ((getV ((bs.getD ((bIdx o bs).toNat) default).ev.ev.attrs) o.attr.v).s.v)] 23 (0, 0)) :: F, ?_, H50⟩
      change FReg _ _ _ _ _ #[true, true, true, true, true, true, true, true, true, true, true, true, true, true, true, false] _ _
      refine f_first 15 (listed' := #[true, true, true, true, true, true, true, true, true, true, true, true, true, true, true, true]) rfl (by kernel_rfl) (by kernel_rfl) (by kernel_rfl) rfl ?_
      refine f_val rfl rfl rfl (by intro t_ w hw; exact x_assign (.bool (hasV ((bs.getD ((bIdx o bs).toNat) default).ev.ev.attrs) o.attr.v)) rfl w) ?_
      refine f_done (by kernel_rfl) ?_
      intro w51 H52
      refine g_seq ?_
      refine g_region ?_
      refine r_cons (s_loadAgg [.int .i64 ((getV ((bs.getD ((bIdx o bs).toNat) default).ev.ev.attrs) o.attr.v).kind.v), .int .i64 ((getV ((bs.getD ((bIdx o bs).toNat) default).ev.ev.attrs) o.attr.v).n.v), .string ((getV ((bs.getD ((bIdx o bs).toNat) default).ev.ev.attrs) o.attr.v).s.v)] 3 ag_23 rfl (H52.blk_at (i := 7) rfl) (Nat.le_of_ble_eq_true rfl) rfl rfl ?_)
      refine r_cons (s_storeAgg H52 2 #[.int .i64 ((getV ((bs.getD ((bIdx o bs).toNat) default).ev.ev.attrs) o.attr.v).kind.v), .int .i64 ((getV ((bs.getD ((bIdx o bs).toNat) default).ev.ev.attrs) o.attr.v).n.v), .string ((getV ((bs.getD ((bIdx o bs).toNat) default).ev.ev.attrs) o.attr.v).s.v)] 3 rfl rfl rfl sz_23 rfl (by simp [Value.oneCell']) (Nat.le_of_ble_eq_true rfl) (fun o h1 h2 => by first | (simp; done) | (simp; omega)) (cs' := #[.int .i64 ((getV ((bs.getD ((bIdx o bs).toNat) default).ev.ev.attrs) o.attr.v).kind.v), .int .i64 ((getV ((bs.getD ((bIdx o bs).toNat) default).ev.ev.attrs) o.attr.v).n.v), .string ((getV ((bs.getD ((bIdx o bs).toNat) default).ev.ev.attrs) o.attr.v).s.v)]) rfl ?_); intro w53 H54
      refine r_cons (s_assign (.bool true) rfl rfl ?_)
      refine r_nil ?_
      refine g_ret' [.agg #[.int .i64 ((getV ((bs.getD ((bIdx o bs).toNat) default).ev.ev.attrs) o.attr.v).kind.v), .int .i64 ((getV ((bs.getD ((bIdx o bs).toNat) default).ev.ev.attrs) o.attr.v).n.v), .string ((getV ((bs.getD ((bIdx o bs).toNat) default).ev.ev.attrs) o.attr.v).s.v)], .bool true] Try.func13 Try.results13 ⟨(res_cellN rfl ag_23 (H54.blk_at (i := 2) rfl) (Nat.le_of_ble_eq_true rfl) rfl), rfl, trivial⟩ ?_
      have H55 : St W w53 F := ((((((((H54.drop 0 rfl).drop 0 rfl).drop 0 rfl).drop 0 rfl).drop 0 rfl).drop 0 rfl).drop 0 rfl).drop 0 rfl)
      have hR := (bv_get hc17 (by omega) : bvV o bs = _ ∧ bvIs o bs = _)
      exact ⟨by rw [hR.1, hR.2]; rfl, H55⟩
set_option maxHeartbeats 4000000 in
set_option maxRecDepth 100000 in
theorem ref09_Value {W w : World} {F : List Atom} (o : OpdV) (bs : List BoundD) (bv : Value) {ip : Nat} (hp : F[ip]? = some (Im 6 bv bs.length (bs.flatMap bndCell))) {iq : Nat} (hq : F[iq]? = some (bndsA bs)) (H : St W w F) : Calls Try.prog 14 #[.agg #[.string o.var.v, .string o.attr.v, .int .i64 o.val.kind.v, .int .i64 o.val.n.v, .string o.val.s.v], .agg #[bv]] w (Ret fun v w' => v = .tuple #[.agg #[.int .i64 ((bvV o bs).kind.v), .int .i64 ((bvV o bs).n.v), .string ((bvV o bs).s.v)], .bool (bvIs o bs)] ∧ St W w' F) := by
  obtain ⟨pp1, cc2, rfl, hn3⟩ := Rd.shape (Im.rd H (i := ip) hp)
  have H4 := H.dup (i := ip + 0) (by exact hp) (Im_pers _ _ _ _)
  have H5 : St W w (Im 6 (.slice pp1 bs.length cc2) bs.length (bs.flatMap bndCell) :: F) := H4
  have H6 := H5.dup (i := iq + 1) (by exact hq) (bndsA_pers _)
  have H7 : St W w (bndsA bs :: Im 6 (.slice pp1 bs.length cc2) bs.length (bs.flatMap bndCell) :: F) := H6
  refine calls_of_go (n := 37) Try.func14 rfl Try.ntmps14 rfl ?_
  refine g_seq ?_
  refine g_region ?_
  refine r_cons (s_box H7 25 (.agg #[.string o.var.v, .string o.attr.v, .int .i64 o.val.kind.v, .int .i64 o.val.n.v, .string o.val.s.v]) rfl (cs := #[.string o.var.v, .string o.attr.v, .int .i64 o.val.kind.v, .int .i64 o.val.n.v, .string o.val.s.v]) rfl rfl ?_); intro bk8 w9 H10
  refine r_cons (s_box H10 43 (.agg #[.slice pp1 bs.length cc2]) rfl (cs := #[.slice pp1 bs.length cc2]) rfl rfl ?_); intro bk11 w12 H13
  refine r_cons (s_alloc H13 23 ze_23 rfl ?_); intro bk14 w15 H16
  refine r_cons (s_assign (.bool false) rfl rfl ?_)
  refine r_nil ?_
  refine g_seq ?_
  refine g_seq ?_
  refine g_region ?_
  refine r_cons (s_fieldAddr 25 1 1 1 9 rfl fi_25_1 rfl rfl ?_)
  refine r_cons (s_load (.string o.attr.v) ag_9 rfl (H16.blk_at (i := 2) rfl) rfl rfl ?_)
  by_cases hc17 : o.attr.v = ByteArray.empty
  · skip
    refine r_cons (s_seql true rfl rfl (dtrue hc17) rfl ?_)
    refine r_nil ?_
    refine g_true rfl ?_
    refine g_seq ?_
    refine g_region ?_
    refine r_cons (s_fieldAddr 25 2 2 2 23 rfl fi_25_2 rfl rfl ?_)
    refine r_cons (s_loadAgg [.int .i64 o.val.kind.v, .int .i64 o.val.n.v, .string o.val.s.v] 3 ag_23 rfl (H16.blk_at (i := 2) rfl) (Nat.le_of_ble_eq_true rfl) rfl rfl ?_)
    refine r_cons (s_storeAgg H16 0 #[.int .i64 o.val.kind.v, .int .i64 o.val.n.v, .string o.val.s.v] 3 rfl rfl rfl sz_23 rfl (by simp [Value.oneCell']) (Nat.le_of_ble_eq_true rfl) (fun o h1 h2 => by first | (simp; done) | (simp; omega)) (cs' := #[.int .i64 o.val.kind.v, .int .i64 o.val.n.v, .string o.val.s.v]) rfl ?_); intro w18 H19
    refine r_cons (s_assign (.bool true) rfl rfl ?_)
    refine r_nil ?_
    refine g_ret' [.agg #[.int .i64 o.val.kind.v, .int .i64 o.val.n.v, .string o.val.s.v], .bool true] Try.func14 Try.results14 ⟨(res_cellN rfl ag_23 (H19.blk_at (i := 0) rfl) (Nat.le_of_ble_eq_true rfl) rfl), rfl, trivial⟩ ?_
    have H20 : St W w18 F := (((((H19.drop 0 rfl).drop 0 rfl).drop 0 rfl).drop 0 rfl).drop 0 rfl)
    have hR := (bv_val hc17 : bvV o bs = _ ∧ bvIs o bs = _)
    exact ⟨by rw [hR.1, hR.2]; rfl, H20⟩
  · skip
    refine r_cons (s_seql false rfl rfl (dfalse hc17) rfl ?_)
    refine r_nil ?_
    refine g_false rfl ?_
    refine g_skip ?_
    refine g_seq ?_
    refine g_seq ?_
    refine g_region ?_
    refine r_cons (s_assign (.int .i64 0) rfl rfl ?_)
    refine r_nil ?_
    refine g_block ?_
    obtain ⟨pA21, cA22, gA23, oA24, kA25, eA26, zA27, he33, hn28, hp29, hx30, hs31, hml, H32⟩ := Im.open_ H16 (i := 4) rfl
    obtain ⟨rfl, rfl⟩ : pp1 = pA21 ∧ cc2 = cA22 := by injection he33 with a_ b_ c_; exact ⟨a_, c_⟩
    have H34 : St W w15 (imi (0 < bs.length) gA23 (.cells kA25 eA26 zA27) :: blk bk14 (.cells #[.int .i64 0, .int .i64 0, .string ByteArray.empty] 23 (0, 0)) :: blk bk11 (.cells #[.slice pp1 bs.length cc2] 43 (0, 0)) :: blk bk8 (.cells #[.string o.var.v, .string o.attr.v, .int .i64 o.val.kind.v, .int .i64 o.val.n.v, .string o.val.s.v] 25 (0, 0)) :: bndsA bs :: Im 6 (.slice pp1 bs.length cc2) bs.length (bs.flatMap bndCell) :: F) := ((((((H32.move 5 rfl).move 5 rfl).move 5 rfl).move 5 rfl).move 5 rfl).move 5 rfl)
    refine g_loop_inv (fun (x_ : Nat) => match x_ with | j => [(2, .pointer (some ⟨bk8, 0, none⟩)), (3, .pointer (some ⟨bk11, 0, none⟩)), (4, .pointer (some ⟨bk14, 0, none⟩)), (5, .bool false), (6, .int .i64 (j : Int))]) (fun (x_ : Nat) w => match x_ with | j => (j ≤ bs.length) ∧ (∀ q, q < j → decide ((bs.getD q default).var.v = o.var.v) = false) ∧ St W w (imi (0 < bs.length) gA23 (.cells kA25 eA26 zA27) :: blk bk14 (.cells #[.int .i64 0, .int .i64 0, .string ByteArray.empty] 23 (0, 0)) :: blk bk11 (.cells #[.slice pp1 bs.length cc2] 43 (0, 0)) :: blk bk8 (.cells #[.string o.var.v, .string o.attr.v, .int .i64 o.val.kind.v, .int .i64 o.val.n.v, .string o.val.s.v] 25 (0, 0)) :: bndsA bs :: Im 6 (.slice pp1 bs.length cc2) bs.length (bs.flatMap bndCell) :: F)) (fun (x_ : Nat) => match x_ with | j => bs.length - j) (0) ?_ ?_ ?_
    · exact ⟨by first | rfl | exact vint (by omega), by first | rfl | exact vint (by omega), by first | rfl | exact vint (by omega), by first | rfl | exact vint (by omega), by first | rfl | exact vint (by omega), trivial⟩
    · exact ⟨(by omega), (fun q hq => by omega), H34⟩
    · rintro j ρ35 w36 ⟨hjn, hz, H37⟩ nx38
      change Ends _ _ (upds ρ35 [(2, .pointer (some ⟨bk8, 0, none⟩)), (3, .pointer (some ⟨bk11, 0, none⟩)), (4, .pointer (some ⟨bk14, 0, none⟩)), (5, .bool false), (6, .int .i64 (j : Int))]) w36
      refine g_seq ?_
      refine g_seq ?_
      refine g_region ?_
      refine r_cons (s_move (.int .i64 (j : Int)) rfl rfl ?_)
      refine r_cons (s_fieldAddr 43 0 0 0 41 rfl fi_43_0 rfl rfl ?_)
      refine r_cons (s_load (.slice pp1 bs.length cc2) ag_41 rfl (H37.blk_at (i := 2) rfl) rfl rfl ?_)
      refine r_cons (s_len bs.length rfl ⟨_, un_41⟩ rfl ?_)
      by_cases hc39 : (j : Int) < (bs.length : Int)
      · skip
        refine r_cons (s_lss true rfl rfl (dtrue hc39) rfl ?_)
        refine r_nil ?_
        refine g_true rfl ?_
        refine g_skip ?_
        refine g_seq ?_
        refine g_block ?_
        refine g_seq ?_
        refine g_quiet (fun w' => St W w' (imi (0 < bs.length) gA23 (.cells kA25 eA26 zA27) :: blk bk14 (.cells #[.int .i64 0, .int .i64 0, .string ByteArray.empty] 23 (0, 0)) :: blk bk11 (.cells #[.slice pp1 bs.length cc2] 43 (0, 0)) :: blk bk8 (.cells #[.string o.var.v, .string o.attr.v, .int .i64 o.val.kind.v, .int .i64 o.val.n.v, .string o.val.s.v] 25 (0, 0)) :: bndsA bs :: Im 6 (.slice pp1 bs.length cc2) bs.length (bs.flatMap bndCell) :: F)) mixed (by kernel_rfl) H37.drew ?_
        refine q_cons (q_val rfl rfl rfl (by intro w hw; exact x_fieldAddr 43 0 0 0 41 rfl fi_43_0 rfl w) ?_)
        refine q_cons (q_val rfl rfl rfl (by intro w hw; exact x_load (.slice pp1 bs.length cc2) ag_41 rfl (hw.blk_at (i := 2) rfl) rfl) ?_)
        refine q_cons (q_val rfl rfl rfl (by intro w hw; exact x_move (.int .i64 (j : Int)) rfl w) ?_)
        refine q_cons (q_val rfl rfl rfl (by intro w hw; exact x_indexAddr gA23 (off := oA24) (j : Int) 6 (oA24 + j * 6) (by exact congrArg (fun z_ => Value.slice z_ bs.length cc2) (hp29 (by omega))) rfl el_41 (by omega) rfl w) ?_)
        refine q_cons (q_val rfl rfl rfl (by intro w hw; exact x_fieldAddr 61 0 0 (oA24 + j * 6) 9 rfl fi_61_0 rfl w) ?_)
        refine q_cons (q_val rfl rfl rfl (by intro w hw; exact x_load (.string ((bs.getD j default).var.v)) ag_9 rfl (hw.imi_at (i := 0) rfl (by omega)) (elem_cell (L := bs) (i := j) bndCell_len (hx30 (by omega)) (by omega) default 0 (by decide) _ rfl)) ?_)
        refine q_cons (q_val rfl rfl rfl (by intro w hw; exact x_fieldAddr 25 0 0 0 9 rfl fi_25_0 rfl w) ?_)
        refine q_cons (q_val rfl rfl rfl (by intro w hw; exact x_load (.string o.var.v) ag_9 rfl (hw.blk_at (i := 3) rfl) rfl) ?_)
        by_cases hc40 : (bs.getD j default).var.v = o.var.v
        · skip
          refine q_cons (q_val rfl rfl rfl (by intro w hw; exact x_seql true rfl rfl (dtrue hc40) w) ?_)
          refine q_nil ?_
          intro w41 H42
          refine g_true rfl ?_
          refine g_seq ?_
          have H43 := bndsA_at j H42 (i := 4) rfl
          have H44 : St W w41 (Attrs (.slice ((bs.getD j default).ev.p) ((bs.getD j default).ev.ev.attrs.length) ((bs.getD j default).ev.c)) ((bs.getD j default).ev.ev.attrs) :: imi (0 < bs.length) gA23 (.cells kA25 eA26 zA27) :: blk bk11 (.cells #[.slice pp1 bs.length cc2] 43 (0, 0)) :: blk bk8 (.cells #[.string o.var.v, .string o.attr.v, .int .i64 o.val.kind.v, .int .i64 o.val.n.v, .string o.val.s.v] 25 (0, 0)) :: bndsA bs :: Im 6 (.slice pp1 bs.length cc2) bs.length (bs.flatMap bndCell) :: blk bk14 (.cells #[.int .i64 0, .int .i64 0, .string ByteArray.empty] 23 (0, 0)) :: F) := (((((((H43.move 2 rfl).move 6 rfl).move 6 rfl).move 6 rfl).move 6 rfl).move 6 rfl).move 6 rfl)
          refine g_mix (fun t_ w => St W w (Attrs (.slice ((bs.getD j default).ev.p) ((bs.getD j default).ev.ev.attrs.length) ((bs.getD j default).ev.c)) ((bs.getD j default).ev.ev.attrs) :: imi (0 < bs.length) gA23 (.cells kA25 eA26 zA27) :: blk bk11 (.cells #[.slice pp1 bs.length cc2] 43 (0, 0)) :: blk bk8 (.cells #[.string o.var.v, .string o.attr.v, .int .i64 o.val.kind.v, .int .i64 o.val.n.v, .string o.val.s.v] 25 (0, 0)) :: bndsA bs :: Im 6 (.slice pp1 bs.length cc2) bs.length (bs.flatMap bndCell) :: t_)) (blk bk14 (.cells #[.int .i64 0, .int .i64 0, .string ByteArray.empty] 23 (0, 0)) :: F) mixed 10 rfl H44.drew ?_
          refine f_first 0 (listed' := #[true, false, false, false, false, false, false, false, false, false]) rfl (by kernel_rfl) (by kernel_rfl) (by kernel_rfl) rfl ?_
          refine f_val rfl rfl rfl (by intro t_ w hw; exact x_loadAgg [.string o.var.v, .string o.attr.v, .int .i64 o.val.kind.v, .int .i64 o.val.n.v, .string o.val.s.v] 5 ag_25 rfl (hw.blk_at (i := 3) rfl) (Nat.le_of_ble_eq_true rfl) rfl) ?_
          refine f_first 1 (listed' := #[true, true, false, false, false, false, false, false, false, false]) rfl (by kernel_rfl) (by kernel_rfl) (by kernel_rfl) rfl ?_
          refine f_val rfl rfl rfl (by intro t_ w hw; exact x_fieldAddr 43 0 0 0 41 rfl fi_43_0 rfl w) ?_
          refine f_first 2 (listed' := #[true, true, true, false, false, false, false, false, false, false]) rfl (by kernel_rfl) (by kernel_rfl) (by kernel_rfl) rfl ?_
          refine f_val rfl rfl rfl (by intro t_ w hw; exact x_load (.slice pp1 bs.length cc2) ag_41 rfl (hw.blk_at (i := 2) rfl) rfl) ?_
          refine f_first 3 (listed' := #[true, true, true, true, false, false, false, false, false, false]) rfl (by kernel_rfl) (by kernel_rfl) (by kernel_rfl) rfl ?_
          refine f_val rfl rfl rfl (by intro t_ w hw; exact x_move (.int .i64 (j : Int)) rfl w) ?_
          refine f_first 4 (listed' := #[true, true, true, true, true, false, false, false, false, false]) rfl (by kernel_rfl) (by kernel_rfl) (by kernel_rfl) rfl ?_
          refine f_val rfl rfl rfl (by intro t_ w hw; exact x_indexAddr gA23 (off := oA24) (j : Int) 6 (oA24 + j * 6) (by exact congrArg (fun z_ => Value.slice z_ bs.length cc2) (hp29 (by omega))) rfl el_41 (by omega) rfl w) ?_
          refine f_first 5 (listed' := #[true, true, true, true, true, true, false, false, false, false]) rfl (by kernel_rfl) (by kernel_rfl) (by kernel_rfl) rfl ?_
          refine f_val rfl rfl rfl (by intro t_ w hw; exact x_fieldAddr 61 1 1 (oA24 + j * 6 + 1) 36 rfl fi_61_1 rfl w) ?_
          refine f_first 6 (listed' := #[true, true, true, true, true, true, true, false, false, false]) rfl (by kernel_rfl) (by kernel_rfl) (by kernel_rfl) rfl ?_
          refine f_val rfl rfl rfl (by intro t_ w hw; exact x_loadAgg [.int .i64 ((bs.getD j default).ev.ev.src.v), .int .i64 ((bs.getD j default).ev.ev.seq.v), .int .i64 ((bs.getD j default).ev.ev.time.v), .string ((bs.getD j default).ev.ev.typ.v), .slice ((bs.getD j default).ev.p) ((bs.getD j default).ev.ev.attrs.length) ((bs.getD j default).ev.c)] 5 ag_36 rfl (hw.imi_at (i := 1) rfl (by omega)) (by have := elem_size (i := j) (s := 6) (hs31 (by omega)) (by omega); omega) (elem_sub bndCell_len (hx30 (by omega)) (by omega) default 1 5 (by decide))) ?_
          refine f_first 7 (listed' := #[true, true, true, true, true, true, true, true, false, false]) rfl (by kernel_rfl) (by kernel_rfl) (by kernel_rfl) rfl ?_
          refine f_enter (args := #[.agg #[.string o.var.v, .string o.attr.v, .int .i64 o.val.kind.v, .int .i64 o.val.n.v, .string o.val.s.v], .agg #[.int .i64 ((bs.getD j default).ev.ev.src.v), .int .i64 ((bs.getD j default).ev.ev.seq.v), .int .i64 ((bs.getD j default).ev.ev.time.v), .string ((bs.getD j default).ev.ev.typ.v), .slice ((bs.getD j default).ev.p) ((bs.getD j default).ev.ev.attrs.length) ((bs.getD j default).ev.c)]]) (v := .agg #[.int .i64 ((ofV o ((bs.getD j default).ev.ev.attrs)).kind.v), .int .i64 ((ofV o ((bs.getD j default).ev.ev.attrs)).n.v), .string ((ofV o ((bs.getD j default).ev.ev.attrs)).s.v)]) rfl rfl rfl (x_call pl_32 [.agg #[.string o.var.v, .string o.attr.v, .int .i64 o.val.kind.v, .int .i64 o.val.n.v, .string o.val.s.v], .agg #[.int .i64 ((bs.getD j default).ev.ev.src.v), .int .i64 ((bs.getD j default).ev.ev.seq.v), .int .i64 ((bs.getD j default).ev.ev.time.v), .string ((bs.getD j default).ev.ev.typ.v), .slice ((bs.getD j default).ev.p) ((bs.getD j default).ev.ev.attrs.length) ((bs.getD j default).ev.c)]] rfl) (fun t_ w hw => ref09_of o ((bs.getD j default).ev.ev) (.slice ((bs.getD j default).ev.p) ((bs.getD j default).ev.ev.attrs.length) ((bs.getD j default).ev.c)) (j := 0) rfl hw) ?_
          refine f_all (rs := [8]) (by kernel_rfl) (by simp) ?_
          refine a_cons ⟨_, rfl, ?_⟩ (fun x hx => absurd hx (by simp))
          intro w45 H46
          try dsimp only at H46
          refine s_storeAgg H46 6 #[.int .i64 ((ofV o ((bs.getD j default).ev.ev.attrs)).kind.v), .int .i64 ((ofV o ((bs.getD j default).ev.ev.attrs)).n.v), .string ((ofV o ((bs.getD j default).ev.ev.attrs)).s.v)] 3 rfl rfl rfl sz_23 rfl (by simp [Value.oneCell']) (Nat.le_of_ble_eq_true rfl) (fun o h1 h2 => by first | (simp; done) | (simp; omega)) (cs' := #[.int .i64 ((ofV o ((bs.getD j default).ev.ev.attrs)).kind.v), .int .i64 ((ofV o ((bs.getD j default).ev.ev.attrs)).n.v), .string ((ofV o ((bs.getD j default).ev.ev.attrs)).s.v)]) rfl ?_; intro w47 H48
          refine ⟨blk bk14 (.cells #[.int .i64 ((ofV o ((bs.getD j default).ev.ev.attrs)).kind.v), .int .i64 ((ofV o ((bs.getD j default).ev.ev.attrs)).n.v), .string ((ofV o ((bs.getD j default).ev.ev.attrs)).s.v)] 23 (0, 0)) :: F, ?_, H48⟩
          change FReg _ _ _ _ _ #[true, true, true, true, true, true, true, true, true, false] _ _
          refine f_first 9 (listed' := #[true, true, true, true, true, true, true, true, true, true]) rfl (by kernel_rfl) (by kernel_rfl) (by kernel_rfl) rfl ?_
          refine f_val rfl rfl rfl (by intro t_ w hw; exact x_assign (.bool true) rfl w) ?_
          refine f_done (by kernel_rfl) ?_
          intro w49 H50
          refine g_ret' [.agg #[.int .i64 ((ofV o ((bs.getD j default).ev.ev.attrs)).kind.v), .int .i64 ((ofV o ((bs.getD j default).ev.ev.attrs)).n.v), .string ((ofV o ((bs.getD j default).ev.ev.attrs)).s.v)], .bool true] Try.func14 Try.results14 ⟨(res_cellN rfl ag_23 (H50.blk_at (i := 6) rfl) (Nat.le_of_ble_eq_true rfl) rfl), rfl, trivial⟩ ?_
          have H51 : St W w49 F := (((((((H50.drop 0 rfl).drop 0 rfl).drop 0 rfl).drop 0 rfl).drop 0 rfl).drop 0 rfl).drop 0 rfl)
          have hR := (bv_at hc17 hz (by omega) hc40 : bvV o bs = _ ∧ bvIs o bs = _)
          exact ⟨by rw [hR.1, hR.2]; rfl, H51⟩
        · skip
          refine q_cons (q_val rfl rfl rfl (by intro w hw; exact x_seql false rfl rfl (dfalse hc40) w) ?_)
          refine q_nil ?_
          intro w52 H53
          refine g_false rfl ?_
          refine g_skip ?_
          refine g_inBlock ?_
          refine g_region ?_
          refine r_cons (s_move (.int .i64 (j : Int)) rfl rfl ?_)
          refine r_cons (s_add ((j : Int) + 1) rfl rfl (wi64 (by omega)) rfl ?_)
          refine r_cons (s_assign (.int .i64 ((j : Int) + 1)) rfl rfl ?_)
          refine r_nil ?_
          have H54 : St W w52 (imi (0 < bs.length) gA23 (.cells kA25 eA26 zA27) :: blk bk14 (.cells #[.int .i64 0, .int .i64 0, .string ByteArray.empty] 23 (0, 0)) :: blk bk11 (.cells #[.slice pp1 bs.length cc2] 43 (0, 0)) :: blk bk8 (.cells #[.string o.var.v, .string o.attr.v, .int .i64 o.val.kind.v, .int .i64 o.val.n.v, .string o.val.s.v] 25 (0, 0)) :: bndsA bs :: Im 6 (.slice pp1 bs.length cc2) bs.length (bs.flatMap bndCell) :: F) := ((((((H53.move 5 rfl).move 5 rfl).move 5 rfl).move 5 rfl).move 5 rfl).move 5 rfl)
          exact nx38 (j + 1) _ _ ⟨(by omega), (fun q hq => (Nat.lt_or_ge q j).elim (hz q) (fun h => by rw [show q = j from by omega]; exact decide_eq_false hc40)), H54⟩ (by first | (dsimp only; omega) | omega) ⟨by first | rfl | exact vint (by omega), by first | rfl | exact vint (by omega), by first | rfl | exact vint (by omega), by first | rfl | exact vint (by omega), by first | rfl | exact vint (by omega), trivial⟩
      · skip
        refine r_cons (s_lss false rfl rfl (dfalse hc39) rfl ?_)
        refine r_nil ?_
        refine g_false rfl ?_
        refine g_exit (by rfl) ?_
        refine g_seq ?_
        refine g_region ?_
        refine r_cons (s_build (cs := #[.int .i64 0, .int .i64 0, .string ByteArray.empty]) (by kernel_rfl) rfl ?_)
        refine r_cons (s_storeAgg H37 1 #[.int .i64 0, .int .i64 0, .string ByteArray.empty] 3 rfl rfl rfl sz_23 rfl (by simp [Value.oneCell']) (Nat.le_of_ble_eq_true rfl) (fun o h1 h2 => by first | (simp; done) | (simp; omega)) (cs' := #[.int .i64 0, .int .i64 0, .string ByteArray.empty]) rfl ?_); intro w55 H56
        refine r_cons (s_assign (.bool false) rfl rfl ?_)
        refine r_nil ?_
        refine g_ret' [.agg #[.int .i64 0, .int .i64 0, .string ByteArray.empty], .bool false] Try.func14 Try.results14 ⟨(res_cellN rfl ag_23 (H56.blk_at (i := 1) rfl) (Nat.le_of_ble_eq_true rfl) rfl), rfl, trivial⟩ ?_
        have H57 : St W w55 F := ((((((H56.drop 0 rfl).drop 0 rfl).drop 0 rfl).drop 0 rfl).drop 0 rfl).drop 0 rfl)
        have hR := (bv_none hc17 (fun q hq => hz q (by omega)) : bvV o bs = _ ∧ bvIs o bs = _)
        exact ⟨by rw [hR.1, hR.2]; rfl, H57⟩
set_option maxHeartbeats 4000000 in
set_option maxRecDepth 100000 in
theorem pred_Cond {W w : World} {F : List Atom} (c : CondV) (bs : List BoundD) (bv : Value) {ip : Nat} (hp : F[ip]? = some (Im 6 bv bs.length (bs.flatMap bndCell))) {iq : Nat} (hq : F[iq]? = some (bndsA bs)) (H : St W w F) : Calls Try.prog 15 #[.agg #[.string c.left.var.v, .string c.left.attr.v, .int .i64 c.left.val.kind.v, .int .i64 c.left.val.n.v, .string c.left.val.s.v, .int .i64 c.rel.v, .string c.right.var.v, .string c.right.attr.v, .int .i64 c.right.val.kind.v, .int .i64 c.right.val.n.v, .string c.right.val.s.v], .agg #[bv]] w (Ret fun v w' => v = .bool (condB c bs) ∧ St W w' F) := by
  obtain ⟨pp1, cc2, rfl, hn3⟩ := Rd.shape (Im.rd H (i := ip) hp)
  have H4 := H.dup (i := ip + 0) (by exact hp) (Im_pers _ _ _ _)
  have H5 : St W w (Im 6 (.slice pp1 bs.length cc2) bs.length (bs.flatMap bndCell) :: F) := H4
  have H6 := H5.dup (i := iq + 1) (by exact hq) (bndsA_pers _)
  have H7 : St W w (bndsA bs :: Im 6 (.slice pp1 bs.length cc2) bs.length (bs.flatMap bndCell) :: F) := H6
  refine calls_of_go (n := 36) Try.func15 rfl Try.ntmps15 rfl ?_
  refine g_seq ?_
  refine g_region ?_
  refine r_cons (s_box H7 27 (.agg #[.string c.left.var.v, .string c.left.attr.v, .int .i64 c.left.val.kind.v, .int .i64 c.left.val.n.v, .string c.left.val.s.v, .int .i64 c.rel.v, .string c.right.var.v, .string c.right.attr.v, .int .i64 c.right.val.kind.v, .int .i64 c.right.val.n.v, .string c.right.val.s.v]) rfl (cs := #[.string c.left.var.v, .string c.left.attr.v, .int .i64 c.left.val.kind.v, .int .i64 c.left.val.n.v, .string c.left.val.s.v, .int .i64 c.rel.v, .string c.right.var.v, .string c.right.attr.v, .int .i64 c.right.val.kind.v, .int .i64 c.right.val.n.v, .string c.right.val.s.v]) rfl rfl ?_); intro bk8 w9 H10
  refine r_cons (s_box H10 43 (.agg #[.slice pp1 bs.length cc2]) rfl (cs := #[.slice pp1 bs.length cc2]) rfl rfl ?_); intro bk11 w12 H13
  refine r_cons (s_assign (.bool false) rfl rfl ?_)
  refine r_nil ?_
  refine g_seq ?_
  refine g_region ?_
  refine r_cons (s_fieldAddr 27 0 0 0 25 rfl fi_27_0 rfl rfl ?_)
  refine r_cons (s_loadAgg [.string c.left.var.v, .string c.left.attr.v, .int .i64 c.left.val.kind.v, .int .i64 c.left.val.n.v, .string c.left.val.s.v] 5 ag_25 rfl (H13.blk_at (i := 1) rfl) (Nat.le_of_ble_eq_true rfl) rfl rfl ?_)
  refine r_cons (s_loadAgg [.slice pp1 bs.length cc2] 1 ag_43 rfl (H13.blk_at (i := 0) rfl) (Nat.le_of_ble_eq_true rfl) rfl rfl ?_)
  refine r_cons (s_call [.agg #[.string c.left.var.v, .string c.left.attr.v, .int .i64 c.left.val.kind.v, .int .i64 c.left.val.n.v, .string c.left.val.s.v], .agg #[.slice pp1 bs.length cc2]] pl_13 rfl rfl (pred_Value c.left bs (.slice pp1 bs.length cc2) (ip := 3) rfl (iq := 2) rfl H13) ?_)
  rintro _ w14 ⟨rfl, H15⟩
  refine r_cons (s_move (.tuple #[.agg #[.int .i64 ((bvV c.left bs).kind.v), .int .i64 ((bvV c.left bs).n.v), .string ((bvV c.left bs).s.v)], .bool (bvIs c.left bs)]) rfl rfl ?_)
  refine r_cons (s_extract (.agg #[.int .i64 ((bvV c.left bs).kind.v), .int .i64 ((bvV c.left bs).n.v), .string ((bvV c.left bs).s.v)]) #[.agg #[.int .i64 ((bvV c.left bs).kind.v), .int .i64 ((bvV c.left bs).n.v), .string ((bvV c.left bs).s.v)], .bool (bvIs c.left bs)] rfl rfl rfl ?_)
  refine r_cons (s_extract (.bool (bvIs c.left bs)) #[.agg #[.int .i64 ((bvV c.left bs).kind.v), .int .i64 ((bvV c.left bs).n.v), .string ((bvV c.left bs).s.v)], .bool (bvIs c.left bs)] rfl rfl rfl ?_)
  refine r_cons (s_alloc H15 23 ze_23 rfl ?_); intro bk16 w17 H18
  refine r_cons (s_storeAgg H18 0 #[.int .i64 ((bvV c.left bs).kind.v), .int .i64 ((bvV c.left bs).n.v), .string ((bvV c.left bs).s.v)] 3 rfl rfl rfl sz_23 rfl (by simp [Value.oneCell']) (Nat.le_of_ble_eq_true rfl) (fun o h1 h2 => by first | (simp; done) | (simp; omega)) (cs' := #[.int .i64 ((bvV c.left bs).kind.v), .int .i64 ((bvV c.left bs).n.v), .string ((bvV c.left bs).s.v)]) rfl ?_); intro w19 H20
  refine r_cons (s_assign (.bool (bvIs c.left bs)) rfl rfl ?_)
  refine r_nil ?_
  refine g_seq ?_
  refine g_region ?_
  refine r_cons (s_fieldAddr 27 2 6 6 25 rfl fi_27_2 rfl rfl ?_)
  refine r_cons (s_loadAgg [.string c.right.var.v, .string c.right.attr.v, .int .i64 c.right.val.kind.v, .int .i64 c.right.val.n.v, .string c.right.val.s.v] 5 ag_25 rfl (H20.blk_at (i := 2) rfl) (Nat.le_of_ble_eq_true rfl) rfl rfl ?_)
  refine r_cons (s_loadAgg [.slice pp1 bs.length cc2] 1 ag_43 rfl (H20.blk_at (i := 1) rfl) (Nat.le_of_ble_eq_true rfl) rfl rfl ?_)
  refine r_cons (s_call [.agg #[.string c.right.var.v, .string c.right.attr.v, .int .i64 c.right.val.kind.v, .int .i64 c.right.val.n.v, .string c.right.val.s.v], .agg #[.slice pp1 bs.length cc2]] pl_13 rfl rfl (pred_Value c.right bs (.slice pp1 bs.length cc2) (ip := 4) rfl (iq := 3) rfl H20) ?_)
  rintro _ w21 ⟨rfl, H22⟩
  refine r_cons (s_move (.tuple #[.agg #[.int .i64 ((bvV c.right bs).kind.v), .int .i64 ((bvV c.right bs).n.v), .string ((bvV c.right bs).s.v)], .bool (bvIs c.right bs)]) rfl rfl ?_)
  refine r_cons (s_extract (.agg #[.int .i64 ((bvV c.right bs).kind.v), .int .i64 ((bvV c.right bs).n.v), .string ((bvV c.right bs).s.v)]) #[.agg #[.int .i64 ((bvV c.right bs).kind.v), .int .i64 ((bvV c.right bs).n.v), .string ((bvV c.right bs).s.v)], .bool (bvIs c.right bs)] rfl rfl rfl ?_)
  refine r_cons (s_extract (.bool (bvIs c.right bs)) #[.agg #[.int .i64 ((bvV c.right bs).kind.v), .int .i64 ((bvV c.right bs).n.v), .string ((bvV c.right bs).s.v)], .bool (bvIs c.right bs)] rfl rfl rfl ?_)
  refine r_cons (s_alloc H22 23 ze_23 rfl ?_); intro bk23 w24 H25
  refine r_cons (s_storeAgg H25 0 #[.int .i64 ((bvV c.right bs).kind.v), .int .i64 ((bvV c.right bs).n.v), .string ((bvV c.right bs).s.v)] 3 rfl rfl rfl sz_23 rfl (by simp [Value.oneCell']) (Nat.le_of_ble_eq_true rfl) (fun o h1 h2 => by first | (simp; done) | (simp; omega)) (cs' := #[.int .i64 ((bvV c.right bs).kind.v), .int .i64 ((bvV c.right bs).n.v), .string ((bvV c.right bs).s.v)]) rfl ?_); intro w26 H27
  refine r_cons (s_assign (.bool (bvIs c.right bs)) rfl rfl ?_)
  refine r_nil ?_
  refine g_seq ?_
  refine g_region ?_
  refine r_cons (s_move (.bool (bvIs c.left bs)) rfl rfl ?_)
  refine r_cons (s_not (bvIs c.left bs) rfl (!(bvIs c.left bs)) rfl rfl ?_)
  refine r_cons (s_move (.bool (!(bvIs c.left bs))) rfl rfl ?_)
  by_cases hb28 : (!(bvIs c.left bs)) = true
  · skip
    refine r_cons (r_pass rfl (congrArg some hb28) rfl rfl rfl ?_)
    refine r_cons (r_pass rfl (congrArg some hb28) rfl rfl rfl ?_)
    refine r_cons (s_pick_t (.bool true) (by exact congrArg Value.bool hb28) rfl rfl ?_)
    refine r_cons (s_move (.bool true) rfl rfl ?_)
    refine r_cons (r_pass rfl rfl rfl rfl rfl ?_)
    refine r_cons (r_pass rfl rfl rfl rfl rfl ?_)
    refine r_cons (r_pass rfl rfl rfl rfl rfl ?_)
    refine r_cons (r_pass rfl rfl rfl rfl rfl ?_)
    refine r_cons (r_pass rfl rfl rfl rfl rfl ?_)
    refine r_cons (s_pick_t (.bool true) rfl rfl rfl ?_)
    refine r_cons (s_assign (.bool true) rfl rfl ?_)
    refine r_nil ?_
    refine g_ret' [.bool true] Try.func15 Try.results15 ⟨rfl, trivial⟩ ?_
    have H29 : St W w26 F := ((((((H27.drop 0 rfl).drop 0 rfl).drop 0 rfl).drop 0 rfl).drop 0 rfl).drop 0 rfl)
    exact ⟨congrArg Value.bool (by unfold condB; rw [hb28]; simp), H29⟩
  · have hb28 := eq_false_of_ne_true hb28
    refine r_cons (r_take rfl (congrArg some hb28) ?_)
    refine s_move (.bool (bvIs c.right bs)) rfl rfl ?_
    refine r_cons (r_take rfl (congrArg some hb28) ?_)
    refine s_not (bvIs c.right bs) rfl (!(bvIs c.right bs)) rfl rfl ?_
    refine r_cons (s_pick_f (.bool (!(bvIs c.right bs))) (by exact congrArg Value.bool hb28) rfl rfl ?_)
    refine r_cons (s_move (.bool (!(bvIs c.right bs))) rfl rfl ?_)
    by_cases hb30 : (!(bvIs c.right bs)) = true
    · skip
      refine r_cons (r_pass rfl (congrArg some hb30) rfl rfl rfl ?_)
      refine r_cons (r_pass rfl (congrArg some hb30) rfl rfl rfl ?_)
      refine r_cons (r_pass rfl (congrArg some hb30) rfl rfl rfl ?_)
      refine r_cons (r_pass rfl (congrArg some hb30) rfl rfl rfl ?_)
      refine r_cons (r_pass rfl (congrArg some hb30) rfl rfl rfl ?_)
      refine r_cons (s_pick_t (.bool true) (by exact congrArg Value.bool hb30) rfl rfl ?_)
      refine r_cons (s_assign (.bool true) rfl rfl ?_)
      refine r_nil ?_
      refine g_ret' [.bool true] Try.func15 Try.results15 ⟨rfl, trivial⟩ ?_
      have H31 : St W w26 F := ((((((H27.drop 0 rfl).drop 0 rfl).drop 0 rfl).drop 0 rfl).drop 0 rfl).drop 0 rfl)
      exact ⟨congrArg Value.bool (by unfold condB; rw [hb28, hb30]; simp), H31⟩
    · have hb30 := eq_false_of_ne_true hb30
      refine r_cons (r_take rfl (congrArg some hb30) ?_)
      refine s_fieldAddr 27 1 5 5 3 rfl fi_27_1 rfl rfl ?_
      refine r_cons (r_take rfl (congrArg some hb30) ?_)
      refine s_load (.int .i64 c.rel.v) ag_3 rfl (H27.blk_at (i := 3) rfl) rfl rfl ?_
      refine r_cons (r_take rfl (congrArg some hb30) ?_)
      refine s_loadAgg [.int .i64 ((bvV c.left bs).kind.v), .int .i64 ((bvV c.left bs).n.v), .string ((bvV c.left bs).s.v)] 3 ag_23 rfl (H27.blk_at (i := 1) rfl) (Nat.le_of_ble_eq_true rfl) rfl rfl ?_
      refine r_cons (r_take rfl (congrArg some hb30) ?_)
      refine s_loadAgg [.int .i64 ((bvV c.right bs).kind.v), .int .i64 ((bvV c.right bs).n.v), .string ((bvV c.right bs).s.v)] 3 ag_23 rfl (H27.blk_at (i := 0) rfl) (Nat.le_of_ble_eq_true rfl) rfl rfl ?_
      refine r_cons (r_take rfl (congrArg some hb30) ?_)
      refine s_call [.int .i64 c.rel.v, .agg #[.int .i64 ((bvV c.left bs).kind.v), .int .i64 ((bvV c.left bs).n.v), .string ((bvV c.left bs).s.v)], .agg #[.int .i64 ((bvV c.right bs).kind.v), .int .i64 ((bvV c.right bs).n.v), .string ((bvV c.right bs).s.v)]] pl_30 rfl rfl (value_Holds c.rel.v (⟨(bvV c.left bs).kind, (bvV c.left bs).n, (bvV c.left bs).s⟩ : ValV) (⟨(bvV c.right bs).kind, (bvV c.right bs).n, (bvV c.right bs).s⟩ : ValV) H27) ?_
      rintro _ w32 ⟨rfl, H33⟩
      refine r_cons (s_pick_f (.bool (holdsB c.rel.v (⟨(bvV c.left bs).kind, (bvV c.left bs).n, (bvV c.left bs).s⟩ : ValV) (⟨(bvV c.right bs).kind, (bvV c.right bs).n, (bvV c.right bs).s⟩ : ValV))) (by exact congrArg Value.bool hb30) rfl rfl ?_)
      refine r_cons (s_assign (.bool (holdsB c.rel.v (⟨(bvV c.left bs).kind, (bvV c.left bs).n, (bvV c.left bs).s⟩ : ValV) (⟨(bvV c.right bs).kind, (bvV c.right bs).n, (bvV c.right bs).s⟩ : ValV))) rfl rfl ?_)
      refine r_nil ?_
      refine g_ret' [.bool (holdsB c.rel.v (⟨(bvV c.left bs).kind, (bvV c.left bs).n, (bvV c.left bs).s⟩ : ValV) (⟨(bvV c.right bs).kind, (bvV c.right bs).n, (bvV c.right bs).s⟩ : ValV))] Try.func15 Try.results15 ⟨rfl, trivial⟩ ?_
      have H34 : St W w32 F := ((((((H33.drop 0 rfl).drop 0 rfl).drop 0 rfl).drop 0 rfl).drop 0 rfl).drop 0 rfl)
      exact ⟨congrArg Value.bool (by unfold condB; rw [hb28, hb30]; simp), H34⟩
set_option maxHeartbeats 4000000 in
set_option maxRecDepth 100000 in
theorem ref09_Cond {W w : World} {F : List Atom} (c : CondV) (bs : List BoundD) (bv : Value) {ip : Nat} (hp : F[ip]? = some (Im 6 bv bs.length (bs.flatMap bndCell))) {iq : Nat} (hq : F[iq]? = some (bndsA bs)) (H : St W w F) : Calls Try.prog 16 #[.agg #[.string c.left.var.v, .string c.left.attr.v, .int .i64 c.left.val.kind.v, .int .i64 c.left.val.n.v, .string c.left.val.s.v, .int .i64 c.rel.v, .string c.right.var.v, .string c.right.attr.v, .int .i64 c.right.val.kind.v, .int .i64 c.right.val.n.v, .string c.right.val.s.v], .agg #[bv]] w (Ret fun v w' => v = .bool (condB c bs) ∧ St W w' F) := by
  obtain ⟨pp1, cc2, rfl, hn3⟩ := Rd.shape (Im.rd H (i := ip) hp)
  have H4 := H.dup (i := ip + 0) (by exact hp) (Im_pers _ _ _ _)
  have H5 : St W w (Im 6 (.slice pp1 bs.length cc2) bs.length (bs.flatMap bndCell) :: F) := H4
  have H6 := H5.dup (i := iq + 1) (by exact hq) (bndsA_pers _)
  have H7 : St W w (bndsA bs :: Im 6 (.slice pp1 bs.length cc2) bs.length (bs.flatMap bndCell) :: F) := H6
  refine calls_of_go (n := 36) Try.func16 rfl Try.ntmps16 rfl ?_
  refine g_seq ?_
  refine g_region ?_
  refine r_cons (s_box H7 27 (.agg #[.string c.left.var.v, .string c.left.attr.v, .int .i64 c.left.val.kind.v, .int .i64 c.left.val.n.v, .string c.left.val.s.v, .int .i64 c.rel.v, .string c.right.var.v, .string c.right.attr.v, .int .i64 c.right.val.kind.v, .int .i64 c.right.val.n.v, .string c.right.val.s.v]) rfl (cs := #[.string c.left.var.v, .string c.left.attr.v, .int .i64 c.left.val.kind.v, .int .i64 c.left.val.n.v, .string c.left.val.s.v, .int .i64 c.rel.v, .string c.right.var.v, .string c.right.attr.v, .int .i64 c.right.val.kind.v, .int .i64 c.right.val.n.v, .string c.right.val.s.v]) rfl rfl ?_); intro bk8 w9 H10
  refine r_cons (s_box H10 43 (.agg #[.slice pp1 bs.length cc2]) rfl (cs := #[.slice pp1 bs.length cc2]) rfl rfl ?_); intro bk11 w12 H13
  refine r_cons (s_assign (.bool false) rfl rfl ?_)
  refine r_nil ?_
  refine g_seq ?_
  refine g_region ?_
  refine r_cons (s_fieldAddr 27 0 0 0 25 rfl fi_27_0 rfl rfl ?_)
  refine r_cons (s_loadAgg [.string c.left.var.v, .string c.left.attr.v, .int .i64 c.left.val.kind.v, .int .i64 c.left.val.n.v, .string c.left.val.s.v] 5 ag_25 rfl (H13.blk_at (i := 1) rfl) (Nat.le_of_ble_eq_true rfl) rfl rfl ?_)
  refine r_cons (s_loadAgg [.slice pp1 bs.length cc2] 1 ag_43 rfl (H13.blk_at (i := 0) rfl) (Nat.le_of_ble_eq_true rfl) rfl rfl ?_)
  refine r_cons (s_call [.agg #[.string c.left.var.v, .string c.left.attr.v, .int .i64 c.left.val.kind.v, .int .i64 c.left.val.n.v, .string c.left.val.s.v], .agg #[.slice pp1 bs.length cc2]] pl_14 rfl rfl (ref09_Value c.left bs (.slice pp1 bs.length cc2) (ip := 3) rfl (iq := 2) rfl H13) ?_)
  rintro _ w14 ⟨rfl, H15⟩
  refine r_cons (s_move (.tuple #[.agg #[.int .i64 ((bvV c.left bs).kind.v), .int .i64 ((bvV c.left bs).n.v), .string ((bvV c.left bs).s.v)], .bool (bvIs c.left bs)]) rfl rfl ?_)
  refine r_cons (s_extract (.agg #[.int .i64 ((bvV c.left bs).kind.v), .int .i64 ((bvV c.left bs).n.v), .string ((bvV c.left bs).s.v)]) #[.agg #[.int .i64 ((bvV c.left bs).kind.v), .int .i64 ((bvV c.left bs).n.v), .string ((bvV c.left bs).s.v)], .bool (bvIs c.left bs)] rfl rfl rfl ?_)
  refine r_cons (s_extract (.bool (bvIs c.left bs)) #[.agg #[.int .i64 ((bvV c.left bs).kind.v), .int .i64 ((bvV c.left bs).n.v), .string ((bvV c.left bs).s.v)], .bool (bvIs c.left bs)] rfl rfl rfl ?_)
  refine r_cons (s_alloc H15 23 ze_23 rfl ?_); intro bk16 w17 H18
  refine r_cons (s_storeAgg H18 0 #[.int .i64 ((bvV c.left bs).kind.v), .int .i64 ((bvV c.left bs).n.v), .string ((bvV c.left bs).s.v)] 3 rfl rfl rfl sz_23 rfl (by simp [Value.oneCell']) (Nat.le_of_ble_eq_true rfl) (fun o h1 h2 => by first | (simp; done) | (simp; omega)) (cs' := #[.int .i64 ((bvV c.left bs).kind.v), .int .i64 ((bvV c.left bs).n.v), .string ((bvV c.left bs).s.v)]) rfl ?_); intro w19 H20
  refine r_cons (s_assign (.bool (bvIs c.left bs)) rfl rfl ?_)
  refine r_nil ?_
  refine g_seq ?_
  refine g_region ?_
  refine r_cons (s_fieldAddr 27 2 6 6 25 rfl fi_27_2 rfl rfl ?_)
  refine r_cons (s_loadAgg [.string c.right.var.v, .string c.right.attr.v, .int .i64 c.right.val.kind.v, .int .i64 c.right.val.n.v, .string c.right.val.s.v] 5 ag_25 rfl (H20.blk_at (i := 2) rfl) (Nat.le_of_ble_eq_true rfl) rfl rfl ?_)
  refine r_cons (s_loadAgg [.slice pp1 bs.length cc2] 1 ag_43 rfl (H20.blk_at (i := 1) rfl) (Nat.le_of_ble_eq_true rfl) rfl rfl ?_)
  refine r_cons (s_call [.agg #[.string c.right.var.v, .string c.right.attr.v, .int .i64 c.right.val.kind.v, .int .i64 c.right.val.n.v, .string c.right.val.s.v], .agg #[.slice pp1 bs.length cc2]] pl_14 rfl rfl (ref09_Value c.right bs (.slice pp1 bs.length cc2) (ip := 4) rfl (iq := 3) rfl H20) ?_)
  rintro _ w21 ⟨rfl, H22⟩
  refine r_cons (s_move (.tuple #[.agg #[.int .i64 ((bvV c.right bs).kind.v), .int .i64 ((bvV c.right bs).n.v), .string ((bvV c.right bs).s.v)], .bool (bvIs c.right bs)]) rfl rfl ?_)
  refine r_cons (s_extract (.agg #[.int .i64 ((bvV c.right bs).kind.v), .int .i64 ((bvV c.right bs).n.v), .string ((bvV c.right bs).s.v)]) #[.agg #[.int .i64 ((bvV c.right bs).kind.v), .int .i64 ((bvV c.right bs).n.v), .string ((bvV c.right bs).s.v)], .bool (bvIs c.right bs)] rfl rfl rfl ?_)
  refine r_cons (s_extract (.bool (bvIs c.right bs)) #[.agg #[.int .i64 ((bvV c.right bs).kind.v), .int .i64 ((bvV c.right bs).n.v), .string ((bvV c.right bs).s.v)], .bool (bvIs c.right bs)] rfl rfl rfl ?_)
  refine r_cons (s_alloc H22 23 ze_23 rfl ?_); intro bk23 w24 H25
  refine r_cons (s_storeAgg H25 0 #[.int .i64 ((bvV c.right bs).kind.v), .int .i64 ((bvV c.right bs).n.v), .string ((bvV c.right bs).s.v)] 3 rfl rfl rfl sz_23 rfl (by simp [Value.oneCell']) (Nat.le_of_ble_eq_true rfl) (fun o h1 h2 => by first | (simp; done) | (simp; omega)) (cs' := #[.int .i64 ((bvV c.right bs).kind.v), .int .i64 ((bvV c.right bs).n.v), .string ((bvV c.right bs).s.v)]) rfl ?_); intro w26 H27
  refine r_cons (s_assign (.bool (bvIs c.right bs)) rfl rfl ?_)
  refine r_nil ?_
  refine g_seq ?_
  refine g_region ?_
  refine r_cons (s_move (.bool (bvIs c.left bs)) rfl rfl ?_)
  refine r_cons (s_not (bvIs c.left bs) rfl (!(bvIs c.left bs)) rfl rfl ?_)
  refine r_cons (s_move (.bool (!(bvIs c.left bs))) rfl rfl ?_)
  by_cases hb28 : (!(bvIs c.left bs)) = true
  · skip
    refine r_cons (r_pass rfl (congrArg some hb28) rfl rfl rfl ?_)
    refine r_cons (r_pass rfl (congrArg some hb28) rfl rfl rfl ?_)
    refine r_cons (s_pick_t (.bool true) (by exact congrArg Value.bool hb28) rfl rfl ?_)
    refine r_cons (s_move (.bool true) rfl rfl ?_)
    refine r_cons (r_pass rfl rfl rfl rfl rfl ?_)
    refine r_cons (r_pass rfl rfl rfl rfl rfl ?_)
    refine r_cons (r_pass rfl rfl rfl rfl rfl ?_)
    refine r_cons (r_pass rfl rfl rfl rfl rfl ?_)
    refine r_cons (r_pass rfl rfl rfl rfl rfl ?_)
    refine r_cons (s_pick_t (.bool true) rfl rfl rfl ?_)
    refine r_cons (s_assign (.bool true) rfl rfl ?_)
    refine r_nil ?_
    refine g_ret' [.bool true] Try.func16 Try.results16 ⟨rfl, trivial⟩ ?_
    have H29 : St W w26 F := ((((((H27.drop 0 rfl).drop 0 rfl).drop 0 rfl).drop 0 rfl).drop 0 rfl).drop 0 rfl)
    exact ⟨congrArg Value.bool (by unfold condB; rw [hb28]; simp), H29⟩
  · have hb28 := eq_false_of_ne_true hb28
    refine r_cons (r_take rfl (congrArg some hb28) ?_)
    refine s_move (.bool (bvIs c.right bs)) rfl rfl ?_
    refine r_cons (r_take rfl (congrArg some hb28) ?_)
    refine s_not (bvIs c.right bs) rfl (!(bvIs c.right bs)) rfl rfl ?_
    refine r_cons (s_pick_f (.bool (!(bvIs c.right bs))) (by exact congrArg Value.bool hb28) rfl rfl ?_)
    refine r_cons (s_move (.bool (!(bvIs c.right bs))) rfl rfl ?_)
    by_cases hb30 : (!(bvIs c.right bs)) = true
    · skip
      refine r_cons (r_pass rfl (congrArg some hb30) rfl rfl rfl ?_)
      refine r_cons (r_pass rfl (congrArg some hb30) rfl rfl rfl ?_)
      refine r_cons (r_pass rfl (congrArg some hb30) rfl rfl rfl ?_)
      refine r_cons (r_pass rfl (congrArg some hb30) rfl rfl rfl ?_)
      refine r_cons (r_pass rfl (congrArg some hb30) rfl rfl rfl ?_)
      refine r_cons (s_pick_t (.bool true) (by exact congrArg Value.bool hb30) rfl rfl ?_)
      refine r_cons (s_assign (.bool true) rfl rfl ?_)
      refine r_nil ?_
      refine g_ret' [.bool true] Try.func16 Try.results16 ⟨rfl, trivial⟩ ?_
      have H31 : St W w26 F := ((((((H27.drop 0 rfl).drop 0 rfl).drop 0 rfl).drop 0 rfl).drop 0 rfl).drop 0 rfl)
      exact ⟨congrArg Value.bool (by unfold condB; rw [hb28, hb30]; simp), H31⟩
    · have hb30 := eq_false_of_ne_true hb30
      refine r_cons (r_take rfl (congrArg some hb30) ?_)
      refine s_fieldAddr 27 1 5 5 3 rfl fi_27_1 rfl rfl ?_
      refine r_cons (r_take rfl (congrArg some hb30) ?_)
      refine s_load (.int .i64 c.rel.v) ag_3 rfl (H27.blk_at (i := 3) rfl) rfl rfl ?_
      refine r_cons (r_take rfl (congrArg some hb30) ?_)
      refine s_loadAgg [.int .i64 ((bvV c.left bs).kind.v), .int .i64 ((bvV c.left bs).n.v), .string ((bvV c.left bs).s.v)] 3 ag_23 rfl (H27.blk_at (i := 1) rfl) (Nat.le_of_ble_eq_true rfl) rfl rfl ?_
      refine r_cons (r_take rfl (congrArg some hb30) ?_)
      refine s_loadAgg [.int .i64 ((bvV c.right bs).kind.v), .int .i64 ((bvV c.right bs).n.v), .string ((bvV c.right bs).s.v)] 3 ag_23 rfl (H27.blk_at (i := 0) rfl) (Nat.le_of_ble_eq_true rfl) rfl rfl ?_
      refine r_cons (r_take rfl (congrArg some hb30) ?_)
      refine s_call [.int .i64 c.rel.v, .agg #[.int .i64 ((bvV c.left bs).kind.v), .int .i64 ((bvV c.left bs).n.v), .string ((bvV c.left bs).s.v)], .agg #[.int .i64 ((bvV c.right bs).kind.v), .int .i64 ((bvV c.right bs).n.v), .string ((bvV c.right bs).s.v)]] pl_31 rfl rfl (ref03_Holds c.rel.v (⟨(bvV c.left bs).kind, (bvV c.left bs).n, (bvV c.left bs).s⟩ : ValV) (⟨(bvV c.right bs).kind, (bvV c.right bs).n, (bvV c.right bs).s⟩ : ValV) H27) ?_
      rintro _ w32 ⟨rfl, H33⟩
      refine r_cons (s_pick_f (.bool (holdsB c.rel.v (⟨(bvV c.left bs).kind, (bvV c.left bs).n, (bvV c.left bs).s⟩ : ValV) (⟨(bvV c.right bs).kind, (bvV c.right bs).n, (bvV c.right bs).s⟩ : ValV))) (by exact congrArg Value.bool hb30) rfl rfl ?_)
      refine r_cons (s_assign (.bool (holdsB c.rel.v (⟨(bvV c.left bs).kind, (bvV c.left bs).n, (bvV c.left bs).s⟩ : ValV) (⟨(bvV c.right bs).kind, (bvV c.right bs).n, (bvV c.right bs).s⟩ : ValV))) rfl rfl ?_)
      refine r_nil ?_
      refine g_ret' [.bool (holdsB c.rel.v (⟨(bvV c.left bs).kind, (bvV c.left bs).n, (bvV c.left bs).s⟩ : ValV) (⟨(bvV c.right bs).kind, (bvV c.right bs).n, (bvV c.right bs).s⟩ : ValV))] Try.func16 Try.results16 ⟨rfl, trivial⟩ ?_
      have H34 : St W w32 F := ((((((H33.drop 0 rfl).drop 0 rfl).drop 0 rfl).drop 0 rfl).drop 0 rfl).drop 0 rfl)
      exact ⟨congrArg Value.bool (by unfold condB; rw [hb28, hb30]; simp), H34⟩
set_option maxHeartbeats 4000000 in
set_option maxRecDepth 100000 in
theorem pred_All1 {W w : World} {F : List Atom} (c : CondV) (g : Nat) (bs : List BoundD) (bv : Value) {i : Nat} (hi : F[i]? = some (blk g (.cells #[bv] 43 (0, 0)))) {ip : Nat} (hp : F[ip]? = some (Im 6 bv bs.length (bs.flatMap bndCell))) {iq : Nat} (hq : F[iq]? = some (bndsA bs)) (H : St W w F) : Calls Try.prog 37 #[.agg #[.string c.left.var.v, .string c.left.attr.v, .int .i64 c.left.val.kind.v, .int .i64 c.left.val.n.v, .string c.left.val.s.v, .int .i64 c.rel.v, .string c.right.var.v, .string c.right.attr.v, .int .i64 c.right.val.kind.v, .int .i64 c.right.val.n.v, .string c.right.val.s.v], .pointer (some ⟨g, 0, none⟩)] w (Ret fun v w' => v = .bool (!condB c bs) ∧ St W w' F) := by
  obtain ⟨pp1, cc2, rfl, hn3⟩ := Rd.shape (Im.rd H (i := ip) hp)
  have H4 := H.dup (i := ip + 0) (by exact hp) (Im_pers _ _ _ _)
  have H5 : St W w (Im 6 (.slice pp1 bs.length cc2) bs.length (bs.flatMap bndCell) :: F) := H4
  have H6 := H5.dup (i := iq + 1) (by exact hq) (bndsA_pers _)
  have H7 : St W w (bndsA bs :: Im 6 (.slice pp1 bs.length cc2) bs.length (bs.flatMap bndCell) :: F) := H6
  have H8 := H7.front (i := i + 2) (by exact hi)
  refine calls_of_go (n := 8) Try.func37 rfl Try.ntmps37 rfl ?_
  refine g_seq ?_
  refine g_region ?_
  refine r_cons (s_box H8 27 (.agg #[.string c.left.var.v, .string c.left.attr.v, .int .i64 c.left.val.kind.v, .int .i64 c.left.val.n.v, .string c.left.val.s.v, .int .i64 c.rel.v, .string c.right.var.v, .string c.right.attr.v, .int .i64 c.right.val.kind.v, .int .i64 c.right.val.n.v, .string c.right.val.s.v]) rfl (cs := #[.string c.left.var.v, .string c.left.attr.v, .int .i64 c.left.val.kind.v, .int .i64 c.left.val.n.v, .string c.left.val.s.v, .int .i64 c.rel.v, .string c.right.var.v, .string c.right.attr.v, .int .i64 c.right.val.kind.v, .int .i64 c.right.val.n.v, .string c.right.val.s.v]) rfl rfl ?_); intro bk9 w10 H11
  refine r_cons (s_assign (.bool false) rfl rfl ?_)
  refine r_nil ?_
  refine g_seq ?_
  refine g_region ?_
  refine r_cons (s_loadAgg [.string c.left.var.v, .string c.left.attr.v, .int .i64 c.left.val.kind.v, .int .i64 c.left.val.n.v, .string c.left.val.s.v, .int .i64 c.rel.v, .string c.right.var.v, .string c.right.attr.v, .int .i64 c.right.val.kind.v, .int .i64 c.right.val.n.v, .string c.right.val.s.v] 11 ag_27 rfl (H11.blk_at (i := 0) rfl) (Nat.le_of_ble_eq_true rfl) rfl rfl ?_)
  refine r_cons (s_loadAgg [.slice pp1 bs.length cc2] 1 ag_43 rfl (H11.blk_at (i := 1) rfl) (Nat.le_of_ble_eq_true rfl) rfl rfl ?_)
  refine r_cons (s_call [.agg #[.string c.left.var.v, .string c.left.attr.v, .int .i64 c.left.val.kind.v, .int .i64 c.left.val.n.v, .string c.left.val.s.v, .int .i64 c.rel.v, .string c.right.var.v, .string c.right.attr.v, .int .i64 c.right.val.kind.v, .int .i64 c.right.val.n.v, .string c.right.val.s.v], .agg #[.slice pp1 bs.length cc2]] pl_15 rfl rfl (pred_Cond c bs (.slice pp1 bs.length cc2) (ip := 3) rfl (iq := 2) rfl H11) ?_)
  rintro _ w12 ⟨rfl, H13⟩
  refine r_cons (s_not (condB c bs) rfl (!(condB c bs)) rfl rfl ?_)
  refine r_cons (s_assign (.bool (!(condB c bs))) rfl rfl ?_)
  refine r_nil ?_
  refine g_ret' [.bool (!(condB c bs))] Try.func37 Try.results37 ⟨rfl, trivial⟩ ?_
  have H14 : St W w12 (blk g (.cells #[.slice pp1 bs.length cc2] 43 (0, 0)) :: (F.set i emp)) := ((((H13.move 1 rfl).drop 1 rfl).drop 1 rfl).drop 1 rfl)
  exact ⟨rfl, St.back_same hi H14⟩
set_option maxHeartbeats 4000000 in
set_option maxRecDepth 100000 in
theorem IndexFunc_cond_all {W w : World} {F : List Atom} (L : List CondV) (lv : Value) (g : Nat) (bs : List BoundD) (bv : Value) {m : Nat} (hm : F[m]? = some (Im 11 lv L.length (L.flatMap condCell))) {i : Nat} (hi : F[i]? = some (blk g (.cells #[bv] 43 (0, 0)))) {ip : Nat} (hp : F[ip]? = some (Im 6 bv bs.length (bs.flatMap bndCell))) {iq : Nat} (hq : F[iq]? = some (bndsA bs)) (H : St W w F) : Calls Try.prog 53 #[lv, .func (.func 37) #[] #[.pointer (some ⟨g, 0, none⟩)]] w (Ret fun v w' => v = .int .i64 (idxB (fun x : CondV => !condB x bs) L) ∧ St W w' F) := by
  obtain ⟨pp1, cc2, rfl, hn3⟩ := Rd.shape (Im.rd H (i := m) hm)
  have H4 := H.dup hm (Im_pers _ _ _ _)
  have H5 := H4.dup (i := ip + 1) (by exact hp) (Im_pers _ _ _ _)
  have H6 := H5.dup (i := iq + 2) (by exact hq) (bndsA_pers _)
  have H7 := H6.front (i := i + 3) (by exact hi)
  obtain ⟨pA8, cA9, gA10, oA11, kA12, eA13, zA14, he20, hn15, hp16, hx17, hs18, hml, H19⟩ := Im.open_ H7 (i := 3) rfl
  obtain ⟨rfl, rfl⟩ : pp1 = pA8 ∧ cc2 = cA9 := by injection he20 with a_ b_ c_; exact ⟨a_, c_⟩
  refine calls_of_go (n := 19) Try.func53 rfl Try.ntmps53 rfl ?_
  refine g_seq ?_
  refine g_region ?_
  refine r_cons (s_assign (.int .i64 0) rfl rfl ?_)
  refine r_nil ?_
  refine g_seq ?_
  refine g_seq ?_
  refine g_region ?_
  refine r_cons (s_move (.slice pp1 L.length cc2) rfl rfl ?_)
  refine r_cons (s_len L.length rfl ⟨_, un_28⟩ rfl ?_)
  refine r_cons (s_move (.int .i64 0) rfl rfl ?_)
  refine r_nil ?_
  refine g_block ?_
  have H21 : St W w (imi (0 < L.length) gA10 (.cells kA12 eA13 zA14) :: blk g (.cells #[bv] 43 (0, 0)) :: bndsA bs :: Im 6 bv bs.length (bs.flatMap bndCell) :: Im 11 (.slice pp1 L.length cc2) L.length (L.flatMap condCell) :: (F.set i emp)) := (((((H19.move 4 rfl).move 4 rfl).move 4 rfl).move 4 rfl).move 4 rfl)
  refine g_loop_inv (fun (x_ : Nat) => match x_ with | j => [(0, .slice pp1 L.length cc2), (1, .func (.func 37) #[] #[.pointer (some ⟨g, 0, none⟩)]), (4, .int .i64 0), (7, .int .i64 (L.length : Int)), (8, .int .i64 (j : Int))]) (fun (x_ : Nat) w => match x_ with | j => (j ≤ L.length) ∧ (∀ q, q < j → (fun x : CondV => !condB x bs) (L.getD q default) = false) ∧ St W w (imi (0 < L.length) gA10 (.cells kA12 eA13 zA14) :: blk g (.cells #[bv] 43 (0, 0)) :: bndsA bs :: Im 6 bv bs.length (bs.flatMap bndCell) :: Im 11 (.slice pp1 L.length cc2) L.length (L.flatMap condCell) :: (F.set i emp))) (fun (x_ : Nat) => match x_ with | j => L.length - j) (0) ?_ ?_ ?_
  · exact ⟨by first | rfl | exact vint (by omega), by first | rfl | exact vint (by omega), by first | rfl | exact vint (by omega), by first | rfl | exact vint (by omega), by first | rfl | exact vint (by omega), trivial⟩
  · exact ⟨(by omega), (fun q hq => by omega), H21⟩
  · rintro j ρ22 w23 ⟨hjn, hz, H24⟩ nx25
    change Ends _ _ (upds ρ22 [(0, .slice pp1 L.length cc2), (1, .func (.func 37) #[] #[.pointer (some ⟨g, 0, none⟩)]), (4, .int .i64 0), (7, .int .i64 (L.length : Int)), (8, .int .i64 (j : Int))]) w23
    refine g_seq ?_
    refine g_region ?_
    by_cases hc26 : (j : Int) < (L.length : Int)
    · skip
      refine r_cons (s_lss true rfl rfl (dtrue hc26) rfl ?_)
      refine r_nil ?_
      refine g_seq ?_
      refine g_true rfl ?_
      refine g_skip ?_
      refine g_seq ?_
      refine g_block ?_
      refine g_seq ?_
      refine g_region ?_
      refine r_cons (s_move (.int .i64 (j : Int)) rfl rfl ?_)
      refine r_cons (s_assign (.int .i64 (j : Int)) rfl rfl ?_)
      refine r_nil ?_
      refine g_seq ?_
      refine g_region ?_
      refine r_cons (s_move (.func (.func 37) #[] #[.pointer (some ⟨g, 0, none⟩)]) rfl rfl ?_)
      refine r_cons (s_move (.slice pp1 L.length cc2) rfl rfl ?_)
      refine r_cons (s_move (.int .i64 (j : Int)) rfl rfl ?_)
      refine r_cons (s_indexAddr gA10 (off := oA11) (j : Int) 11 (oA11 + j * 11) (by exact congrArg (fun z_ => Value.slice z_ L.length cc2) (hp16 (by omega))) rfl el_28 (by omega) rfl rfl ?_)
      refine r_cons (s_loadAgg [.string ((L.getD j default).left.var.v), .string ((L.getD j default).left.attr.v), .int .i64 ((L.getD j default).left.val.kind.v), .int .i64 ((L.getD j default).left.val.n.v), .string ((L.getD j default).left.val.s.v), .int .i64 ((L.getD j default).rel.v), .string ((L.getD j default).right.var.v), .string ((L.getD j default).right.attr.v), .int .i64 ((L.getD j default).right.val.kind.v), .int .i64 ((L.getD j default).right.val.n.v), .string ((L.getD j default).right.val.s.v)] 11 ag_27 rfl (H24.imi_at (i := 0) rfl (by omega)) (by have := elem_size (i := j) (s := 11) (hs18 (by omega)) (by omega); omega) (elem_take condCell_len (hx17 (by omega)) (by omega) default) rfl ?_)
      refine r_cons (s_callv [.pointer (some ⟨g, 0, none⟩)] [.agg #[.string ((L.getD j default).left.var.v), .string ((L.getD j default).left.attr.v), .int .i64 ((L.getD j default).left.val.kind.v), .int .i64 ((L.getD j default).left.val.n.v), .string ((L.getD j default).left.val.s.v), .int .i64 ((L.getD j default).rel.v), .string ((L.getD j default).right.var.v), .string ((L.getD j default).right.attr.v), .int .i64 ((L.getD j default).right.val.kind.v), .int .i64 ((L.getD j default).right.val.n.v), .string ((L.getD j default).right.val.s.v)], .pointer (some ⟨g, 0, none⟩)] rfl pl_37 rfl rfl (pred_All1 (L.getD j default) g bs bv (i := 1) rfl (ip := 3) rfl (iq := 2) rfl H24) ?_)
      rintro _ w27 ⟨rfl, H28⟩
      refine r_nil ?_
      by_cases hb29 : (!condB (L.getD j default) bs) = true
      · skip
        refine g_true (congrArg Value.bool hb29) ?_
        refine g_seq ?_
        refine g_region ?_
        refine r_cons (s_move (.int .i64 (j : Int)) rfl rfl ?_)
        refine r_cons (s_assign (.int .i64 (j : Int)) rfl rfl ?_)
        refine r_nil ?_
        refine g_ret' [.int .i64 (j : Int)] Try.func53 Try.results53 ⟨rfl, trivial⟩ ?_
        have H30 : St W w27 (blk g (.cells #[bv] 43 (0, 0)) :: (F.set i emp)) := (((((H28.move 1 rfl).drop 1 rfl).drop 1 rfl).drop 1 rfl).drop 1 rfl)
        exact ⟨vint (idxB_at (p := fun x : CondV => !condB x bs) hz (by omega) (by exact hb29)).symm, St.back_same hi H30⟩
      · have hb29 := eq_false_of_ne_true hb29
        refine g_false (congrArg Value.bool hb29) ?_
        refine g_skip ?_
        refine g_inBlock ?_
        refine g_region ?_
        refine r_cons (s_add ((j : Int) + 1) rfl rfl (wi64 (by omega)) rfl ?_)
        refine r_cons (s_move (.int .i64 ((j : Int) + 1)) rfl rfl ?_)
        refine r_nil ?_
        have H31 : St W w27 (imi (0 < L.length) gA10 (.cells kA12 eA13 zA14) :: blk g (.cells #[bv] 43 (0, 0)) :: bndsA bs :: Im 6 bv bs.length (bs.flatMap bndCell) :: Im 11 (.slice pp1 L.length cc2) L.length (L.flatMap condCell) :: (F.set i emp)) := (((((H28.move 4 rfl).move 4 rfl).move 4 rfl).move 4 rfl).move 4 rfl)
        exact nx25 (j + 1) _ _ ⟨(by omega), (fun q hq => (Nat.lt_or_ge q j).elim (hz q) (fun h => by rw [show q = j from by omega]; exact hb29)), H31⟩ (by first | (dsimp only; omega) | omega) ⟨by first | rfl | exact vint (by omega), by first | rfl | exact vint (by omega), by first | rfl | exact vint (by omega), by first | rfl | exact vint (by omega), by first | rfl | exact vint (by omega), trivial⟩
    · skip
      refine r_cons (s_lss false rfl rfl (dfalse hc26) rfl ?_)
      refine r_nil ?_
      refine g_seq ?_
      refine g_false rfl ?_
      refine g_exit (by rfl) ?_
      refine g_seq ?_
      refine g_region ?_
      refine r_cons (s_assign (.int .i64 (-1)) rfl rfl ?_)
      refine r_nil ?_
      refine g_ret' [.int .i64 (-1)] Try.func53 Try.results53 ⟨rfl, trivial⟩ ?_
      have H32 : St W w23 (blk g (.cells #[bv] 43 (0, 0)) :: (F.set i emp)) := (((((H24.move 1 rfl).drop 1 rfl).drop 1 rfl).drop 1 rfl).drop 1 rfl)
      exact ⟨vint (idxB_none (p := fun x : CondV => !condB x bs) (fun q hq => hz q (by omega))).symm, St.back_same hi H32⟩
set_option maxHeartbeats 4000000 in
set_option maxRecDepth 100000 in
theorem ContainsFunc_cond_all {W w : World} {F : List Atom} (L : List CondV) (lv : Value) (g : Nat) (bs : List BoundD) (bv : Value) {m : Nat} (hm : F[m]? = some (Im 11 lv L.length (L.flatMap condCell))) {i : Nat} (hi : F[i]? = some (blk g (.cells #[bv] 43 (0, 0)))) {ip : Nat} (hp : F[ip]? = some (Im 6 bv bs.length (bs.flatMap bndCell))) {iq : Nat} (hq : F[iq]? = some (bndsA bs)) (H : St W w F) : Calls Try.prog 33 #[lv, .func (.func 37) #[] #[.pointer (some ⟨g, 0, none⟩)]] w (Ret fun v w' => v = .bool (L.any (fun x : CondV => !condB x bs)) ∧ St W w' F) := by
  refine calls_of_go (n := 9) Try.func33 rfl Try.ntmps33 rfl ?_
  refine g_seq ?_
  refine g_region ?_
  refine r_cons (s_assign (.bool false) rfl rfl ?_)
  refine r_nil ?_
  refine g_seq ?_
  refine g_region ?_
  refine r_cons (s_move (lv) rfl rfl ?_)
  refine r_cons (s_move (.func (.func 37) #[] #[.pointer (some ⟨g, 0, none⟩)]) rfl rfl ?_)
  refine r_cons (s_call [lv, .func (.func 37) #[] #[.pointer (some ⟨g, 0, none⟩)]] pl_53 rfl rfl (IndexFunc_cond_all L lv g bs bv hm hi hp hq H) ?_)
  rintro _ w1 ⟨rfl, H2⟩
  refine r_cons (s_geq (decide ((0 : Int) ≤ idxB (fun x : CondV => !condB x bs) L)) rfl rfl rfl rfl ?_)
  refine r_cons (s_assign (.bool (decide ((0 : Int) ≤ idxB (fun x : CondV => !condB x bs) L))) rfl rfl ?_)
  refine r_nil ?_
  refine g_ret' [.bool (decide ((0 : Int) ≤ idxB (fun x : CondV => !condB x bs) L))] Try.func33 Try.results33 ⟨rfl, trivial⟩ ?_
  exact ⟨congrArg Value.bool (idxB_any (p := fun x : CondV => !condB x bs)), H2⟩
set_option maxHeartbeats 4000000 in
set_option maxRecDepth 100000 in
theorem pred_All {W w : World} {F : List Atom} (l : List CondV) (lv : Value) (bs : List BoundD) (bv : Value) {m : Nat} (hm : F[m]? = some (Im 11 lv l.length (l.flatMap condCell))) {ip : Nat} (hp : F[ip]? = some (Im 6 bv bs.length (bs.flatMap bndCell))) {iq : Nat} (hq : F[iq]? = some (bndsA bs)) (H : St W w F) : Calls Try.prog 17 #[lv, .agg #[bv]] w (Ret fun v w' => v = .bool (allB l bs) ∧ St W w' F) := by
  obtain ⟨pp1, cc2, rfl, hn3⟩ := Rd.shape (Im.rd H (i := m) hm)
  have H4 := H.dup (i := m + 0) (by exact hm) (Im_pers _ _ _ _)
  have H5 : St W w (Im 11 (.slice pp1 l.length cc2) l.length (l.flatMap condCell) :: F) := H4
  obtain ⟨pp6, cc7, rfl, hn8⟩ := Rd.shape (Im.rd H (i := ip) hp)
  have H9 := H5.dup (i := ip + 1) (by exact hp) (Im_pers _ _ _ _)
  have H10 : St W w (Im 6 (.slice pp6 bs.length cc7) bs.length (bs.flatMap bndCell) :: Im 11 (.slice pp1 l.length cc2) l.length (l.flatMap condCell) :: F) := H9
  have H11 := H10.dup (i := iq + 2) (by exact hq) (bndsA_pers _)
  have H12 : St W w (bndsA bs :: Im 6 (.slice pp6 bs.length cc7) bs.length (bs.flatMap bndCell) :: Im 11 (.slice pp1 l.length cc2) l.length (l.flatMap condCell) :: F) := H11
  refine calls_of_go (n := 9) Try.func17 rfl Try.ntmps17 rfl ?_
  refine g_seq ?_
  refine g_region ?_
  refine r_cons (s_box H12 43 (.agg #[.slice pp6 bs.length cc7]) rfl (cs := #[.slice pp6 bs.length cc7]) rfl rfl ?_); intro bk13 w14 H15
  refine r_cons (s_assign (.bool false) rfl rfl ?_)
  refine r_nil ?_
  refine g_seq ?_
  refine g_region ?_
  refine r_cons (s_move (.slice pp1 l.length cc2) rfl rfl ?_)
  refine r_cons (s_makeFunc (.func (.func 37) #[] #[.pointer (some ⟨bk13, 0, none⟩)]) rfl rfl ?_)
  refine r_cons (s_call [.slice pp1 l.length cc2, .func (.func 37) #[] #[.pointer (some ⟨bk13, 0, none⟩)]] pl_33 rfl rfl (ContainsFunc_cond_all l (.slice pp1 l.length cc2) bk13 bs (.slice pp6 bs.length cc7) (m := 3) rfl (i := 0) rfl (ip := 2) rfl (iq := 1) rfl H15) ?_)
  rintro _ w16 ⟨rfl, H17⟩
  refine r_cons (s_not (l.any (fun x : CondV => !condB x bs)) rfl (!(l.any (fun x : CondV => !condB x bs))) rfl rfl ?_)
  refine r_cons (s_assign (.bool (!(l.any (fun x : CondV => !condB x bs)))) rfl rfl ?_)
  refine r_nil ?_
  refine g_ret' [.bool (!(l.any (fun x : CondV => !condB x bs)))] Try.func17 Try.results17 ⟨rfl, trivial⟩ ?_
  have H18 : St W w16 F := ((((H17.drop 0 rfl).drop 0 rfl).drop 0 rfl).drop 0 rfl)
  exact ⟨rfl, H18⟩
set_option maxHeartbeats 4000000 in
set_option maxRecDepth 100000 in
theorem ref09_All {W w : World} {F : List Atom} (l : List CondV) (lv : Value) (bs : List BoundD) (bv : Value) {m : Nat} (hm : F[m]? = some (Im 11 lv l.length (l.flatMap condCell))) {ip : Nat} (hp : F[ip]? = some (Im 6 bv bs.length (bs.flatMap bndCell))) {iq : Nat} (hq : F[iq]? = some (bndsA bs)) (H : St W w F) : Calls Try.prog 18 #[lv, .agg #[bv]] w (Ret fun v w' => v = .bool (allB l bs) ∧ St W w' F) := by
  obtain ⟨pp1, cc2, rfl, hn3⟩ := Rd.shape (Im.rd H (i := m) hm)
  have H4 := H.dup (i := m + 0) (by exact hm) (Im_pers _ _ _ _)
  have H5 : St W w (Im 11 (.slice pp1 l.length cc2) l.length (l.flatMap condCell) :: F) := H4
  obtain ⟨pp6, cc7, rfl, hn8⟩ := Rd.shape (Im.rd H (i := ip) hp)
  have H9 := H5.dup (i := ip + 1) (by exact hp) (Im_pers _ _ _ _)
  have H10 : St W w (Im 6 (.slice pp6 bs.length cc7) bs.length (bs.flatMap bndCell) :: Im 11 (.slice pp1 l.length cc2) l.length (l.flatMap condCell) :: F) := H9
  have H11 := H10.dup (i := iq + 2) (by exact hq) (bndsA_pers _)
  have H12 : St W w (bndsA bs :: Im 6 (.slice pp6 bs.length cc7) bs.length (bs.flatMap bndCell) :: Im 11 (.slice pp1 l.length cc2) l.length (l.flatMap condCell) :: F) := H11
  refine calls_of_go (n := 19) Try.func18 rfl Try.ntmps18 rfl ?_
  refine g_seq ?_
  refine g_region ?_
  refine r_cons (s_box H12 43 (.agg #[.slice pp6 bs.length cc7]) rfl (cs := #[.slice pp6 bs.length cc7]) rfl rfl ?_); intro bk13 w14 H15
  refine r_cons (s_assign (.bool false) rfl rfl ?_)
  refine r_nil ?_
  refine g_seq ?_
  refine g_seq ?_
  refine g_region ?_
  refine r_cons (s_assign (.int .i64 0) rfl rfl ?_)
  refine r_nil ?_
  refine g_block ?_
  obtain ⟨pA16, cA17, gA18, oA19, kA20, eA21, zA22, he28, hn23, hp24, hx25, hs26, hml, H27⟩ := Im.open_ H15 (i := 3) rfl
  obtain ⟨rfl, rfl⟩ : pp1 = pA16 ∧ cc2 = cA17 := by injection he28 with a_ b_ c_; exact ⟨a_, c_⟩
  have H29 : St W w14 (imi (0 < l.length) gA18 (.cells kA20 eA21 zA22) :: blk bk13 (.cells #[.slice pp6 bs.length cc7] 43 (0, 0)) :: bndsA bs :: Im 6 (.slice pp6 bs.length cc7) bs.length (bs.flatMap bndCell) :: Im 11 (.slice pp1 l.length cc2) l.length (l.flatMap condCell) :: F) := (((((H27.move 4 rfl).move 4 rfl).move 4 rfl).move 4 rfl).move 4 rfl)
  refine g_loop_inv (fun (x_ : Nat) => match x_ with | j => [(0, .slice pp1 l.length cc2), (3, .pointer (some ⟨bk13, 0, none⟩)), (4, .bool false), (5, .int .i64 (j : Int))]) (fun (x_ : Nat) w => match x_ with | j => (j ≤ l.length) ∧ (∀ q, q < j → (!condB (l.getD q default) bs) = false) ∧ St W w (imi (0 < l.length) gA18 (.cells kA20 eA21 zA22) :: blk bk13 (.cells #[.slice pp6 bs.length cc7] 43 (0, 0)) :: bndsA bs :: Im 6 (.slice pp6 bs.length cc7) bs.length (bs.flatMap bndCell) :: Im 11 (.slice pp1 l.length cc2) l.length (l.flatMap condCell) :: F)) (fun (x_ : Nat) => match x_ with | j => l.length - j) (0) ?_ ?_ ?_
  · exact ⟨by first | rfl | exact vint (by omega), by first | rfl | exact vint (by omega), by first | rfl | exact vint (by omega), by first | rfl | exact vint (by omega), trivial⟩
  · exact ⟨(by omega), (fun q hq => by omega), H29⟩
  · rintro j ρ30 w31 ⟨hjn, hz, H32⟩ nx33
    change Ends _ _ (upds ρ30 [(0, .slice pp1 l.length cc2), (3, .pointer (some ⟨bk13, 0, none⟩)), (4, .bool false), (5, .int .i64 (j : Int))]) w31
    refine g_seq ?_
    refine g_seq ?_
    refine g_region ?_
    refine r_cons (s_move (.int .i64 (j : Int)) rfl rfl ?_)
    refine r_cons (s_move (.slice pp1 l.length cc2) rfl rfl ?_)
    refine r_cons (s_len l.length rfl ⟨_, un_28⟩ rfl ?_)
    by_cases hc34 : (j : Int) < (l.length : Int)
    · skip
      refine r_cons (s_lss true rfl rfl (dtrue hc34) rfl ?_)
      refine r_nil ?_
      refine g_true rfl ?_
      refine g_skip ?_
      refine g_seq ?_
      refine g_block ?_
      refine g_seq ?_
      refine g_quiet (fun w' => St W w' (imi (0 < l.length) gA18 (.cells kA20 eA21 zA22) :: blk bk13 (.cells #[.slice pp6 bs.length cc7] 43 (0, 0)) :: bndsA bs :: Im 6 (.slice pp6 bs.length cc7) bs.length (bs.flatMap bndCell) :: Im 11 (.slice pp1 l.length cc2) l.length (l.flatMap condCell) :: F)) mixed (by kernel_rfl) H32.drew ?_
      refine q_cons (q_val rfl rfl rfl (by intro w hw; exact x_move (.slice pp1 l.length cc2) rfl w) ?_)
      refine q_cons (q_val rfl rfl rfl (by intro w hw; exact x_move (.int .i64 (j : Int)) rfl w) ?_)
      refine q_cons (q_val rfl rfl rfl (by intro w hw; exact x_indexAddr gA18 (off := oA19) (j : Int) 11 (oA19 + j * 11) (by exact congrArg (fun z_ => Value.slice z_ l.length cc2) (hp24 (by omega))) rfl el_28 (by omega) rfl w) ?_)
      refine q_cons (q_val rfl rfl rfl (by intro w hw; exact x_loadAgg [.string ((l.getD j default).left.var.v), .string ((l.getD j default).left.attr.v), .int .i64 ((l.getD j default).left.val.kind.v), .int .i64 ((l.getD j default).left.val.n.v), .string ((l.getD j default).left.val.s.v), .int .i64 ((l.getD j default).rel.v), .string ((l.getD j default).right.var.v), .string ((l.getD j default).right.attr.v), .int .i64 ((l.getD j default).right.val.kind.v), .int .i64 ((l.getD j default).right.val.n.v), .string ((l.getD j default).right.val.s.v)] 11 ag_27 rfl (hw.imi_at (i := 0) rfl (by omega)) (by have := elem_size (i := j) (s := 11) (hs26 (by omega)) (by omega); omega) (elem_take condCell_len (hx25 (by omega)) (by omega) default)) ?_)
      refine q_cons (q_val rfl rfl rfl (by intro w hw; exact x_loadAgg [.slice pp6 bs.length cc7] 1 ag_43 rfl (hw.blk_at (i := 1) rfl) (Nat.le_of_ble_eq_true rfl) rfl) ?_)
      refine q_cons (q_enter (args := #[.agg #[.string ((l.getD j default).left.var.v), .string ((l.getD j default).left.attr.v), .int .i64 ((l.getD j default).left.val.kind.v), .int .i64 ((l.getD j default).left.val.n.v), .string ((l.getD j default).left.val.s.v), .int .i64 ((l.getD j default).rel.v), .string ((l.getD j default).right.var.v), .string ((l.getD j default).right.attr.v), .int .i64 ((l.getD j default).right.val.kind.v), .int .i64 ((l.getD j default).right.val.n.v), .string ((l.getD j default).right.val.s.v)], .agg #[.slice pp6 bs.length cc7]]) (v := .bool (condB (l.getD j default) bs)) rfl rfl rfl (x_call pl_16 [.agg #[.string ((l.getD j default).left.var.v), .string ((l.getD j default).left.attr.v), .int .i64 ((l.getD j default).left.val.kind.v), .int .i64 ((l.getD j default).left.val.n.v), .string ((l.getD j default).left.val.s.v), .int .i64 ((l.getD j default).rel.v), .string ((l.getD j default).right.var.v), .string ((l.getD j default).right.attr.v), .int .i64 ((l.getD j default).right.val.kind.v), .int .i64 ((l.getD j default).right.val.n.v), .string ((l.getD j default).right.val.s.v)], .agg #[.slice pp6 bs.length cc7]] rfl) (fun w hw => ref09_Cond (l.getD j default) bs (.slice pp6 bs.length cc7) (ip := 3) rfl (iq := 2) rfl hw) ?_)
      refine q_cons (q_val rfl rfl rfl (by intro w hw; exact x_not (condB (l.getD j default) bs) rfl (!(condB (l.getD j default) bs)) rfl w) ?_)
      refine q_nil ?_
      intro w35 H36
      by_cases hb37 : (!(condB (l.getD j default) bs)) = true
      · skip
        refine g_true (congrArg Value.bool hb37) ?_
        refine g_seq ?_
        refine g_region ?_
        refine r_cons (s_assign (.bool false) rfl rfl ?_)
        refine r_nil ?_
        refine g_ret' [.bool false] Try.func18 Try.results18 ⟨rfl, trivial⟩ ?_
        have H38 : St W w35 F := (((((H36.drop 0 rfl).drop 0 rfl).drop 0 rfl).drop 0 rfl).drop 0 rfl)
        exact ⟨congrArg Value.bool (all_no (any_at (p := fun x : CondV => !condB x bs) hz (by omega) (by rw [hb37]))).symm, H38⟩
      · have hb37 := eq_false_of_ne_true hb37
        refine g_false (congrArg Value.bool hb37) ?_
        refine g_skip ?_
        refine g_inBlock ?_
        refine g_region ?_
        refine r_cons (s_move (.int .i64 (j : Int)) rfl rfl ?_)
        refine r_cons (s_add ((j : Int) + 1) rfl rfl (wi64 (by omega)) rfl ?_)
        refine r_cons (s_assign (.int .i64 ((j : Int) + 1)) rfl rfl ?_)
        refine r_nil ?_
        have H39 : St W w35 (imi (0 < l.length) gA18 (.cells kA20 eA21 zA22) :: blk bk13 (.cells #[.slice pp6 bs.length cc7] 43 (0, 0)) :: bndsA bs :: Im 6 (.slice pp6 bs.length cc7) bs.length (bs.flatMap bndCell) :: Im 11 (.slice pp1 l.length cc2) l.length (l.flatMap condCell) :: F) := (((((H36.move 4 rfl).move 4 rfl).move 4 rfl).move 4 rfl).move 4 rfl)
        exact nx33 (j + 1) _ _ ⟨(by omega), (fun q hq => (Nat.lt_or_ge q j).elim (hz q) (fun h => by rw [show q = j from by omega]; exact by rw [hb37])), H39⟩ (by first | (dsimp only; omega) | omega) ⟨by first | rfl | exact vint (by omega), by first | rfl | exact vint (by omega), by first | rfl | exact vint (by omega), by first | rfl | exact vint (by omega), trivial⟩
    · skip
      refine r_cons (s_lss false rfl rfl (dfalse hc34) rfl ?_)
      refine r_nil ?_
      refine g_false rfl ?_
      refine g_exit (by rfl) ?_
      refine g_seq ?_
      refine g_region ?_
      refine r_cons (s_assign (.bool true) rfl rfl ?_)
      refine r_nil ?_
      refine g_ret' [.bool true] Try.func18 Try.results18 ⟨rfl, trivial⟩ ?_
      have H40 : St W w31 F := (((((H32.drop 0 rfl).drop 0 rfl).drop 0 rfl).drop 0 rfl).drop 0 rfl)
      exact ⟨congrArg Value.bool (all_yes (any_none (p := fun x : CondV => !condB x bs) (fun q hq => hz q (by omega)))).symm, H40⟩
set_option maxHeartbeats 4000000 in
set_option maxRecDepth 100000 in
theorem pred_live {W w : World} {F : List Atom}  (H : St W w F) : Calls Try.prog 8 #[] w (Ret fun v w' => v = .bool true ∧ St W w' F) := by
  refine calls_of_go (n := 33) Try.func8 rfl Try.ntmps8 rfl ?_
  refine g_seq ?_
  refine g_region ?_
  refine r_cons (s_assign (.bool false) rfl rfl ?_)
  refine r_nil ?_
  refine g_seq ?_
  refine g_region ?_
  refine r_cons (s_build (cs := #[.string ByteArray.empty, .string (⟨#[120]⟩), .int .i64 0, .int .i64 0, .string ByteArray.empty]) (by kernel_rfl) rfl ?_)
  refine r_cons (s_build (cs := #[.int .i64 1, .int .i64 3, .string ByteArray.empty]) (by kernel_rfl) rfl ?_)
  refine r_cons (s_build (cs := #[.string ByteArray.empty, .string ByteArray.empty, .int .i64 1, .int .i64 3, .string ByteArray.empty]) (by kernel_rfl) rfl ?_)
  refine r_cons (s_build (cs := #[.string ByteArray.empty, .string (⟨#[120]⟩), .int .i64 0, .int .i64 0, .string ByteArray.empty, .int .i64 5, .string ByteArray.empty, .string ByteArray.empty, .int .i64 1, .int .i64 3, .string ByteArray.empty]) (by kernel_rfl) rfl ?_)
  refine r_cons (s_alloc H 27 ze_27 rfl ?_); intro bk1 w2 H3
  refine r_cons (s_storeAgg H3 0 #[.string ByteArray.empty, .string (⟨#[120]⟩), .int .i64 0, .int .i64 0, .string ByteArray.empty, .int .i64 5, .string ByteArray.empty, .string ByteArray.empty, .int .i64 1, .int .i64 3, .string ByteArray.empty] 11 rfl rfl rfl sz_27 rfl (by simp [Value.oneCell']) (Nat.le_of_ble_eq_true rfl) (fun o h1 h2 => by first | (simp; done) | (simp; omega)) (cs' := #[.string ByteArray.empty, .string (⟨#[120]⟩), .int .i64 0, .int .i64 0, .string ByteArray.empty, .int .i64 5, .string ByteArray.empty, .string ByteArray.empty, .int .i64 1, .int .i64 3, .string ByteArray.empty]) (by kernel_rfl) ?_); intro w4 H5
  refine r_nil ?_
  refine g_seq ?_
  refine g_region ?_
  refine r_cons (s_build (cs := #[.int .i64 1, .int .i64 5, .string ByteArray.empty]) (by kernel_rfl) rfl ?_)
  refine r_cons (s_build (cs := #[.string (⟨#[120]⟩), .int .i64 1, .int .i64 5, .string ByteArray.empty]) (by kernel_rfl) rfl ?_)
  refine r_cons (s_buildSlice H5 4 1 (cs := #[.string (⟨#[120]⟩), .int .i64 1, .int .i64 5, .string ByteArray.empty]) #[.string ByteArray.empty, .int .i64 0, .int .i64 0, .string ByteArray.empty] el_34 ze_65 (by decide) (by decide) (by kernel_rfl) rfl ?_); intro bk6 w7 H8
  refine r_cons (s_build (cs := #[.int .i64 0, .int .i64 0, .int .i64 0, .string (⟨#[65]⟩), .slice (some ⟨bk6, 0, none⟩) 1 1]) (by kernel_rfl) rfl ?_)
  refine r_cons (s_alloc H8 36 ze_36 rfl ?_); intro bk9 w10 H11
  refine r_cons (s_storeAgg H11 0 #[.int .i64 0, .int .i64 0, .int .i64 0, .string (⟨#[65]⟩), .slice (some ⟨bk6, 0, none⟩) 1 1] 5 rfl rfl rfl sz_36 rfl (by simp [Value.oneCell']) (Nat.le_of_ble_eq_true rfl) (fun o h1 h2 => by first | (simp; done) | (simp; omega)) (cs' := #[.int .i64 0, .int .i64 0, .int .i64 0, .string (⟨#[65]⟩), .slice (some ⟨bk6, 0, none⟩) 1 1]) rfl ?_); intro w12 H13
  refine r_nil ?_
  refine g_seq ?_
  refine g_region ?_
  refine r_cons (s_loadAgg [.string ByteArray.empty, .string (⟨#[120]⟩), .int .i64 0, .int .i64 0, .string ByteArray.empty, .int .i64 5, .string ByteArray.empty, .string ByteArray.empty, .int .i64 1, .int .i64 3, .string ByteArray.empty] 11 ag_27 rfl (H13.blk_at (i := 2) rfl) (Nat.le_of_ble_eq_true rfl) rfl rfl ?_)
  refine r_cons (s_loadAgg [.int .i64 0, .int .i64 0, .int .i64 0, .string (⟨#[65]⟩), .slice (some ⟨bk6, 0, none⟩) 1 1] 5 ag_36 rfl (H13.blk_at (i := 0) rfl) (Nat.le_of_ble_eq_true rfl) rfl rfl ?_)
  have H14 := Row.cut (n := 0) (m := 1) (c := 1) (size := 4) (xs := [.string (⟨#[120]⟩), .int .i64 1, .int .i64 5, .string ByteArray.empty]) H13 (i := 1) rfl (by decide) (by decide +kernel) rfl rfl (by simp [Value.oneCell'])
  have H15 : St W w12 (blk bk9 (.cells #[.int .i64 0, .int .i64 0, .int .i64 0, .string (⟨#[65]⟩), .slice (some ⟨bk6, 0, none⟩) 1 1] 36 (0, 0)) :: Row 65 4 (.slice (some ⟨bk6, 0, none⟩) 1 1) 1 [.string (⟨#[120]⟩), .int .i64 1, .int .i64 5, .string ByteArray.empty] :: blk bk1 (.cells #[.string ByteArray.empty, .string (⟨#[120]⟩), .int .i64 0, .int .i64 0, .string ByteArray.empty, .int .i64 5, .string ByteArray.empty, .string ByteArray.empty, .int .i64 1, .int .i64 3, .string ByteArray.empty] 27 (0, 0)) :: F) := H14
  have H16 : St W w12 (blk bk9 (.cells #[.int .i64 0, .int .i64 0, .int .i64 0, .string (⟨#[65]⟩), .slice (some ⟨bk6, 0, none⟩) 1 1] 36 (0, 0)) :: Attrs (.slice (some ⟨bk6, 0, none⟩) 1 1) [(⟨(⟨⟨#[120]⟩, by decide⟩ : Str), (⟨1, by decide, by decide⟩ : I64), (⟨5, by decide, by decide⟩ : I64), Str.none⟩ : AttrV)] :: blk bk1 (.cells #[.string ByteArray.empty, .string (⟨#[120]⟩), .int .i64 0, .int .i64 0, .string ByteArray.empty, .int .i64 5, .string ByteArray.empty, .string ByteArray.empty, .int .i64 1, .int .i64 3, .string ByteArray.empty] 27 (0, 0)) :: F) := Row.im H15 (i := 1) rfl
  refine r_cons (s_call [.agg #[.string ByteArray.empty, .string (⟨#[120]⟩), .int .i64 0, .int .i64 0, .string ByteArray.empty, .int .i64 5, .string ByteArray.empty, .string ByteArray.empty, .int .i64 1, .int .i64 3, .string ByteArray.empty], .agg #[.int .i64 0, .int .i64 0, .int .i64 0, .string (⟨#[65]⟩), .slice (some ⟨bk6, 0, none⟩) 1 1]] pl_9 rfl rfl (pred_Test (⟨(⟨Str.none, (⟨⟨#[120]⟩, by decide⟩ : Str), (⟨(⟨0, by decide, by decide⟩ : I64), (⟨0, by decide, by decide⟩ : I64), Str.none⟩ : ValV)⟩ : OpdV), (⟨5, by decide, by decide⟩ : I64), (⟨Str.none, Str.none, (⟨(⟨1, by decide, by decide⟩ : I64), (⟨3, by decide, by decide⟩ : I64), Str.none⟩ : ValV)⟩ : OpdV)⟩ : CondV) (⟨(⟨0, by decide, by decide⟩ : I64), (⟨0, by decide, by decide⟩ : I64), (⟨0, by decide, by decide⟩ : I64), (⟨⟨#[65]⟩, by decide⟩ : Str), [(⟨(⟨⟨#[120]⟩, by decide⟩ : Str), (⟨1, by decide, by decide⟩ : I64), (⟨5, by decide, by decide⟩ : I64), Str.none⟩ : AttrV)]⟩ : EvM) (.slice (some ⟨bk6, 0, none⟩) 1 1) (j := 1) rfl H16) ?_)
  rintro _ w17 ⟨rfl, H18⟩
  refine r_cons (s_move (.bool (testB (⟨(⟨Str.none, (⟨⟨#[120]⟩, by decide⟩ : Str), (⟨(⟨0, by decide, by decide⟩ : I64), (⟨0, by decide, by decide⟩ : I64), Str.none⟩ : ValV)⟩ : OpdV), (⟨5, by decide, by decide⟩ : I64), (⟨Str.none, Str.none, (⟨(⟨1, by decide, by decide⟩ : I64), (⟨3, by decide, by decide⟩ : I64), Str.none⟩ : ValV)⟩ : OpdV)⟩ : CondV) (⟨(⟨0, by decide, by decide⟩ : I64), (⟨0, by decide, by decide⟩ : I64), (⟨0, by decide, by decide⟩ : I64), (⟨⟨#[65]⟩, by decide⟩ : Str), [(⟨(⟨⟨#[120]⟩, by decide⟩ : Str), (⟨1, by decide, by decide⟩ : I64), (⟨5, by decide, by decide⟩ : I64), Str.none⟩ : AttrV)]⟩ : EvM).attrs)) rfl rfl ?_)
  refine r_cons (r_take rfl (congrArg some (show (testB (⟨(⟨Str.none, (⟨⟨#[120]⟩, by decide⟩ : Str), (⟨(⟨0, by decide, by decide⟩ : I64), (⟨0, by decide, by decide⟩ : I64), Str.none⟩ : ValV)⟩ : OpdV), (⟨5, by decide, by decide⟩ : I64), (⟨Str.none, Str.none, (⟨(⟨1, by decide, by decide⟩ : I64), (⟨3, by decide, by decide⟩ : I64), Str.none⟩ : ValV)⟩ : OpdV)⟩ : CondV) (⟨(⟨0, by decide, by decide⟩ : I64), (⟨0, by decide, by decide⟩ : I64), (⟨0, by decide, by decide⟩ : I64), (⟨⟨#[65]⟩, by decide⟩ : Str), [(⟨(⟨⟨#[120]⟩, by decide⟩ : Str), (⟨1, by decide, by decide⟩ : I64), (⟨5, by decide, by decide⟩ : I64), Str.none⟩ : AttrV)]⟩ : EvM).attrs) = true from by decide +kernel)) ?_)
  refine s_loadAgg [.string ByteArray.empty, .string (⟨#[120]⟩), .int .i64 0, .int .i64 0, .string ByteArray.empty, .int .i64 5, .string ByteArray.empty, .string ByteArray.empty, .int .i64 1, .int .i64 3, .string ByteArray.empty] 11 ag_27 rfl (H18.blk_at (i := 2) rfl) (Nat.le_of_ble_eq_true rfl) rfl rfl ?_
  refine r_cons (r_take rfl (congrArg some (show (testB (⟨(⟨Str.none, (⟨⟨#[120]⟩, by decide⟩ : Str), (⟨(⟨0, by decide, by decide⟩ : I64), (⟨0, by decide, by decide⟩ : I64), Str.none⟩ : ValV)⟩ : OpdV), (⟨5, by decide, by decide⟩ : I64), (⟨Str.none, Str.none, (⟨(⟨1, by decide, by decide⟩ : I64), (⟨3, by decide, by decide⟩ : I64), Str.none⟩ : ValV)⟩ : OpdV)⟩ : CondV) (⟨(⟨0, by decide, by decide⟩ : I64), (⟨0, by decide, by decide⟩ : I64), (⟨0, by decide, by decide⟩ : I64), (⟨⟨#[65]⟩, by decide⟩ : Str), [(⟨(⟨⟨#[120]⟩, by decide⟩ : Str), (⟨1, by decide, by decide⟩ : I64), (⟨5, by decide, by decide⟩ : I64), Str.none⟩ : AttrV)]⟩ : EvM).attrs) = true from by decide +kernel)) ?_)
  refine s_build (cs := #[.int .i64 0, .int .i64 0, .int .i64 0, .string ByteArray.empty, .slice none 0 0]) (by kernel_rfl) rfl ?_
  refine r_cons (r_take rfl (congrArg some (show (testB (⟨(⟨Str.none, (⟨⟨#[120]⟩, by decide⟩ : Str), (⟨(⟨0, by decide, by decide⟩ : I64), (⟨0, by decide, by decide⟩ : I64), Str.none⟩ : ValV)⟩ : OpdV), (⟨5, by decide, by decide⟩ : I64), (⟨Str.none, Str.none, (⟨(⟨1, by decide, by decide⟩ : I64), (⟨3, by decide, by decide⟩ : I64), Str.none⟩ : ValV)⟩ : OpdV)⟩ : CondV) (⟨(⟨0, by decide, by decide⟩ : I64), (⟨0, by decide, by decide⟩ : I64), (⟨0, by decide, by decide⟩ : I64), (⟨⟨#[65]⟩, by decide⟩ : Str), [(⟨(⟨⟨#[120]⟩, by decide⟩ : Str), (⟨1, by decide, by decide⟩ : I64), (⟨5, by decide, by decide⟩ : I64), Str.none⟩ : AttrV)]⟩ : EvM).attrs) = true from by decide +kernel)) ?_)
  have H19 : St W w17 (Attrs (.slice none 0 0) [] :: blk bk9 (.cells #[.int .i64 0, .int .i64 0, .int .i64 0, .string (⟨#[65]⟩), .slice (some ⟨bk6, 0, none⟩) 1 1] 36 (0, 0)) :: Attrs (.slice (some ⟨bk6, 0, none⟩) 1 1) [(⟨(⟨⟨#[120]⟩, by decide⟩ : Str), (⟨1, by decide, by decide⟩ : I64), (⟨5, by decide, by decide⟩ : I64), Str.none⟩ : AttrV)] :: blk bk1 (.cells #[.string ByteArray.empty, .string (⟨#[120]⟩), .int .i64 0, .int .i64 0, .string ByteArray.empty, .int .i64 5, .string ByteArray.empty, .string ByteArray.empty, .int .i64 1, .int .i64 3, .string ByteArray.empty] 27 (0, 0)) :: F) := Row.im (Row.nil_intro H18 65 4) (i := 0) rfl
  refine s_call [.agg #[.string ByteArray.empty, .string (⟨#[120]⟩), .int .i64 0, .int .i64 0, .string ByteArray.empty, .int .i64 5, .string ByteArray.empty, .string ByteArray.empty, .int .i64 1, .int .i64 3, .string ByteArray.empty], .agg #[.int .i64 0, .int .i64 0, .int .i64 0, .string ByteArray.empty, .slice none 0 0]] pl_9 rfl rfl (pred_Test (⟨(⟨Str.none, (⟨⟨#[120]⟩, by decide⟩ : Str), (⟨(⟨0, by decide, by decide⟩ : I64), (⟨0, by decide, by decide⟩ : I64), Str.none⟩ : ValV)⟩ : OpdV), (⟨5, by decide, by decide⟩ : I64), (⟨Str.none, Str.none, (⟨(⟨1, by decide, by decide⟩ : I64), (⟨3, by decide, by decide⟩ : I64), Str.none⟩ : ValV)⟩ : OpdV)⟩ : CondV) (⟨(⟨0, by decide, by decide⟩ : I64), (⟨0, by decide, by decide⟩ : I64), (⟨0, by decide, by decide⟩ : I64), Str.none, []⟩ : EvM) (.slice none 0 0) (j := 0) rfl H19) ?_
  rintro _ w20 ⟨rfl, H21⟩
  refine r_cons (r_take rfl (congrArg some (show (testB (⟨(⟨Str.none, (⟨⟨#[120]⟩, by decide⟩ : Str), (⟨(⟨0, by decide, by decide⟩ : I64), (⟨0, by decide, by decide⟩ : I64), Str.none⟩ : ValV)⟩ : OpdV), (⟨5, by decide, by decide⟩ : I64), (⟨Str.none, Str.none, (⟨(⟨1, by decide, by decide⟩ : I64), (⟨3, by decide, by decide⟩ : I64), Str.none⟩ : ValV)⟩ : OpdV)⟩ : CondV) (⟨(⟨0, by decide, by decide⟩ : I64), (⟨0, by decide, by decide⟩ : I64), (⟨0, by decide, by decide⟩ : I64), (⟨⟨#[65]⟩, by decide⟩ : Str), [(⟨(⟨⟨#[120]⟩, by decide⟩ : Str), (⟨1, by decide, by decide⟩ : I64), (⟨5, by decide, by decide⟩ : I64), Str.none⟩ : AttrV)]⟩ : EvM).attrs) = true from by decide +kernel)) ?_)
  refine s_not (testB (⟨(⟨Str.none, (⟨⟨#[120]⟩, by decide⟩ : Str), (⟨(⟨0, by decide, by decide⟩ : I64), (⟨0, by decide, by decide⟩ : I64), Str.none⟩ : ValV)⟩ : OpdV), (⟨5, by decide, by decide⟩ : I64), (⟨Str.none, Str.none, (⟨(⟨1, by decide, by decide⟩ : I64), (⟨3, by decide, by decide⟩ : I64), Str.none⟩ : ValV)⟩ : OpdV)⟩ : CondV) (⟨(⟨0, by decide, by decide⟩ : I64), (⟨0, by decide, by decide⟩ : I64), (⟨0, by decide, by decide⟩ : I64), Str.none, []⟩ : EvM).attrs) rfl true (by rw [(show (testB (⟨(⟨Str.none, (⟨⟨#[120]⟩, by decide⟩ : Str), (⟨(⟨0, by decide, by decide⟩ : I64), (⟨0, by decide, by decide⟩ : I64), Str.none⟩ : ValV)⟩ : OpdV), (⟨5, by decide, by decide⟩ : I64), (⟨Str.none, Str.none, (⟨(⟨1, by decide, by decide⟩ : I64), (⟨3, by decide, by decide⟩ : I64), Str.none⟩ : ValV)⟩ : OpdV)⟩ : CondV) (⟨(⟨0, by decide, by decide⟩ : I64), (⟨0, by decide, by decide⟩ : I64), (⟨0, by decide, by decide⟩ : I64), Str.none, []⟩ : EvM).attrs) = false from by decide +kernel)]; rfl) rfl ?_
  refine r_cons (s_pick_t (.bool true) (by exact congrArg Value.bool (show (testB (⟨(⟨Str.none, (⟨⟨#[120]⟩, by decide⟩ : Str), (⟨(⟨0, by decide, by decide⟩ : I64), (⟨0, by decide, by decide⟩ : I64), Str.none⟩ : ValV)⟩ : OpdV), (⟨5, by decide, by decide⟩ : I64), (⟨Str.none, Str.none, (⟨(⟨1, by decide, by decide⟩ : I64), (⟨3, by decide, by decide⟩ : I64), Str.none⟩ : ValV)⟩ : OpdV)⟩ : CondV) (⟨(⟨0, by decide, by decide⟩ : I64), (⟨0, by decide, by decide⟩ : I64), (⟨0, by decide, by decide⟩ : I64), (⟨⟨#[65]⟩, by decide⟩ : Str), [(⟨(⟨⟨#[120]⟩, by decide⟩ : Str), (⟨1, by decide, by decide⟩ : I64), (⟨5, by decide, by decide⟩ : I64), Str.none⟩ : AttrV)]⟩ : EvM).attrs) = true from by decide +kernel)) rfl rfl ?_)
  refine r_cons (s_move (.bool true) rfl rfl ?_)
  refine r_cons (r_take rfl rfl ?_)
  refine s_loadAgg [.string ByteArray.empty, .string (⟨#[120]⟩), .int .i64 0, .int .i64 0, .string ByteArray.empty, .int .i64 5, .string ByteArray.empty, .string ByteArray.empty, .int .i64 1, .int .i64 3, .string ByteArray.empty] 11 ag_27 rfl (H21.blk_at (i := 3) rfl) (Nat.le_of_ble_eq_true rfl) rfl rfl ?_
  refine r_cons (r_take rfl rfl ?_)
  refine s_buildSlice H21 11 1 (cs := #[.string ByteArray.empty, .string (⟨#[120]⟩), .int .i64 0, .int .i64 0, .string ByteArray.empty, .int .i64 5, .string ByteArray.empty, .string ByteArray.empty, .int .i64 1, .int .i64 3, .string ByteArray.empty]) #[.string ByteArray.empty, .string ByteArray.empty, .int .i64 0, .int .i64 0, .string ByteArray.empty, .int .i64 0, .string ByteArray.empty, .string ByteArray.empty, .int .i64 0, .int .i64 0, .string ByteArray.empty] el_28 ze_27 (by decide) (by decide) (by kernel_rfl) rfl ?_; intro bk22 w23 H24
  refine r_cons (r_take rfl rfl ?_)
  refine s_build (cs := #[.int .i64 1, .string ByteArray.empty, .string (⟨#[65]⟩), .slice (some ⟨bk22, 0, none⟩) 1 1, .slice none 0 0]) (by kernel_rfl) rfl ?_
  refine r_cons (r_take rfl rfl ?_)
  refine s_loadAgg [.int .i64 0, .int .i64 0, .int .i64 0, .string (⟨#[65]⟩), .slice (some ⟨bk6, 0, none⟩) 1 1] 5 ag_36 rfl (H24.blk_at (i := 2) rfl) (Nat.le_of_ble_eq_true rfl) rfl rfl ?_
  refine r_cons (r_take rfl rfl ?_)
  have H25 := Row.cut (n := 0) (m := 1) (c := 1) (size := 11) (xs := [.string ByteArray.empty, .string (⟨#[120]⟩), .int .i64 0, .int .i64 0, .string ByteArray.empty, .int .i64 5, .string ByteArray.empty, .string ByteArray.empty, .int .i64 1, .int .i64 3, .string ByteArray.empty]) H24 (i := 0) rfl (by decide) (by decide +kernel) rfl rfl (by simp [Value.oneCell'])
  have H26 : St W w23 (Row 27 11 (.slice (some ⟨bk22, 0, none⟩) 1 1) 1 [.string ByteArray.empty, .string (⟨#[120]⟩), .int .i64 0, .int .i64 0, .string ByteArray.empty, .int .i64 5, .string ByteArray.empty, .string ByteArray.empty, .int .i64 1, .int .i64 3, .string ByteArray.empty] :: Attrs (.slice none 0 0) [] :: blk bk9 (.cells #[.int .i64 0, .int .i64 0, .int .i64 0, .string (⟨#[65]⟩), .slice (some ⟨bk6, 0, none⟩) 1 1] 36 (0, 0)) :: Attrs (.slice (some ⟨bk6, 0, none⟩) 1 1) [(⟨(⟨⟨#[120]⟩, by decide⟩ : Str), (⟨1, by decide, by decide⟩ : I64), (⟨5, by decide, by decide⟩ : I64), Str.none⟩ : AttrV)] :: blk bk1 (.cells #[.string ByteArray.empty, .string (⟨#[120]⟩), .int .i64 0, .int .i64 0, .string ByteArray.empty, .int .i64 5, .string ByteArray.empty, .string ByteArray.empty, .int .i64 1, .int .i64 3, .string ByteArray.empty] 27 (0, 0)) :: F) := H25
  have H27 : St W w23 (Im 11 (.slice (some ⟨bk22, 0, none⟩) 1 1) 1 ([(⟨(⟨Str.none, (⟨⟨#[120]⟩, by decide⟩ : Str), (⟨(⟨0, by decide, by decide⟩ : I64), (⟨0, by decide, by decide⟩ : I64), Str.none⟩ : ValV)⟩ : OpdV), (⟨5, by decide, by decide⟩ : I64), (⟨Str.none, Str.none, (⟨(⟨1, by decide, by decide⟩ : I64), (⟨3, by decide, by decide⟩ : I64), Str.none⟩ : ValV)⟩ : OpdV)⟩ : CondV)].flatMap condCell) :: Attrs (.slice none 0 0) [] :: blk bk9 (.cells #[.int .i64 0, .int .i64 0, .int .i64 0, .string (⟨#[65]⟩), .slice (some ⟨bk6, 0, none⟩) 1 1] 36 (0, 0)) :: Attrs (.slice (some ⟨bk6, 0, none⟩) 1 1) [(⟨(⟨⟨#[120]⟩, by decide⟩ : Str), (⟨1, by decide, by decide⟩ : I64), (⟨5, by decide, by decide⟩ : I64), Str.none⟩ : AttrV)] :: blk bk1 (.cells #[.string ByteArray.empty, .string (⟨#[120]⟩), .int .i64 0, .int .i64 0, .string ByteArray.empty, .int .i64 5, .string ByteArray.empty, .string ByteArray.empty, .int .i64 1, .int .i64 3, .string ByteArray.empty] 27 (0, 0)) :: F) := Row.im H26 (i := 0) rfl
  refine s_call [.agg #[.int .i64 1, .string ByteArray.empty, .string (⟨#[65]⟩), .slice (some ⟨bk22, 0, none⟩) 1 1, .slice none 0 0], .agg #[.int .i64 0, .int .i64 0, .int .i64 0, .string (⟨#[65]⟩), .slice (some ⟨bk6, 0, none⟩) 1 1]] pl_11 rfl rfl (pred_Term 1 ByteArray.empty (⟨#[65]⟩) (some ⟨bk22, 0, none⟩) 1 [(⟨(⟨Str.none, (⟨⟨#[120]⟩, by decide⟩ : Str), (⟨(⟨0, by decide, by decide⟩ : I64), (⟨0, by decide, by decide⟩ : I64), Str.none⟩ : ValV)⟩ : OpdV), (⟨5, by decide, by decide⟩ : I64), (⟨Str.none, Str.none, (⟨(⟨1, by decide, by decide⟩ : I64), (⟨3, by decide, by decide⟩ : I64), Str.none⟩ : ValV)⟩ : OpdV)⟩ : CondV)] (.slice none 0 0) (⟨(⟨0, by decide, by decide⟩ : I64), (⟨0, by decide, by decide⟩ : I64), (⟨0, by decide, by decide⟩ : I64), (⟨⟨#[65]⟩, by decide⟩ : Str), [(⟨(⟨⟨#[120]⟩, by decide⟩ : Str), (⟨1, by decide, by decide⟩ : I64), (⟨5, by decide, by decide⟩ : I64), Str.none⟩ : AttrV)]⟩ : EvM) (.slice (some ⟨bk6, 0, none⟩) 1 1) (m := 0) rfl (j := 3) rfl H27) ?_
  rintro _ w28 ⟨rfl, H29⟩
  refine r_cons (s_pick_t (.bool (termB 1 (⟨#[65]⟩) [(⟨(⟨Str.none, (⟨⟨#[120]⟩, by decide⟩ : Str), (⟨(⟨0, by decide, by decide⟩ : I64), (⟨0, by decide, by decide⟩ : I64), Str.none⟩ : ValV)⟩ : OpdV), (⟨5, by decide, by decide⟩ : I64), (⟨Str.none, Str.none, (⟨(⟨1, by decide, by decide⟩ : I64), (⟨3, by decide, by decide⟩ : I64), Str.none⟩ : ValV)⟩ : OpdV)⟩ : CondV)] (⟨(⟨0, by decide, by decide⟩ : I64), (⟨0, by decide, by decide⟩ : I64), (⟨0, by decide, by decide⟩ : I64), (⟨⟨#[65]⟩, by decide⟩ : Str), [(⟨(⟨⟨#[120]⟩, by decide⟩ : Str), (⟨1, by decide, by decide⟩ : I64), (⟨5, by decide, by decide⟩ : I64), Str.none⟩ : AttrV)]⟩ : EvM))) rfl rfl rfl ?_)
  refine r_cons (s_move (.bool (termB 1 (⟨#[65]⟩) [(⟨(⟨Str.none, (⟨⟨#[120]⟩, by decide⟩ : Str), (⟨(⟨0, by decide, by decide⟩ : I64), (⟨0, by decide, by decide⟩ : I64), Str.none⟩ : ValV)⟩ : OpdV), (⟨5, by decide, by decide⟩ : I64), (⟨Str.none, Str.none, (⟨(⟨1, by decide, by decide⟩ : I64), (⟨3, by decide, by decide⟩ : I64), Str.none⟩ : ValV)⟩ : OpdV)⟩ : CondV)] (⟨(⟨0, by decide, by decide⟩ : I64), (⟨0, by decide, by decide⟩ : I64), (⟨0, by decide, by decide⟩ : I64), (⟨⟨#[65]⟩, by decide⟩ : Str), [(⟨(⟨⟨#[120]⟩, by decide⟩ : Str), (⟨1, by decide, by decide⟩ : I64), (⟨5, by decide, by decide⟩ : I64), Str.none⟩ : AttrV)]⟩ : EvM))) rfl rfl ?_)
  refine r_cons (r_take rfl (congrArg some (show (termB 1 (⟨#[65]⟩) [(⟨(⟨Str.none, (⟨⟨#[120]⟩, by decide⟩ : Str), (⟨(⟨0, by decide, by decide⟩ : I64), (⟨0, by decide, by decide⟩ : I64), Str.none⟩ : ValV)⟩ : OpdV), (⟨5, by decide, by decide⟩ : I64), (⟨Str.none, Str.none, (⟨(⟨1, by decide, by decide⟩ : I64), (⟨3, by decide, by decide⟩ : I64), Str.none⟩ : ValV)⟩ : OpdV)⟩ : CondV)] (⟨(⟨0, by decide, by decide⟩ : I64), (⟨0, by decide, by decide⟩ : I64), (⟨0, by decide, by decide⟩ : I64), (⟨⟨#[65]⟩, by decide⟩ : Str), [(⟨(⟨⟨#[120]⟩, by decide⟩ : Str), (⟨1, by decide, by decide⟩ : I64), (⟨5, by decide, by decide⟩ : I64), Str.none⟩ : AttrV)]⟩ : EvM)) = true from by decide +kernel)) ?_)
  refine s_loadAgg [.string ByteArray.empty, .string (⟨#[120]⟩), .int .i64 0, .int .i64 0, .string ByteArray.empty, .int .i64 5, .string ByteArray.empty, .string ByteArray.empty, .int .i64 1, .int .i64 3, .string ByteArray.empty] 11 ag_27 rfl (H29.blk_at (i := 4) rfl) (Nat.le_of_ble_eq_true rfl) rfl rfl ?_
  refine r_cons (r_take rfl (congrArg some (show (termB 1 (⟨#[65]⟩) [(⟨(⟨Str.none, (⟨⟨#[120]⟩, by decide⟩ : Str), (⟨(⟨0, by decide, by decide⟩ : I64), (⟨0, by decide, by decide⟩ : I64), Str.none⟩ : ValV)⟩ : OpdV), (⟨5, by decide, by decide⟩ : I64), (⟨Str.none, Str.none, (⟨(⟨1, by decide, by decide⟩ : I64), (⟨3, by decide, by decide⟩ : I64), Str.none⟩ : ValV)⟩ : OpdV)⟩ : CondV)] (⟨(⟨0, by decide, by decide⟩ : I64), (⟨0, by decide, by decide⟩ : I64), (⟨0, by decide, by decide⟩ : I64), (⟨⟨#[65]⟩, by decide⟩ : Str), [(⟨(⟨⟨#[120]⟩, by decide⟩ : Str), (⟨1, by decide, by decide⟩ : I64), (⟨5, by decide, by decide⟩ : I64), Str.none⟩ : AttrV)]⟩ : EvM)) = true from by decide +kernel)) ?_)
  refine s_call [.agg #[.string ByteArray.empty, .string (⟨#[120]⟩), .int .i64 0, .int .i64 0, .string ByteArray.empty, .int .i64 5, .string ByteArray.empty, .string ByteArray.empty, .int .i64 1, .int .i64 3, .string ByteArray.empty]] pl_20 rfl rfl (pred_Names (⟨(⟨Str.none, (⟨⟨#[120]⟩, by decide⟩ : Str), (⟨(⟨0, by decide, by decide⟩ : I64), (⟨0, by decide, by decide⟩ : I64), Str.none⟩ : ValV)⟩ : OpdV), (⟨5, by decide, by decide⟩ : I64), (⟨Str.none, Str.none, (⟨(⟨1, by decide, by decide⟩ : I64), (⟨3, by decide, by decide⟩ : I64), Str.none⟩ : ValV)⟩ : OpdV)⟩ : CondV) H29) ?_
  rintro _ w32 ⟨pp30, cc31, rfl, H33⟩
  refine r_cons (r_take rfl (congrArg some (show (termB 1 (⟨#[65]⟩) [(⟨(⟨Str.none, (⟨⟨#[120]⟩, by decide⟩ : Str), (⟨(⟨0, by decide, by decide⟩ : I64), (⟨0, by decide, by decide⟩ : I64), Str.none⟩ : ValV)⟩ : OpdV), (⟨5, by decide, by decide⟩ : I64), (⟨Str.none, Str.none, (⟨(⟨1, by decide, by decide⟩ : I64), (⟨3, by decide, by decide⟩ : I64), Str.none⟩ : ValV)⟩ : OpdV)⟩ : CondV)] (⟨(⟨0, by decide, by decide⟩ : I64), (⟨0, by decide, by decide⟩ : I64), (⟨0, by decide, by decide⟩ : I64), (⟨⟨#[65]⟩, by decide⟩ : Str), [(⟨(⟨⟨#[120]⟩, by decide⟩ : Str), (⟨1, by decide, by decide⟩ : I64), (⟨5, by decide, by decide⟩ : I64), Str.none⟩ : AttrV)]⟩ : EvM)) = true from by decide +kernel)) ?_)
  refine s_buildSlice H33 1 1 (cs := #[.string ByteArray.empty]) #[.string ByteArray.empty] el_49 ze_9 (by decide) (by decide) (by kernel_rfl) rfl ?_; intro bk34 w35 H36
  refine r_cons (r_take rfl (congrArg some (show (termB 1 (⟨#[65]⟩) [(⟨(⟨Str.none, (⟨⟨#[120]⟩, by decide⟩ : Str), (⟨(⟨0, by decide, by decide⟩ : I64), (⟨0, by decide, by decide⟩ : I64), Str.none⟩ : ValV)⟩ : OpdV), (⟨5, by decide, by decide⟩ : I64), (⟨Str.none, Str.none, (⟨(⟨1, by decide, by decide⟩ : I64), (⟨3, by decide, by decide⟩ : I64), Str.none⟩ : ValV)⟩ : OpdV)⟩ : CondV)] (⟨(⟨0, by decide, by decide⟩ : I64), (⟨0, by decide, by decide⟩ : I64), (⟨0, by decide, by decide⟩ : I64), (⟨⟨#[65]⟩, by decide⟩ : Str), [(⟨(⟨⟨#[120]⟩, by decide⟩ : Str), (⟨1, by decide, by decide⟩ : I64), (⟨5, by decide, by decide⟩ : I64), Str.none⟩ : AttrV)]⟩ : EvM)) = true from by decide +kernel)) ?_)
  have H37 := Row.cut (n := 0) (m := 1) (c := 1) (size := 1) (xs := [.string ByteArray.empty]) H36 (i := 0) rfl (by decide) (by decide +kernel) rfl rfl (by simp [Value.oneCell'])
  have H38 : St W w35 (Row 9 1 (.slice (some ⟨bk34, 0, none⟩) 1 1) 1 [.string ByteArray.empty] :: Im 1 (.slice pp30 ((namesV (⟨(⟨Str.none, (⟨⟨#[120]⟩, by decide⟩ : Str), (⟨(⟨0, by decide, by decide⟩ : I64), (⟨0, by decide, by decide⟩ : I64), Str.none⟩ : ValV)⟩ : OpdV), (⟨5, by decide, by decide⟩ : I64), (⟨Str.none, Str.none, (⟨(⟨1, by decide, by decide⟩ : I64), (⟨3, by decide, by decide⟩ : I64), Str.none⟩ : ValV)⟩ : OpdV)⟩ : CondV)).length) cc31) ((namesV (⟨(⟨Str.none, (⟨⟨#[120]⟩, by decide⟩ : Str), (⟨(⟨0, by decide, by decide⟩ : I64), (⟨0, by decide, by decide⟩ : I64), Str.none⟩ : ValV)⟩ : OpdV), (⟨5, by decide, by decide⟩ : I64), (⟨Str.none, Str.none, (⟨(⟨1, by decide, by decide⟩ : I64), (⟨3, by decide, by decide⟩ : I64), Str.none⟩ : ValV)⟩ : OpdV)⟩ : CondV)).length) ((namesV (⟨(⟨Str.none, (⟨⟨#[120]⟩, by decide⟩ : Str), (⟨(⟨0, by decide, by decide⟩ : I64), (⟨0, by decide, by decide⟩ : I64), Str.none⟩ : ValV)⟩ : OpdV), (⟨5, by decide, by decide⟩ : I64), (⟨Str.none, Str.none, (⟨(⟨1, by decide, by decide⟩ : I64), (⟨3, by decide, by decide⟩ : I64), Str.none⟩ : ValV)⟩ : OpdV)⟩ : CondV)).flatMap strCell) :: Im 11 (.slice (some ⟨bk22, 0, none⟩) 1 1) 1 ([(⟨(⟨Str.none, (⟨⟨#[120]⟩, by decide⟩ : Str), (⟨(⟨0, by decide, by decide⟩ : I64), (⟨0, by decide, by decide⟩ : I64), Str.none⟩ : ValV)⟩ : OpdV), (⟨5, by decide, by decide⟩ : I64), (⟨Str.none, Str.none, (⟨(⟨1, by decide, by decide⟩ : I64), (⟨3, by decide, by decide⟩ : I64), Str.none⟩ : ValV)⟩ : OpdV)⟩ : CondV)].flatMap condCell) :: Attrs (.slice none 0 0) [] :: blk bk9 (.cells #[.int .i64 0, .int .i64 0, .int .i64 0, .string (⟨#[65]⟩), .slice (some ⟨bk6, 0, none⟩) 1 1] 36 (0, 0)) :: Attrs (.slice (some ⟨bk6, 0, none⟩) 1 1) [(⟨(⟨⟨#[120]⟩, by decide⟩ : Str), (⟨1, by decide, by decide⟩ : I64), (⟨5, by decide, by decide⟩ : I64), Str.none⟩ : AttrV)] :: blk bk1 (.cells #[.string ByteArray.empty, .string (⟨#[120]⟩), .int .i64 0, .int .i64 0, .string ByteArray.empty, .int .i64 5, .string ByteArray.empty, .string ByteArray.empty, .int .i64 1, .int .i64 3, .string ByteArray.empty] 27 (0, 0)) :: F) := H37
  have H39 : St W w35 (Im 1 (.slice (some ⟨bk34, 0, none⟩) 1 1) 1 ([Str.none].flatMap strCell) :: Im 1 (.slice pp30 ((namesV (⟨(⟨Str.none, (⟨⟨#[120]⟩, by decide⟩ : Str), (⟨(⟨0, by decide, by decide⟩ : I64), (⟨0, by decide, by decide⟩ : I64), Str.none⟩ : ValV)⟩ : OpdV), (⟨5, by decide, by decide⟩ : I64), (⟨Str.none, Str.none, (⟨(⟨1, by decide, by decide⟩ : I64), (⟨3, by decide, by decide⟩ : I64), Str.none⟩ : ValV)⟩ : OpdV)⟩ : CondV)).length) cc31) ((namesV (⟨(⟨Str.none, (⟨⟨#[120]⟩, by decide⟩ : Str), (⟨(⟨0, by decide, by decide⟩ : I64), (⟨0, by decide, by decide⟩ : I64), Str.none⟩ : ValV)⟩ : OpdV), (⟨5, by decide, by decide⟩ : I64), (⟨Str.none, Str.none, (⟨(⟨1, by decide, by decide⟩ : I64), (⟨3, by decide, by decide⟩ : I64), Str.none⟩ : ValV)⟩ : OpdV)⟩ : CondV)).length) ((namesV (⟨(⟨Str.none, (⟨⟨#[120]⟩, by decide⟩ : Str), (⟨(⟨0, by decide, by decide⟩ : I64), (⟨0, by decide, by decide⟩ : I64), Str.none⟩ : ValV)⟩ : OpdV), (⟨5, by decide, by decide⟩ : I64), (⟨Str.none, Str.none, (⟨(⟨1, by decide, by decide⟩ : I64), (⟨3, by decide, by decide⟩ : I64), Str.none⟩ : ValV)⟩ : OpdV)⟩ : CondV)).flatMap strCell) :: Im 11 (.slice (some ⟨bk22, 0, none⟩) 1 1) 1 ([(⟨(⟨Str.none, (⟨⟨#[120]⟩, by decide⟩ : Str), (⟨(⟨0, by decide, by decide⟩ : I64), (⟨0, by decide, by decide⟩ : I64), Str.none⟩ : ValV)⟩ : OpdV), (⟨5, by decide, by decide⟩ : I64), (⟨Str.none, Str.none, (⟨(⟨1, by decide, by decide⟩ : I64), (⟨3, by decide, by decide⟩ : I64), Str.none⟩ : ValV)⟩ : OpdV)⟩ : CondV)].flatMap condCell) :: Attrs (.slice none 0 0) [] :: blk bk9 (.cells #[.int .i64 0, .int .i64 0, .int .i64 0, .string (⟨#[65]⟩), .slice (some ⟨bk6, 0, none⟩) 1 1] 36 (0, 0)) :: Attrs (.slice (some ⟨bk6, 0, none⟩) 1 1) [(⟨(⟨⟨#[120]⟩, by decide⟩ : Str), (⟨1, by decide, by decide⟩ : I64), (⟨5, by decide, by decide⟩ : I64), Str.none⟩ : AttrV)] :: blk bk1 (.cells #[.string ByteArray.empty, .string (⟨#[120]⟩), .int .i64 0, .int .i64 0, .string ByteArray.empty, .int .i64 5, .string ByteArray.empty, .string ByteArray.empty, .int .i64 1, .int .i64 3, .string ByteArray.empty] 27 (0, 0)) :: F) := Row.im H38 (i := 0) rfl
  refine s_call [.slice pp30 ((namesV (⟨(⟨Str.none, (⟨⟨#[120]⟩, by decide⟩ : Str), (⟨(⟨0, by decide, by decide⟩ : I64), (⟨0, by decide, by decide⟩ : I64), Str.none⟩ : ValV)⟩ : OpdV), (⟨5, by decide, by decide⟩ : I64), (⟨Str.none, Str.none, (⟨(⟨1, by decide, by decide⟩ : I64), (⟨3, by decide, by decide⟩ : I64), Str.none⟩ : ValV)⟩ : OpdV)⟩ : CondV)).length) cc31, .slice (some ⟨bk34, 0, none⟩) 1 1] pl_19 rfl rfl (Equal_str (namesV (⟨(⟨Str.none, (⟨⟨#[120]⟩, by decide⟩ : Str), (⟨(⟨0, by decide, by decide⟩ : I64), (⟨0, by decide, by decide⟩ : I64), Str.none⟩ : ValV)⟩ : OpdV), (⟨5, by decide, by decide⟩ : I64), (⟨Str.none, Str.none, (⟨(⟨1, by decide, by decide⟩ : I64), (⟨3, by decide, by decide⟩ : I64), Str.none⟩ : ValV)⟩ : OpdV)⟩ : CondV)) [Str.none] (.slice pp30 ((namesV (⟨(⟨Str.none, (⟨⟨#[120]⟩, by decide⟩ : Str), (⟨(⟨0, by decide, by decide⟩ : I64), (⟨0, by decide, by decide⟩ : I64), Str.none⟩ : ValV)⟩ : OpdV), (⟨5, by decide, by decide⟩ : I64), (⟨Str.none, Str.none, (⟨(⟨1, by decide, by decide⟩ : I64), (⟨3, by decide, by decide⟩ : I64), Str.none⟩ : ValV)⟩ : OpdV)⟩ : CondV)).length) cc31) (.slice (some ⟨bk34, 0, none⟩) 1 1) (m := 1) rfl (n := 0) rfl H39) ?_
  rintro _ w40 ⟨rfl, H41⟩
  refine r_cons (s_pick_t (.bool (eqS (namesV (⟨(⟨Str.none, (⟨⟨#[120]⟩, by decide⟩ : Str), (⟨(⟨0, by decide, by decide⟩ : I64), (⟨0, by decide, by decide⟩ : I64), Str.none⟩ : ValV)⟩ : OpdV), (⟨5, by decide, by decide⟩ : I64), (⟨Str.none, Str.none, (⟨(⟨1, by decide, by decide⟩ : I64), (⟨3, by decide, by decide⟩ : I64), Str.none⟩ : ValV)⟩ : OpdV)⟩ : CondV)) [Str.none])) (by exact congrArg Value.bool (show (termB 1 (⟨#[65]⟩) [(⟨(⟨Str.none, (⟨⟨#[120]⟩, by decide⟩ : Str), (⟨(⟨0, by decide, by decide⟩ : I64), (⟨0, by decide, by decide⟩ : I64), Str.none⟩ : ValV)⟩ : OpdV), (⟨5, by decide, by decide⟩ : I64), (⟨Str.none, Str.none, (⟨(⟨1, by decide, by decide⟩ : I64), (⟨3, by decide, by decide⟩ : I64), Str.none⟩ : ValV)⟩ : OpdV)⟩ : CondV)] (⟨(⟨0, by decide, by decide⟩ : I64), (⟨0, by decide, by decide⟩ : I64), (⟨0, by decide, by decide⟩ : I64), (⟨⟨#[65]⟩, by decide⟩ : Str), [(⟨(⟨⟨#[120]⟩, by decide⟩ : Str), (⟨1, by decide, by decide⟩ : I64), (⟨5, by decide, by decide⟩ : I64), Str.none⟩ : AttrV)]⟩ : EvM)) = true from by decide +kernel)) rfl rfl ?_)
  refine r_cons (s_assign (.bool (eqS (namesV (⟨(⟨Str.none, (⟨⟨#[120]⟩, by decide⟩ : Str), (⟨(⟨0, by decide, by decide⟩ : I64), (⟨0, by decide, by decide⟩ : I64), Str.none⟩ : ValV)⟩ : OpdV), (⟨5, by decide, by decide⟩ : I64), (⟨Str.none, Str.none, (⟨(⟨1, by decide, by decide⟩ : I64), (⟨3, by decide, by decide⟩ : I64), Str.none⟩ : ValV)⟩ : OpdV)⟩ : CondV)) [Str.none])) rfl rfl ?_)
  refine r_nil ?_
  refine g_ret' [.bool (eqS (namesV (⟨(⟨Str.none, (⟨⟨#[120]⟩, by decide⟩ : Str), (⟨(⟨0, by decide, by decide⟩ : I64), (⟨0, by decide, by decide⟩ : I64), Str.none⟩ : ValV)⟩ : OpdV), (⟨5, by decide, by decide⟩ : I64), (⟨Str.none, Str.none, (⟨(⟨1, by decide, by decide⟩ : I64), (⟨3, by decide, by decide⟩ : I64), Str.none⟩ : ValV)⟩ : OpdV)⟩ : CondV)) [Str.none])] Try.func8 Try.results8 ⟨rfl, trivial⟩ ?_
  have H42 : St W w40 F := (((((((H41.drop 0 rfl).drop 0 rfl).drop 0 rfl).drop 0 rfl).drop 0 rfl).drop 0 rfl).drop 0 rfl)
  exact ⟨congrArg Value.bool (show eqS (namesV (⟨(⟨Str.none, (⟨⟨#[120]⟩, by decide⟩ : Str), (⟨(⟨0, by decide, by decide⟩ : I64), (⟨0, by decide, by decide⟩ : I64), Str.none⟩ : ValV)⟩ : OpdV), (⟨5, by decide, by decide⟩ : I64), (⟨Str.none, Str.none, (⟨(⟨1, by decide, by decide⟩ : I64), (⟨3, by decide, by decide⟩ : I64), Str.none⟩ : ValV)⟩ : OpdV)⟩ : CondV)) [Str.none] = true from by decide +kernel), H42⟩
set_option maxHeartbeats 4000000 in
set_option maxRecDepth 100000 in
theorem PredValues_ {W w : World} {F : List Atom} (l : List CondV) (lv : Value) (bs : List BoundD) (bv : Value) {m : Nat} (hm : F[m]? = some (Im 11 lv l.length (l.flatMap condCell))) {ip : Nat} (hp : F[ip]? = some (Im 6 bv bs.length (bs.flatMap bndCell))) {iq : Nat} (hq : F[iq]? = some (bndsA bs)) (H : St W w F) : Calls Try.prog 4 #[lv, .agg #[bv]] w (Ret fun v w' => v = .bool true ∧ St W w' F) := by
  obtain ⟨pp1, cc2, rfl, hn3⟩ := Rd.shape (Im.rd H (i := m) hm)
  have H4 := H.dup (i := m + 0) (by exact hm) (Im_pers _ _ _ _)
  have H5 : St W w (Im 11 (.slice pp1 l.length cc2) l.length (l.flatMap condCell) :: F) := H4
  obtain ⟨pp6, cc7, rfl, hn8⟩ := Rd.shape (Im.rd H (i := ip) hp)
  have H9 := H5.dup (i := ip + 1) (by exact hp) (Im_pers _ _ _ _)
  have H10 : St W w (Im 6 (.slice pp6 bs.length cc7) bs.length (bs.flatMap bndCell) :: Im 11 (.slice pp1 l.length cc2) l.length (l.flatMap condCell) :: F) := H9
  have H11 := H10.dup (i := iq + 2) (by exact hq) (bndsA_pers _)
  have H12 : St W w (bndsA bs :: Im 6 (.slice pp6 bs.length cc7) bs.length (bs.flatMap bndCell) :: Im 11 (.slice pp1 l.length cc2) l.length (l.flatMap condCell) :: F) := H11
  refine calls_of_go (n := 67) Try.func4 rfl Try.ntmps4 rfl ?_
  refine g_seq ?_
  refine g_region ?_
  refine r_cons (s_box H12 43 (.agg #[.slice pp6 bs.length cc7]) rfl (cs := #[.slice pp6 bs.length cc7]) rfl rfl ?_); intro bk13 w14 H15
  refine r_cons (s_assign (.bool false) rfl rfl ?_)
  refine r_nil ?_
  refine g_seq ?_
  refine g_seq ?_
  refine g_region ?_
  refine r_cons (s_call [] pl_8 rfl rfl (pred_live H15) ?_)
  rintro _ w16 ⟨rfl, H17⟩
  refine r_cons (s_not true rfl false rfl rfl ?_)
  refine r_nil ?_
  refine g_false rfl ?_
  refine g_skip ?_
  refine g_seq ?_
  refine g_seq ?_
  refine g_region ?_
  refine r_cons (s_move (.slice pp1 l.length cc2) rfl rfl ?_)
  refine r_cons (s_len l.length rfl ⟨_, un_28⟩ rfl ?_)
  refine r_cons (s_move (.int .i64 0) rfl rfl ?_)
  refine r_nil ?_
  refine g_block ?_
  obtain ⟨pA18, cA19, gA20, oA21, kA22, eA23, zA24, he30, hn25, hp26, hx27, hs28, hml, H29⟩ := Im.open_ H17 (i := 3) rfl
  obtain ⟨rfl, rfl⟩ : pp1 = pA18 ∧ cc2 = cA19 := by injection he30 with a_ b_ c_; exact ⟨a_, c_⟩
  have H31 : St W w16 (imi (0 < l.length) gA20 (.cells kA22 eA23 zA24) :: blk bk13 (.cells #[.slice pp6 bs.length cc7] 43 (0, 0)) :: bndsA bs :: Im 6 (.slice pp6 bs.length cc7) bs.length (bs.flatMap bndCell) :: Im 11 (.slice pp1 l.length cc2) l.length (l.flatMap condCell) :: F) := (((((H29.move 4 rfl).move 4 rfl).move 4 rfl).move 4 rfl).move 4 rfl)
  refine g_loop_inv (fun (x_ : Nat) => match x_ with | j => [(0, .slice pp1 l.length cc2), (3, .pointer (some ⟨bk13, 0, none⟩)), (4, .bool false), (15, .slice pp1 l.length cc2), (16, .int .i64 (l.length : Int)), (17, .int .i64 (j : Int))]) (fun (x_ : Nat) w => match x_ with | j => (j ≤ l.length) ∧ (∀ q, q < j → sameCd (l.getD q default) (l.getD q default) = true) ∧ St W w (imi (0 < l.length) gA20 (.cells kA22 eA23 zA24) :: blk bk13 (.cells #[.slice pp6 bs.length cc7] 43 (0, 0)) :: bndsA bs :: Im 6 (.slice pp6 bs.length cc7) bs.length (bs.flatMap bndCell) :: Im 11 (.slice pp1 l.length cc2) l.length (l.flatMap condCell) :: F)) (fun (x_ : Nat) => match x_ with | j => l.length - j) (0) ?_ ?_ ?_
  · exact ⟨by first | rfl | exact vint (by omega), by first | rfl | exact vint (by omega), by first | rfl | exact vint (by omega), by first | rfl | exact vint (by omega), by first | rfl | exact vint (by omega), by first | rfl | exact vint (by omega), trivial⟩
  · exact ⟨(by omega), (fun q hq => by omega), H31⟩
  · rintro j ρ32 w33 ⟨hjn, hz, H34⟩ nx35
    change Ends _ _ (upds ρ32 [(0, .slice pp1 l.length cc2), (3, .pointer (some ⟨bk13, 0, none⟩)), (4, .bool false), (15, .slice pp1 l.length cc2), (16, .int .i64 (l.length : Int)), (17, .int .i64 (j : Int))]) w33
    refine g_seq ?_
    refine g_region ?_
    by_cases hc36 : (j : Int) < (l.length : Int)
    · skip
      refine r_cons (s_lss true rfl rfl (dtrue hc36) rfl ?_)
      refine r_nil ?_
      refine g_seq ?_
      refine g_true rfl ?_
      refine g_skip ?_
      refine g_seq ?_
      refine g_block ?_
      refine g_seq ?_
      refine g_region ?_
      refine r_cons (s_indexAddr gA20 (off := oA21) (j : Int) 11 (oA21 + j * 11) (by exact congrArg (fun z_ => Value.slice z_ l.length cc2) (hp26 (by omega))) rfl el_28 (by omega) rfl rfl ?_)
      refine r_cons (s_loadAgg [.string ((l.getD j default).left.var.v), .string ((l.getD j default).left.attr.v), .int .i64 ((l.getD j default).left.val.kind.v), .int .i64 ((l.getD j default).left.val.n.v), .string ((l.getD j default).left.val.s.v), .int .i64 ((l.getD j default).rel.v), .string ((l.getD j default).right.var.v), .string ((l.getD j default).right.attr.v), .int .i64 ((l.getD j default).right.val.kind.v), .int .i64 ((l.getD j default).right.val.n.v), .string ((l.getD j default).right.val.s.v)] 11 ag_27 rfl (H34.imi_at (i := 0) rfl (by omega)) (by have := elem_size (i := j) (s := 11) (hs28 (by omega)) (by omega); omega) (elem_take condCell_len (hx27 (by omega)) (by omega) default) rfl ?_)
      refine r_cons (s_alloc H34 27 ze_27 rfl ?_); intro bk37 w38 H39
      refine r_cons (s_storeAgg H39 0 #[.string ((l.getD j default).left.var.v), .string ((l.getD j default).left.attr.v), .int .i64 ((l.getD j default).left.val.kind.v), .int .i64 ((l.getD j default).left.val.n.v), .string ((l.getD j default).left.val.s.v), .int .i64 ((l.getD j default).rel.v), .string ((l.getD j default).right.var.v), .string ((l.getD j default).right.attr.v), .int .i64 ((l.getD j default).right.val.kind.v), .int .i64 ((l.getD j default).right.val.n.v), .string ((l.getD j default).right.val.s.v)] 11 rfl rfl rfl sz_27 rfl (by simp [Value.oneCell']) (Nat.le_of_ble_eq_true rfl) (fun o h1 h2 => by first | (simp; done) | (simp; omega)) (cs' := #[.string ((l.getD j default).left.var.v), .string ((l.getD j default).left.attr.v), .int .i64 ((l.getD j default).left.val.kind.v), .int .i64 ((l.getD j default).left.val.n.v), .string ((l.getD j default).left.val.s.v), .int .i64 ((l.getD j default).rel.v), .string ((l.getD j default).right.var.v), .string ((l.getD j default).right.attr.v), .int .i64 ((l.getD j default).right.val.kind.v), .int .i64 ((l.getD j default).right.val.n.v), .string ((l.getD j default).right.val.s.v)]) (by kernel_rfl) ?_); intro w40 H41
      refine r_nil ?_
      refine g_seq ?_
      refine g_seq ?_
      refine g_region ?_
      refine r_cons (s_fieldAddr 27 0 0 0 25 rfl fi_27_0 rfl rfl ?_)
      refine r_cons (s_loadAgg [.string ((l.getD j default).left.var.v), .string ((l.getD j default).left.attr.v), .int .i64 ((l.getD j default).left.val.kind.v), .int .i64 ((l.getD j default).left.val.n.v), .string ((l.getD j default).left.val.s.v)] 5 ag_25 rfl (H41.blk_at (i := 0) rfl) (Nat.le_of_ble_eq_true rfl) rfl rfl ?_)
      refine r_cons (s_fieldAddr 27 2 6 6 25 rfl fi_27_2 rfl rfl ?_)
      refine r_cons (s_loadAgg [.string ((l.getD j default).right.var.v), .string ((l.getD j default).right.attr.v), .int .i64 ((l.getD j default).right.val.kind.v), .int .i64 ((l.getD j default).right.val.n.v), .string ((l.getD j default).right.val.s.v)] 5 ag_25 rfl (H41.blk_at (i := 0) rfl) (Nat.le_of_ble_eq_true rfl) rfl rfl ?_)
      refine r_cons (s_buildSlice H41 5 2 (cs := #[.string ((l.getD j default).left.var.v), .string ((l.getD j default).left.attr.v), .int .i64 ((l.getD j default).left.val.kind.v), .int .i64 ((l.getD j default).left.val.n.v), .string ((l.getD j default).left.val.s.v), .string ((l.getD j default).right.var.v), .string ((l.getD j default).right.attr.v), .int .i64 ((l.getD j default).right.val.kind.v), .int .i64 ((l.getD j default).right.val.n.v), .string ((l.getD j default).right.val.s.v)]) #[.string ByteArray.empty, .string ByteArray.empty, .int .i64 0, .int .i64 0, .string ByteArray.empty] el_44 ze_25 (by decide) (by decide) (by kernel_rfl) rfl ?_); intro bk42 w43 H44
      refine r_cons (s_len 2 rfl ⟨_, un_44⟩ rfl ?_)
      refine r_cons (s_move (.int .i64 0) rfl rfl ?_)
      refine r_nil ?_
      refine g_block ?_
      refine g_loop ?_
      refine g_seq ?_
      refine g_region ?_
      refine r_cons (s_lss true rfl rfl (dtrue (by decide)) rfl ?_)
      refine r_nil ?_
      refine g_seq ?_
      refine g_true rfl ?_
      refine g_skip ?_
      refine g_seq ?_
      refine g_block ?_
      refine g_seq ?_
      refine g_region ?_
      refine r_cons (s_indexAddr bk42 0 5 0 rfl rfl el_44 (by omega) rfl rfl ?_)
      refine r_cons (s_loadAgg [.string ((l.getD j default).left.var.v), .string ((l.getD j default).left.attr.v), .int .i64 ((l.getD j default).left.val.kind.v), .int .i64 ((l.getD j default).left.val.n.v), .string ((l.getD j default).left.val.s.v)] 5 ag_25 rfl (H44.blk_at (i := 0) rfl) (Nat.le_of_ble_eq_true rfl) rfl rfl ?_)
      refine r_cons (s_alloc H44 25 ze_25 rfl ?_); intro bk45 w46 H47
      refine r_cons (s_storeAgg H47 0 #[.string ((l.getD j default).left.var.v), .string ((l.getD j default).left.attr.v), .int .i64 ((l.getD j default).left.val.kind.v), .int .i64 ((l.getD j default).left.val.n.v), .string ((l.getD j default).left.val.s.v)] 5 rfl rfl rfl sz_25 rfl (by simp [Value.oneCell']) (Nat.le_of_ble_eq_true rfl) (fun o h1 h2 => by first | (simp; done) | (simp; omega)) (cs' := #[.string ((l.getD j default).left.var.v), .string ((l.getD j default).left.attr.v), .int .i64 ((l.getD j default).left.val.kind.v), .int .i64 ((l.getD j default).left.val.n.v), .string ((l.getD j default).left.val.s.v)]) rfl ?_); intro w48 H49
      refine r_nil ?_
      refine g_seq ?_
      refine g_region ?_
      refine r_cons (s_loadAgg [.string ((l.getD j default).left.var.v), .string ((l.getD j default).left.attr.v), .int .i64 ((l.getD j default).left.val.kind.v), .int .i64 ((l.getD j default).left.val.n.v), .string ((l.getD j default).left.val.s.v)] 5 ag_25 rfl (H49.blk_at (i := 0) rfl) (Nat.le_of_ble_eq_true rfl) rfl rfl ?_)
      refine r_cons (s_loadAgg [.slice pp6 bs.length cc7] 1 ag_43 rfl (H49.blk_at (i := 4) rfl) (Nat.le_of_ble_eq_true rfl) rfl rfl ?_)
      refine r_cons (s_call [.agg #[.string ((l.getD j default).left.var.v), .string ((l.getD j default).left.attr.v), .int .i64 ((l.getD j default).left.val.kind.v), .int .i64 ((l.getD j default).left.val.n.v), .string ((l.getD j default).left.val.s.v)], .agg #[.slice pp6 bs.length cc7]] pl_13 rfl rfl (pred_Value (l.getD j default).left bs (.slice pp6 bs.length cc7) (ip := 6) rfl (iq := 5) rfl H49) ?_)
      rintro _ w50 ⟨rfl, H51⟩
      refine r_cons (s_move (.tuple #[.agg #[.int .i64 ((bvV ((l.getD j default).left) bs).kind.v), .int .i64 ((bvV ((l.getD j default).left) bs).n.v), .string ((bvV ((l.getD j default).left) bs).s.v)], .bool (bvIs ((l.getD j default).left) bs)]) rfl rfl ?_)
      refine r_cons (s_extract (.agg #[.int .i64 ((bvV ((l.getD j default).left) bs).kind.v), .int .i64 ((bvV ((l.getD j default).left) bs).n.v), .string ((bvV ((l.getD j default).left) bs).s.v)]) #[.agg #[.int .i64 ((bvV ((l.getD j default).left) bs).kind.v), .int .i64 ((bvV ((l.getD j default).left) bs).n.v), .string ((bvV ((l.getD j default).left) bs).s.v)], .bool (bvIs ((l.getD j default).left) bs)] rfl rfl rfl ?_)
      refine r_cons (s_extract (.bool (bvIs ((l.getD j default).left) bs)) #[.agg #[.int .i64 ((bvV ((l.getD j default).left) bs).kind.v), .int .i64 ((bvV ((l.getD j default).left) bs).n.v), .string ((bvV ((l.getD j default).left) bs).s.v)], .bool (bvIs ((l.getD j default).left) bs)] rfl rfl rfl ?_)
      refine r_cons (s_alloc H51 23 ze_23 rfl ?_); intro bk52 w53 H54
      refine r_cons (s_storeAgg H54 0 #[.int .i64 ((bvV ((l.getD j default).left) bs).kind.v), .int .i64 ((bvV ((l.getD j default).left) bs).n.v), .string ((bvV ((l.getD j default).left) bs).s.v)] 3 rfl rfl rfl sz_23 rfl (by simp [Value.oneCell']) (Nat.le_of_ble_eq_true rfl) (fun o h1 h2 => by first | (simp; done) | (simp; omega)) (cs' := #[.int .i64 ((bvV ((l.getD j default).left) bs).kind.v), .int .i64 ((bvV ((l.getD j default).left) bs).n.v), .string ((bvV ((l.getD j default).left) bs).s.v)]) rfl ?_); intro w55 H56
      refine r_cons (s_assign (.bool (bvIs ((l.getD j default).left) bs)) rfl rfl ?_)
      refine r_nil ?_
      refine g_seq ?_
      refine g_region ?_
      refine r_cons (s_loadAgg [.string ((l.getD j default).left.var.v), .string ((l.getD j default).left.attr.v), .int .i64 ((l.getD j default).left.val.kind.v), .int .i64 ((l.getD j default).left.val.n.v), .string ((l.getD j default).left.val.s.v)] 5 ag_25 rfl (H56.blk_at (i := 1) rfl) (Nat.le_of_ble_eq_true rfl) rfl rfl ?_)
      refine r_cons (s_loadAgg [.slice pp6 bs.length cc7] 1 ag_43 rfl (H56.blk_at (i := 5) rfl) (Nat.le_of_ble_eq_true rfl) rfl rfl ?_)
      refine r_cons (s_call [.agg #[.string ((l.getD j default).left.var.v), .string ((l.getD j default).left.attr.v), .int .i64 ((l.getD j default).left.val.kind.v), .int .i64 ((l.getD j default).left.val.n.v), .string ((l.getD j default).left.val.s.v)], .agg #[.slice pp6 bs.length cc7]] pl_14 rfl rfl (ref09_Value (l.getD j default).left bs (.slice pp6 bs.length cc7) (ip := 7) rfl (iq := 6) rfl H56) ?_)
      rintro _ w57 ⟨rfl, H58⟩
      refine r_cons (s_move (.tuple #[.agg #[.int .i64 ((bvV ((l.getD j default).left) bs).kind.v), .int .i64 ((bvV ((l.getD j default).left) bs).n.v), .string ((bvV ((l.getD j default).left) bs).s.v)], .bool (bvIs ((l.getD j default).left) bs)]) rfl rfl ?_)
      refine r_cons (s_extract (.agg #[.int .i64 ((bvV ((l.getD j default).left) bs).kind.v), .int .i64 ((bvV ((l.getD j default).left) bs).n.v), .string ((bvV ((l.getD j default).left) bs).s.v)]) #[.agg #[.int .i64 ((bvV ((l.getD j default).left) bs).kind.v), .int .i64 ((bvV ((l.getD j default).left) bs).n.v), .string ((bvV ((l.getD j default).left) bs).s.v)], .bool (bvIs ((l.getD j default).left) bs)] rfl rfl rfl ?_)
      refine r_cons (s_extract (.bool (bvIs ((l.getD j default).left) bs)) #[.agg #[.int .i64 ((bvV ((l.getD j default).left) bs).kind.v), .int .i64 ((bvV ((l.getD j default).left) bs).n.v), .string ((bvV ((l.getD j default).left) bs).s.v)], .bool (bvIs ((l.getD j default).left) bs)] rfl rfl rfl ?_)
      refine r_cons (s_alloc H58 23 ze_23 rfl ?_); intro bk59 w60 H61
      refine r_cons (s_storeAgg H61 0 #[.int .i64 ((bvV ((l.getD j default).left) bs).kind.v), .int .i64 ((bvV ((l.getD j default).left) bs).n.v), .string ((bvV ((l.getD j default).left) bs).s.v)] 3 rfl rfl rfl sz_23 rfl (by simp [Value.oneCell']) (Nat.le_of_ble_eq_true rfl) (fun o h1 h2 => by first | (simp; done) | (simp; omega)) (cs' := #[.int .i64 ((bvV ((l.getD j default).left) bs).kind.v), .int .i64 ((bvV ((l.getD j default).left) bs).n.v), .string ((bvV ((l.getD j default).left) bs).s.v)]) rfl ?_); intro w62 H63
      refine r_cons (s_assign (.bool (bvIs ((l.getD j default).left) bs)) rfl rfl ?_)
      refine r_nil ?_
      refine g_seq ?_
      refine g_region ?_
      refine r_cons (s_loadAgg [.int .i64 ((bvV ((l.getD j default).left) bs).kind.v), .int .i64 ((bvV ((l.getD j default).left) bs).n.v), .string ((bvV ((l.getD j default).left) bs).s.v)] 3 ag_23 rfl (H63.blk_at (i := 1) rfl) (Nat.le_of_ble_eq_true rfl) rfl rfl ?_)
      refine r_cons (s_loadAgg [.int .i64 ((bvV ((l.getD j default).left) bs).kind.v), .int .i64 ((bvV ((l.getD j default).left) bs).n.v), .string ((bvV ((l.getD j default).left) bs).s.v)] 3 ag_23 rfl (H63.blk_at (i := 0) rfl) (Nat.le_of_ble_eq_true rfl) rfl rfl ?_)
      refine r_cons (s_aneq (!(sameVal (bvV ((l.getD j default).left) bs) (bvV ((l.getD j default).left) bs))) gd_23 ev_23 rfl rfl rfl rfl ?_)
      refine r_cons (s_move (.bool (!(sameVal (bvV ((l.getD j default).left) bs) (bvV ((l.getD j default).left) bs)))) rfl rfl ?_)
      refine r_cons (r_take rfl (congrArg some (by rw [sameVal_refl]; rfl)) ?_)
      refine s_move (.bool (bvIs ((l.getD j default).left) bs)) rfl rfl ?_
      refine r_cons (r_take rfl (congrArg some (by rw [sameVal_refl]; rfl)) ?_)
      refine s_move (.bool (bvIs ((l.getD j default).left) bs)) rfl rfl ?_
      refine r_cons (r_take rfl (congrArg some (by rw [sameVal_refl]; rfl)) ?_)
      refine s_bneq false un_4 rfl rfl (ntrue rfl) rfl ?_
      refine r_cons (s_pick_f (.bool false) (by exact congrArg Value.bool (by rw [sameVal_refl]; rfl)) rfl rfl ?_)
      refine r_nil ?_
      refine g_false rfl ?_
      refine g_skip ?_
      refine g_inBlock ?_
      refine g_region ?_
      refine r_cons (s_add 1 rfl rfl (wi64 (by omega)) rfl ?_)
      refine r_cons (s_move (.int .i64 1) rfl rfl ?_)
      refine r_nil ?_
      refine g_inLoop ?_
      refine g_seq ?_
      refine g_region ?_
      refine r_cons (s_lss true rfl rfl (dtrue (by decide)) rfl ?_)
      refine r_nil ?_
      refine g_seq ?_
      refine g_true rfl ?_
      refine g_skip ?_
      refine g_seq ?_
      refine g_block ?_
      refine g_seq ?_
      refine g_region ?_
      refine r_cons (s_indexAddr bk42 1 5 5 rfl rfl el_44 (by omega) rfl rfl ?_)
      refine r_cons (s_loadAgg [.string ((l.getD j default).right.var.v), .string ((l.getD j default).right.attr.v), .int .i64 ((l.getD j default).right.val.kind.v), .int .i64 ((l.getD j default).right.val.n.v), .string ((l.getD j default).right.val.s.v)] 5 ag_25 rfl (H63.blk_at (i := 3) rfl) (Nat.le_of_ble_eq_true rfl) rfl rfl ?_)
      refine r_cons (s_alloc H63 25 ze_25 rfl ?_); intro bk64 w65 H66
      refine r_cons (s_storeAgg H66 0 #[.string ((l.getD j default).right.var.v), .string ((l.getD j default).right.attr.v), .int .i64 ((l.getD j default).right.val.kind.v), .int .i64 ((l.getD j default).right.val.n.v), .string ((l.getD j default).right.val.s.v)] 5 rfl rfl rfl sz_25 rfl (by simp [Value.oneCell']) (Nat.le_of_ble_eq_true rfl) (fun o h1 h2 => by first | (simp; done) | (simp; omega)) (cs' := #[.string ((l.getD j default).right.var.v), .string ((l.getD j default).right.attr.v), .int .i64 ((l.getD j default).right.val.kind.v), .int .i64 ((l.getD j default).right.val.n.v), .string ((l.getD j default).right.val.s.v)]) rfl ?_); intro w67 H68
      refine r_nil ?_
      refine g_seq ?_
      refine g_region ?_
      refine r_cons (s_loadAgg [.string ((l.getD j default).right.var.v), .string ((l.getD j default).right.attr.v), .int .i64 ((l.getD j default).right.val.kind.v), .int .i64 ((l.getD j default).right.val.n.v), .string ((l.getD j default).right.val.s.v)] 5 ag_25 rfl (H68.blk_at (i := 0) rfl) (Nat.le_of_ble_eq_true rfl) rfl rfl ?_)
      refine r_cons (s_loadAgg [.slice pp6 bs.length cc7] 1 ag_43 rfl (H68.blk_at (i := 7) rfl) (Nat.le_of_ble_eq_true rfl) rfl rfl ?_)
      refine r_cons (s_call [.agg #[.string ((l.getD j default).right.var.v), .string ((l.getD j default).right.attr.v), .int .i64 ((l.getD j default).right.val.kind.v), .int .i64 ((l.getD j default).right.val.n.v), .string ((l.getD j default).right.val.s.v)], .agg #[.slice pp6 bs.length cc7]] pl_13 rfl rfl (pred_Value (l.getD j default).right bs (.slice pp6 bs.length cc7) (ip := 9) rfl (iq := 8) rfl H68) ?_)
      rintro _ w69 ⟨rfl, H70⟩
      refine r_cons (s_move (.tuple #[.agg #[.int .i64 ((bvV ((l.getD j default).right) bs).kind.v), .int .i64 ((bvV ((l.getD j default).right) bs).n.v), .string ((bvV ((l.getD j default).right) bs).s.v)], .bool (bvIs ((l.getD j default).right) bs)]) rfl rfl ?_)
      refine r_cons (s_extract (.agg #[.int .i64 ((bvV ((l.getD j default).right) bs).kind.v), .int .i64 ((bvV ((l.getD j default).right) bs).n.v), .string ((bvV ((l.getD j default).right) bs).s.v)]) #[.agg #[.int .i64 ((bvV ((l.getD j default).right) bs).kind.v), .int .i64 ((bvV ((l.getD j default).right) bs).n.v), .string ((bvV ((l.getD j default).right) bs).s.v)], .bool (bvIs ((l.getD j default).right) bs)] rfl rfl rfl ?_)
      refine r_cons (s_extract (.bool (bvIs ((l.getD j default).right) bs)) #[.agg #[.int .i64 ((bvV ((l.getD j default).right) bs).kind.v), .int .i64 ((bvV ((l.getD j default).right) bs).n.v), .string ((bvV ((l.getD j default).right) bs).s.v)], .bool (bvIs ((l.getD j default).right) bs)] rfl rfl rfl ?_)
      refine r_cons (s_alloc H70 23 ze_23 rfl ?_); intro bk71 w72 H73
      refine r_cons (s_storeAgg H73 0 #[.int .i64 ((bvV ((l.getD j default).right) bs).kind.v), .int .i64 ((bvV ((l.getD j default).right) bs).n.v), .string ((bvV ((l.getD j default).right) bs).s.v)] 3 rfl rfl rfl sz_23 rfl (by simp [Value.oneCell']) (Nat.le_of_ble_eq_true rfl) (fun o h1 h2 => by first | (simp; done) | (simp; omega)) (cs' := #[.int .i64 ((bvV ((l.getD j default).right) bs).kind.v), .int .i64 ((bvV ((l.getD j default).right) bs).n.v), .string ((bvV ((l.getD j default).right) bs).s.v)]) rfl ?_); intro w74 H75
      refine r_cons (s_assign (.bool (bvIs ((l.getD j default).right) bs)) rfl rfl ?_)
      refine r_nil ?_
      refine g_seq ?_
      refine g_region ?_
      refine r_cons (s_loadAgg [.string ((l.getD j default).right.var.v), .string ((l.getD j default).right.attr.v), .int .i64 ((l.getD j default).right.val.kind.v), .int .i64 ((l.getD j default).right.val.n.v), .string ((l.getD j default).right.val.s.v)] 5 ag_25 rfl (H75.blk_at (i := 1) rfl) (Nat.le_of_ble_eq_true rfl) rfl rfl ?_)
      refine r_cons (s_loadAgg [.slice pp6 bs.length cc7] 1 ag_43 rfl (H75.blk_at (i := 8) rfl) (Nat.le_of_ble_eq_true rfl) rfl rfl ?_)
      refine r_cons (s_call [.agg #[.string ((l.getD j default).right.var.v), .string ((l.getD j default).right.attr.v), .int .i64 ((l.getD j default).right.val.kind.v), .int .i64 ((l.getD j default).right.val.n.v), .string ((l.getD j default).right.val.s.v)], .agg #[.slice pp6 bs.length cc7]] pl_14 rfl rfl (ref09_Value (l.getD j default).right bs (.slice pp6 bs.length cc7) (ip := 10) rfl (iq := 9) rfl H75) ?_)
      rintro _ w76 ⟨rfl, H77⟩
      refine r_cons (s_move (.tuple #[.agg #[.int .i64 ((bvV ((l.getD j default).right) bs).kind.v), .int .i64 ((bvV ((l.getD j default).right) bs).n.v), .string ((bvV ((l.getD j default).right) bs).s.v)], .bool (bvIs ((l.getD j default).right) bs)]) rfl rfl ?_)
      refine r_cons (s_extract (.agg #[.int .i64 ((bvV ((l.getD j default).right) bs).kind.v), .int .i64 ((bvV ((l.getD j default).right) bs).n.v), .string ((bvV ((l.getD j default).right) bs).s.v)]) #[.agg #[.int .i64 ((bvV ((l.getD j default).right) bs).kind.v), .int .i64 ((bvV ((l.getD j default).right) bs).n.v), .string ((bvV ((l.getD j default).right) bs).s.v)], .bool (bvIs ((l.getD j default).right) bs)] rfl rfl rfl ?_)
      refine r_cons (s_extract (.bool (bvIs ((l.getD j default).right) bs)) #[.agg #[.int .i64 ((bvV ((l.getD j default).right) bs).kind.v), .int .i64 ((bvV ((l.getD j default).right) bs).n.v), .string ((bvV ((l.getD j default).right) bs).s.v)], .bool (bvIs ((l.getD j default).right) bs)] rfl rfl rfl ?_)
      refine r_cons (s_alloc H77 23 ze_23 rfl ?_); intro bk78 w79 H80
      refine r_cons (s_storeAgg H80 0 #[.int .i64 ((bvV ((l.getD j default).right) bs).kind.v), .int .i64 ((bvV ((l.getD j default).right) bs).n.v), .string ((bvV ((l.getD j default).right) bs).s.v)] 3 rfl rfl rfl sz_23 rfl (by simp [Value.oneCell']) (Nat.le_of_ble_eq_true rfl) (fun o h1 h2 => by first | (simp; done) | (simp; omega)) (cs' := #[.int .i64 ((bvV ((l.getD j default).right) bs).kind.v), .int .i64 ((bvV ((l.getD j default).right) bs).n.v), .string ((bvV ((l.getD j default).right) bs).s.v)]) rfl ?_); intro w81 H82
      refine r_cons (s_assign (.bool (bvIs ((l.getD j default).right) bs)) rfl rfl ?_)
      refine r_nil ?_
      refine g_seq ?_
      refine g_region ?_
      refine r_cons (s_loadAgg [.int .i64 ((bvV ((l.getD j default).right) bs).kind.v), .int .i64 ((bvV ((l.getD j default).right) bs).n.v), .string ((bvV ((l.getD j default).right) bs).s.v)] 3 ag_23 rfl (H82.blk_at (i := 1) rfl) (Nat.le_of_ble_eq_true rfl) rfl rfl ?_)
      refine r_cons (s_loadAgg [.int .i64 ((bvV ((l.getD j default).right) bs).kind.v), .int .i64 ((bvV ((l.getD j default).right) bs).n.v), .string ((bvV ((l.getD j default).right) bs).s.v)] 3 ag_23 rfl (H82.blk_at (i := 0) rfl) (Nat.le_of_ble_eq_true rfl) rfl rfl ?_)
      refine r_cons (s_aneq (!(sameVal (bvV ((l.getD j default).right) bs) (bvV ((l.getD j default).right) bs))) gd_23 ev_23 rfl rfl rfl rfl ?_)
      refine r_cons (s_move (.bool (!(sameVal (bvV ((l.getD j default).right) bs) (bvV ((l.getD j default).right) bs)))) rfl rfl ?_)
      refine r_cons (r_take rfl (congrArg some (by rw [sameVal_refl]; rfl)) ?_)
      refine s_move (.bool (bvIs ((l.getD j default).right) bs)) rfl rfl ?_
      refine r_cons (r_take rfl (congrArg some (by rw [sameVal_refl]; rfl)) ?_)
      refine s_move (.bool (bvIs ((l.getD j default).right) bs)) rfl rfl ?_
      refine r_cons (r_take rfl (congrArg some (by rw [sameVal_refl]; rfl)) ?_)
      refine s_bneq false un_4 rfl rfl (ntrue rfl) rfl ?_
      refine r_cons (s_pick_f (.bool false) (by exact congrArg Value.bool (by rw [sameVal_refl]; rfl)) rfl rfl ?_)
      refine r_nil ?_
      refine g_false rfl ?_
      refine g_skip ?_
      refine g_inBlock ?_
      refine g_region ?_
      refine r_cons (s_add 2 rfl rfl (wi64 (by omega)) rfl ?_)
      refine r_cons (s_move (.int .i64 2) rfl rfl ?_)
      refine r_nil ?_
      refine g_inLoop ?_
      refine g_seq ?_
      refine g_region ?_
      refine r_cons (s_lss false rfl rfl (dfalse (by decide)) rfl ?_)
      refine r_nil ?_
      refine g_seq ?_
      refine g_false rfl ?_
      refine g_exit (by rfl) ?_
      refine g_seq ?_
      refine g_quiet (fun w' => St W w' (blk bk78 (.cells #[.int .i64 ((bvV ((l.getD j default).right) bs).kind.v), .int .i64 ((bvV ((l.getD j default).right) bs).n.v), .string ((bvV ((l.getD j default).right) bs).s.v)] 23 (0, 0)) :: blk bk71 (.cells #[.int .i64 ((bvV ((l.getD j default).right) bs).kind.v), .int .i64 ((bvV ((l.getD j default).right) bs).n.v), .string ((bvV ((l.getD j default).right) bs).s.v)] 23 (0, 0)) :: blk bk64 (.cells #[.string ((l.getD j default).right.var.v), .string ((l.getD j default).right.attr.v), .int .i64 ((l.getD j default).right.val.kind.v), .int .i64 ((l.getD j default).right.val.n.v), .string ((l.getD j default).right.val.s.v)] 25 (0, 0)) :: blk bk59 (.cells #[.int .i64 ((bvV ((l.getD j default).left) bs).kind.v), .int .i64 ((bvV ((l.getD j default).left) bs).n.v), .string ((bvV ((l.getD j default).left) bs).s.v)] 23 (0, 0)) :: blk bk52 (.cells #[.int .i64 ((bvV ((l.getD j default).left) bs).kind.v), .int .i64 ((bvV ((l.getD j default).left) bs).n.v), .string ((bvV ((l.getD j default).left) bs).s.v)] 23 (0, 0)) :: blk bk45 (.cells #[.string ((l.getD j default).left.var.v), .string ((l.getD j default).left.attr.v), .int .i64 ((l.getD j default).left.val.kind.v), .int .i64 ((l.getD j default).left.val.n.v), .string ((l.getD j default).left.val.s.v)] 25 (0, 0)) :: blk bk42 (.cells #[.string ((l.getD j default).left.var.v), .string ((l.getD j default).left.attr.v), .int .i64 ((l.getD j default).left.val.kind.v), .int .i64 ((l.getD j default).left.val.n.v), .string ((l.getD j default).left.val.s.v), .string ((l.getD j default).right.var.v), .string ((l.getD j default).right.attr.v), .int .i64 ((l.getD j default).right.val.kind.v), .int .i64 ((l.getD j default).right.val.n.v), .string ((l.getD j default).right.val.s.v)] 25 (0, 0)) :: blk bk37 (.cells #[.string ((l.getD j default).left.var.v), .string ((l.getD j default).left.attr.v), .int .i64 ((l.getD j default).left.val.kind.v), .int .i64 ((l.getD j default).left.val.n.v), .string ((l.getD j default).left.val.s.v), .int .i64 ((l.getD j default).rel.v), .string ((l.getD j default).right.var.v), .string ((l.getD j default).right.attr.v), .int .i64 ((l.getD j default).right.val.kind.v), .int .i64 ((l.getD j default).right.val.n.v), .string ((l.getD j default).right.val.s.v)] 27 (0, 0)) :: imi (0 < l.length) gA20 (.cells kA22 eA23 zA24) :: blk bk13 (.cells #[.slice pp6 bs.length cc7] 43 (0, 0)) :: bndsA bs :: Im 6 (.slice pp6 bs.length cc7) bs.length (bs.flatMap bndCell) :: Im 11 (.slice pp1 l.length cc2) l.length (l.flatMap condCell) :: F)) mixed (by kernel_rfl) H82.drew ?_
      refine q_cons (q_val rfl rfl rfl (by intro w hw; exact x_loadAgg [.string ((l.getD j default).left.var.v), .string ((l.getD j default).left.attr.v), .int .i64 ((l.getD j default).left.val.kind.v), .int .i64 ((l.getD j default).left.val.n.v), .string ((l.getD j default).left.val.s.v), .int .i64 ((l.getD j default).rel.v), .string ((l.getD j default).right.var.v), .string ((l.getD j default).right.attr.v), .int .i64 ((l.getD j default).right.val.kind.v), .int .i64 ((l.getD j default).right.val.n.v), .string ((l.getD j default).right.val.s.v)] 11 ag_27 rfl (hw.blk_at (i := 7) rfl) (Nat.le_of_ble_eq_true rfl) rfl) ?_)
      refine q_cons (q_val rfl rfl rfl (by intro w hw; exact x_loadAgg [.slice pp6 bs.length cc7] 1 ag_43 rfl (hw.blk_at (i := 9) rfl) (Nat.le_of_ble_eq_true rfl) rfl) ?_)
      refine q_cons (q_enter (args := #[.agg #[.string ((l.getD j default).left.var.v), .string ((l.getD j default).left.attr.v), .int .i64 ((l.getD j default).left.val.kind.v), .int .i64 ((l.getD j default).left.val.n.v), .string ((l.getD j default).left.val.s.v), .int .i64 ((l.getD j default).rel.v), .string ((l.getD j default).right.var.v), .string ((l.getD j default).right.attr.v), .int .i64 ((l.getD j default).right.val.kind.v), .int .i64 ((l.getD j default).right.val.n.v), .string ((l.getD j default).right.val.s.v)], .agg #[.slice pp6 bs.length cc7]]) (v := .bool (condB (l.getD j default) bs)) rfl rfl rfl (x_call pl_15 [.agg #[.string ((l.getD j default).left.var.v), .string ((l.getD j default).left.attr.v), .int .i64 ((l.getD j default).left.val.kind.v), .int .i64 ((l.getD j default).left.val.n.v), .string ((l.getD j default).left.val.s.v), .int .i64 ((l.getD j default).rel.v), .string ((l.getD j default).right.var.v), .string ((l.getD j default).right.attr.v), .int .i64 ((l.getD j default).right.val.kind.v), .int .i64 ((l.getD j default).right.val.n.v), .string ((l.getD j default).right.val.s.v)], .agg #[.slice pp6 bs.length cc7]] rfl) (fun w hw => pred_Cond (l.getD j default) bs (.slice pp6 bs.length cc7) (ip := 11) rfl (iq := 10) rfl hw) ?_)
      refine q_cons (q_val rfl rfl rfl (by intro w hw; exact x_loadAgg [.string ((l.getD j default).left.var.v), .string ((l.getD j default).left.attr.v), .int .i64 ((l.getD j default).left.val.kind.v), .int .i64 ((l.getD j default).left.val.n.v), .string ((l.getD j default).left.val.s.v), .int .i64 ((l.getD j default).rel.v), .string ((l.getD j default).right.var.v), .string ((l.getD j default).right.attr.v), .int .i64 ((l.getD j default).right.val.kind.v), .int .i64 ((l.getD j default).right.val.n.v), .string ((l.getD j default).right.val.s.v)] 11 ag_27 rfl (hw.blk_at (i := 7) rfl) (Nat.le_of_ble_eq_true rfl) rfl) ?_)
      refine q_cons (q_val rfl rfl rfl (by intro w hw; exact x_loadAgg [.slice pp6 bs.length cc7] 1 ag_43 rfl (hw.blk_at (i := 9) rfl) (Nat.le_of_ble_eq_true rfl) rfl) ?_)
      refine q_cons (q_enter (args := #[.agg #[.string ((l.getD j default).left.var.v), .string ((l.getD j default).left.attr.v), .int .i64 ((l.getD j default).left.val.kind.v), .int .i64 ((l.getD j default).left.val.n.v), .string ((l.getD j default).left.val.s.v), .int .i64 ((l.getD j default).rel.v), .string ((l.getD j default).right.var.v), .string ((l.getD j default).right.attr.v), .int .i64 ((l.getD j default).right.val.kind.v), .int .i64 ((l.getD j default).right.val.n.v), .string ((l.getD j default).right.val.s.v)], .agg #[.slice pp6 bs.length cc7]]) (v := .bool (condB (l.getD j default) bs)) rfl rfl rfl (x_call pl_16 [.agg #[.string ((l.getD j default).left.var.v), .string ((l.getD j default).left.attr.v), .int .i64 ((l.getD j default).left.val.kind.v), .int .i64 ((l.getD j default).left.val.n.v), .string ((l.getD j default).left.val.s.v), .int .i64 ((l.getD j default).rel.v), .string ((l.getD j default).right.var.v), .string ((l.getD j default).right.attr.v), .int .i64 ((l.getD j default).right.val.kind.v), .int .i64 ((l.getD j default).right.val.n.v), .string ((l.getD j default).right.val.s.v)], .agg #[.slice pp6 bs.length cc7]] rfl) (fun w hw => ref09_Cond (l.getD j default) bs (.slice pp6 bs.length cc7) (ip := 11) rfl (iq := 10) rfl hw) ?_)
      refine q_cons (q_val rfl rfl rfl (by intro w hw; exact x_bneq false un_4 rfl rfl (ntrue rfl) w) ?_)
      refine q_nil ?_
      intro w83 H84
      refine g_false rfl ?_
      refine g_skip ?_
      refine g_inBlock ?_
      refine g_region ?_
      refine r_cons (s_add ((j : Int) + 1) rfl rfl (wi64 (by omega)) rfl ?_)
      refine r_cons (s_move (.int .i64 ((j : Int) + 1)) rfl rfl ?_)
      refine r_nil ?_
      have H85 : St W w83 (imi (0 < l.length) gA20 (.cells kA22 eA23 zA24) :: blk bk13 (.cells #[.slice pp6 bs.length cc7] 43 (0, 0)) :: bndsA bs :: Im 6 (.slice pp6 bs.length cc7) bs.length (bs.flatMap bndCell) :: Im 11 (.slice pp1 l.length cc2) l.length (l.flatMap condCell) :: F) := (((((((((((((H84.move 12 rfl).move 12 rfl).move 12 rfl).move 12 rfl).move 12 rfl).drop 5 rfl).drop 5 rfl).drop 5 rfl).drop 5 rfl).drop 5 rfl).drop 5 rfl).drop 5 rfl).drop 5 rfl)
      exact nx35 (j + 1) _ _ ⟨(by omega), (fun q hq => (Nat.lt_or_ge q j).elim (hz q) (fun h => by rw [show q = j from by omega]; exact sameCd_refl _)), H85⟩ (by first | (dsimp only; omega) | omega) ⟨by first | rfl | exact vint (by omega), by first | rfl | exact vint (by omega), by first | rfl | exact vint (by omega), by first | rfl | exact vint (by omega), by first | rfl | exact vint (by omega), by first | rfl | exact vint (by omega), trivial⟩
    · skip
      refine r_cons (s_lss false rfl rfl (dfalse hc36) rfl ?_)
      refine r_nil ?_
      refine g_seq ?_
      refine g_false rfl ?_
      refine g_exit (by rfl) ?_
      refine g_seq ?_
      refine g_quiet (fun w' => St W w' (imi (0 < l.length) gA20 (.cells kA22 eA23 zA24) :: blk bk13 (.cells #[.slice pp6 bs.length cc7] 43 (0, 0)) :: bndsA bs :: Im 6 (.slice pp6 bs.length cc7) bs.length (bs.flatMap bndCell) :: Im 11 (.slice pp1 l.length cc2) l.length (l.flatMap condCell) :: F)) mixed (by kernel_rfl) H34.drew ?_
      refine q_cons (q_val rfl rfl rfl (by intro w hw; exact x_move (.slice pp1 l.length cc2) rfl w) ?_)
      refine q_cons (q_val rfl rfl rfl (by intro w hw; exact x_loadAgg [.slice pp6 bs.length cc7] 1 ag_43 rfl (hw.blk_at (i := 1) rfl) (Nat.le_of_ble_eq_true rfl) rfl) ?_)
      refine q_cons (q_enter (args := #[.slice pp1 l.length cc2, .agg #[.slice pp6 bs.length cc7]]) (v := .bool (allB l bs)) rfl rfl rfl (x_call pl_17 [.slice pp1 l.length cc2, .agg #[.slice pp6 bs.length cc7]] rfl) (fun w hw => pred_All l (.slice pp1 l.length cc2) bs (.slice pp6 bs.length cc7) (m := 4) rfl (ip := 3) rfl (iq := 2) rfl hw) ?_)
      refine q_cons (q_val rfl rfl rfl (by intro w hw; exact x_move (.slice pp1 l.length cc2) rfl w) ?_)
      refine q_cons (q_val rfl rfl rfl (by intro w hw; exact x_loadAgg [.slice pp6 bs.length cc7] 1 ag_43 rfl (hw.blk_at (i := 1) rfl) (Nat.le_of_ble_eq_true rfl) rfl) ?_)
      refine q_cons (q_enter (args := #[.slice pp1 l.length cc2, .agg #[.slice pp6 bs.length cc7]]) (v := .bool (allB l bs)) rfl rfl rfl (x_call pl_18 [.slice pp1 l.length cc2, .agg #[.slice pp6 bs.length cc7]] rfl) (fun w hw => ref09_All l (.slice pp1 l.length cc2) bs (.slice pp6 bs.length cc7) (m := 4) rfl (ip := 3) rfl (iq := 2) rfl hw) ?_)
      refine q_cons (q_val rfl rfl rfl (by intro w hw; exact x_beql true un_4 rfl rfl (dtrue rfl) w) ?_)
      refine q_cons (q_val rfl rfl rfl (by intro w hw; exact x_assign (.bool true) rfl w) ?_)
      refine q_nil ?_
      intro w86 H87
      refine g_ret' [.bool true] Try.func4 Try.results4 ⟨rfl, trivial⟩ ?_
      have H88 : St W w86 F := (((((H87.drop 0 rfl).drop 0 rfl).drop 0 rfl).drop 0 rfl).drop 0 rfl)
      exact ⟨rfl, H88⟩
end Sl
