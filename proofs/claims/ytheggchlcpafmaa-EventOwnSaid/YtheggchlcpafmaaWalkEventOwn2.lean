/- Walks of the program's functions. Printed by a program of this claim's author. No condition. -/
import Derived.Test.YtheggchlcpafmaaSlQ
import Derived.Test.YtheggchlcpafmaaSlR
import Derived.Test.YtheggchlcpafmaaSlBB
import Derived.Test.YtheggchlcpafmaaSlDA
import Derived.Test.YtheggchlcpafmaaProg
import Derived.Test.YtheggchlcpafmaaWalkEventOwn1
namespace Sl
open _root_.Go _root_.Go.RowKit _root_.Go.Proofs
set_option linter.all false
set_option maxHeartbeats 4000000 in
set_option maxRecDepth 100000 in
theorem EventOwn_ {W w : World} {F : List Atom} (e : EvM) (ap : Option Addr) (ac : Nat) (hb : e.attrs.length * 48 ≤ 140737488355328) {j : Nat} (hj : F[j]? = some (Attrs (.slice ap e.attrs.length ac) e.attrs)) (H : St W w F) : Calls Try.prog 10 #[.agg #[.int .i64 e.src.v, .int .i64 e.seq.v, .int .i64 e.time.v, .string e.typ.v, .slice ap e.attrs.length ac]] w (Ret fun v w' => v = .bool true ∧ St W w' F) := by
  have H0 := H.dup hj (Attrs_pers _ _)
  have hml := Im.len H0 (i := 0) rfl
  refine calls_of_go (n := 182) Try.func10 rfl Try.ntmps10 rfl ?_
  refine g_seq ?_
  refine g_region ?_
  refine r_cons (s_box H0 33 (.agg #[.int .i64 e.src.v, .int .i64 e.seq.v, .int .i64 e.time.v, .string e.typ.v, .slice ap e.attrs.length ac]) rfl (cs := #[.int .i64 e.src.v, .int .i64 e.seq.v, .int .i64 e.time.v, .string e.typ.v, .slice ap e.attrs.length ac]) rfl rfl ?_); intro bk1 w2 H3
  refine r_cons (s_assign (.bool false) rfl rfl ?_)
  refine r_nil ?_
  refine g_seq ?_
  refine g_region ?_
  refine r_cons (s_loadAgg [.int .i64 e.src.v, .int .i64 e.seq.v, .int .i64 e.time.v, .string e.typ.v, .slice ap e.attrs.length ac] 5 ag_33 rfl (H3.blk_at (i := 0) rfl) (Nat.le_of_ble_eq_true rfl) rfl rfl ?_)
  refine r_cons (s_call [.agg #[.int .i64 e.src.v, .int .i64 e.seq.v, .int .i64 e.time.v, .string e.typ.v, .slice ap e.attrs.length ac]] pl_55 rfl rfl (ref04_Clone e (.slice ap e.attrs.length ac) (by omega) (j := 1) rfl H3) ?_)
  rintro _ w6 ⟨pp4, cc5, rfl, H7⟩
  refine r_cons (s_alloc H7 33 ze_33 rfl ?_); intro bk8 w9 H10
  refine r_cons (s_storeAgg H10 0 #[.int .i64 e.src.v, .int .i64 e.seq.v, .int .i64 e.time.v, .string e.typ.v, .slice pp4 e.attrs.length cc5] 5 rfl rfl rfl sz_33 rfl (by simp [Value.oneCell']) (Nat.le_of_ble_eq_true rfl) (fun o h1 h2 => by first | (simp; done) | (simp; omega)) (cs' := #[.int .i64 e.src.v, .int .i64 e.seq.v, .int .i64 e.time.v, .string e.typ.v, .slice pp4 e.attrs.length cc5]) rfl ?_); intro w11 H12
  refine r_nil ?_
  refine g_seq ?_
  refine g_region ?_
  refine r_cons (s_loadAgg [.int .i64 e.src.v, .int .i64 e.seq.v, .int .i64 e.time.v, .string e.typ.v, .slice ap e.attrs.length ac] 5 ag_33 rfl (H12.blk_at (i := 2) rfl) (Nat.le_of_ble_eq_true rfl) rfl rfl ?_)
  refine r_cons (s_call [.agg #[.int .i64 e.src.v, .int .i64 e.seq.v, .int .i64 e.time.v, .string e.typ.v, .slice ap e.attrs.length ac]] pl_23 rfl rfl (event_Clone_own e (.slice ap e.attrs.length ac) hb (j := 3) rfl H12) ?_)
  rintro _ w15 ⟨pp13, cc14, rfl, H16⟩
  refine r_cons (s_alloc H16 33 ze_33 rfl ?_); intro bk17 w18 H19
  refine r_cons (s_storeAgg H19 0 #[.int .i64 e.src.v, .int .i64 e.seq.v, .int .i64 e.time.v, .string e.typ.v, .slice pp13 e.attrs.length cc14] 5 rfl rfl rfl sz_33 rfl (by simp [Value.oneCell']) (Nat.le_of_ble_eq_true rfl) (fun o h1 h2 => by first | (simp; done) | (simp; omega)) (cs' := #[.int .i64 e.src.v, .int .i64 e.seq.v, .int .i64 e.time.v, .string e.typ.v, .slice pp13 e.attrs.length cc14]) rfl ?_); intro w20 H21
  refine r_nil ?_
  refine g_seq ?_
  refine g_seq ?_
  refine g_region ?_
  refine r_cons (s_fieldAddr 33 3 4 4 31 rfl fi_33_3 rfl rfl ?_)
  refine r_cons (s_load (.slice pp13 e.attrs.length cc14) ag_31 rfl (H21.blk_at (i := 0) rfl) rfl rfl ?_)
  refine r_cons (s_len e.attrs.length rfl ⟨_, un_31⟩ rfl ?_)
  refine r_cons (s_move (.int .i64 0) rfl rfl ?_)
  refine r_nil ?_
  refine g_block ?_
  have hmx22 := Row.max H21 (i := 1) rfl
  unfold maxLen at hmx22
  refine g_loop_inv (fun (x_ : Nat × (List AttrV)) => match x_ with | (j, M) => [(1, .pointer (some ⟨bk1, 0, none⟩)), (2, .bool false), (3, .pointer (some ⟨bk8, 0, none⟩)), (4, .pointer (some ⟨bk17, 0, none⟩)), (23, .int .i64 (e.attrs.length : Int)), (24, .int .i64 (j : Int))]) (fun (x_ : Nat × (List AttrV)) w => match x_ with | (j, M) => (j ≤ e.attrs.length) ∧ (M.length = e.attrs.length) ∧ St W w (blk bk17 (.cells #[.int .i64 e.src.v, .int .i64 e.seq.v, .int .i64 e.time.v, .string e.typ.v, .slice pp13 e.attrs.length cc14] 33 (0, 0)) :: Row 91 4 (.slice pp13 e.attrs.length cc14) e.attrs.length (M.flatMap attrCell) :: blk bk8 (.cells #[.int .i64 e.src.v, .int .i64 e.seq.v, .int .i64 e.time.v, .string e.typ.v, .slice pp4 e.attrs.length cc5] 33 (0, 0)) :: Attrs (.slice pp4 e.attrs.length cc5) e.attrs :: blk bk1 (.cells #[.int .i64 e.src.v, .int .i64 e.seq.v, .int .i64 e.time.v, .string e.typ.v, .slice ap e.attrs.length ac] 33 (0, 0)) :: Attrs (.slice ap e.attrs.length ac) e.attrs :: F)) (fun (x_ : Nat × (List AttrV)) => match x_ with | (j, M) => e.attrs.length - j) (0, e.attrs) ?_ ?_ ?_
  · exact ⟨by first | rfl | exact vint (by omega), by first | rfl | exact vint (by omega), by first | rfl | exact vint (by omega), by first | rfl | exact vint (by omega), by first | rfl | exact vint (by omega), by first | rfl | exact vint (by omega), trivial⟩
  · exact ⟨(by omega), rfl, H21⟩
  · rintro ⟨j, M⟩ ρ23 w24 ⟨hjn, hM, H25⟩ nx26
    change Ends _ _ (upds ρ23 [(1, .pointer (some ⟨bk1, 0, none⟩)), (2, .bool false), (3, .pointer (some ⟨bk8, 0, none⟩)), (4, .pointer (some ⟨bk17, 0, none⟩)), (23, .int .i64 (e.attrs.length : Int)), (24, .int .i64 (j : Int))]) w24
    refine g_seq ?_
    refine g_region ?_
    by_cases hc27 : (j : Int) < (e.attrs.length : Int)
    · skip
      refine r_cons (s_lss true rfl rfl (dtrue hc27) rfl ?_)
      refine r_nil ?_
      refine g_seq ?_
      refine g_true rfl ?_
      refine g_skip ?_
      refine g_seq ?_
      refine g_block ?_
      refine g_seq ?_
      refine g_region ?_
      refine r_cons (s_move (.int .i64 (j : Int)) rfl rfl ?_)
      refine r_cons (s_assign (.int .i64 (j : Int)) rfl rfl ?_)
      refine r_nil ?_
      refine g_region ?_
      obtain ⟨bk28, cur29, hp30, h31, h32, h33, h34, h35, H36⟩ := Row.open2 H25 (i := 1) rfl (by omega)
      refine r_cons (s_fieldAddr 33 3 4 4 31 rfl fi_33_3 rfl rfl ?_)
      refine r_cons (s_load (.slice pp13 e.attrs.length cc14) ag_31 rfl (H36.blk_at (i := 0) rfl) rfl rfl ?_)
      refine r_cons (s_move (.int .i64 (j : Int)) rfl rfl ?_)
      refine r_cons (s_indexAddr bk28 (off := 0) (j : Int) 4 (0 + j * 4) (by exact congrArg (fun z_ => Value.slice z_ e.attrs.length cc14) ((fun (_ : 0 < 1) => hp30) (by omega))) rfl el_31 (by omega) rfl rfl ?_)
      refine r_cons (s_fieldAddr 91 1 1 (0 + j * 4 + 1) 89 rfl fi_91_1 rfl rfl ?_)
      refine r_cons (s_fieldAddr 89 1 1 (0 + j * 4 + 2) 2 rfl fi_89_1 rfl rfl ?_)
      refine r_cons (s_load (.int .i64 ((M.getD j default).n.v)) ag_2 rfl (H36.blk_at (i := 1) rfl) (elem_cell (L := M) (i := j) attrCell_len (by rw [hM]; exact h34) (by have hh : M.length = e.attrs.length := hM; omega) default 2 (by decide) _ rfl) rfl ?_)
      refine r_cons (s_add (IntKind.i64.wrap ((M.getD j default).n.v + 1)) rfl rfl rfl rfl ?_)
      refine r_cons (s_indexAddr bk28 (off := 0) (j : Int) 4 (0 + j * 4) (by exact congrArg (fun z_ => Value.slice z_ e.attrs.length cc14) ((fun (_ : 0 < 1) => hp30) (by omega))) rfl el_31 (by omega) rfl rfl ?_)
      refine r_cons (s_fieldAddr 91 1 1 (0 + j * 4 + 1) 89 rfl fi_91_1 rfl rfl ?_)
      refine r_cons (s_fieldAddr 89 1 1 (0 + j * 4 + 2) 2 rfl fi_89_1 rfl rfl ?_)
      have hx39 := row_set (f := attrCell) (s := 4) (L := M) (cur := cur29) attrCell_len (by rw [hM]; exact h34) (show M.length * 4 ≤ cur29.size by rw [hM, h33]; exact Nat.mul_le_mul_right 4 h31) (j := j) (by have hh := hM; omega) default 2 (by decide) (.int .i64 (IntKind.i64.wrap ((M.getD j default).n.v + 1))) (withN (M.getD j default) ((M.getD j default).n.v + 1)) rfl
      refine r_cons (s_store H36 1 (.int .i64 (IntKind.i64.wrap ((M.getD j default).n.v + 1))) rfl rfl rfl sz_2 rfl (by have hh := hM; have hk := (show M.length * 4 ≤ cur29.size by rw [hM, h33]; exact Nat.mul_le_mul_right 4 h31); omega) (by simp) (cs' := (cur29.setIfInBounds (0 + j * 4 + 2) (.int .i64 (IntKind.i64.wrap ((M.getD j default).n.v + 1))))) rfl ?_); intro w37 H38
      refine r_nil ?_
      refine g_inBlock ?_
      refine g_region ?_
      refine r_cons (s_add ((j : Int) + 1) rfl rfl (wi64 (by omega)) rfl ?_)
      refine r_cons (s_move (.int .i64 ((j : Int) + 1)) rfl rfl ?_)
      refine r_nil ?_
      have H40 := Row.shut2 (p := pp13) (n := e.attrs.length) (c := cc14) (size := 4) (xs := (M.set j (withN (M.getD j default) ((M.getD j default).n.v + 1))).flatMap attrCell) H38 (i := 1) rfl hp30 h31 h32 (show (cur29.setIfInBounds (0 + j * 4 + 2) (.int .i64 (IntKind.i64.wrap ((M.getD j default).n.v + 1)))).size = cc14 * 4 from by rw [Array.size_setIfInBounds]; exact h33) (by have hh : ((cur29.setIfInBounds (0 + j * 4 + 2) (.int .i64 (IntKind.i64.wrap ((M.getD j default).n.v + 1)))).toList.drop 0).take ((M.set j (withN (M.getD j default) ((M.getD j default).n.v + 1))).length * 4) = (M.set j (withN (M.getD j default) ((M.getD j default).n.v + 1))).flatMap attrCell := hx39; have hk : (M.set j (withN (M.getD j default) ((M.getD j default).n.v + 1))).length = e.attrs.length := (show ((M.set j (withN (M.getD j default) ((M.getD j default).n.v + 1)))).length = e.attrs.length from by first | (rw [List.length_set]; exact hM) | rw [List.length_set]); rw [hk] at hh; exact hh) (fun x_ hx_ => by obtain ⟨a_, _, ha_⟩ := List.mem_flatMap.1 hx_; exact one_attr a_ x_ ha_)
      have H41 : St W w37 (blk bk17 (.cells #[.int .i64 e.src.v, .int .i64 e.seq.v, .int .i64 e.time.v, .string e.typ.v, .slice pp13 e.attrs.length cc14] 33 (0, 0)) :: Row 91 4 (.slice pp13 e.attrs.length cc14) e.attrs.length ((M.set j (withN (M.getD j default) ((M.getD j default).n.v + 1))).flatMap attrCell) :: blk bk8 (.cells #[.int .i64 e.src.v, .int .i64 e.seq.v, .int .i64 e.time.v, .string e.typ.v, .slice pp4 e.attrs.length cc5] 33 (0, 0)) :: Attrs (.slice pp4 e.attrs.length cc5) e.attrs :: blk bk1 (.cells #[.int .i64 e.src.v, .int .i64 e.seq.v, .int .i64 e.time.v, .string e.typ.v, .slice ap e.attrs.length ac] 33 (0, 0)) :: Attrs (.slice ap e.attrs.length ac) e.attrs :: F) := ((((((H40.move 5 rfl).move 5 rfl).move 5 rfl).move 5 rfl).move 5 rfl).move 5 rfl)
      exact nx26 (j + 1, (M.set j (withN (M.getD j default) ((M.getD j default).n.v + 1)))) _ _ ⟨(by omega), (show ((M.set j (withN (M.getD j default) ((M.getD j default).n.v + 1)))).length = e.attrs.length from by first | (rw [List.length_set]; exact hM) | rw [List.length_set]), H41⟩ (by first | (dsimp only; omega) | omega) ⟨by first | rfl | exact vint (by omega), by first | rfl | exact vint (by omega), by first | rfl | exact vint (by omega), by first | rfl | exact vint (by omega), by first | rfl | exact vint (by omega), by first | rfl | exact vint (by omega), trivial⟩
    · skip
      refine r_cons (s_lss false rfl rfl (dfalse hc27) rfl ?_)
      refine r_nil ?_
      refine g_seq ?_
      refine g_false rfl ?_
      refine g_exit (by rfl) ?_
      refine g_seq ?_
      refine g_region ?_
      refine r_cons (s_call [.int .i64 16] pl_11 rfl rfl (event_New 16 (by decide) H25) ?_)
      rintro _ w43 ⟨bk42, rfl, H44⟩
      refine r_cons (s_move (.tuple #[.pointer (some ⟨bk42, 0, none⟩), .int .i64 0]) rfl rfl ?_)
      refine r_cons (s_extract (.pointer (some ⟨bk42, 0, none⟩)) #[.pointer (some ⟨bk42, 0, none⟩), .int .i64 0] rfl rfl rfl ?_)
      refine r_cons (s_extract (.int .i64 0) #[.pointer (some ⟨bk42, 0, none⟩), .int .i64 0] rfl rfl rfl ?_)
      refine r_cons (s_assign (.pointer (some ⟨bk42, 0, none⟩)) rfl rfl ?_)
      refine r_cons (s_assign (.int .i64 0) rfl rfl ?_)
      refine r_nil ?_
      refine g_seq ?_
      refine g_seq ?_
      refine g_region ?_
      refine r_cons (s_call [] pl_12 rfl rfl (begun_ H44) ?_)
      rintro _ w45 ⟨rfl, H46⟩
      refine r_cons (s_not true rfl false rfl rfl ?_)
      refine r_cons (s_move (.bool false) rfl rfl ?_)
      refine r_cons (r_take rfl rfl ?_)
      refine s_move (.pointer (some ⟨bk42, 0, none⟩)) rfl rfl ?_
      refine r_cons (r_take rfl rfl ?_)
      refine s_peql false un_23 rfl rfl rfl rfl ?_
      refine r_cons (s_pick_f (.bool false) rfl rfl rfl ?_)
      refine r_cons (s_move (.bool false) rfl rfl ?_)
      refine r_cons (r_take rfl rfl ?_)
      refine s_move (.int .i64 0) rfl rfl ?_
      refine r_cons (r_take rfl rfl ?_)
      refine s_neq false rfl rfl (ntrue (by decide)) rfl ?_
      refine r_cons (s_pick_f (.bool false) rfl rfl rfl ?_)
      refine r_cons (s_move (.bool false) rfl rfl ?_)
      refine r_cons (r_take rfl rfl ?_)
      refine s_loadAgg [.int .i64 e.src.v, .int .i64 e.seq.v, .int .i64 e.time.v, .string e.typ.v, .slice ap e.attrs.length ac] 5 ag_33 rfl (H46.blk_at (i := 5) rfl) (Nat.le_of_ble_eq_true rfl) rfl rfl ?_
      refine r_cons (r_take rfl rfl ?_)
      refine s_loadAgg [.int .i64 e.src.v, .int .i64 e.seq.v, .int .i64 e.time.v, .string e.typ.v, .slice pp4 e.attrs.length cc5] 5 ag_33 rfl (H46.blk_at (i := 3) rfl) (Nat.le_of_ble_eq_true rfl) rfl rfl ?_
      refine r_cons (r_take rfl rfl ?_)
      refine s_call [.agg #[.int .i64 e.src.v, .int .i64 e.seq.v, .int .i64 e.time.v, .string e.typ.v, .slice ap e.attrs.length ac], .agg #[.int .i64 e.src.v, .int .i64 e.seq.v, .int .i64 e.time.v, .string e.typ.v, .slice pp4 e.attrs.length cc5]] pl_20 rfl rfl (ref04_Same e e (.slice ap e.attrs.length ac) (.slice pp4 e.attrs.length cc5) (j := 6) (k := 4) rfl rfl H46) ?_
      rintro _ w47 ⟨rfl, H48⟩
      refine r_cons (r_take rfl rfl ?_)
      have hs1 : (sameEv e e) = true := sameEv_iff.2 rfl
      refine s_not (sameEv e e) rfl false (by rw [hs1]; rfl) rfl ?_
      refine r_cons (s_pick_f (.bool false) rfl rfl rfl ?_)
      refine r_nil ?_
      refine g_false rfl ?_
      refine g_skip ?_
      refine g_seq ?_
      refine g_region ?_
      refine r_cons (s_loadAgg [.int .i64 e.src.v, .int .i64 e.seq.v, .int .i64 e.time.v, .string e.typ.v, .slice ap e.attrs.length ac] 5 ag_33 rfl (H48.blk_at (i := 5) rfl) (Nat.le_of_ble_eq_true rfl) rfl rfl ?_)
      refine r_cons (s_call [.agg #[.int .i64 e.src.v, .int .i64 e.seq.v, .int .i64 e.time.v, .string e.typ.v, .slice ap e.attrs.length ac]] pl_55 rfl rfl (ref04_Clone_own e (.slice ap e.attrs.length ac) hb (j := 6) rfl H48) ?_)
      rintro _ w51 ⟨pp49, cc50, rfl, H52⟩
      refine r_cons (s_alloc H52 33 ze_33 rfl ?_); intro bk53 w54 H55
      refine r_cons (s_storeAgg H55 0 #[.int .i64 e.src.v, .int .i64 e.seq.v, .int .i64 e.time.v, .string e.typ.v, .slice pp49 e.attrs.length cc50] 5 rfl rfl rfl sz_33 rfl (by simp [Value.oneCell']) (Nat.le_of_ble_eq_true rfl) (fun o h1 h2 => by first | (simp; done) | (simp; omega)) (cs' := #[.int .i64 e.src.v, .int .i64 e.seq.v, .int .i64 e.time.v, .string e.typ.v, .slice pp49 e.attrs.length cc50]) rfl ?_); intro w56 H57
      refine r_nil ?_
      refine g_seq ?_
      refine g_region ?_
      refine r_cons (s_fieldAddr 33 0 0 0 30 rfl fi_33_0 rfl rfl ?_)
      refine r_cons (s_fieldAddr 30 1 1 1 2 rfl fi_30_1 rfl rfl ?_)
      refine r_cons (s_store H57 0 (.int .i64 0) rfl rfl rfl sz_2 rfl (Nat.le_of_ble_eq_true rfl) rfl (cs' := #[.int .i64 e.src.v, .int .i64 0, .int .i64 e.time.v, .string e.typ.v, .slice pp49 e.attrs.length cc50]) rfl ?_); intro w58 H59
      refine r_nil ?_
      refine g_seq ?_
      refine g_region ?_
      have H60 : St W w58 (blk bk53 (.cells #[.int .i64 ((ev0 e).src.v), .int .i64 ((ev0 e).seq.v), .int .i64 ((ev0 e).time.v), .string ((ev0 e).typ.v), .slice pp49 ((ev0 e).attrs.length) cc50] 33 (0, 0)) :: Row 91 4 (.slice pp49 ((ev0 e).attrs.length) cc50) (((ev0 e).attrs).length) (((ev0 e).attrs).flatMap attrCell) :: Streams bk42 16 zeroSt [] :: blk bk17 (.cells #[.int .i64 e.src.v, .int .i64 e.seq.v, .int .i64 e.time.v, .string e.typ.v, .slice pp13 e.attrs.length cc14] 33 (0, 0)) :: Row 91 4 (.slice pp13 e.attrs.length cc14) e.attrs.length (M.flatMap attrCell) :: blk bk8 (.cells #[.int .i64 e.src.v, .int .i64 e.seq.v, .int .i64 e.time.v, .string e.typ.v, .slice pp4 e.attrs.length cc5] 33 (0, 0)) :: Attrs (.slice pp4 e.attrs.length cc5) e.attrs :: blk bk1 (.cells #[.int .i64 e.src.v, .int .i64 e.seq.v, .int .i64 e.time.v, .string e.typ.v, .slice ap e.attrs.length ac] 33 (0, 0)) :: Attrs (.slice ap e.attrs.length ac) e.attrs :: F) := H59
      refine r_cons (s_loadAgg [.int .i64 ((ev0 e).src.v), .int .i64 ((ev0 e).seq.v), .int .i64 ((ev0 e).time.v), .string ((ev0 e).typ.v), .slice pp49 ((ev0 e).attrs.length) cc50] 5 ag_33 rfl (H60.blk_at (i := 0) rfl) (Nat.le_of_ble_eq_true rfl) rfl rfl ?_)
      refine r_cons (s_call [.agg #[.int .i64 ((ev0 e).src.v), .int .i64 ((ev0 e).seq.v), .int .i64 ((ev0 e).time.v), .string ((ev0 e).typ.v), .slice pp49 ((ev0 e).attrs.length) cc50]] pl_55 rfl rfl (ref04_Clone_lent (ev0 e) pp49 cc50 hb (j := 1) rfl H60) ?_)
      rintro _ w63 ⟨pp61, cc62, rfl, H64⟩
      have H65 : St W w63 (Attrs (.slice pp61 ((ev0 e).attrs.length) cc62) ((ev0 e).attrs) :: blk bk53 (.cells #[.int .i64 ((ev0 e).src.v), .int .i64 ((ev0 e).seq.v), .int .i64 ((ev0 e).time.v), .string ((ev0 e).typ.v), .slice pp49 ((ev0 e).attrs.length) cc50] 33 (0, 0)) :: Row 91 4 (.slice pp49 ((ev0 e).attrs.length) cc50) (((ev0 e).attrs).length) (((ev0 e).attrs).flatMap attrCell) :: Streams bk42 16 zeroSt [] :: blk bk17 (.cells #[.int .i64 e.src.v, .int .i64 e.seq.v, .int .i64 e.time.v, .string e.typ.v, .slice pp13 e.attrs.length cc14] 33 (0, 0)) :: Row 91 4 (.slice pp13 e.attrs.length cc14) e.attrs.length (M.flatMap attrCell) :: blk bk8 (.cells #[.int .i64 e.src.v, .int .i64 e.seq.v, .int .i64 e.time.v, .string e.typ.v, .slice pp4 e.attrs.length cc5] 33 (0, 0)) :: Attrs (.slice pp4 e.attrs.length cc5) e.attrs :: blk bk1 (.cells #[.int .i64 e.src.v, .int .i64 e.seq.v, .int .i64 e.time.v, .string e.typ.v, .slice ap e.attrs.length ac] 33 (0, 0)) :: Attrs (.slice ap e.attrs.length ac) e.attrs :: F) := Row.im H64 (i := 0) rfl
      refine r_cons (s_alloc H65 33 ze_33 rfl ?_); intro bk66 w67 H68
      refine r_cons (s_storeAgg H68 0 #[.int .i64 ((ev0 e).src.v), .int .i64 ((ev0 e).seq.v), .int .i64 ((ev0 e).time.v), .string ((ev0 e).typ.v), .slice pp61 ((ev0 e).attrs.length) cc62] 5 rfl rfl rfl sz_33 rfl (by simp [Value.oneCell']) (Nat.le_of_ble_eq_true rfl) (fun o h1 h2 => by first | (simp; done) | (simp; omega)) (cs' := #[.int .i64 ((ev0 e).src.v), .int .i64 ((ev0 e).seq.v), .int .i64 ((ev0 e).time.v), .string ((ev0 e).typ.v), .slice pp61 ((ev0 e).attrs.length) cc62]) rfl ?_); intro w69 H70
      refine r_nil ?_
      refine g_seq ?_
      refine g_region ?_
      refine r_cons (s_move (.pointer (some ⟨bk42, 0, none⟩)) rfl rfl ?_)
      refine r_cons (s_loadAgg [.int .i64 ((ev0 e).src.v), .int .i64 ((ev0 e).seq.v), .int .i64 ((ev0 e).time.v), .string ((ev0 e).typ.v), .slice pp49 ((ev0 e).attrs.length) cc50] 5 ag_33 rfl (H70.blk_at (i := 2) rfl) (Nat.le_of_ble_eq_true rfl) rfl rfl ?_)
      have H71 : St W w69 (Streams bk42 16 zeroSt [] :: Row 91 4 (.slice pp49 ((ev0 e).attrs.length) cc50) (((ev0 e).attrs).length) (((ev0 e).attrs).flatMap attrCell) :: blk bk66 (.cells #[.int .i64 ((ev0 e).src.v), .int .i64 ((ev0 e).seq.v), .int .i64 ((ev0 e).time.v), .string ((ev0 e).typ.v), .slice pp61 ((ev0 e).attrs.length) cc62] 33 (0, 0)) :: Attrs (.slice pp61 ((ev0 e).attrs.length) cc62) ((ev0 e).attrs) :: blk bk53 (.cells #[.int .i64 ((ev0 e).src.v), .int .i64 ((ev0 e).seq.v), .int .i64 ((ev0 e).time.v), .string ((ev0 e).typ.v), .slice pp49 ((ev0 e).attrs.length) cc50] 33 (0, 0)) :: blk bk17 (.cells #[.int .i64 e.src.v, .int .i64 e.seq.v, .int .i64 e.time.v, .string e.typ.v, .slice pp13 e.attrs.length cc14] 33 (0, 0)) :: Row 91 4 (.slice pp13 e.attrs.length cc14) e.attrs.length (M.flatMap attrCell) :: blk bk8 (.cells #[.int .i64 e.src.v, .int .i64 e.seq.v, .int .i64 e.time.v, .string e.typ.v, .slice pp4 e.attrs.length cc5] 33 (0, 0)) :: Attrs (.slice pp4 e.attrs.length cc5) e.attrs :: blk bk1 (.cells #[.int .i64 e.src.v, .int .i64 e.seq.v, .int .i64 e.time.v, .string e.typ.v, .slice ap e.attrs.length ac] 33 (0, 0)) :: Attrs (.slice ap e.attrs.length ac) e.attrs :: F) := ((H70.move 3 rfl).move 4 rfl)
      refine r_cons (s_call [.pointer (some ⟨bk42, 0, none⟩), .agg #[.int .i64 ((ev0 e).src.v), .int .i64 ((ev0 e).seq.v), .int .i64 ((ev0 e).time.v), .string ((ev0 e).typ.v), .slice pp49 ((ev0 e).attrs.length) cc50]] pl_16 rfl rfl (Streams_Accept_own bk42 16 zeroSt ([] : List EvM) (ev0 e) pp49 cc50 H71) ?_)
      rintro _ w72 ⟨rfl, H73⟩
      refine r_cons (s_assign (.int .i64 (acceptE 16 zeroSt ([] : List EvM).length (ev0 e))) rfl rfl ?_)
      refine r_nil ?_
      refine g_seq ?_
      refine g_seq ?_
      refine g_region ?_
      refine r_cons (s_fieldAddr 33 3 4 4 31 rfl fi_33_3 rfl rfl ?_)
      refine r_cons (s_load (.slice pp49 ((ev0 e).attrs.length) cc50) ag_31 rfl (H73.blk_at (i := 4) rfl) rfl rfl ?_)
      refine r_cons (s_len ((ev0 e).attrs.length) rfl ⟨_, un_31⟩ rfl ?_)
      refine r_cons (s_move (.int .i64 0) rfl rfl ?_)
      refine r_nil ?_
      refine g_block ?_
      have hmx74 := Row.max H73 (i := 1) rfl
      unfold maxLen at hmx74
      refine g_loop_inv (fun (x_ : Nat × (List AttrV)) => match x_ with | (j, M2) => [(1, .pointer (some ⟨bk1, 0, none⟩)), (2, .bool false), (6, .pointer (some ⟨bk42, 0, none⟩)), (7, .int .i64 (acceptE 16 zeroSt ([] : List EvM).length (ev0 e))), (8, .pointer (some ⟨bk53, 0, none⟩)), (9, .pointer (some ⟨bk66, 0, none⟩)), (70, .int .i64 ((ev0 e).attrs.length : Int)), (71, .int .i64 (j : Int))]) (fun (x_ : Nat × (List AttrV)) w => match x_ with | (j, M2) => (j ≤ ((ev0 e).attrs).length) ∧ (M2.length = ((ev0 e).attrs).length) ∧ St W w (Streams bk42 16 (accSt 16 zeroSt ([] : List EvM) (ev0 e)) (accEvs 16 zeroSt ([] : List EvM) (ev0 e)) :: Row 91 4 (.slice pp49 ((ev0 e).attrs.length) cc50) (((ev0 e).attrs).length) (M2.flatMap attrCell) :: blk bk66 (.cells #[.int .i64 ((ev0 e).src.v), .int .i64 ((ev0 e).seq.v), .int .i64 ((ev0 e).time.v), .string ((ev0 e).typ.v), .slice pp61 ((ev0 e).attrs.length) cc62] 33 (0, 0)) :: Attrs (.slice pp61 ((ev0 e).attrs.length) cc62) ((ev0 e).attrs) :: blk bk53 (.cells #[.int .i64 ((ev0 e).src.v), .int .i64 ((ev0 e).seq.v), .int .i64 ((ev0 e).time.v), .string ((ev0 e).typ.v), .slice pp49 ((ev0 e).attrs.length) cc50] 33 (0, 0)) :: blk bk17 (.cells #[.int .i64 e.src.v, .int .i64 e.seq.v, .int .i64 e.time.v, .string e.typ.v, .slice pp13 e.attrs.length cc14] 33 (0, 0)) :: Row 91 4 (.slice pp13 e.attrs.length cc14) e.attrs.length (M.flatMap attrCell) :: blk bk8 (.cells #[.int .i64 e.src.v, .int .i64 e.seq.v, .int .i64 e.time.v, .string e.typ.v, .slice pp4 e.attrs.length cc5] 33 (0, 0)) :: Attrs (.slice pp4 e.attrs.length cc5) e.attrs :: blk bk1 (.cells #[.int .i64 e.src.v, .int .i64 e.seq.v, .int .i64 e.time.v, .string e.typ.v, .slice ap e.attrs.length ac] 33 (0, 0)) :: Attrs (.slice ap e.attrs.length ac) e.attrs :: F)) (fun (x_ : Nat × (List AttrV)) => match x_ with | (j, M2) => ((ev0 e).attrs).length - j) (0, ((ev0 e).attrs)) ?_ ?_ ?_
      · exact ⟨by first | rfl | exact vint (by omega), by first | rfl | exact vint (by omega), by first | rfl | exact vint (by omega), by first | rfl | exact vint (by omega), by first | rfl | exact vint (by omega), by first | rfl | exact vint (by omega), by first | rfl | exact vint (by omega), by first | rfl | exact vint (by omega), trivial⟩
      · exact ⟨(by omega), rfl, H73⟩
      · rintro ⟨j, M2⟩ ρ75 w76 ⟨hjn, hM2, H77⟩ nx78
        change Ends _ _ (upds ρ75 [(1, .pointer (some ⟨bk1, 0, none⟩)), (2, .bool false), (6, .pointer (some ⟨bk42, 0, none⟩)), (7, .int .i64 (acceptE 16 zeroSt ([] : List EvM).length (ev0 e))), (8, .pointer (some ⟨bk53, 0, none⟩)), (9, .pointer (some ⟨bk66, 0, none⟩)), (70, .int .i64 ((ev0 e).attrs.length : Int)), (71, .int .i64 (j : Int))]) w76
        refine g_seq ?_
        refine g_region ?_
        by_cases hc79 : (j : Int) < ((ev0 e).attrs.length : Int)
        · skip
          refine r_cons (s_lss true rfl rfl (dtrue hc79) rfl ?_)
          refine r_nil ?_
          refine g_seq ?_
          refine g_true rfl ?_
          refine g_skip ?_
          refine g_seq ?_
          refine g_block ?_
          refine g_seq ?_
          refine g_region ?_
          refine r_cons (s_move (.int .i64 (j : Int)) rfl rfl ?_)
          refine r_cons (s_assign (.int .i64 (j : Int)) rfl rfl ?_)
          refine r_nil ?_
          refine g_region ?_
          obtain ⟨bk80, cur81, hp82, h83, h84, h85, h86, h87, H88⟩ := Row.open2 H77 (i := 1) rfl (by omega)
          refine r_cons (s_fieldAddr 33 3 4 4 31 rfl fi_33_3 rfl rfl ?_)
          refine r_cons (s_load (.slice pp49 ((ev0 e).attrs.length) cc50) ag_31 rfl (H88.blk_at (i := 4) rfl) rfl rfl ?_)
          refine r_cons (s_move (.int .i64 (j : Int)) rfl rfl ?_)
          refine r_cons (s_indexAddr bk80 (off := 0) (j : Int) 4 (0 + j * 4) (by exact congrArg (fun z_ => Value.slice z_ ((ev0 e).attrs.length) cc50) ((fun (_ : 0 < 1) => hp82) (by omega))) rfl el_31 (by omega) rfl rfl ?_)
          refine r_cons (s_fieldAddr 91 1 1 (0 + j * 4 + 1) 89 rfl fi_91_1 rfl rfl ?_)
          refine r_cons (s_fieldAddr 89 1 1 (0 + j * 4 + 2) 2 rfl fi_89_1 rfl rfl ?_)
          refine r_cons (s_load (.int .i64 ((M2.getD j default).n.v)) ag_2 rfl (H88.blk_at (i := 1) rfl) (elem_cell (L := M2) (i := j) attrCell_len (by rw [hM2]; exact h86) (by have hh : M2.length = ((ev0 e).attrs).length := hM2; omega) default 2 (by decide) _ rfl) rfl ?_)
          refine r_cons (s_add (IntKind.i64.wrap ((M2.getD j default).n.v + 1)) rfl rfl rfl rfl ?_)
          refine r_cons (s_indexAddr bk80 (off := 0) (j : Int) 4 (0 + j * 4) (by exact congrArg (fun z_ => Value.slice z_ ((ev0 e).attrs.length) cc50) ((fun (_ : 0 < 1) => hp82) (by omega))) rfl el_31 (by omega) rfl rfl ?_)
          refine r_cons (s_fieldAddr 91 1 1 (0 + j * 4 + 1) 89 rfl fi_91_1 rfl rfl ?_)
          refine r_cons (s_fieldAddr 89 1 1 (0 + j * 4 + 2) 2 rfl fi_89_1 rfl rfl ?_)
          have hx91 := row_set (f := attrCell) (s := 4) (L := M2) (cur := cur81) attrCell_len (by rw [hM2]; exact h86) (show M2.length * 4 ≤ cur81.size by rw [hM2, h85]; exact Nat.mul_le_mul_right 4 h83) (j := j) (by have hh := hM2; omega) default 2 (by decide) (.int .i64 (IntKind.i64.wrap ((M2.getD j default).n.v + 1))) (withN (M2.getD j default) ((M2.getD j default).n.v + 1)) rfl
          refine r_cons (s_store H88 1 (.int .i64 (IntKind.i64.wrap ((M2.getD j default).n.v + 1))) rfl rfl rfl sz_2 rfl (by have hh := hM2; have hk := (show M2.length * 4 ≤ cur81.size by rw [hM2, h85]; exact Nat.mul_le_mul_right 4 h83); omega) (by simp) (cs' := (cur81.setIfInBounds (0 + j * 4 + 2) (.int .i64 (IntKind.i64.wrap ((M2.getD j default).n.v + 1))))) rfl ?_); intro w89 H90
          refine r_nil ?_
          refine g_inBlock ?_
          refine g_region ?_
          refine r_cons (s_add ((j : Int) + 1) rfl rfl (wi64 (by omega)) rfl ?_)
          refine r_cons (s_move (.int .i64 ((j : Int) + 1)) rfl rfl ?_)
          refine r_nil ?_
          have H92 := Row.shut2 (p := pp49) (n := ((ev0 e).attrs).length) (c := cc50) (size := 4) (xs := (M2.set j (withN (M2.getD j default) ((M2.getD j default).n.v + 1))).flatMap attrCell) H90 (i := 1) rfl hp82 h83 h84 (show (cur81.setIfInBounds (0 + j * 4 + 2) (.int .i64 (IntKind.i64.wrap ((M2.getD j default).n.v + 1)))).size = cc50 * 4 from by rw [Array.size_setIfInBounds]; exact h85) (by have hh : ((cur81.setIfInBounds (0 + j * 4 + 2) (.int .i64 (IntKind.i64.wrap ((M2.getD j default).n.v + 1)))).toList.drop 0).take ((M2.set j (withN (M2.getD j default) ((M2.getD j default).n.v + 1))).length * 4) = (M2.set j (withN (M2.getD j default) ((M2.getD j default).n.v + 1))).flatMap attrCell := hx91; have hk : (M2.set j (withN (M2.getD j default) ((M2.getD j default).n.v + 1))).length = ((ev0 e).attrs).length := (show ((M2.set j (withN (M2.getD j default) ((M2.getD j default).n.v + 1)))).length = ((ev0 e).attrs).length from by first | (rw [List.length_set]; exact hM2) | rw [List.length_set]); rw [hk] at hh; exact hh) (fun x_ hx_ => by obtain ⟨a_, _, ha_⟩ := List.mem_flatMap.1 hx_; exact one_attr a_ x_ ha_)
          have H93 : St W w89 (Row 91 4 (.slice pp13 e.attrs.length cc14) e.attrs.length (M.flatMap attrCell) :: blk bk8 (.cells #[.int .i64 e.src.v, .int .i64 e.seq.v, .int .i64 e.time.v, .string e.typ.v, .slice pp4 e.attrs.length cc5] 33 (0, 0)) :: Attrs (.slice pp4 e.attrs.length cc5) e.attrs :: blk bk1 (.cells #[.int .i64 e.src.v, .int .i64 e.seq.v, .int .i64 e.time.v, .string e.typ.v, .slice ap e.attrs.length ac] 33 (0, 0)) :: Attrs (.slice ap e.attrs.length ac) e.attrs :: Streams bk42 16 (accSt 16 zeroSt ([] : List EvM) (ev0 e)) (accEvs 16 zeroSt ([] : List EvM) (ev0 e)) :: Row 91 4 (.slice pp49 ((ev0 e).attrs.length) cc50) (((ev0 e).attrs).length) ((M2.set j (withN (M2.getD j default) ((M2.getD j default).n.v + 1))).flatMap attrCell) :: blk bk66 (.cells #[.int .i64 ((ev0 e).src.v), .int .i64 ((ev0 e).seq.v), .int .i64 ((ev0 e).time.v), .string ((ev0 e).typ.v), .slice pp61 ((ev0 e).attrs.length) cc62] 33 (0, 0)) :: Attrs (.slice pp61 ((ev0 e).attrs.length) cc62) ((ev0 e).attrs) :: blk bk53 (.cells #[.int .i64 ((ev0 e).src.v), .int .i64 ((ev0 e).seq.v), .int .i64 ((ev0 e).time.v), .string ((ev0 e).typ.v), .slice pp49 ((ev0 e).attrs.length) cc50] 33 (0, 0)) :: blk bk17 (.cells #[.int .i64 e.src.v, .int .i64 e.seq.v, .int .i64 e.time.v, .string e.typ.v, .slice pp13 e.attrs.length cc14] 33 (0, 0)) :: F) := (((((H92.move 10 rfl).move 10 rfl).move 10 rfl).move 10 rfl).move 10 rfl)
          have H94 : St W w89 (Row 91 4 (.slice pp49 ((ev0 e).attrs.length) cc50) (((ev0 e).attrs).length) ((M2.set j (withN (M2.getD j default) ((M2.getD j default).n.v + 1))).flatMap attrCell) :: blk bk66 (.cells #[.int .i64 ((ev0 e).src.v), .int .i64 ((ev0 e).seq.v), .int .i64 ((ev0 e).time.v), .string ((ev0 e).typ.v), .slice pp61 ((ev0 e).attrs.length) cc62] 33 (0, 0)) :: Attrs (.slice pp61 ((ev0 e).attrs.length) cc62) ((ev0 e).attrs) :: blk bk53 (.cells #[.int .i64 ((ev0 e).src.v), .int .i64 ((ev0 e).seq.v), .int .i64 ((ev0 e).time.v), .string ((ev0 e).typ.v), .slice pp49 ((ev0 e).attrs.length) cc50] 33 (0, 0)) :: blk bk17 (.cells #[.int .i64 e.src.v, .int .i64 e.seq.v, .int .i64 e.time.v, .string e.typ.v, .slice pp13 e.attrs.length cc14] 33 (0, 0)) :: Row 91 4 (.slice pp13 e.attrs.length cc14) e.attrs.length (M.flatMap attrCell) :: blk bk8 (.cells #[.int .i64 e.src.v, .int .i64 e.seq.v, .int .i64 e.time.v, .string e.typ.v, .slice pp4 e.attrs.length cc5] 33 (0, 0)) :: Attrs (.slice pp4 e.attrs.length cc5) e.attrs :: blk bk1 (.cells #[.int .i64 e.src.v, .int .i64 e.seq.v, .int .i64 e.time.v, .string e.typ.v, .slice ap e.attrs.length ac] 33 (0, 0)) :: Attrs (.slice ap e.attrs.length ac) e.attrs :: Streams bk42 16 (accSt 16 zeroSt ([] : List EvM) (ev0 e)) (accEvs 16 zeroSt ([] : List EvM) (ev0 e)) :: F) := (((((H93.move 10 rfl).move 10 rfl).move 10 rfl).move 10 rfl).move 10 rfl)
          have H95 : St W w89 (Streams bk42 16 (accSt 16 zeroSt ([] : List EvM) (ev0 e)) (accEvs 16 zeroSt ([] : List EvM) (ev0 e)) :: Row 91 4 (.slice pp49 ((ev0 e).attrs.length) cc50) (((ev0 e).attrs).length) ((M2.set j (withN (M2.getD j default) ((M2.getD j default).n.v + 1))).flatMap attrCell) :: blk bk66 (.cells #[.int .i64 ((ev0 e).src.v), .int .i64 ((ev0 e).seq.v), .int .i64 ((ev0 e).time.v), .string ((ev0 e).typ.v), .slice pp61 ((ev0 e).attrs.length) cc62] 33 (0, 0)) :: Attrs (.slice pp61 ((ev0 e).attrs.length) cc62) ((ev0 e).attrs) :: blk bk53 (.cells #[.int .i64 ((ev0 e).src.v), .int .i64 ((ev0 e).seq.v), .int .i64 ((ev0 e).time.v), .string ((ev0 e).typ.v), .slice pp49 ((ev0 e).attrs.length) cc50] 33 (0, 0)) :: blk bk17 (.cells #[.int .i64 e.src.v, .int .i64 e.seq.v, .int .i64 e.time.v, .string e.typ.v, .slice pp13 e.attrs.length cc14] 33 (0, 0)) :: Row 91 4 (.slice pp13 e.attrs.length cc14) e.attrs.length (M.flatMap attrCell) :: blk bk8 (.cells #[.int .i64 e.src.v, .int .i64 e.seq.v, .int .i64 e.time.v, .string e.typ.v, .slice pp4 e.attrs.length cc5] 33 (0, 0)) :: Attrs (.slice pp4 e.attrs.length cc5) e.attrs :: blk bk1 (.cells #[.int .i64 e.src.v, .int .i64 e.seq.v, .int .i64 e.time.v, .string e.typ.v, .slice ap e.attrs.length ac] 33 (0, 0)) :: Attrs (.slice ap e.attrs.length ac) e.attrs :: F) := (H94.move 10 rfl)
          exact nx78 (j + 1, (M2.set j (withN (M2.getD j default) ((M2.getD j default).n.v + 1)))) _ _ ⟨(by omega), (show ((M2.set j (withN (M2.getD j default) ((M2.getD j default).n.v + 1)))).length = ((ev0 e).attrs).length from by first | (rw [List.length_set]; exact hM2) | rw [List.length_set]), H95⟩ (by first | (dsimp only; omega) | omega) ⟨by first | rfl | exact vint (by omega), by first | rfl | exact vint (by omega), by first | rfl | exact vint (by omega), by first | rfl | exact vint (by omega), by first | rfl | exact vint (by omega), by first | rfl | exact vint (by omega), by first | rfl | exact vint (by omega), by first | rfl | exact vint (by omega), trivial⟩
        · skip
          refine r_cons (s_lss false rfl rfl (dfalse hc79) rfl ?_)
          refine r_nil ?_
          refine g_seq ?_
          refine g_false rfl ?_
          refine g_exit (by rfl) ?_
          refine g_seq ?_
          refine g_seq ?_
          refine g_region ?_
          refine r_cons (s_move (.pointer (some ⟨bk42, 0, none⟩)) rfl rfl ?_)
          refine r_cons (s_call [.pointer (some ⟨bk42, 0, none⟩)] pl_34 rfl rfl (Streams_All bk42 16 (accSt 16 zeroSt ([] : List EvM) (ev0 e)) (accEvs 16 zeroSt ([] : List EvM) (ev0 e)) (okEvs_acc okEvs_nil _).1 (okEvs_acc okEvs_nil _).2 (i := 0) rfl H77) ?_)
          rintro _ w97 ⟨bk96, rfl, H98⟩
          refine r_nil ?_
          refine g_block ?_
          obtain ⟨evs2, hev2⟩ : ∃ x, x = accEvs 16 zeroSt ([] : List EvM) (ev0 e) := ⟨_, rfl⟩
          have hok2 : okEvs evs2 := hev2 ▸ okEvs_acc okEvs_nil _
          have H99 : St W w97 (AllA bk96 evs2 :: Streams bk42 16 (accSt 16 zeroSt ([] : List EvM) (ev0 e)) (accEvs 16 zeroSt ([] : List EvM) (ev0 e)) :: Row 91 4 (.slice pp49 ((ev0 e).attrs.length) cc50) (((ev0 e).attrs).length) (M2.flatMap attrCell) :: blk bk66 (.cells #[.int .i64 ((ev0 e).src.v), .int .i64 ((ev0 e).seq.v), .int .i64 ((ev0 e).time.v), .string ((ev0 e).typ.v), .slice pp61 ((ev0 e).attrs.length) cc62] 33 (0, 0)) :: Attrs (.slice pp61 ((ev0 e).attrs.length) cc62) ((ev0 e).attrs) :: blk bk53 (.cells #[.int .i64 ((ev0 e).src.v), .int .i64 ((ev0 e).seq.v), .int .i64 ((ev0 e).time.v), .string ((ev0 e).typ.v), .slice pp49 ((ev0 e).attrs.length) cc50] 33 (0, 0)) :: blk bk17 (.cells #[.int .i64 e.src.v, .int .i64 e.seq.v, .int .i64 e.time.v, .string e.typ.v, .slice pp13 e.attrs.length cc14] 33 (0, 0)) :: Row 91 4 (.slice pp13 e.attrs.length cc14) e.attrs.length (M.flatMap attrCell) :: blk bk8 (.cells #[.int .i64 e.src.v, .int .i64 e.seq.v, .int .i64 e.time.v, .string e.typ.v, .slice pp4 e.attrs.length cc5] 33 (0, 0)) :: Attrs (.slice pp4 e.attrs.length cc5) e.attrs :: blk bk1 (.cells #[.int .i64 e.src.v, .int .i64 e.seq.v, .int .i64 e.time.v, .string e.typ.v, .slice ap e.attrs.length ac] 33 (0, 0)) :: Attrs (.slice ap e.attrs.length ac) e.attrs :: F) := by rw [hev2]; exact H98
          have H100 : St W w97 (((fun _ : List EvD => emp) ([] : List EvD)) :: AllA bk96 evs2 :: Streams bk42 16 (accSt 16 zeroSt ([] : List EvM) (ev0 e)) (accEvs 16 zeroSt ([] : List EvM) (ev0 e)) :: Row 91 4 (.slice pp49 ((ev0 e).attrs.length) cc50) (((ev0 e).attrs).length) (M2.flatMap attrCell) :: blk bk66 (.cells #[.int .i64 ((ev0 e).src.v), .int .i64 ((ev0 e).seq.v), .int .i64 ((ev0 e).time.v), .string ((ev0 e).typ.v), .slice pp61 ((ev0 e).attrs.length) cc62] 33 (0, 0)) :: Attrs (.slice pp61 ((ev0 e).attrs.length) cc62) ((ev0 e).attrs) :: blk bk53 (.cells #[.int .i64 ((ev0 e).src.v), .int .i64 ((ev0 e).seq.v), .int .i64 ((ev0 e).time.v), .string ((ev0 e).typ.v), .slice pp49 ((ev0 e).attrs.length) cc50] 33 (0, 0)) :: blk bk17 (.cells #[.int .i64 e.src.v, .int .i64 e.seq.v, .int .i64 e.time.v, .string e.typ.v, .slice pp13 e.attrs.length cc14] 33 (0, 0)) :: Row 91 4 (.slice pp13 e.attrs.length cc14) e.attrs.length (M.flatMap attrCell) :: blk bk8 (.cells #[.int .i64 e.src.v, .int .i64 e.seq.v, .int .i64 e.time.v, .string e.typ.v, .slice pp4 e.attrs.length cc5] 33 (0, 0)) :: Attrs (.slice pp4 e.attrs.length cc5) e.attrs :: blk bk1 (.cells #[.int .i64 e.src.v, .int .i64 e.seq.v, .int .i64 e.time.v, .string e.typ.v, .slice ap e.attrs.length ac] 33 (0, 0)) :: Attrs (.slice ap e.attrs.length ac) e.attrs :: F) := H99.cons_emp
          refine g_range1 (W := W) (F := AllA bk96 evs2 :: Streams bk42 16 (accSt 16 zeroSt ([] : List EvM) (ev0 e)) (accEvs 16 zeroSt ([] : List EvM) (ev0 e)) :: Row 91 4 (.slice pp49 ((ev0 e).attrs.length) cc50) (((ev0 e).attrs).length) (M2.flatMap attrCell) :: blk bk66 (.cells #[.int .i64 ((ev0 e).src.v), .int .i64 ((ev0 e).seq.v), .int .i64 ((ev0 e).time.v), .string ((ev0 e).typ.v), .slice pp61 ((ev0 e).attrs.length) cc62] 33 (0, 0)) :: Attrs (.slice pp61 ((ev0 e).attrs.length) cc62) ((ev0 e).attrs) :: blk bk53 (.cells #[.int .i64 ((ev0 e).src.v), .int .i64 ((ev0 e).seq.v), .int .i64 ((ev0 e).time.v), .string ((ev0 e).typ.v), .slice pp49 ((ev0 e).attrs.length) cc50] 33 (0, 0)) :: blk bk17 (.cells #[.int .i64 e.src.v, .int .i64 e.seq.v, .int .i64 e.time.v, .string e.typ.v, .slice pp13 e.attrs.length cc14] 33 (0, 0)) :: Row 91 4 (.slice pp13 e.attrs.length cc14) e.attrs.length (M.flatMap attrCell) :: blk bk8 (.cells #[.int .i64 e.src.v, .int .i64 e.seq.v, .int .i64 e.time.v, .string e.typ.v, .slice pp4 e.attrs.length cc5] 33 (0, 0)) :: Attrs (.slice pp4 e.attrs.length cc5) e.attrs :: blk bk1 (.cells #[.int .i64 e.src.v, .int .i64 e.seq.v, .int .i64 e.time.v, .string e.typ.v, .slice ap e.attrs.length ac] 33 (0, 0)) :: Attrs (.slice ap e.attrs.length ac) e.attrs :: F) 72 [.pointer (some ⟨bk96, 0, none⟩)] rfl rfl pl_72 (fun x_ : EvD => .agg #[.int .i64 x_.ev.src.v, .int .i64 x_.ev.seq.v, .int .i64 x_.ev.time.v, .string x_.ev.typ.v, .slice x_.p x_.ev.attrs.length x_.c]) rfl (fun x_ : EvD => Row 91 4 (.slice x_.p x_.ev.attrs.length x_.c) x_.ev.attrs.length (x_.ev.attrs.flatMap attrCell)) (fun pre_ => ((fun _ : List EvD => emp) pre_)) (fun c_ pre_ => pure' False) (fun pre_ x_ => (pre_ ++ [x_]).map EvD.ev <+: evs2) (fun L_ => L_.map EvD.ev = evs2) (fun L_ => L_.map EvD.ev <+: evs2) H100 ?_ ?_ ?_ ?_
          · intro l101 r102 w103 G104 pre105 x106 hr107 hr108 hok109 H110
            try dsimp only at hok109 H110
            have H111 : St W w103 (blk l101 (.loop r102) :: ((fun _ : List EvD => emp) pre105) :: Row 91 4 (.slice x106.p x106.ev.attrs.length x106.c) x106.ev.attrs.length (x106.ev.attrs.flatMap attrCell) :: G104) := H110
            have H112 := H111.move 1 rfl
            refine g_region ?_
            refine r_cons (s_alloc H112 33 ze_33 rfl ?_); intro bk113 w114 H115
            refine r_cons (s_storeAgg H115 0 #[.int .i64 x106.ev.src.v, .int .i64 x106.ev.seq.v, .int .i64 x106.ev.time.v, .string x106.ev.typ.v, .slice x106.p x106.ev.attrs.length x106.c] 5 rfl rfl rfl sz_33 rfl (by simp [Value.oneCell']) (Nat.le_of_ble_eq_true rfl) (fun o h1 h2 => by first | (simp; done) | (simp; omega)) (cs' := #[.int .i64 x106.ev.src.v, .int .i64 x106.ev.seq.v, .int .i64 x106.ev.time.v, .string x106.ev.typ.v, .slice x106.p x106.ev.attrs.length x106.c]) rfl ?_); intro w116 H117
            refine r_nil ?_
            refine g_beginRound H117 (i := 2) rfl hr107 ?_; intro w118 H119
            have H120 : St W w118 (blk bk113 (.cells #[.int .i64 x106.ev.src.v, .int .i64 x106.ev.seq.v, .int .i64 x106.ev.time.v, .string x106.ev.typ.v, .slice x106.p x106.ev.attrs.length x106.c] 33 (0, 0)) :: ((fun _ : List EvD => emp) pre105) :: blk l101 (.loop { r102 with state := .busy }) :: Row 91 4 (.slice x106.p x106.ev.attrs.length x106.c) x106.ev.attrs.length (x106.ev.attrs.flatMap attrCell) :: G104) := H119
            refine g_block ?_
            refine g_seq ?_
            refine g_region ?_
            refine r_cons (s_fieldAddr 33 3 4 4 31 rfl fi_33_3 rfl rfl ?_)
            refine r_cons (s_load (.slice x106.p x106.ev.attrs.length x106.c) ag_31 rfl (H120.blk_at (i := 0) rfl) rfl rfl ?_)
            refine r_cons (s_len x106.ev.attrs.length rfl ⟨_, un_31⟩ rfl ?_)
            refine r_cons (s_move (.int .i64 0) rfl rfl ?_)
            refine r_nil ?_
            refine g_block ?_
            have hmx121 := Row.max H120 (i := 3) rfl
            unfold maxLen at hmx121
            refine g_loop_inv (fun (x_ : Nat × (List AttrV)) => match x_ with | (j, M3) => [(2, .bool false), (11, .pointer (some ⟨bk113, 0, none⟩)), (91, .int .i64 (x106.ev.attrs.length : Int)), (92, .int .i64 (j : Int))]) (fun (x_ : Nat × (List AttrV)) w => match x_ with | (j, M3) => (j ≤ x106.ev.attrs.length) ∧ (M3.length = x106.ev.attrs.length) ∧ St W w (blk bk113 (.cells #[.int .i64 x106.ev.src.v, .int .i64 x106.ev.seq.v, .int .i64 x106.ev.time.v, .string x106.ev.typ.v, .slice x106.p x106.ev.attrs.length x106.c] 33 (0, 0)) :: ((fun _ : List EvD => emp) pre105) :: blk l101 (.loop { r102 with state := .busy }) :: Row 91 4 (.slice x106.p x106.ev.attrs.length x106.c) x106.ev.attrs.length (M3.flatMap attrCell) :: G104)) (fun (x_ : Nat × (List AttrV)) => match x_ with | (j, M3) => x106.ev.attrs.length - j) (0, x106.ev.attrs) ?_ ?_ ?_
            · exact ⟨by first | rfl | exact vint (by omega), by first | rfl | exact vint (by omega), by first | rfl | exact vint (by omega), by first | rfl | exact vint (by omega), trivial⟩
            · exact ⟨(by omega), rfl, H120⟩
            · rintro ⟨j, M3⟩ ρ122 w123 ⟨hjn, hM3, H124⟩ nx125
              change Ends _ _ (upds ρ122 [(2, .bool false), (11, .pointer (some ⟨bk113, 0, none⟩)), (91, .int .i64 (x106.ev.attrs.length : Int)), (92, .int .i64 (j : Int))]) w123
              refine g_seq ?_
              refine g_region ?_
              by_cases hc126 : (j : Int) < (x106.ev.attrs.length : Int)
              · skip
                refine r_cons (s_lss true rfl rfl (dtrue hc126) rfl ?_)
                refine r_nil ?_
                refine g_seq ?_
                refine g_true rfl ?_
                refine g_skip ?_
                refine g_seq ?_
                refine g_block ?_
                refine g_seq ?_
                refine g_region ?_
                refine r_cons (s_move (.int .i64 (j : Int)) rfl rfl ?_)
                refine r_cons (s_assign (.int .i64 (j : Int)) rfl rfl ?_)
                refine r_nil ?_
                refine g_region ?_
                obtain ⟨bk127, cur128, hp129, h130, h131, h132, h133, h134, H135⟩ := Row.open2 H124 (i := 3) rfl (by omega)
                refine r_cons (s_fieldAddr 33 3 4 4 31 rfl fi_33_3 rfl rfl ?_)
                refine r_cons (s_load (.slice x106.p x106.ev.attrs.length x106.c) ag_31 rfl (H135.blk_at (i := 0) rfl) rfl rfl ?_)
                refine r_cons (s_move (.int .i64 (j : Int)) rfl rfl ?_)
                refine r_cons (s_indexAddr bk127 (off := 0) (j : Int) 4 (0 + j * 4) (by exact congrArg (fun z_ => Value.slice z_ x106.ev.attrs.length x106.c) ((fun (_ : 0 < 1) => hp129) (by omega))) rfl el_31 (by omega) rfl rfl ?_)
                refine r_cons (s_fieldAddr 91 1 1 (0 + j * 4 + 1) 89 rfl fi_91_1 rfl rfl ?_)
                refine r_cons (s_fieldAddr 89 1 1 (0 + j * 4 + 2) 2 rfl fi_89_1 rfl rfl ?_)
                refine r_cons (s_load (.int .i64 ((M3.getD j default).n.v)) ag_2 rfl (H135.blk_at (i := 3) rfl) (elem_cell (L := M3) (i := j) attrCell_len (by rw [hM3]; exact h133) (by have hh : M3.length = x106.ev.attrs.length := hM3; omega) default 2 (by decide) _ rfl) rfl ?_)
                refine r_cons (s_sub (IntKind.i64.wrap ((M3.getD j default).n.v - 1)) rfl rfl rfl rfl ?_)
                refine r_cons (s_indexAddr bk127 (off := 0) (j : Int) 4 (0 + j * 4) (by exact congrArg (fun z_ => Value.slice z_ x106.ev.attrs.length x106.c) ((fun (_ : 0 < 1) => hp129) (by omega))) rfl el_31 (by omega) rfl rfl ?_)
                refine r_cons (s_fieldAddr 91 1 1 (0 + j * 4 + 1) 89 rfl fi_91_1 rfl rfl ?_)
                refine r_cons (s_fieldAddr 89 1 1 (0 + j * 4 + 2) 2 rfl fi_89_1 rfl rfl ?_)
                have hx138 := row_set (f := attrCell) (s := 4) (L := M3) (cur := cur128) attrCell_len (by rw [hM3]; exact h133) (show M3.length * 4 ≤ cur128.size by rw [hM3, h132]; exact Nat.mul_le_mul_right 4 h130) (j := j) (by have hh := hM3; omega) default 2 (by decide) (.int .i64 (IntKind.i64.wrap ((M3.getD j default).n.v - 1))) (withN (M3.getD j default) ((M3.getD j default).n.v - 1)) rfl
                refine r_cons (s_store H135 3 (.int .i64 (IntKind.i64.wrap ((M3.getD j default).n.v - 1))) rfl rfl rfl sz_2 rfl (by have hh := hM3; have hk := (show M3.length * 4 ≤ cur128.size by rw [hM3, h132]; exact Nat.mul_le_mul_right 4 h130); omega) (by simp) (cs' := (cur128.setIfInBounds (0 + j * 4 + 2) (.int .i64 (IntKind.i64.wrap ((M3.getD j default).n.v - 1))))) rfl ?_); intro w136 H137
                refine r_nil ?_
                refine g_inBlock ?_
                refine g_region ?_
                refine r_cons (s_add ((j : Int) + 1) rfl rfl (wi64 (by omega)) rfl ?_)
                refine r_cons (s_move (.int .i64 ((j : Int) + 1)) rfl rfl ?_)
                refine r_nil ?_
                have H139 := Row.shut2 (p := x106.p) (n := x106.ev.attrs.length) (c := x106.c) (size := 4) (xs := (M3.set j (withN (M3.getD j default) ((M3.getD j default).n.v - 1))).flatMap attrCell) H137 (i := 3) rfl hp129 h130 h131 (show (cur128.setIfInBounds (0 + j * 4 + 2) (.int .i64 (IntKind.i64.wrap ((M3.getD j default).n.v - 1)))).size = x106.c * 4 from by rw [Array.size_setIfInBounds]; exact h132) (by have hh : ((cur128.setIfInBounds (0 + j * 4 + 2) (.int .i64 (IntKind.i64.wrap ((M3.getD j default).n.v - 1)))).toList.drop 0).take ((M3.set j (withN (M3.getD j default) ((M3.getD j default).n.v - 1))).length * 4) = (M3.set j (withN (M3.getD j default) ((M3.getD j default).n.v - 1))).flatMap attrCell := hx138; have hk : (M3.set j (withN (M3.getD j default) ((M3.getD j default).n.v - 1))).length = x106.ev.attrs.length := (show ((M3.set j (withN (M3.getD j default) ((M3.getD j default).n.v - 1)))).length = x106.ev.attrs.length from by first | (rw [List.length_set]; exact hM3) | rw [List.length_set]); rw [hk] at hh; exact hh) (fun x_ hx_ => by obtain ⟨a_, _, ha_⟩ := List.mem_flatMap.1 hx_; exact one_attr a_ x_ ha_)
                have H140 : St W w136 (blk bk113 (.cells #[.int .i64 x106.ev.src.v, .int .i64 x106.ev.seq.v, .int .i64 x106.ev.time.v, .string x106.ev.typ.v, .slice x106.p x106.ev.attrs.length x106.c] 33 (0, 0)) :: ((fun _ : List EvD => emp) pre105) :: blk l101 (.loop { r102 with state := .busy }) :: Row 91 4 (.slice x106.p x106.ev.attrs.length x106.c) x106.ev.attrs.length ((M3.set j (withN (M3.getD j default) ((M3.getD j default).n.v - 1))).flatMap attrCell) :: G104) := ((((H139.move 3 rfl).move 3 rfl).move 3 rfl).move 3 rfl)
                exact nx125 (j + 1, (M3.set j (withN (M3.getD j default) ((M3.getD j default).n.v - 1)))) _ _ ⟨(by omega), (show ((M3.set j (withN (M3.getD j default) ((M3.getD j default).n.v - 1)))).length = x106.ev.attrs.length from by first | (rw [List.length_set]; exact hM3) | rw [List.length_set]), H140⟩ (by first | (dsimp only; omega) | omega) ⟨by first | rfl | exact vint (by omega), by first | rfl | exact vint (by omega), by first | rfl | exact vint (by omega), by first | rfl | exact vint (by omega), trivial⟩
              · skip
                refine r_cons (s_lss false rfl rfl (dfalse hc126) rfl ?_)
                refine r_nil ?_
                refine g_seq ?_
                refine g_false rfl ?_
                refine g_exit (by rfl) ?_
                refine g_inBlock ?_
                have H141 : St W w123 (((fun _ : List EvD => emp) (pre105 ++ [x106])) :: blk bk113 (.cells #[.int .i64 x106.ev.src.v, .int .i64 x106.ev.seq.v, .int .i64 x106.ev.time.v, .string x106.ev.typ.v, .slice x106.p x106.ev.attrs.length x106.c] 33 (0, 0)) :: ((fun _ : List EvD => emp) pre105) :: blk l101 (.loop { r102 with state := .busy }) :: Row 91 4 (.slice x106.p x106.ev.attrs.length x106.c) x106.ev.attrs.length (M3.flatMap attrCell) :: G104) := H124.cons_emp
                have H142 : St W w123 (blk l101 (.loop { r102 with state := .busy }) :: ((fun _ : List EvD => emp) (pre105 ++ [x106])) :: G104) := ((((H141.move 3 rfl).drop 2 rfl).drop 2 rfl).drop 2 rfl)
                refine g_round_end hr107 hr108 H142 (i := 0) rfl ?_; intro w143 H144
                exact .inl ⟨rfl, H144⟩
          · intro l J Jx B w H hY; exact Streams_All1_own _ l evs2 J Jx (hok2).1 (hok2).2 (i := 1) rfl hY H
          · intro D145 L146 w147 hS148 H149
            have H151 : St W w147 (((fun _ : List EvD => emp) L146) :: blk D145 (.deferred (some [])) :: AllA bk96 evs2 :: Streams bk42 16 (accSt 16 zeroSt ([] : List EvM) (ev0 e)) (accEvs 16 zeroSt ([] : List EvM) (ev0 e)) :: Row 91 4 (.slice pp49 ((ev0 e).attrs.length) cc50) (((ev0 e).attrs).length) (M2.flatMap attrCell) :: blk bk66 (.cells #[.int .i64 ((ev0 e).src.v), .int .i64 ((ev0 e).seq.v), .int .i64 ((ev0 e).time.v), .string ((ev0 e).typ.v), .slice pp61 ((ev0 e).attrs.length) cc62] 33 (0, 0)) :: Attrs (.slice pp61 ((ev0 e).attrs.length) cc62) ((ev0 e).attrs) :: blk bk53 (.cells #[.int .i64 ((ev0 e).src.v), .int .i64 ((ev0 e).seq.v), .int .i64 ((ev0 e).time.v), .string ((ev0 e).typ.v), .slice pp49 ((ev0 e).attrs.length) cc50] 33 (0, 0)) :: blk bk17 (.cells #[.int .i64 e.src.v, .int .i64 e.seq.v, .int .i64 e.time.v, .string e.typ.v, .slice pp13 e.attrs.length cc14] 33 (0, 0)) :: Row 91 4 (.slice pp13 e.attrs.length cc14) e.attrs.length (M.flatMap attrCell) :: blk bk8 (.cells #[.int .i64 e.src.v, .int .i64 e.seq.v, .int .i64 e.time.v, .string e.typ.v, .slice pp4 e.attrs.length cc5] 33 (0, 0)) :: Attrs (.slice pp4 e.attrs.length cc5) e.attrs :: blk bk1 (.cells #[.int .i64 e.src.v, .int .i64 e.seq.v, .int .i64 e.time.v, .string e.typ.v, .slice ap e.attrs.length ac] 33 (0, 0)) :: Attrs (.slice ap e.attrs.length ac) e.attrs :: F) := H149
            have H152 := H151.drop 0 rfl
            refine g_inBlock ?_
            refine g_seq ?_
            refine g_seq ?_
            refine g_mix (fun t_ w => St W w (blk D145 (.deferred (some [])) :: AllA bk96 evs2 :: Streams bk42 16 (accSt 16 zeroSt ([] : List EvM) (ev0 e)) (accEvs 16 zeroSt ([] : List EvM) (ev0 e)) :: Row 91 4 (.slice pp49 ((ev0 e).attrs.length) cc50) (((ev0 e).attrs).length) (M2.flatMap attrCell) :: blk bk66 (.cells #[.int .i64 ((ev0 e).src.v), .int .i64 ((ev0 e).seq.v), .int .i64 ((ev0 e).time.v), .string ((ev0 e).typ.v), .slice pp61 ((ev0 e).attrs.length) cc62] 33 (0, 0)) :: Attrs (.slice pp61 ((ev0 e).attrs.length) cc62) ((ev0 e).attrs) :: blk bk53 (.cells #[.int .i64 ((ev0 e).src.v), .int .i64 ((ev0 e).seq.v), .int .i64 ((ev0 e).time.v), .string ((ev0 e).typ.v), .slice pp49 ((ev0 e).attrs.length) cc50] 33 (0, 0)) :: blk bk17 (.cells #[.int .i64 e.src.v, .int .i64 e.seq.v, .int .i64 e.time.v, .string e.typ.v, .slice pp13 e.attrs.length cc14] 33 (0, 0)) :: Row 91 4 (.slice pp13 e.attrs.length cc14) e.attrs.length (M.flatMap attrCell) :: blk bk8 (.cells #[.int .i64 e.src.v, .int .i64 e.seq.v, .int .i64 e.time.v, .string e.typ.v, .slice pp4 e.attrs.length cc5] 33 (0, 0)) :: Attrs (.slice pp4 e.attrs.length cc5) e.attrs :: blk bk1 (.cells #[.int .i64 e.src.v, .int .i64 e.seq.v, .int .i64 e.time.v, .string e.typ.v, .slice ap e.attrs.length ac] 33 (0, 0)) :: Attrs (.slice ap e.attrs.length ac) e.attrs :: t_)) F mixed 10 rfl H152.drew ?_
            refine f_first 0 (listed' := #[true, false, false, false, false, false, false, false, false, false]) rfl (by kernel_rfl) (by kernel_rfl) (by kernel_rfl) rfl ?_
            refine f_val rfl rfl rfl (by intro t_ w hw; exact x_move (.int .i64 (acceptE 16 zeroSt ([] : List EvM).length (ev0 e))) rfl w) ?_
            refine f_first 1 (listed' := #[true, true, false, false, false, false, false, false, false, false]) rfl (by kernel_rfl) (by kernel_rfl) (by kernel_rfl) rfl ?_
            by_cases hc153 : acceptE 16 zeroSt ([] : List EvM).length (ev0 e) = 0
            · skip
              refine f_val rfl rfl rfl (by intro t_ w hw; exact x_eql true rfl rfl (dtrue hc153) w) ?_
              refine f_first 2 (listed' := #[true, true, true, false, false, false, false, false, false, false]) rfl (by kernel_rfl) (by kernel_rfl) (by kernel_rfl) rfl ?_
              refine f_val rfl rfl rfl (by intro t_ w hw; exact x_move (.bool true) rfl w) ?_
              refine f_first 3 (listed' := #[true, true, true, true, false, false, false, false, false, false]) rfl (by kernel_rfl) (by kernel_rfl) (by kernel_rfl) rfl ?_
              refine f_take rfl rfl ?_
              refine f_val rfl rfl rfl (by intro t_ w hw; exact x_move (.pointer (some ⟨bk42, 0, none⟩)) rfl w) ?_
              refine f_first 5 (listed' := #[true, true, true, true, false, true, false, false, false, false]) rfl (by kernel_rfl) (by kernel_rfl) (by kernel_rfl) rfl ?_
              refine f_take rfl rfl ?_
              refine f_val rfl rfl rfl (by intro t_ w hw; exact x_loadAgg [.int .i64 ((ev0 e).src.v), .int .i64 ((ev0 e).seq.v), .int .i64 ((ev0 e).time.v), .string ((ev0 e).typ.v), .slice pp61 ((ev0 e).attrs.length) cc62] 5 ag_33 rfl (hw.blk_at (i := 4) rfl) (Nat.le_of_ble_eq_true rfl) rfl) ?_
              refine f_all (rs := [4, 6]) (by kernel_rfl) (by simp) ?_
              refine a_cons ⟨_, rfl, ?_⟩ (a_cons ⟨_, rfl, ?_⟩ (fun x hx => absurd hx (by simp)))
              · skip
                intro w154 H155
                try dsimp only at H155
                refine r_take rfl rfl ?_
                refine s_call [.pointer (some ⟨bk42, 0, none⟩)] pl_34 rfl rfl (Streams_All bk42 16 (accSt 16 zeroSt ([] : List EvM) (ev0 e)) (accEvs 16 zeroSt ([] : List EvM) (ev0 e)) (okEvs_acc okEvs_nil _).1 (okEvs_acc okEvs_nil _).2 (i := 2) rfl H155) ?_
                rintro _ w157 ⟨bk156, rfl, H158⟩
                have H159 : St W w157 (Row 91 4 (.slice pp13 e.attrs.length cc14) e.attrs.length (M.flatMap attrCell) :: blk bk8 (.cells #[.int .i64 e.src.v, .int .i64 e.seq.v, .int .i64 e.time.v, .string e.typ.v, .slice pp4 e.attrs.length cc5] 33 (0, 0)) :: Attrs (.slice pp4 e.attrs.length cc5) e.attrs :: blk bk1 (.cells #[.int .i64 e.src.v, .int .i64 e.seq.v, .int .i64 e.time.v, .string e.typ.v, .slice ap e.attrs.length ac] 33 (0, 0)) :: Attrs (.slice ap e.attrs.length ac) e.attrs :: AllA bk156 (accEvs 16 zeroSt ([] : List EvM) (ev0 e)) :: blk D145 (.deferred (some [])) :: AllA bk96 evs2 :: Streams bk42 16 (accSt 16 zeroSt ([] : List EvM) (ev0 e)) (accEvs 16 zeroSt ([] : List EvM) (ev0 e)) :: Row 91 4 (.slice pp49 ((ev0 e).attrs.length) cc50) (((ev0 e).attrs).length) (M2.flatMap attrCell) :: blk bk66 (.cells #[.int .i64 ((ev0 e).src.v), .int .i64 ((ev0 e).seq.v), .int .i64 ((ev0 e).time.v), .string ((ev0 e).typ.v), .slice pp61 ((ev0 e).attrs.length) cc62] 33 (0, 0)) :: Attrs (.slice pp61 ((ev0 e).attrs.length) cc62) ((ev0 e).attrs) :: blk bk53 (.cells #[.int .i64 ((ev0 e).src.v), .int .i64 ((ev0 e).seq.v), .int .i64 ((ev0 e).time.v), .string ((ev0 e).typ.v), .slice pp49 ((ev0 e).attrs.length) cc50] 33 (0, 0)) :: blk bk17 (.cells #[.int .i64 e.src.v, .int .i64 e.seq.v, .int .i64 e.time.v, .string e.typ.v, .slice pp13 e.attrs.length cc14] 33 (0, 0)) :: F) := (((((H158.move 13 rfl).move 13 rfl).move 13 rfl).move 13 rfl).move 13 rfl)
                have H160 : St W w157 (Row 91 4 (.slice pp49 ((ev0 e).attrs.length) cc50) (((ev0 e).attrs).length) (M2.flatMap attrCell) :: blk bk66 (.cells #[.int .i64 ((ev0 e).src.v), .int .i64 ((ev0 e).seq.v), .int .i64 ((ev0 e).time.v), .string ((ev0 e).typ.v), .slice pp61 ((ev0 e).attrs.length) cc62] 33 (0, 0)) :: Attrs (.slice pp61 ((ev0 e).attrs.length) cc62) ((ev0 e).attrs) :: blk bk53 (.cells #[.int .i64 ((ev0 e).src.v), .int .i64 ((ev0 e).seq.v), .int .i64 ((ev0 e).time.v), .string ((ev0 e).typ.v), .slice pp49 ((ev0 e).attrs.length) cc50] 33 (0, 0)) :: blk bk17 (.cells #[.int .i64 e.src.v, .int .i64 e.seq.v, .int .i64 e.time.v, .string e.typ.v, .slice pp13 e.attrs.length cc14] 33 (0, 0)) :: Row 91 4 (.slice pp13 e.attrs.length cc14) e.attrs.length (M.flatMap attrCell) :: blk bk8 (.cells #[.int .i64 e.src.v, .int .i64 e.seq.v, .int .i64 e.time.v, .string e.typ.v, .slice pp4 e.attrs.length cc5] 33 (0, 0)) :: Attrs (.slice pp4 e.attrs.length cc5) e.attrs :: blk bk1 (.cells #[.int .i64 e.src.v, .int .i64 e.seq.v, .int .i64 e.time.v, .string e.typ.v, .slice ap e.attrs.length ac] 33 (0, 0)) :: Attrs (.slice ap e.attrs.length ac) e.attrs :: AllA bk156 (accEvs 16 zeroSt ([] : List EvM) (ev0 e)) :: blk D145 (.deferred (some [])) :: AllA bk96 evs2 :: Streams bk42 16 (accSt 16 zeroSt ([] : List EvM) (ev0 e)) (accEvs 16 zeroSt ([] : List EvM) (ev0 e)) :: F) := (((((H159.move 13 rfl).move 13 rfl).move 13 rfl).move 13 rfl).move 13 rfl)
                have H161 : St W w157 (blk D145 (.deferred (some [])) :: AllA bk96 evs2 :: Streams bk42 16 (accSt 16 zeroSt ([] : List EvM) (ev0 e)) (accEvs 16 zeroSt ([] : List EvM) (ev0 e)) :: Row 91 4 (.slice pp49 ((ev0 e).attrs.length) cc50) (((ev0 e).attrs).length) (M2.flatMap attrCell) :: blk bk66 (.cells #[.int .i64 ((ev0 e).src.v), .int .i64 ((ev0 e).seq.v), .int .i64 ((ev0 e).time.v), .string ((ev0 e).typ.v), .slice pp61 ((ev0 e).attrs.length) cc62] 33 (0, 0)) :: Attrs (.slice pp61 ((ev0 e).attrs.length) cc62) ((ev0 e).attrs) :: blk bk53 (.cells #[.int .i64 ((ev0 e).src.v), .int .i64 ((ev0 e).seq.v), .int .i64 ((ev0 e).time.v), .string ((ev0 e).typ.v), .slice pp49 ((ev0 e).attrs.length) cc50] 33 (0, 0)) :: blk bk17 (.cells #[.int .i64 e.src.v, .int .i64 e.seq.v, .int .i64 e.time.v, .string e.typ.v, .slice pp13 e.attrs.length cc14] 33 (0, 0)) :: Row 91 4 (.slice pp13 e.attrs.length cc14) e.attrs.length (M.flatMap attrCell) :: blk bk8 (.cells #[.int .i64 e.src.v, .int .i64 e.seq.v, .int .i64 e.time.v, .string e.typ.v, .slice pp4 e.attrs.length cc5] 33 (0, 0)) :: Attrs (.slice pp4 e.attrs.length cc5) e.attrs :: blk bk1 (.cells #[.int .i64 e.src.v, .int .i64 e.seq.v, .int .i64 e.time.v, .string e.typ.v, .slice ap e.attrs.length ac] 33 (0, 0)) :: Attrs (.slice ap e.attrs.length ac) e.attrs :: AllA bk156 (accEvs 16 zeroSt ([] : List EvM) (ev0 e)) :: F) := (((H160.move 13 rfl).move 13 rfl).move 13 rfl)
                refine ⟨AllA bk156 (accEvs 16 zeroSt ([] : List EvM) (ev0 e)) :: F, ?_, H161⟩
                change FReg _ _ _ _ _ #[true, true, true, true, true, true, false, false, false, false] _ _
                refine f_all (rs := [6]) (by kernel_rfl) (by simp) ?_
                refine a_cons ⟨_, rfl, ?_⟩ (fun x hx => absurd hx (by simp))
                intro w162 H163
                try dsimp only at H163
                refine r_take rfl rfl ?_
                refine s_buildSlice H163 5 1 (cs := #[.int .i64 ((ev0 e).src.v), .int .i64 ((ev0 e).seq.v), .int .i64 ((ev0 e).time.v), .string ((ev0 e).typ.v), .slice pp61 ((ev0 e).attrs.length) cc62]) #[.int .i64 0, .int .i64 0, .int .i64 0, .string ByteArray.empty, .slice none 0 0] el_49 ze_33 (by decide) (by decide) (by kernel_rfl) rfl ?_; intro bk164 w165 H166
                have H167 : St W w165 (Row 33 5 (.slice (some ⟨bk164, 0, none⟩) 1 1) 1 ([(⟨ev0 e, pp61, cc62⟩ : EvD)].flatMap evdCell) :: blk D145 (.deferred (some [])) :: AllA bk96 evs2 :: Streams bk42 16 (accSt 16 zeroSt ([] : List EvM) (ev0 e)) (accEvs 16 zeroSt ([] : List EvM) (ev0 e)) :: Row 91 4 (.slice pp49 ((ev0 e).attrs.length) cc50) (((ev0 e).attrs).length) (M2.flatMap attrCell) :: blk bk66 (.cells #[.int .i64 ((ev0 e).src.v), .int .i64 ((ev0 e).seq.v), .int .i64 ((ev0 e).time.v), .string ((ev0 e).typ.v), .slice pp61 ((ev0 e).attrs.length) cc62] 33 (0, 0)) :: Attrs (.slice pp61 ((ev0 e).attrs.length) cc62) ((ev0 e).attrs) :: blk bk53 (.cells #[.int .i64 ((ev0 e).src.v), .int .i64 ((ev0 e).seq.v), .int .i64 ((ev0 e).time.v), .string ((ev0 e).typ.v), .slice pp49 ((ev0 e).attrs.length) cc50] 33 (0, 0)) :: blk bk17 (.cells #[.int .i64 e.src.v, .int .i64 e.seq.v, .int .i64 e.time.v, .string e.typ.v, .slice pp13 e.attrs.length cc14] 33 (0, 0)) :: Row 91 4 (.slice pp13 e.attrs.length cc14) e.attrs.length (M.flatMap attrCell) :: blk bk8 (.cells #[.int .i64 e.src.v, .int .i64 e.seq.v, .int .i64 e.time.v, .string e.typ.v, .slice pp4 e.attrs.length cc5] 33 (0, 0)) :: Attrs (.slice pp4 e.attrs.length cc5) e.attrs :: blk bk1 (.cells #[.int .i64 e.src.v, .int .i64 e.seq.v, .int .i64 e.time.v, .string e.typ.v, .slice ap e.attrs.length ac] 33 (0, 0)) :: Attrs (.slice ap e.attrs.length ac) e.attrs :: AllA bk156 (accEvs 16 zeroSt ([] : List EvM) (ev0 e)) :: F) := Row.of_blk (n := 1) (size := 5) H166 (i := 0) rfl (by unfold maxLen; omega) rfl (fun x_ hx_ => one_ev (⟨ev0 e, pp61, cc62⟩ : EvD) x_ hx_)
                have H168 : St W w165 (Im 5 (.slice (some ⟨bk164, 0, none⟩) 1 1) ([(⟨ev0 e, pp61, cc62⟩ : EvD)].length) ([(⟨ev0 e, pp61, cc62⟩ : EvD)].flatMap evdCell) :: blk D145 (.deferred (some [])) :: AllA bk96 evs2 :: Streams bk42 16 (accSt 16 zeroSt ([] : List EvM) (ev0 e)) (accEvs 16 zeroSt ([] : List EvM) (ev0 e)) :: Row 91 4 (.slice pp49 ((ev0 e).attrs.length) cc50) (((ev0 e).attrs).length) (M2.flatMap attrCell) :: blk bk66 (.cells #[.int .i64 ((ev0 e).src.v), .int .i64 ((ev0 e).seq.v), .int .i64 ((ev0 e).time.v), .string ((ev0 e).typ.v), .slice pp61 ((ev0 e).attrs.length) cc62] 33 (0, 0)) :: Attrs (.slice pp61 ((ev0 e).attrs.length) cc62) ((ev0 e).attrs) :: blk bk53 (.cells #[.int .i64 ((ev0 e).src.v), .int .i64 ((ev0 e).seq.v), .int .i64 ((ev0 e).time.v), .string ((ev0 e).typ.v), .slice pp49 ((ev0 e).attrs.length) cc50] 33 (0, 0)) :: blk bk17 (.cells #[.int .i64 e.src.v, .int .i64 e.seq.v, .int .i64 e.time.v, .string e.typ.v, .slice pp13 e.attrs.length cc14] 33 (0, 0)) :: Row 91 4 (.slice pp13 e.attrs.length cc14) e.attrs.length (M.flatMap attrCell) :: blk bk8 (.cells #[.int .i64 e.src.v, .int .i64 e.seq.v, .int .i64 e.time.v, .string e.typ.v, .slice pp4 e.attrs.length cc5] 33 (0, 0)) :: Attrs (.slice pp4 e.attrs.length cc5) e.attrs :: blk bk1 (.cells #[.int .i64 e.src.v, .int .i64 e.seq.v, .int .i64 e.time.v, .string e.typ.v, .slice ap e.attrs.length ac] 33 (0, 0)) :: Attrs (.slice ap e.attrs.length ac) e.attrs :: AllA bk156 (accEvs 16 zeroSt ([] : List EvM) (ev0 e)) :: F) := Row.im H167 (i := 0) rfl
                have H169 : St W w165 (Attrs (.slice pp61 ((ev0 e).attrs.length) cc62) ((ev0 e).attrs) :: Im 5 (.slice (some ⟨bk164, 0, none⟩) 1 1) ([(⟨ev0 e, pp61, cc62⟩ : EvD)].length) ([(⟨ev0 e, pp61, cc62⟩ : EvD)].flatMap evdCell) :: blk D145 (.deferred (some [])) :: AllA bk96 evs2 :: Streams bk42 16 (accSt 16 zeroSt ([] : List EvM) (ev0 e)) (accEvs 16 zeroSt ([] : List EvM) (ev0 e)) :: Row 91 4 (.slice pp49 ((ev0 e).attrs.length) cc50) (((ev0 e).attrs).length) (M2.flatMap attrCell) :: blk bk66 (.cells #[.int .i64 ((ev0 e).src.v), .int .i64 ((ev0 e).seq.v), .int .i64 ((ev0 e).time.v), .string ((ev0 e).typ.v), .slice pp61 ((ev0 e).attrs.length) cc62] 33 (0, 0)) :: blk bk53 (.cells #[.int .i64 ((ev0 e).src.v), .int .i64 ((ev0 e).seq.v), .int .i64 ((ev0 e).time.v), .string ((ev0 e).typ.v), .slice pp49 ((ev0 e).attrs.length) cc50] 33 (0, 0)) :: blk bk17 (.cells #[.int .i64 e.src.v, .int .i64 e.seq.v, .int .i64 e.time.v, .string e.typ.v, .slice pp13 e.attrs.length cc14] 33 (0, 0)) :: Row 91 4 (.slice pp13 e.attrs.length cc14) e.attrs.length (M.flatMap attrCell) :: blk bk8 (.cells #[.int .i64 e.src.v, .int .i64 e.seq.v, .int .i64 e.time.v, .string e.typ.v, .slice pp4 e.attrs.length cc5] 33 (0, 0)) :: Attrs (.slice pp4 e.attrs.length cc5) e.attrs :: blk bk1 (.cells #[.int .i64 e.src.v, .int .i64 e.seq.v, .int .i64 e.time.v, .string e.typ.v, .slice ap e.attrs.length ac] 33 (0, 0)) :: Attrs (.slice ap e.attrs.length ac) e.attrs :: AllA bk156 (accEvs 16 zeroSt ([] : List EvM) (ev0 e)) :: F) := (H168.move 6 rfl)
                have H171 := H169.dup (i := 0) rfl (Attrs_pers _ _)
                have H172 := evA_nil H171
                have H173 := H172.move 1 rfl
                have H174 : St W w165 (evA [(⟨ev0 e, pp61, cc62⟩ : EvD)] :: Attrs (.slice pp61 ((ev0 e).attrs.length) cc62) ((ev0 e).attrs) :: Im 5 (.slice (some ⟨bk164, 0, none⟩) 1 1) ([(⟨ev0 e, pp61, cc62⟩ : EvD)].length) ([(⟨ev0 e, pp61, cc62⟩ : EvD)].flatMap evdCell) :: blk D145 (.deferred (some [])) :: AllA bk96 evs2 :: Streams bk42 16 (accSt 16 zeroSt ([] : List EvM) (ev0 e)) (accEvs 16 zeroSt ([] : List EvM) (ev0 e)) :: Row 91 4 (.slice pp49 ((ev0 e).attrs.length) cc50) (((ev0 e).attrs).length) (M2.flatMap attrCell) :: blk bk66 (.cells #[.int .i64 ((ev0 e).src.v), .int .i64 ((ev0 e).seq.v), .int .i64 ((ev0 e).time.v), .string ((ev0 e).typ.v), .slice pp61 ((ev0 e).attrs.length) cc62] 33 (0, 0)) :: blk bk53 (.cells #[.int .i64 ((ev0 e).src.v), .int .i64 ((ev0 e).seq.v), .int .i64 ((ev0 e).time.v), .string ((ev0 e).typ.v), .slice pp49 ((ev0 e).attrs.length) cc50] 33 (0, 0)) :: blk bk17 (.cells #[.int .i64 e.src.v, .int .i64 e.seq.v, .int .i64 e.time.v, .string e.typ.v, .slice pp13 e.attrs.length cc14] 33 (0, 0)) :: Row 91 4 (.slice pp13 e.attrs.length cc14) e.attrs.length (M.flatMap attrCell) :: blk bk8 (.cells #[.int .i64 e.src.v, .int .i64 e.seq.v, .int .i64 e.time.v, .string e.typ.v, .slice pp4 e.attrs.length cc5] 33 (0, 0)) :: Attrs (.slice pp4 e.attrs.length cc5) e.attrs :: blk bk1 (.cells #[.int .i64 e.src.v, .int .i64 e.seq.v, .int .i64 e.time.v, .string e.typ.v, .slice ap e.attrs.length ac] 33 (0, 0)) :: Attrs (.slice ap e.attrs.length ac) e.attrs :: AllA bk156 (accEvs 16 zeroSt ([] : List EvM) (ev0 e)) :: F) := evA_snoc (e := (⟨ev0 e, pp61, cc62⟩ : EvD)) H173
                have H175 : St W w165 (blk bk1 (.cells #[.int .i64 e.src.v, .int .i64 e.seq.v, .int .i64 e.time.v, .string e.typ.v, .slice ap e.attrs.length ac] 33 (0, 0)) :: Attrs (.slice ap e.attrs.length ac) e.attrs :: evA [(⟨ev0 e, pp61, cc62⟩ : EvD)] :: Im 5 (.slice (some ⟨bk164, 0, none⟩) 1 1) ([(⟨ev0 e, pp61, cc62⟩ : EvD)].length) ([(⟨ev0 e, pp61, cc62⟩ : EvD)].flatMap evdCell) :: AllA bk156 (accEvs 16 zeroSt ([] : List EvM) (ev0 e)) :: Attrs (.slice pp61 ((ev0 e).attrs.length) cc62) ((ev0 e).attrs) :: blk D145 (.deferred (some [])) :: AllA bk96 evs2 :: Streams bk42 16 (accSt 16 zeroSt ([] : List EvM) (ev0 e)) (accEvs 16 zeroSt ([] : List EvM) (ev0 e)) :: Row 91 4 (.slice pp49 ((ev0 e).attrs.length) cc50) (((ev0 e).attrs).length) (M2.flatMap attrCell) :: blk bk66 (.cells #[.int .i64 ((ev0 e).src.v), .int .i64 ((ev0 e).seq.v), .int .i64 ((ev0 e).time.v), .string ((ev0 e).typ.v), .slice pp61 ((ev0 e).attrs.length) cc62] 33 (0, 0)) :: blk bk53 (.cells #[.int .i64 ((ev0 e).src.v), .int .i64 ((ev0 e).seq.v), .int .i64 ((ev0 e).time.v), .string ((ev0 e).typ.v), .slice pp49 ((ev0 e).attrs.length) cc50] 33 (0, 0)) :: blk bk17 (.cells #[.int .i64 e.src.v, .int .i64 e.seq.v, .int .i64 e.time.v, .string e.typ.v, .slice pp13 e.attrs.length cc14] 33 (0, 0)) :: Row 91 4 (.slice pp13 e.attrs.length cc14) e.attrs.length (M.flatMap attrCell) :: blk bk8 (.cells #[.int .i64 e.src.v, .int .i64 e.seq.v, .int .i64 e.time.v, .string e.typ.v, .slice pp4 e.attrs.length cc5] 33 (0, 0)) :: Attrs (.slice pp4 e.attrs.length cc5) e.attrs :: F) := (((((H174.move 15 rfl).move 3 rfl).move 2 rfl).move 15 rfl).move 15 rfl)
                have H176 : St W w165 (blk bk53 (.cells #[.int .i64 ((ev0 e).src.v), .int .i64 ((ev0 e).seq.v), .int .i64 ((ev0 e).time.v), .string ((ev0 e).typ.v), .slice pp49 ((ev0 e).attrs.length) cc50] 33 (0, 0)) :: blk bk17 (.cells #[.int .i64 e.src.v, .int .i64 e.seq.v, .int .i64 e.time.v, .string e.typ.v, .slice pp13 e.attrs.length cc14] 33 (0, 0)) :: Row 91 4 (.slice pp13 e.attrs.length cc14) e.attrs.length (M.flatMap attrCell) :: blk bk8 (.cells #[.int .i64 e.src.v, .int .i64 e.seq.v, .int .i64 e.time.v, .string e.typ.v, .slice pp4 e.attrs.length cc5] 33 (0, 0)) :: Attrs (.slice pp4 e.attrs.length cc5) e.attrs :: blk bk1 (.cells #[.int .i64 e.src.v, .int .i64 e.seq.v, .int .i64 e.time.v, .string e.typ.v, .slice ap e.attrs.length ac] 33 (0, 0)) :: Attrs (.slice ap e.attrs.length ac) e.attrs :: evA [(⟨ev0 e, pp61, cc62⟩ : EvD)] :: Im 5 (.slice (some ⟨bk164, 0, none⟩) 1 1) ([(⟨ev0 e, pp61, cc62⟩ : EvD)].length) ([(⟨ev0 e, pp61, cc62⟩ : EvD)].flatMap evdCell) :: AllA bk156 (accEvs 16 zeroSt ([] : List EvM) (ev0 e)) :: Attrs (.slice pp61 ((ev0 e).attrs.length) cc62) ((ev0 e).attrs) :: blk D145 (.deferred (some [])) :: AllA bk96 evs2 :: Streams bk42 16 (accSt 16 zeroSt ([] : List EvM) (ev0 e)) (accEvs 16 zeroSt ([] : List EvM) (ev0 e)) :: Row 91 4 (.slice pp49 ((ev0 e).attrs.length) cc50) (((ev0 e).attrs).length) (M2.flatMap attrCell) :: blk bk66 (.cells #[.int .i64 ((ev0 e).src.v), .int .i64 ((ev0 e).seq.v), .int .i64 ((ev0 e).time.v), .string ((ev0 e).typ.v), .slice pp61 ((ev0 e).attrs.length) cc62] 33 (0, 0)) :: F) := (((((H175.move 15 rfl).move 15 rfl).move 15 rfl).move 15 rfl).move 15 rfl)
                have H177 : St W w165 (AllA bk96 evs2 :: Streams bk42 16 (accSt 16 zeroSt ([] : List EvM) (ev0 e)) (accEvs 16 zeroSt ([] : List EvM) (ev0 e)) :: Row 91 4 (.slice pp49 ((ev0 e).attrs.length) cc50) (((ev0 e).attrs).length) (M2.flatMap attrCell) :: blk bk66 (.cells #[.int .i64 ((ev0 e).src.v), .int .i64 ((ev0 e).seq.v), .int .i64 ((ev0 e).time.v), .string ((ev0 e).typ.v), .slice pp61 ((ev0 e).attrs.length) cc62] 33 (0, 0)) :: Attrs (.slice pp61 ((ev0 e).attrs.length) cc62) ((ev0 e).attrs) :: blk bk53 (.cells #[.int .i64 ((ev0 e).src.v), .int .i64 ((ev0 e).seq.v), .int .i64 ((ev0 e).time.v), .string ((ev0 e).typ.v), .slice pp49 ((ev0 e).attrs.length) cc50] 33 (0, 0)) :: blk bk17 (.cells #[.int .i64 e.src.v, .int .i64 e.seq.v, .int .i64 e.time.v, .string e.typ.v, .slice pp13 e.attrs.length cc14] 33 (0, 0)) :: Row 91 4 (.slice pp13 e.attrs.length cc14) e.attrs.length (M.flatMap attrCell) :: blk bk8 (.cells #[.int .i64 e.src.v, .int .i64 e.seq.v, .int .i64 e.time.v, .string e.typ.v, .slice pp4 e.attrs.length cc5] 33 (0, 0)) :: Attrs (.slice pp4 e.attrs.length cc5) e.attrs :: blk bk1 (.cells #[.int .i64 e.src.v, .int .i64 e.seq.v, .int .i64 e.time.v, .string e.typ.v, .slice ap e.attrs.length ac] 33 (0, 0)) :: Attrs (.slice ap e.attrs.length ac) e.attrs :: evA [(⟨ev0 e, pp61, cc62⟩ : EvD)] :: Im 5 (.slice (some ⟨bk164, 0, none⟩) 1 1) ([(⟨ev0 e, pp61, cc62⟩ : EvD)].length) ([(⟨ev0 e, pp61, cc62⟩ : EvD)].flatMap evdCell) :: AllA bk156 (accEvs 16 zeroSt ([] : List EvM) (ev0 e)) :: blk D145 (.deferred (some [])) :: F) := (((((H176.move 10 rfl).move 15 rfl).move 15 rfl).move 15 rfl).move 15 rfl)
                have H178 : St W w165 (blk D145 (.deferred (some [])) :: AllA bk96 evs2 :: Streams bk42 16 (accSt 16 zeroSt ([] : List EvM) (ev0 e)) (accEvs 16 zeroSt ([] : List EvM) (ev0 e)) :: Row 91 4 (.slice pp49 ((ev0 e).attrs.length) cc50) (((ev0 e).attrs).length) (M2.flatMap attrCell) :: blk bk66 (.cells #[.int .i64 ((ev0 e).src.v), .int .i64 ((ev0 e).seq.v), .int .i64 ((ev0 e).time.v), .string ((ev0 e).typ.v), .slice pp61 ((ev0 e).attrs.length) cc62] 33 (0, 0)) :: Attrs (.slice pp61 ((ev0 e).attrs.length) cc62) ((ev0 e).attrs) :: blk bk53 (.cells #[.int .i64 ((ev0 e).src.v), .int .i64 ((ev0 e).seq.v), .int .i64 ((ev0 e).time.v), .string ((ev0 e).typ.v), .slice pp49 ((ev0 e).attrs.length) cc50] 33 (0, 0)) :: blk bk17 (.cells #[.int .i64 e.src.v, .int .i64 e.seq.v, .int .i64 e.time.v, .string e.typ.v, .slice pp13 e.attrs.length cc14] 33 (0, 0)) :: Row 91 4 (.slice pp13 e.attrs.length cc14) e.attrs.length (M.flatMap attrCell) :: blk bk8 (.cells #[.int .i64 e.src.v, .int .i64 e.seq.v, .int .i64 e.time.v, .string e.typ.v, .slice pp4 e.attrs.length cc5] 33 (0, 0)) :: Attrs (.slice pp4 e.attrs.length cc5) e.attrs :: blk bk1 (.cells #[.int .i64 e.src.v, .int .i64 e.seq.v, .int .i64 e.time.v, .string e.typ.v, .slice ap e.attrs.length ac] 33 (0, 0)) :: Attrs (.slice ap e.attrs.length ac) e.attrs :: evA [(⟨ev0 e, pp61, cc62⟩ : EvD)] :: Im 5 (.slice (some ⟨bk164, 0, none⟩) 1 1) ([(⟨ev0 e, pp61, cc62⟩ : EvD)].length) ([(⟨ev0 e, pp61, cc62⟩ : EvD)].flatMap evdCell) :: AllA bk156 (accEvs 16 zeroSt ([] : List EvM) (ev0 e)) :: F) := (H177.move 15 rfl)
                refine ⟨evA [(⟨ev0 e, pp61, cc62⟩ : EvD)] :: Im 5 (.slice (some ⟨bk164, 0, none⟩) 1 1) ([(⟨ev0 e, pp61, cc62⟩ : EvD)].length) ([(⟨ev0 e, pp61, cc62⟩ : EvD)].flatMap evdCell) :: AllA bk156 (accEvs 16 zeroSt ([] : List EvM) (ev0 e)) :: F, ?_, H178⟩
                change FReg _ _ _ _ _ #[true, true, true, true, true, true, true, false, false, false] _ _
                refine f_all (rs := [7]) (by kernel_rfl) (by simp) ?_
                refine a_cons ⟨_, rfl, ?_⟩ (fun x hx => absurd hx (by simp))
                intro w179 H180
                try dsimp only at H180
                refine r_take rfl rfl ?_
                refine s_call [.func (.func 72) #[] #[.pointer (some ⟨bk156, 0, none⟩)], .slice (some ⟨bk164, 0, none⟩) 1 1] pl_33 rfl rfl (told_ bk156 (accEvs 16 zeroSt ([] : List EvM) (ev0 e)) [(⟨ev0 e, pp61, cc62⟩ : EvD)] (.slice (some ⟨bk164, 0, none⟩) 1 1) (okEvs_acc okEvs_nil _).1 (okEvs_acc okEvs_nil _).2 (i := 15) (j := 14) (k := 13) rfl rfl rfl H180) ?_
                rintro _ w181 ⟨rfl, H182⟩
                refine ⟨evA [(⟨ev0 e, pp61, cc62⟩ : EvD)] :: Im 5 (.slice (some ⟨bk164, 0, none⟩) 1 1) ([(⟨ev0 e, pp61, cc62⟩ : EvD)].length) ([(⟨ev0 e, pp61, cc62⟩ : EvD)].flatMap evdCell) :: AllA bk156 (accEvs 16 zeroSt ([] : List EvM) (ev0 e)) :: F, ?_, H182⟩
                change FReg _ _ _ _ _ #[true, true, true, true, true, true, true, true, false, false] _ _
                refine f_first 8 (listed' := #[true, true, true, true, true, true, true, true, true, false]) rfl (by kernel_rfl) (by kernel_rfl) (by kernel_rfl) rfl ?_
                refine f_take rfl rfl ?_
                have htl : toldB (accEvs 16 zeroSt ([] : List EvM) (ev0 e)) ([(⟨ev0 e, pp61, cc62⟩ : EvD)].map EvD.ev) = true := told_own ‹_› _ rfl
                refine f_val rfl rfl rfl (by intro t_ w hw; exact x_not (toldB (accEvs 16 zeroSt ([] : List EvM) (ev0 e)) ([(⟨ev0 e, pp61, cc62⟩ : EvD)].map EvD.ev)) rfl false (by rw [htl]; rfl) w) ?_
                refine f_first 9 (listed' := #[true, true, true, true, true, true, true, true, true, true]) rfl (by kernel_rfl) (by kernel_rfl) (by kernel_rfl) rfl ?_
                refine f_val rfl rfl rfl (by intro t_ w hw; exact x_pick_t (.bool false) rfl rfl w) ?_
                refine f_done (by kernel_rfl) ?_
                intro w183 H184
                refine g_false rfl ?_
                refine g_skip ?_
                refine g_seq ?_
                refine g_seq ?_
                refine g_region ?_
                refine r_cons (s_build (cs := #[.int .i64 0, .int .i64 0, .int .i64 0, .bool false, .int .i64 0, .int .i64 0, .bool false, .int .i64 0, .int .i64 0, .bool false, .int .i64 0, .int .i64 0, .bool false, .int .i64 0, .int .i64 0, .bool false, .int .i64 0, .int .i64 0, .bool false, .int .i64 0, .int .i64 0, .bool false, .int .i64 0, .int .i64 0, .bool false, .int .i64 0, .int .i64 0, .bool false, .int .i64 0, .int .i64 0, .bool false, .int .i64 0, .int .i64 0, .bool false, .int .i64 0, .int .i64 0, .bool false, .int .i64 0, .int .i64 0, .bool false, .int .i64 0, .int .i64 0, .bool false, .int .i64 0, .int .i64 0, .bool false, .int .i64 0, .int .i64 0, .bool false, .slice none 0 0]) (by kernel_rfl) rfl ?_)
                refine r_cons (s_box H184 96 (.agg #[.int .i64 0, .int .i64 0, .int .i64 0, .bool false, .int .i64 0, .int .i64 0, .bool false, .int .i64 0, .int .i64 0, .bool false, .int .i64 0, .int .i64 0, .bool false, .int .i64 0, .int .i64 0, .bool false, .int .i64 0, .int .i64 0, .bool false, .int .i64 0, .int .i64 0, .bool false, .int .i64 0, .int .i64 0, .bool false, .int .i64 0, .int .i64 0, .bool false, .int .i64 0, .int .i64 0, .bool false, .int .i64 0, .int .i64 0, .bool false, .int .i64 0, .int .i64 0, .bool false, .int .i64 0, .int .i64 0, .bool false, .int .i64 0, .int .i64 0, .bool false, .int .i64 0, .int .i64 0, .bool false, .int .i64 0, .int .i64 0, .bool false, .slice none 0 0]) rfl (cs := #[.int .i64 0, .int .i64 0, .int .i64 0, .bool false, .int .i64 0, .int .i64 0, .bool false, .int .i64 0, .int .i64 0, .bool false, .int .i64 0, .int .i64 0, .bool false, .int .i64 0, .int .i64 0, .bool false, .int .i64 0, .int .i64 0, .bool false, .int .i64 0, .int .i64 0, .bool false, .int .i64 0, .int .i64 0, .bool false, .int .i64 0, .int .i64 0, .bool false, .int .i64 0, .int .i64 0, .bool false, .int .i64 0, .int .i64 0, .bool false, .int .i64 0, .int .i64 0, .bool false, .int .i64 0, .int .i64 0, .bool false, .int .i64 0, .int .i64 0, .bool false, .int .i64 0, .int .i64 0, .bool false, .int .i64 0, .int .i64 0, .bool false, .slice none 0 0]) rfl rfl ?_); intro bk185 w186 H187
                have H188 : St W w186 (blk bk185 (.cells (stCells 0 zeroSt (.slice none 0 0)) 96 (0, 0)) :: blk D145 (.deferred (some [])) :: AllA bk96 evs2 :: Streams bk42 16 (accSt 16 zeroSt ([] : List EvM) (ev0 e)) (accEvs 16 zeroSt ([] : List EvM) (ev0 e)) :: Row 91 4 (.slice pp49 ((ev0 e).attrs.length) cc50) (((ev0 e).attrs).length) (M2.flatMap attrCell) :: blk bk66 (.cells #[.int .i64 ((ev0 e).src.v), .int .i64 ((ev0 e).seq.v), .int .i64 ((ev0 e).time.v), .string ((ev0 e).typ.v), .slice pp61 ((ev0 e).attrs.length) cc62] 33 (0, 0)) :: Attrs (.slice pp61 ((ev0 e).attrs.length) cc62) ((ev0 e).attrs) :: blk bk53 (.cells #[.int .i64 ((ev0 e).src.v), .int .i64 ((ev0 e).seq.v), .int .i64 ((ev0 e).time.v), .string ((ev0 e).typ.v), .slice pp49 ((ev0 e).attrs.length) cc50] 33 (0, 0)) :: blk bk17 (.cells #[.int .i64 e.src.v, .int .i64 e.seq.v, .int .i64 e.time.v, .string e.typ.v, .slice pp13 e.attrs.length cc14] 33 (0, 0)) :: Row 91 4 (.slice pp13 e.attrs.length cc14) e.attrs.length (M.flatMap attrCell) :: blk bk8 (.cells #[.int .i64 e.src.v, .int .i64 e.seq.v, .int .i64 e.time.v, .string e.typ.v, .slice pp4 e.attrs.length cc5] 33 (0, 0)) :: Attrs (.slice pp4 e.attrs.length cc5) e.attrs :: blk bk1 (.cells #[.int .i64 e.src.v, .int .i64 e.seq.v, .int .i64 e.time.v, .string e.typ.v, .slice ap e.attrs.length ac] 33 (0, 0)) :: Attrs (.slice ap e.attrs.length ac) e.attrs :: evA [(⟨ev0 e, pp61, cc62⟩ : EvD)] :: Im 5 (.slice (some ⟨bk164, 0, none⟩) 1 1) ([(⟨ev0 e, pp61, cc62⟩ : EvD)].length) ([(⟨ev0 e, pp61, cc62⟩ : EvD)].flatMap evdCell) :: AllA bk156 (accEvs 16 zeroSt ([] : List EvM) (ev0 e)) :: F) := H187
                have H189 : St W w186 (Im 5 (.slice none 0 0) 0 (([] : List EvD).flatMap evdCell) :: blk bk185 (.cells (stCells 0 zeroSt (.slice none 0 0)) 96 (0, 0)) :: blk D145 (.deferred (some [])) :: AllA bk96 evs2 :: Streams bk42 16 (accSt 16 zeroSt ([] : List EvM) (ev0 e)) (accEvs 16 zeroSt ([] : List EvM) (ev0 e)) :: Row 91 4 (.slice pp49 ((ev0 e).attrs.length) cc50) (((ev0 e).attrs).length) (M2.flatMap attrCell) :: blk bk66 (.cells #[.int .i64 ((ev0 e).src.v), .int .i64 ((ev0 e).seq.v), .int .i64 ((ev0 e).time.v), .string ((ev0 e).typ.v), .slice pp61 ((ev0 e).attrs.length) cc62] 33 (0, 0)) :: Attrs (.slice pp61 ((ev0 e).attrs.length) cc62) ((ev0 e).attrs) :: blk bk53 (.cells #[.int .i64 ((ev0 e).src.v), .int .i64 ((ev0 e).seq.v), .int .i64 ((ev0 e).time.v), .string ((ev0 e).typ.v), .slice pp49 ((ev0 e).attrs.length) cc50] 33 (0, 0)) :: blk bk17 (.cells #[.int .i64 e.src.v, .int .i64 e.seq.v, .int .i64 e.time.v, .string e.typ.v, .slice pp13 e.attrs.length cc14] 33 (0, 0)) :: Row 91 4 (.slice pp13 e.attrs.length cc14) e.attrs.length (M.flatMap attrCell) :: blk bk8 (.cells #[.int .i64 e.src.v, .int .i64 e.seq.v, .int .i64 e.time.v, .string e.typ.v, .slice pp4 e.attrs.length cc5] 33 (0, 0)) :: Attrs (.slice pp4 e.attrs.length cc5) e.attrs :: blk bk1 (.cells #[.int .i64 e.src.v, .int .i64 e.seq.v, .int .i64 e.time.v, .string e.typ.v, .slice ap e.attrs.length ac] 33 (0, 0)) :: Attrs (.slice ap e.attrs.length ac) e.attrs :: evA [(⟨ev0 e, pp61, cc62⟩ : EvD)] :: Im 5 (.slice (some ⟨bk164, 0, none⟩) 1 1) ([(⟨ev0 e, pp61, cc62⟩ : EvD)].length) ([(⟨ev0 e, pp61, cc62⟩ : EvD)].flatMap evdCell) :: AllA bk156 (accEvs 16 zeroSt ([] : List EvM) (ev0 e)) :: F) := Row.im (Row.nil_intro H188 33 5) (i := 0) rfl
                have H190 := evA_nil H189
                refine r_cons (s_buildSlice H190 1 2 (cs := #[.pointer none, .pointer (some ⟨bk185, 0, none⟩)]) #[.pointer none] el_97 ze_23 (by decide) (by decide) (by kernel_rfl) rfl ?_); intro bk191 w192 H193
                refine r_cons (s_len 2 rfl ⟨_, un_97⟩ rfl ?_)
                refine r_cons (s_move (.int .i64 0) rfl rfl ?_)
                refine r_nil ?_
                refine g_block ?_
                refine g_loop ?_
                refine g_seq ?_
                refine g_region ?_
                refine r_cons (s_lss true rfl rfl (dtrue (by decide)) rfl ?_)
                refine r_nil ?_
                refine g_seq ?_
                refine g_true rfl ?_
                refine g_skip ?_
                refine g_seq ?_
                refine g_block ?_
                refine g_seq ?_
                refine g_region ?_
                refine r_cons (s_indexAddr bk191 0 1 0 rfl rfl el_97 (by omega) rfl rfl ?_)
                refine r_cons (s_load (.pointer none) ag_23 rfl (H193.blk_at (i := 0) rfl) rfl rfl ?_)
                refine r_cons (s_assign (.pointer none) rfl rfl ?_)
                refine r_nil ?_
                refine g_seq ?_
                refine g_region ?_
                refine r_cons (s_move (.pointer none) rfl rfl ?_)
                refine r_cons (s_loadAgg [.int .i64 e.src.v, .int .i64 e.seq.v, .int .i64 e.time.v, .string e.typ.v, .slice ap e.attrs.length ac] 5 ag_33 rfl (H193.blk_at (i := 15) rfl) (Nat.le_of_ble_eq_true rfl) rfl rfl ?_)
                refine r_cons (s_call [.pointer none, .agg #[.int .i64 e.src.v, .int .i64 e.seq.v, .int .i64 e.time.v, .string e.typ.v, .slice ap e.attrs.length ac]] pl_16 rfl rfl (SN_Accept_nil e ap e.attrs.length ac rfl H193) ?_)
                rintro _ w194 ⟨rfl, H195⟩
                refine r_cons (s_neq false rfl rfl (ntrue (by decide)) rfl ?_)
                refine r_cons (s_move (.bool false) rfl rfl ?_)
                refine r_cons (r_take rfl rfl ?_)
                refine s_move (.pointer none) rfl rfl ?_
                refine r_cons (r_take rfl rfl ?_)
                refine s_call [.pointer none, .int .i64 0] pl_14 rfl rfl (SN_Close_nil 0 H195) ?_
                rintro _ w196 ⟨rfl, H197⟩
                refine r_cons (r_take rfl rfl ?_)
                refine s_neq false rfl rfl (ntrue (by decide)) rfl ?_
                refine r_cons (s_pick_f (.bool false) rfl rfl rfl ?_)
                refine r_cons (s_move (.bool false) rfl rfl ?_)
                refine r_cons (r_take rfl rfl ?_)
                refine s_move (.pointer none) rfl rfl ?_
                refine r_cons (r_take rfl rfl ?_)
                refine s_call [.pointer none, .int .i64 0] pl_13 rfl rfl (SN_Mark_nil 0 H197) ?_
                rintro _ w198 ⟨rfl, H199⟩
                refine r_cons (r_take rfl rfl ?_)
                refine s_move (.pointer none) rfl rfl ?_
                refine r_cons (r_take rfl rfl ?_)
                refine s_call [.pointer none, .int .i64 0] pl_28 rfl rfl (SN_Next_nil 0 H199) ?_
                rintro _ w200 ⟨rfl, H201⟩
                refine r_cons (r_take rfl rfl ?_)
                refine s_add 0 rfl rfl (wi64 (by omega)) rfl ?_
                refine r_cons (r_take rfl rfl ?_)
                refine s_neq false rfl rfl (ntrue (by decide)) rfl ?_
                refine r_cons (s_pick_f (.bool false) rfl rfl rfl ?_)
                refine r_cons (s_move (.bool false) rfl rfl ?_)
                refine r_cons (r_take rfl rfl ?_)
                refine s_move (.pointer none) rfl rfl ?_
                refine r_cons (r_take rfl rfl ?_)
                refine s_call [.pointer none, .int .i64 0] pl_15 rfl rfl (SN_Closed_nil 0 H201) ?_
                rintro _ w202 ⟨rfl, H203⟩
                refine r_cons (s_pick_f (.bool false) rfl rfl rfl ?_)
                refine r_cons (s_move (.bool false) rfl rfl ?_)
                refine r_cons (r_take rfl rfl ?_)
                refine s_move (.pointer none) rfl rfl ?_
                refine r_cons (r_take rfl rfl ?_)
                refine s_call [.pointer none] pl_34 rfl rfl (SN_All_nil  H203) ?_
                rintro _ w205 ⟨bk204, rfl, H206⟩
                refine r_cons (r_take rfl rfl ?_)
                refine s_call [.func (.func 72) #[] #[.pointer (some ⟨bk204, 0, none⟩)], .slice none 0 0] pl_33 rfl rfl (told_ bk204 [] ([] : List EvD) (.slice none 0 0) okEvs_nil.1 okEvs_nil.2 (i := 0) (j := 3) (k := 2) rfl rfl rfl H206) ?_
                rintro _ w207 ⟨rfl, H208⟩
                refine r_cons (r_take rfl rfl ?_)
                have htl209 : toldB [] (([] : List EvD).map EvD.ev) = true := rfl
                refine s_not (toldB [] (([] : List EvD).map EvD.ev)) rfl false (by rw [htl209]; rfl) rfl ?_
                refine r_cons (s_pick_f (.bool false) rfl rfl rfl ?_)
                refine r_cons (s_move (.bool false) rfl rfl ?_)
                refine r_cons (r_take rfl rfl ?_)
                refine s_move (.pointer none) rfl rfl ?_
                refine r_cons (r_take rfl rfl ?_)
                refine s_call [.pointer none] pl_32 rfl rfl (SN_Len_nil  H208) ?_
                rintro _ w210 ⟨rfl, H211⟩
                refine r_cons (r_take rfl rfl ?_)
                refine s_move (.pointer none) rfl rfl ?_
                refine r_cons (r_take rfl rfl ?_)
                refine s_call [.pointer none] pl_35 rfl rfl (SN_Sources_nil  H211) ?_
                rintro _ w212 ⟨rfl, H213⟩
                refine r_cons (r_take rfl rfl ?_)
                refine s_add 0 rfl rfl (wi64 (by omega)) rfl ?_
                refine r_cons (r_take rfl rfl ?_)
                refine s_neq false rfl rfl (ntrue (by decide)) rfl ?_
                refine r_cons (s_pick_f (.bool false) rfl rfl rfl ?_)
                refine r_cons (s_move (.bool false) rfl rfl ?_)
                refine r_cons (r_take rfl rfl ?_)
                refine s_move (.pointer none) rfl rfl ?_
                refine r_cons (r_take rfl rfl ?_)
                refine s_call [.pointer none] pl_27 rfl rfl (SN_Clone_nil  H213) ?_
                rintro _ w214 ⟨rfl, H215⟩
                refine r_cons (r_take rfl rfl ?_)
                refine s_pneq false un_23 rfl rfl rfl rfl ?_
                refine r_cons (s_pick_f (.bool false) rfl rfl rfl ?_)
                refine r_nil ?_
                refine g_false rfl ?_
                refine g_skip ?_
                refine g_inBlock ?_
                refine g_region ?_
                refine r_cons (s_add 1 rfl rfl (wi64 (by omega)) rfl ?_)
                refine r_cons (s_move (.int .i64 1) rfl rfl ?_)
                refine r_nil ?_
                refine g_inLoop ?_
                refine g_seq ?_
                refine g_region ?_
                refine r_cons (s_lss true rfl rfl (dtrue (by decide)) rfl ?_)
                refine r_nil ?_
                refine g_seq ?_
                refine g_true rfl ?_
                refine g_skip ?_
                refine g_seq ?_
                refine g_block ?_
                refine g_seq ?_
                refine g_region ?_
                refine r_cons (s_indexAddr bk191 1 1 1 rfl rfl el_97 (by omega) rfl rfl ?_)
                refine r_cons (s_load (.pointer (some ⟨bk185, 0, none⟩)) ag_23 rfl (H215.blk_at (i := 1) rfl) rfl rfl ?_)
                refine r_cons (s_assign (.pointer (some ⟨bk185, 0, none⟩)) rfl rfl ?_)
                refine r_nil ?_
                refine g_seq ?_
                refine g_region ?_
                refine r_cons (s_move (.pointer (some ⟨bk185, 0, none⟩)) rfl rfl ?_)
                refine r_cons (s_loadAgg [.int .i64 e.src.v, .int .i64 e.seq.v, .int .i64 e.time.v, .string e.typ.v, .slice ap e.attrs.length ac] 5 ag_33 rfl (H215.blk_at (i := 16) rfl) (Nat.le_of_ble_eq_true rfl) rfl rfl ?_)
                refine r_cons (s_call [.pointer (some ⟨bk185, 0, none⟩), .agg #[.int .i64 e.src.v, .int .i64 e.seq.v, .int .i64 e.time.v, .string e.typ.v, .slice ap e.attrs.length ac]] pl_16 rfl rfl (SN_Accept_zero bk185 e ap e.attrs.length ac rfl (i := 4) rfl H215) ?_)
                rintro _ w216 ⟨rfl, H217⟩
                refine r_cons (s_neq false rfl rfl (ntrue (by decide)) rfl ?_)
                refine r_cons (s_move (.bool false) rfl rfl ?_)
                refine r_cons (r_take rfl rfl ?_)
                refine s_move (.pointer (some ⟨bk185, 0, none⟩)) rfl rfl ?_
                refine r_cons (r_take rfl rfl ?_)
                refine s_call [.pointer (some ⟨bk185, 0, none⟩), .int .i64 0] pl_14 rfl rfl (SN_Close_zero bk185 0 (i := 4) rfl H217) ?_
                rintro _ w218 ⟨rfl, H219⟩
                refine r_cons (r_take rfl rfl ?_)
                refine s_neq false rfl rfl (ntrue (by decide)) rfl ?_
                refine r_cons (s_pick_f (.bool false) rfl rfl rfl ?_)
                refine r_cons (s_move (.bool false) rfl rfl ?_)
                refine r_cons (r_take rfl rfl ?_)
                refine s_move (.pointer (some ⟨bk185, 0, none⟩)) rfl rfl ?_
                refine r_cons (r_take rfl rfl ?_)
                refine s_call [.pointer (some ⟨bk185, 0, none⟩), .int .i64 0] pl_13 rfl rfl (SN_Mark_zero bk185 0 (i := 4) rfl H219) ?_
                rintro _ w220 ⟨rfl, H221⟩
                refine r_cons (r_take rfl rfl ?_)
                refine s_move (.pointer (some ⟨bk185, 0, none⟩)) rfl rfl ?_
                refine r_cons (r_take rfl rfl ?_)
                refine s_call [.pointer (some ⟨bk185, 0, none⟩), .int .i64 0] pl_28 rfl rfl (SN_Next_zero bk185 0 (i := 4) rfl H221) ?_
                rintro _ w222 ⟨rfl, H223⟩
                refine r_cons (r_take rfl rfl ?_)
                refine s_add 0 rfl rfl (wi64 (by omega)) rfl ?_
                refine r_cons (r_take rfl rfl ?_)
                refine s_neq false rfl rfl (ntrue (by decide)) rfl ?_
                refine r_cons (s_pick_f (.bool false) rfl rfl rfl ?_)
                refine r_cons (s_move (.bool false) rfl rfl ?_)
                refine r_cons (r_take rfl rfl ?_)
                refine s_move (.pointer (some ⟨bk185, 0, none⟩)) rfl rfl ?_
                refine r_cons (r_take rfl rfl ?_)
                refine s_call [.pointer (some ⟨bk185, 0, none⟩), .int .i64 0] pl_15 rfl rfl (SN_Closed_zero bk185 0 (i := 4) rfl H223) ?_
                rintro _ w224 ⟨rfl, H225⟩
                refine r_cons (s_pick_f (.bool false) rfl rfl rfl ?_)
                refine r_cons (s_move (.bool false) rfl rfl ?_)
                refine r_cons (r_take rfl rfl ?_)
                refine s_move (.pointer (some ⟨bk185, 0, none⟩)) rfl rfl ?_
                refine r_cons (r_take rfl rfl ?_)
                refine s_call [.pointer (some ⟨bk185, 0, none⟩)] pl_34 rfl rfl (SN_All_zero bk185  (i := 4) rfl H225) ?_
                rintro _ w227 ⟨bk226, rfl, H228⟩
                refine r_cons (r_take rfl rfl ?_)
                refine s_call [.func (.func 72) #[] #[.pointer (some ⟨bk226, 0, none⟩)], .slice none 0 0] pl_33 rfl rfl (told_ bk226 [] ([] : List EvD) (.slice none 0 0) okEvs_nil.1 okEvs_nil.2 (i := 0) (j := 4) (k := 3) rfl rfl rfl H228) ?_
                rintro _ w229 ⟨rfl, H230⟩
                refine r_cons (r_take rfl rfl ?_)
                have htl231 : toldB [] (([] : List EvD).map EvD.ev) = true := rfl
                refine s_not (toldB [] (([] : List EvD).map EvD.ev)) rfl false (by rw [htl231]; rfl) rfl ?_
                refine r_cons (s_pick_f (.bool false) rfl rfl rfl ?_)
                refine r_cons (s_move (.bool false) rfl rfl ?_)
                refine r_cons (r_take rfl rfl ?_)
                refine s_move (.pointer (some ⟨bk185, 0, none⟩)) rfl rfl ?_
                refine r_cons (r_take rfl rfl ?_)
                refine s_call [.pointer (some ⟨bk185, 0, none⟩)] pl_32 rfl rfl (SN_Len_zero bk185  (i := 5) rfl H230) ?_
                rintro _ w232 ⟨rfl, H233⟩
                refine r_cons (r_take rfl rfl ?_)
                refine s_move (.pointer (some ⟨bk185, 0, none⟩)) rfl rfl ?_
                refine r_cons (r_take rfl rfl ?_)
                refine s_call [.pointer (some ⟨bk185, 0, none⟩)] pl_35 rfl rfl (SN_Sources_zero bk185  (i := 5) rfl H233) ?_
                rintro _ w234 ⟨rfl, H235⟩
                refine r_cons (r_take rfl rfl ?_)
                refine s_add 0 rfl rfl (wi64 (by omega)) rfl ?_
                refine r_cons (r_take rfl rfl ?_)
                refine s_neq false rfl rfl (ntrue (by decide)) rfl ?_
                refine r_cons (s_pick_f (.bool false) rfl rfl rfl ?_)
                refine r_cons (s_move (.bool false) rfl rfl ?_)
                refine r_cons (r_take rfl rfl ?_)
                refine s_move (.pointer (some ⟨bk185, 0, none⟩)) rfl rfl ?_
                refine r_cons (r_take rfl rfl ?_)
                refine s_call [.pointer (some ⟨bk185, 0, none⟩)] pl_27 rfl rfl (SN_Clone_zero bk185  (i := 5) rfl H235) ?_
                rintro _ w236 ⟨rfl, H237⟩
                refine r_cons (r_take rfl rfl ?_)
                refine s_pneq false un_23 rfl rfl rfl rfl ?_
                refine r_cons (s_pick_f (.bool false) rfl rfl rfl ?_)
                refine r_nil ?_
                refine g_false rfl ?_
                refine g_skip ?_
                refine g_inBlock ?_
                refine g_region ?_
                refine r_cons (s_add 2 rfl rfl (wi64 (by omega)) rfl ?_)
                refine r_cons (s_move (.int .i64 2) rfl rfl ?_)
                refine r_nil ?_
                refine g_inLoop ?_
                refine g_seq ?_
                refine g_region ?_
                refine r_cons (s_lss false rfl rfl (dfalse (by decide)) rfl ?_)
                refine r_nil ?_
                refine g_seq ?_
                refine g_false rfl ?_
                refine g_exit (by rfl) ?_
                refine g_seq ?_
                refine g_region ?_
                refine r_cons (s_call [.pointer none] pl_52 rfl rfl (BN_Take  H237) ?_)
                rintro _ w238 ⟨rfl, H239⟩
                refine r_cons (s_move (.tuple #[.agg #[.int .i64 0, .int .i64 0, .int .i64 0, .string ByteArray.empty, .slice none 0 0], .int .i64 2]) rfl rfl ?_)
                refine r_cons (s_extract (.agg #[.int .i64 0, .int .i64 0, .int .i64 0, .string ByteArray.empty, .slice none 0 0]) #[.agg #[.int .i64 0, .int .i64 0, .int .i64 0, .string ByteArray.empty, .slice none 0 0], .int .i64 2] rfl rfl rfl ?_)
                refine r_cons (s_extract (.int .i64 2) #[.agg #[.int .i64 0, .int .i64 0, .int .i64 0, .string ByteArray.empty, .slice none 0 0], .int .i64 2] rfl rfl rfl ?_)
                refine r_cons (s_alloc H239 33 ze_33 rfl ?_); intro bk240 w241 H242
                refine r_cons (s_storeAgg H242 0 #[.int .i64 0, .int .i64 0, .int .i64 0, .string ByteArray.empty, .slice none 0 0] 5 rfl rfl rfl sz_33 rfl (by simp [Value.oneCell']) (Nat.le_of_ble_eq_true rfl) (fun o h1 h2 => by first | (simp; done) | (simp; omega)) (cs' := #[.int .i64 0, .int .i64 0, .int .i64 0, .string ByteArray.empty, .slice none 0 0]) rfl ?_); intro w243 H244
                refine r_cons (s_assign (.int .i64 2) rfl rfl ?_)
                refine r_nil ?_
                refine g_seq ?_
                refine g_region ?_
                refine r_cons (s_loadAgg [.int .i64 e.src.v, .int .i64 e.seq.v, .int .i64 e.time.v, .string e.typ.v, .slice ap e.attrs.length ac] 5 ag_33 rfl (H244.blk_at (i := 18) rfl) (Nat.le_of_ble_eq_true rfl) rfl rfl ?_)
                refine r_cons (s_call [.pointer none, .agg #[.int .i64 e.src.v, .int .i64 e.seq.v, .int .i64 e.time.v, .string e.typ.v, .slice ap e.attrs.length ac]] pl_39 rfl rfl (BN_Put e ap e.attrs.length ac rfl H244) ?_)
                rintro _ w245 ⟨rfl, H246⟩
                refine r_cons (s_eql true rfl rfl (dtrue (by decide)) rfl ?_)
                refine r_cons (s_move (.bool true) rfl rfl ?_)
                refine r_cons (r_take rfl rfl ?_)
                refine s_move (.int .i64 2) rfl rfl ?_
                refine r_cons (r_take rfl rfl ?_)
                refine s_eql true rfl rfl (dtrue (by decide)) rfl ?_
                refine r_cons (s_pick_t (.bool true) rfl rfl rfl ?_)
                refine r_cons (s_move (.bool true) rfl rfl ?_)
                refine r_cons (r_take rfl rfl ?_)
                refine s_loadAgg [.int .i64 0, .int .i64 0, .int .i64 0, .string ByteArray.empty, .slice none 0 0] 5 ag_33 rfl (H246.blk_at (i := 0) rfl) (Nat.le_of_ble_eq_true rfl) rfl rfl ?_
                refine r_cons (r_take rfl rfl ?_)
                refine s_build (cs := #[.int .i64 0, .int .i64 0, .int .i64 0, .string ByteArray.empty, .slice none 0 0]) (by kernel_rfl) rfl ?_
                refine r_cons (r_take rfl rfl ?_)
                have H247 := Row.im (Row.nil_intro H246 91 4) (i := 0) rfl
                refine s_call [.agg #[.int .i64 0, .int .i64 0, .int .i64 0, .string ByteArray.empty, .slice none 0 0], .agg #[.int .i64 0, .int .i64 0, .int .i64 0, .string ByteArray.empty, .slice none 0 0]] pl_20 rfl rfl (ref04_Same ev00 ev00 (.slice none 0 0) (.slice none 0 0) (j := 0) (k := 0) rfl rfl H247) ?_
                rintro _ w248 ⟨rfl, H249⟩
                have hs9 : (sameEv ev00 ev00) = true := sameEv_iff.2 rfl
                refine r_cons (s_pick_t (.bool (sameEv ev00 ev00)) rfl rfl rfl ?_)
                refine r_cons (s_assign (.bool (sameEv ev00 ev00)) rfl rfl ?_)
                refine r_nil ?_
                obtain ⟨hd250, H251⟩ := H249.collect (i := 8) rfl
                refine g_retD _ [.bool (sameEv ev00 ev00)] Try.func10 Try.results10 rfl ⟨hd250, trivial⟩ ⟨rfl, trivial⟩ ?_
                have H252 : St W (w248.putObj D145 (.deferred none)) (blk bk191 (.cells #[.pointer none, .pointer (some ⟨bk185, 0, none⟩)] 23 (0, 0)) :: evA ([] : List EvD) :: Im 5 (.slice none 0 0) 0 (([] : List EvD).flatMap evdCell) :: blk bk185 (.cells (stCells 0 zeroSt (.slice none 0 0)) 96 (0, 0)) :: AllA bk96 evs2 :: Streams bk42 16 (accSt 16 zeroSt ([] : List EvM) (ev0 e)) (accEvs 16 zeroSt ([] : List EvM) (ev0 e)) :: Row 91 4 (.slice pp49 ((ev0 e).attrs.length) cc50) (((ev0 e).attrs).length) (M2.flatMap attrCell) :: blk bk66 (.cells #[.int .i64 ((ev0 e).src.v), .int .i64 ((ev0 e).seq.v), .int .i64 ((ev0 e).time.v), .string ((ev0 e).typ.v), .slice pp61 ((ev0 e).attrs.length) cc62] 33 (0, 0)) :: Attrs (.slice pp61 ((ev0 e).attrs.length) cc62) ((ev0 e).attrs) :: blk bk53 (.cells #[.int .i64 ((ev0 e).src.v), .int .i64 ((ev0 e).seq.v), .int .i64 ((ev0 e).time.v), .string ((ev0 e).typ.v), .slice pp49 ((ev0 e).attrs.length) cc50] 33 (0, 0)) :: blk bk17 (.cells #[.int .i64 e.src.v, .int .i64 e.seq.v, .int .i64 e.time.v, .string e.typ.v, .slice pp13 e.attrs.length cc14] 33 (0, 0)) :: Row 91 4 (.slice pp13 e.attrs.length cc14) e.attrs.length (M.flatMap attrCell) :: blk bk8 (.cells #[.int .i64 e.src.v, .int .i64 e.seq.v, .int .i64 e.time.v, .string e.typ.v, .slice pp4 e.attrs.length cc5] 33 (0, 0)) :: Attrs (.slice pp4 e.attrs.length cc5) e.attrs :: blk bk1 (.cells #[.int .i64 e.src.v, .int .i64 e.seq.v, .int .i64 e.time.v, .string e.typ.v, .slice ap e.attrs.length ac] 33 (0, 0)) :: Attrs (.slice ap e.attrs.length ac) e.attrs :: evA [(⟨ev0 e, pp61, cc62⟩ : EvD)] :: Im 5 (.slice (some ⟨bk164, 0, none⟩) 1 1) ([(⟨ev0 e, pp61, cc62⟩ : EvD)].length) ([(⟨ev0 e, pp61, cc62⟩ : EvD)].flatMap evdCell) :: AllA bk156 (accEvs 16 zeroSt ([] : List EvM) (ev0 e)) :: F) := ((((H251.drop 0 rfl).drop 0 rfl).drop 0 rfl).drop 0 rfl)
                have H253 : St W (w248.putObj D145 (.deferred none)) (AllA bk96 evs2 :: Streams bk42 16 (accSt 16 zeroSt ([] : List EvM) (ev0 e)) (accEvs 16 zeroSt ([] : List EvM) (ev0 e)) :: Row 91 4 (.slice pp49 ((ev0 e).attrs.length) cc50) (((ev0 e).attrs).length) (M2.flatMap attrCell) :: blk bk66 (.cells #[.int .i64 ((ev0 e).src.v), .int .i64 ((ev0 e).seq.v), .int .i64 ((ev0 e).time.v), .string ((ev0 e).typ.v), .slice pp61 ((ev0 e).attrs.length) cc62] 33 (0, 0)) :: Attrs (.slice pp61 ((ev0 e).attrs.length) cc62) ((ev0 e).attrs) :: blk bk53 (.cells #[.int .i64 ((ev0 e).src.v), .int .i64 ((ev0 e).seq.v), .int .i64 ((ev0 e).time.v), .string ((ev0 e).typ.v), .slice pp49 ((ev0 e).attrs.length) cc50] 33 (0, 0)) :: blk bk17 (.cells #[.int .i64 e.src.v, .int .i64 e.seq.v, .int .i64 e.time.v, .string e.typ.v, .slice pp13 e.attrs.length cc14] 33 (0, 0)) :: Row 91 4 (.slice pp13 e.attrs.length cc14) e.attrs.length (M.flatMap attrCell) :: blk bk8 (.cells #[.int .i64 e.src.v, .int .i64 e.seq.v, .int .i64 e.time.v, .string e.typ.v, .slice pp4 e.attrs.length cc5] 33 (0, 0)) :: Attrs (.slice pp4 e.attrs.length cc5) e.attrs :: blk bk1 (.cells #[.int .i64 e.src.v, .int .i64 e.seq.v, .int .i64 e.time.v, .string e.typ.v, .slice ap e.attrs.length ac] 33 (0, 0)) :: Attrs (.slice ap e.attrs.length ac) e.attrs :: evA [(⟨ev0 e, pp61, cc62⟩ : EvD)] :: Im 5 (.slice (some ⟨bk164, 0, none⟩) 1 1) ([(⟨ev0 e, pp61, cc62⟩ : EvD)].length) ([(⟨ev0 e, pp61, cc62⟩ : EvD)].flatMap evdCell) :: AllA bk156 (accEvs 16 zeroSt ([] : List EvM) (ev0 e)) :: F) := ((((H252.drop 0 rfl).drop 0 rfl).drop 0 rfl).drop 0 rfl)
                have H254 : St W (w248.putObj D145 (.deferred none)) (Attrs (.slice pp61 ((ev0 e).attrs.length) cc62) ((ev0 e).attrs) :: blk bk53 (.cells #[.int .i64 ((ev0 e).src.v), .int .i64 ((ev0 e).seq.v), .int .i64 ((ev0 e).time.v), .string ((ev0 e).typ.v), .slice pp49 ((ev0 e).attrs.length) cc50] 33 (0, 0)) :: blk bk17 (.cells #[.int .i64 e.src.v, .int .i64 e.seq.v, .int .i64 e.time.v, .string e.typ.v, .slice pp13 e.attrs.length cc14] 33 (0, 0)) :: Row 91 4 (.slice pp13 e.attrs.length cc14) e.attrs.length (M.flatMap attrCell) :: blk bk8 (.cells #[.int .i64 e.src.v, .int .i64 e.seq.v, .int .i64 e.time.v, .string e.typ.v, .slice pp4 e.attrs.length cc5] 33 (0, 0)) :: Attrs (.slice pp4 e.attrs.length cc5) e.attrs :: blk bk1 (.cells #[.int .i64 e.src.v, .int .i64 e.seq.v, .int .i64 e.time.v, .string e.typ.v, .slice ap e.attrs.length ac] 33 (0, 0)) :: Attrs (.slice ap e.attrs.length ac) e.attrs :: evA [(⟨ev0 e, pp61, cc62⟩ : EvD)] :: Im 5 (.slice (some ⟨bk164, 0, none⟩) 1 1) ([(⟨ev0 e, pp61, cc62⟩ : EvD)].length) ([(⟨ev0 e, pp61, cc62⟩ : EvD)].flatMap evdCell) :: AllA bk156 (accEvs 16 zeroSt ([] : List EvM) (ev0 e)) :: F) := ((((H253.drop 0 rfl).drop 0 rfl).drop 0 rfl).drop 0 rfl)
                have H255 : St W (w248.putObj D145 (.deferred none)) (blk bk8 (.cells #[.int .i64 e.src.v, .int .i64 e.seq.v, .int .i64 e.time.v, .string e.typ.v, .slice pp4 e.attrs.length cc5] 33 (0, 0)) :: Attrs (.slice pp4 e.attrs.length cc5) e.attrs :: blk bk1 (.cells #[.int .i64 e.src.v, .int .i64 e.seq.v, .int .i64 e.time.v, .string e.typ.v, .slice ap e.attrs.length ac] 33 (0, 0)) :: Attrs (.slice ap e.attrs.length ac) e.attrs :: evA [(⟨ev0 e, pp61, cc62⟩ : EvD)] :: Im 5 (.slice (some ⟨bk164, 0, none⟩) 1 1) ([(⟨ev0 e, pp61, cc62⟩ : EvD)].length) ([(⟨ev0 e, pp61, cc62⟩ : EvD)].flatMap evdCell) :: AllA bk156 (accEvs 16 zeroSt ([] : List EvM) (ev0 e)) :: F) := ((((H254.drop 0 rfl).drop 0 rfl).drop 0 rfl).drop 0 rfl)
                have H256 : St W (w248.putObj D145 (.deferred none)) (evA [(⟨ev0 e, pp61, cc62⟩ : EvD)] :: Im 5 (.slice (some ⟨bk164, 0, none⟩) 1 1) ([(⟨ev0 e, pp61, cc62⟩ : EvD)].length) ([(⟨ev0 e, pp61, cc62⟩ : EvD)].flatMap evdCell) :: AllA bk156 (accEvs 16 zeroSt ([] : List EvM) (ev0 e)) :: F) := ((((H255.drop 0 rfl).drop 0 rfl).drop 0 rfl).drop 0 rfl)
                have H257 : St W (w248.putObj D145 (.deferred none)) F := (((H256.drop 0 rfl).drop 0 rfl).drop 0 rfl)
                exact ⟨congrArg Value.bool (by first | rfl | exact sameEv_iff.2 rfl | assumption), H257⟩
              · skip
                intro w258 H259
                try dsimp only at H259
                refine r_take rfl rfl ?_
                refine s_buildSlice H259 5 1 (cs := #[.int .i64 ((ev0 e).src.v), .int .i64 ((ev0 e).seq.v), .int .i64 ((ev0 e).time.v), .string ((ev0 e).typ.v), .slice pp61 ((ev0 e).attrs.length) cc62]) #[.int .i64 0, .int .i64 0, .int .i64 0, .string ByteArray.empty, .slice none 0 0] el_49 ze_33 (by decide) (by decide) (by kernel_rfl) rfl ?_; intro bk260 w261 H262
                have H263 : St W w261 (Row 33 5 (.slice (some ⟨bk260, 0, none⟩) 1 1) 1 ([(⟨ev0 e, pp61, cc62⟩ : EvD)].flatMap evdCell) :: blk D145 (.deferred (some [])) :: AllA bk96 evs2 :: Streams bk42 16 (accSt 16 zeroSt ([] : List EvM) (ev0 e)) (accEvs 16 zeroSt ([] : List EvM) (ev0 e)) :: Row 91 4 (.slice pp49 ((ev0 e).attrs.length) cc50) (((ev0 e).attrs).length) (M2.flatMap attrCell) :: blk bk66 (.cells #[.int .i64 ((ev0 e).src.v), .int .i64 ((ev0 e).seq.v), .int .i64 ((ev0 e).time.v), .string ((ev0 e).typ.v), .slice pp61 ((ev0 e).attrs.length) cc62] 33 (0, 0)) :: Attrs (.slice pp61 ((ev0 e).attrs.length) cc62) ((ev0 e).attrs) :: blk bk53 (.cells #[.int .i64 ((ev0 e).src.v), .int .i64 ((ev0 e).seq.v), .int .i64 ((ev0 e).time.v), .string ((ev0 e).typ.v), .slice pp49 ((ev0 e).attrs.length) cc50] 33 (0, 0)) :: blk bk17 (.cells #[.int .i64 e.src.v, .int .i64 e.seq.v, .int .i64 e.time.v, .string e.typ.v, .slice pp13 e.attrs.length cc14] 33 (0, 0)) :: Row 91 4 (.slice pp13 e.attrs.length cc14) e.attrs.length (M.flatMap attrCell) :: blk bk8 (.cells #[.int .i64 e.src.v, .int .i64 e.seq.v, .int .i64 e.time.v, .string e.typ.v, .slice pp4 e.attrs.length cc5] 33 (0, 0)) :: Attrs (.slice pp4 e.attrs.length cc5) e.attrs :: blk bk1 (.cells #[.int .i64 e.src.v, .int .i64 e.seq.v, .int .i64 e.time.v, .string e.typ.v, .slice ap e.attrs.length ac] 33 (0, 0)) :: Attrs (.slice ap e.attrs.length ac) e.attrs :: F) := Row.of_blk (n := 1) (size := 5) H262 (i := 0) rfl (by unfold maxLen; omega) rfl (fun x_ hx_ => one_ev (⟨ev0 e, pp61, cc62⟩ : EvD) x_ hx_)
                have H264 : St W w261 (Im 5 (.slice (some ⟨bk260, 0, none⟩) 1 1) ([(⟨ev0 e, pp61, cc62⟩ : EvD)].length) ([(⟨ev0 e, pp61, cc62⟩ : EvD)].flatMap evdCell) :: blk D145 (.deferred (some [])) :: AllA bk96 evs2 :: Streams bk42 16 (accSt 16 zeroSt ([] : List EvM) (ev0 e)) (accEvs 16 zeroSt ([] : List EvM) (ev0 e)) :: Row 91 4 (.slice pp49 ((ev0 e).attrs.length) cc50) (((ev0 e).attrs).length) (M2.flatMap attrCell) :: blk bk66 (.cells #[.int .i64 ((ev0 e).src.v), .int .i64 ((ev0 e).seq.v), .int .i64 ((ev0 e).time.v), .string ((ev0 e).typ.v), .slice pp61 ((ev0 e).attrs.length) cc62] 33 (0, 0)) :: Attrs (.slice pp61 ((ev0 e).attrs.length) cc62) ((ev0 e).attrs) :: blk bk53 (.cells #[.int .i64 ((ev0 e).src.v), .int .i64 ((ev0 e).seq.v), .int .i64 ((ev0 e).time.v), .string ((ev0 e).typ.v), .slice pp49 ((ev0 e).attrs.length) cc50] 33 (0, 0)) :: blk bk17 (.cells #[.int .i64 e.src.v, .int .i64 e.seq.v, .int .i64 e.time.v, .string e.typ.v, .slice pp13 e.attrs.length cc14] 33 (0, 0)) :: Row 91 4 (.slice pp13 e.attrs.length cc14) e.attrs.length (M.flatMap attrCell) :: blk bk8 (.cells #[.int .i64 e.src.v, .int .i64 e.seq.v, .int .i64 e.time.v, .string e.typ.v, .slice pp4 e.attrs.length cc5] 33 (0, 0)) :: Attrs (.slice pp4 e.attrs.length cc5) e.attrs :: blk bk1 (.cells #[.int .i64 e.src.v, .int .i64 e.seq.v, .int .i64 e.time.v, .string e.typ.v, .slice ap e.attrs.length ac] 33 (0, 0)) :: Attrs (.slice ap e.attrs.length ac) e.attrs :: F) := Row.im H263 (i := 0) rfl
                have H265 : St W w261 (Attrs (.slice pp61 ((ev0 e).attrs.length) cc62) ((ev0 e).attrs) :: Im 5 (.slice (some ⟨bk260, 0, none⟩) 1 1) ([(⟨ev0 e, pp61, cc62⟩ : EvD)].length) ([(⟨ev0 e, pp61, cc62⟩ : EvD)].flatMap evdCell) :: blk D145 (.deferred (some [])) :: AllA bk96 evs2 :: Streams bk42 16 (accSt 16 zeroSt ([] : List EvM) (ev0 e)) (accEvs 16 zeroSt ([] : List EvM) (ev0 e)) :: Row 91 4 (.slice pp49 ((ev0 e).attrs.length) cc50) (((ev0 e).attrs).length) (M2.flatMap attrCell) :: blk bk66 (.cells #[.int .i64 ((ev0 e).src.v), .int .i64 ((ev0 e).seq.v), .int .i64 ((ev0 e).time.v), .string ((ev0 e).typ.v), .slice pp61 ((ev0 e).attrs.length) cc62] 33 (0, 0)) :: blk bk53 (.cells #[.int .i64 ((ev0 e).src.v), .int .i64 ((ev0 e).seq.v), .int .i64 ((ev0 e).time.v), .string ((ev0 e).typ.v), .slice pp49 ((ev0 e).attrs.length) cc50] 33 (0, 0)) :: blk bk17 (.cells #[.int .i64 e.src.v, .int .i64 e.seq.v, .int .i64 e.time.v, .string e.typ.v, .slice pp13 e.attrs.length cc14] 33 (0, 0)) :: Row 91 4 (.slice pp13 e.attrs.length cc14) e.attrs.length (M.flatMap attrCell) :: blk bk8 (.cells #[.int .i64 e.src.v, .int .i64 e.seq.v, .int .i64 e.time.v, .string e.typ.v, .slice pp4 e.attrs.length cc5] 33 (0, 0)) :: Attrs (.slice pp4 e.attrs.length cc5) e.attrs :: blk bk1 (.cells #[.int .i64 e.src.v, .int .i64 e.seq.v, .int .i64 e.time.v, .string e.typ.v, .slice ap e.attrs.length ac] 33 (0, 0)) :: Attrs (.slice ap e.attrs.length ac) e.attrs :: F) := (H264.move 6 rfl)
                have H267 := H265.dup (i := 0) rfl (Attrs_pers _ _)
                have H268 := evA_nil H267
                have H269 := H268.move 1 rfl
                have H270 : St W w261 (evA [(⟨ev0 e, pp61, cc62⟩ : EvD)] :: Attrs (.slice pp61 ((ev0 e).attrs.length) cc62) ((ev0 e).attrs) :: Im 5 (.slice (some ⟨bk260, 0, none⟩) 1 1) ([(⟨ev0 e, pp61, cc62⟩ : EvD)].length) ([(⟨ev0 e, pp61, cc62⟩ : EvD)].flatMap evdCell) :: blk D145 (.deferred (some [])) :: AllA bk96 evs2 :: Streams bk42 16 (accSt 16 zeroSt ([] : List EvM) (ev0 e)) (accEvs 16 zeroSt ([] : List EvM) (ev0 e)) :: Row 91 4 (.slice pp49 ((ev0 e).attrs.length) cc50) (((ev0 e).attrs).length) (M2.flatMap attrCell) :: blk bk66 (.cells #[.int .i64 ((ev0 e).src.v), .int .i64 ((ev0 e).seq.v), .int .i64 ((ev0 e).time.v), .string ((ev0 e).typ.v), .slice pp61 ((ev0 e).attrs.length) cc62] 33 (0, 0)) :: blk bk53 (.cells #[.int .i64 ((ev0 e).src.v), .int .i64 ((ev0 e).seq.v), .int .i64 ((ev0 e).time.v), .string ((ev0 e).typ.v), .slice pp49 ((ev0 e).attrs.length) cc50] 33 (0, 0)) :: blk bk17 (.cells #[.int .i64 e.src.v, .int .i64 e.seq.v, .int .i64 e.time.v, .string e.typ.v, .slice pp13 e.attrs.length cc14] 33 (0, 0)) :: Row 91 4 (.slice pp13 e.attrs.length cc14) e.attrs.length (M.flatMap attrCell) :: blk bk8 (.cells #[.int .i64 e.src.v, .int .i64 e.seq.v, .int .i64 e.time.v, .string e.typ.v, .slice pp4 e.attrs.length cc5] 33 (0, 0)) :: Attrs (.slice pp4 e.attrs.length cc5) e.attrs :: blk bk1 (.cells #[.int .i64 e.src.v, .int .i64 e.seq.v, .int .i64 e.time.v, .string e.typ.v, .slice ap e.attrs.length ac] 33 (0, 0)) :: Attrs (.slice ap e.attrs.length ac) e.attrs :: F) := evA_snoc (e := (⟨ev0 e, pp61, cc62⟩ : EvD)) H269
                have H271 : St W w261 (Attrs (.slice pp4 e.attrs.length cc5) e.attrs :: blk bk1 (.cells #[.int .i64 e.src.v, .int .i64 e.seq.v, .int .i64 e.time.v, .string e.typ.v, .slice ap e.attrs.length ac] 33 (0, 0)) :: Attrs (.slice ap e.attrs.length ac) e.attrs :: evA [(⟨ev0 e, pp61, cc62⟩ : EvD)] :: Im 5 (.slice (some ⟨bk260, 0, none⟩) 1 1) ([(⟨ev0 e, pp61, cc62⟩ : EvD)].length) ([(⟨ev0 e, pp61, cc62⟩ : EvD)].flatMap evdCell) :: Attrs (.slice pp61 ((ev0 e).attrs.length) cc62) ((ev0 e).attrs) :: blk D145 (.deferred (some [])) :: AllA bk96 evs2 :: Streams bk42 16 (accSt 16 zeroSt ([] : List EvM) (ev0 e)) (accEvs 16 zeroSt ([] : List EvM) (ev0 e)) :: Row 91 4 (.slice pp49 ((ev0 e).attrs.length) cc50) (((ev0 e).attrs).length) (M2.flatMap attrCell) :: blk bk66 (.cells #[.int .i64 ((ev0 e).src.v), .int .i64 ((ev0 e).seq.v), .int .i64 ((ev0 e).time.v), .string ((ev0 e).typ.v), .slice pp61 ((ev0 e).attrs.length) cc62] 33 (0, 0)) :: blk bk53 (.cells #[.int .i64 ((ev0 e).src.v), .int .i64 ((ev0 e).seq.v), .int .i64 ((ev0 e).time.v), .string ((ev0 e).typ.v), .slice pp49 ((ev0 e).attrs.length) cc50] 33 (0, 0)) :: blk bk17 (.cells #[.int .i64 e.src.v, .int .i64 e.seq.v, .int .i64 e.time.v, .string e.typ.v, .slice pp13 e.attrs.length cc14] 33 (0, 0)) :: Row 91 4 (.slice pp13 e.attrs.length cc14) e.attrs.length (M.flatMap attrCell) :: blk bk8 (.cells #[.int .i64 e.src.v, .int .i64 e.seq.v, .int .i64 e.time.v, .string e.typ.v, .slice pp4 e.attrs.length cc5] 33 (0, 0)) :: F) := (((((H270.move 2 rfl).move 1 rfl).move 14 rfl).move 14 rfl).move 14 rfl)
                have H272 : St W w261 (Attrs (.slice pp61 ((ev0 e).attrs.length) cc62) ((ev0 e).attrs) :: blk bk53 (.cells #[.int .i64 ((ev0 e).src.v), .int .i64 ((ev0 e).seq.v), .int .i64 ((ev0 e).time.v), .string ((ev0 e).typ.v), .slice pp49 ((ev0 e).attrs.length) cc50] 33 (0, 0)) :: blk bk17 (.cells #[.int .i64 e.src.v, .int .i64 e.seq.v, .int .i64 e.time.v, .string e.typ.v, .slice pp13 e.attrs.length cc14] 33 (0, 0)) :: Row 91 4 (.slice pp13 e.attrs.length cc14) e.attrs.length (M.flatMap attrCell) :: blk bk8 (.cells #[.int .i64 e.src.v, .int .i64 e.seq.v, .int .i64 e.time.v, .string e.typ.v, .slice pp4 e.attrs.length cc5] 33 (0, 0)) :: Attrs (.slice pp4 e.attrs.length cc5) e.attrs :: blk bk1 (.cells #[.int .i64 e.src.v, .int .i64 e.seq.v, .int .i64 e.time.v, .string e.typ.v, .slice ap e.attrs.length ac] 33 (0, 0)) :: Attrs (.slice ap e.attrs.length ac) e.attrs :: evA [(⟨ev0 e, pp61, cc62⟩ : EvD)] :: Im 5 (.slice (some ⟨bk260, 0, none⟩) 1 1) ([(⟨ev0 e, pp61, cc62⟩ : EvD)].length) ([(⟨ev0 e, pp61, cc62⟩ : EvD)].flatMap evdCell) :: blk D145 (.deferred (some [])) :: AllA bk96 evs2 :: Streams bk42 16 (accSt 16 zeroSt ([] : List EvM) (ev0 e)) (accEvs 16 zeroSt ([] : List EvM) (ev0 e)) :: Row 91 4 (.slice pp49 ((ev0 e).attrs.length) cc50) (((ev0 e).attrs).length) (M2.flatMap attrCell) :: blk bk66 (.cells #[.int .i64 ((ev0 e).src.v), .int .i64 ((ev0 e).seq.v), .int .i64 ((ev0 e).time.v), .string ((ev0 e).typ.v), .slice pp61 ((ev0 e).attrs.length) cc62] 33 (0, 0)) :: F) := (((((H271.move 14 rfl).move 14 rfl).move 14 rfl).move 14 rfl).move 9 rfl)
                have H273 : St W w261 (blk D145 (.deferred (some [])) :: AllA bk96 evs2 :: Streams bk42 16 (accSt 16 zeroSt ([] : List EvM) (ev0 e)) (accEvs 16 zeroSt ([] : List EvM) (ev0 e)) :: Row 91 4 (.slice pp49 ((ev0 e).attrs.length) cc50) (((ev0 e).attrs).length) (M2.flatMap attrCell) :: blk bk66 (.cells #[.int .i64 ((ev0 e).src.v), .int .i64 ((ev0 e).seq.v), .int .i64 ((ev0 e).time.v), .string ((ev0 e).typ.v), .slice pp61 ((ev0 e).attrs.length) cc62] 33 (0, 0)) :: Attrs (.slice pp61 ((ev0 e).attrs.length) cc62) ((ev0 e).attrs) :: blk bk53 (.cells #[.int .i64 ((ev0 e).src.v), .int .i64 ((ev0 e).seq.v), .int .i64 ((ev0 e).time.v), .string ((ev0 e).typ.v), .slice pp49 ((ev0 e).attrs.length) cc50] 33 (0, 0)) :: blk bk17 (.cells #[.int .i64 e.src.v, .int .i64 e.seq.v, .int .i64 e.time.v, .string e.typ.v, .slice pp13 e.attrs.length cc14] 33 (0, 0)) :: Row 91 4 (.slice pp13 e.attrs.length cc14) e.attrs.length (M.flatMap attrCell) :: blk bk8 (.cells #[.int .i64 e.src.v, .int .i64 e.seq.v, .int .i64 e.time.v, .string e.typ.v, .slice pp4 e.attrs.length cc5] 33 (0, 0)) :: Attrs (.slice pp4 e.attrs.length cc5) e.attrs :: blk bk1 (.cells #[.int .i64 e.src.v, .int .i64 e.seq.v, .int .i64 e.time.v, .string e.typ.v, .slice ap e.attrs.length ac] 33 (0, 0)) :: Attrs (.slice ap e.attrs.length ac) e.attrs :: evA [(⟨ev0 e, pp61, cc62⟩ : EvD)] :: Im 5 (.slice (some ⟨bk260, 0, none⟩) 1 1) ([(⟨ev0 e, pp61, cc62⟩ : EvD)].length) ([(⟨ev0 e, pp61, cc62⟩ : EvD)].flatMap evdCell) :: F) := (((((H272.move 14 rfl).move 14 rfl).move 14 rfl).move 14 rfl).move 14 rfl)
                have H274 : St W w261 (blk D145 (.deferred (some [])) :: AllA bk96 evs2 :: Streams bk42 16 (accSt 16 zeroSt ([] : List EvM) (ev0 e)) (accEvs 16 zeroSt ([] : List EvM) (ev0 e)) :: Row 91 4 (.slice pp49 ((ev0 e).attrs.length) cc50) (((ev0 e).attrs).length) (M2.flatMap attrCell) :: blk bk66 (.cells #[.int .i64 ((ev0 e).src.v), .int .i64 ((ev0 e).seq.v), .int .i64 ((ev0 e).time.v), .string ((ev0 e).typ.v), .slice pp61 ((ev0 e).attrs.length) cc62] 33 (0, 0)) :: Attrs (.slice pp61 ((ev0 e).attrs.length) cc62) ((ev0 e).attrs) :: blk bk53 (.cells #[.int .i64 ((ev0 e).src.v), .int .i64 ((ev0 e).seq.v), .int .i64 ((ev0 e).time.v), .string ((ev0 e).typ.v), .slice pp49 ((ev0 e).attrs.length) cc50] 33 (0, 0)) :: blk bk17 (.cells #[.int .i64 e.src.v, .int .i64 e.seq.v, .int .i64 e.time.v, .string e.typ.v, .slice pp13 e.attrs.length cc14] 33 (0, 0)) :: Row 91 4 (.slice pp13 e.attrs.length cc14) e.attrs.length (M.flatMap attrCell) :: blk bk8 (.cells #[.int .i64 e.src.v, .int .i64 e.seq.v, .int .i64 e.time.v, .string e.typ.v, .slice pp4 e.attrs.length cc5] 33 (0, 0)) :: Attrs (.slice pp4 e.attrs.length cc5) e.attrs :: blk bk1 (.cells #[.int .i64 e.src.v, .int .i64 e.seq.v, .int .i64 e.time.v, .string e.typ.v, .slice ap e.attrs.length ac] 33 (0, 0)) :: Attrs (.slice ap e.attrs.length ac) e.attrs :: evA [(⟨ev0 e, pp61, cc62⟩ : EvD)] :: Im 5 (.slice (some ⟨bk260, 0, none⟩) 1 1) ([(⟨ev0 e, pp61, cc62⟩ : EvD)].length) ([(⟨ev0 e, pp61, cc62⟩ : EvD)].flatMap evdCell) :: F) := H273
                refine ⟨evA [(⟨ev0 e, pp61, cc62⟩ : EvD)] :: Im 5 (.slice (some ⟨bk260, 0, none⟩) 1 1) ([(⟨ev0 e, pp61, cc62⟩ : EvD)].length) ([(⟨ev0 e, pp61, cc62⟩ : EvD)].flatMap evdCell) :: F, ?_, H274⟩
                change FReg _ _ _ _ _ #[true, true, true, true, false, true, true, false, false, false] _ _
                refine f_all (rs := [4]) (by kernel_rfl) (by simp) ?_
                refine a_cons ⟨_, rfl, ?_⟩ (fun x hx => absurd hx (by simp))
                intro w275 H276
                try dsimp only at H276
                refine r_take rfl rfl ?_
                refine s_call [.pointer (some ⟨bk42, 0, none⟩)] pl_34 rfl rfl (Streams_All bk42 16 (accSt 16 zeroSt ([] : List EvM) (ev0 e)) (accEvs 16 zeroSt ([] : List EvM) (ev0 e)) (okEvs_acc okEvs_nil _).1 (okEvs_acc okEvs_nil _).2 (i := 2) rfl H276) ?_
                rintro _ w278 ⟨bk277, rfl, H279⟩
                have H280 : St W w278 (blk bk1 (.cells #[.int .i64 e.src.v, .int .i64 e.seq.v, .int .i64 e.time.v, .string e.typ.v, .slice ap e.attrs.length ac] 33 (0, 0)) :: Attrs (.slice ap e.attrs.length ac) e.attrs :: AllA bk277 (accEvs 16 zeroSt ([] : List EvM) (ev0 e)) :: evA [(⟨ev0 e, pp61, cc62⟩ : EvD)] :: Im 5 (.slice (some ⟨bk260, 0, none⟩) 1 1) ([(⟨ev0 e, pp61, cc62⟩ : EvD)].length) ([(⟨ev0 e, pp61, cc62⟩ : EvD)].flatMap evdCell) :: blk D145 (.deferred (some [])) :: AllA bk96 evs2 :: Streams bk42 16 (accSt 16 zeroSt ([] : List EvM) (ev0 e)) (accEvs 16 zeroSt ([] : List EvM) (ev0 e)) :: Row 91 4 (.slice pp49 ((ev0 e).attrs.length) cc50) (((ev0 e).attrs).length) (M2.flatMap attrCell) :: blk bk66 (.cells #[.int .i64 ((ev0 e).src.v), .int .i64 ((ev0 e).seq.v), .int .i64 ((ev0 e).time.v), .string ((ev0 e).typ.v), .slice pp61 ((ev0 e).attrs.length) cc62] 33 (0, 0)) :: Attrs (.slice pp61 ((ev0 e).attrs.length) cc62) ((ev0 e).attrs) :: blk bk53 (.cells #[.int .i64 ((ev0 e).src.v), .int .i64 ((ev0 e).seq.v), .int .i64 ((ev0 e).time.v), .string ((ev0 e).typ.v), .slice pp49 ((ev0 e).attrs.length) cc50] 33 (0, 0)) :: blk bk17 (.cells #[.int .i64 e.src.v, .int .i64 e.seq.v, .int .i64 e.time.v, .string e.typ.v, .slice pp13 e.attrs.length cc14] 33 (0, 0)) :: Row 91 4 (.slice pp13 e.attrs.length cc14) e.attrs.length (M.flatMap attrCell) :: blk bk8 (.cells #[.int .i64 e.src.v, .int .i64 e.seq.v, .int .i64 e.time.v, .string e.typ.v, .slice pp4 e.attrs.length cc5] 33 (0, 0)) :: Attrs (.slice pp4 e.attrs.length cc5) e.attrs :: F) := (((((H279.move 15 rfl).move 15 rfl).move 2 rfl).move 15 rfl).move 15 rfl)
                have H281 : St W w278 (blk bk53 (.cells #[.int .i64 ((ev0 e).src.v), .int .i64 ((ev0 e).seq.v), .int .i64 ((ev0 e).time.v), .string ((ev0 e).typ.v), .slice pp49 ((ev0 e).attrs.length) cc50] 33 (0, 0)) :: blk bk17 (.cells #[.int .i64 e.src.v, .int .i64 e.seq.v, .int .i64 e.time.v, .string e.typ.v, .slice pp13 e.attrs.length cc14] 33 (0, 0)) :: Row 91 4 (.slice pp13 e.attrs.length cc14) e.attrs.length (M.flatMap attrCell) :: blk bk8 (.cells #[.int .i64 e.src.v, .int .i64 e.seq.v, .int .i64 e.time.v, .string e.typ.v, .slice pp4 e.attrs.length cc5] 33 (0, 0)) :: Attrs (.slice pp4 e.attrs.length cc5) e.attrs :: blk bk1 (.cells #[.int .i64 e.src.v, .int .i64 e.seq.v, .int .i64 e.time.v, .string e.typ.v, .slice ap e.attrs.length ac] 33 (0, 0)) :: Attrs (.slice ap e.attrs.length ac) e.attrs :: AllA bk277 (accEvs 16 zeroSt ([] : List EvM) (ev0 e)) :: evA [(⟨ev0 e, pp61, cc62⟩ : EvD)] :: Im 5 (.slice (some ⟨bk260, 0, none⟩) 1 1) ([(⟨ev0 e, pp61, cc62⟩ : EvD)].length) ([(⟨ev0 e, pp61, cc62⟩ : EvD)].flatMap evdCell) :: blk D145 (.deferred (some [])) :: AllA bk96 evs2 :: Streams bk42 16 (accSt 16 zeroSt ([] : List EvM) (ev0 e)) (accEvs 16 zeroSt ([] : List EvM) (ev0 e)) :: Row 91 4 (.slice pp49 ((ev0 e).attrs.length) cc50) (((ev0 e).attrs).length) (M2.flatMap attrCell) :: blk bk66 (.cells #[.int .i64 ((ev0 e).src.v), .int .i64 ((ev0 e).seq.v), .int .i64 ((ev0 e).time.v), .string ((ev0 e).typ.v), .slice pp61 ((ev0 e).attrs.length) cc62] 33 (0, 0)) :: Attrs (.slice pp61 ((ev0 e).attrs.length) cc62) ((ev0 e).attrs) :: F) := (((((H280.move 15 rfl).move 15 rfl).move 15 rfl).move 15 rfl).move 15 rfl)
                have H282 : St W w278 (AllA bk96 evs2 :: Streams bk42 16 (accSt 16 zeroSt ([] : List EvM) (ev0 e)) (accEvs 16 zeroSt ([] : List EvM) (ev0 e)) :: Row 91 4 (.slice pp49 ((ev0 e).attrs.length) cc50) (((ev0 e).attrs).length) (M2.flatMap attrCell) :: blk bk66 (.cells #[.int .i64 ((ev0 e).src.v), .int .i64 ((ev0 e).seq.v), .int .i64 ((ev0 e).time.v), .string ((ev0 e).typ.v), .slice pp61 ((ev0 e).attrs.length) cc62] 33 (0, 0)) :: Attrs (.slice pp61 ((ev0 e).attrs.length) cc62) ((ev0 e).attrs) :: blk bk53 (.cells #[.int .i64 ((ev0 e).src.v), .int .i64 ((ev0 e).seq.v), .int .i64 ((ev0 e).time.v), .string ((ev0 e).typ.v), .slice pp49 ((ev0 e).attrs.length) cc50] 33 (0, 0)) :: blk bk17 (.cells #[.int .i64 e.src.v, .int .i64 e.seq.v, .int .i64 e.time.v, .string e.typ.v, .slice pp13 e.attrs.length cc14] 33 (0, 0)) :: Row 91 4 (.slice pp13 e.attrs.length cc14) e.attrs.length (M.flatMap attrCell) :: blk bk8 (.cells #[.int .i64 e.src.v, .int .i64 e.seq.v, .int .i64 e.time.v, .string e.typ.v, .slice pp4 e.attrs.length cc5] 33 (0, 0)) :: Attrs (.slice pp4 e.attrs.length cc5) e.attrs :: blk bk1 (.cells #[.int .i64 e.src.v, .int .i64 e.seq.v, .int .i64 e.time.v, .string e.typ.v, .slice ap e.attrs.length ac] 33 (0, 0)) :: Attrs (.slice ap e.attrs.length ac) e.attrs :: AllA bk277 (accEvs 16 zeroSt ([] : List EvM) (ev0 e)) :: evA [(⟨ev0 e, pp61, cc62⟩ : EvD)] :: Im 5 (.slice (some ⟨bk260, 0, none⟩) 1 1) ([(⟨ev0 e, pp61, cc62⟩ : EvD)].length) ([(⟨ev0 e, pp61, cc62⟩ : EvD)].flatMap evdCell) :: blk D145 (.deferred (some [])) :: F) := (((((H281.move 15 rfl).move 15 rfl).move 15 rfl).move 15 rfl).move 15 rfl)
                have H283 : St W w278 (blk D145 (.deferred (some [])) :: AllA bk96 evs2 :: Streams bk42 16 (accSt 16 zeroSt ([] : List EvM) (ev0 e)) (accEvs 16 zeroSt ([] : List EvM) (ev0 e)) :: Row 91 4 (.slice pp49 ((ev0 e).attrs.length) cc50) (((ev0 e).attrs).length) (M2.flatMap attrCell) :: blk bk66 (.cells #[.int .i64 ((ev0 e).src.v), .int .i64 ((ev0 e).seq.v), .int .i64 ((ev0 e).time.v), .string ((ev0 e).typ.v), .slice pp61 ((ev0 e).attrs.length) cc62] 33 (0, 0)) :: Attrs (.slice pp61 ((ev0 e).attrs.length) cc62) ((ev0 e).attrs) :: blk bk53 (.cells #[.int .i64 ((ev0 e).src.v), .int .i64 ((ev0 e).seq.v), .int .i64 ((ev0 e).time.v), .string ((ev0 e).typ.v), .slice pp49 ((ev0 e).attrs.length) cc50] 33 (0, 0)) :: blk bk17 (.cells #[.int .i64 e.src.v, .int .i64 e.seq.v, .int .i64 e.time.v, .string e.typ.v, .slice pp13 e.attrs.length cc14] 33 (0, 0)) :: Row 91 4 (.slice pp13 e.attrs.length cc14) e.attrs.length (M.flatMap attrCell) :: blk bk8 (.cells #[.int .i64 e.src.v, .int .i64 e.seq.v, .int .i64 e.time.v, .string e.typ.v, .slice pp4 e.attrs.length cc5] 33 (0, 0)) :: Attrs (.slice pp4 e.attrs.length cc5) e.attrs :: blk bk1 (.cells #[.int .i64 e.src.v, .int .i64 e.seq.v, .int .i64 e.time.v, .string e.typ.v, .slice ap e.attrs.length ac] 33 (0, 0)) :: Attrs (.slice ap e.attrs.length ac) e.attrs :: AllA bk277 (accEvs 16 zeroSt ([] : List EvM) (ev0 e)) :: evA [(⟨ev0 e, pp61, cc62⟩ : EvD)] :: Im 5 (.slice (some ⟨bk260, 0, none⟩) 1 1) ([(⟨ev0 e, pp61, cc62⟩ : EvD)].length) ([(⟨ev0 e, pp61, cc62⟩ : EvD)].flatMap evdCell) :: F) := (H282.move 15 rfl)
                refine ⟨AllA bk277 (accEvs 16 zeroSt ([] : List EvM) (ev0 e)) :: evA [(⟨ev0 e, pp61, cc62⟩ : EvD)] :: Im 5 (.slice (some ⟨bk260, 0, none⟩) 1 1) ([(⟨ev0 e, pp61, cc62⟩ : EvD)].length) ([(⟨ev0 e, pp61, cc62⟩ : EvD)].flatMap evdCell) :: F, ?_, H283⟩
                change FReg _ _ _ _ _ #[true, true, true, true, true, true, true, false, false, false] _ _
                refine f_all (rs := [7]) (by kernel_rfl) (by simp) ?_
                refine a_cons ⟨_, rfl, ?_⟩ (fun x hx => absurd hx (by simp))
                intro w284 H285
                try dsimp only at H285
                refine r_take rfl rfl ?_
                refine s_call [.func (.func 72) #[] #[.pointer (some ⟨bk277, 0, none⟩)], .slice (some ⟨bk260, 0, none⟩) 1 1] pl_33 rfl rfl (told_ bk277 (accEvs 16 zeroSt ([] : List EvM) (ev0 e)) [(⟨ev0 e, pp61, cc62⟩ : EvD)] (.slice (some ⟨bk260, 0, none⟩) 1 1) (okEvs_acc okEvs_nil _).1 (okEvs_acc okEvs_nil _).2 (i := 13) (j := 15) (k := 14) rfl rfl rfl H285) ?_
                rintro _ w286 ⟨rfl, H287⟩
                refine ⟨AllA bk277 (accEvs 16 zeroSt ([] : List EvM) (ev0 e)) :: evA [(⟨ev0 e, pp61, cc62⟩ : EvD)] :: Im 5 (.slice (some ⟨bk260, 0, none⟩) 1 1) ([(⟨ev0 e, pp61, cc62⟩ : EvD)].length) ([(⟨ev0 e, pp61, cc62⟩ : EvD)].flatMap evdCell) :: F, ?_, H287⟩
                change FReg _ _ _ _ _ #[true, true, true, true, true, true, true, true, false, false] _ _
                refine f_first 8 (listed' := #[true, true, true, true, true, true, true, true, true, false]) rfl (by kernel_rfl) (by kernel_rfl) (by kernel_rfl) rfl ?_
                refine f_take rfl rfl ?_
                have htl : toldB (accEvs 16 zeroSt ([] : List EvM) (ev0 e)) ([(⟨ev0 e, pp61, cc62⟩ : EvD)].map EvD.ev) = true := told_own ‹_› _ rfl
                refine f_val rfl rfl rfl (by intro t_ w hw; exact x_not (toldB (accEvs 16 zeroSt ([] : List EvM) (ev0 e)) ([(⟨ev0 e, pp61, cc62⟩ : EvD)].map EvD.ev)) rfl false (by rw [htl]; rfl) w) ?_
                refine f_first 9 (listed' := #[true, true, true, true, true, true, true, true, true, true]) rfl (by kernel_rfl) (by kernel_rfl) (by kernel_rfl) rfl ?_
                refine f_val rfl rfl rfl (by intro t_ w hw; exact x_pick_t (.bool false) rfl rfl w) ?_
                refine f_done (by kernel_rfl) ?_
                intro w288 H289
                refine g_false rfl ?_
                refine g_skip ?_
                refine g_seq ?_
                refine g_seq ?_
                refine g_region ?_
                refine r_cons (s_build (cs := #[.int .i64 0, .int .i64 0, .int .i64 0, .bool false, .int .i64 0, .int .i64 0, .bool false, .int .i64 0, .int .i64 0, .bool false, .int .i64 0, .int .i64 0, .bool false, .int .i64 0, .int .i64 0, .bool false, .int .i64 0, .int .i64 0, .bool false, .int .i64 0, .int .i64 0, .bool false, .int .i64 0, .int .i64 0, .bool false, .int .i64 0, .int .i64 0, .bool false, .int .i64 0, .int .i64 0, .bool false, .int .i64 0, .int .i64 0, .bool false, .int .i64 0, .int .i64 0, .bool false, .int .i64 0, .int .i64 0, .bool false, .int .i64 0, .int .i64 0, .bool false, .int .i64 0, .int .i64 0, .bool false, .int .i64 0, .int .i64 0, .bool false, .slice none 0 0]) (by kernel_rfl) rfl ?_)
                refine r_cons (s_box H289 96 (.agg #[.int .i64 0, .int .i64 0, .int .i64 0, .bool false, .int .i64 0, .int .i64 0, .bool false, .int .i64 0, .int .i64 0, .bool false, .int .i64 0, .int .i64 0, .bool false, .int .i64 0, .int .i64 0, .bool false, .int .i64 0, .int .i64 0, .bool false, .int .i64 0, .int .i64 0, .bool false, .int .i64 0, .int .i64 0, .bool false, .int .i64 0, .int .i64 0, .bool false, .int .i64 0, .int .i64 0, .bool false, .int .i64 0, .int .i64 0, .bool false, .int .i64 0, .int .i64 0, .bool false, .int .i64 0, .int .i64 0, .bool false, .int .i64 0, .int .i64 0, .bool false, .int .i64 0, .int .i64 0, .bool false, .int .i64 0, .int .i64 0, .bool false, .slice none 0 0]) rfl (cs := #[.int .i64 0, .int .i64 0, .int .i64 0, .bool false, .int .i64 0, .int .i64 0, .bool false, .int .i64 0, .int .i64 0, .bool false, .int .i64 0, .int .i64 0, .bool false, .int .i64 0, .int .i64 0, .bool false, .int .i64 0, .int .i64 0, .bool false, .int .i64 0, .int .i64 0, .bool false, .int .i64 0, .int .i64 0, .bool false, .int .i64 0, .int .i64 0, .bool false, .int .i64 0, .int .i64 0, .bool false, .int .i64 0, .int .i64 0, .bool false, .int .i64 0, .int .i64 0, .bool false, .int .i64 0, .int .i64 0, .bool false, .int .i64 0, .int .i64 0, .bool false, .int .i64 0, .int .i64 0, .bool false, .int .i64 0, .int .i64 0, .bool false, .slice none 0 0]) rfl rfl ?_); intro bk290 w291 H292
                have H293 : St W w291 (blk bk290 (.cells (stCells 0 zeroSt (.slice none 0 0)) 96 (0, 0)) :: blk D145 (.deferred (some [])) :: AllA bk96 evs2 :: Streams bk42 16 (accSt 16 zeroSt ([] : List EvM) (ev0 e)) (accEvs 16 zeroSt ([] : List EvM) (ev0 e)) :: Row 91 4 (.slice pp49 ((ev0 e).attrs.length) cc50) (((ev0 e).attrs).length) (M2.flatMap attrCell) :: blk bk66 (.cells #[.int .i64 ((ev0 e).src.v), .int .i64 ((ev0 e).seq.v), .int .i64 ((ev0 e).time.v), .string ((ev0 e).typ.v), .slice pp61 ((ev0 e).attrs.length) cc62] 33 (0, 0)) :: Attrs (.slice pp61 ((ev0 e).attrs.length) cc62) ((ev0 e).attrs) :: blk bk53 (.cells #[.int .i64 ((ev0 e).src.v), .int .i64 ((ev0 e).seq.v), .int .i64 ((ev0 e).time.v), .string ((ev0 e).typ.v), .slice pp49 ((ev0 e).attrs.length) cc50] 33 (0, 0)) :: blk bk17 (.cells #[.int .i64 e.src.v, .int .i64 e.seq.v, .int .i64 e.time.v, .string e.typ.v, .slice pp13 e.attrs.length cc14] 33 (0, 0)) :: Row 91 4 (.slice pp13 e.attrs.length cc14) e.attrs.length (M.flatMap attrCell) :: blk bk8 (.cells #[.int .i64 e.src.v, .int .i64 e.seq.v, .int .i64 e.time.v, .string e.typ.v, .slice pp4 e.attrs.length cc5] 33 (0, 0)) :: Attrs (.slice pp4 e.attrs.length cc5) e.attrs :: blk bk1 (.cells #[.int .i64 e.src.v, .int .i64 e.seq.v, .int .i64 e.time.v, .string e.typ.v, .slice ap e.attrs.length ac] 33 (0, 0)) :: Attrs (.slice ap e.attrs.length ac) e.attrs :: AllA bk277 (accEvs 16 zeroSt ([] : List EvM) (ev0 e)) :: evA [(⟨ev0 e, pp61, cc62⟩ : EvD)] :: Im 5 (.slice (some ⟨bk260, 0, none⟩) 1 1) ([(⟨ev0 e, pp61, cc62⟩ : EvD)].length) ([(⟨ev0 e, pp61, cc62⟩ : EvD)].flatMap evdCell) :: F) := H292
                have H294 : St W w291 (Im 5 (.slice none 0 0) 0 (([] : List EvD).flatMap evdCell) :: blk bk290 (.cells (stCells 0 zeroSt (.slice none 0 0)) 96 (0, 0)) :: blk D145 (.deferred (some [])) :: AllA bk96 evs2 :: Streams bk42 16 (accSt 16 zeroSt ([] : List EvM) (ev0 e)) (accEvs 16 zeroSt ([] : List EvM) (ev0 e)) :: Row 91 4 (.slice pp49 ((ev0 e).attrs.length) cc50) (((ev0 e).attrs).length) (M2.flatMap attrCell) :: blk bk66 (.cells #[.int .i64 ((ev0 e).src.v), .int .i64 ((ev0 e).seq.v), .int .i64 ((ev0 e).time.v), .string ((ev0 e).typ.v), .slice pp61 ((ev0 e).attrs.length) cc62] 33 (0, 0)) :: Attrs (.slice pp61 ((ev0 e).attrs.length) cc62) ((ev0 e).attrs) :: blk bk53 (.cells #[.int .i64 ((ev0 e).src.v), .int .i64 ((ev0 e).seq.v), .int .i64 ((ev0 e).time.v), .string ((ev0 e).typ.v), .slice pp49 ((ev0 e).attrs.length) cc50] 33 (0, 0)) :: blk bk17 (.cells #[.int .i64 e.src.v, .int .i64 e.seq.v, .int .i64 e.time.v, .string e.typ.v, .slice pp13 e.attrs.length cc14] 33 (0, 0)) :: Row 91 4 (.slice pp13 e.attrs.length cc14) e.attrs.length (M.flatMap attrCell) :: blk bk8 (.cells #[.int .i64 e.src.v, .int .i64 e.seq.v, .int .i64 e.time.v, .string e.typ.v, .slice pp4 e.attrs.length cc5] 33 (0, 0)) :: Attrs (.slice pp4 e.attrs.length cc5) e.attrs :: blk bk1 (.cells #[.int .i64 e.src.v, .int .i64 e.seq.v, .int .i64 e.time.v, .string e.typ.v, .slice ap e.attrs.length ac] 33 (0, 0)) :: Attrs (.slice ap e.attrs.length ac) e.attrs :: AllA bk277 (accEvs 16 zeroSt ([] : List EvM) (ev0 e)) :: evA [(⟨ev0 e, pp61, cc62⟩ : EvD)] :: Im 5 (.slice (some ⟨bk260, 0, none⟩) 1 1) ([(⟨ev0 e, pp61, cc62⟩ : EvD)].length) ([(⟨ev0 e, pp61, cc62⟩ : EvD)].flatMap evdCell) :: F) := Row.im (Row.nil_intro H293 33 5) (i := 0) rfl
                have H295 := evA_nil H294
                refine r_cons (s_buildSlice H295 1 2 (cs := #[.pointer none, .pointer (some ⟨bk290, 0, none⟩)]) #[.pointer none] el_97 ze_23 (by decide) (by decide) (by kernel_rfl) rfl ?_); intro bk296 w297 H298
                refine r_cons (s_len 2 rfl ⟨_, un_97⟩ rfl ?_)
                refine r_cons (s_move (.int .i64 0) rfl rfl ?_)
                refine r_nil ?_
                refine g_block ?_
                refine g_loop ?_
                refine g_seq ?_
                refine g_region ?_
                refine r_cons (s_lss true rfl rfl (dtrue (by decide)) rfl ?_)
                refine r_nil ?_
                refine g_seq ?_
                refine g_true rfl ?_
                refine g_skip ?_
                refine g_seq ?_
                refine g_block ?_
                refine g_seq ?_
                refine g_region ?_
                refine r_cons (s_indexAddr bk296 0 1 0 rfl rfl el_97 (by omega) rfl rfl ?_)
                refine r_cons (s_load (.pointer none) ag_23 rfl (H298.blk_at (i := 0) rfl) rfl rfl ?_)
                refine r_cons (s_assign (.pointer none) rfl rfl ?_)
                refine r_nil ?_
                refine g_seq ?_
                refine g_region ?_
                refine r_cons (s_move (.pointer none) rfl rfl ?_)
                refine r_cons (s_loadAgg [.int .i64 e.src.v, .int .i64 e.seq.v, .int .i64 e.time.v, .string e.typ.v, .slice ap e.attrs.length ac] 5 ag_33 rfl (H298.blk_at (i := 15) rfl) (Nat.le_of_ble_eq_true rfl) rfl rfl ?_)
                refine r_cons (s_call [.pointer none, .agg #[.int .i64 e.src.v, .int .i64 e.seq.v, .int .i64 e.time.v, .string e.typ.v, .slice ap e.attrs.length ac]] pl_16 rfl rfl (SN_Accept_nil e ap e.attrs.length ac rfl H298) ?_)
                rintro _ w299 ⟨rfl, H300⟩
                refine r_cons (s_neq false rfl rfl (ntrue (by decide)) rfl ?_)
                refine r_cons (s_move (.bool false) rfl rfl ?_)
                refine r_cons (r_take rfl rfl ?_)
                refine s_move (.pointer none) rfl rfl ?_
                refine r_cons (r_take rfl rfl ?_)
                refine s_call [.pointer none, .int .i64 0] pl_14 rfl rfl (SN_Close_nil 0 H300) ?_
                rintro _ w301 ⟨rfl, H302⟩
                refine r_cons (r_take rfl rfl ?_)
                refine s_neq false rfl rfl (ntrue (by decide)) rfl ?_
                refine r_cons (s_pick_f (.bool false) rfl rfl rfl ?_)
                refine r_cons (s_move (.bool false) rfl rfl ?_)
                refine r_cons (r_take rfl rfl ?_)
                refine s_move (.pointer none) rfl rfl ?_
                refine r_cons (r_take rfl rfl ?_)
                refine s_call [.pointer none, .int .i64 0] pl_13 rfl rfl (SN_Mark_nil 0 H302) ?_
                rintro _ w303 ⟨rfl, H304⟩
                refine r_cons (r_take rfl rfl ?_)
                refine s_move (.pointer none) rfl rfl ?_
                refine r_cons (r_take rfl rfl ?_)
                refine s_call [.pointer none, .int .i64 0] pl_28 rfl rfl (SN_Next_nil 0 H304) ?_
                rintro _ w305 ⟨rfl, H306⟩
                refine r_cons (r_take rfl rfl ?_)
                refine s_add 0 rfl rfl (wi64 (by omega)) rfl ?_
                refine r_cons (r_take rfl rfl ?_)
                refine s_neq false rfl rfl (ntrue (by decide)) rfl ?_
                refine r_cons (s_pick_f (.bool false) rfl rfl rfl ?_)
                refine r_cons (s_move (.bool false) rfl rfl ?_)
                refine r_cons (r_take rfl rfl ?_)
                refine s_move (.pointer none) rfl rfl ?_
                refine r_cons (r_take rfl rfl ?_)
                refine s_call [.pointer none, .int .i64 0] pl_15 rfl rfl (SN_Closed_nil 0 H306) ?_
                rintro _ w307 ⟨rfl, H308⟩
                refine r_cons (s_pick_f (.bool false) rfl rfl rfl ?_)
                refine r_cons (s_move (.bool false) rfl rfl ?_)
                refine r_cons (r_take rfl rfl ?_)
                refine s_move (.pointer none) rfl rfl ?_
                refine r_cons (r_take rfl rfl ?_)
                refine s_call [.pointer none] pl_34 rfl rfl (SN_All_nil  H308) ?_
                rintro _ w310 ⟨bk309, rfl, H311⟩
                refine r_cons (r_take rfl rfl ?_)
                refine s_call [.func (.func 72) #[] #[.pointer (some ⟨bk309, 0, none⟩)], .slice none 0 0] pl_33 rfl rfl (told_ bk309 [] ([] : List EvD) (.slice none 0 0) okEvs_nil.1 okEvs_nil.2 (i := 0) (j := 3) (k := 2) rfl rfl rfl H311) ?_
                rintro _ w312 ⟨rfl, H313⟩
                refine r_cons (r_take rfl rfl ?_)
                have htl314 : toldB [] (([] : List EvD).map EvD.ev) = true := rfl
                refine s_not (toldB [] (([] : List EvD).map EvD.ev)) rfl false (by rw [htl314]; rfl) rfl ?_
                refine r_cons (s_pick_f (.bool false) rfl rfl rfl ?_)
                refine r_cons (s_move (.bool false) rfl rfl ?_)
                refine r_cons (r_take rfl rfl ?_)
                refine s_move (.pointer none) rfl rfl ?_
                refine r_cons (r_take rfl rfl ?_)
                refine s_call [.pointer none] pl_32 rfl rfl (SN_Len_nil  H313) ?_
                rintro _ w315 ⟨rfl, H316⟩
                refine r_cons (r_take rfl rfl ?_)
                refine s_move (.pointer none) rfl rfl ?_
                refine r_cons (r_take rfl rfl ?_)
                refine s_call [.pointer none] pl_35 rfl rfl (SN_Sources_nil  H316) ?_
                rintro _ w317 ⟨rfl, H318⟩
                refine r_cons (r_take rfl rfl ?_)
                refine s_add 0 rfl rfl (wi64 (by omega)) rfl ?_
                refine r_cons (r_take rfl rfl ?_)
                refine s_neq false rfl rfl (ntrue (by decide)) rfl ?_
                refine r_cons (s_pick_f (.bool false) rfl rfl rfl ?_)
                refine r_cons (s_move (.bool false) rfl rfl ?_)
                refine r_cons (r_take rfl rfl ?_)
                refine s_move (.pointer none) rfl rfl ?_
                refine r_cons (r_take rfl rfl ?_)
                refine s_call [.pointer none] pl_27 rfl rfl (SN_Clone_nil  H318) ?_
                rintro _ w319 ⟨rfl, H320⟩
                refine r_cons (r_take rfl rfl ?_)
                refine s_pneq false un_23 rfl rfl rfl rfl ?_
                refine r_cons (s_pick_f (.bool false) rfl rfl rfl ?_)
                refine r_nil ?_
                refine g_false rfl ?_
                refine g_skip ?_
                refine g_inBlock ?_
                refine g_region ?_
                refine r_cons (s_add 1 rfl rfl (wi64 (by omega)) rfl ?_)
                refine r_cons (s_move (.int .i64 1) rfl rfl ?_)
                refine r_nil ?_
                refine g_inLoop ?_
                refine g_seq ?_
                refine g_region ?_
                refine r_cons (s_lss true rfl rfl (dtrue (by decide)) rfl ?_)
                refine r_nil ?_
                refine g_seq ?_
                refine g_true rfl ?_
                refine g_skip ?_
                refine g_seq ?_
                refine g_block ?_
                refine g_seq ?_
                refine g_region ?_
                refine r_cons (s_indexAddr bk296 1 1 1 rfl rfl el_97 (by omega) rfl rfl ?_)
                refine r_cons (s_load (.pointer (some ⟨bk290, 0, none⟩)) ag_23 rfl (H320.blk_at (i := 1) rfl) rfl rfl ?_)
                refine r_cons (s_assign (.pointer (some ⟨bk290, 0, none⟩)) rfl rfl ?_)
                refine r_nil ?_
                refine g_seq ?_
                refine g_region ?_
                refine r_cons (s_move (.pointer (some ⟨bk290, 0, none⟩)) rfl rfl ?_)
                refine r_cons (s_loadAgg [.int .i64 e.src.v, .int .i64 e.seq.v, .int .i64 e.time.v, .string e.typ.v, .slice ap e.attrs.length ac] 5 ag_33 rfl (H320.blk_at (i := 16) rfl) (Nat.le_of_ble_eq_true rfl) rfl rfl ?_)
                refine r_cons (s_call [.pointer (some ⟨bk290, 0, none⟩), .agg #[.int .i64 e.src.v, .int .i64 e.seq.v, .int .i64 e.time.v, .string e.typ.v, .slice ap e.attrs.length ac]] pl_16 rfl rfl (SN_Accept_zero bk290 e ap e.attrs.length ac rfl (i := 4) rfl H320) ?_)
                rintro _ w321 ⟨rfl, H322⟩
                refine r_cons (s_neq false rfl rfl (ntrue (by decide)) rfl ?_)
                refine r_cons (s_move (.bool false) rfl rfl ?_)
                refine r_cons (r_take rfl rfl ?_)
                refine s_move (.pointer (some ⟨bk290, 0, none⟩)) rfl rfl ?_
                refine r_cons (r_take rfl rfl ?_)
                refine s_call [.pointer (some ⟨bk290, 0, none⟩), .int .i64 0] pl_14 rfl rfl (SN_Close_zero bk290 0 (i := 4) rfl H322) ?_
                rintro _ w323 ⟨rfl, H324⟩
                refine r_cons (r_take rfl rfl ?_)
                refine s_neq false rfl rfl (ntrue (by decide)) rfl ?_
                refine r_cons (s_pick_f (.bool false) rfl rfl rfl ?_)
                refine r_cons (s_move (.bool false) rfl rfl ?_)
                refine r_cons (r_take rfl rfl ?_)
                refine s_move (.pointer (some ⟨bk290, 0, none⟩)) rfl rfl ?_
                refine r_cons (r_take rfl rfl ?_)
                refine s_call [.pointer (some ⟨bk290, 0, none⟩), .int .i64 0] pl_13 rfl rfl (SN_Mark_zero bk290 0 (i := 4) rfl H324) ?_
                rintro _ w325 ⟨rfl, H326⟩
                refine r_cons (r_take rfl rfl ?_)
                refine s_move (.pointer (some ⟨bk290, 0, none⟩)) rfl rfl ?_
                refine r_cons (r_take rfl rfl ?_)
                refine s_call [.pointer (some ⟨bk290, 0, none⟩), .int .i64 0] pl_28 rfl rfl (SN_Next_zero bk290 0 (i := 4) rfl H326) ?_
                rintro _ w327 ⟨rfl, H328⟩
                refine r_cons (r_take rfl rfl ?_)
                refine s_add 0 rfl rfl (wi64 (by omega)) rfl ?_
                refine r_cons (r_take rfl rfl ?_)
                refine s_neq false rfl rfl (ntrue (by decide)) rfl ?_
                refine r_cons (s_pick_f (.bool false) rfl rfl rfl ?_)
                refine r_cons (s_move (.bool false) rfl rfl ?_)
                refine r_cons (r_take rfl rfl ?_)
                refine s_move (.pointer (some ⟨bk290, 0, none⟩)) rfl rfl ?_
                refine r_cons (r_take rfl rfl ?_)
                refine s_call [.pointer (some ⟨bk290, 0, none⟩), .int .i64 0] pl_15 rfl rfl (SN_Closed_zero bk290 0 (i := 4) rfl H328) ?_
                rintro _ w329 ⟨rfl, H330⟩
                refine r_cons (s_pick_f (.bool false) rfl rfl rfl ?_)
                refine r_cons (s_move (.bool false) rfl rfl ?_)
                refine r_cons (r_take rfl rfl ?_)
                refine s_move (.pointer (some ⟨bk290, 0, none⟩)) rfl rfl ?_
                refine r_cons (r_take rfl rfl ?_)
                refine s_call [.pointer (some ⟨bk290, 0, none⟩)] pl_34 rfl rfl (SN_All_zero bk290  (i := 4) rfl H330) ?_
                rintro _ w332 ⟨bk331, rfl, H333⟩
                refine r_cons (r_take rfl rfl ?_)
                refine s_call [.func (.func 72) #[] #[.pointer (some ⟨bk331, 0, none⟩)], .slice none 0 0] pl_33 rfl rfl (told_ bk331 [] ([] : List EvD) (.slice none 0 0) okEvs_nil.1 okEvs_nil.2 (i := 0) (j := 4) (k := 3) rfl rfl rfl H333) ?_
                rintro _ w334 ⟨rfl, H335⟩
                refine r_cons (r_take rfl rfl ?_)
                have htl336 : toldB [] (([] : List EvD).map EvD.ev) = true := rfl
                refine s_not (toldB [] (([] : List EvD).map EvD.ev)) rfl false (by rw [htl336]; rfl) rfl ?_
                refine r_cons (s_pick_f (.bool false) rfl rfl rfl ?_)
                refine r_cons (s_move (.bool false) rfl rfl ?_)
                refine r_cons (r_take rfl rfl ?_)
                refine s_move (.pointer (some ⟨bk290, 0, none⟩)) rfl rfl ?_
                refine r_cons (r_take rfl rfl ?_)
                refine s_call [.pointer (some ⟨bk290, 0, none⟩)] pl_32 rfl rfl (SN_Len_zero bk290  (i := 5) rfl H335) ?_
                rintro _ w337 ⟨rfl, H338⟩
                refine r_cons (r_take rfl rfl ?_)
                refine s_move (.pointer (some ⟨bk290, 0, none⟩)) rfl rfl ?_
                refine r_cons (r_take rfl rfl ?_)
                refine s_call [.pointer (some ⟨bk290, 0, none⟩)] pl_35 rfl rfl (SN_Sources_zero bk290  (i := 5) rfl H338) ?_
                rintro _ w339 ⟨rfl, H340⟩
                refine r_cons (r_take rfl rfl ?_)
                refine s_add 0 rfl rfl (wi64 (by omega)) rfl ?_
                refine r_cons (r_take rfl rfl ?_)
                refine s_neq false rfl rfl (ntrue (by decide)) rfl ?_
                refine r_cons (s_pick_f (.bool false) rfl rfl rfl ?_)
                refine r_cons (s_move (.bool false) rfl rfl ?_)
                refine r_cons (r_take rfl rfl ?_)
                refine s_move (.pointer (some ⟨bk290, 0, none⟩)) rfl rfl ?_
                refine r_cons (r_take rfl rfl ?_)
                refine s_call [.pointer (some ⟨bk290, 0, none⟩)] pl_27 rfl rfl (SN_Clone_zero bk290  (i := 5) rfl H340) ?_
                rintro _ w341 ⟨rfl, H342⟩
                refine r_cons (r_take rfl rfl ?_)
                refine s_pneq false un_23 rfl rfl rfl rfl ?_
                refine r_cons (s_pick_f (.bool false) rfl rfl rfl ?_)
                refine r_nil ?_
                refine g_false rfl ?_
                refine g_skip ?_
                refine g_inBlock ?_
                refine g_region ?_
                refine r_cons (s_add 2 rfl rfl (wi64 (by omega)) rfl ?_)
                refine r_cons (s_move (.int .i64 2) rfl rfl ?_)
                refine r_nil ?_
                refine g_inLoop ?_
                refine g_seq ?_
                refine g_region ?_
                refine r_cons (s_lss false rfl rfl (dfalse (by decide)) rfl ?_)
                refine r_nil ?_
                refine g_seq ?_
                refine g_false rfl ?_
                refine g_exit (by rfl) ?_
                refine g_seq ?_
                refine g_region ?_
                refine r_cons (s_call [.pointer none] pl_52 rfl rfl (BN_Take  H342) ?_)
                rintro _ w343 ⟨rfl, H344⟩
                refine r_cons (s_move (.tuple #[.agg #[.int .i64 0, .int .i64 0, .int .i64 0, .string ByteArray.empty, .slice none 0 0], .int .i64 2]) rfl rfl ?_)
                refine r_cons (s_extract (.agg #[.int .i64 0, .int .i64 0, .int .i64 0, .string ByteArray.empty, .slice none 0 0]) #[.agg #[.int .i64 0, .int .i64 0, .int .i64 0, .string ByteArray.empty, .slice none 0 0], .int .i64 2] rfl rfl rfl ?_)
                refine r_cons (s_extract (.int .i64 2) #[.agg #[.int .i64 0, .int .i64 0, .int .i64 0, .string ByteArray.empty, .slice none 0 0], .int .i64 2] rfl rfl rfl ?_)
                refine r_cons (s_alloc H344 33 ze_33 rfl ?_); intro bk345 w346 H347
                refine r_cons (s_storeAgg H347 0 #[.int .i64 0, .int .i64 0, .int .i64 0, .string ByteArray.empty, .slice none 0 0] 5 rfl rfl rfl sz_33 rfl (by simp [Value.oneCell']) (Nat.le_of_ble_eq_true rfl) (fun o h1 h2 => by first | (simp; done) | (simp; omega)) (cs' := #[.int .i64 0, .int .i64 0, .int .i64 0, .string ByteArray.empty, .slice none 0 0]) rfl ?_); intro w348 H349
                refine r_cons (s_assign (.int .i64 2) rfl rfl ?_)
                refine r_nil ?_
                refine g_seq ?_
                refine g_region ?_
                refine r_cons (s_loadAgg [.int .i64 e.src.v, .int .i64 e.seq.v, .int .i64 e.time.v, .string e.typ.v, .slice ap e.attrs.length ac] 5 ag_33 rfl (H349.blk_at (i := 18) rfl) (Nat.le_of_ble_eq_true rfl) rfl rfl ?_)
                refine r_cons (s_call [.pointer none, .agg #[.int .i64 e.src.v, .int .i64 e.seq.v, .int .i64 e.time.v, .string e.typ.v, .slice ap e.attrs.length ac]] pl_39 rfl rfl (BN_Put e ap e.attrs.length ac rfl H349) ?_)
                rintro _ w350 ⟨rfl, H351⟩
                refine r_cons (s_eql true rfl rfl (dtrue (by decide)) rfl ?_)
                refine r_cons (s_move (.bool true) rfl rfl ?_)
                refine r_cons (r_take rfl rfl ?_)
                refine s_move (.int .i64 2) rfl rfl ?_
                refine r_cons (r_take rfl rfl ?_)
                refine s_eql true rfl rfl (dtrue (by decide)) rfl ?_
                refine r_cons (s_pick_t (.bool true) rfl rfl rfl ?_)
                refine r_cons (s_move (.bool true) rfl rfl ?_)
                refine r_cons (r_take rfl rfl ?_)
                refine s_loadAgg [.int .i64 0, .int .i64 0, .int .i64 0, .string ByteArray.empty, .slice none 0 0] 5 ag_33 rfl (H351.blk_at (i := 0) rfl) (Nat.le_of_ble_eq_true rfl) rfl rfl ?_
                refine r_cons (r_take rfl rfl ?_)
                refine s_build (cs := #[.int .i64 0, .int .i64 0, .int .i64 0, .string ByteArray.empty, .slice none 0 0]) (by kernel_rfl) rfl ?_
                refine r_cons (r_take rfl rfl ?_)
                have H352 := Row.im (Row.nil_intro H351 91 4) (i := 0) rfl
                refine s_call [.agg #[.int .i64 0, .int .i64 0, .int .i64 0, .string ByteArray.empty, .slice none 0 0], .agg #[.int .i64 0, .int .i64 0, .int .i64 0, .string ByteArray.empty, .slice none 0 0]] pl_20 rfl rfl (ref04_Same ev00 ev00 (.slice none 0 0) (.slice none 0 0) (j := 0) (k := 0) rfl rfl H352) ?_
                rintro _ w353 ⟨rfl, H354⟩
                have hs9 : (sameEv ev00 ev00) = true := sameEv_iff.2 rfl
                refine r_cons (s_pick_t (.bool (sameEv ev00 ev00)) rfl rfl rfl ?_)
                refine r_cons (s_assign (.bool (sameEv ev00 ev00)) rfl rfl ?_)
                refine r_nil ?_
                obtain ⟨hd355, H356⟩ := H354.collect (i := 8) rfl
                refine g_retD _ [.bool (sameEv ev00 ev00)] Try.func10 Try.results10 rfl ⟨hd355, trivial⟩ ⟨rfl, trivial⟩ ?_
                have H357 : St W (w353.putObj D145 (.deferred none)) (blk bk296 (.cells #[.pointer none, .pointer (some ⟨bk290, 0, none⟩)] 23 (0, 0)) :: evA ([] : List EvD) :: Im 5 (.slice none 0 0) 0 (([] : List EvD).flatMap evdCell) :: blk bk290 (.cells (stCells 0 zeroSt (.slice none 0 0)) 96 (0, 0)) :: AllA bk96 evs2 :: Streams bk42 16 (accSt 16 zeroSt ([] : List EvM) (ev0 e)) (accEvs 16 zeroSt ([] : List EvM) (ev0 e)) :: Row 91 4 (.slice pp49 ((ev0 e).attrs.length) cc50) (((ev0 e).attrs).length) (M2.flatMap attrCell) :: blk bk66 (.cells #[.int .i64 ((ev0 e).src.v), .int .i64 ((ev0 e).seq.v), .int .i64 ((ev0 e).time.v), .string ((ev0 e).typ.v), .slice pp61 ((ev0 e).attrs.length) cc62] 33 (0, 0)) :: Attrs (.slice pp61 ((ev0 e).attrs.length) cc62) ((ev0 e).attrs) :: blk bk53 (.cells #[.int .i64 ((ev0 e).src.v), .int .i64 ((ev0 e).seq.v), .int .i64 ((ev0 e).time.v), .string ((ev0 e).typ.v), .slice pp49 ((ev0 e).attrs.length) cc50] 33 (0, 0)) :: blk bk17 (.cells #[.int .i64 e.src.v, .int .i64 e.seq.v, .int .i64 e.time.v, .string e.typ.v, .slice pp13 e.attrs.length cc14] 33 (0, 0)) :: Row 91 4 (.slice pp13 e.attrs.length cc14) e.attrs.length (M.flatMap attrCell) :: blk bk8 (.cells #[.int .i64 e.src.v, .int .i64 e.seq.v, .int .i64 e.time.v, .string e.typ.v, .slice pp4 e.attrs.length cc5] 33 (0, 0)) :: Attrs (.slice pp4 e.attrs.length cc5) e.attrs :: blk bk1 (.cells #[.int .i64 e.src.v, .int .i64 e.seq.v, .int .i64 e.time.v, .string e.typ.v, .slice ap e.attrs.length ac] 33 (0, 0)) :: Attrs (.slice ap e.attrs.length ac) e.attrs :: AllA bk277 (accEvs 16 zeroSt ([] : List EvM) (ev0 e)) :: evA [(⟨ev0 e, pp61, cc62⟩ : EvD)] :: Im 5 (.slice (some ⟨bk260, 0, none⟩) 1 1) ([(⟨ev0 e, pp61, cc62⟩ : EvD)].length) ([(⟨ev0 e, pp61, cc62⟩ : EvD)].flatMap evdCell) :: F) := ((((H356.drop 0 rfl).drop 0 rfl).drop 0 rfl).drop 0 rfl)
                have H358 : St W (w353.putObj D145 (.deferred none)) (AllA bk96 evs2 :: Streams bk42 16 (accSt 16 zeroSt ([] : List EvM) (ev0 e)) (accEvs 16 zeroSt ([] : List EvM) (ev0 e)) :: Row 91 4 (.slice pp49 ((ev0 e).attrs.length) cc50) (((ev0 e).attrs).length) (M2.flatMap attrCell) :: blk bk66 (.cells #[.int .i64 ((ev0 e).src.v), .int .i64 ((ev0 e).seq.v), .int .i64 ((ev0 e).time.v), .string ((ev0 e).typ.v), .slice pp61 ((ev0 e).attrs.length) cc62] 33 (0, 0)) :: Attrs (.slice pp61 ((ev0 e).attrs.length) cc62) ((ev0 e).attrs) :: blk bk53 (.cells #[.int .i64 ((ev0 e).src.v), .int .i64 ((ev0 e).seq.v), .int .i64 ((ev0 e).time.v), .string ((ev0 e).typ.v), .slice pp49 ((ev0 e).attrs.length) cc50] 33 (0, 0)) :: blk bk17 (.cells #[.int .i64 e.src.v, .int .i64 e.seq.v, .int .i64 e.time.v, .string e.typ.v, .slice pp13 e.attrs.length cc14] 33 (0, 0)) :: Row 91 4 (.slice pp13 e.attrs.length cc14) e.attrs.length (M.flatMap attrCell) :: blk bk8 (.cells #[.int .i64 e.src.v, .int .i64 e.seq.v, .int .i64 e.time.v, .string e.typ.v, .slice pp4 e.attrs.length cc5] 33 (0, 0)) :: Attrs (.slice pp4 e.attrs.length cc5) e.attrs :: blk bk1 (.cells #[.int .i64 e.src.v, .int .i64 e.seq.v, .int .i64 e.time.v, .string e.typ.v, .slice ap e.attrs.length ac] 33 (0, 0)) :: Attrs (.slice ap e.attrs.length ac) e.attrs :: AllA bk277 (accEvs 16 zeroSt ([] : List EvM) (ev0 e)) :: evA [(⟨ev0 e, pp61, cc62⟩ : EvD)] :: Im 5 (.slice (some ⟨bk260, 0, none⟩) 1 1) ([(⟨ev0 e, pp61, cc62⟩ : EvD)].length) ([(⟨ev0 e, pp61, cc62⟩ : EvD)].flatMap evdCell) :: F) := ((((H357.drop 0 rfl).drop 0 rfl).drop 0 rfl).drop 0 rfl)
                have H359 : St W (w353.putObj D145 (.deferred none)) (Attrs (.slice pp61 ((ev0 e).attrs.length) cc62) ((ev0 e).attrs) :: blk bk53 (.cells #[.int .i64 ((ev0 e).src.v), .int .i64 ((ev0 e).seq.v), .int .i64 ((ev0 e).time.v), .string ((ev0 e).typ.v), .slice pp49 ((ev0 e).attrs.length) cc50] 33 (0, 0)) :: blk bk17 (.cells #[.int .i64 e.src.v, .int .i64 e.seq.v, .int .i64 e.time.v, .string e.typ.v, .slice pp13 e.attrs.length cc14] 33 (0, 0)) :: Row 91 4 (.slice pp13 e.attrs.length cc14) e.attrs.length (M.flatMap attrCell) :: blk bk8 (.cells #[.int .i64 e.src.v, .int .i64 e.seq.v, .int .i64 e.time.v, .string e.typ.v, .slice pp4 e.attrs.length cc5] 33 (0, 0)) :: Attrs (.slice pp4 e.attrs.length cc5) e.attrs :: blk bk1 (.cells #[.int .i64 e.src.v, .int .i64 e.seq.v, .int .i64 e.time.v, .string e.typ.v, .slice ap e.attrs.length ac] 33 (0, 0)) :: Attrs (.slice ap e.attrs.length ac) e.attrs :: AllA bk277 (accEvs 16 zeroSt ([] : List EvM) (ev0 e)) :: evA [(⟨ev0 e, pp61, cc62⟩ : EvD)] :: Im 5 (.slice (some ⟨bk260, 0, none⟩) 1 1) ([(⟨ev0 e, pp61, cc62⟩ : EvD)].length) ([(⟨ev0 e, pp61, cc62⟩ : EvD)].flatMap evdCell) :: F) := ((((H358.drop 0 rfl).drop 0 rfl).drop 0 rfl).drop 0 rfl)
                have H360 : St W (w353.putObj D145 (.deferred none)) (blk bk8 (.cells #[.int .i64 e.src.v, .int .i64 e.seq.v, .int .i64 e.time.v, .string e.typ.v, .slice pp4 e.attrs.length cc5] 33 (0, 0)) :: Attrs (.slice pp4 e.attrs.length cc5) e.attrs :: blk bk1 (.cells #[.int .i64 e.src.v, .int .i64 e.seq.v, .int .i64 e.time.v, .string e.typ.v, .slice ap e.attrs.length ac] 33 (0, 0)) :: Attrs (.slice ap e.attrs.length ac) e.attrs :: AllA bk277 (accEvs 16 zeroSt ([] : List EvM) (ev0 e)) :: evA [(⟨ev0 e, pp61, cc62⟩ : EvD)] :: Im 5 (.slice (some ⟨bk260, 0, none⟩) 1 1) ([(⟨ev0 e, pp61, cc62⟩ : EvD)].length) ([(⟨ev0 e, pp61, cc62⟩ : EvD)].flatMap evdCell) :: F) := ((((H359.drop 0 rfl).drop 0 rfl).drop 0 rfl).drop 0 rfl)
                have H361 : St W (w353.putObj D145 (.deferred none)) (AllA bk277 (accEvs 16 zeroSt ([] : List EvM) (ev0 e)) :: evA [(⟨ev0 e, pp61, cc62⟩ : EvD)] :: Im 5 (.slice (some ⟨bk260, 0, none⟩) 1 1) ([(⟨ev0 e, pp61, cc62⟩ : EvD)].length) ([(⟨ev0 e, pp61, cc62⟩ : EvD)].flatMap evdCell) :: F) := ((((H360.drop 0 rfl).drop 0 rfl).drop 0 rfl).drop 0 rfl)
                have H362 : St W (w353.putObj D145 (.deferred none)) F := (((H361.drop 0 rfl).drop 0 rfl).drop 0 rfl)
                exact ⟨congrArg Value.bool (by first | rfl | exact sameEv_iff.2 rfl | assumption), H362⟩
            · skip
              refine f_val rfl rfl rfl (by intro t_ w hw; exact x_eql false rfl rfl (dfalse hc153) w) ?_
              refine f_first 2 (listed' := #[true, true, true, false, false, false, false, false, false, false]) rfl (by kernel_rfl) (by kernel_rfl) (by kernel_rfl) rfl ?_
              refine f_val rfl rfl rfl (by intro t_ w hw; exact x_move (.bool false) rfl w) ?_
              refine f_first 3 (listed' := #[true, true, true, true, false, false, false, false, false, false]) rfl (by kernel_rfl) (by kernel_rfl) (by kernel_rfl) rfl ?_
              refine f_pass rfl rfl rfl rfl rfl ?_
              refine f_first 4 (listed' := #[true, true, true, true, true, false, false, false, false, false]) rfl (by kernel_rfl) (by kernel_rfl) (by kernel_rfl) rfl ?_
              refine f_pass rfl rfl rfl rfl rfl ?_
              refine f_first 5 (listed' := #[true, true, true, true, true, true, false, false, false, false]) rfl (by kernel_rfl) (by kernel_rfl) (by kernel_rfl) rfl ?_
              refine f_pass rfl rfl rfl rfl rfl ?_
              refine f_first 6 (listed' := #[true, true, true, true, true, true, true, false, false, false]) rfl (by kernel_rfl) (by kernel_rfl) (by kernel_rfl) rfl ?_
              refine f_pass rfl rfl rfl rfl rfl ?_
              refine f_first 7 (listed' := #[true, true, true, true, true, true, true, true, false, false]) rfl (by kernel_rfl) (by kernel_rfl) (by kernel_rfl) rfl ?_
              refine f_pass rfl rfl rfl rfl rfl ?_
              refine f_first 8 (listed' := #[true, true, true, true, true, true, true, true, true, false]) rfl (by kernel_rfl) (by kernel_rfl) (by kernel_rfl) rfl ?_
              refine f_pass rfl rfl rfl rfl rfl ?_
              refine f_first 9 (listed' := #[true, true, true, true, true, true, true, true, true, true]) rfl (by kernel_rfl) (by kernel_rfl) (by kernel_rfl) rfl ?_
              refine f_val rfl rfl rfl (by intro t_ w hw; exact x_pick_f (.bool false) rfl rfl w) ?_
              refine f_done (by kernel_rfl) ?_
              intro w363 H364
              refine g_false rfl ?_
              refine g_skip ?_
              refine g_seq ?_
              refine g_seq ?_
              refine g_region ?_
              refine r_cons (s_build (cs := #[.int .i64 0, .int .i64 0, .int .i64 0, .bool false, .int .i64 0, .int .i64 0, .bool false, .int .i64 0, .int .i64 0, .bool false, .int .i64 0, .int .i64 0, .bool false, .int .i64 0, .int .i64 0, .bool false, .int .i64 0, .int .i64 0, .bool false, .int .i64 0, .int .i64 0, .bool false, .int .i64 0, .int .i64 0, .bool false, .int .i64 0, .int .i64 0, .bool false, .int .i64 0, .int .i64 0, .bool false, .int .i64 0, .int .i64 0, .bool false, .int .i64 0, .int .i64 0, .bool false, .int .i64 0, .int .i64 0, .bool false, .int .i64 0, .int .i64 0, .bool false, .int .i64 0, .int .i64 0, .bool false, .int .i64 0, .int .i64 0, .bool false, .slice none 0 0]) (by kernel_rfl) rfl ?_)
              refine r_cons (s_box H364 96 (.agg #[.int .i64 0, .int .i64 0, .int .i64 0, .bool false, .int .i64 0, .int .i64 0, .bool false, .int .i64 0, .int .i64 0, .bool false, .int .i64 0, .int .i64 0, .bool false, .int .i64 0, .int .i64 0, .bool false, .int .i64 0, .int .i64 0, .bool false, .int .i64 0, .int .i64 0, .bool false, .int .i64 0, .int .i64 0, .bool false, .int .i64 0, .int .i64 0, .bool false, .int .i64 0, .int .i64 0, .bool false, .int .i64 0, .int .i64 0, .bool false, .int .i64 0, .int .i64 0, .bool false, .int .i64 0, .int .i64 0, .bool false, .int .i64 0, .int .i64 0, .bool false, .int .i64 0, .int .i64 0, .bool false, .int .i64 0, .int .i64 0, .bool false, .slice none 0 0]) rfl (cs := #[.int .i64 0, .int .i64 0, .int .i64 0, .bool false, .int .i64 0, .int .i64 0, .bool false, .int .i64 0, .int .i64 0, .bool false, .int .i64 0, .int .i64 0, .bool false, .int .i64 0, .int .i64 0, .bool false, .int .i64 0, .int .i64 0, .bool false, .int .i64 0, .int .i64 0, .bool false, .int .i64 0, .int .i64 0, .bool false, .int .i64 0, .int .i64 0, .bool false, .int .i64 0, .int .i64 0, .bool false, .int .i64 0, .int .i64 0, .bool false, .int .i64 0, .int .i64 0, .bool false, .int .i64 0, .int .i64 0, .bool false, .int .i64 0, .int .i64 0, .bool false, .int .i64 0, .int .i64 0, .bool false, .int .i64 0, .int .i64 0, .bool false, .slice none 0 0]) rfl rfl ?_); intro bk365 w366 H367
              have H368 : St W w366 (blk bk365 (.cells (stCells 0 zeroSt (.slice none 0 0)) 96 (0, 0)) :: blk D145 (.deferred (some [])) :: AllA bk96 evs2 :: Streams bk42 16 (accSt 16 zeroSt ([] : List EvM) (ev0 e)) (accEvs 16 zeroSt ([] : List EvM) (ev0 e)) :: Row 91 4 (.slice pp49 ((ev0 e).attrs.length) cc50) (((ev0 e).attrs).length) (M2.flatMap attrCell) :: blk bk66 (.cells #[.int .i64 ((ev0 e).src.v), .int .i64 ((ev0 e).seq.v), .int .i64 ((ev0 e).time.v), .string ((ev0 e).typ.v), .slice pp61 ((ev0 e).attrs.length) cc62] 33 (0, 0)) :: Attrs (.slice pp61 ((ev0 e).attrs.length) cc62) ((ev0 e).attrs) :: blk bk53 (.cells #[.int .i64 ((ev0 e).src.v), .int .i64 ((ev0 e).seq.v), .int .i64 ((ev0 e).time.v), .string ((ev0 e).typ.v), .slice pp49 ((ev0 e).attrs.length) cc50] 33 (0, 0)) :: blk bk17 (.cells #[.int .i64 e.src.v, .int .i64 e.seq.v, .int .i64 e.time.v, .string e.typ.v, .slice pp13 e.attrs.length cc14] 33 (0, 0)) :: Row 91 4 (.slice pp13 e.attrs.length cc14) e.attrs.length (M.flatMap attrCell) :: blk bk8 (.cells #[.int .i64 e.src.v, .int .i64 e.seq.v, .int .i64 e.time.v, .string e.typ.v, .slice pp4 e.attrs.length cc5] 33 (0, 0)) :: Attrs (.slice pp4 e.attrs.length cc5) e.attrs :: blk bk1 (.cells #[.int .i64 e.src.v, .int .i64 e.seq.v, .int .i64 e.time.v, .string e.typ.v, .slice ap e.attrs.length ac] 33 (0, 0)) :: Attrs (.slice ap e.attrs.length ac) e.attrs :: F) := H367
              have H369 : St W w366 (Im 5 (.slice none 0 0) 0 (([] : List EvD).flatMap evdCell) :: blk bk365 (.cells (stCells 0 zeroSt (.slice none 0 0)) 96 (0, 0)) :: blk D145 (.deferred (some [])) :: AllA bk96 evs2 :: Streams bk42 16 (accSt 16 zeroSt ([] : List EvM) (ev0 e)) (accEvs 16 zeroSt ([] : List EvM) (ev0 e)) :: Row 91 4 (.slice pp49 ((ev0 e).attrs.length) cc50) (((ev0 e).attrs).length) (M2.flatMap attrCell) :: blk bk66 (.cells #[.int .i64 ((ev0 e).src.v), .int .i64 ((ev0 e).seq.v), .int .i64 ((ev0 e).time.v), .string ((ev0 e).typ.v), .slice pp61 ((ev0 e).attrs.length) cc62] 33 (0, 0)) :: Attrs (.slice pp61 ((ev0 e).attrs.length) cc62) ((ev0 e).attrs) :: blk bk53 (.cells #[.int .i64 ((ev0 e).src.v), .int .i64 ((ev0 e).seq.v), .int .i64 ((ev0 e).time.v), .string ((ev0 e).typ.v), .slice pp49 ((ev0 e).attrs.length) cc50] 33 (0, 0)) :: blk bk17 (.cells #[.int .i64 e.src.v, .int .i64 e.seq.v, .int .i64 e.time.v, .string e.typ.v, .slice pp13 e.attrs.length cc14] 33 (0, 0)) :: Row 91 4 (.slice pp13 e.attrs.length cc14) e.attrs.length (M.flatMap attrCell) :: blk bk8 (.cells #[.int .i64 e.src.v, .int .i64 e.seq.v, .int .i64 e.time.v, .string e.typ.v, .slice pp4 e.attrs.length cc5] 33 (0, 0)) :: Attrs (.slice pp4 e.attrs.length cc5) e.attrs :: blk bk1 (.cells #[.int .i64 e.src.v, .int .i64 e.seq.v, .int .i64 e.time.v, .string e.typ.v, .slice ap e.attrs.length ac] 33 (0, 0)) :: Attrs (.slice ap e.attrs.length ac) e.attrs :: F) := Row.im (Row.nil_intro H368 33 5) (i := 0) rfl
              have H370 := evA_nil H369
              refine r_cons (s_buildSlice H370 1 2 (cs := #[.pointer none, .pointer (some ⟨bk365, 0, none⟩)]) #[.pointer none] el_97 ze_23 (by decide) (by decide) (by kernel_rfl) rfl ?_); intro bk371 w372 H373
              refine r_cons (s_len 2 rfl ⟨_, un_97⟩ rfl ?_)
              refine r_cons (s_move (.int .i64 0) rfl rfl ?_)
              refine r_nil ?_
              refine g_block ?_
              refine g_loop ?_
              refine g_seq ?_
              refine g_region ?_
              refine r_cons (s_lss true rfl rfl (dtrue (by decide)) rfl ?_)
              refine r_nil ?_
              refine g_seq ?_
              refine g_true rfl ?_
              refine g_skip ?_
              refine g_seq ?_
              refine g_block ?_
              refine g_seq ?_
              refine g_region ?_
              refine r_cons (s_indexAddr bk371 0 1 0 rfl rfl el_97 (by omega) rfl rfl ?_)
              refine r_cons (s_load (.pointer none) ag_23 rfl (H373.blk_at (i := 0) rfl) rfl rfl ?_)
              refine r_cons (s_assign (.pointer none) rfl rfl ?_)
              refine r_nil ?_
              refine g_seq ?_
              refine g_region ?_
              refine r_cons (s_move (.pointer none) rfl rfl ?_)
              refine r_cons (s_loadAgg [.int .i64 e.src.v, .int .i64 e.seq.v, .int .i64 e.time.v, .string e.typ.v, .slice ap e.attrs.length ac] 5 ag_33 rfl (H373.blk_at (i := 15) rfl) (Nat.le_of_ble_eq_true rfl) rfl rfl ?_)
              refine r_cons (s_call [.pointer none, .agg #[.int .i64 e.src.v, .int .i64 e.seq.v, .int .i64 e.time.v, .string e.typ.v, .slice ap e.attrs.length ac]] pl_16 rfl rfl (SN_Accept_nil e ap e.attrs.length ac rfl H373) ?_)
              rintro _ w374 ⟨rfl, H375⟩
              refine r_cons (s_neq false rfl rfl (ntrue (by decide)) rfl ?_)
              refine r_cons (s_move (.bool false) rfl rfl ?_)
              refine r_cons (r_take rfl rfl ?_)
              refine s_move (.pointer none) rfl rfl ?_
              refine r_cons (r_take rfl rfl ?_)
              refine s_call [.pointer none, .int .i64 0] pl_14 rfl rfl (SN_Close_nil 0 H375) ?_
              rintro _ w376 ⟨rfl, H377⟩
              refine r_cons (r_take rfl rfl ?_)
              refine s_neq false rfl rfl (ntrue (by decide)) rfl ?_
              refine r_cons (s_pick_f (.bool false) rfl rfl rfl ?_)
              refine r_cons (s_move (.bool false) rfl rfl ?_)
              refine r_cons (r_take rfl rfl ?_)
              refine s_move (.pointer none) rfl rfl ?_
              refine r_cons (r_take rfl rfl ?_)
              refine s_call [.pointer none, .int .i64 0] pl_13 rfl rfl (SN_Mark_nil 0 H377) ?_
              rintro _ w378 ⟨rfl, H379⟩
              refine r_cons (r_take rfl rfl ?_)
              refine s_move (.pointer none) rfl rfl ?_
              refine r_cons (r_take rfl rfl ?_)
              refine s_call [.pointer none, .int .i64 0] pl_28 rfl rfl (SN_Next_nil 0 H379) ?_
              rintro _ w380 ⟨rfl, H381⟩
              refine r_cons (r_take rfl rfl ?_)
              refine s_add 0 rfl rfl (wi64 (by omega)) rfl ?_
              refine r_cons (r_take rfl rfl ?_)
              refine s_neq false rfl rfl (ntrue (by decide)) rfl ?_
              refine r_cons (s_pick_f (.bool false) rfl rfl rfl ?_)
              refine r_cons (s_move (.bool false) rfl rfl ?_)
              refine r_cons (r_take rfl rfl ?_)
              refine s_move (.pointer none) rfl rfl ?_
              refine r_cons (r_take rfl rfl ?_)
              refine s_call [.pointer none, .int .i64 0] pl_15 rfl rfl (SN_Closed_nil 0 H381) ?_
              rintro _ w382 ⟨rfl, H383⟩
              refine r_cons (s_pick_f (.bool false) rfl rfl rfl ?_)
              refine r_cons (s_move (.bool false) rfl rfl ?_)
              refine r_cons (r_take rfl rfl ?_)
              refine s_move (.pointer none) rfl rfl ?_
              refine r_cons (r_take rfl rfl ?_)
              refine s_call [.pointer none] pl_34 rfl rfl (SN_All_nil  H383) ?_
              rintro _ w385 ⟨bk384, rfl, H386⟩
              refine r_cons (r_take rfl rfl ?_)
              refine s_call [.func (.func 72) #[] #[.pointer (some ⟨bk384, 0, none⟩)], .slice none 0 0] pl_33 rfl rfl (told_ bk384 [] ([] : List EvD) (.slice none 0 0) okEvs_nil.1 okEvs_nil.2 (i := 0) (j := 3) (k := 2) rfl rfl rfl H386) ?_
              rintro _ w387 ⟨rfl, H388⟩
              refine r_cons (r_take rfl rfl ?_)
              have htl389 : toldB [] (([] : List EvD).map EvD.ev) = true := rfl
              refine s_not (toldB [] (([] : List EvD).map EvD.ev)) rfl false (by rw [htl389]; rfl) rfl ?_
              refine r_cons (s_pick_f (.bool false) rfl rfl rfl ?_)
              refine r_cons (s_move (.bool false) rfl rfl ?_)
              refine r_cons (r_take rfl rfl ?_)
              refine s_move (.pointer none) rfl rfl ?_
              refine r_cons (r_take rfl rfl ?_)
              refine s_call [.pointer none] pl_32 rfl rfl (SN_Len_nil  H388) ?_
              rintro _ w390 ⟨rfl, H391⟩
              refine r_cons (r_take rfl rfl ?_)
              refine s_move (.pointer none) rfl rfl ?_
              refine r_cons (r_take rfl rfl ?_)
              refine s_call [.pointer none] pl_35 rfl rfl (SN_Sources_nil  H391) ?_
              rintro _ w392 ⟨rfl, H393⟩
              refine r_cons (r_take rfl rfl ?_)
              refine s_add 0 rfl rfl (wi64 (by omega)) rfl ?_
              refine r_cons (r_take rfl rfl ?_)
              refine s_neq false rfl rfl (ntrue (by decide)) rfl ?_
              refine r_cons (s_pick_f (.bool false) rfl rfl rfl ?_)
              refine r_cons (s_move (.bool false) rfl rfl ?_)
              refine r_cons (r_take rfl rfl ?_)
              refine s_move (.pointer none) rfl rfl ?_
              refine r_cons (r_take rfl rfl ?_)
              refine s_call [.pointer none] pl_27 rfl rfl (SN_Clone_nil  H393) ?_
              rintro _ w394 ⟨rfl, H395⟩
              refine r_cons (r_take rfl rfl ?_)
              refine s_pneq false un_23 rfl rfl rfl rfl ?_
              refine r_cons (s_pick_f (.bool false) rfl rfl rfl ?_)
              refine r_nil ?_
              refine g_false rfl ?_
              refine g_skip ?_
              refine g_inBlock ?_
              refine g_region ?_
              refine r_cons (s_add 1 rfl rfl (wi64 (by omega)) rfl ?_)
              refine r_cons (s_move (.int .i64 1) rfl rfl ?_)
              refine r_nil ?_
              refine g_inLoop ?_
              refine g_seq ?_
              refine g_region ?_
              refine r_cons (s_lss true rfl rfl (dtrue (by decide)) rfl ?_)
              refine r_nil ?_
              refine g_seq ?_
              refine g_true rfl ?_
              refine g_skip ?_
              refine g_seq ?_
              refine g_block ?_
              refine g_seq ?_
              refine g_region ?_
              refine r_cons (s_indexAddr bk371 1 1 1 rfl rfl el_97 (by omega) rfl rfl ?_)
              refine r_cons (s_load (.pointer (some ⟨bk365, 0, none⟩)) ag_23 rfl (H395.blk_at (i := 1) rfl) rfl rfl ?_)
              refine r_cons (s_assign (.pointer (some ⟨bk365, 0, none⟩)) rfl rfl ?_)
              refine r_nil ?_
              refine g_seq ?_
              refine g_region ?_
              refine r_cons (s_move (.pointer (some ⟨bk365, 0, none⟩)) rfl rfl ?_)
              refine r_cons (s_loadAgg [.int .i64 e.src.v, .int .i64 e.seq.v, .int .i64 e.time.v, .string e.typ.v, .slice ap e.attrs.length ac] 5 ag_33 rfl (H395.blk_at (i := 16) rfl) (Nat.le_of_ble_eq_true rfl) rfl rfl ?_)
              refine r_cons (s_call [.pointer (some ⟨bk365, 0, none⟩), .agg #[.int .i64 e.src.v, .int .i64 e.seq.v, .int .i64 e.time.v, .string e.typ.v, .slice ap e.attrs.length ac]] pl_16 rfl rfl (SN_Accept_zero bk365 e ap e.attrs.length ac rfl (i := 4) rfl H395) ?_)
              rintro _ w396 ⟨rfl, H397⟩
              refine r_cons (s_neq false rfl rfl (ntrue (by decide)) rfl ?_)
              refine r_cons (s_move (.bool false) rfl rfl ?_)
              refine r_cons (r_take rfl rfl ?_)
              refine s_move (.pointer (some ⟨bk365, 0, none⟩)) rfl rfl ?_
              refine r_cons (r_take rfl rfl ?_)
              refine s_call [.pointer (some ⟨bk365, 0, none⟩), .int .i64 0] pl_14 rfl rfl (SN_Close_zero bk365 0 (i := 4) rfl H397) ?_
              rintro _ w398 ⟨rfl, H399⟩
              refine r_cons (r_take rfl rfl ?_)
              refine s_neq false rfl rfl (ntrue (by decide)) rfl ?_
              refine r_cons (s_pick_f (.bool false) rfl rfl rfl ?_)
              refine r_cons (s_move (.bool false) rfl rfl ?_)
              refine r_cons (r_take rfl rfl ?_)
              refine s_move (.pointer (some ⟨bk365, 0, none⟩)) rfl rfl ?_
              refine r_cons (r_take rfl rfl ?_)
              refine s_call [.pointer (some ⟨bk365, 0, none⟩), .int .i64 0] pl_13 rfl rfl (SN_Mark_zero bk365 0 (i := 4) rfl H399) ?_
              rintro _ w400 ⟨rfl, H401⟩
              refine r_cons (r_take rfl rfl ?_)
              refine s_move (.pointer (some ⟨bk365, 0, none⟩)) rfl rfl ?_
              refine r_cons (r_take rfl rfl ?_)
              refine s_call [.pointer (some ⟨bk365, 0, none⟩), .int .i64 0] pl_28 rfl rfl (SN_Next_zero bk365 0 (i := 4) rfl H401) ?_
              rintro _ w402 ⟨rfl, H403⟩
              refine r_cons (r_take rfl rfl ?_)
              refine s_add 0 rfl rfl (wi64 (by omega)) rfl ?_
              refine r_cons (r_take rfl rfl ?_)
              refine s_neq false rfl rfl (ntrue (by decide)) rfl ?_
              refine r_cons (s_pick_f (.bool false) rfl rfl rfl ?_)
              refine r_cons (s_move (.bool false) rfl rfl ?_)
              refine r_cons (r_take rfl rfl ?_)
              refine s_move (.pointer (some ⟨bk365, 0, none⟩)) rfl rfl ?_
              refine r_cons (r_take rfl rfl ?_)
              refine s_call [.pointer (some ⟨bk365, 0, none⟩), .int .i64 0] pl_15 rfl rfl (SN_Closed_zero bk365 0 (i := 4) rfl H403) ?_
              rintro _ w404 ⟨rfl, H405⟩
              refine r_cons (s_pick_f (.bool false) rfl rfl rfl ?_)
              refine r_cons (s_move (.bool false) rfl rfl ?_)
              refine r_cons (r_take rfl rfl ?_)
              refine s_move (.pointer (some ⟨bk365, 0, none⟩)) rfl rfl ?_
              refine r_cons (r_take rfl rfl ?_)
              refine s_call [.pointer (some ⟨bk365, 0, none⟩)] pl_34 rfl rfl (SN_All_zero bk365  (i := 4) rfl H405) ?_
              rintro _ w407 ⟨bk406, rfl, H408⟩
              refine r_cons (r_take rfl rfl ?_)
              refine s_call [.func (.func 72) #[] #[.pointer (some ⟨bk406, 0, none⟩)], .slice none 0 0] pl_33 rfl rfl (told_ bk406 [] ([] : List EvD) (.slice none 0 0) okEvs_nil.1 okEvs_nil.2 (i := 0) (j := 4) (k := 3) rfl rfl rfl H408) ?_
              rintro _ w409 ⟨rfl, H410⟩
              refine r_cons (r_take rfl rfl ?_)
              have htl411 : toldB [] (([] : List EvD).map EvD.ev) = true := rfl
              refine s_not (toldB [] (([] : List EvD).map EvD.ev)) rfl false (by rw [htl411]; rfl) rfl ?_
              refine r_cons (s_pick_f (.bool false) rfl rfl rfl ?_)
              refine r_cons (s_move (.bool false) rfl rfl ?_)
              refine r_cons (r_take rfl rfl ?_)
              refine s_move (.pointer (some ⟨bk365, 0, none⟩)) rfl rfl ?_
              refine r_cons (r_take rfl rfl ?_)
              refine s_call [.pointer (some ⟨bk365, 0, none⟩)] pl_32 rfl rfl (SN_Len_zero bk365  (i := 5) rfl H410) ?_
              rintro _ w412 ⟨rfl, H413⟩
              refine r_cons (r_take rfl rfl ?_)
              refine s_move (.pointer (some ⟨bk365, 0, none⟩)) rfl rfl ?_
              refine r_cons (r_take rfl rfl ?_)
              refine s_call [.pointer (some ⟨bk365, 0, none⟩)] pl_35 rfl rfl (SN_Sources_zero bk365  (i := 5) rfl H413) ?_
              rintro _ w414 ⟨rfl, H415⟩
              refine r_cons (r_take rfl rfl ?_)
              refine s_add 0 rfl rfl (wi64 (by omega)) rfl ?_
              refine r_cons (r_take rfl rfl ?_)
              refine s_neq false rfl rfl (ntrue (by decide)) rfl ?_
              refine r_cons (s_pick_f (.bool false) rfl rfl rfl ?_)
              refine r_cons (s_move (.bool false) rfl rfl ?_)
              refine r_cons (r_take rfl rfl ?_)
              refine s_move (.pointer (some ⟨bk365, 0, none⟩)) rfl rfl ?_
              refine r_cons (r_take rfl rfl ?_)
              refine s_call [.pointer (some ⟨bk365, 0, none⟩)] pl_27 rfl rfl (SN_Clone_zero bk365  (i := 5) rfl H415) ?_
              rintro _ w416 ⟨rfl, H417⟩
              refine r_cons (r_take rfl rfl ?_)
              refine s_pneq false un_23 rfl rfl rfl rfl ?_
              refine r_cons (s_pick_f (.bool false) rfl rfl rfl ?_)
              refine r_nil ?_
              refine g_false rfl ?_
              refine g_skip ?_
              refine g_inBlock ?_
              refine g_region ?_
              refine r_cons (s_add 2 rfl rfl (wi64 (by omega)) rfl ?_)
              refine r_cons (s_move (.int .i64 2) rfl rfl ?_)
              refine r_nil ?_
              refine g_inLoop ?_
              refine g_seq ?_
              refine g_region ?_
              refine r_cons (s_lss false rfl rfl (dfalse (by decide)) rfl ?_)
              refine r_nil ?_
              refine g_seq ?_
              refine g_false rfl ?_
              refine g_exit (by rfl) ?_
              refine g_seq ?_
              refine g_region ?_
              refine r_cons (s_call [.pointer none] pl_52 rfl rfl (BN_Take  H417) ?_)
              rintro _ w418 ⟨rfl, H419⟩
              refine r_cons (s_move (.tuple #[.agg #[.int .i64 0, .int .i64 0, .int .i64 0, .string ByteArray.empty, .slice none 0 0], .int .i64 2]) rfl rfl ?_)
              refine r_cons (s_extract (.agg #[.int .i64 0, .int .i64 0, .int .i64 0, .string ByteArray.empty, .slice none 0 0]) #[.agg #[.int .i64 0, .int .i64 0, .int .i64 0, .string ByteArray.empty, .slice none 0 0], .int .i64 2] rfl rfl rfl ?_)
              refine r_cons (s_extract (.int .i64 2) #[.agg #[.int .i64 0, .int .i64 0, .int .i64 0, .string ByteArray.empty, .slice none 0 0], .int .i64 2] rfl rfl rfl ?_)
              refine r_cons (s_alloc H419 33 ze_33 rfl ?_); intro bk420 w421 H422
              refine r_cons (s_storeAgg H422 0 #[.int .i64 0, .int .i64 0, .int .i64 0, .string ByteArray.empty, .slice none 0 0] 5 rfl rfl rfl sz_33 rfl (by simp [Value.oneCell']) (Nat.le_of_ble_eq_true rfl) (fun o h1 h2 => by first | (simp; done) | (simp; omega)) (cs' := #[.int .i64 0, .int .i64 0, .int .i64 0, .string ByteArray.empty, .slice none 0 0]) rfl ?_); intro w423 H424
              refine r_cons (s_assign (.int .i64 2) rfl rfl ?_)
              refine r_nil ?_
              refine g_seq ?_
              refine g_region ?_
              refine r_cons (s_loadAgg [.int .i64 e.src.v, .int .i64 e.seq.v, .int .i64 e.time.v, .string e.typ.v, .slice ap e.attrs.length ac] 5 ag_33 rfl (H424.blk_at (i := 18) rfl) (Nat.le_of_ble_eq_true rfl) rfl rfl ?_)
              refine r_cons (s_call [.pointer none, .agg #[.int .i64 e.src.v, .int .i64 e.seq.v, .int .i64 e.time.v, .string e.typ.v, .slice ap e.attrs.length ac]] pl_39 rfl rfl (BN_Put e ap e.attrs.length ac rfl H424) ?_)
              rintro _ w425 ⟨rfl, H426⟩
              refine r_cons (s_eql true rfl rfl (dtrue (by decide)) rfl ?_)
              refine r_cons (s_move (.bool true) rfl rfl ?_)
              refine r_cons (r_take rfl rfl ?_)
              refine s_move (.int .i64 2) rfl rfl ?_
              refine r_cons (r_take rfl rfl ?_)
              refine s_eql true rfl rfl (dtrue (by decide)) rfl ?_
              refine r_cons (s_pick_t (.bool true) rfl rfl rfl ?_)
              refine r_cons (s_move (.bool true) rfl rfl ?_)
              refine r_cons (r_take rfl rfl ?_)
              refine s_loadAgg [.int .i64 0, .int .i64 0, .int .i64 0, .string ByteArray.empty, .slice none 0 0] 5 ag_33 rfl (H426.blk_at (i := 0) rfl) (Nat.le_of_ble_eq_true rfl) rfl rfl ?_
              refine r_cons (r_take rfl rfl ?_)
              refine s_build (cs := #[.int .i64 0, .int .i64 0, .int .i64 0, .string ByteArray.empty, .slice none 0 0]) (by kernel_rfl) rfl ?_
              refine r_cons (r_take rfl rfl ?_)
              have H427 := Row.im (Row.nil_intro H426 91 4) (i := 0) rfl
              refine s_call [.agg #[.int .i64 0, .int .i64 0, .int .i64 0, .string ByteArray.empty, .slice none 0 0], .agg #[.int .i64 0, .int .i64 0, .int .i64 0, .string ByteArray.empty, .slice none 0 0]] pl_20 rfl rfl (ref04_Same ev00 ev00 (.slice none 0 0) (.slice none 0 0) (j := 0) (k := 0) rfl rfl H427) ?_
              rintro _ w428 ⟨rfl, H429⟩
              have hs9 : (sameEv ev00 ev00) = true := sameEv_iff.2 rfl
              refine r_cons (s_pick_t (.bool (sameEv ev00 ev00)) rfl rfl rfl ?_)
              refine r_cons (s_assign (.bool (sameEv ev00 ev00)) rfl rfl ?_)
              refine r_nil ?_
              obtain ⟨hd430, H431⟩ := H429.collect (i := 8) rfl
              refine g_retD _ [.bool (sameEv ev00 ev00)] Try.func10 Try.results10 rfl ⟨hd430, trivial⟩ ⟨rfl, trivial⟩ ?_
              have H432 : St W (w428.putObj D145 (.deferred none)) (blk bk371 (.cells #[.pointer none, .pointer (some ⟨bk365, 0, none⟩)] 23 (0, 0)) :: evA ([] : List EvD) :: Im 5 (.slice none 0 0) 0 (([] : List EvD).flatMap evdCell) :: blk bk365 (.cells (stCells 0 zeroSt (.slice none 0 0)) 96 (0, 0)) :: AllA bk96 evs2 :: Streams bk42 16 (accSt 16 zeroSt ([] : List EvM) (ev0 e)) (accEvs 16 zeroSt ([] : List EvM) (ev0 e)) :: Row 91 4 (.slice pp49 ((ev0 e).attrs.length) cc50) (((ev0 e).attrs).length) (M2.flatMap attrCell) :: blk bk66 (.cells #[.int .i64 ((ev0 e).src.v), .int .i64 ((ev0 e).seq.v), .int .i64 ((ev0 e).time.v), .string ((ev0 e).typ.v), .slice pp61 ((ev0 e).attrs.length) cc62] 33 (0, 0)) :: Attrs (.slice pp61 ((ev0 e).attrs.length) cc62) ((ev0 e).attrs) :: blk bk53 (.cells #[.int .i64 ((ev0 e).src.v), .int .i64 ((ev0 e).seq.v), .int .i64 ((ev0 e).time.v), .string ((ev0 e).typ.v), .slice pp49 ((ev0 e).attrs.length) cc50] 33 (0, 0)) :: blk bk17 (.cells #[.int .i64 e.src.v, .int .i64 e.seq.v, .int .i64 e.time.v, .string e.typ.v, .slice pp13 e.attrs.length cc14] 33 (0, 0)) :: Row 91 4 (.slice pp13 e.attrs.length cc14) e.attrs.length (M.flatMap attrCell) :: blk bk8 (.cells #[.int .i64 e.src.v, .int .i64 e.seq.v, .int .i64 e.time.v, .string e.typ.v, .slice pp4 e.attrs.length cc5] 33 (0, 0)) :: Attrs (.slice pp4 e.attrs.length cc5) e.attrs :: blk bk1 (.cells #[.int .i64 e.src.v, .int .i64 e.seq.v, .int .i64 e.time.v, .string e.typ.v, .slice ap e.attrs.length ac] 33 (0, 0)) :: Attrs (.slice ap e.attrs.length ac) e.attrs :: F) := ((((H431.drop 0 rfl).drop 0 rfl).drop 0 rfl).drop 0 rfl)
              have H433 : St W (w428.putObj D145 (.deferred none)) (AllA bk96 evs2 :: Streams bk42 16 (accSt 16 zeroSt ([] : List EvM) (ev0 e)) (accEvs 16 zeroSt ([] : List EvM) (ev0 e)) :: Row 91 4 (.slice pp49 ((ev0 e).attrs.length) cc50) (((ev0 e).attrs).length) (M2.flatMap attrCell) :: blk bk66 (.cells #[.int .i64 ((ev0 e).src.v), .int .i64 ((ev0 e).seq.v), .int .i64 ((ev0 e).time.v), .string ((ev0 e).typ.v), .slice pp61 ((ev0 e).attrs.length) cc62] 33 (0, 0)) :: Attrs (.slice pp61 ((ev0 e).attrs.length) cc62) ((ev0 e).attrs) :: blk bk53 (.cells #[.int .i64 ((ev0 e).src.v), .int .i64 ((ev0 e).seq.v), .int .i64 ((ev0 e).time.v), .string ((ev0 e).typ.v), .slice pp49 ((ev0 e).attrs.length) cc50] 33 (0, 0)) :: blk bk17 (.cells #[.int .i64 e.src.v, .int .i64 e.seq.v, .int .i64 e.time.v, .string e.typ.v, .slice pp13 e.attrs.length cc14] 33 (0, 0)) :: Row 91 4 (.slice pp13 e.attrs.length cc14) e.attrs.length (M.flatMap attrCell) :: blk bk8 (.cells #[.int .i64 e.src.v, .int .i64 e.seq.v, .int .i64 e.time.v, .string e.typ.v, .slice pp4 e.attrs.length cc5] 33 (0, 0)) :: Attrs (.slice pp4 e.attrs.length cc5) e.attrs :: blk bk1 (.cells #[.int .i64 e.src.v, .int .i64 e.seq.v, .int .i64 e.time.v, .string e.typ.v, .slice ap e.attrs.length ac] 33 (0, 0)) :: Attrs (.slice ap e.attrs.length ac) e.attrs :: F) := ((((H432.drop 0 rfl).drop 0 rfl).drop 0 rfl).drop 0 rfl)
              have H434 : St W (w428.putObj D145 (.deferred none)) (Attrs (.slice pp61 ((ev0 e).attrs.length) cc62) ((ev0 e).attrs) :: blk bk53 (.cells #[.int .i64 ((ev0 e).src.v), .int .i64 ((ev0 e).seq.v), .int .i64 ((ev0 e).time.v), .string ((ev0 e).typ.v), .slice pp49 ((ev0 e).attrs.length) cc50] 33 (0, 0)) :: blk bk17 (.cells #[.int .i64 e.src.v, .int .i64 e.seq.v, .int .i64 e.time.v, .string e.typ.v, .slice pp13 e.attrs.length cc14] 33 (0, 0)) :: Row 91 4 (.slice pp13 e.attrs.length cc14) e.attrs.length (M.flatMap attrCell) :: blk bk8 (.cells #[.int .i64 e.src.v, .int .i64 e.seq.v, .int .i64 e.time.v, .string e.typ.v, .slice pp4 e.attrs.length cc5] 33 (0, 0)) :: Attrs (.slice pp4 e.attrs.length cc5) e.attrs :: blk bk1 (.cells #[.int .i64 e.src.v, .int .i64 e.seq.v, .int .i64 e.time.v, .string e.typ.v, .slice ap e.attrs.length ac] 33 (0, 0)) :: Attrs (.slice ap e.attrs.length ac) e.attrs :: F) := ((((H433.drop 0 rfl).drop 0 rfl).drop 0 rfl).drop 0 rfl)
              have H435 : St W (w428.putObj D145 (.deferred none)) (blk bk8 (.cells #[.int .i64 e.src.v, .int .i64 e.seq.v, .int .i64 e.time.v, .string e.typ.v, .slice pp4 e.attrs.length cc5] 33 (0, 0)) :: Attrs (.slice pp4 e.attrs.length cc5) e.attrs :: blk bk1 (.cells #[.int .i64 e.src.v, .int .i64 e.seq.v, .int .i64 e.time.v, .string e.typ.v, .slice ap e.attrs.length ac] 33 (0, 0)) :: Attrs (.slice ap e.attrs.length ac) e.attrs :: F) := ((((H434.drop 0 rfl).drop 0 rfl).drop 0 rfl).drop 0 rfl)
              have H436 : St W (w428.putObj D145 (.deferred none)) F := ((((H435.drop 0 rfl).drop 0 rfl).drop 0 rfl).drop 0 rfl)
              exact ⟨congrArg Value.bool (by first | rfl | exact sameEv_iff.2 rfl | assumption), H436⟩
          · intro D437 c442 L438 w439 hS440 H441
            have H443 : St W w439 (pure' False :: blk D437 (.deferred (some [])) :: AllA bk96 evs2 :: Streams bk42 16 (accSt 16 zeroSt ([] : List EvM) (ev0 e)) (accEvs 16 zeroSt ([] : List EvM) (ev0 e)) :: Row 91 4 (.slice pp49 ((ev0 e).attrs.length) cc50) (((ev0 e).attrs).length) (M2.flatMap attrCell) :: blk bk66 (.cells #[.int .i64 ((ev0 e).src.v), .int .i64 ((ev0 e).seq.v), .int .i64 ((ev0 e).time.v), .string ((ev0 e).typ.v), .slice pp61 ((ev0 e).attrs.length) cc62] 33 (0, 0)) :: Attrs (.slice pp61 ((ev0 e).attrs.length) cc62) ((ev0 e).attrs) :: blk bk53 (.cells #[.int .i64 ((ev0 e).src.v), .int .i64 ((ev0 e).seq.v), .int .i64 ((ev0 e).time.v), .string ((ev0 e).typ.v), .slice pp49 ((ev0 e).attrs.length) cc50] 33 (0, 0)) :: blk bk17 (.cells #[.int .i64 e.src.v, .int .i64 e.seq.v, .int .i64 e.time.v, .string e.typ.v, .slice pp13 e.attrs.length cc14] 33 (0, 0)) :: Row 91 4 (.slice pp13 e.attrs.length cc14) e.attrs.length (M.flatMap attrCell) :: blk bk8 (.cells #[.int .i64 e.src.v, .int .i64 e.seq.v, .int .i64 e.time.v, .string e.typ.v, .slice pp4 e.attrs.length cc5] 33 (0, 0)) :: Attrs (.slice pp4 e.attrs.length cc5) e.attrs :: blk bk1 (.cells #[.int .i64 e.src.v, .int .i64 e.seq.v, .int .i64 e.time.v, .string e.typ.v, .slice ap e.attrs.length ac] 33 (0, 0)) :: Attrs (.slice ap e.attrs.length ac) e.attrs :: F) := H441
            exact (St.open_pure H443).1.elim
end Sl
