/- Walks of the program's functions. Printed by a program of this claim's author. No condition. -/
import Derived.Test.YtheggchlcpafmaaSlQ
import Derived.Test.YtheggchlcpafmaaSlI
import Derived.Test.YtheggchlcpafmaaSlP
import Derived.Test.YtheggchlcpafmaaProg
import Derived.Test.YtheggchlcpafmaaWalkEventFull1
namespace Sl
open _root_.Go _root_.Go.RowKit _root_.Go.Proofs
set_option linter.all false
set_option maxHeartbeats 4000000 in
set_option maxRecDepth 100000 in
theorem EventFull_ {W w : World} {F : List Atom} (x : EvM) (av : Value) (left : Nat) (hlt : left < 65536) (hb : x.attrs.length * 48 ≤ 140737488355328) {j : Nat} (hj : F[j]? = some (Attrs av x.attrs)) (H : St W w F) : Calls Try.prog 6 #[.agg #[.int .i64 x.src.v, .int .i64 x.seq.v, .int .i64 x.time.v, .string x.typ.v, av], .int .u16 (left : Int)] w (Ret fun v w' => v = .bool true ∧ St W w' F) := by
  obtain ⟨pA1, cA2, gA3, oA4, kA5, eA6, zA7, rfl, hn8, hp9, hx10, hs11, hml, H12⟩ := Im.open_ H hj
  have H13 := H12.dup (i := j + 1) (by exact hj) (Attrs_pers _ _)
  have H14 : St W w (Attrs (.slice pA1 x.attrs.length cA2) x.attrs :: imi (0 < x.attrs.length) gA3 (.cells kA5 eA6 zA7) :: F) := H13
  have hl2 : left % 2000 < 2000 := Nat.mod_lt _ (by decide)
  refine calls_of_go (n := 77) Try.func6 rfl Try.ntmps6 rfl ?_
  refine g_seq ?_
  refine g_region ?_
  refine r_cons (s_box H14 33 (.agg #[.int .i64 x.src.v, .int .i64 x.seq.v, .int .i64 x.time.v, .string x.typ.v, .slice pA1 x.attrs.length cA2]) rfl (cs := #[.int .i64 x.src.v, .int .i64 x.seq.v, .int .i64 x.time.v, .string x.typ.v, .slice pA1 x.attrs.length cA2]) rfl rfl ?_); intro bk15 w16 H17
  refine r_cons (s_assign (.bool false) rfl rfl ?_)
  refine r_nil ?_
  refine g_seq ?_
  refine g_region ?_
  refine r_cons (s_call [] pl_36 rfl rfl (NewSink H17) ?_)
  rintro _ w19 ⟨bk18, rfl, H20⟩
  refine r_cons (s_assign (.pointer (some ⟨bk18, 0, none⟩)) rfl rfl ?_)
  refine r_nil ?_
  refine g_seq ?_
  refine g_seq ?_
  refine g_region ?_
  refine r_cons (s_call [] pl_12 rfl rfl (begun_ H20) ?_)
  rintro _ w21 ⟨rfl, H22⟩
  refine r_cons (s_not true rfl false rfl rfl ?_)
  refine r_cons (s_move (.bool false) rfl rfl ?_)
  refine r_cons (r_take rfl rfl ?_)
  refine s_move (.pointer (some ⟨bk18, 0, none⟩)) rfl rfl ?_
  refine r_cons (r_take rfl rfl ?_)
  refine s_peql false un_59 rfl rfl rfl rfl ?_
  refine r_cons (s_pick_f (.bool false) rfl rfl rfl ?_)
  refine r_nil ?_
  refine g_false rfl ?_
  refine g_skip ?_
  refine g_seq ?_
  refine g_region ?_
  refine r_cons (s_move (.int .u16 (left : Int)) rfl rfl ?_)
  refine r_cons (s_rem ((left % 2000 : Nat) : Int) rfl rfl (by omega) (by rw [tmod_pos (Int.natCast_nonneg _)]; rfl) rfl ?_)
  refine r_cons (s_conv ((left % 2000 : Nat) : Int) rfl us_58 ik_3 (wi64 (by omega)) rfl ?_)
  refine r_cons (s_assign (.int .i64 ((left % 2000 : Nat) : Int)) rfl rfl ?_)
  refine r_nil ?_
  refine g_seq ?_
  refine g_block ?_
  have H23 : St W w21 (SinkA bk18 (List.replicate 0 false) :: blk bk15 (.cells #[.int .i64 x.src.v, .int .i64 x.seq.v, .int .i64 x.time.v, .string x.typ.v, .slice pA1 x.attrs.length cA2] 33 (0, 0)) :: Attrs (.slice pA1 x.attrs.length cA2) x.attrs :: imi (0 < x.attrs.length) gA3 (.cells kA5 eA6 zA7) :: F) := H22
  refine g_loop_inv (fun (x_ : Nat) => match x_ with | k => [(2, .pointer (some ⟨bk15, 0, none⟩)), (4, .bool false), (5, .pointer (some ⟨bk18, 0, none⟩)), (6, .int .i64 ((left % 2000 : Nat) : Int))]) (fun (x_ : Nat) w => match x_ with | k => (k ≤ 1048576 - left % 2000) ∧ St W w (SinkA bk18 (List.replicate k false) :: blk bk15 (.cells #[.int .i64 x.src.v, .int .i64 x.seq.v, .int .i64 x.time.v, .string x.typ.v, .slice pA1 x.attrs.length cA2] 33 (0, 0)) :: Attrs (.slice pA1 x.attrs.length cA2) x.attrs :: imi (0 < x.attrs.length) gA3 (.cells kA5 eA6 zA7) :: F)) (fun (x_ : Nat) => match x_ with | k => 1048576 - left % 2000 - k) (0) ?_ ?_ ?_
  · exact ⟨by first | rfl | exact vint (by omega), by first | rfl | exact vint (by omega), by first | rfl | exact vint (by omega), by first | rfl | exact vint (by omega), trivial⟩
  · exact ⟨(by omega), H23⟩
  · rintro k ρ24 w25 ⟨hk, H26⟩ nx27
    change Ends _ _ (upds ρ24 [(2, .pointer (some ⟨bk15, 0, none⟩)), (4, .bool false), (5, .pointer (some ⟨bk18, 0, none⟩)), (6, .int .i64 ((left % 2000 : Nat) : Int))]) w25
    have hrep : (List.replicate k false).length = k := List.length_replicate
    refine g_seq ?_
    refine g_seq ?_
    refine g_region ?_
    refine r_cons (s_move (.pointer (some ⟨bk18, 0, none⟩)) rfl rfl ?_)
    refine r_cons (s_call [.pointer (some ⟨bk18, 0, none⟩)] pl_37 rfl rfl (Sink_Len bk18 (List.replicate k false)   (i := 0) rfl H26) ?_)
    rintro _ w28 ⟨rfl, H29⟩
    refine r_cons (s_move (.int .i64 ((left % 2000 : Nat) : Int)) rfl rfl ?_)
    refine r_cons (s_sub (1048576 - ((left % 2000 : Nat) : Int)) rfl rfl (wi64 (by omega)) rfl ?_)
    by_cases hc30 : ((List.replicate k false).length : Int) < 1048576 - ((left % 2000 : Nat) : Int)
    · skip
      refine r_cons (s_lss true rfl rfl (dtrue hc30) rfl ?_)
      refine r_nil ?_
      refine g_true rfl ?_
      refine g_skip ?_
      refine g_block ?_
      refine g_seq ?_
      refine g_region ?_
      refine r_cons (s_move (.pointer (some ⟨bk18, 0, none⟩)) rfl rfl ?_)
      refine r_cons (s_move (.int .i64 ((left % 2000 : Nat) : Int)) rfl rfl ?_)
      refine r_cons (s_sub (1048576 - ((left % 2000 : Nat) : Int)) rfl rfl (wi64 (by omega)) rfl ?_)
      refine r_cons (s_move (.pointer (some ⟨bk18, 0, none⟩)) rfl rfl ?_)
      refine r_cons (s_call [.pointer (some ⟨bk18, 0, none⟩)] pl_37 rfl rfl (Sink_Len bk18 (List.replicate k false)   (i := 0) rfl H29) ?_)
      rintro _ w31 ⟨rfl, H32⟩
      refine r_cons (s_sub (1048576 - ((left % 2000 : Nat) : Int) - ((List.replicate k false).length : Int)) rfl rfl (wi64 (by omega)) rfl ?_)
      refine r_cons (s_min2 ((min 64 (1048576 - left % 2000 - k) : Nat) : Int) rfl rfl (by split <;> omega) rfl ?_)
      refine r_cons (s_call [.pointer (some ⟨bk18, 0, none⟩), .int .u64 0, .int .i64 ((min 64 (1048576 - left % 2000 - k) : Nat) : Int)] pl_38 rfl rfl (Sink_Bits bk18 (List.replicate k false) 0 ((min 64 (1048576 - left % 2000 - k) : Nat) : Int) (by omega) (by first | omega | (simp only [List.length_append, List.length_nil, lowB_len, natB_len]; omega) | (repeat (first | exact Nat.zero_le _ | assumption | refine putL_le ?_ | refine bitsL_le ?_ | refine evPutL_le ?_ | (simp only [List.length_append, List.length_nil, lowB_len, natB_len]; omega)))) (i := 0) rfl H32) ?_)
      rintro _ w33 ⟨rfl, H34⟩
      have hk35 : bitsE (List.replicate k false) 0 ((min 64 (1048576 - left % 2000 - k) : Nat) : Int) = 0 ∧ bitsL (List.replicate k false) 0 ((min 64 (1048576 - left % 2000 - k) : Nat) : Int) = List.replicate k false ++ lowB 0 (min 64 (1048576 - left % 2000 - k)) := (by have hh := bits_ok (L := List.replicate k false) (u := 0) (n := ((min 64 (1048576 - left % 2000 - k) : Nat) : Int)) (fits_zero (by omega) (by omega)) (by rw [hrep]; omega); exact hh)
      have H37 : St W w33 (SinkA bk18 (List.replicate k false ++ lowB 0 (min 64 (1048576 - left % 2000 - k))) :: blk bk15 (.cells #[.int .i64 x.src.v, .int .i64 x.seq.v, .int .i64 x.time.v, .string x.typ.v, .slice pA1 x.attrs.length cA2] 33 (0, 0)) :: Attrs (.slice pA1 x.attrs.length cA2) x.attrs :: imi (0 < x.attrs.length) gA3 (.cells kA5 eA6 zA7) :: F) := by rw [← hk35.2]; exact H34
      have hlast := hk35.1
      refine r_cons (s_neq false rfl rfl (ntrue hlast) rfl ?_)
      refine r_nil ?_
      refine g_false rfl ?_
      refine g_skip ?_
      refine g_inBlock ?_
      have H38 : St W w33 (SinkA bk18 (List.replicate k false ++ lowB 0 (min 64 (1048576 - left % 2000 - k))) :: blk bk15 (.cells #[.int .i64 x.src.v, .int .i64 x.seq.v, .int .i64 x.time.v, .string x.typ.v, .slice pA1 x.attrs.length cA2] 33 (0, 0)) :: Attrs (.slice pA1 x.attrs.length cA2) x.attrs :: imi (0 < x.attrs.length) gA3 (.cells kA5 eA6 zA7) :: F) := ((((H37.move 3 rfl).move 3 rfl).move 3 rfl).move 3 rfl)
      have H39 : St W w33 (SinkA bk18 (List.replicate (k + min 64 (1048576 - left % 2000 - k)) false) :: blk bk15 (.cells #[.int .i64 x.src.v, .int .i64 x.seq.v, .int .i64 x.time.v, .string x.typ.v, .slice pA1 x.attrs.length cA2] 33 (0, 0)) :: Attrs (.slice pA1 x.attrs.length cA2) x.attrs :: imi (0 < x.attrs.length) gA3 (.cells kA5 eA6 zA7) :: F) := by rw [← List.replicate_append_replicate, ← lowB_zero (min 64 (1048576 - left % 2000 - k))]; exact H38
      exact nx27 (k + min 64 (1048576 - left % 2000 - k)) _ _ ⟨(by omega), H39⟩ (by first | (dsimp only; omega) | omega) ⟨by first | rfl | exact vint (by omega), by first | rfl | exact vint (by omega), by first | rfl | exact vint (by omega), by first | rfl | exact vint (by omega), trivial⟩
    · skip
      refine r_cons (s_lss false rfl rfl (dfalse hc30) rfl ?_)
      refine r_nil ?_
      refine g_false rfl ?_
      refine g_exit (by rfl) ?_
      refine g_seq ?_
      refine g_region ?_
      refine r_cons (s_move (.pointer (some ⟨bk18, 0, none⟩)) rfl rfl ?_)
      refine r_cons (s_call [.pointer (some ⟨bk18, 0, none⟩)] pl_37 rfl rfl (Sink_Len bk18 (List.replicate k false)   (i := 0) rfl H29) ?_)
      rintro _ w40 ⟨rfl, H41⟩
      have hkk : k = 1048576 - left % 2000 := by omega
      refine r_cons (s_assign (.int .i64 ((List.replicate k false).length : Int)) rfl rfl ?_)
      refine r_nil ?_
      refine g_seq ?_
      refine g_region ?_
      refine r_cons (s_move (.pointer (some ⟨bk18, 0, none⟩)) rfl rfl ?_)
      refine r_cons (s_loadAgg [.int .i64 x.src.v, .int .i64 x.seq.v, .int .i64 x.time.v, .string x.typ.v, .slice pA1 x.attrs.length cA2] 5 ag_33 rfl (H41.blk_at (i := 1) rfl) (Nat.le_of_ble_eq_true rfl) rfl rfl ?_)
      refine r_cons (s_call [.pointer (some ⟨bk18, 0, none⟩), .agg #[.int .i64 x.src.v, .int .i64 x.seq.v, .int .i64 x.time.v, .string x.typ.v, .slice pA1 x.attrs.length cA2]] pl_39 rfl rfl (event_Put bk18 (List.replicate k false) x (.slice pA1 x.attrs.length cA2) (by first | omega | (simp only [List.length_append, List.length_nil, lowB_len, natB_len]; omega) | (repeat (first | exact Nat.zero_le _ | assumption | refine putL_le ?_ | refine bitsL_le ?_ | refine evPutL_le ?_ | (simp only [List.length_append, List.length_nil, lowB_len, natB_len]; omega)))) (j := 2) rfl (i := 0) rfl H41) ?_)
      rintro _ w42 ⟨rfl, H43⟩
      refine r_cons (s_assign (.int .i64 (evPutE (List.replicate k false) x)) rfl rfl ?_)
      refine r_nil ?_
      refine g_seq ?_
      refine g_seq ?_
      refine g_region ?_
      refine r_cons (s_loadAgg [.int .i64 x.src.v, .int .i64 x.seq.v, .int .i64 x.time.v, .string x.typ.v, .slice pA1 x.attrs.length cA2] 5 ag_33 rfl (H43.blk_at (i := 1) rfl) (Nat.le_of_ble_eq_true rfl) rfl rfl ?_)
      refine r_cons (s_call [.agg #[.int .i64 x.src.v, .int .i64 x.seq.v, .int .i64 x.time.v, .string x.typ.v, .slice pA1 x.attrs.length cA2]] pl_18 rfl rfl (ref04_Check x (.slice pA1 x.attrs.length cA2) (j := 2) rfl H43) ?_)
      rintro _ w44 ⟨rfl, H45⟩
      refine r_cons (s_assign (.int .i64 (evE x)) rfl rfl ?_)
      refine r_nil ?_
      refine g_seq ?_
      refine g_region ?_
      refine r_cons (s_move (.int .i64 (evE x)) rfl rfl ?_)
      by_cases hc46 : evE x = 0
      · skip
        refine r_cons (s_neq false rfl rfl (ntrue hc46) rfl ?_)
        refine r_nil ?_
        refine g_false rfl ?_
        refine g_skip ?_
        refine g_seq ?_
        refine g_region ?_
        refine r_cons (s_loadAgg [.int .i64 x.src.v, .int .i64 x.seq.v, .int .i64 x.time.v, .string x.typ.v, .slice pA1 x.attrs.length cA2] 5 ag_33 rfl (H45.blk_at (i := 1) rfl) (Nat.le_of_ble_eq_true rfl) rfl rfl ?_)
        refine r_cons (s_call [.agg #[.int .i64 x.src.v, .int .i64 x.seq.v, .int .i64 x.time.v, .string x.typ.v, .slice pA1 x.attrs.length cA2]] pl_40 rfl rfl (ref04_Form x (.slice pA1 x.attrs.length cA2) (by assumption) (j := 2) rfl H45) ?_)
        rintro _ w49 ⟨pp47, _, cc48, rfl, rfl, H50⟩
        have hfl := formB_le (e := x) (by assumption)
        refine r_cons (s_len ((formB x).length) rfl ⟨_, un_50⟩ rfl ?_)
        refine r_cons (s_assign (.int .i64 ((formB x).length : Int)) rfl rfl ?_)
        refine r_nil ?_
        refine g_seq ?_
        refine g_seq ?_
        refine g_region ?_
        refine r_cons (s_move (.int .i64 ((formB x).length : Int)) rfl rfl ?_)
        refine r_cons (s_move (.int .i64 ((left % 2000 : Nat) : Int)) rfl rfl ?_)
        by_cases hc51 : ((left % 2000 : Nat) : Int) < ((formB x).length : Int)
        · skip
          refine r_cons (s_gtr true rfl rfl (dtrue hc51) rfl ?_)
          refine r_nil ?_
          refine g_true rfl ?_
          refine g_seq ?_
          refine g_region ?_
          have q3 : putE (List.replicate k false) ((formB x).length : Int) = 3 := putE_3 (by rw [hrep]; omega)
          refine r_cons (s_move (.int .i64 (evPutE (List.replicate k false) x)) rfl rfl ?_)
          refine r_cons (s_eql true rfl rfl (dtrue (by rw [(evPut_yes (L := List.replicate k false) (e := x) (by assumption)).1]; exact q3)) rfl ?_)
          refine r_cons (s_move (.bool true) rfl rfl ?_)
          refine r_cons (r_take rfl rfl ?_)
          refine s_move (.pointer (some ⟨bk18, 0, none⟩)) rfl rfl ?_
          refine r_cons (r_take rfl rfl ?_)
          refine s_call [.pointer (some ⟨bk18, 0, none⟩)] pl_37 rfl rfl (Sink_Len bk18 (evPutL (List.replicate k false) x)   (i := 1) rfl H50) ?_
          rintro _ w52 ⟨rfl, H53⟩
          refine r_cons (r_take rfl rfl ?_)
          refine s_move (.int .i64 ((List.replicate k false).length : Int)) rfl rfl ?_
          refine r_cons (r_take rfl rfl ?_)
          refine s_eql true rfl rfl (dtrue (by rw [(evPut_yes (L := List.replicate k false) (e := x) (by assumption)).2, putL_no rfl (by rw [q3]; decide)])) rfl ?_
          refine r_cons (s_pick_t (.bool true) rfl rfl rfl ?_)
          refine r_cons (s_assign (.bool true) rfl rfl ?_)
          refine r_nil ?_
          refine g_ret' [.bool true] Try.func6 Try.results6 ⟨rfl, trivial⟩ ?_
          have H54 : St W w52 F := (((((H53.drop 0 rfl).drop 0 rfl).drop 0 rfl).drop 0 rfl).drop 0 rfl)
          exact ⟨rfl, H54⟩
        · skip
          refine r_cons (s_gtr false rfl rfl (dfalse hc51) rfl ?_)
          refine r_nil ?_
          refine g_false rfl ?_
          refine g_skip ?_
          refine g_seq ?_
          refine g_region ?_
          obtain ⟨q3, q4⟩ := put_ok (L := List.replicate k false) (M := formB x) rfl (by rw [hrep]; omega)
          refine r_cons (s_move (.int .i64 (evPutE (List.replicate k false) x)) rfl rfl ?_)
          refine r_cons (s_eql true rfl rfl (dtrue (by rw [(evPut_yes (L := List.replicate k false) (e := x) (by assumption)).1]; exact q3)) rfl ?_)
          refine r_cons (s_move (.bool true) rfl rfl ?_)
          refine r_cons (r_take rfl rfl ?_)
          refine s_move (.pointer (some ⟨bk18, 0, none⟩)) rfl rfl ?_
          refine r_cons (r_take rfl rfl ?_)
          refine s_call [.pointer (some ⟨bk18, 0, none⟩)] pl_37 rfl rfl (Sink_Len bk18 (evPutL (List.replicate k false) x)   (i := 1) rfl H50) ?_
          rintro _ w55 ⟨rfl, H56⟩
          refine r_cons (r_take rfl rfl ?_)
          refine s_move (.int .i64 ((List.replicate k false).length : Int)) rfl rfl ?_
          refine r_cons (r_take rfl rfl ?_)
          refine s_move (.int .i64 ((formB x).length : Int)) rfl rfl ?_
          refine r_cons (r_take rfl rfl ?_)
          refine s_add (((List.replicate k false).length : Int) + ((formB x).length : Int)) rfl rfl (wi64 (by omega)) rfl ?_
          refine r_cons (r_take rfl rfl ?_)
          refine s_eql true rfl rfl (dtrue (by rw [(evPut_yes (L := List.replicate k false) (e := x) (by assumption)).2, q4, List.length_append]; omega)) rfl ?_
          refine r_cons (s_pick_t (.bool true) rfl rfl rfl ?_)
          refine r_cons (s_assign (.bool true) rfl rfl ?_)
          refine r_nil ?_
          refine g_ret' [.bool true] Try.func6 Try.results6 ⟨rfl, trivial⟩ ?_
          have H57 : St W w55 F := (((((H56.drop 0 rfl).drop 0 rfl).drop 0 rfl).drop 0 rfl).drop 0 rfl)
          exact ⟨rfl, H57⟩
      · skip
        refine r_cons (s_neq true rfl rfl (nfalse hc46) rfl ?_)
        refine r_nil ?_
        refine g_true rfl ?_
        refine g_seq ?_
        refine g_region ?_
        refine r_cons (s_move (.int .i64 (evPutE (List.replicate k false) x)) rfl rfl ?_)
        refine r_cons (s_move (.int .i64 (evE x)) rfl rfl ?_)
        refine r_cons (s_eql true rfl rfl (dtrue (evPut_no (L := List.replicate k false) (e := x) (by assumption)).1) rfl ?_)
        refine r_cons (s_move (.bool true) rfl rfl ?_)
        refine r_cons (r_take rfl rfl ?_)
        refine s_move (.pointer (some ⟨bk18, 0, none⟩)) rfl rfl ?_
        refine r_cons (r_take rfl rfl ?_)
        refine s_call [.pointer (some ⟨bk18, 0, none⟩)] pl_37 rfl rfl (Sink_Len bk18 (evPutL (List.replicate k false) x)   (i := 0) rfl H45) ?_
        rintro _ w58 ⟨rfl, H59⟩
        refine r_cons (r_take rfl rfl ?_)
        refine s_move (.int .i64 ((List.replicate k false).length : Int)) rfl rfl ?_
        refine r_cons (r_take rfl rfl ?_)
        refine s_eql true rfl rfl (dtrue (by rw [(evPut_no (L := List.replicate k false) (e := x) (by assumption)).2])) rfl ?_
        refine r_cons (s_pick_t (.bool true) rfl rfl rfl ?_)
        refine r_cons (s_assign (.bool true) rfl rfl ?_)
        refine r_nil ?_
        refine g_ret' [.bool true] Try.func6 Try.results6 ⟨rfl, trivial⟩ ?_
        have H60 : St W w58 F := ((((H59.drop 0 rfl).drop 0 rfl).drop 0 rfl).drop 0 rfl)
        exact ⟨rfl, H60⟩
end Sl
