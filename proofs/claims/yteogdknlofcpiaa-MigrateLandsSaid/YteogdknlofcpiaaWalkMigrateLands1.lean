/- Walks of the program's functions. Printed by a program of this claim's author. No condition. -/
import Derived.Test.YteogdknlofcpiaaSlBA
import Derived.Test.YteogdknlofcpiaaSlDB
import Derived.Test.YteogdknlofcpiaaSlQ
import Derived.Test.YteogdknlofcpiaaSlR
import Derived.Test.YteogdknlofcpiaaSlG
import Derived.Test.YteogdknlofcpiaaSlDK
import Derived.Test.YteogdknlofcpiaaSlDH
import Derived.Test.YteogdknlofcpiaaSlDN
import Derived.Test.YteogdknlofcpiaaSlDO
import Derived.Test.YteogdknlofcpiaaSlDP
import Derived.Test.YteogdknlofcpiaaProg
import Derived.Test.YteogdknlofcpiaaWalkMigrateLands0
namespace Sl
open _root_.Go _root_.Go.RowKit _root_.Go.Proofs
set_option linter.all false
set_option maxHeartbeats 4000000 in
set_option maxRecDepth 100000 in
theorem ref04_Check {W w : World} {F : List Atom} (e : EvM) (av : Value) {j : Nat} (hj : F[j]? = some (Attrs av e.attrs)) (H : St W w F) : Calls Try.prog 103 #[.agg #[.int .i64 e.src.v, .int .i64 e.seq.v, .int .i64 e.time.v, .string e.typ.v, av]] w (Ret fun v w' => v = .int .i64 (evE e) ∧ St W w' F) := by
  replace H := H.dup hj (Attrs_pers _ _)
  refine calls_of_go (n := 35) Try.func103 rfl Try.ntmps103 rfl ?_
  refine g_seq ?_
  refine g_region ?_
  refine r_cons (s_box H 168 (.agg #[.int .i64 e.src.v, .int .i64 e.seq.v, .int .i64 e.time.v, .string e.typ.v, av]) rfl (cs := #[.int .i64 e.src.v, .int .i64 e.seq.v, .int .i64 e.time.v, .string e.typ.v, av]) rfl rfl ?_); intro bk1 w2 H3
  refine r_cons (s_assign (.int .i64 0) rfl rfl ?_)
  refine r_nil ?_
  refine g_seq ?_
  refine g_seq ?_
  refine g_region ?_
  refine r_cons (s_fieldAddr 168 0 0 0 165 rfl fi_168_0 rfl rfl ?_)
  refine r_cons (s_fieldAddr 165 0 0 0 3 rfl fi_165_0 rfl rfl ?_)
  refine r_cons (s_load (.int .i64 e.src.v) ag_3 rfl (H3.blk_at (i := 0) rfl) rfl rfl ?_)
  by_cases hc4 : e.src.v < 0
  · skip
    refine r_cons (s_lss true rfl rfl (dtrue hc4) rfl ?_)
    refine r_cons (s_move (.bool true) rfl rfl ?_)
    refine r_cons (r_pass rfl rfl rfl rfl rfl ?_)
    refine r_cons (r_pass rfl rfl rfl rfl rfl ?_)
    refine r_cons (r_pass rfl rfl rfl rfl rfl ?_)
    refine r_cons (r_pass rfl rfl rfl rfl rfl ?_)
    refine r_cons (s_pick_t (.bool true) rfl rfl rfl ?_)
    refine r_cons (s_move (.bool true) rfl rfl ?_)
    refine r_cons (r_pass rfl rfl rfl rfl rfl ?_)
    refine r_cons (r_pass rfl rfl rfl rfl rfl ?_)
    refine r_cons (r_pass rfl rfl rfl rfl rfl ?_)
    refine r_cons (r_pass rfl rfl rfl rfl rfl ?_)
    refine r_cons (r_pass rfl rfl rfl rfl rfl ?_)
    refine r_cons (s_pick_t (.bool true) rfl rfl rfl ?_)
    refine r_cons (s_move (.bool true) rfl rfl ?_)
    refine r_cons (r_pass rfl rfl rfl rfl rfl ?_)
    refine r_cons (r_pass rfl rfl rfl rfl rfl ?_)
    refine r_cons (r_pass rfl rfl rfl rfl rfl ?_)
    refine r_cons (r_pass rfl rfl rfl rfl rfl ?_)
    refine r_cons (s_pick_t (.bool true) rfl rfl rfl ?_)
    refine r_cons (s_move (.bool true) rfl rfl ?_)
    refine r_cons (r_pass rfl rfl rfl rfl rfl ?_)
    refine r_cons (r_pass rfl rfl rfl rfl rfl ?_)
    refine r_cons (r_pass rfl rfl rfl rfl rfl ?_)
    refine r_cons (r_pass rfl rfl rfl rfl rfl ?_)
    refine r_cons (s_pick_t (.bool true) rfl rfl rfl ?_)
    refine r_nil ?_
    refine g_true rfl ?_
    refine g_seq ?_
    refine g_region ?_
    refine r_cons (s_assign (.int .i64 40) rfl rfl ?_)
    refine r_nil ?_
    refine g_ret' [.int .i64 40] Try.func103 Try.results103 ⟨rfl, trivial⟩ ?_
    have H5 : St W w2 F := ((H3.drop 0 rfl).drop 0 rfl)
    exact ⟨vint (by first | exact (evE_40 (by first | exact .inl (by omega) | exact .inr (.inl (by omega)) | exact .inr (.inr (.inl (nottrue ‹_›))) | exact .inr (.inr (.inr (.inl (nottrue ‹_›)))) | exact .inr (.inr (.inr (.inr (nottrue ‹_›)))))).symm | exact (evE_in (by omega) (by omega) ).symm), H5⟩
  · skip
    refine r_cons (s_lss false rfl rfl (dfalse hc4) rfl ?_)
    refine r_cons (s_move (.bool false) rfl rfl ?_)
    refine r_cons (r_take rfl rfl ?_)
    refine s_fieldAddr 168 0 0 0 165 rfl fi_168_0 rfl rfl ?_
    refine r_cons (r_take rfl rfl ?_)
    refine s_fieldAddr 165 0 0 0 3 rfl fi_165_0 rfl rfl ?_
    refine r_cons (r_take rfl rfl ?_)
    refine s_load (.int .i64 e.src.v) ag_3 rfl (H3.blk_at (i := 0) rfl) rfl rfl ?_
    refine r_cons (r_take rfl rfl ?_)
    by_cases hc6 : (16 : Int) ≤ e.src.v
    · skip
      refine s_geq true rfl rfl (dtrue hc6) rfl ?_
      refine r_cons (s_pick_f (.bool true) rfl rfl rfl ?_)
      refine r_cons (s_move (.bool true) rfl rfl ?_)
      refine r_cons (r_pass rfl rfl rfl rfl rfl ?_)
      refine r_cons (r_pass rfl rfl rfl rfl rfl ?_)
      refine r_cons (r_pass rfl rfl rfl rfl rfl ?_)
      refine r_cons (r_pass rfl rfl rfl rfl rfl ?_)
      refine r_cons (r_pass rfl rfl rfl rfl rfl ?_)
      refine r_cons (s_pick_t (.bool true) rfl rfl rfl ?_)
      refine r_cons (s_move (.bool true) rfl rfl ?_)
      refine r_cons (r_pass rfl rfl rfl rfl rfl ?_)
      refine r_cons (r_pass rfl rfl rfl rfl rfl ?_)
      refine r_cons (r_pass rfl rfl rfl rfl rfl ?_)
      refine r_cons (r_pass rfl rfl rfl rfl rfl ?_)
      refine r_cons (s_pick_t (.bool true) rfl rfl rfl ?_)
      refine r_cons (s_move (.bool true) rfl rfl ?_)
      refine r_cons (r_pass rfl rfl rfl rfl rfl ?_)
      refine r_cons (r_pass rfl rfl rfl rfl rfl ?_)
      refine r_cons (r_pass rfl rfl rfl rfl rfl ?_)
      refine r_cons (r_pass rfl rfl rfl rfl rfl ?_)
      refine r_cons (s_pick_t (.bool true) rfl rfl rfl ?_)
      refine r_nil ?_
      refine g_true rfl ?_
      refine g_seq ?_
      refine g_region ?_
      refine r_cons (s_assign (.int .i64 40) rfl rfl ?_)
      refine r_nil ?_
      refine g_ret' [.int .i64 40] Try.func103 Try.results103 ⟨rfl, trivial⟩ ?_
      have H7 : St W w2 F := ((H3.drop 0 rfl).drop 0 rfl)
      exact ⟨vint (by first | exact (evE_40 (by first | exact .inl (by omega) | exact .inr (.inl (by omega)) | exact .inr (.inr (.inl (nottrue ‹_›))) | exact .inr (.inr (.inr (.inl (nottrue ‹_›)))) | exact .inr (.inr (.inr (.inr (nottrue ‹_›)))))).symm | exact (evE_in (by omega) (by omega) ).symm), H7⟩
    · skip
      refine s_geq false rfl rfl (dfalse hc6) rfl ?_
      refine r_cons (s_pick_f (.bool false) rfl rfl rfl ?_)
      refine r_cons (s_move (.bool false) rfl rfl ?_)
      refine r_cons (r_take rfl rfl ?_)
      refine s_fieldAddr 168 0 0 0 165 rfl fi_168_0 rfl rfl ?_
      refine r_cons (r_take rfl rfl ?_)
      refine s_fieldAddr 165 1 1 1 2 rfl fi_165_1 rfl rfl ?_
      refine r_cons (r_take rfl rfl ?_)
      refine s_load (.int .i64 e.seq.v) ag_2 rfl (H3.blk_at (i := 0) rfl) rfl rfl ?_
      refine r_cons (r_take rfl rfl ?_)
      refine s_call [.int .i64 e.seq.v] pl_131 rfl rfl (ref04_time e.seq.v H3) ?_
      rintro _ w8 ⟨rfl, H9⟩
      refine r_cons (r_take rfl rfl ?_)
      refine s_not (timeB e.seq.v) rfl (!(timeB e.seq.v)) rfl rfl ?_
      refine r_cons (s_pick_f (.bool (!(timeB e.seq.v))) rfl rfl rfl ?_)
      refine r_cons (s_move (.bool (!(timeB e.seq.v))) rfl rfl ?_)
      by_cases hb10 : (!(timeB e.seq.v)) = true
      · skip
        refine r_cons (r_pass rfl (congrArg some hb10) rfl rfl rfl ?_)
        refine r_cons (r_pass rfl (congrArg some hb10) rfl rfl rfl ?_)
        refine r_cons (r_pass rfl (congrArg some hb10) rfl rfl rfl ?_)
        refine r_cons (r_pass rfl (congrArg some hb10) rfl rfl rfl ?_)
        refine r_cons (s_pick_t (.bool true) (by exact congrArg Value.bool hb10) rfl rfl ?_)
        refine r_cons (s_move (.bool true) rfl rfl ?_)
        refine r_cons (r_pass rfl rfl rfl rfl rfl ?_)
        refine r_cons (r_pass rfl rfl rfl rfl rfl ?_)
        refine r_cons (r_pass rfl rfl rfl rfl rfl ?_)
        refine r_cons (r_pass rfl rfl rfl rfl rfl ?_)
        refine r_cons (s_pick_t (.bool true) rfl rfl rfl ?_)
        refine r_nil ?_
        refine g_true rfl ?_
        refine g_seq ?_
        refine g_region ?_
        refine r_cons (s_assign (.int .i64 40) rfl rfl ?_)
        refine r_nil ?_
        refine g_ret' [.int .i64 40] Try.func103 Try.results103 ⟨rfl, trivial⟩ ?_
        have H11 : St W w8 F := ((H9.drop 0 rfl).drop 0 rfl)
        exact ⟨vint (by first | exact (evE_40 (by first | exact .inl (by omega) | exact .inr (.inl (by omega)) | exact .inr (.inr (.inl (nottrue ‹_›))) | exact .inr (.inr (.inr (.inl (nottrue ‹_›)))) | exact .inr (.inr (.inr (.inr (nottrue ‹_›)))))).symm | exact (evE_in (by omega) (by omega) (notfalse hb10)).symm), H11⟩
      · have hb10 := eq_false_of_ne_true hb10
        refine r_cons (r_take rfl (congrArg some hb10) ?_)
        refine s_fieldAddr 168 1 2 2 2 rfl fi_168_1 rfl rfl ?_
        refine r_cons (r_take rfl (congrArg some hb10) ?_)
        refine s_load (.int .i64 e.time.v) ag_2 rfl (H9.blk_at (i := 0) rfl) rfl rfl ?_
        refine r_cons (r_take rfl (congrArg some hb10) ?_)
        refine s_call [.int .i64 e.time.v] pl_131 rfl rfl (ref04_time e.time.v H9) ?_
        rintro _ w12 ⟨rfl, H13⟩
        refine r_cons (r_take rfl (congrArg some hb10) ?_)
        refine s_not (timeB e.time.v) rfl (!(timeB e.time.v)) rfl rfl ?_
        refine r_cons (s_pick_f (.bool (!(timeB e.time.v))) (by exact congrArg Value.bool hb10) rfl rfl ?_)
        refine r_cons (s_move (.bool (!(timeB e.time.v))) rfl rfl ?_)
        by_cases hb14 : (!(timeB e.time.v)) = true
        · skip
          refine r_cons (r_pass rfl (congrArg some hb14) rfl rfl rfl ?_)
          refine r_cons (r_pass rfl (congrArg some hb14) rfl rfl rfl ?_)
          refine r_cons (r_pass rfl (congrArg some hb14) rfl rfl rfl ?_)
          refine r_cons (r_pass rfl (congrArg some hb14) rfl rfl rfl ?_)
          refine r_cons (s_pick_t (.bool true) (by exact congrArg Value.bool hb14) rfl rfl ?_)
          refine r_nil ?_
          refine g_true rfl ?_
          refine g_seq ?_
          refine g_region ?_
          refine r_cons (s_assign (.int .i64 40) rfl rfl ?_)
          refine r_nil ?_
          refine g_ret' [.int .i64 40] Try.func103 Try.results103 ⟨rfl, trivial⟩ ?_
          have H15 : St W w12 F := ((H13.drop 0 rfl).drop 0 rfl)
          exact ⟨vint (by first | exact (evE_40 (by first | exact .inl (by omega) | exact .inr (.inl (by omega)) | exact .inr (.inr (.inl (nottrue ‹_›))) | exact .inr (.inr (.inr (.inl (nottrue ‹_›)))) | exact .inr (.inr (.inr (.inr (nottrue ‹_›)))))).symm | exact (evE_in (by omega) (by omega) (notfalse hb10) (notfalse hb14)).symm), H15⟩
        · have hb14 := eq_false_of_ne_true hb14
          refine r_cons (r_take rfl (congrArg some hb14) ?_)
          refine s_fieldAddr 168 2 3 3 9 rfl fi_168_2 rfl rfl ?_
          refine r_cons (r_take rfl (congrArg some hb14) ?_)
          refine s_load (.string e.typ.v) ag_9 rfl (H13.blk_at (i := 0) rfl) rfl rfl ?_
          refine r_cons (r_take rfl (congrArg some hb14) ?_)
          refine s_call [.string e.typ.v] pl_102 rfl rfl (ref03_Name e.typ.v e.typ.ok H13) ?_
          rintro _ w16 ⟨rfl, H17⟩
          refine r_cons (r_take rfl (congrArg some hb14) ?_)
          refine s_not (nameB e.typ.v) rfl (!(nameB e.typ.v)) rfl rfl ?_
          refine r_cons (s_pick_f (.bool (!(nameB e.typ.v))) (by exact congrArg Value.bool hb14) rfl rfl ?_)
          refine r_nil ?_
          by_cases hb18 : (!(nameB e.typ.v)) = true
          · skip
            refine g_true (congrArg Value.bool hb18) ?_
            refine g_seq ?_
            refine g_region ?_
            refine r_cons (s_assign (.int .i64 40) rfl rfl ?_)
            refine r_nil ?_
            refine g_ret' [.int .i64 40] Try.func103 Try.results103 ⟨rfl, trivial⟩ ?_
            have H19 : St W w16 F := ((H17.drop 0 rfl).drop 0 rfl)
            exact ⟨vint (by first | exact (evE_40 (by first | exact .inl (by omega) | exact .inr (.inl (by omega)) | exact .inr (.inr (.inl (nottrue ‹_›))) | exact .inr (.inr (.inr (.inl (nottrue ‹_›)))) | exact .inr (.inr (.inr (.inr (nottrue ‹_›)))))).symm | exact (evE_in (by omega) (by omega) (notfalse hb10) (notfalse hb14) (notfalse hb18)).symm), H19⟩
          · have hb18 := eq_false_of_ne_true hb18
            refine g_false (congrArg Value.bool hb18) ?_
            refine g_skip ?_
            refine g_seq ?_
            refine g_region ?_
            refine r_cons (s_fieldAddr 168 3 4 4 166 rfl fi_168_3 rfl rfl ?_)
            refine r_cons (s_load (av) ag_166 rfl (H17.blk_at (i := 0) rfl) rfl rfl ?_)
            refine r_cons (s_call [av] pl_132 rfl rfl (ref03_CheckAttrs e.attrs av (j := 1) rfl H17) ?_)
            rintro _ w20 ⟨rfl, H21⟩
            refine r_cons (s_assign (.int .i64 (attrsE e.attrs)) rfl rfl ?_)
            refine r_nil ?_
            refine g_ret' [.int .i64 (attrsE e.attrs)] Try.func103 Try.results103 ⟨rfl, trivial⟩ ?_
            have H22 : St W w20 F := ((H21.drop 0 rfl).drop 0 rfl)
            exact ⟨vint (by first | exact (evE_40 (by first | exact .inl (by omega) | exact .inr (.inl (by omega)) | exact .inr (.inr (.inl (nottrue ‹_›))) | exact .inr (.inr (.inr (.inl (nottrue ‹_›)))) | exact .inr (.inr (.inr (.inr (nottrue ‹_›)))))).symm | exact (evE_in (by omega) (by omega) (notfalse hb10) (notfalse hb14) (notfalse hb18)).symm), H22⟩
set_option maxHeartbeats 4000000 in
set_option maxRecDepth 100000 in
theorem ref04_Same {W w : World} {F : List Atom} (a b : EvM) (av bv : Value) {j k : Nat} (hj : F[j]? = some (Attrs av a.attrs)) (hk : F[k]? = some (Attrs bv b.attrs)) (H : St W w F) : Calls Try.prog 136 #[.agg #[.int .i64 a.src.v, .int .i64 a.seq.v, .int .i64 a.time.v, .string a.typ.v, av], .agg #[.int .i64 b.src.v, .int .i64 b.seq.v, .int .i64 b.time.v, .string b.typ.v, bv]] w (Ret fun v w' => v = .bool (sameEv a b) ∧ St W w' F) := by
  have H0 := (H.dup hj (Attrs_pers _ _)).dup (i := k + 1) (by exact hk) (Attrs_pers _ _)
  refine calls_of_go (n := 31) Try.func136 rfl Try.ntmps136 rfl ?_
  refine g_seq ?_
  refine g_region ?_
  refine r_cons (s_box H0 168 (.agg #[.int .i64 a.src.v, .int .i64 a.seq.v, .int .i64 a.time.v, .string a.typ.v, av]) rfl (cs := #[.int .i64 a.src.v, .int .i64 a.seq.v, .int .i64 a.time.v, .string a.typ.v, av]) rfl rfl ?_); intro bk1 w2 H3
  refine r_cons (s_box H3 168 (.agg #[.int .i64 b.src.v, .int .i64 b.seq.v, .int .i64 b.time.v, .string b.typ.v, bv]) rfl (cs := #[.int .i64 b.src.v, .int .i64 b.seq.v, .int .i64 b.time.v, .string b.typ.v, bv]) rfl rfl ?_); intro bk4 w5 H6
  refine r_cons (s_assign (.bool false) rfl rfl ?_)
  refine r_nil ?_
  refine g_seq ?_
  refine g_region ?_
  refine r_cons (s_fieldAddr 168 0 0 0 165 rfl fi_168_0 rfl rfl ?_)
  refine r_cons (s_loadAgg [.int .i64 a.src.v, .int .i64 a.seq.v] 2 ag_165 rfl (H6.blk_at (i := 1) rfl) (Nat.le_of_ble_eq_true rfl) rfl rfl ?_)
  refine r_cons (s_fieldAddr 168 0 0 0 165 rfl fi_168_0 rfl rfl ?_)
  refine r_cons (s_loadAgg [.int .i64 b.src.v, .int .i64 b.seq.v] 2 ag_165 rfl (H6.blk_at (i := 0) rfl) (Nat.le_of_ble_eq_true rfl) rfl rfl ?_)
  refine r_cons (s_aeql ((decide (a.src.v = b.src.v) && (decide (a.seq.v = b.seq.v) && true))) gd_165 ev_165 rfl rfl rfl rfl ?_)
  refine r_cons (s_move (.bool (decide (a.src.v = b.src.v) && (decide (a.seq.v = b.seq.v) && true))) rfl rfl ?_)
  by_cases hb7 : ((decide (a.src.v = b.src.v) && (decide (a.seq.v = b.seq.v) && true))) = true
  · skip
    refine r_cons (r_take rfl (congrArg some hb7) ?_)
    refine s_fieldAddr 168 1 2 2 2 rfl fi_168_1 rfl rfl ?_
    refine r_cons (r_take rfl (congrArg some hb7) ?_)
    refine s_load (.int .i64 a.time.v) ag_2 rfl (H6.blk_at (i := 1) rfl) rfl rfl ?_
    refine r_cons (r_take rfl (congrArg some hb7) ?_)
    refine s_fieldAddr 168 1 2 2 2 rfl fi_168_1 rfl rfl ?_
    refine r_cons (r_take rfl (congrArg some hb7) ?_)
    refine s_load (.int .i64 b.time.v) ag_2 rfl (H6.blk_at (i := 0) rfl) rfl rfl ?_
    refine r_cons (r_take rfl (congrArg some hb7) ?_)
    by_cases hc8 : a.time.v = b.time.v
    · skip
      refine s_eql true rfl rfl (dtrue hc8) rfl ?_
      refine r_cons (s_pick_t (.bool true) (by exact congrArg Value.bool hb7) rfl rfl ?_)
      refine r_cons (s_move (.bool true) rfl rfl ?_)
      refine r_cons (r_take rfl rfl ?_)
      refine s_fieldAddr 168 2 3 3 9 rfl fi_168_2 rfl rfl ?_
      refine r_cons (r_take rfl rfl ?_)
      refine s_load (.string a.typ.v) ag_9 rfl (H6.blk_at (i := 1) rfl) rfl rfl ?_
      refine r_cons (r_take rfl rfl ?_)
      refine s_fieldAddr 168 2 3 3 9 rfl fi_168_2 rfl rfl ?_
      refine r_cons (r_take rfl rfl ?_)
      refine s_load (.string b.typ.v) ag_9 rfl (H6.blk_at (i := 0) rfl) rfl rfl ?_
      refine r_cons (r_take rfl rfl ?_)
      by_cases hc9 : a.typ.v = b.typ.v
      · skip
        refine s_seql true rfl rfl (dtrue hc9) rfl ?_
        refine r_cons (s_pick_t (.bool true) rfl rfl rfl ?_)
        refine r_cons (s_move (.bool true) rfl rfl ?_)
        refine r_cons (r_take rfl rfl ?_)
        refine s_fieldAddr 168 3 4 4 166 rfl fi_168_3 rfl rfl ?_
        refine r_cons (r_take rfl rfl ?_)
        refine s_load (av) ag_166 rfl (H6.blk_at (i := 1) rfl) rfl rfl ?_
        refine r_cons (r_take rfl rfl ?_)
        refine s_fieldAddr 168 3 4 4 166 rfl fi_168_3 rfl rfl ?_
        refine r_cons (r_take rfl rfl ?_)
        refine s_load (bv) ag_166 rfl (H6.blk_at (i := 0) rfl) rfl rfl ?_
        refine r_cons (r_take rfl rfl ?_)
        refine s_call [av, bv] pl_153 rfl rfl (ref03_SameAttrs a.attrs b.attrs av bv (j := 3) (k := 2) rfl rfl H6) ?_
        rintro _ w10 ⟨rfl, H11⟩
        refine r_cons (s_pick_t (.bool (sameAs a.attrs b.attrs)) rfl rfl rfl ?_)
        refine r_cons (s_assign (.bool (sameAs a.attrs b.attrs)) rfl rfl ?_)
        refine r_nil ?_
        refine g_ret' [.bool (sameAs a.attrs b.attrs)] Try.func136 Try.results136 ⟨rfl, trivial⟩ ?_
        have H12 : St W w10 F := ((((H11.drop 0 rfl).drop 0 rfl).drop 0 rfl).drop 0 rfl)
        exact ⟨congrArg Value.bool (by unfold sameEv; (try simp only [Bool.and_true, Bool.and_eq_true, Bool.and_eq_false_iff, decide_eq_true_eq, decide_eq_false_iff_not] at *); first | (simp_all; done) | (simp_all; omega)), H12⟩
      · skip
        refine s_seql false rfl rfl (dfalse hc9) rfl ?_
        refine r_cons (s_pick_t (.bool false) rfl rfl rfl ?_)
        refine r_cons (s_move (.bool false) rfl rfl ?_)
        refine r_cons (r_pass rfl rfl rfl rfl rfl ?_)
        refine r_cons (r_pass rfl rfl rfl rfl rfl ?_)
        refine r_cons (r_pass rfl rfl rfl rfl rfl ?_)
        refine r_cons (r_pass rfl rfl rfl rfl rfl ?_)
        refine r_cons (r_pass rfl rfl rfl rfl rfl ?_)
        refine r_cons (s_pick_f (.bool false) rfl rfl rfl ?_)
        refine r_cons (s_assign (.bool false) rfl rfl ?_)
        refine r_nil ?_
        refine g_ret' [.bool false] Try.func136 Try.results136 ⟨rfl, trivial⟩ ?_
        have H13 : St W w5 F := ((((H6.drop 0 rfl).drop 0 rfl).drop 0 rfl).drop 0 rfl)
        exact ⟨congrArg Value.bool (by unfold sameEv; (try simp only [Bool.and_true, Bool.and_eq_true, Bool.and_eq_false_iff, decide_eq_true_eq, decide_eq_false_iff_not] at *); first | (simp_all; done) | (simp_all; omega)), H13⟩
    · skip
      refine s_eql false rfl rfl (dfalse hc8) rfl ?_
      refine r_cons (s_pick_t (.bool false) (by exact congrArg Value.bool hb7) rfl rfl ?_)
      refine r_cons (s_move (.bool false) rfl rfl ?_)
      refine r_cons (r_pass rfl rfl rfl rfl rfl ?_)
      refine r_cons (r_pass rfl rfl rfl rfl rfl ?_)
      refine r_cons (r_pass rfl rfl rfl rfl rfl ?_)
      refine r_cons (r_pass rfl rfl rfl rfl rfl ?_)
      refine r_cons (r_pass rfl rfl rfl rfl rfl ?_)
      refine r_cons (s_pick_f (.bool false) rfl rfl rfl ?_)
      refine r_cons (s_move (.bool false) rfl rfl ?_)
      refine r_cons (r_pass rfl rfl rfl rfl rfl ?_)
      refine r_cons (r_pass rfl rfl rfl rfl rfl ?_)
      refine r_cons (r_pass rfl rfl rfl rfl rfl ?_)
      refine r_cons (r_pass rfl rfl rfl rfl rfl ?_)
      refine r_cons (r_pass rfl rfl rfl rfl rfl ?_)
      refine r_cons (s_pick_f (.bool false) rfl rfl rfl ?_)
      refine r_cons (s_assign (.bool false) rfl rfl ?_)
      refine r_nil ?_
      refine g_ret' [.bool false] Try.func136 Try.results136 ⟨rfl, trivial⟩ ?_
      have H14 : St W w5 F := ((((H6.drop 0 rfl).drop 0 rfl).drop 0 rfl).drop 0 rfl)
      exact ⟨congrArg Value.bool (by unfold sameEv; (try simp only [Bool.and_true, Bool.and_eq_true, Bool.and_eq_false_iff, decide_eq_true_eq, decide_eq_false_iff_not] at *); first | (simp_all; done) | (simp_all; omega)), H14⟩
  · have hb7 := eq_false_of_ne_true hb7
    refine r_cons (r_pass rfl (congrArg some hb7) rfl rfl rfl ?_)
    refine r_cons (r_pass rfl (congrArg some hb7) rfl rfl rfl ?_)
    refine r_cons (r_pass rfl (congrArg some hb7) rfl rfl rfl ?_)
    refine r_cons (r_pass rfl (congrArg some hb7) rfl rfl rfl ?_)
    refine r_cons (r_pass rfl (congrArg some hb7) rfl rfl rfl ?_)
    refine r_cons (s_pick_f (.bool false) (by exact congrArg Value.bool hb7) rfl rfl ?_)
    refine r_cons (s_move (.bool false) rfl rfl ?_)
    refine r_cons (r_pass rfl rfl rfl rfl rfl ?_)
    refine r_cons (r_pass rfl rfl rfl rfl rfl ?_)
    refine r_cons (r_pass rfl rfl rfl rfl rfl ?_)
    refine r_cons (r_pass rfl rfl rfl rfl rfl ?_)
    refine r_cons (r_pass rfl rfl rfl rfl rfl ?_)
    refine r_cons (s_pick_f (.bool false) rfl rfl rfl ?_)
    refine r_cons (s_move (.bool false) rfl rfl ?_)
    refine r_cons (r_pass rfl rfl rfl rfl rfl ?_)
    refine r_cons (r_pass rfl rfl rfl rfl rfl ?_)
    refine r_cons (r_pass rfl rfl rfl rfl rfl ?_)
    refine r_cons (r_pass rfl rfl rfl rfl rfl ?_)
    refine r_cons (r_pass rfl rfl rfl rfl rfl ?_)
    refine r_cons (s_pick_f (.bool false) rfl rfl rfl ?_)
    refine r_cons (s_assign (.bool false) rfl rfl ?_)
    refine r_nil ?_
    refine g_ret' [.bool false] Try.func136 Try.results136 ⟨rfl, trivial⟩ ?_
    have H15 : St W w5 F := ((((H6.drop 0 rfl).drop 0 rfl).drop 0 rfl).drop 0 rfl)
    exact ⟨congrArg Value.bool (by unfold sameEv; (try simp only [Bool.and_true, Bool.and_eq_true, Bool.and_eq_false_iff, decide_eq_true_eq, decide_eq_false_iff_not] at *); first | (simp_all; done) | (simp_all; omega)), H15⟩
set_option maxHeartbeats 4000000 in
set_option maxRecDepth 100000 in
theorem ref04_Clone {W w : World} {F : List Atom} (e : EvM) (av : Value) (hb : e.attrs.length * 48 ≤ 140737488355328) {j : Nat} (hj : F[j]? = some (Attrs av e.attrs)) (H : St W w F) : Calls Try.prog 137 #[.agg #[.int .i64 e.src.v, .int .i64 e.seq.v, .int .i64 e.time.v, .string e.typ.v, av]] w (Ret fun v w' => ∃ p c, v = .agg #[.int .i64 e.src.v, .int .i64 e.seq.v, .int .i64 e.time.v, .string e.typ.v, .slice p e.attrs.length c] ∧ St W w' (Attrs (.slice p e.attrs.length c) e.attrs :: F)) := by
  replace H := H.dup hj (Attrs_pers _ _)
  refine calls_of_go (n := 8) Try.func137 rfl Try.ntmps137 rfl ?_
  refine g_seq ?_
  refine g_region ?_
  refine r_cons (s_box H 168 (.agg #[.int .i64 e.src.v, .int .i64 e.seq.v, .int .i64 e.time.v, .string e.typ.v, av]) rfl (cs := #[.int .i64 e.src.v, .int .i64 e.seq.v, .int .i64 e.time.v, .string e.typ.v, av]) rfl rfl ?_); intro bk1 w2 H3
  refine r_cons (s_alloc H3 168 ze_168 rfl ?_); intro bk4 w5 H6
  refine r_nil ?_
  refine g_seq ?_
  refine g_region ?_
  refine r_cons (s_fieldAddr 168 3 4 4 166 rfl fi_168_3 rfl rfl ?_)
  refine r_cons (s_load (av) ag_166 rfl (H6.blk_at (i := 1) rfl) rfl rfl ?_)
  have H7 := Row.nil_intro H6 213 4
  refine r_cons (s_append H7 0 rfl rfl rfl (Im.rd H7 (i := 3) rfl) ap_166 (by decide) (by unfold maxLen; omega) (by omega) (n' := e.attrs.length) (xs' := e.attrs.flatMap attrCell) (by omega) (by first | rfl | simp) rfl ?_); intro vv8 w9 H10 hn11
  obtain ⟨pp12, cc13, rfl⟩ := Row.slice H10 (i := 0) rfl
  refine r_cons (s_fieldAddr 168 3 4 4 166 rfl fi_168_3 rfl rfl ?_)
  refine r_cons (s_store H10 2 (.slice pp12 e.attrs.length cc13) rfl rfl rfl sz_166 rfl (Nat.le_of_ble_eq_true rfl) rfl (cs' := #[.int .i64 e.src.v, .int .i64 e.seq.v, .int .i64 e.time.v, .string e.typ.v, .slice pp12 e.attrs.length cc13]) rfl ?_); intro w14 H15
  refine r_nil ?_
  refine g_seq ?_
  refine g_region ?_
  refine r_cons (s_loadAgg [.int .i64 e.src.v, .int .i64 e.seq.v, .int .i64 e.time.v, .string e.typ.v, .slice pp12 e.attrs.length cc13] 5 ag_168 rfl (H15.blk_at (i := 2) rfl) (Nat.le_of_ble_eq_true rfl) rfl rfl ?_)
  refine r_cons (s_storeAgg H15 1 #[.int .i64 e.src.v, .int .i64 e.seq.v, .int .i64 e.time.v, .string e.typ.v, .slice pp12 e.attrs.length cc13] 5 rfl rfl rfl sz_168 rfl (by simp [Value.oneCell']) (Nat.le_of_ble_eq_true rfl) (fun o h1 h2 => by first | (simp; done) | (simp; omega)) (cs' := #[.int .i64 e.src.v, .int .i64 e.seq.v, .int .i64 e.time.v, .string e.typ.v, .slice pp12 e.attrs.length cc13]) rfl ?_); intro w16 H17
  refine r_nil ?_
  refine g_ret' [.agg #[.int .i64 e.src.v, .int .i64 e.seq.v, .int .i64 e.time.v, .string e.typ.v, .slice pp12 e.attrs.length cc13]] Try.func137 Try.results137 ⟨(res_cellN rfl ag_168 (H17.blk_at (i := 1) rfl) (Nat.le_of_ble_eq_true rfl) rfl), trivial⟩ ?_
  have H18 : St W w16 (Row 213 4 (.slice pp12 e.attrs.length cc13) e.attrs.length (e.attrs.flatMap attrCell) :: F) := (((H17.drop 1 rfl).drop 1 rfl).drop 1 rfl)
  have H19 := Row.im H18 (i := 0) rfl
  exact ⟨_, _, rfl, H19⟩
set_option maxHeartbeats 4000000 in
set_option maxRecDepth 100000 in
theorem match_Check {W w : World} {F : List Atom} (bs : List BoundD) (bv : Value) {ip : Nat} (hp : F[ip]? = some (Im 6 bv bs.length (bs.flatMap bndCell))) {iq : Nat} (hq : F[iq]? = some (bndsA bs)) (H : St W w F) : Calls Try.prog 104 #[.agg #[bv]] w (Ret fun v w' => v = .int .i64 (ptE bs) ∧ St W w' F) := by
  obtain ⟨pp1, cc2, rfl, hn3⟩ := Rd.shape (Im.rd H (i := ip) hp)
  have H4 := H.dup (i := ip + 0) (by exact hp) (Im_pers _ _ _ _)
  have H5 : St W w (Im 6 (.slice pp1 bs.length cc2) bs.length (bs.flatMap bndCell) :: F) := H4
  have H6 := H5.dup (i := iq + 1) (by exact hq) (bndsA_pers _)
  have H7 : St W w (bndsA bs :: Im 6 (.slice pp1 bs.length cc2) bs.length (bs.flatMap bndCell) :: F) := H6
  have hmlb := Im.len H7 (i := 1) rfl
  refine calls_of_go (n := 71) Try.func104 rfl Try.ntmps104 rfl ?_
  refine g_seq ?_
  refine g_region ?_
  refine r_cons (s_box H7 30 (.agg #[.slice pp1 bs.length cc2]) rfl (cs := #[.slice pp1 bs.length cc2]) rfl rfl ?_); intro bk8 w9 H10
  refine r_cons (s_assign (.int .i64 0) rfl rfl ?_)
  refine r_nil ?_
  refine g_seq ?_
  refine g_region ?_
  refine r_cons (s_fieldAddr 30 0 0 0 28 rfl fi_30_0 rfl rfl ?_)
  refine r_cons (s_load (.slice pp1 bs.length cc2) ag_28 rfl (H10.blk_at (i := 0) rfl) rfl rfl ?_)
  refine r_cons (s_len bs.length rfl ⟨_, un_28⟩ rfl ?_)
  refine r_cons (s_assign (.int .i64 (bs.length : Int)) rfl rfl ?_)
  refine r_nil ?_
  refine g_seq ?_
  refine g_seq ?_
  refine g_region ?_
  refine r_cons (s_move (.int .i64 (bs.length : Int)) rfl rfl ?_)
  by_cases hc11 : (12 : Int) < (bs.length : Int)
  · skip
    refine r_cons (s_gtr true rfl rfl (dtrue hc11) rfl ?_)
    refine r_nil ?_
    refine g_true rfl ?_
    refine g_seq ?_
    refine g_region ?_
    refine r_cons (s_assign (.int .i64 100) rfl rfl ?_)
    refine r_nil ?_
    refine g_ret' [.int .i64 100] Try.func104 Try.results104 ⟨rfl, trivial⟩ ?_
    have H12 : St W w9 F := (((H10.drop 0 rfl).drop 0 rfl).drop 0 rfl)
    exact ⟨vint (ptE_long (by omega)).symm, H12⟩
  · skip
    refine r_cons (s_gtr false rfl rfl (dfalse hc11) rfl ?_)
    refine r_nil ?_
    refine g_false rfl ?_
    refine g_skip ?_
    refine g_seq ?_
    refine g_region ?_
    refine r_cons (s_makeMap H10 rfl ?_); intro mp13 w14 H15
    have H16 : St W w14 (MapA mp13 (ents kID vB (setOf ([] : List IdK))) :: blk bk8 (.cells #[.slice pp1 bs.length cc2] 30 (0, 0)) :: bndsA bs :: Im 6 (.slice pp1 bs.length cc2) bs.length (bs.flatMap bndCell) :: F) := H15
    refine r_cons (s_assign (.map (some mp13)) rfl rfl ?_)
    refine r_nil ?_
    refine g_seq ?_
    refine g_seq ?_
    refine g_region ?_
    refine r_cons (s_fieldAddr 30 0 0 0 28 rfl fi_30_0 rfl rfl ?_)
    refine r_cons (s_load (.slice pp1 bs.length cc2) ag_28 rfl (H16.blk_at (i := 1) rfl) rfl rfl ?_)
    refine r_cons (s_len bs.length rfl ⟨_, un_28⟩ rfl ?_)
    refine r_cons (s_move (.int .i64 0) rfl rfl ?_)
    refine r_nil ?_
    refine g_block ?_
    obtain ⟨pA17, cA18, gA19, oA20, kA21, eA22, zA23, he29, hn24, hp25, hx26, hs27, hml, H28⟩ := Im.open_ H16 (i := 3) rfl
    obtain ⟨rfl, rfl⟩ : pp1 = pA17 ∧ cc2 = cA18 := by injection he29 with a_ b_ c_; exact ⟨a_, c_⟩
    have H30 : St W w14 (imi (0 < bs.length) gA19 (.cells kA21 eA22 zA23) :: MapA mp13 (ents kID vB (setOf ((bs.take 0).map idOf))) :: blk bk8 (.cells #[.slice pp1 bs.length cc2] 30 (0, 0)) :: bndsA bs :: Im 6 (.slice pp1 bs.length cc2) bs.length (bs.flatMap bndCell) :: F) := H28
    refine g_loop_inv (fun (x_ : Nat) => match x_ with | j => [(1, .pointer (some ⟨bk8, 0, none⟩)), (2, .int .i64 0), (3, .int .i64 (bs.length : Int)), (4, .map (some mp13)), (16, .slice pp1 bs.length cc2), (17, .int .i64 (bs.length : Int)), (18, .int .i64 (j : Int))]) (fun (x_ : Nat) w => match x_ with | j => (j ≤ bs.length) ∧ (∀ q, q < j → ptAt bs q = 0) ∧ St W w (imi (0 < bs.length) gA19 (.cells kA21 eA22 zA23) :: MapA mp13 (ents kID vB (setOf ((bs.take j).map idOf))) :: blk bk8 (.cells #[.slice pp1 bs.length cc2] 30 (0, 0)) :: bndsA bs :: Im 6 (.slice pp1 bs.length cc2) bs.length (bs.flatMap bndCell) :: F)) (fun (x_ : Nat) => match x_ with | j => bs.length - j) (0) ?_ ?_ ?_
    · exact ⟨by first | rfl | exact vint (by omega), by first | rfl | exact vint (by omega), by first | rfl | exact vint (by omega), by first | rfl | exact vint (by omega), by first | rfl | exact vint (by omega), by first | rfl | exact vint (by omega), by first | rfl | exact vint (by omega), trivial⟩
    · exact ⟨(by omega), (fun q hq => by omega), H30⟩
    · rintro j ρ31 w32 ⟨hjn, hz, H33⟩ nx34
      change Ends _ _ (upds ρ31 [(1, .pointer (some ⟨bk8, 0, none⟩)), (2, .int .i64 0), (3, .int .i64 (bs.length : Int)), (4, .map (some mp13)), (16, .slice pp1 bs.length cc2), (17, .int .i64 (bs.length : Int)), (18, .int .i64 (j : Int))]) w32
      refine g_seq ?_
      refine g_region ?_
      by_cases hc35 : (j : Int) < (bs.length : Int)
      · skip
        refine r_cons (s_lss true rfl rfl (dtrue hc35) rfl ?_)
        refine r_nil ?_
        refine g_seq ?_
        refine g_true rfl ?_
        refine g_skip ?_
        refine g_seq ?_
        refine g_block ?_
        refine g_seq ?_
        refine g_region ?_
        refine r_cons (s_move (.int .i64 (j : Int)) rfl rfl ?_)
        refine r_cons (s_indexAddr gA19 (off := oA20) (j : Int) 6 (oA20 + j * 6) (by exact congrArg (fun z_ => Value.slice z_ bs.length cc2) (hp25 (by omega))) rfl el_28 (by omega) rfl rfl ?_)
        refine r_cons (s_loadAgg [.string ((bs.getD j default).var.v), .int .i64 ((bs.getD j default).ev.ev.src.v), .int .i64 ((bs.getD j default).ev.ev.seq.v), .int .i64 ((bs.getD j default).ev.ev.time.v), .string ((bs.getD j default).ev.ev.typ.v), .slice ((bs.getD j default).ev.p) ((bs.getD j default).ev.ev.attrs.length) ((bs.getD j default).ev.c)] 6 ag_170 rfl (H33.imi_at (i := 0) rfl (by omega)) (by have := elem_size (i := j) (s := 6) (hs27 (by omega)) (by omega); omega) (elem_take bndCell_len (hx26 (by omega)) (by omega) default) rfl ?_)
        refine r_cons (s_alloc H33 170 ze_170 rfl ?_); intro bk36 w37 H38
        refine r_cons (s_assign (.int .i64 (j : Int)) rfl rfl ?_)
        refine r_cons (s_storeAgg H38 0 #[.string ((bs.getD j default).var.v), .int .i64 ((bs.getD j default).ev.ev.src.v), .int .i64 ((bs.getD j default).ev.ev.seq.v), .int .i64 ((bs.getD j default).ev.ev.time.v), .string ((bs.getD j default).ev.ev.typ.v), .slice ((bs.getD j default).ev.p) ((bs.getD j default).ev.ev.attrs.length) ((bs.getD j default).ev.c)] 6 rfl rfl rfl sz_170 rfl (by simp [Value.oneCell']) (Nat.le_of_ble_eq_true rfl) (fun o h1 h2 => by first | (simp; done) | (simp; omega)) (cs' := #[.string ((bs.getD j default).var.v), .int .i64 ((bs.getD j default).ev.ev.src.v), .int .i64 ((bs.getD j default).ev.ev.seq.v), .int .i64 ((bs.getD j default).ev.ev.time.v), .string ((bs.getD j default).ev.ev.typ.v), .slice ((bs.getD j default).ev.p) ((bs.getD j default).ev.ev.attrs.length) ((bs.getD j default).ev.c)]) rfl ?_); intro w39 H40
        refine r_nil ?_
        refine g_seq ?_
        refine g_region ?_
        refine r_cons (s_fieldAddr 170 0 0 0 9 rfl fi_170_0 rfl rfl ?_)
        refine r_cons (s_load (.string ((bs.getD j default).var.v)) ag_9 rfl (H40.blk_at (i := 0) rfl) rfl rfl ?_)
        refine r_cons (s_call [.string ((bs.getD j default).var.v)] pl_133 rfl rfl (value_Name ((bs.getD j default).var.v) (bs.getD j default).var.ok H40) ?_)
        rintro _ w41 ⟨rfl, H42⟩
        refine r_cons (s_move (.bool (nameB ((bs.getD j default).var.v))) rfl rfl ?_)
        by_cases hb43 : (nameB ((bs.getD j default).var.v)) = true
        · skip
          refine r_cons (r_pass rfl (congrArg some hb43) rfl rfl rfl ?_)
          refine r_cons (r_pass rfl (congrArg some hb43) rfl rfl rfl ?_)
          refine r_cons (r_pass rfl (congrArg some hb43) rfl rfl rfl ?_)
          refine r_cons (r_pass rfl (congrArg some hb43) rfl rfl rfl ?_)
          refine r_cons (r_passN rfl rfl rfl rfl ?_)
          refine r_cons (r_passN rfl rfl rfl rfl ?_)
          refine r_cons (r_pass rfl (congrArg some hb43) rfl rfl rfl ?_)
          refine r_cons (s_pick_t (.bool true) (by exact congrArg Value.bool hb43) rfl rfl ?_)
          refine r_cons (s_assign (.bool true) rfl rfl ?_)
          refine r_nil ?_
          refine g_seq ?_
          refine g_seq ?_
          refine g_quiet (fun w' => St W w' (blk bk36 (.cells #[.string ((bs.getD j default).var.v), .int .i64 ((bs.getD j default).ev.ev.src.v), .int .i64 ((bs.getD j default).ev.ev.seq.v), .int .i64 ((bs.getD j default).ev.ev.time.v), .string ((bs.getD j default).ev.ev.typ.v), .slice ((bs.getD j default).ev.p) ((bs.getD j default).ev.ev.attrs.length) ((bs.getD j default).ev.c)] 170 (0, 0)) :: imi (0 < bs.length) gA19 (.cells kA21 eA22 zA23) :: MapA mp13 (ents kID vB (setOf ((bs.take j).map idOf))) :: blk bk8 (.cells #[.slice pp1 bs.length cc2] 30 (0, 0)) :: bndsA bs :: Im 6 (.slice pp1 bs.length cc2) bs.length (bs.flatMap bndCell) :: F)) mixed (by kernel_rfl) H42.drew ?_
          refine q_cons (q_val rfl rfl rfl (by intro w hw; exact x_move (.bool true) rfl w) ?_)
          refine q_cons (q_val rfl rfl rfl (by intro w hw; exact x_not true rfl false rfl w) ?_)
          refine q_cons (q_val rfl rfl rfl (by intro w hw; exact x_move (.bool false) rfl w) ?_)
          refine q_cons (q_take rfl rfl ?_)
          refine q_val rfl rfl rfl (by intro w hw; exact x_move (.int .i64 (j : Int)) rfl w) ?_
          refine q_cons (q_take rfl rfl ?_)
          by_cases hc44 : (0 : Int) < (j : Int)
          · skip
            refine q_val rfl rfl rfl (by intro w hw; exact x_gtr true rfl rfl (dtrue hc44) w) ?_
            refine q_cons (q_take rfl rfl ?_)
            refine q_val rfl rfl rfl (by intro w hw; exact x_move (.bool true) rfl w) ?_
            refine q_cons (q_take rfl rfl ?_)
            refine q_val rfl rfl rfl (by intro w hw; exact x_fieldAddr 170 0 0 0 9 rfl fi_170_0 rfl w) ?_
            refine q_cons (q_take rfl rfl ?_)
            refine q_val rfl rfl rfl (by intro w hw; exact x_load (.string ((bs.getD j default).var.v)) ag_9 rfl (hw.blk_at (i := 0) rfl) rfl) ?_
            refine q_cons (q_take rfl rfl ?_)
            refine q_val rfl rfl rfl (by intro w hw; exact x_fieldAddr 30 0 0 0 28 rfl fi_30_0 rfl w) ?_
            refine q_cons (q_take rfl rfl ?_)
            refine q_val rfl rfl rfl (by intro w hw; exact x_load (.slice pp1 bs.length cc2) ag_28 rfl (hw.blk_at (i := 3) rfl) rfl) ?_
            refine q_cons (q_take rfl rfl ?_)
            refine q_val rfl rfl rfl (by intro w hw; exact x_move (.int .i64 (j : Int)) rfl w) ?_
            refine q_cons (q_take rfl rfl ?_)
            refine q_val rfl rfl rfl (by intro w hw; exact x_sub ((j : Int) - 1) rfl rfl (wi64 (by omega)) w) ?_
            refine q_cons (q_take rfl rfl ?_)
            refine q_val rfl rfl rfl (by intro w hw; exact x_indexAddr gA19 (off := oA20) ((j : Int) - 1) 6 (oA20 + (j - 1) * 6) (by exact congrArg (fun z_ => Value.slice z_ bs.length cc2) (hp25 (by omega))) rfl el_28 (by omega) (by rw [show ((j : Int) - 1 : Int).toNat = j - 1 from by omega]) w) ?_
            refine q_cons (q_take rfl rfl ?_)
            refine q_val rfl rfl rfl (by intro w hw; exact x_fieldAddr 170 0 0 (oA20 + (j - 1) * 6) 9 rfl fi_170_0 rfl w) ?_
            refine q_cons (q_take rfl rfl ?_)
            refine q_val rfl rfl rfl (by intro w hw; exact x_load (.string ((bs.getD (j - 1) default).var.v)) ag_9 rfl (hw.imi_at (i := 1) rfl (by omega)) (elem_cell (L := bs) (i := j - 1) bndCell_len (hx26 (by omega)) (by omega) default 0 (by decide) _ rfl)) ?_
            refine q_cons (q_take rfl rfl ?_)
            refine q_val rfl rfl rfl (by intro w hw; exact x_sleq ((sLt ((bs.getD j default).var.v) ((bs.getD (j - 1) default).var.v) || decide (((bs.getD j default).var.v) = ((bs.getD (j - 1) default).var.v)))) rfl rfl rfl w) ?_
            refine q_cons (q_take rfl rfl ?_)
            refine q_val rfl rfl rfl (by intro w hw; exact x_pick_t (.bool (sLt ((bs.getD j default).var.v) ((bs.getD (j - 1) default).var.v) || decide (((bs.getD j default).var.v) = ((bs.getD (j - 1) default).var.v)))) rfl rfl w) ?_
            refine q_cons (q_val rfl rfl rfl (by intro w hw; exact x_pick_f (.bool (sLt ((bs.getD j default).var.v) ((bs.getD (j - 1) default).var.v) || decide (((bs.getD j default).var.v) = ((bs.getD (j - 1) default).var.v)))) rfl rfl w) ?_)
            refine q_cons (q_val rfl rfl rfl (by intro w hw; exact x_move (.bool (sLt ((bs.getD j default).var.v) ((bs.getD (j - 1) default).var.v) || decide (((bs.getD j default).var.v) = ((bs.getD (j - 1) default).var.v)))) rfl w) ?_)
            by_cases hb45 : ((sLt ((bs.getD j default).var.v) ((bs.getD (j - 1) default).var.v) || decide (((bs.getD j default).var.v) = ((bs.getD (j - 1) default).var.v)))) = true
            · skip
              refine q_cons (q_pass rfl (congrArg some hb45) rfl rfl rfl ?_)
              refine q_cons (q_pass rfl (congrArg some hb45) rfl rfl rfl ?_)
              refine q_cons (q_pass rfl (congrArg some hb45) rfl rfl rfl ?_)
              refine q_cons (q_pass rfl (congrArg some hb45) rfl rfl rfl ?_)
              refine q_cons (q_pass rfl (congrArg some hb45) rfl rfl rfl ?_)
              refine q_cons (q_val rfl rfl rfl (by intro w hw; exact x_pick_t (.bool true) (by exact congrArg Value.bool hb45) rfl w) ?_)
              refine q_nil ?_
              intro w46 H47
              refine g_true rfl ?_
              refine g_seq ?_
              refine g_region ?_
              refine r_cons (s_assign (.int .i64 100) rfl rfl ?_)
              refine r_nil ?_
              refine g_ret' [.int .i64 100] Try.func104 Try.results104 ⟨rfl, trivial⟩ ?_
              have H48 : St W w46 F := ((((((H47.drop 0 rfl).drop 0 rfl).drop 0 rfl).drop 0 rfl).drop 0 rfl).drop 0 rfl)
              have hA : ptAt bs j = 100 := by first | exact ptAt_2 (by omega) (by assumption) | exact ptAt_3 (of_decide_eq_true (by assumption)) | (exact ptAt_3 (of_decide_eq_true (by assumption))) | (refine ptAt_1 ?_; rintro (h | ⟨h, h2⟩) <;> simp_all)
              exact ⟨vint (ptE_at (by omega) hz (by omega) hA (by decide)).symm, H48⟩
            · have hb45 := eq_false_of_ne_true hb45
              refine q_cons (q_take rfl (congrArg some hb45) ?_)
              refine q_val rfl rfl rfl (by intro w hw; exact x_move (.map (some mp13)) rfl w) ?_
              refine q_cons (q_take rfl (congrArg some hb45) ?_)
              refine q_val rfl rfl rfl (by intro w hw; exact x_fieldAddr 170 1 1 1 168 rfl fi_170_1 rfl w) ?_
              refine q_cons (q_take rfl (congrArg some hb45) ?_)
              refine q_val rfl rfl rfl (by intro w hw; exact x_fieldAddr 168 0 0 1 165 rfl fi_168_0 rfl w) ?_
              refine q_cons (q_take rfl (congrArg some hb45) ?_)
              refine q_val rfl rfl rfl (by intro w hw; exact x_loadAgg [.int .i64 ((bs.getD j default).ev.ev.src.v), .int .i64 ((bs.getD j default).ev.ev.seq.v)] 2 ag_165 rfl (hw.blk_at (i := 0) rfl) (Nat.le_of_ble_eq_true rfl) rfl) ?_
              refine q_cons (q_take rfl (congrArg some hb45) ?_)
              refine q_val rfl rfl rfl (by intro w hw; exact x_lookup (ek := kID) (ev := vB) (L := setOf ((bs.take j).map idOf)) (idOf (bs.getD j default)) (.bool (decide ((idOf (bs.getD j default)) ∈ ((bs.take j).map idOf)))) (MapA.at hw (i := 2) rfl) kl_165 un_199 zv_4 rfl rfl (setOf_look _ _)) ?_
              refine q_cons (q_val rfl rfl rfl (by intro w hw; exact x_pick_f (.bool (decide ((idOf (bs.getD j default)) ∈ ((bs.take j).map idOf)))) (by exact congrArg Value.bool hb45) rfl w) ?_)
              refine q_nil ?_
              intro w49 H50
              by_cases hb51 : (decide ((idOf (bs.getD j default)) ∈ ((bs.take j).map idOf))) = true
              · skip
                refine g_true (congrArg Value.bool hb51) ?_
                refine g_seq ?_
                refine g_region ?_
                refine r_cons (s_assign (.int .i64 100) rfl rfl ?_)
                refine r_nil ?_
                refine g_ret' [.int .i64 100] Try.func104 Try.results104 ⟨rfl, trivial⟩ ?_
                have H52 : St W w49 F := ((((((H50.drop 0 rfl).drop 0 rfl).drop 0 rfl).drop 0 rfl).drop 0 rfl).drop 0 rfl)
                have hA : ptAt bs j = 100 := by first | exact ptAt_2 (by omega) (by assumption) | exact ptAt_3 (of_decide_eq_true (by assumption)) | (exact ptAt_3 (of_decide_eq_true (by assumption))) | (refine ptAt_1 ?_; rintro (h | ⟨h, h2⟩) <;> simp_all)
                exact ⟨vint (ptE_at (by omega) hz (by omega) hA (by decide)).symm, H52⟩
              · have hb51 := eq_false_of_ne_true hb51
                refine g_false (congrArg Value.bool hb51) ?_
                refine g_skip ?_
                refine g_seq ?_
                refine g_region ?_
                refine r_cons (s_move (.map (some mp13)) rfl rfl ?_)
                refine r_cons (s_fieldAddr 170 1 1 1 168 rfl fi_170_1 rfl rfl ?_)
                refine r_cons (s_fieldAddr 168 0 0 1 165 rfl fi_168_0 rfl rfl ?_)
                refine r_cons (s_loadAgg [.int .i64 ((bs.getD j default).ev.ev.src.v), .int .i64 ((bs.getD j default).ev.ev.seq.v)] 2 ag_165 rfl (H50.blk_at (i := 0) rfl) (Nat.le_of_ble_eq_true rfl) rfl rfl ?_)
                refine r_cons (s_mapUpdate (ek := kID) (ev := vB) (L := setOf ((bs.take j).map idOf)) (idOf (bs.getD j default)) true H50 (i := 2) rfl kl_165 un_199 rfl rfl rfl ?_); intro w53 H54
                have H55 : St W w53 (blk bk36 (.cells #[.string ((bs.getD j default).var.v), .int .i64 ((bs.getD j default).ev.ev.src.v), .int .i64 ((bs.getD j default).ev.ev.seq.v), .int .i64 ((bs.getD j default).ev.ev.time.v), .string ((bs.getD j default).ev.ev.typ.v), .slice ((bs.getD j default).ev.p) ((bs.getD j default).ev.ev.attrs.length) ((bs.getD j default).ev.c)] 170 (0, 0)) :: imi (0 < bs.length) gA19 (.cells kA21 eA22 zA23) :: MapA mp13 (ents kID vB (setOf (addS ((bs.take j).map idOf) (idOf (bs.getD j default))))) :: blk bk8 (.cells #[.slice pp1 bs.length cc2] 30 (0, 0)) :: bndsA bs :: Im 6 (.slice pp1 bs.length cc2) bs.length (bs.flatMap bndCell) :: F) := by have h9 := H54; rw [setOf_set] at h9; exact h9
                refine r_nil ?_
                refine g_seq ?_
                refine g_region ?_
                have hns : ¬ idOf (bs.getD j default) ∈ (bs.take j).map idOf := of_decide_eq_false hb51
                have H56 : St W w53 (blk bk36 (.cells #[.string ((bs.getD j default).var.v), .int .i64 ((bs.getD j default).ev.ev.src.v), .int .i64 ((bs.getD j default).ev.ev.seq.v), .int .i64 ((bs.getD j default).ev.ev.time.v), .string ((bs.getD j default).ev.ev.typ.v), .slice ((bs.getD j default).ev.p) ((bs.getD j default).ev.ev.attrs.length) ((bs.getD j default).ev.c)] 170 (0, 0)) :: imi (0 < bs.length) gA19 (.cells kA21 eA22 zA23) :: MapA mp13 (ents kID vB (setOf ((bs.take (j + 1)).map idOf))) :: blk bk8 (.cells #[.slice pp1 bs.length cc2] 30 (0, 0)) :: bndsA bs :: Im 6 (.slice pp1 bs.length cc2) bs.length (bs.flatMap bndCell) :: F) := by have hx := H55; rw [ids_step (by omega) hns] at hx; exact hx
                have H57 := bndsA_at j H56 (i := 4) rfl
                have hat4 := ptAt_4 (L := bs) (i := j) (by first | exact .inl (by assumption) | exact .inl (notfalse (by assumption)) | exact .inr ⟨by assumption, by omega⟩) (by first | exact .inl (by omega) | exact .inr (by assumption) | exact .inr (by simpa [leS] using ‹_›)) hns
                refine r_cons (s_fieldAddr 170 1 1 1 168 rfl fi_170_1 rfl rfl ?_)
                refine r_cons (s_loadAgg [.int .i64 ((bs.getD j default).ev.ev.src.v), .int .i64 ((bs.getD j default).ev.ev.seq.v), .int .i64 ((bs.getD j default).ev.ev.time.v), .string ((bs.getD j default).ev.ev.typ.v), .slice ((bs.getD j default).ev.p) ((bs.getD j default).ev.ev.attrs.length) ((bs.getD j default).ev.c)] 5 ag_168 rfl (H57.blk_at (i := 1) rfl) (Nat.le_of_ble_eq_true rfl) rfl rfl ?_)
                refine r_cons (s_call [.agg #[.int .i64 ((bs.getD j default).ev.ev.src.v), .int .i64 ((bs.getD j default).ev.ev.seq.v), .int .i64 ((bs.getD j default).ev.ev.time.v), .string ((bs.getD j default).ev.ev.typ.v), .slice ((bs.getD j default).ev.p) ((bs.getD j default).ev.ev.attrs.length) ((bs.getD j default).ev.c)]] pl_134 rfl rfl (event_Check ((bs.getD j default).ev.ev) (.slice ((bs.getD j default).ev.p) ((bs.getD j default).ev.ev.attrs.length) ((bs.getD j default).ev.c)) (j := 0) rfl H57) ?_)
                rintro _ w58 ⟨rfl, H59⟩
                refine r_cons (s_assign (.int .i64 (evE ((bs.getD j default).ev.ev))) rfl rfl ?_)
                refine r_nil ?_
                refine g_seq ?_
                refine g_region ?_
                refine r_cons (s_move (.int .i64 (evE ((bs.getD j default).ev.ev))) rfl rfl ?_)
                by_cases hc60 : evE ((bs.getD j default).ev.ev) = 0
                · skip
                  refine r_cons (s_neq false rfl rfl (ntrue hc60) rfl ?_)
                  refine r_nil ?_
                  refine g_false rfl ?_
                  refine g_skip ?_
                  refine g_inBlock ?_
                  refine g_region ?_
                  refine r_cons (s_add ((j : Int) + 1) rfl rfl (wi64 (by omega)) rfl ?_)
                  refine r_cons (s_move (.int .i64 ((j : Int) + 1)) rfl rfl ?_)
                  refine r_nil ?_
                  have H61 : St W w58 (imi (0 < bs.length) gA19 (.cells kA21 eA22 zA23) :: MapA mp13 (ents kID vB (setOf ((bs.take (j + 1)).map idOf))) :: blk bk8 (.cells #[.slice pp1 bs.length cc2] 30 (0, 0)) :: bndsA bs :: Im 6 (.slice pp1 bs.length cc2) bs.length (bs.flatMap bndCell) :: F) := (((((((H59.move 6 rfl).move 6 rfl).move 6 rfl).move 6 rfl).move 6 rfl).drop 5 rfl).drop 5 rfl)
                  exact nx34 (j + 1) _ _ ⟨(by omega), (fun q hq => (Nat.lt_or_ge q j).elim (hz q) (fun h => by rw [show q = j from by omega, hat4]; assumption)), H61⟩ (by first | (dsimp only; omega) | omega) ⟨by first | rfl | exact vint (by omega), by first | rfl | exact vint (by omega), by first | rfl | exact vint (by omega), by first | rfl | exact vint (by omega), by first | rfl | exact vint (by omega), by first | rfl | exact vint (by omega), by first | rfl | exact vint (by omega), trivial⟩
                · skip
                  refine r_cons (s_neq true rfl rfl (nfalse hc60) rfl ?_)
                  refine r_nil ?_
                  refine g_true rfl ?_
                  refine g_seq ?_
                  refine g_region ?_
                  refine r_cons (s_move (.int .i64 (evE ((bs.getD j default).ev.ev))) rfl rfl ?_)
                  refine r_cons (s_assign (.int .i64 (evE ((bs.getD j default).ev.ev))) rfl rfl ?_)
                  refine r_nil ?_
                  refine g_ret' [.int .i64 (evE ((bs.getD j default).ev.ev))] Try.func104 Try.results104 ⟨rfl, trivial⟩ ?_
                  have H62 : St W w58 F := (((((((H59.drop 0 rfl).drop 0 rfl).drop 0 rfl).drop 0 rfl).drop 0 rfl).drop 0 rfl).drop 0 rfl)
                  exact ⟨vint (ptE_at (by omega) hz (by omega) (hat4) (by assumption)).symm, H62⟩
          · skip
            refine q_val rfl rfl rfl (by intro w hw; exact x_gtr false rfl rfl (dfalse hc44) w) ?_
            refine q_cons (q_take rfl rfl ?_)
            refine q_val rfl rfl rfl (by intro w hw; exact x_move (.bool false) rfl w) ?_
            refine q_cons (q_pass rfl rfl rfl rfl rfl ?_)
            refine q_cons (q_pass rfl rfl rfl rfl rfl ?_)
            refine q_cons (q_pass rfl rfl rfl rfl rfl ?_)
            refine q_cons (q_pass rfl rfl rfl rfl rfl ?_)
            refine q_cons (q_pass rfl rfl rfl rfl rfl ?_)
            refine q_cons (q_pass rfl rfl rfl rfl rfl ?_)
            refine q_cons (q_pass rfl rfl rfl rfl rfl ?_)
            refine q_cons (q_pass rfl rfl rfl rfl rfl ?_)
            refine q_cons (q_pass rfl rfl rfl rfl rfl ?_)
            refine q_cons (q_pass rfl rfl rfl rfl rfl ?_)
            refine q_cons (q_take rfl rfl ?_)
            refine q_val rfl rfl rfl (by intro w hw; exact x_pick_f (.bool false) rfl rfl w) ?_
            refine q_cons (q_val rfl rfl rfl (by intro w hw; exact x_pick_f (.bool false) rfl rfl w) ?_)
            refine q_cons (q_val rfl rfl rfl (by intro w hw; exact x_move (.bool false) rfl w) ?_)
            refine q_cons (q_take rfl rfl ?_)
            refine q_val rfl rfl rfl (by intro w hw; exact x_move (.map (some mp13)) rfl w) ?_
            refine q_cons (q_take rfl rfl ?_)
            refine q_val rfl rfl rfl (by intro w hw; exact x_fieldAddr 170 1 1 1 168 rfl fi_170_1 rfl w) ?_
            refine q_cons (q_take rfl rfl ?_)
            refine q_val rfl rfl rfl (by intro w hw; exact x_fieldAddr 168 0 0 1 165 rfl fi_168_0 rfl w) ?_
            refine q_cons (q_take rfl rfl ?_)
            refine q_val rfl rfl rfl (by intro w hw; exact x_loadAgg [.int .i64 ((bs.getD j default).ev.ev.src.v), .int .i64 ((bs.getD j default).ev.ev.seq.v)] 2 ag_165 rfl (hw.blk_at (i := 0) rfl) (Nat.le_of_ble_eq_true rfl) rfl) ?_
            refine q_cons (q_take rfl rfl ?_)
            refine q_val rfl rfl rfl (by intro w hw; exact x_lookup (ek := kID) (ev := vB) (L := setOf ((bs.take j).map idOf)) (idOf (bs.getD j default)) (.bool (decide ((idOf (bs.getD j default)) ∈ ((bs.take j).map idOf)))) (MapA.at hw (i := 2) rfl) kl_165 un_199 zv_4 rfl rfl (setOf_look _ _)) ?_
            refine q_cons (q_val rfl rfl rfl (by intro w hw; exact x_pick_f (.bool (decide ((idOf (bs.getD j default)) ∈ ((bs.take j).map idOf)))) rfl rfl w) ?_)
            refine q_nil ?_
            intro w63 H64
            by_cases hb65 : (decide ((idOf (bs.getD j default)) ∈ ((bs.take j).map idOf))) = true
            · skip
              refine g_true (congrArg Value.bool hb65) ?_
              refine g_seq ?_
              refine g_region ?_
              refine r_cons (s_assign (.int .i64 100) rfl rfl ?_)
              refine r_nil ?_
              refine g_ret' [.int .i64 100] Try.func104 Try.results104 ⟨rfl, trivial⟩ ?_
              have H66 : St W w63 F := ((((((H64.drop 0 rfl).drop 0 rfl).drop 0 rfl).drop 0 rfl).drop 0 rfl).drop 0 rfl)
              have hA : ptAt bs j = 100 := by first | exact ptAt_2 (by omega) (by assumption) | exact ptAt_3 (of_decide_eq_true (by assumption)) | (exact ptAt_3 (of_decide_eq_true (by assumption))) | (refine ptAt_1 ?_; rintro (h | ⟨h, h2⟩) <;> simp_all)
              exact ⟨vint (ptE_at (by omega) hz (by omega) hA (by decide)).symm, H66⟩
            · have hb65 := eq_false_of_ne_true hb65
              refine g_false (congrArg Value.bool hb65) ?_
              refine g_skip ?_
              refine g_seq ?_
              refine g_region ?_
              refine r_cons (s_move (.map (some mp13)) rfl rfl ?_)
              refine r_cons (s_fieldAddr 170 1 1 1 168 rfl fi_170_1 rfl rfl ?_)
              refine r_cons (s_fieldAddr 168 0 0 1 165 rfl fi_168_0 rfl rfl ?_)
              refine r_cons (s_loadAgg [.int .i64 ((bs.getD j default).ev.ev.src.v), .int .i64 ((bs.getD j default).ev.ev.seq.v)] 2 ag_165 rfl (H64.blk_at (i := 0) rfl) (Nat.le_of_ble_eq_true rfl) rfl rfl ?_)
              refine r_cons (s_mapUpdate (ek := kID) (ev := vB) (L := setOf ((bs.take j).map idOf)) (idOf (bs.getD j default)) true H64 (i := 2) rfl kl_165 un_199 rfl rfl rfl ?_); intro w67 H68
              have H69 : St W w67 (blk bk36 (.cells #[.string ((bs.getD j default).var.v), .int .i64 ((bs.getD j default).ev.ev.src.v), .int .i64 ((bs.getD j default).ev.ev.seq.v), .int .i64 ((bs.getD j default).ev.ev.time.v), .string ((bs.getD j default).ev.ev.typ.v), .slice ((bs.getD j default).ev.p) ((bs.getD j default).ev.ev.attrs.length) ((bs.getD j default).ev.c)] 170 (0, 0)) :: imi (0 < bs.length) gA19 (.cells kA21 eA22 zA23) :: MapA mp13 (ents kID vB (setOf (addS ((bs.take j).map idOf) (idOf (bs.getD j default))))) :: blk bk8 (.cells #[.slice pp1 bs.length cc2] 30 (0, 0)) :: bndsA bs :: Im 6 (.slice pp1 bs.length cc2) bs.length (bs.flatMap bndCell) :: F) := by have h9 := H68; rw [setOf_set] at h9; exact h9
              refine r_nil ?_
              refine g_seq ?_
              refine g_region ?_
              have hns : ¬ idOf (bs.getD j default) ∈ (bs.take j).map idOf := of_decide_eq_false hb65
              have H70 : St W w67 (blk bk36 (.cells #[.string ((bs.getD j default).var.v), .int .i64 ((bs.getD j default).ev.ev.src.v), .int .i64 ((bs.getD j default).ev.ev.seq.v), .int .i64 ((bs.getD j default).ev.ev.time.v), .string ((bs.getD j default).ev.ev.typ.v), .slice ((bs.getD j default).ev.p) ((bs.getD j default).ev.ev.attrs.length) ((bs.getD j default).ev.c)] 170 (0, 0)) :: imi (0 < bs.length) gA19 (.cells kA21 eA22 zA23) :: MapA mp13 (ents kID vB (setOf ((bs.take (j + 1)).map idOf))) :: blk bk8 (.cells #[.slice pp1 bs.length cc2] 30 (0, 0)) :: bndsA bs :: Im 6 (.slice pp1 bs.length cc2) bs.length (bs.flatMap bndCell) :: F) := by have hx := H69; rw [ids_step (by omega) hns] at hx; exact hx
              have H71 := bndsA_at j H70 (i := 4) rfl
              have hat4 := ptAt_4 (L := bs) (i := j) (by first | exact .inl (by assumption) | exact .inl (notfalse (by assumption)) | exact .inr ⟨by assumption, by omega⟩) (by first | exact .inl (by omega) | exact .inr (by assumption) | exact .inr (by simpa [leS] using ‹_›)) hns
              refine r_cons (s_fieldAddr 170 1 1 1 168 rfl fi_170_1 rfl rfl ?_)
              refine r_cons (s_loadAgg [.int .i64 ((bs.getD j default).ev.ev.src.v), .int .i64 ((bs.getD j default).ev.ev.seq.v), .int .i64 ((bs.getD j default).ev.ev.time.v), .string ((bs.getD j default).ev.ev.typ.v), .slice ((bs.getD j default).ev.p) ((bs.getD j default).ev.ev.attrs.length) ((bs.getD j default).ev.c)] 5 ag_168 rfl (H71.blk_at (i := 1) rfl) (Nat.le_of_ble_eq_true rfl) rfl rfl ?_)
              refine r_cons (s_call [.agg #[.int .i64 ((bs.getD j default).ev.ev.src.v), .int .i64 ((bs.getD j default).ev.ev.seq.v), .int .i64 ((bs.getD j default).ev.ev.time.v), .string ((bs.getD j default).ev.ev.typ.v), .slice ((bs.getD j default).ev.p) ((bs.getD j default).ev.ev.attrs.length) ((bs.getD j default).ev.c)]] pl_134 rfl rfl (event_Check ((bs.getD j default).ev.ev) (.slice ((bs.getD j default).ev.p) ((bs.getD j default).ev.ev.attrs.length) ((bs.getD j default).ev.c)) (j := 0) rfl H71) ?_)
              rintro _ w72 ⟨rfl, H73⟩
              refine r_cons (s_assign (.int .i64 (evE ((bs.getD j default).ev.ev))) rfl rfl ?_)
              refine r_nil ?_
              refine g_seq ?_
              refine g_region ?_
              refine r_cons (s_move (.int .i64 (evE ((bs.getD j default).ev.ev))) rfl rfl ?_)
              by_cases hc74 : evE ((bs.getD j default).ev.ev) = 0
              · skip
                refine r_cons (s_neq false rfl rfl (ntrue hc74) rfl ?_)
                refine r_nil ?_
                refine g_false rfl ?_
                refine g_skip ?_
                refine g_inBlock ?_
                refine g_region ?_
                refine r_cons (s_add ((j : Int) + 1) rfl rfl (wi64 (by omega)) rfl ?_)
                refine r_cons (s_move (.int .i64 ((j : Int) + 1)) rfl rfl ?_)
                refine r_nil ?_
                have H75 : St W w72 (imi (0 < bs.length) gA19 (.cells kA21 eA22 zA23) :: MapA mp13 (ents kID vB (setOf ((bs.take (j + 1)).map idOf))) :: blk bk8 (.cells #[.slice pp1 bs.length cc2] 30 (0, 0)) :: bndsA bs :: Im 6 (.slice pp1 bs.length cc2) bs.length (bs.flatMap bndCell) :: F) := (((((((H73.move 6 rfl).move 6 rfl).move 6 rfl).move 6 rfl).move 6 rfl).drop 5 rfl).drop 5 rfl)
                exact nx34 (j + 1) _ _ ⟨(by omega), (fun q hq => (Nat.lt_or_ge q j).elim (hz q) (fun h => by rw [show q = j from by omega, hat4]; assumption)), H75⟩ (by first | (dsimp only; omega) | omega) ⟨by first | rfl | exact vint (by omega), by first | rfl | exact vint (by omega), by first | rfl | exact vint (by omega), by first | rfl | exact vint (by omega), by first | rfl | exact vint (by omega), by first | rfl | exact vint (by omega), by first | rfl | exact vint (by omega), trivial⟩
              · skip
                refine r_cons (s_neq true rfl rfl (nfalse hc74) rfl ?_)
                refine r_nil ?_
                refine g_true rfl ?_
                refine g_seq ?_
                refine g_region ?_
                refine r_cons (s_move (.int .i64 (evE ((bs.getD j default).ev.ev))) rfl rfl ?_)
                refine r_cons (s_assign (.int .i64 (evE ((bs.getD j default).ev.ev))) rfl rfl ?_)
                refine r_nil ?_
                refine g_ret' [.int .i64 (evE ((bs.getD j default).ev.ev))] Try.func104 Try.results104 ⟨rfl, trivial⟩ ?_
                have H76 : St W w72 F := (((((((H73.drop 0 rfl).drop 0 rfl).drop 0 rfl).drop 0 rfl).drop 0 rfl).drop 0 rfl).drop 0 rfl)
                exact ⟨vint (ptE_at (by omega) hz (by omega) (hat4) (by assumption)).symm, H76⟩
        · have hb43 := eq_false_of_ne_true hb43
          refine r_cons (r_take rfl (congrArg some hb43) ?_)
          refine s_fieldAddr 170 0 0 0 9 rfl fi_170_0 rfl rfl ?_
          refine r_cons (r_take rfl (congrArg some hb43) ?_)
          refine s_load (.string ((bs.getD j default).var.v)) ag_9 rfl (H42.blk_at (i := 0) rfl) rfl rfl ?_
          refine r_cons (r_take rfl (congrArg some hb43) ?_)
          by_cases hc77 : (bs.getD j default).var.v = ByteArray.empty
          · skip
            refine s_seql true rfl rfl (dtrue hc77) rfl ?_
            refine r_cons (r_take rfl (congrArg some hb43) ?_)
            refine s_move (.bool true) rfl rfl ?_
            refine r_cons (r_take rfl rfl ?_)
            refine s_move (.int .i64 (bs.length : Int)) rfl rfl ?_
            refine r_cons (r_take rfl rfl ?_)
            by_cases hc78 : (bs.length : Int) = 1
            · skip
              refine s_eql true rfl rfl (dtrue hc78) rfl ?_
              refine r_cons (r_take rfl (congrArg some hb43) ?_)
              refine s_pick_t (.bool true) rfl rfl rfl ?_
              refine r_cons (s_pick_f (.bool true) (by exact congrArg Value.bool hb43) rfl rfl ?_)
              refine r_cons (s_assign (.bool true) rfl rfl ?_)
              refine r_nil ?_
              refine g_seq ?_
              refine g_seq ?_
              refine g_quiet (fun w' => St W w' (blk bk36 (.cells #[.string ((bs.getD j default).var.v), .int .i64 ((bs.getD j default).ev.ev.src.v), .int .i64 ((bs.getD j default).ev.ev.seq.v), .int .i64 ((bs.getD j default).ev.ev.time.v), .string ((bs.getD j default).ev.ev.typ.v), .slice ((bs.getD j default).ev.p) ((bs.getD j default).ev.ev.attrs.length) ((bs.getD j default).ev.c)] 170 (0, 0)) :: imi (0 < bs.length) gA19 (.cells kA21 eA22 zA23) :: MapA mp13 (ents kID vB (setOf ((bs.take j).map idOf))) :: blk bk8 (.cells #[.slice pp1 bs.length cc2] 30 (0, 0)) :: bndsA bs :: Im 6 (.slice pp1 bs.length cc2) bs.length (bs.flatMap bndCell) :: F)) mixed (by kernel_rfl) H42.drew ?_
              refine q_cons (q_val rfl rfl rfl (by intro w hw; exact x_move (.bool true) rfl w) ?_)
              refine q_cons (q_val rfl rfl rfl (by intro w hw; exact x_not true rfl false rfl w) ?_)
              refine q_cons (q_val rfl rfl rfl (by intro w hw; exact x_move (.bool false) rfl w) ?_)
              refine q_cons (q_take rfl rfl ?_)
              refine q_val rfl rfl rfl (by intro w hw; exact x_move (.int .i64 (j : Int)) rfl w) ?_
              refine q_cons (q_take rfl rfl ?_)
              by_cases hc79 : (0 : Int) < (j : Int)
              · skip
                refine q_val rfl rfl rfl (by intro w hw; exact x_gtr true rfl rfl (dtrue hc79) w) ?_
                refine q_cons (q_take rfl rfl ?_)
                refine q_val rfl rfl rfl (by intro w hw; exact x_move (.bool true) rfl w) ?_
                refine q_cons (q_take rfl rfl ?_)
                refine q_val rfl rfl rfl (by intro w hw; exact x_fieldAddr 170 0 0 0 9 rfl fi_170_0 rfl w) ?_
                refine q_cons (q_take rfl rfl ?_)
                refine q_val rfl rfl rfl (by intro w hw; exact x_load (.string ((bs.getD j default).var.v)) ag_9 rfl (hw.blk_at (i := 0) rfl) rfl) ?_
                refine q_cons (q_take rfl rfl ?_)
                refine q_val rfl rfl rfl (by intro w hw; exact x_fieldAddr 30 0 0 0 28 rfl fi_30_0 rfl w) ?_
                refine q_cons (q_take rfl rfl ?_)
                refine q_val rfl rfl rfl (by intro w hw; exact x_load (.slice pp1 bs.length cc2) ag_28 rfl (hw.blk_at (i := 3) rfl) rfl) ?_
                refine q_cons (q_take rfl rfl ?_)
                refine q_val rfl rfl rfl (by intro w hw; exact x_move (.int .i64 (j : Int)) rfl w) ?_
                refine q_cons (q_take rfl rfl ?_)
                refine q_val rfl rfl rfl (by intro w hw; exact x_sub ((j : Int) - 1) rfl rfl (wi64 (by omega)) w) ?_
                refine q_cons (q_take rfl rfl ?_)
                refine q_val rfl rfl rfl (by intro w hw; exact x_indexAddr gA19 (off := oA20) ((j : Int) - 1) 6 (oA20 + (j - 1) * 6) (by exact congrArg (fun z_ => Value.slice z_ bs.length cc2) (hp25 (by omega))) rfl el_28 (by omega) (by rw [show ((j : Int) - 1 : Int).toNat = j - 1 from by omega]) w) ?_
                refine q_cons (q_take rfl rfl ?_)
                refine q_val rfl rfl rfl (by intro w hw; exact x_fieldAddr 170 0 0 (oA20 + (j - 1) * 6) 9 rfl fi_170_0 rfl w) ?_
                refine q_cons (q_take rfl rfl ?_)
                refine q_val rfl rfl rfl (by intro w hw; exact x_load (.string ((bs.getD (j - 1) default).var.v)) ag_9 rfl (hw.imi_at (i := 1) rfl (by omega)) (elem_cell (L := bs) (i := j - 1) bndCell_len (hx26 (by omega)) (by omega) default 0 (by decide) _ rfl)) ?_
                refine q_cons (q_take rfl rfl ?_)
                refine q_val rfl rfl rfl (by intro w hw; exact x_sleq ((sLt ((bs.getD j default).var.v) ((bs.getD (j - 1) default).var.v) || decide (((bs.getD j default).var.v) = ((bs.getD (j - 1) default).var.v)))) rfl rfl rfl w) ?_
                refine q_cons (q_take rfl rfl ?_)
                refine q_val rfl rfl rfl (by intro w hw; exact x_pick_t (.bool (sLt ((bs.getD j default).var.v) ((bs.getD (j - 1) default).var.v) || decide (((bs.getD j default).var.v) = ((bs.getD (j - 1) default).var.v)))) rfl rfl w) ?_
                refine q_cons (q_val rfl rfl rfl (by intro w hw; exact x_pick_f (.bool (sLt ((bs.getD j default).var.v) ((bs.getD (j - 1) default).var.v) || decide (((bs.getD j default).var.v) = ((bs.getD (j - 1) default).var.v)))) rfl rfl w) ?_)
                refine q_cons (q_val rfl rfl rfl (by intro w hw; exact x_move (.bool (sLt ((bs.getD j default).var.v) ((bs.getD (j - 1) default).var.v) || decide (((bs.getD j default).var.v) = ((bs.getD (j - 1) default).var.v)))) rfl w) ?_)
                by_cases hb80 : ((sLt ((bs.getD j default).var.v) ((bs.getD (j - 1) default).var.v) || decide (((bs.getD j default).var.v) = ((bs.getD (j - 1) default).var.v)))) = true
                · skip
                  refine q_cons (q_pass rfl (congrArg some hb80) rfl rfl rfl ?_)
                  refine q_cons (q_pass rfl (congrArg some hb80) rfl rfl rfl ?_)
                  refine q_cons (q_pass rfl (congrArg some hb80) rfl rfl rfl ?_)
                  refine q_cons (q_pass rfl (congrArg some hb80) rfl rfl rfl ?_)
                  refine q_cons (q_pass rfl (congrArg some hb80) rfl rfl rfl ?_)
                  refine q_cons (q_val rfl rfl rfl (by intro w hw; exact x_pick_t (.bool true) (by exact congrArg Value.bool hb80) rfl w) ?_)
                  refine q_nil ?_
                  intro w81 H82
                  refine g_true rfl ?_
                  refine g_seq ?_
                  refine g_region ?_
                  refine r_cons (s_assign (.int .i64 100) rfl rfl ?_)
                  refine r_nil ?_
                  refine g_ret' [.int .i64 100] Try.func104 Try.results104 ⟨rfl, trivial⟩ ?_
                  have H83 : St W w81 F := ((((((H82.drop 0 rfl).drop 0 rfl).drop 0 rfl).drop 0 rfl).drop 0 rfl).drop 0 rfl)
                  have hA : ptAt bs j = 100 := by first | exact ptAt_2 (by omega) (by assumption) | exact ptAt_3 (of_decide_eq_true (by assumption)) | (exact ptAt_3 (of_decide_eq_true (by assumption))) | (refine ptAt_1 ?_; rintro (h | ⟨h, h2⟩) <;> simp_all)
                  exact ⟨vint (ptE_at (by omega) hz (by omega) hA (by decide)).symm, H83⟩
                · have hb80 := eq_false_of_ne_true hb80
                  refine q_cons (q_take rfl (congrArg some hb80) ?_)
                  refine q_val rfl rfl rfl (by intro w hw; exact x_move (.map (some mp13)) rfl w) ?_
                  refine q_cons (q_take rfl (congrArg some hb80) ?_)
                  refine q_val rfl rfl rfl (by intro w hw; exact x_fieldAddr 170 1 1 1 168 rfl fi_170_1 rfl w) ?_
                  refine q_cons (q_take rfl (congrArg some hb80) ?_)
                  refine q_val rfl rfl rfl (by intro w hw; exact x_fieldAddr 168 0 0 1 165 rfl fi_168_0 rfl w) ?_
                  refine q_cons (q_take rfl (congrArg some hb80) ?_)
                  refine q_val rfl rfl rfl (by intro w hw; exact x_loadAgg [.int .i64 ((bs.getD j default).ev.ev.src.v), .int .i64 ((bs.getD j default).ev.ev.seq.v)] 2 ag_165 rfl (hw.blk_at (i := 0) rfl) (Nat.le_of_ble_eq_true rfl) rfl) ?_
                  refine q_cons (q_take rfl (congrArg some hb80) ?_)
                  refine q_val rfl rfl rfl (by intro w hw; exact x_lookup (ek := kID) (ev := vB) (L := setOf ((bs.take j).map idOf)) (idOf (bs.getD j default)) (.bool (decide ((idOf (bs.getD j default)) ∈ ((bs.take j).map idOf)))) (MapA.at hw (i := 2) rfl) kl_165 un_199 zv_4 rfl rfl (setOf_look _ _)) ?_
                  refine q_cons (q_val rfl rfl rfl (by intro w hw; exact x_pick_f (.bool (decide ((idOf (bs.getD j default)) ∈ ((bs.take j).map idOf)))) (by exact congrArg Value.bool hb80) rfl w) ?_)
                  refine q_nil ?_
                  intro w84 H85
                  by_cases hb86 : (decide ((idOf (bs.getD j default)) ∈ ((bs.take j).map idOf))) = true
                  · skip
                    refine g_true (congrArg Value.bool hb86) ?_
                    refine g_seq ?_
                    refine g_region ?_
                    refine r_cons (s_assign (.int .i64 100) rfl rfl ?_)
                    refine r_nil ?_
                    refine g_ret' [.int .i64 100] Try.func104 Try.results104 ⟨rfl, trivial⟩ ?_
                    have H87 : St W w84 F := ((((((H85.drop 0 rfl).drop 0 rfl).drop 0 rfl).drop 0 rfl).drop 0 rfl).drop 0 rfl)
                    have hA : ptAt bs j = 100 := by first | exact ptAt_2 (by omega) (by assumption) | exact ptAt_3 (of_decide_eq_true (by assumption)) | (exact ptAt_3 (of_decide_eq_true (by assumption))) | (refine ptAt_1 ?_; rintro (h | ⟨h, h2⟩) <;> simp_all)
                    exact ⟨vint (ptE_at (by omega) hz (by omega) hA (by decide)).symm, H87⟩
                  · have hb86 := eq_false_of_ne_true hb86
                    refine g_false (congrArg Value.bool hb86) ?_
                    refine g_skip ?_
                    refine g_seq ?_
                    refine g_region ?_
                    refine r_cons (s_move (.map (some mp13)) rfl rfl ?_)
                    refine r_cons (s_fieldAddr 170 1 1 1 168 rfl fi_170_1 rfl rfl ?_)
                    refine r_cons (s_fieldAddr 168 0 0 1 165 rfl fi_168_0 rfl rfl ?_)
                    refine r_cons (s_loadAgg [.int .i64 ((bs.getD j default).ev.ev.src.v), .int .i64 ((bs.getD j default).ev.ev.seq.v)] 2 ag_165 rfl (H85.blk_at (i := 0) rfl) (Nat.le_of_ble_eq_true rfl) rfl rfl ?_)
                    refine r_cons (s_mapUpdate (ek := kID) (ev := vB) (L := setOf ((bs.take j).map idOf)) (idOf (bs.getD j default)) true H85 (i := 2) rfl kl_165 un_199 rfl rfl rfl ?_); intro w88 H89
                    have H90 : St W w88 (blk bk36 (.cells #[.string ((bs.getD j default).var.v), .int .i64 ((bs.getD j default).ev.ev.src.v), .int .i64 ((bs.getD j default).ev.ev.seq.v), .int .i64 ((bs.getD j default).ev.ev.time.v), .string ((bs.getD j default).ev.ev.typ.v), .slice ((bs.getD j default).ev.p) ((bs.getD j default).ev.ev.attrs.length) ((bs.getD j default).ev.c)] 170 (0, 0)) :: imi (0 < bs.length) gA19 (.cells kA21 eA22 zA23) :: MapA mp13 (ents kID vB (setOf (addS ((bs.take j).map idOf) (idOf (bs.getD j default))))) :: blk bk8 (.cells #[.slice pp1 bs.length cc2] 30 (0, 0)) :: bndsA bs :: Im 6 (.slice pp1 bs.length cc2) bs.length (bs.flatMap bndCell) :: F) := by have h9 := H89; rw [setOf_set] at h9; exact h9
                    refine r_nil ?_
                    refine g_seq ?_
                    refine g_region ?_
                    have hns : ¬ idOf (bs.getD j default) ∈ (bs.take j).map idOf := of_decide_eq_false hb86
                    have H91 : St W w88 (blk bk36 (.cells #[.string ((bs.getD j default).var.v), .int .i64 ((bs.getD j default).ev.ev.src.v), .int .i64 ((bs.getD j default).ev.ev.seq.v), .int .i64 ((bs.getD j default).ev.ev.time.v), .string ((bs.getD j default).ev.ev.typ.v), .slice ((bs.getD j default).ev.p) ((bs.getD j default).ev.ev.attrs.length) ((bs.getD j default).ev.c)] 170 (0, 0)) :: imi (0 < bs.length) gA19 (.cells kA21 eA22 zA23) :: MapA mp13 (ents kID vB (setOf ((bs.take (j + 1)).map idOf))) :: blk bk8 (.cells #[.slice pp1 bs.length cc2] 30 (0, 0)) :: bndsA bs :: Im 6 (.slice pp1 bs.length cc2) bs.length (bs.flatMap bndCell) :: F) := by have hx := H90; rw [ids_step (by omega) hns] at hx; exact hx
                    have H92 := bndsA_at j H91 (i := 4) rfl
                    have hat4 := ptAt_4 (L := bs) (i := j) (by first | exact .inl (by assumption) | exact .inl (notfalse (by assumption)) | exact .inr ⟨by assumption, by omega⟩) (by first | exact .inl (by omega) | exact .inr (by assumption) | exact .inr (by simpa [leS] using ‹_›)) hns
                    refine r_cons (s_fieldAddr 170 1 1 1 168 rfl fi_170_1 rfl rfl ?_)
                    refine r_cons (s_loadAgg [.int .i64 ((bs.getD j default).ev.ev.src.v), .int .i64 ((bs.getD j default).ev.ev.seq.v), .int .i64 ((bs.getD j default).ev.ev.time.v), .string ((bs.getD j default).ev.ev.typ.v), .slice ((bs.getD j default).ev.p) ((bs.getD j default).ev.ev.attrs.length) ((bs.getD j default).ev.c)] 5 ag_168 rfl (H92.blk_at (i := 1) rfl) (Nat.le_of_ble_eq_true rfl) rfl rfl ?_)
                    refine r_cons (s_call [.agg #[.int .i64 ((bs.getD j default).ev.ev.src.v), .int .i64 ((bs.getD j default).ev.ev.seq.v), .int .i64 ((bs.getD j default).ev.ev.time.v), .string ((bs.getD j default).ev.ev.typ.v), .slice ((bs.getD j default).ev.p) ((bs.getD j default).ev.ev.attrs.length) ((bs.getD j default).ev.c)]] pl_134 rfl rfl (event_Check ((bs.getD j default).ev.ev) (.slice ((bs.getD j default).ev.p) ((bs.getD j default).ev.ev.attrs.length) ((bs.getD j default).ev.c)) (j := 0) rfl H92) ?_)
                    rintro _ w93 ⟨rfl, H94⟩
                    refine r_cons (s_assign (.int .i64 (evE ((bs.getD j default).ev.ev))) rfl rfl ?_)
                    refine r_nil ?_
                    refine g_seq ?_
                    refine g_region ?_
                    refine r_cons (s_move (.int .i64 (evE ((bs.getD j default).ev.ev))) rfl rfl ?_)
                    by_cases hc95 : evE ((bs.getD j default).ev.ev) = 0
                    · skip
                      refine r_cons (s_neq false rfl rfl (ntrue hc95) rfl ?_)
                      refine r_nil ?_
                      refine g_false rfl ?_
                      refine g_skip ?_
                      refine g_inBlock ?_
                      refine g_region ?_
                      refine r_cons (s_add ((j : Int) + 1) rfl rfl (wi64 (by omega)) rfl ?_)
                      refine r_cons (s_move (.int .i64 ((j : Int) + 1)) rfl rfl ?_)
                      refine r_nil ?_
                      have H96 : St W w93 (imi (0 < bs.length) gA19 (.cells kA21 eA22 zA23) :: MapA mp13 (ents kID vB (setOf ((bs.take (j + 1)).map idOf))) :: blk bk8 (.cells #[.slice pp1 bs.length cc2] 30 (0, 0)) :: bndsA bs :: Im 6 (.slice pp1 bs.length cc2) bs.length (bs.flatMap bndCell) :: F) := (((((((H94.move 6 rfl).move 6 rfl).move 6 rfl).move 6 rfl).move 6 rfl).drop 5 rfl).drop 5 rfl)
                      exact nx34 (j + 1) _ _ ⟨(by omega), (fun q hq => (Nat.lt_or_ge q j).elim (hz q) (fun h => by rw [show q = j from by omega, hat4]; assumption)), H96⟩ (by first | (dsimp only; omega) | omega) ⟨by first | rfl | exact vint (by omega), by first | rfl | exact vint (by omega), by first | rfl | exact vint (by omega), by first | rfl | exact vint (by omega), by first | rfl | exact vint (by omega), by first | rfl | exact vint (by omega), by first | rfl | exact vint (by omega), trivial⟩
                    · skip
                      refine r_cons (s_neq true rfl rfl (nfalse hc95) rfl ?_)
                      refine r_nil ?_
                      refine g_true rfl ?_
                      refine g_seq ?_
                      refine g_region ?_
                      refine r_cons (s_move (.int .i64 (evE ((bs.getD j default).ev.ev))) rfl rfl ?_)
                      refine r_cons (s_assign (.int .i64 (evE ((bs.getD j default).ev.ev))) rfl rfl ?_)
                      refine r_nil ?_
                      refine g_ret' [.int .i64 (evE ((bs.getD j default).ev.ev))] Try.func104 Try.results104 ⟨rfl, trivial⟩ ?_
                      have H97 : St W w93 F := (((((((H94.drop 0 rfl).drop 0 rfl).drop 0 rfl).drop 0 rfl).drop 0 rfl).drop 0 rfl).drop 0 rfl)
                      exact ⟨vint (ptE_at (by omega) hz (by omega) (hat4) (by assumption)).symm, H97⟩
              · skip
                refine q_val rfl rfl rfl (by intro w hw; exact x_gtr false rfl rfl (dfalse hc79) w) ?_
                refine q_cons (q_take rfl rfl ?_)
                refine q_val rfl rfl rfl (by intro w hw; exact x_move (.bool false) rfl w) ?_
                refine q_cons (q_pass rfl rfl rfl rfl rfl ?_)
                refine q_cons (q_pass rfl rfl rfl rfl rfl ?_)
                refine q_cons (q_pass rfl rfl rfl rfl rfl ?_)
                refine q_cons (q_pass rfl rfl rfl rfl rfl ?_)
                refine q_cons (q_pass rfl rfl rfl rfl rfl ?_)
                refine q_cons (q_pass rfl rfl rfl rfl rfl ?_)
                refine q_cons (q_pass rfl rfl rfl rfl rfl ?_)
                refine q_cons (q_pass rfl rfl rfl rfl rfl ?_)
                refine q_cons (q_pass rfl rfl rfl rfl rfl ?_)
                refine q_cons (q_pass rfl rfl rfl rfl rfl ?_)
                refine q_cons (q_take rfl rfl ?_)
                refine q_val rfl rfl rfl (by intro w hw; exact x_pick_f (.bool false) rfl rfl w) ?_
                refine q_cons (q_val rfl rfl rfl (by intro w hw; exact x_pick_f (.bool false) rfl rfl w) ?_)
                refine q_cons (q_val rfl rfl rfl (by intro w hw; exact x_move (.bool false) rfl w) ?_)
                refine q_cons (q_take rfl rfl ?_)
                refine q_val rfl rfl rfl (by intro w hw; exact x_move (.map (some mp13)) rfl w) ?_
                refine q_cons (q_take rfl rfl ?_)
                refine q_val rfl rfl rfl (by intro w hw; exact x_fieldAddr 170 1 1 1 168 rfl fi_170_1 rfl w) ?_
                refine q_cons (q_take rfl rfl ?_)
                refine q_val rfl rfl rfl (by intro w hw; exact x_fieldAddr 168 0 0 1 165 rfl fi_168_0 rfl w) ?_
                refine q_cons (q_take rfl rfl ?_)
                refine q_val rfl rfl rfl (by intro w hw; exact x_loadAgg [.int .i64 ((bs.getD j default).ev.ev.src.v), .int .i64 ((bs.getD j default).ev.ev.seq.v)] 2 ag_165 rfl (hw.blk_at (i := 0) rfl) (Nat.le_of_ble_eq_true rfl) rfl) ?_
                refine q_cons (q_take rfl rfl ?_)
                refine q_val rfl rfl rfl (by intro w hw; exact x_lookup (ek := kID) (ev := vB) (L := setOf ((bs.take j).map idOf)) (idOf (bs.getD j default)) (.bool (decide ((idOf (bs.getD j default)) ∈ ((bs.take j).map idOf)))) (MapA.at hw (i := 2) rfl) kl_165 un_199 zv_4 rfl rfl (setOf_look _ _)) ?_
                refine q_cons (q_val rfl rfl rfl (by intro w hw; exact x_pick_f (.bool (decide ((idOf (bs.getD j default)) ∈ ((bs.take j).map idOf)))) rfl rfl w) ?_)
                refine q_nil ?_
                intro w98 H99
                by_cases hb100 : (decide ((idOf (bs.getD j default)) ∈ ((bs.take j).map idOf))) = true
                · skip
                  refine g_true (congrArg Value.bool hb100) ?_
                  refine g_seq ?_
                  refine g_region ?_
                  refine r_cons (s_assign (.int .i64 100) rfl rfl ?_)
                  refine r_nil ?_
                  refine g_ret' [.int .i64 100] Try.func104 Try.results104 ⟨rfl, trivial⟩ ?_
                  have H101 : St W w98 F := ((((((H99.drop 0 rfl).drop 0 rfl).drop 0 rfl).drop 0 rfl).drop 0 rfl).drop 0 rfl)
                  have hA : ptAt bs j = 100 := by first | exact ptAt_2 (by omega) (by assumption) | exact ptAt_3 (of_decide_eq_true (by assumption)) | (exact ptAt_3 (of_decide_eq_true (by assumption))) | (refine ptAt_1 ?_; rintro (h | ⟨h, h2⟩) <;> simp_all)
                  exact ⟨vint (ptE_at (by omega) hz (by omega) hA (by decide)).symm, H101⟩
                · have hb100 := eq_false_of_ne_true hb100
                  refine g_false (congrArg Value.bool hb100) ?_
                  refine g_skip ?_
                  refine g_seq ?_
                  refine g_region ?_
                  refine r_cons (s_move (.map (some mp13)) rfl rfl ?_)
                  refine r_cons (s_fieldAddr 170 1 1 1 168 rfl fi_170_1 rfl rfl ?_)
                  refine r_cons (s_fieldAddr 168 0 0 1 165 rfl fi_168_0 rfl rfl ?_)
                  refine r_cons (s_loadAgg [.int .i64 ((bs.getD j default).ev.ev.src.v), .int .i64 ((bs.getD j default).ev.ev.seq.v)] 2 ag_165 rfl (H99.blk_at (i := 0) rfl) (Nat.le_of_ble_eq_true rfl) rfl rfl ?_)
                  refine r_cons (s_mapUpdate (ek := kID) (ev := vB) (L := setOf ((bs.take j).map idOf)) (idOf (bs.getD j default)) true H99 (i := 2) rfl kl_165 un_199 rfl rfl rfl ?_); intro w102 H103
                  have H104 : St W w102 (blk bk36 (.cells #[.string ((bs.getD j default).var.v), .int .i64 ((bs.getD j default).ev.ev.src.v), .int .i64 ((bs.getD j default).ev.ev.seq.v), .int .i64 ((bs.getD j default).ev.ev.time.v), .string ((bs.getD j default).ev.ev.typ.v), .slice ((bs.getD j default).ev.p) ((bs.getD j default).ev.ev.attrs.length) ((bs.getD j default).ev.c)] 170 (0, 0)) :: imi (0 < bs.length) gA19 (.cells kA21 eA22 zA23) :: MapA mp13 (ents kID vB (setOf (addS ((bs.take j).map idOf) (idOf (bs.getD j default))))) :: blk bk8 (.cells #[.slice pp1 bs.length cc2] 30 (0, 0)) :: bndsA bs :: Im 6 (.slice pp1 bs.length cc2) bs.length (bs.flatMap bndCell) :: F) := by have h9 := H103; rw [setOf_set] at h9; exact h9
                  refine r_nil ?_
                  refine g_seq ?_
                  refine g_region ?_
                  have hns : ¬ idOf (bs.getD j default) ∈ (bs.take j).map idOf := of_decide_eq_false hb100
                  have H105 : St W w102 (blk bk36 (.cells #[.string ((bs.getD j default).var.v), .int .i64 ((bs.getD j default).ev.ev.src.v), .int .i64 ((bs.getD j default).ev.ev.seq.v), .int .i64 ((bs.getD j default).ev.ev.time.v), .string ((bs.getD j default).ev.ev.typ.v), .slice ((bs.getD j default).ev.p) ((bs.getD j default).ev.ev.attrs.length) ((bs.getD j default).ev.c)] 170 (0, 0)) :: imi (0 < bs.length) gA19 (.cells kA21 eA22 zA23) :: MapA mp13 (ents kID vB (setOf ((bs.take (j + 1)).map idOf))) :: blk bk8 (.cells #[.slice pp1 bs.length cc2] 30 (0, 0)) :: bndsA bs :: Im 6 (.slice pp1 bs.length cc2) bs.length (bs.flatMap bndCell) :: F) := by have hx := H104; rw [ids_step (by omega) hns] at hx; exact hx
                  have H106 := bndsA_at j H105 (i := 4) rfl
                  have hat4 := ptAt_4 (L := bs) (i := j) (by first | exact .inl (by assumption) | exact .inl (notfalse (by assumption)) | exact .inr ⟨by assumption, by omega⟩) (by first | exact .inl (by omega) | exact .inr (by assumption) | exact .inr (by simpa [leS] using ‹_›)) hns
                  refine r_cons (s_fieldAddr 170 1 1 1 168 rfl fi_170_1 rfl rfl ?_)
                  refine r_cons (s_loadAgg [.int .i64 ((bs.getD j default).ev.ev.src.v), .int .i64 ((bs.getD j default).ev.ev.seq.v), .int .i64 ((bs.getD j default).ev.ev.time.v), .string ((bs.getD j default).ev.ev.typ.v), .slice ((bs.getD j default).ev.p) ((bs.getD j default).ev.ev.attrs.length) ((bs.getD j default).ev.c)] 5 ag_168 rfl (H106.blk_at (i := 1) rfl) (Nat.le_of_ble_eq_true rfl) rfl rfl ?_)
                  refine r_cons (s_call [.agg #[.int .i64 ((bs.getD j default).ev.ev.src.v), .int .i64 ((bs.getD j default).ev.ev.seq.v), .int .i64 ((bs.getD j default).ev.ev.time.v), .string ((bs.getD j default).ev.ev.typ.v), .slice ((bs.getD j default).ev.p) ((bs.getD j default).ev.ev.attrs.length) ((bs.getD j default).ev.c)]] pl_134 rfl rfl (event_Check ((bs.getD j default).ev.ev) (.slice ((bs.getD j default).ev.p) ((bs.getD j default).ev.ev.attrs.length) ((bs.getD j default).ev.c)) (j := 0) rfl H106) ?_)
                  rintro _ w107 ⟨rfl, H108⟩
                  refine r_cons (s_assign (.int .i64 (evE ((bs.getD j default).ev.ev))) rfl rfl ?_)
                  refine r_nil ?_
                  refine g_seq ?_
                  refine g_region ?_
                  refine r_cons (s_move (.int .i64 (evE ((bs.getD j default).ev.ev))) rfl rfl ?_)
                  by_cases hc109 : evE ((bs.getD j default).ev.ev) = 0
                  · skip
                    refine r_cons (s_neq false rfl rfl (ntrue hc109) rfl ?_)
                    refine r_nil ?_
                    refine g_false rfl ?_
                    refine g_skip ?_
                    refine g_inBlock ?_
                    refine g_region ?_
                    refine r_cons (s_add ((j : Int) + 1) rfl rfl (wi64 (by omega)) rfl ?_)
                    refine r_cons (s_move (.int .i64 ((j : Int) + 1)) rfl rfl ?_)
                    refine r_nil ?_
                    have H110 : St W w107 (imi (0 < bs.length) gA19 (.cells kA21 eA22 zA23) :: MapA mp13 (ents kID vB (setOf ((bs.take (j + 1)).map idOf))) :: blk bk8 (.cells #[.slice pp1 bs.length cc2] 30 (0, 0)) :: bndsA bs :: Im 6 (.slice pp1 bs.length cc2) bs.length (bs.flatMap bndCell) :: F) := (((((((H108.move 6 rfl).move 6 rfl).move 6 rfl).move 6 rfl).move 6 rfl).drop 5 rfl).drop 5 rfl)
                    exact nx34 (j + 1) _ _ ⟨(by omega), (fun q hq => (Nat.lt_or_ge q j).elim (hz q) (fun h => by rw [show q = j from by omega, hat4]; assumption)), H110⟩ (by first | (dsimp only; omega) | omega) ⟨by first | rfl | exact vint (by omega), by first | rfl | exact vint (by omega), by first | rfl | exact vint (by omega), by first | rfl | exact vint (by omega), by first | rfl | exact vint (by omega), by first | rfl | exact vint (by omega), by first | rfl | exact vint (by omega), trivial⟩
                  · skip
                    refine r_cons (s_neq true rfl rfl (nfalse hc109) rfl ?_)
                    refine r_nil ?_
                    refine g_true rfl ?_
                    refine g_seq ?_
                    refine g_region ?_
                    refine r_cons (s_move (.int .i64 (evE ((bs.getD j default).ev.ev))) rfl rfl ?_)
                    refine r_cons (s_assign (.int .i64 (evE ((bs.getD j default).ev.ev))) rfl rfl ?_)
                    refine r_nil ?_
                    refine g_ret' [.int .i64 (evE ((bs.getD j default).ev.ev))] Try.func104 Try.results104 ⟨rfl, trivial⟩ ?_
                    have H111 : St W w107 F := (((((((H108.drop 0 rfl).drop 0 rfl).drop 0 rfl).drop 0 rfl).drop 0 rfl).drop 0 rfl).drop 0 rfl)
                    exact ⟨vint (ptE_at (by omega) hz (by omega) (hat4) (by assumption)).symm, H111⟩
            · skip
              refine s_eql false rfl rfl (dfalse hc78) rfl ?_
              refine r_cons (r_take rfl (congrArg some hb43) ?_)
              refine s_pick_t (.bool false) rfl rfl rfl ?_
              refine r_cons (s_pick_f (.bool false) (by exact congrArg Value.bool hb43) rfl rfl ?_)
              refine r_cons (s_assign (.bool false) rfl rfl ?_)
              refine r_nil ?_
              refine g_seq ?_
              refine g_seq ?_
              refine g_quiet (fun w' => St W w' (blk bk36 (.cells #[.string ((bs.getD j default).var.v), .int .i64 ((bs.getD j default).ev.ev.src.v), .int .i64 ((bs.getD j default).ev.ev.seq.v), .int .i64 ((bs.getD j default).ev.ev.time.v), .string ((bs.getD j default).ev.ev.typ.v), .slice ((bs.getD j default).ev.p) ((bs.getD j default).ev.ev.attrs.length) ((bs.getD j default).ev.c)] 170 (0, 0)) :: imi (0 < bs.length) gA19 (.cells kA21 eA22 zA23) :: MapA mp13 (ents kID vB (setOf ((bs.take j).map idOf))) :: blk bk8 (.cells #[.slice pp1 bs.length cc2] 30 (0, 0)) :: bndsA bs :: Im 6 (.slice pp1 bs.length cc2) bs.length (bs.flatMap bndCell) :: F)) mixed (by kernel_rfl) H42.drew ?_
              refine q_cons (q_val rfl rfl rfl (by intro w hw; exact x_move (.bool false) rfl w) ?_)
              refine q_cons (q_val rfl rfl rfl (by intro w hw; exact x_not false rfl true rfl w) ?_)
              refine q_cons (q_val rfl rfl rfl (by intro w hw; exact x_move (.bool true) rfl w) ?_)
              refine q_cons (q_pass rfl rfl rfl rfl rfl ?_)
              refine q_cons (q_pass rfl rfl rfl rfl rfl ?_)
              refine q_cons (q_pass rfl rfl rfl rfl rfl ?_)
              refine q_cons (q_passN rfl rfl rfl rfl ?_)
              refine q_cons (q_passN rfl rfl rfl rfl ?_)
              refine q_cons (q_passN rfl rfl rfl rfl ?_)
              refine q_cons (q_passN rfl rfl rfl rfl ?_)
              refine q_cons (q_passN rfl rfl rfl rfl ?_)
              refine q_cons (q_passN rfl rfl rfl rfl ?_)
              refine q_cons (q_passN rfl rfl rfl rfl ?_)
              refine q_cons (q_passN rfl rfl rfl rfl ?_)
              refine q_cons (q_passN rfl rfl rfl rfl ?_)
              refine q_cons (q_passN rfl rfl rfl rfl ?_)
              refine q_cons (q_pass rfl rfl rfl rfl rfl ?_)
              refine q_cons (q_val rfl rfl rfl (by intro w hw; exact x_pick_t (.bool true) rfl rfl w) ?_)
              refine q_cons (q_val rfl rfl rfl (by intro w hw; exact x_move (.bool true) rfl w) ?_)
              refine q_cons (q_pass rfl rfl rfl rfl rfl ?_)
              refine q_cons (q_pass rfl rfl rfl rfl rfl ?_)
              refine q_cons (q_pass rfl rfl rfl rfl rfl ?_)
              refine q_cons (q_pass rfl rfl rfl rfl rfl ?_)
              refine q_cons (q_pass rfl rfl rfl rfl rfl ?_)
              refine q_cons (q_val rfl rfl rfl (by intro w hw; exact x_pick_t (.bool true) rfl rfl w) ?_)
              refine q_nil ?_
              intro w112 H113
              refine g_true rfl ?_
              refine g_seq ?_
              refine g_region ?_
              refine r_cons (s_assign (.int .i64 100) rfl rfl ?_)
              refine r_nil ?_
              refine g_ret' [.int .i64 100] Try.func104 Try.results104 ⟨rfl, trivial⟩ ?_
              have H114 : St W w112 F := ((((((H113.drop 0 rfl).drop 0 rfl).drop 0 rfl).drop 0 rfl).drop 0 rfl).drop 0 rfl)
              have hA : ptAt bs j = 100 := by first | exact ptAt_2 (by omega) (by assumption) | exact ptAt_3 (of_decide_eq_true (by assumption)) | (exact ptAt_3 (of_decide_eq_true (by assumption))) | (refine ptAt_1 ?_; rintro (h | ⟨h, h2⟩) <;> simp_all)
              exact ⟨vint (ptE_at (by omega) hz (by omega) hA (by decide)).symm, H114⟩
          · skip
            refine s_seql false rfl rfl (dfalse hc77) rfl ?_
            refine r_cons (r_take rfl (congrArg some hb43) ?_)
            refine s_move (.bool false) rfl rfl ?_
            refine r_cons (r_pass rfl rfl rfl rfl rfl ?_)
            refine r_cons (r_pass rfl rfl rfl rfl rfl ?_)
            refine r_cons (r_take rfl (congrArg some hb43) ?_)
            refine s_pick_f (.bool false) rfl rfl rfl ?_
            refine r_cons (s_pick_f (.bool false) (by exact congrArg Value.bool hb43) rfl rfl ?_)
            refine r_cons (s_assign (.bool false) rfl rfl ?_)
            refine r_nil ?_
            refine g_seq ?_
            refine g_seq ?_
            refine g_quiet (fun w' => St W w' (blk bk36 (.cells #[.string ((bs.getD j default).var.v), .int .i64 ((bs.getD j default).ev.ev.src.v), .int .i64 ((bs.getD j default).ev.ev.seq.v), .int .i64 ((bs.getD j default).ev.ev.time.v), .string ((bs.getD j default).ev.ev.typ.v), .slice ((bs.getD j default).ev.p) ((bs.getD j default).ev.ev.attrs.length) ((bs.getD j default).ev.c)] 170 (0, 0)) :: imi (0 < bs.length) gA19 (.cells kA21 eA22 zA23) :: MapA mp13 (ents kID vB (setOf ((bs.take j).map idOf))) :: blk bk8 (.cells #[.slice pp1 bs.length cc2] 30 (0, 0)) :: bndsA bs :: Im 6 (.slice pp1 bs.length cc2) bs.length (bs.flatMap bndCell) :: F)) mixed (by kernel_rfl) H42.drew ?_
            refine q_cons (q_val rfl rfl rfl (by intro w hw; exact x_move (.bool false) rfl w) ?_)
            refine q_cons (q_val rfl rfl rfl (by intro w hw; exact x_not false rfl true rfl w) ?_)
            refine q_cons (q_val rfl rfl rfl (by intro w hw; exact x_move (.bool true) rfl w) ?_)
            refine q_cons (q_pass rfl rfl rfl rfl rfl ?_)
            refine q_cons (q_pass rfl rfl rfl rfl rfl ?_)
            refine q_cons (q_pass rfl rfl rfl rfl rfl ?_)
            refine q_cons (q_passN rfl rfl rfl rfl ?_)
            refine q_cons (q_passN rfl rfl rfl rfl ?_)
            refine q_cons (q_passN rfl rfl rfl rfl ?_)
            refine q_cons (q_passN rfl rfl rfl rfl ?_)
            refine q_cons (q_passN rfl rfl rfl rfl ?_)
            refine q_cons (q_passN rfl rfl rfl rfl ?_)
            refine q_cons (q_passN rfl rfl rfl rfl ?_)
            refine q_cons (q_passN rfl rfl rfl rfl ?_)
            refine q_cons (q_passN rfl rfl rfl rfl ?_)
            refine q_cons (q_passN rfl rfl rfl rfl ?_)
            refine q_cons (q_pass rfl rfl rfl rfl rfl ?_)
            refine q_cons (q_val rfl rfl rfl (by intro w hw; exact x_pick_t (.bool true) rfl rfl w) ?_)
            refine q_cons (q_val rfl rfl rfl (by intro w hw; exact x_move (.bool true) rfl w) ?_)
            refine q_cons (q_pass rfl rfl rfl rfl rfl ?_)
            refine q_cons (q_pass rfl rfl rfl rfl rfl ?_)
            refine q_cons (q_pass rfl rfl rfl rfl rfl ?_)
            refine q_cons (q_pass rfl rfl rfl rfl rfl ?_)
            refine q_cons (q_pass rfl rfl rfl rfl rfl ?_)
            refine q_cons (q_val rfl rfl rfl (by intro w hw; exact x_pick_t (.bool true) rfl rfl w) ?_)
            refine q_nil ?_
            intro w115 H116
            refine g_true rfl ?_
            refine g_seq ?_
            refine g_region ?_
            refine r_cons (s_assign (.int .i64 100) rfl rfl ?_)
            refine r_nil ?_
            refine g_ret' [.int .i64 100] Try.func104 Try.results104 ⟨rfl, trivial⟩ ?_
            have H117 : St W w115 F := ((((((H116.drop 0 rfl).drop 0 rfl).drop 0 rfl).drop 0 rfl).drop 0 rfl).drop 0 rfl)
            have hA : ptAt bs j = 100 := by first | exact ptAt_2 (by omega) (by assumption) | exact ptAt_3 (of_decide_eq_true (by assumption)) | (exact ptAt_3 (of_decide_eq_true (by assumption))) | (refine ptAt_1 ?_; rintro (h | ⟨h, h2⟩) <;> simp_all)
            exact ⟨vint (ptE_at (by omega) hz (by omega) hA (by decide)).symm, H117⟩
      · skip
        refine r_cons (s_lss false rfl rfl (dfalse hc35) rfl ?_)
        refine r_nil ?_
        refine g_seq ?_
        refine g_false rfl ?_
        refine g_exit (by rfl) ?_
        refine g_seq ?_
        refine g_region ?_
        refine r_cons (s_assign (.int .i64 0) rfl rfl ?_)
        refine r_nil ?_
        refine g_ret' [.int .i64 0] Try.func104 Try.results104 ⟨rfl, trivial⟩ ?_
        have H118 : St W w32 F := (((((H33.drop 0 rfl).drop 0 rfl).drop 0 rfl).drop 0 rfl).drop 0 rfl)
        exact ⟨vint (ptE_all (by omega) (fun q hq => hz q (by omega))).symm, H118⟩
set_option maxHeartbeats 4000000 in
set_option maxRecDepth 100000 in
theorem ref10_Check {W w : World} {F : List Atom} (bs : List BoundD) (bv : Value) {ip : Nat} (hp : F[ip]? = some (Im 6 bv bs.length (bs.flatMap bndCell))) {iq : Nat} (hq : F[iq]? = some (bndsA bs)) (H : St W w F) : Calls Try.prog 61 #[.agg #[bv]] w (Ret fun v w' => v = .int .i64 (ptE bs) ∧ St W w' F) := by
  obtain ⟨pp1, cc2, rfl, hn3⟩ := Rd.shape (Im.rd H (i := ip) hp)
  have H4 := H.dup (i := ip + 0) (by exact hp) (Im_pers _ _ _ _)
  have H5 : St W w (Im 6 (.slice pp1 bs.length cc2) bs.length (bs.flatMap bndCell) :: F) := H4
  have H6 := H5.dup (i := iq + 1) (by exact hq) (bndsA_pers _)
  have H7 : St W w (bndsA bs :: Im 6 (.slice pp1 bs.length cc2) bs.length (bs.flatMap bndCell) :: F) := H6
  have hmlb := Im.len H7 (i := 1) rfl
  refine calls_of_go (n := 83) Try.func61 rfl Try.ntmps61 rfl ?_
  refine g_seq ?_
  refine g_region ?_
  refine r_cons (s_box H7 30 (.agg #[.slice pp1 bs.length cc2]) rfl (cs := #[.slice pp1 bs.length cc2]) rfl rfl ?_); intro bk8 w9 H10
  refine r_cons (s_assign (.int .i64 0) rfl rfl ?_)
  refine r_nil ?_
  refine g_seq ?_
  refine g_region ?_
  refine r_cons (s_fieldAddr 30 0 0 0 28 rfl fi_30_0 rfl rfl ?_)
  refine r_cons (s_load (.slice pp1 bs.length cc2) ag_28 rfl (H10.blk_at (i := 0) rfl) rfl rfl ?_)
  refine r_cons (s_assign (.slice pp1 bs.length cc2) rfl rfl ?_)
  refine r_nil ?_
  refine g_seq ?_
  refine g_seq ?_
  refine g_region ?_
  refine r_cons (s_move (.slice pp1 bs.length cc2) rfl rfl ?_)
  refine r_cons (s_len bs.length rfl ⟨_, un_28⟩ rfl ?_)
  by_cases hc11 : (12 : Int) < (bs.length : Int)
  · skip
    refine r_cons (s_gtr true rfl rfl (dtrue hc11) rfl ?_)
    refine r_nil ?_
    refine g_true rfl ?_
    refine g_seq ?_
    refine g_region ?_
    refine r_cons (s_assign (.int .i64 100) rfl rfl ?_)
    refine r_nil ?_
    refine g_ret' [.int .i64 100] Try.func61 Try.results61 ⟨rfl, trivial⟩ ?_
    have H12 : St W w9 F := (((H10.drop 0 rfl).drop 0 rfl).drop 0 rfl)
    exact ⟨vint (ptE_long (by omega)).symm, H12⟩
  · skip
    refine r_cons (s_gtr false rfl rfl (dfalse hc11) rfl ?_)
    refine r_nil ?_
    refine g_false rfl ?_
    refine g_skip ?_
    refine g_seq ?_
    refine g_seq ?_
    refine g_region ?_
    refine r_cons (s_assign (.int .i64 0) rfl rfl ?_)
    refine r_nil ?_
    refine g_block ?_
    obtain ⟨pA13, cA14, gA15, oA16, kA17, eA18, zA19, he25, hn20, hp21, hx22, hs23, hml, H24⟩ := Im.open_ H10 (i := 2) rfl
    obtain ⟨rfl, rfl⟩ : pp1 = pA13 ∧ cc2 = cA14 := by injection he25 with a_ b_ c_; exact ⟨a_, c_⟩
    refine g_loop_inv (fun (x_ : Nat) => match x_ with | j => [(2, .int .i64 0), (3, .slice pp1 bs.length cc2), (4, .int .i64 (j : Int))]) (fun (x_ : Nat) w => match x_ with | j => (j ≤ bs.length) ∧ (∀ q, q < j → ptAt bs q = 0) ∧ St W w (imi (0 < bs.length) gA15 (.cells kA17 eA18 zA19) :: blk bk8 (.cells #[.slice pp1 bs.length cc2] 30 (0, 0)) :: bndsA bs :: Im 6 (.slice pp1 bs.length cc2) bs.length (bs.flatMap bndCell) :: F)) (fun (x_ : Nat) => match x_ with | j => bs.length - j) (0) ?_ ?_ ?_
    · exact ⟨by first | rfl | exact vint (by omega), by first | rfl | exact vint (by omega), by first | rfl | exact vint (by omega), trivial⟩
    · exact ⟨(by omega), (fun q hq => by omega), H24⟩
    · rintro j ρ26 w27 ⟨hjn, hz, H28⟩ nx29
      change Ends _ _ (upds ρ26 [(2, .int .i64 0), (3, .slice pp1 bs.length cc2), (4, .int .i64 (j : Int))]) w27
      refine g_seq ?_
      refine g_seq ?_
      refine g_region ?_
      refine r_cons (s_move (.int .i64 (j : Int)) rfl rfl ?_)
      refine r_cons (s_move (.slice pp1 bs.length cc2) rfl rfl ?_)
      refine r_cons (s_len bs.length rfl ⟨_, un_28⟩ rfl ?_)
      by_cases hc30 : (j : Int) < (bs.length : Int)
      · skip
        refine r_cons (s_lss true rfl rfl (dtrue hc30) rfl ?_)
        refine r_nil ?_
        refine g_true rfl ?_
        refine g_skip ?_
        refine g_seq ?_
        refine g_block ?_
        refine g_seq ?_
        refine g_seq ?_
        refine g_quiet (fun w' => St W w' (imi (0 < bs.length) gA15 (.cells kA17 eA18 zA19) :: blk bk8 (.cells #[.slice pp1 bs.length cc2] 30 (0, 0)) :: bndsA bs :: Im 6 (.slice pp1 bs.length cc2) bs.length (bs.flatMap bndCell) :: F)) mixed (by kernel_rfl) H28.drew ?_
        refine q_cons (q_val rfl rfl rfl (by intro w hw; exact x_move (.slice pp1 bs.length cc2) rfl w) ?_)
        refine q_cons (q_val rfl rfl rfl (by intro w hw; exact x_move (.int .i64 (j : Int)) rfl w) ?_)
        refine q_cons (q_val rfl rfl rfl (by intro w hw; exact x_indexAddr gA15 (off := oA16) (j : Int) 6 (oA16 + j * 6) (by exact congrArg (fun z_ => Value.slice z_ bs.length cc2) (hp21 (by omega))) rfl el_28 (by omega) rfl w) ?_)
        refine q_cons (q_val rfl rfl rfl (by intro w hw; exact x_fieldAddr 170 0 0 (oA16 + j * 6) 9 rfl fi_170_0 rfl w) ?_)
        refine q_cons (q_val rfl rfl rfl (by intro w hw; exact x_load (.string ((bs.getD j default).var.v)) ag_9 rfl (hw.imi_at (i := 0) rfl (by omega)) (elem_cell (L := bs) (i := j) bndCell_len (hx22 (by omega)) (by omega) default 0 (by decide) _ rfl)) ?_)
        refine q_cons (q_enter (args := #[.string ((bs.getD j default).var.v)]) (v := .bool (nameB ((bs.getD j default).var.v))) rfl rfl rfl (x_call pl_102 [.string ((bs.getD j default).var.v)] rfl) (fun w hw => ref03_Name ((bs.getD j default).var.v) (bs.getD j default).var.ok hw) ?_)
        refine q_cons (q_val rfl rfl rfl (by intro w hw; exact x_not (nameB ((bs.getD j default).var.v)) rfl (!(nameB ((bs.getD j default).var.v))) rfl w) ?_)
        refine q_cons (q_val rfl rfl rfl (by intro w hw; exact x_move (.bool (!(nameB ((bs.getD j default).var.v)))) rfl w) ?_)
        by_cases hb31 : (!(nameB ((bs.getD j default).var.v))) = true
        · skip
          refine q_cons (q_take rfl (congrArg some hb31) ?_)
          refine q_val rfl rfl rfl (by intro w hw; exact x_move (.slice pp1 bs.length cc2) rfl w) ?_
          refine q_cons (q_take rfl (congrArg some hb31) ?_)
          refine q_val rfl rfl rfl (by intro w hw; exact x_move (.int .i64 (j : Int)) rfl w) ?_
          refine q_cons (q_take rfl (congrArg some hb31) ?_)
          refine q_val rfl rfl rfl (by intro w hw; exact x_indexAddr gA15 (off := oA16) (j : Int) 6 (oA16 + j * 6) (by exact congrArg (fun z_ => Value.slice z_ bs.length cc2) (hp21 (by omega))) rfl el_28 (by omega) rfl w) ?_
          refine q_cons (q_take rfl (congrArg some hb31) ?_)
          refine q_val rfl rfl rfl (by intro w hw; exact x_fieldAddr 170 0 0 (oA16 + j * 6) 9 rfl fi_170_0 rfl w) ?_
          refine q_cons (q_take rfl (congrArg some hb31) ?_)
          refine q_val rfl rfl rfl (by intro w hw; exact x_load (.string ((bs.getD j default).var.v)) ag_9 rfl (hw.imi_at (i := 0) rfl (by omega)) (elem_cell (L := bs) (i := j) bndCell_len (hx22 (by omega)) (by omega) default 0 (by decide) _ rfl)) ?_
          refine q_cons (q_take rfl (congrArg some hb31) ?_)
          by_cases hc32 : (bs.getD j default).var.v = ByteArray.empty
          · skip
            refine q_val rfl rfl rfl (by intro w hw; exact x_sneq false rfl rfl (ntrue hc32) w) ?_
            refine q_cons (q_take rfl (congrArg some hb31) ?_)
            refine q_val rfl rfl rfl (by intro w hw; exact x_move (.bool false) rfl w) ?_
            refine q_cons (q_take rfl rfl ?_)
            refine q_val rfl rfl rfl (by intro w hw; exact x_move (.slice pp1 bs.length cc2) rfl w) ?_
            refine q_cons (q_take rfl rfl ?_)
            refine q_val rfl rfl rfl (by intro w hw; exact x_len bs.length rfl ⟨_, un_28⟩ w) ?_
            refine q_cons (q_take rfl rfl ?_)
            by_cases hc33 : (bs.length : Int) = 1
            · skip
              refine q_val rfl rfl rfl (by intro w hw; exact x_neq false rfl rfl (ntrue hc33) w) ?_
              refine q_cons (q_take rfl (congrArg some hb31) ?_)
              refine q_val rfl rfl rfl (by intro w hw; exact x_pick_f (.bool false) rfl rfl w) ?_
              refine q_cons (q_val rfl rfl rfl (by intro w hw; exact x_pick_t (.bool false) (by exact congrArg Value.bool hb31) rfl w) ?_)
              refine q_cons (q_val rfl rfl rfl (by intro w hw; exact x_move (.bool false) rfl w) ?_)
              refine q_cons (q_take rfl rfl ?_)
              refine q_val rfl rfl rfl (by intro w hw; exact x_move (.int .i64 (j : Int)) rfl w) ?_
              refine q_cons (q_take rfl rfl ?_)
              by_cases hc34 : (0 : Int) < (j : Int)
              · skip
                refine q_val rfl rfl rfl (by intro w hw; exact x_gtr true rfl rfl (dtrue hc34) w) ?_
                refine q_cons (q_take rfl rfl ?_)
                refine q_val rfl rfl rfl (by intro w hw; exact x_move (.bool true) rfl w) ?_
                refine q_cons (q_take rfl rfl ?_)
                refine q_val rfl rfl rfl (by intro w hw; exact x_move (.slice pp1 bs.length cc2) rfl w) ?_
                refine q_cons (q_take rfl rfl ?_)
                refine q_val rfl rfl rfl (by intro w hw; exact x_move (.int .i64 (j : Int)) rfl w) ?_
                refine q_cons (q_take rfl rfl ?_)
                refine q_val rfl rfl rfl (by intro w hw; exact x_indexAddr gA15 (off := oA16) (j : Int) 6 (oA16 + j * 6) (by exact congrArg (fun z_ => Value.slice z_ bs.length cc2) (hp21 (by omega))) rfl el_28 (by omega) rfl w) ?_
                refine q_cons (q_take rfl rfl ?_)
                refine q_val rfl rfl rfl (by intro w hw; exact x_fieldAddr 170 0 0 (oA16 + j * 6) 9 rfl fi_170_0 rfl w) ?_
                refine q_cons (q_take rfl rfl ?_)
                refine q_val rfl rfl rfl (by intro w hw; exact x_load (.string ((bs.getD j default).var.v)) ag_9 rfl (hw.imi_at (i := 0) rfl (by omega)) (elem_cell (L := bs) (i := j) bndCell_len (hx22 (by omega)) (by omega) default 0 (by decide) _ rfl)) ?_
                refine q_cons (q_take rfl rfl ?_)
                refine q_val rfl rfl rfl (by intro w hw; exact x_move (.slice pp1 bs.length cc2) rfl w) ?_
                refine q_cons (q_take rfl rfl ?_)
                refine q_val rfl rfl rfl (by intro w hw; exact x_move (.int .i64 (j : Int)) rfl w) ?_
                refine q_cons (q_take rfl rfl ?_)
                refine q_val rfl rfl rfl (by intro w hw; exact x_sub ((j : Int) - 1) rfl rfl (wi64 (by omega)) w) ?_
                refine q_cons (q_take rfl rfl ?_)
                refine q_val rfl rfl rfl (by intro w hw; exact x_indexAddr gA15 (off := oA16) ((j : Int) - 1) 6 (oA16 + (j - 1) * 6) (by exact congrArg (fun z_ => Value.slice z_ bs.length cc2) (hp21 (by omega))) rfl el_28 (by omega) (by rw [show ((j : Int) - 1 : Int).toNat = j - 1 from by omega]) w) ?_
                refine q_cons (q_take rfl rfl ?_)
                refine q_val rfl rfl rfl (by intro w hw; exact x_fieldAddr 170 0 0 (oA16 + (j - 1) * 6) 9 rfl fi_170_0 rfl w) ?_
                refine q_cons (q_take rfl rfl ?_)
                refine q_val rfl rfl rfl (by intro w hw; exact x_load (.string ((bs.getD (j - 1) default).var.v)) ag_9 rfl (hw.imi_at (i := 0) rfl (by omega)) (elem_cell (L := bs) (i := j - 1) bndCell_len (hx22 (by omega)) (by omega) default 0 (by decide) _ rfl)) ?_
                refine q_cons (q_take rfl rfl ?_)
                refine q_val rfl rfl rfl (by intro w hw; exact x_sleq ((sLt ((bs.getD j default).var.v) ((bs.getD (j - 1) default).var.v) || decide (((bs.getD j default).var.v) = ((bs.getD (j - 1) default).var.v)))) rfl rfl rfl w) ?_
                refine q_cons (q_take rfl rfl ?_)
                refine q_val rfl rfl rfl (by intro w hw; exact x_pick_t (.bool (sLt ((bs.getD j default).var.v) ((bs.getD (j - 1) default).var.v) || decide (((bs.getD j default).var.v) = ((bs.getD (j - 1) default).var.v)))) rfl rfl w) ?_
                refine q_cons (q_val rfl rfl rfl (by intro w hw; exact x_pick_f (.bool (sLt ((bs.getD j default).var.v) ((bs.getD (j - 1) default).var.v) || decide (((bs.getD j default).var.v) = ((bs.getD (j - 1) default).var.v)))) rfl rfl w) ?_)
                refine q_nil ?_
                intro w35 H36
                by_cases hb37 : ((sLt ((bs.getD j default).var.v) ((bs.getD (j - 1) default).var.v) || decide (((bs.getD j default).var.v) = ((bs.getD (j - 1) default).var.v)))) = true
                · skip
                  refine g_true (congrArg Value.bool hb37) ?_
                  refine g_seq ?_
                  refine g_region ?_
                  refine r_cons (s_assign (.int .i64 100) rfl rfl ?_)
                  refine r_nil ?_
                  refine g_ret' [.int .i64 100] Try.func61 Try.results61 ⟨rfl, trivial⟩ ?_
                  have H38 : St W w35 F := ((((H36.drop 0 rfl).drop 0 rfl).drop 0 rfl).drop 0 rfl)
                  have hA : ptAt bs j = 100 := by first | exact ptAt_2 (by omega) (by assumption) | exact ptAt_3 (of_decide_eq_true (by assumption)) | (exact ptAt_3 (ids_yes (q := k) (by omega) (by omega) (idOf_eq.2 (by simpa using hz)))) | (refine ptAt_1 ?_; rintro (h | ⟨h, h2⟩) <;> simp_all)
                  exact ⟨vint (ptE_at (by omega) hz (by omega) hA (by decide)).symm, H38⟩
                · have hb37 := eq_false_of_ne_true hb37
                  refine g_false (congrArg Value.bool hb37) ?_
                  refine g_skip ?_
                  refine g_seq ?_
                  refine g_seq ?_
                  refine g_region ?_
                  refine r_cons (s_assign (.int .i64 0) rfl rfl ?_)
                  refine r_nil ?_
                  refine g_block ?_
                  refine g_loop_inv (fun (x_ : Nat) => match x_ with | k => [(2, .int .i64 0), (3, .slice pp1 bs.length cc2), (4, .int .i64 (j : Int)), (5, .int .i64 (k : Int))]) (fun (x_ : Nat) w => match x_ with | k => (k ≤ j) ∧ (∀ q, q < k → ¬ idOf (bs.getD q default) = idOf (bs.getD j default)) ∧ St W w (imi (0 < bs.length) gA15 (.cells kA17 eA18 zA19) :: blk bk8 (.cells #[.slice pp1 bs.length cc2] 30 (0, 0)) :: bndsA bs :: Im 6 (.slice pp1 bs.length cc2) bs.length (bs.flatMap bndCell) :: F)) (fun (x_ : Nat) => match x_ with | k => j - k) (0) ?_ ?_ ?_
                  · exact ⟨by first | rfl | exact vint (by omega), by first | rfl | exact vint (by omega), by first | rfl | exact vint (by omega), by first | rfl | exact vint (by omega), trivial⟩
                  · exact ⟨(by omega), (fun q hq => by omega), H36⟩
                  · rintro k ρ39 w40 ⟨hkj, hd, H41⟩ nx42
                    change Ends _ _ (upds ρ39 [(2, .int .i64 0), (3, .slice pp1 bs.length cc2), (4, .int .i64 (j : Int)), (5, .int .i64 (k : Int))]) w40
                    refine g_seq ?_
                    refine g_seq ?_
                    refine g_region ?_
                    refine r_cons (s_move (.int .i64 (k : Int)) rfl rfl ?_)
                    refine r_cons (s_move (.int .i64 (j : Int)) rfl rfl ?_)
                    by_cases hc43 : (k : Int) < (j : Int)
                    · skip
                      refine r_cons (s_lss true rfl rfl (dtrue hc43) rfl ?_)
                      refine r_nil ?_
                      refine g_true rfl ?_
                      refine g_skip ?_
                      refine g_seq ?_
                      refine g_block ?_
                      refine g_seq ?_
                      refine g_quiet (fun w' => St W w' (imi (0 < bs.length) gA15 (.cells kA17 eA18 zA19) :: blk bk8 (.cells #[.slice pp1 bs.length cc2] 30 (0, 0)) :: bndsA bs :: Im 6 (.slice pp1 bs.length cc2) bs.length (bs.flatMap bndCell) :: F)) mixed (by kernel_rfl) H41.drew ?_
                      refine q_cons (q_val rfl rfl rfl (by intro w hw; exact x_move (.slice pp1 bs.length cc2) rfl w) ?_)
                      refine q_cons (q_val rfl rfl rfl (by intro w hw; exact x_move (.int .i64 (k : Int)) rfl w) ?_)
                      refine q_cons (q_val rfl rfl rfl (by intro w hw; exact x_indexAddr gA15 (off := oA16) (k : Int) 6 (oA16 + k * 6) (by exact congrArg (fun z_ => Value.slice z_ bs.length cc2) (hp21 (by omega))) rfl el_28 (by omega) rfl w) ?_)
                      refine q_cons (q_val rfl rfl rfl (by intro w hw; exact x_fieldAddr 170 1 1 (oA16 + k * 6 + 1) 168 rfl fi_170_1 rfl w) ?_)
                      refine q_cons (q_val rfl rfl rfl (by intro w hw; exact x_fieldAddr 168 0 0 (oA16 + k * 6 + 1) 165 rfl fi_168_0 rfl w) ?_)
                      refine q_cons (q_val rfl rfl rfl (by intro w hw; exact x_loadAgg [.int .i64 ((bs.getD k default).ev.ev.src.v), .int .i64 ((bs.getD k default).ev.ev.seq.v)] 2 ag_165 rfl (hw.imi_at (i := 0) rfl (by omega)) (by have := elem_size (i := k) (s := 6) (hs23 (by omega)) (by omega); omega) (elem_sub bndCell_len (hx22 (by omega)) (by omega) default 1 2 (by decide))) ?_)
                      refine q_cons (q_val rfl rfl rfl (by intro w hw; exact x_move (.slice pp1 bs.length cc2) rfl w) ?_)
                      refine q_cons (q_val rfl rfl rfl (by intro w hw; exact x_move (.int .i64 (j : Int)) rfl w) ?_)
                      refine q_cons (q_val rfl rfl rfl (by intro w hw; exact x_indexAddr gA15 (off := oA16) (j : Int) 6 (oA16 + j * 6) (by exact congrArg (fun z_ => Value.slice z_ bs.length cc2) (hp21 (by omega))) rfl el_28 (by omega) rfl w) ?_)
                      refine q_cons (q_val rfl rfl rfl (by intro w hw; exact x_fieldAddr 170 1 1 (oA16 + j * 6 + 1) 168 rfl fi_170_1 rfl w) ?_)
                      refine q_cons (q_val rfl rfl rfl (by intro w hw; exact x_fieldAddr 168 0 0 (oA16 + j * 6 + 1) 165 rfl fi_168_0 rfl w) ?_)
                      refine q_cons (q_val rfl rfl rfl (by intro w hw; exact x_loadAgg [.int .i64 ((bs.getD j default).ev.ev.src.v), .int .i64 ((bs.getD j default).ev.ev.seq.v)] 2 ag_165 rfl (hw.imi_at (i := 0) rfl (by omega)) (by have := elem_size (i := j) (s := 6) (hs23 (by omega)) (by omega); omega) (elem_sub bndCell_len (hx22 (by omega)) (by omega) default 1 2 (by decide))) ?_)
                      refine q_cons (q_val rfl rfl rfl (by intro w hw; exact x_aeql ((decide ((bs.getD k default).ev.ev.src.v = (bs.getD j default).ev.ev.src.v) && (decide ((bs.getD k default).ev.ev.seq.v = (bs.getD j default).ev.ev.seq.v) && true))) gd_165 ev_165 rfl rfl rfl w) ?_)
                      refine q_nil ?_
                      intro w44 H45
                      by_cases hb46 : ((decide ((bs.getD k default).ev.ev.src.v = (bs.getD j default).ev.ev.src.v) && (decide ((bs.getD k default).ev.ev.seq.v = (bs.getD j default).ev.ev.seq.v) && true))) = true
                      · skip
                        refine g_true (congrArg Value.bool hb46) ?_
                        refine g_seq ?_
                        refine g_region ?_
                        refine r_cons (s_assign (.int .i64 100) rfl rfl ?_)
                        refine r_nil ?_
                        refine g_ret' [.int .i64 100] Try.func61 Try.results61 ⟨rfl, trivial⟩ ?_
                        have H47 : St W w44 F := ((((H45.drop 0 rfl).drop 0 rfl).drop 0 rfl).drop 0 rfl)
                        have hA : ptAt bs j = 100 := by first | exact ptAt_2 (by omega) (by assumption) | exact ptAt_3 (of_decide_eq_true (by assumption)) | (exact ptAt_3 (ids_yes (q := k) (by omega) (by omega) (idOf_eq.2 (by simpa using hb46)))) | (refine ptAt_1 ?_; rintro (h | ⟨h, h2⟩) <;> simp_all)
                        exact ⟨vint (ptE_at (by omega) hz (by omega) hA (by decide)).symm, H47⟩
                      · have hb46 := eq_false_of_ne_true hb46
                        refine g_false (congrArg Value.bool hb46) ?_
                        refine g_skip ?_
                        refine g_inBlock ?_
                        refine g_region ?_
                        refine r_cons (s_move (.int .i64 (k : Int)) rfl rfl ?_)
                        refine r_cons (s_add ((k : Int) + 1) rfl rfl (wi64 (by omega)) rfl ?_)
                        refine r_cons (s_assign (.int .i64 ((k : Int) + 1)) rfl rfl ?_)
                        refine r_nil ?_
                        have H48 : St W w44 (imi (0 < bs.length) gA15 (.cells kA17 eA18 zA19) :: blk bk8 (.cells #[.slice pp1 bs.length cc2] 30 (0, 0)) :: bndsA bs :: Im 6 (.slice pp1 bs.length cc2) bs.length (bs.flatMap bndCell) :: F) := ((((H45.move 3 rfl).move 3 rfl).move 3 rfl).move 3 rfl)
                        exact nx42 (k + 1) _ _ ⟨(by omega), (fun q hq => (Nat.lt_or_ge q k).elim (hd q) (fun h => by rw [show q = k from by omega, idOf_eq]; simpa using hb46)), H48⟩ (by first | (dsimp only; omega) | omega) ⟨by first | rfl | exact vint (by omega), by first | rfl | exact vint (by omega), by first | rfl | exact vint (by omega), by first | rfl | exact vint (by omega), trivial⟩
                    · skip
                      refine r_cons (s_lss false rfl rfl (dfalse hc43) rfl ?_)
                      refine r_nil ?_
                      refine g_false rfl ?_
                      refine g_exit (by rfl) ?_
                      refine g_seq ?_
                      refine g_region ?_
                      have hns : ¬ idOf (bs.getD j default) ∈ (bs.take j).map idOf := ids_no (k := k) (by omega) (by omega) hd
                      have H49 := bndsA_at j H41 (i := 2) rfl
                      have hat4 := ptAt_4 (L := bs) (i := j) (by first | exact .inl (by assumption) | exact .inl (notfalse (by assumption)) | exact .inr ⟨by assumption, by omega⟩) (by first | exact .inl (by omega) | exact .inr (by assumption) | exact .inr (by simpa [leS] using ‹_›)) hns
                      refine r_cons (s_move (.slice pp1 bs.length cc2) rfl rfl ?_)
                      refine r_cons (s_move (.int .i64 (j : Int)) rfl rfl ?_)
                      refine r_cons (s_indexAddr gA15 (off := oA16) (j : Int) 6 (oA16 + j * 6) (by exact congrArg (fun z_ => Value.slice z_ bs.length cc2) (hp21 (by omega))) rfl el_28 (by omega) rfl rfl ?_)
                      refine r_cons (s_fieldAddr 170 1 1 (oA16 + j * 6 + 1) 168 rfl fi_170_1 rfl rfl ?_)
                      refine r_cons (s_loadAgg [.int .i64 ((bs.getD j default).ev.ev.src.v), .int .i64 ((bs.getD j default).ev.ev.seq.v), .int .i64 ((bs.getD j default).ev.ev.time.v), .string ((bs.getD j default).ev.ev.typ.v), .slice ((bs.getD j default).ev.p) ((bs.getD j default).ev.ev.attrs.length) ((bs.getD j default).ev.c)] 5 ag_168 rfl (H49.imi_at (i := 1) rfl (by omega)) (by have := elem_size (i := j) (s := 6) (hs23 (by omega)) (by omega); omega) (elem_sub bndCell_len (hx22 (by omega)) (by omega) default 1 5 (by decide)) rfl ?_)
                      refine r_cons (s_call [.agg #[.int .i64 ((bs.getD j default).ev.ev.src.v), .int .i64 ((bs.getD j default).ev.ev.seq.v), .int .i64 ((bs.getD j default).ev.ev.time.v), .string ((bs.getD j default).ev.ev.typ.v), .slice ((bs.getD j default).ev.p) ((bs.getD j default).ev.ev.attrs.length) ((bs.getD j default).ev.c)]] pl_103 rfl rfl (ref04_Check ((bs.getD j default).ev.ev) (.slice ((bs.getD j default).ev.p) ((bs.getD j default).ev.ev.attrs.length) ((bs.getD j default).ev.c)) (j := 0) rfl H49) ?_)
                      rintro _ w50 ⟨rfl, H51⟩
                      refine r_cons (s_assign (.int .i64 (evE ((bs.getD j default).ev.ev))) rfl rfl ?_)
                      refine r_nil ?_
                      refine g_seq ?_
                      refine g_region ?_
                      refine r_cons (s_move (.int .i64 (evE ((bs.getD j default).ev.ev))) rfl rfl ?_)
                      by_cases hc52 : evE ((bs.getD j default).ev.ev) = 0
                      · skip
                        refine r_cons (s_neq false rfl rfl (ntrue hc52) rfl ?_)
                        refine r_nil ?_
                        refine g_false rfl ?_
                        refine g_skip ?_
                        refine g_inBlock ?_
                        refine g_region ?_
                        refine r_cons (s_move (.int .i64 (j : Int)) rfl rfl ?_)
                        refine r_cons (s_add ((j : Int) + 1) rfl rfl (wi64 (by omega)) rfl ?_)
                        refine r_cons (s_assign (.int .i64 ((j : Int) + 1)) rfl rfl ?_)
                        refine r_nil ?_
                        have H53 : St W w50 (imi (0 < bs.length) gA15 (.cells kA17 eA18 zA19) :: blk bk8 (.cells #[.slice pp1 bs.length cc2] 30 (0, 0)) :: bndsA bs :: Im 6 (.slice pp1 bs.length cc2) bs.length (bs.flatMap bndCell) :: F) := (((((H51.move 4 rfl).move 4 rfl).move 4 rfl).move 4 rfl).drop 4 rfl)
                        exact nx29 (j + 1) _ _ ⟨(by omega), (fun q hq => (Nat.lt_or_ge q j).elim (hz q) (fun h => by rw [show q = j from by omega, hat4]; assumption)), H53⟩ (by first | (dsimp only; omega) | omega) ⟨by first | rfl | exact vint (by omega), by first | rfl | exact vint (by omega), by first | rfl | exact vint (by omega), trivial⟩
                      · skip
                        refine r_cons (s_neq true rfl rfl (nfalse hc52) rfl ?_)
                        refine r_nil ?_
                        refine g_true rfl ?_
                        refine g_seq ?_
                        refine g_region ?_
                        refine r_cons (s_move (.int .i64 (evE ((bs.getD j default).ev.ev))) rfl rfl ?_)
                        refine r_cons (s_assign (.int .i64 (evE ((bs.getD j default).ev.ev))) rfl rfl ?_)
                        refine r_nil ?_
                        refine g_ret' [.int .i64 (evE ((bs.getD j default).ev.ev))] Try.func61 Try.results61 ⟨rfl, trivial⟩ ?_
                        have H54 : St W w50 F := (((((H51.drop 0 rfl).drop 0 rfl).drop 0 rfl).drop 0 rfl).drop 0 rfl)
                        exact ⟨vint (ptE_at (by omega) hz (by omega) (hat4) (by assumption)).symm, H54⟩
              · skip
                refine q_val rfl rfl rfl (by intro w hw; exact x_gtr false rfl rfl (dfalse hc34) w) ?_
                refine q_cons (q_take rfl rfl ?_)
                refine q_val rfl rfl rfl (by intro w hw; exact x_move (.bool false) rfl w) ?_
                refine q_cons (q_pass rfl rfl rfl rfl rfl ?_)
                refine q_cons (q_pass rfl rfl rfl rfl rfl ?_)
                refine q_cons (q_pass rfl rfl rfl rfl rfl ?_)
                refine q_cons (q_pass rfl rfl rfl rfl rfl ?_)
                refine q_cons (q_pass rfl rfl rfl rfl rfl ?_)
                refine q_cons (q_pass rfl rfl rfl rfl rfl ?_)
                refine q_cons (q_pass rfl rfl rfl rfl rfl ?_)
                refine q_cons (q_pass rfl rfl rfl rfl rfl ?_)
                refine q_cons (q_pass rfl rfl rfl rfl rfl ?_)
                refine q_cons (q_pass rfl rfl rfl rfl rfl ?_)
                refine q_cons (q_pass rfl rfl rfl rfl rfl ?_)
                refine q_cons (q_pass rfl rfl rfl rfl rfl ?_)
                refine q_cons (q_take rfl rfl ?_)
                refine q_val rfl rfl rfl (by intro w hw; exact x_pick_f (.bool false) rfl rfl w) ?_
                refine q_cons (q_val rfl rfl rfl (by intro w hw; exact x_pick_f (.bool false) rfl rfl w) ?_)
                refine q_nil ?_
                intro w55 H56
                refine g_false rfl ?_
                refine g_skip ?_
                refine g_seq ?_
                refine g_seq ?_
                refine g_region ?_
                refine r_cons (s_assign (.int .i64 0) rfl rfl ?_)
                refine r_nil ?_
                refine g_block ?_
                refine g_loop_inv (fun (x_ : Nat) => match x_ with | k => [(2, .int .i64 0), (3, .slice pp1 bs.length cc2), (4, .int .i64 (j : Int)), (5, .int .i64 (k : Int))]) (fun (x_ : Nat) w => match x_ with | k => (k ≤ j) ∧ (∀ q, q < k → ¬ idOf (bs.getD q default) = idOf (bs.getD j default)) ∧ St W w (imi (0 < bs.length) gA15 (.cells kA17 eA18 zA19) :: blk bk8 (.cells #[.slice pp1 bs.length cc2] 30 (0, 0)) :: bndsA bs :: Im 6 (.slice pp1 bs.length cc2) bs.length (bs.flatMap bndCell) :: F)) (fun (x_ : Nat) => match x_ with | k => j - k) (0) ?_ ?_ ?_
                · exact ⟨by first | rfl | exact vint (by omega), by first | rfl | exact vint (by omega), by first | rfl | exact vint (by omega), by first | rfl | exact vint (by omega), trivial⟩
                · exact ⟨(by omega), (fun q hq => by omega), H56⟩
                · rintro k ρ57 w58 ⟨hkj, hd, H59⟩ nx60
                  change Ends _ _ (upds ρ57 [(2, .int .i64 0), (3, .slice pp1 bs.length cc2), (4, .int .i64 (j : Int)), (5, .int .i64 (k : Int))]) w58
                  refine g_seq ?_
                  refine g_seq ?_
                  refine g_region ?_
                  refine r_cons (s_move (.int .i64 (k : Int)) rfl rfl ?_)
                  refine r_cons (s_move (.int .i64 (j : Int)) rfl rfl ?_)
                  by_cases hc61 : (k : Int) < (j : Int)
                  · skip
                    refine r_cons (s_lss true rfl rfl (dtrue hc61) rfl ?_)
                    refine r_nil ?_
                    refine g_true rfl ?_
                    refine g_skip ?_
                    refine g_seq ?_
                    refine g_block ?_
                    refine g_seq ?_
                    refine g_quiet (fun w' => St W w' (imi (0 < bs.length) gA15 (.cells kA17 eA18 zA19) :: blk bk8 (.cells #[.slice pp1 bs.length cc2] 30 (0, 0)) :: bndsA bs :: Im 6 (.slice pp1 bs.length cc2) bs.length (bs.flatMap bndCell) :: F)) mixed (by kernel_rfl) H59.drew ?_
                    refine q_cons (q_val rfl rfl rfl (by intro w hw; exact x_move (.slice pp1 bs.length cc2) rfl w) ?_)
                    refine q_cons (q_val rfl rfl rfl (by intro w hw; exact x_move (.int .i64 (k : Int)) rfl w) ?_)
                    refine q_cons (q_val rfl rfl rfl (by intro w hw; exact x_indexAddr gA15 (off := oA16) (k : Int) 6 (oA16 + k * 6) (by exact congrArg (fun z_ => Value.slice z_ bs.length cc2) (hp21 (by omega))) rfl el_28 (by omega) rfl w) ?_)
                    refine q_cons (q_val rfl rfl rfl (by intro w hw; exact x_fieldAddr 170 1 1 (oA16 + k * 6 + 1) 168 rfl fi_170_1 rfl w) ?_)
                    refine q_cons (q_val rfl rfl rfl (by intro w hw; exact x_fieldAddr 168 0 0 (oA16 + k * 6 + 1) 165 rfl fi_168_0 rfl w) ?_)
                    refine q_cons (q_val rfl rfl rfl (by intro w hw; exact x_loadAgg [.int .i64 ((bs.getD k default).ev.ev.src.v), .int .i64 ((bs.getD k default).ev.ev.seq.v)] 2 ag_165 rfl (hw.imi_at (i := 0) rfl (by omega)) (by have := elem_size (i := k) (s := 6) (hs23 (by omega)) (by omega); omega) (elem_sub bndCell_len (hx22 (by omega)) (by omega) default 1 2 (by decide))) ?_)
                    refine q_cons (q_val rfl rfl rfl (by intro w hw; exact x_move (.slice pp1 bs.length cc2) rfl w) ?_)
                    refine q_cons (q_val rfl rfl rfl (by intro w hw; exact x_move (.int .i64 (j : Int)) rfl w) ?_)
                    refine q_cons (q_val rfl rfl rfl (by intro w hw; exact x_indexAddr gA15 (off := oA16) (j : Int) 6 (oA16 + j * 6) (by exact congrArg (fun z_ => Value.slice z_ bs.length cc2) (hp21 (by omega))) rfl el_28 (by omega) rfl w) ?_)
                    refine q_cons (q_val rfl rfl rfl (by intro w hw; exact x_fieldAddr 170 1 1 (oA16 + j * 6 + 1) 168 rfl fi_170_1 rfl w) ?_)
                    refine q_cons (q_val rfl rfl rfl (by intro w hw; exact x_fieldAddr 168 0 0 (oA16 + j * 6 + 1) 165 rfl fi_168_0 rfl w) ?_)
                    refine q_cons (q_val rfl rfl rfl (by intro w hw; exact x_loadAgg [.int .i64 ((bs.getD j default).ev.ev.src.v), .int .i64 ((bs.getD j default).ev.ev.seq.v)] 2 ag_165 rfl (hw.imi_at (i := 0) rfl (by omega)) (by have := elem_size (i := j) (s := 6) (hs23 (by omega)) (by omega); omega) (elem_sub bndCell_len (hx22 (by omega)) (by omega) default 1 2 (by decide))) ?_)
                    refine q_cons (q_val rfl rfl rfl (by intro w hw; exact x_aeql ((decide ((bs.getD k default).ev.ev.src.v = (bs.getD j default).ev.ev.src.v) && (decide ((bs.getD k default).ev.ev.seq.v = (bs.getD j default).ev.ev.seq.v) && true))) gd_165 ev_165 rfl rfl rfl w) ?_)
                    refine q_nil ?_
                    intro w62 H63
                    by_cases hb64 : ((decide ((bs.getD k default).ev.ev.src.v = (bs.getD j default).ev.ev.src.v) && (decide ((bs.getD k default).ev.ev.seq.v = (bs.getD j default).ev.ev.seq.v) && true))) = true
                    · skip
                      refine g_true (congrArg Value.bool hb64) ?_
                      refine g_seq ?_
                      refine g_region ?_
                      refine r_cons (s_assign (.int .i64 100) rfl rfl ?_)
                      refine r_nil ?_
                      refine g_ret' [.int .i64 100] Try.func61 Try.results61 ⟨rfl, trivial⟩ ?_
                      have H65 : St W w62 F := ((((H63.drop 0 rfl).drop 0 rfl).drop 0 rfl).drop 0 rfl)
                      have hA : ptAt bs j = 100 := by first | exact ptAt_2 (by omega) (by assumption) | exact ptAt_3 (of_decide_eq_true (by assumption)) | (exact ptAt_3 (ids_yes (q := k) (by omega) (by omega) (idOf_eq.2 (by simpa using hb64)))) | (refine ptAt_1 ?_; rintro (h | ⟨h, h2⟩) <;> simp_all)
                      exact ⟨vint (ptE_at (by omega) hz (by omega) hA (by decide)).symm, H65⟩
                    · have hb64 := eq_false_of_ne_true hb64
                      refine g_false (congrArg Value.bool hb64) ?_
                      refine g_skip ?_
                      refine g_inBlock ?_
                      refine g_region ?_
                      refine r_cons (s_move (.int .i64 (k : Int)) rfl rfl ?_)
                      refine r_cons (s_add ((k : Int) + 1) rfl rfl (wi64 (by omega)) rfl ?_)
                      refine r_cons (s_assign (.int .i64 ((k : Int) + 1)) rfl rfl ?_)
                      refine r_nil ?_
                      have H66 : St W w62 (imi (0 < bs.length) gA15 (.cells kA17 eA18 zA19) :: blk bk8 (.cells #[.slice pp1 bs.length cc2] 30 (0, 0)) :: bndsA bs :: Im 6 (.slice pp1 bs.length cc2) bs.length (bs.flatMap bndCell) :: F) := ((((H63.move 3 rfl).move 3 rfl).move 3 rfl).move 3 rfl)
                      exact nx60 (k + 1) _ _ ⟨(by omega), (fun q hq => (Nat.lt_or_ge q k).elim (hd q) (fun h => by rw [show q = k from by omega, idOf_eq]; simpa using hb64)), H66⟩ (by first | (dsimp only; omega) | omega) ⟨by first | rfl | exact vint (by omega), by first | rfl | exact vint (by omega), by first | rfl | exact vint (by omega), by first | rfl | exact vint (by omega), trivial⟩
                  · skip
                    refine r_cons (s_lss false rfl rfl (dfalse hc61) rfl ?_)
                    refine r_nil ?_
                    refine g_false rfl ?_
                    refine g_exit (by rfl) ?_
                    refine g_seq ?_
                    refine g_region ?_
                    have hns : ¬ idOf (bs.getD j default) ∈ (bs.take j).map idOf := ids_no (k := k) (by omega) (by omega) hd
                    have H67 := bndsA_at j H59 (i := 2) rfl
                    have hat4 := ptAt_4 (L := bs) (i := j) (by first | exact .inl (by assumption) | exact .inl (notfalse (by assumption)) | exact .inr ⟨by assumption, by omega⟩) (by first | exact .inl (by omega) | exact .inr (by assumption) | exact .inr (by simpa [leS] using ‹_›)) hns
                    refine r_cons (s_move (.slice pp1 bs.length cc2) rfl rfl ?_)
                    refine r_cons (s_move (.int .i64 (j : Int)) rfl rfl ?_)
                    refine r_cons (s_indexAddr gA15 (off := oA16) (j : Int) 6 (oA16 + j * 6) (by exact congrArg (fun z_ => Value.slice z_ bs.length cc2) (hp21 (by omega))) rfl el_28 (by omega) rfl rfl ?_)
                    refine r_cons (s_fieldAddr 170 1 1 (oA16 + j * 6 + 1) 168 rfl fi_170_1 rfl rfl ?_)
                    refine r_cons (s_loadAgg [.int .i64 ((bs.getD j default).ev.ev.src.v), .int .i64 ((bs.getD j default).ev.ev.seq.v), .int .i64 ((bs.getD j default).ev.ev.time.v), .string ((bs.getD j default).ev.ev.typ.v), .slice ((bs.getD j default).ev.p) ((bs.getD j default).ev.ev.attrs.length) ((bs.getD j default).ev.c)] 5 ag_168 rfl (H67.imi_at (i := 1) rfl (by omega)) (by have := elem_size (i := j) (s := 6) (hs23 (by omega)) (by omega); omega) (elem_sub bndCell_len (hx22 (by omega)) (by omega) default 1 5 (by decide)) rfl ?_)
                    refine r_cons (s_call [.agg #[.int .i64 ((bs.getD j default).ev.ev.src.v), .int .i64 ((bs.getD j default).ev.ev.seq.v), .int .i64 ((bs.getD j default).ev.ev.time.v), .string ((bs.getD j default).ev.ev.typ.v), .slice ((bs.getD j default).ev.p) ((bs.getD j default).ev.ev.attrs.length) ((bs.getD j default).ev.c)]] pl_103 rfl rfl (ref04_Check ((bs.getD j default).ev.ev) (.slice ((bs.getD j default).ev.p) ((bs.getD j default).ev.ev.attrs.length) ((bs.getD j default).ev.c)) (j := 0) rfl H67) ?_)
                    rintro _ w68 ⟨rfl, H69⟩
                    refine r_cons (s_assign (.int .i64 (evE ((bs.getD j default).ev.ev))) rfl rfl ?_)
                    refine r_nil ?_
                    refine g_seq ?_
                    refine g_region ?_
                    refine r_cons (s_move (.int .i64 (evE ((bs.getD j default).ev.ev))) rfl rfl ?_)
                    by_cases hc70 : evE ((bs.getD j default).ev.ev) = 0
                    · skip
                      refine r_cons (s_neq false rfl rfl (ntrue hc70) rfl ?_)
                      refine r_nil ?_
                      refine g_false rfl ?_
                      refine g_skip ?_
                      refine g_inBlock ?_
                      refine g_region ?_
                      refine r_cons (s_move (.int .i64 (j : Int)) rfl rfl ?_)
                      refine r_cons (s_add ((j : Int) + 1) rfl rfl (wi64 (by omega)) rfl ?_)
                      refine r_cons (s_assign (.int .i64 ((j : Int) + 1)) rfl rfl ?_)
                      refine r_nil ?_
                      have H71 : St W w68 (imi (0 < bs.length) gA15 (.cells kA17 eA18 zA19) :: blk bk8 (.cells #[.slice pp1 bs.length cc2] 30 (0, 0)) :: bndsA bs :: Im 6 (.slice pp1 bs.length cc2) bs.length (bs.flatMap bndCell) :: F) := (((((H69.move 4 rfl).move 4 rfl).move 4 rfl).move 4 rfl).drop 4 rfl)
                      exact nx29 (j + 1) _ _ ⟨(by omega), (fun q hq => (Nat.lt_or_ge q j).elim (hz q) (fun h => by rw [show q = j from by omega, hat4]; assumption)), H71⟩ (by first | (dsimp only; omega) | omega) ⟨by first | rfl | exact vint (by omega), by first | rfl | exact vint (by omega), by first | rfl | exact vint (by omega), trivial⟩
                    · skip
                      refine r_cons (s_neq true rfl rfl (nfalse hc70) rfl ?_)
                      refine r_nil ?_
                      refine g_true rfl ?_
                      refine g_seq ?_
                      refine g_region ?_
                      refine r_cons (s_move (.int .i64 (evE ((bs.getD j default).ev.ev))) rfl rfl ?_)
                      refine r_cons (s_assign (.int .i64 (evE ((bs.getD j default).ev.ev))) rfl rfl ?_)
                      refine r_nil ?_
                      refine g_ret' [.int .i64 (evE ((bs.getD j default).ev.ev))] Try.func61 Try.results61 ⟨rfl, trivial⟩ ?_
                      have H72 : St W w68 F := (((((H69.drop 0 rfl).drop 0 rfl).drop 0 rfl).drop 0 rfl).drop 0 rfl)
                      exact ⟨vint (ptE_at (by omega) hz (by omega) (hat4) (by assumption)).symm, H72⟩
            · skip
              refine q_val rfl rfl rfl (by intro w hw; exact x_neq true rfl rfl (nfalse hc33) w) ?_
              refine q_cons (q_take rfl (congrArg some hb31) ?_)
              refine q_val rfl rfl rfl (by intro w hw; exact x_pick_f (.bool true) rfl rfl w) ?_
              refine q_cons (q_val rfl rfl rfl (by intro w hw; exact x_pick_t (.bool true) (by exact congrArg Value.bool hb31) rfl w) ?_)
              refine q_cons (q_val rfl rfl rfl (by intro w hw; exact x_move (.bool true) rfl w) ?_)
              refine q_cons (q_pass rfl rfl rfl rfl rfl ?_)
              refine q_cons (q_pass rfl rfl rfl rfl rfl ?_)
              refine q_cons (q_pass rfl rfl rfl rfl rfl ?_)
              refine q_cons (q_passN rfl rfl rfl rfl ?_)
              refine q_cons (q_passN rfl rfl rfl rfl ?_)
              refine q_cons (q_passN rfl rfl rfl rfl ?_)
              refine q_cons (q_passN rfl rfl rfl rfl ?_)
              refine q_cons (q_passN rfl rfl rfl rfl ?_)
              refine q_cons (q_passN rfl rfl rfl rfl ?_)
              refine q_cons (q_passN rfl rfl rfl rfl ?_)
              refine q_cons (q_passN rfl rfl rfl rfl ?_)
              refine q_cons (q_passN rfl rfl rfl rfl ?_)
              refine q_cons (q_passN rfl rfl rfl rfl ?_)
              refine q_cons (q_passN rfl rfl rfl rfl ?_)
              refine q_cons (q_passN rfl rfl rfl rfl ?_)
              refine q_cons (q_pass rfl rfl rfl rfl rfl ?_)
              refine q_cons (q_val rfl rfl rfl (by intro w hw; exact x_pick_t (.bool true) rfl rfl w) ?_)
              refine q_nil ?_
              intro w73 H74
              refine g_true rfl ?_
              refine g_seq ?_
              refine g_region ?_
              refine r_cons (s_assign (.int .i64 100) rfl rfl ?_)
              refine r_nil ?_
              refine g_ret' [.int .i64 100] Try.func61 Try.results61 ⟨rfl, trivial⟩ ?_
              have H75 : St W w73 F := ((((H74.drop 0 rfl).drop 0 rfl).drop 0 rfl).drop 0 rfl)
              have hA : ptAt bs j = 100 := by first | exact ptAt_2 (by omega) (by assumption) | exact ptAt_3 (of_decide_eq_true (by assumption)) | (exact ptAt_3 (ids_yes (q := k) (by omega) (by omega) (idOf_eq.2 (by simpa using hz)))) | (refine ptAt_1 ?_; rintro (h | ⟨h, h2⟩) <;> simp_all)
              exact ⟨vint (ptE_at (by omega) hz (by omega) hA (by decide)).symm, H75⟩
          · skip
            refine q_val rfl rfl rfl (by intro w hw; exact x_sneq true rfl rfl (nfalse hc32) w) ?_
            refine q_cons (q_take rfl (congrArg some hb31) ?_)
            refine q_val rfl rfl rfl (by intro w hw; exact x_move (.bool true) rfl w) ?_
            refine q_cons (q_pass rfl rfl rfl rfl rfl ?_)
            refine q_cons (q_pass rfl rfl rfl rfl rfl ?_)
            refine q_cons (q_pass rfl rfl rfl rfl rfl ?_)
            refine q_cons (q_take rfl (congrArg some hb31) ?_)
            refine q_val rfl rfl rfl (by intro w hw; exact x_pick_t (.bool true) rfl rfl w) ?_
            refine q_cons (q_val rfl rfl rfl (by intro w hw; exact x_pick_t (.bool true) (by exact congrArg Value.bool hb31) rfl w) ?_)
            refine q_cons (q_val rfl rfl rfl (by intro w hw; exact x_move (.bool true) rfl w) ?_)
            refine q_cons (q_pass rfl rfl rfl rfl rfl ?_)
            refine q_cons (q_pass rfl rfl rfl rfl rfl ?_)
            refine q_cons (q_pass rfl rfl rfl rfl rfl ?_)
            refine q_cons (q_passN rfl rfl rfl rfl ?_)
            refine q_cons (q_passN rfl rfl rfl rfl ?_)
            refine q_cons (q_passN rfl rfl rfl rfl ?_)
            refine q_cons (q_passN rfl rfl rfl rfl ?_)
            refine q_cons (q_passN rfl rfl rfl rfl ?_)
            refine q_cons (q_passN rfl rfl rfl rfl ?_)
            refine q_cons (q_passN rfl rfl rfl rfl ?_)
            refine q_cons (q_passN rfl rfl rfl rfl ?_)
            refine q_cons (q_passN rfl rfl rfl rfl ?_)
            refine q_cons (q_passN rfl rfl rfl rfl ?_)
            refine q_cons (q_passN rfl rfl rfl rfl ?_)
            refine q_cons (q_passN rfl rfl rfl rfl ?_)
            refine q_cons (q_pass rfl rfl rfl rfl rfl ?_)
            refine q_cons (q_val rfl rfl rfl (by intro w hw; exact x_pick_t (.bool true) rfl rfl w) ?_)
            refine q_nil ?_
            intro w76 H77
            refine g_true rfl ?_
            refine g_seq ?_
            refine g_region ?_
            refine r_cons (s_assign (.int .i64 100) rfl rfl ?_)
            refine r_nil ?_
            refine g_ret' [.int .i64 100] Try.func61 Try.results61 ⟨rfl, trivial⟩ ?_
            have H78 : St W w76 F := ((((H77.drop 0 rfl).drop 0 rfl).drop 0 rfl).drop 0 rfl)
            have hA : ptAt bs j = 100 := by first | exact ptAt_2 (by omega) (by assumption) | exact ptAt_3 (of_decide_eq_true (by assumption)) | (exact ptAt_3 (ids_yes (q := k) (by omega) (by omega) (idOf_eq.2 (by simpa using hz)))) | (refine ptAt_1 ?_; rintro (h | ⟨h, h2⟩) <;> simp_all)
            exact ⟨vint (ptE_at (by omega) hz (by omega) hA (by decide)).symm, H78⟩
        · have hb31 := eq_false_of_ne_true hb31
          refine q_cons (q_pass rfl (congrArg some hb31) rfl rfl rfl ?_)
          refine q_cons (q_pass rfl (congrArg some hb31) rfl rfl rfl ?_)
          refine q_cons (q_pass rfl (congrArg some hb31) rfl rfl rfl ?_)
          refine q_cons (q_pass rfl (congrArg some hb31) rfl rfl rfl ?_)
          refine q_cons (q_pass rfl (congrArg some hb31) rfl rfl rfl ?_)
          refine q_cons (q_pass rfl (congrArg some hb31) rfl rfl rfl ?_)
          refine q_cons (q_pass rfl (congrArg some hb31) rfl rfl rfl ?_)
          refine q_cons (q_passN rfl rfl rfl rfl ?_)
          refine q_cons (q_passN rfl rfl rfl rfl ?_)
          refine q_cons (q_passN rfl rfl rfl rfl ?_)
          refine q_cons (q_pass rfl (congrArg some hb31) rfl rfl rfl ?_)
          refine q_cons (q_val rfl rfl rfl (by intro w hw; exact x_pick_f (.bool false) (by exact congrArg Value.bool hb31) rfl w) ?_)
          refine q_cons (q_val rfl rfl rfl (by intro w hw; exact x_move (.bool false) rfl w) ?_)
          refine q_cons (q_take rfl rfl ?_)
          refine q_val rfl rfl rfl (by intro w hw; exact x_move (.int .i64 (j : Int)) rfl w) ?_
          refine q_cons (q_take rfl rfl ?_)
          by_cases hc79 : (0 : Int) < (j : Int)
          · skip
            refine q_val rfl rfl rfl (by intro w hw; exact x_gtr true rfl rfl (dtrue hc79) w) ?_
            refine q_cons (q_take rfl rfl ?_)
            refine q_val rfl rfl rfl (by intro w hw; exact x_move (.bool true) rfl w) ?_
            refine q_cons (q_take rfl rfl ?_)
            refine q_val rfl rfl rfl (by intro w hw; exact x_move (.slice pp1 bs.length cc2) rfl w) ?_
            refine q_cons (q_take rfl rfl ?_)
            refine q_val rfl rfl rfl (by intro w hw; exact x_move (.int .i64 (j : Int)) rfl w) ?_
            refine q_cons (q_take rfl rfl ?_)
            refine q_val rfl rfl rfl (by intro w hw; exact x_indexAddr gA15 (off := oA16) (j : Int) 6 (oA16 + j * 6) (by exact congrArg (fun z_ => Value.slice z_ bs.length cc2) (hp21 (by omega))) rfl el_28 (by omega) rfl w) ?_
            refine q_cons (q_take rfl rfl ?_)
            refine q_val rfl rfl rfl (by intro w hw; exact x_fieldAddr 170 0 0 (oA16 + j * 6) 9 rfl fi_170_0 rfl w) ?_
            refine q_cons (q_take rfl rfl ?_)
            refine q_val rfl rfl rfl (by intro w hw; exact x_load (.string ((bs.getD j default).var.v)) ag_9 rfl (hw.imi_at (i := 0) rfl (by omega)) (elem_cell (L := bs) (i := j) bndCell_len (hx22 (by omega)) (by omega) default 0 (by decide) _ rfl)) ?_
            refine q_cons (q_take rfl rfl ?_)
            refine q_val rfl rfl rfl (by intro w hw; exact x_move (.slice pp1 bs.length cc2) rfl w) ?_
            refine q_cons (q_take rfl rfl ?_)
            refine q_val rfl rfl rfl (by intro w hw; exact x_move (.int .i64 (j : Int)) rfl w) ?_
            refine q_cons (q_take rfl rfl ?_)
            refine q_val rfl rfl rfl (by intro w hw; exact x_sub ((j : Int) - 1) rfl rfl (wi64 (by omega)) w) ?_
            refine q_cons (q_take rfl rfl ?_)
            refine q_val rfl rfl rfl (by intro w hw; exact x_indexAddr gA15 (off := oA16) ((j : Int) - 1) 6 (oA16 + (j - 1) * 6) (by exact congrArg (fun z_ => Value.slice z_ bs.length cc2) (hp21 (by omega))) rfl el_28 (by omega) (by rw [show ((j : Int) - 1 : Int).toNat = j - 1 from by omega]) w) ?_
            refine q_cons (q_take rfl rfl ?_)
            refine q_val rfl rfl rfl (by intro w hw; exact x_fieldAddr 170 0 0 (oA16 + (j - 1) * 6) 9 rfl fi_170_0 rfl w) ?_
            refine q_cons (q_take rfl rfl ?_)
            refine q_val rfl rfl rfl (by intro w hw; exact x_load (.string ((bs.getD (j - 1) default).var.v)) ag_9 rfl (hw.imi_at (i := 0) rfl (by omega)) (elem_cell (L := bs) (i := j - 1) bndCell_len (hx22 (by omega)) (by omega) default 0 (by decide) _ rfl)) ?_
            refine q_cons (q_take rfl rfl ?_)
            refine q_val rfl rfl rfl (by intro w hw; exact x_sleq ((sLt ((bs.getD j default).var.v) ((bs.getD (j - 1) default).var.v) || decide (((bs.getD j default).var.v) = ((bs.getD (j - 1) default).var.v)))) rfl rfl rfl w) ?_
            refine q_cons (q_take rfl rfl ?_)
            refine q_val rfl rfl rfl (by intro w hw; exact x_pick_t (.bool (sLt ((bs.getD j default).var.v) ((bs.getD (j - 1) default).var.v) || decide (((bs.getD j default).var.v) = ((bs.getD (j - 1) default).var.v)))) rfl rfl w) ?_
            refine q_cons (q_val rfl rfl rfl (by intro w hw; exact x_pick_f (.bool (sLt ((bs.getD j default).var.v) ((bs.getD (j - 1) default).var.v) || decide (((bs.getD j default).var.v) = ((bs.getD (j - 1) default).var.v)))) rfl rfl w) ?_)
            refine q_nil ?_
            intro w80 H81
            by_cases hb82 : ((sLt ((bs.getD j default).var.v) ((bs.getD (j - 1) default).var.v) || decide (((bs.getD j default).var.v) = ((bs.getD (j - 1) default).var.v)))) = true
            · skip
              refine g_true (congrArg Value.bool hb82) ?_
              refine g_seq ?_
              refine g_region ?_
              refine r_cons (s_assign (.int .i64 100) rfl rfl ?_)
              refine r_nil ?_
              refine g_ret' [.int .i64 100] Try.func61 Try.results61 ⟨rfl, trivial⟩ ?_
              have H83 : St W w80 F := ((((H81.drop 0 rfl).drop 0 rfl).drop 0 rfl).drop 0 rfl)
              have hA : ptAt bs j = 100 := by first | exact ptAt_2 (by omega) (by assumption) | exact ptAt_3 (of_decide_eq_true (by assumption)) | (exact ptAt_3 (ids_yes (q := k) (by omega) (by omega) (idOf_eq.2 (by simpa using hz)))) | (refine ptAt_1 ?_; rintro (h | ⟨h, h2⟩) <;> simp_all)
              exact ⟨vint (ptE_at (by omega) hz (by omega) hA (by decide)).symm, H83⟩
            · have hb82 := eq_false_of_ne_true hb82
              refine g_false (congrArg Value.bool hb82) ?_
              refine g_skip ?_
              refine g_seq ?_
              refine g_seq ?_
              refine g_region ?_
              refine r_cons (s_assign (.int .i64 0) rfl rfl ?_)
              refine r_nil ?_
              refine g_block ?_
              refine g_loop_inv (fun (x_ : Nat) => match x_ with | k => [(2, .int .i64 0), (3, .slice pp1 bs.length cc2), (4, .int .i64 (j : Int)), (5, .int .i64 (k : Int))]) (fun (x_ : Nat) w => match x_ with | k => (k ≤ j) ∧ (∀ q, q < k → ¬ idOf (bs.getD q default) = idOf (bs.getD j default)) ∧ St W w (imi (0 < bs.length) gA15 (.cells kA17 eA18 zA19) :: blk bk8 (.cells #[.slice pp1 bs.length cc2] 30 (0, 0)) :: bndsA bs :: Im 6 (.slice pp1 bs.length cc2) bs.length (bs.flatMap bndCell) :: F)) (fun (x_ : Nat) => match x_ with | k => j - k) (0) ?_ ?_ ?_
              · exact ⟨by first | rfl | exact vint (by omega), by first | rfl | exact vint (by omega), by first | rfl | exact vint (by omega), by first | rfl | exact vint (by omega), trivial⟩
              · exact ⟨(by omega), (fun q hq => by omega), H81⟩
              · rintro k ρ84 w85 ⟨hkj, hd, H86⟩ nx87
                change Ends _ _ (upds ρ84 [(2, .int .i64 0), (3, .slice pp1 bs.length cc2), (4, .int .i64 (j : Int)), (5, .int .i64 (k : Int))]) w85
                refine g_seq ?_
                refine g_seq ?_
                refine g_region ?_
                refine r_cons (s_move (.int .i64 (k : Int)) rfl rfl ?_)
                refine r_cons (s_move (.int .i64 (j : Int)) rfl rfl ?_)
                by_cases hc88 : (k : Int) < (j : Int)
                · skip
                  refine r_cons (s_lss true rfl rfl (dtrue hc88) rfl ?_)
                  refine r_nil ?_
                  refine g_true rfl ?_
                  refine g_skip ?_
                  refine g_seq ?_
                  refine g_block ?_
                  refine g_seq ?_
                  refine g_quiet (fun w' => St W w' (imi (0 < bs.length) gA15 (.cells kA17 eA18 zA19) :: blk bk8 (.cells #[.slice pp1 bs.length cc2] 30 (0, 0)) :: bndsA bs :: Im 6 (.slice pp1 bs.length cc2) bs.length (bs.flatMap bndCell) :: F)) mixed (by kernel_rfl) H86.drew ?_
                  refine q_cons (q_val rfl rfl rfl (by intro w hw; exact x_move (.slice pp1 bs.length cc2) rfl w) ?_)
                  refine q_cons (q_val rfl rfl rfl (by intro w hw; exact x_move (.int .i64 (k : Int)) rfl w) ?_)
                  refine q_cons (q_val rfl rfl rfl (by intro w hw; exact x_indexAddr gA15 (off := oA16) (k : Int) 6 (oA16 + k * 6) (by exact congrArg (fun z_ => Value.slice z_ bs.length cc2) (hp21 (by omega))) rfl el_28 (by omega) rfl w) ?_)
                  refine q_cons (q_val rfl rfl rfl (by intro w hw; exact x_fieldAddr 170 1 1 (oA16 + k * 6 + 1) 168 rfl fi_170_1 rfl w) ?_)
                  refine q_cons (q_val rfl rfl rfl (by intro w hw; exact x_fieldAddr 168 0 0 (oA16 + k * 6 + 1) 165 rfl fi_168_0 rfl w) ?_)
                  refine q_cons (q_val rfl rfl rfl (by intro w hw; exact x_loadAgg [.int .i64 ((bs.getD k default).ev.ev.src.v), .int .i64 ((bs.getD k default).ev.ev.seq.v)] 2 ag_165 rfl (hw.imi_at (i := 0) rfl (by omega)) (by have := elem_size (i := k) (s := 6) (hs23 (by omega)) (by omega); omega) (elem_sub bndCell_len (hx22 (by omega)) (by omega) default 1 2 (by decide))) ?_)
                  refine q_cons (q_val rfl rfl rfl (by intro w hw; exact x_move (.slice pp1 bs.length cc2) rfl w) ?_)
                  refine q_cons (q_val rfl rfl rfl (by intro w hw; exact x_move (.int .i64 (j : Int)) rfl w) ?_)
                  refine q_cons (q_val rfl rfl rfl (by intro w hw; exact x_indexAddr gA15 (off := oA16) (j : Int) 6 (oA16 + j * 6) (by exact congrArg (fun z_ => Value.slice z_ bs.length cc2) (hp21 (by omega))) rfl el_28 (by omega) rfl w) ?_)
                  refine q_cons (q_val rfl rfl rfl (by intro w hw; exact x_fieldAddr 170 1 1 (oA16 + j * 6 + 1) 168 rfl fi_170_1 rfl w) ?_)
                  refine q_cons (q_val rfl rfl rfl (by intro w hw; exact x_fieldAddr 168 0 0 (oA16 + j * 6 + 1) 165 rfl fi_168_0 rfl w) ?_)
                  refine q_cons (q_val rfl rfl rfl (by intro w hw; exact x_loadAgg [.int .i64 ((bs.getD j default).ev.ev.src.v), .int .i64 ((bs.getD j default).ev.ev.seq.v)] 2 ag_165 rfl (hw.imi_at (i := 0) rfl (by omega)) (by have := elem_size (i := j) (s := 6) (hs23 (by omega)) (by omega); omega) (elem_sub bndCell_len (hx22 (by omega)) (by omega) default 1 2 (by decide))) ?_)
                  refine q_cons (q_val rfl rfl rfl (by intro w hw; exact x_aeql ((decide ((bs.getD k default).ev.ev.src.v = (bs.getD j default).ev.ev.src.v) && (decide ((bs.getD k default).ev.ev.seq.v = (bs.getD j default).ev.ev.seq.v) && true))) gd_165 ev_165 rfl rfl rfl w) ?_)
                  refine q_nil ?_
                  intro w89 H90
                  by_cases hb91 : ((decide ((bs.getD k default).ev.ev.src.v = (bs.getD j default).ev.ev.src.v) && (decide ((bs.getD k default).ev.ev.seq.v = (bs.getD j default).ev.ev.seq.v) && true))) = true
                  · skip
                    refine g_true (congrArg Value.bool hb91) ?_
                    refine g_seq ?_
                    refine g_region ?_
                    refine r_cons (s_assign (.int .i64 100) rfl rfl ?_)
                    refine r_nil ?_
                    refine g_ret' [.int .i64 100] Try.func61 Try.results61 ⟨rfl, trivial⟩ ?_
                    have H92 : St W w89 F := ((((H90.drop 0 rfl).drop 0 rfl).drop 0 rfl).drop 0 rfl)
                    have hA : ptAt bs j = 100 := by first | exact ptAt_2 (by omega) (by assumption) | exact ptAt_3 (of_decide_eq_true (by assumption)) | (exact ptAt_3 (ids_yes (q := k) (by omega) (by omega) (idOf_eq.2 (by simpa using hb91)))) | (refine ptAt_1 ?_; rintro (h | ⟨h, h2⟩) <;> simp_all)
                    exact ⟨vint (ptE_at (by omega) hz (by omega) hA (by decide)).symm, H92⟩
                  · have hb91 := eq_false_of_ne_true hb91
                    refine g_false (congrArg Value.bool hb91) ?_
                    refine g_skip ?_
                    refine g_inBlock ?_
                    refine g_region ?_
                    refine r_cons (s_move (.int .i64 (k : Int)) rfl rfl ?_)
                    refine r_cons (s_add ((k : Int) + 1) rfl rfl (wi64 (by omega)) rfl ?_)
                    refine r_cons (s_assign (.int .i64 ((k : Int) + 1)) rfl rfl ?_)
                    refine r_nil ?_
                    have H93 : St W w89 (imi (0 < bs.length) gA15 (.cells kA17 eA18 zA19) :: blk bk8 (.cells #[.slice pp1 bs.length cc2] 30 (0, 0)) :: bndsA bs :: Im 6 (.slice pp1 bs.length cc2) bs.length (bs.flatMap bndCell) :: F) := ((((H90.move 3 rfl).move 3 rfl).move 3 rfl).move 3 rfl)
                    exact nx87 (k + 1) _ _ ⟨(by omega), (fun q hq => (Nat.lt_or_ge q k).elim (hd q) (fun h => by rw [show q = k from by omega, idOf_eq]; simpa using hb91)), H93⟩ (by first | (dsimp only; omega) | omega) ⟨by first | rfl | exact vint (by omega), by first | rfl | exact vint (by omega), by first | rfl | exact vint (by omega), by first | rfl | exact vint (by omega), trivial⟩
                · skip
                  refine r_cons (s_lss false rfl rfl (dfalse hc88) rfl ?_)
                  refine r_nil ?_
                  refine g_false rfl ?_
                  refine g_exit (by rfl) ?_
                  refine g_seq ?_
                  refine g_region ?_
                  have hns : ¬ idOf (bs.getD j default) ∈ (bs.take j).map idOf := ids_no (k := k) (by omega) (by omega) hd
                  have H94 := bndsA_at j H86 (i := 2) rfl
                  have hat4 := ptAt_4 (L := bs) (i := j) (by first | exact .inl (by assumption) | exact .inl (notfalse (by assumption)) | exact .inr ⟨by assumption, by omega⟩) (by first | exact .inl (by omega) | exact .inr (by assumption) | exact .inr (by simpa [leS] using ‹_›)) hns
                  refine r_cons (s_move (.slice pp1 bs.length cc2) rfl rfl ?_)
                  refine r_cons (s_move (.int .i64 (j : Int)) rfl rfl ?_)
                  refine r_cons (s_indexAddr gA15 (off := oA16) (j : Int) 6 (oA16 + j * 6) (by exact congrArg (fun z_ => Value.slice z_ bs.length cc2) (hp21 (by omega))) rfl el_28 (by omega) rfl rfl ?_)
                  refine r_cons (s_fieldAddr 170 1 1 (oA16 + j * 6 + 1) 168 rfl fi_170_1 rfl rfl ?_)
                  refine r_cons (s_loadAgg [.int .i64 ((bs.getD j default).ev.ev.src.v), .int .i64 ((bs.getD j default).ev.ev.seq.v), .int .i64 ((bs.getD j default).ev.ev.time.v), .string ((bs.getD j default).ev.ev.typ.v), .slice ((bs.getD j default).ev.p) ((bs.getD j default).ev.ev.attrs.length) ((bs.getD j default).ev.c)] 5 ag_168 rfl (H94.imi_at (i := 1) rfl (by omega)) (by have := elem_size (i := j) (s := 6) (hs23 (by omega)) (by omega); omega) (elem_sub bndCell_len (hx22 (by omega)) (by omega) default 1 5 (by decide)) rfl ?_)
                  refine r_cons (s_call [.agg #[.int .i64 ((bs.getD j default).ev.ev.src.v), .int .i64 ((bs.getD j default).ev.ev.seq.v), .int .i64 ((bs.getD j default).ev.ev.time.v), .string ((bs.getD j default).ev.ev.typ.v), .slice ((bs.getD j default).ev.p) ((bs.getD j default).ev.ev.attrs.length) ((bs.getD j default).ev.c)]] pl_103 rfl rfl (ref04_Check ((bs.getD j default).ev.ev) (.slice ((bs.getD j default).ev.p) ((bs.getD j default).ev.ev.attrs.length) ((bs.getD j default).ev.c)) (j := 0) rfl H94) ?_)
                  rintro _ w95 ⟨rfl, H96⟩
                  refine r_cons (s_assign (.int .i64 (evE ((bs.getD j default).ev.ev))) rfl rfl ?_)
                  refine r_nil ?_
                  refine g_seq ?_
                  refine g_region ?_
                  refine r_cons (s_move (.int .i64 (evE ((bs.getD j default).ev.ev))) rfl rfl ?_)
                  by_cases hc97 : evE ((bs.getD j default).ev.ev) = 0
                  · skip
                    refine r_cons (s_neq false rfl rfl (ntrue hc97) rfl ?_)
                    refine r_nil ?_
                    refine g_false rfl ?_
                    refine g_skip ?_
                    refine g_inBlock ?_
                    refine g_region ?_
                    refine r_cons (s_move (.int .i64 (j : Int)) rfl rfl ?_)
                    refine r_cons (s_add ((j : Int) + 1) rfl rfl (wi64 (by omega)) rfl ?_)
                    refine r_cons (s_assign (.int .i64 ((j : Int) + 1)) rfl rfl ?_)
                    refine r_nil ?_
                    have H98 : St W w95 (imi (0 < bs.length) gA15 (.cells kA17 eA18 zA19) :: blk bk8 (.cells #[.slice pp1 bs.length cc2] 30 (0, 0)) :: bndsA bs :: Im 6 (.slice pp1 bs.length cc2) bs.length (bs.flatMap bndCell) :: F) := (((((H96.move 4 rfl).move 4 rfl).move 4 rfl).move 4 rfl).drop 4 rfl)
                    exact nx29 (j + 1) _ _ ⟨(by omega), (fun q hq => (Nat.lt_or_ge q j).elim (hz q) (fun h => by rw [show q = j from by omega, hat4]; assumption)), H98⟩ (by first | (dsimp only; omega) | omega) ⟨by first | rfl | exact vint (by omega), by first | rfl | exact vint (by omega), by first | rfl | exact vint (by omega), trivial⟩
                  · skip
                    refine r_cons (s_neq true rfl rfl (nfalse hc97) rfl ?_)
                    refine r_nil ?_
                    refine g_true rfl ?_
                    refine g_seq ?_
                    refine g_region ?_
                    refine r_cons (s_move (.int .i64 (evE ((bs.getD j default).ev.ev))) rfl rfl ?_)
                    refine r_cons (s_assign (.int .i64 (evE ((bs.getD j default).ev.ev))) rfl rfl ?_)
                    refine r_nil ?_
                    refine g_ret' [.int .i64 (evE ((bs.getD j default).ev.ev))] Try.func61 Try.results61 ⟨rfl, trivial⟩ ?_
                    have H99 : St W w95 F := (((((H96.drop 0 rfl).drop 0 rfl).drop 0 rfl).drop 0 rfl).drop 0 rfl)
                    exact ⟨vint (ptE_at (by omega) hz (by omega) (hat4) (by assumption)).symm, H99⟩
          · skip
            refine q_val rfl rfl rfl (by intro w hw; exact x_gtr false rfl rfl (dfalse hc79) w) ?_
            refine q_cons (q_take rfl rfl ?_)
            refine q_val rfl rfl rfl (by intro w hw; exact x_move (.bool false) rfl w) ?_
            refine q_cons (q_pass rfl rfl rfl rfl rfl ?_)
            refine q_cons (q_pass rfl rfl rfl rfl rfl ?_)
            refine q_cons (q_pass rfl rfl rfl rfl rfl ?_)
            refine q_cons (q_pass rfl rfl rfl rfl rfl ?_)
            refine q_cons (q_pass rfl rfl rfl rfl rfl ?_)
            refine q_cons (q_pass rfl rfl rfl rfl rfl ?_)
            refine q_cons (q_pass rfl rfl rfl rfl rfl ?_)
            refine q_cons (q_pass rfl rfl rfl rfl rfl ?_)
            refine q_cons (q_pass rfl rfl rfl rfl rfl ?_)
            refine q_cons (q_pass rfl rfl rfl rfl rfl ?_)
            refine q_cons (q_pass rfl rfl rfl rfl rfl ?_)
            refine q_cons (q_pass rfl rfl rfl rfl rfl ?_)
            refine q_cons (q_take rfl rfl ?_)
            refine q_val rfl rfl rfl (by intro w hw; exact x_pick_f (.bool false) rfl rfl w) ?_
            refine q_cons (q_val rfl rfl rfl (by intro w hw; exact x_pick_f (.bool false) rfl rfl w) ?_)
            refine q_nil ?_
            intro w100 H101
            refine g_false rfl ?_
            refine g_skip ?_
            refine g_seq ?_
            refine g_seq ?_
            refine g_region ?_
            refine r_cons (s_assign (.int .i64 0) rfl rfl ?_)
            refine r_nil ?_
            refine g_block ?_
            refine g_loop_inv (fun (x_ : Nat) => match x_ with | k => [(2, .int .i64 0), (3, .slice pp1 bs.length cc2), (4, .int .i64 (j : Int)), (5, .int .i64 (k : Int))]) (fun (x_ : Nat) w => match x_ with | k => (k ≤ j) ∧ (∀ q, q < k → ¬ idOf (bs.getD q default) = idOf (bs.getD j default)) ∧ St W w (imi (0 < bs.length) gA15 (.cells kA17 eA18 zA19) :: blk bk8 (.cells #[.slice pp1 bs.length cc2] 30 (0, 0)) :: bndsA bs :: Im 6 (.slice pp1 bs.length cc2) bs.length (bs.flatMap bndCell) :: F)) (fun (x_ : Nat) => match x_ with | k => j - k) (0) ?_ ?_ ?_
            · exact ⟨by first | rfl | exact vint (by omega), by first | rfl | exact vint (by omega), by first | rfl | exact vint (by omega), by first | rfl | exact vint (by omega), trivial⟩
            · exact ⟨(by omega), (fun q hq => by omega), H101⟩
            · rintro k ρ102 w103 ⟨hkj, hd, H104⟩ nx105
              change Ends _ _ (upds ρ102 [(2, .int .i64 0), (3, .slice pp1 bs.length cc2), (4, .int .i64 (j : Int)), (5, .int .i64 (k : Int))]) w103
              refine g_seq ?_
              refine g_seq ?_
              refine g_region ?_
              refine r_cons (s_move (.int .i64 (k : Int)) rfl rfl ?_)
              refine r_cons (s_move (.int .i64 (j : Int)) rfl rfl ?_)
              by_cases hc106 : (k : Int) < (j : Int)
              · skip
                refine r_cons (s_lss true rfl rfl (dtrue hc106) rfl ?_)
                refine r_nil ?_
                refine g_true rfl ?_
                refine g_skip ?_
                refine g_seq ?_
                refine g_block ?_
                refine g_seq ?_
                refine g_quiet (fun w' => St W w' (imi (0 < bs.length) gA15 (.cells kA17 eA18 zA19) :: blk bk8 (.cells #[.slice pp1 bs.length cc2] 30 (0, 0)) :: bndsA bs :: Im 6 (.slice pp1 bs.length cc2) bs.length (bs.flatMap bndCell) :: F)) mixed (by kernel_rfl) H104.drew ?_
                refine q_cons (q_val rfl rfl rfl (by intro w hw; exact x_move (.slice pp1 bs.length cc2) rfl w) ?_)
                refine q_cons (q_val rfl rfl rfl (by intro w hw; exact x_move (.int .i64 (k : Int)) rfl w) ?_)
                refine q_cons (q_val rfl rfl rfl (by intro w hw; exact x_indexAddr gA15 (off := oA16) (k : Int) 6 (oA16 + k * 6) (by exact congrArg (fun z_ => Value.slice z_ bs.length cc2) (hp21 (by omega))) rfl el_28 (by omega) rfl w) ?_)
                refine q_cons (q_val rfl rfl rfl (by intro w hw; exact x_fieldAddr 170 1 1 (oA16 + k * 6 + 1) 168 rfl fi_170_1 rfl w) ?_)
                refine q_cons (q_val rfl rfl rfl (by intro w hw; exact x_fieldAddr 168 0 0 (oA16 + k * 6 + 1) 165 rfl fi_168_0 rfl w) ?_)
                refine q_cons (q_val rfl rfl rfl (by intro w hw; exact x_loadAgg [.int .i64 ((bs.getD k default).ev.ev.src.v), .int .i64 ((bs.getD k default).ev.ev.seq.v)] 2 ag_165 rfl (hw.imi_at (i := 0) rfl (by omega)) (by have := elem_size (i := k) (s := 6) (hs23 (by omega)) (by omega); omega) (elem_sub bndCell_len (hx22 (by omega)) (by omega) default 1 2 (by decide))) ?_)
                refine q_cons (q_val rfl rfl rfl (by intro w hw; exact x_move (.slice pp1 bs.length cc2) rfl w) ?_)
                refine q_cons (q_val rfl rfl rfl (by intro w hw; exact x_move (.int .i64 (j : Int)) rfl w) ?_)
                refine q_cons (q_val rfl rfl rfl (by intro w hw; exact x_indexAddr gA15 (off := oA16) (j : Int) 6 (oA16 + j * 6) (by exact congrArg (fun z_ => Value.slice z_ bs.length cc2) (hp21 (by omega))) rfl el_28 (by omega) rfl w) ?_)
                refine q_cons (q_val rfl rfl rfl (by intro w hw; exact x_fieldAddr 170 1 1 (oA16 + j * 6 + 1) 168 rfl fi_170_1 rfl w) ?_)
                refine q_cons (q_val rfl rfl rfl (by intro w hw; exact x_fieldAddr 168 0 0 (oA16 + j * 6 + 1) 165 rfl fi_168_0 rfl w) ?_)
                refine q_cons (q_val rfl rfl rfl (by intro w hw; exact x_loadAgg [.int .i64 ((bs.getD j default).ev.ev.src.v), .int .i64 ((bs.getD j default).ev.ev.seq.v)] 2 ag_165 rfl (hw.imi_at (i := 0) rfl (by omega)) (by have := elem_size (i := j) (s := 6) (hs23 (by omega)) (by omega); omega) (elem_sub bndCell_len (hx22 (by omega)) (by omega) default 1 2 (by decide))) ?_)
                refine q_cons (q_val rfl rfl rfl (by intro w hw; exact x_aeql ((decide ((bs.getD k default).ev.ev.src.v = (bs.getD j default).ev.ev.src.v) && (decide ((bs.getD k default).ev.ev.seq.v = (bs.getD j default).ev.ev.seq.v) && true))) gd_165 ev_165 rfl rfl rfl w) ?_)
                refine q_nil ?_
                intro w107 H108
                by_cases hb109 : ((decide ((bs.getD k default).ev.ev.src.v = (bs.getD j default).ev.ev.src.v) && (decide ((bs.getD k default).ev.ev.seq.v = (bs.getD j default).ev.ev.seq.v) && true))) = true
                · skip
                  refine g_true (congrArg Value.bool hb109) ?_
                  refine g_seq ?_
                  refine g_region ?_
                  refine r_cons (s_assign (.int .i64 100) rfl rfl ?_)
                  refine r_nil ?_
                  refine g_ret' [.int .i64 100] Try.func61 Try.results61 ⟨rfl, trivial⟩ ?_
                  have H110 : St W w107 F := ((((H108.drop 0 rfl).drop 0 rfl).drop 0 rfl).drop 0 rfl)
                  have hA : ptAt bs j = 100 := by first | exact ptAt_2 (by omega) (by assumption) | exact ptAt_3 (of_decide_eq_true (by assumption)) | (exact ptAt_3 (ids_yes (q := k) (by omega) (by omega) (idOf_eq.2 (by simpa using hb109)))) | (refine ptAt_1 ?_; rintro (h | ⟨h, h2⟩) <;> simp_all)
                  exact ⟨vint (ptE_at (by omega) hz (by omega) hA (by decide)).symm, H110⟩
                · have hb109 := eq_false_of_ne_true hb109
                  refine g_false (congrArg Value.bool hb109) ?_
                  refine g_skip ?_
                  refine g_inBlock ?_
                  refine g_region ?_
                  refine r_cons (s_move (.int .i64 (k : Int)) rfl rfl ?_)
                  refine r_cons (s_add ((k : Int) + 1) rfl rfl (wi64 (by omega)) rfl ?_)
                  refine r_cons (s_assign (.int .i64 ((k : Int) + 1)) rfl rfl ?_)
                  refine r_nil ?_
                  have H111 : St W w107 (imi (0 < bs.length) gA15 (.cells kA17 eA18 zA19) :: blk bk8 (.cells #[.slice pp1 bs.length cc2] 30 (0, 0)) :: bndsA bs :: Im 6 (.slice pp1 bs.length cc2) bs.length (bs.flatMap bndCell) :: F) := ((((H108.move 3 rfl).move 3 rfl).move 3 rfl).move 3 rfl)
                  exact nx105 (k + 1) _ _ ⟨(by omega), (fun q hq => (Nat.lt_or_ge q k).elim (hd q) (fun h => by rw [show q = k from by omega, idOf_eq]; simpa using hb109)), H111⟩ (by first | (dsimp only; omega) | omega) ⟨by first | rfl | exact vint (by omega), by first | rfl | exact vint (by omega), by first | rfl | exact vint (by omega), by first | rfl | exact vint (by omega), trivial⟩
              · skip
                refine r_cons (s_lss false rfl rfl (dfalse hc106) rfl ?_)
                refine r_nil ?_
                refine g_false rfl ?_
                refine g_exit (by rfl) ?_
                refine g_seq ?_
                refine g_region ?_
                have hns : ¬ idOf (bs.getD j default) ∈ (bs.take j).map idOf := ids_no (k := k) (by omega) (by omega) hd
                have H112 := bndsA_at j H104 (i := 2) rfl
                have hat4 := ptAt_4 (L := bs) (i := j) (by first | exact .inl (by assumption) | exact .inl (notfalse (by assumption)) | exact .inr ⟨by assumption, by omega⟩) (by first | exact .inl (by omega) | exact .inr (by assumption) | exact .inr (by simpa [leS] using ‹_›)) hns
                refine r_cons (s_move (.slice pp1 bs.length cc2) rfl rfl ?_)
                refine r_cons (s_move (.int .i64 (j : Int)) rfl rfl ?_)
                refine r_cons (s_indexAddr gA15 (off := oA16) (j : Int) 6 (oA16 + j * 6) (by exact congrArg (fun z_ => Value.slice z_ bs.length cc2) (hp21 (by omega))) rfl el_28 (by omega) rfl rfl ?_)
                refine r_cons (s_fieldAddr 170 1 1 (oA16 + j * 6 + 1) 168 rfl fi_170_1 rfl rfl ?_)
                refine r_cons (s_loadAgg [.int .i64 ((bs.getD j default).ev.ev.src.v), .int .i64 ((bs.getD j default).ev.ev.seq.v), .int .i64 ((bs.getD j default).ev.ev.time.v), .string ((bs.getD j default).ev.ev.typ.v), .slice ((bs.getD j default).ev.p) ((bs.getD j default).ev.ev.attrs.length) ((bs.getD j default).ev.c)] 5 ag_168 rfl (H112.imi_at (i := 1) rfl (by omega)) (by have := elem_size (i := j) (s := 6) (hs23 (by omega)) (by omega); omega) (elem_sub bndCell_len (hx22 (by omega)) (by omega) default 1 5 (by decide)) rfl ?_)
                refine r_cons (s_call [.agg #[.int .i64 ((bs.getD j default).ev.ev.src.v), .int .i64 ((bs.getD j default).ev.ev.seq.v), .int .i64 ((bs.getD j default).ev.ev.time.v), .string ((bs.getD j default).ev.ev.typ.v), .slice ((bs.getD j default).ev.p) ((bs.getD j default).ev.ev.attrs.length) ((bs.getD j default).ev.c)]] pl_103 rfl rfl (ref04_Check ((bs.getD j default).ev.ev) (.slice ((bs.getD j default).ev.p) ((bs.getD j default).ev.ev.attrs.length) ((bs.getD j default).ev.c)) (j := 0) rfl H112) ?_)
                rintro _ w113 ⟨rfl, H114⟩
                refine r_cons (s_assign (.int .i64 (evE ((bs.getD j default).ev.ev))) rfl rfl ?_)
                refine r_nil ?_
                refine g_seq ?_
                refine g_region ?_
                refine r_cons (s_move (.int .i64 (evE ((bs.getD j default).ev.ev))) rfl rfl ?_)
                by_cases hc115 : evE ((bs.getD j default).ev.ev) = 0
                · skip
                  refine r_cons (s_neq false rfl rfl (ntrue hc115) rfl ?_)
                  refine r_nil ?_
                  refine g_false rfl ?_
                  refine g_skip ?_
                  refine g_inBlock ?_
                  refine g_region ?_
                  refine r_cons (s_move (.int .i64 (j : Int)) rfl rfl ?_)
                  refine r_cons (s_add ((j : Int) + 1) rfl rfl (wi64 (by omega)) rfl ?_)
                  refine r_cons (s_assign (.int .i64 ((j : Int) + 1)) rfl rfl ?_)
                  refine r_nil ?_
                  have H116 : St W w113 (imi (0 < bs.length) gA15 (.cells kA17 eA18 zA19) :: blk bk8 (.cells #[.slice pp1 bs.length cc2] 30 (0, 0)) :: bndsA bs :: Im 6 (.slice pp1 bs.length cc2) bs.length (bs.flatMap bndCell) :: F) := (((((H114.move 4 rfl).move 4 rfl).move 4 rfl).move 4 rfl).drop 4 rfl)
                  exact nx29 (j + 1) _ _ ⟨(by omega), (fun q hq => (Nat.lt_or_ge q j).elim (hz q) (fun h => by rw [show q = j from by omega, hat4]; assumption)), H116⟩ (by first | (dsimp only; omega) | omega) ⟨by first | rfl | exact vint (by omega), by first | rfl | exact vint (by omega), by first | rfl | exact vint (by omega), trivial⟩
                · skip
                  refine r_cons (s_neq true rfl rfl (nfalse hc115) rfl ?_)
                  refine r_nil ?_
                  refine g_true rfl ?_
                  refine g_seq ?_
                  refine g_region ?_
                  refine r_cons (s_move (.int .i64 (evE ((bs.getD j default).ev.ev))) rfl rfl ?_)
                  refine r_cons (s_assign (.int .i64 (evE ((bs.getD j default).ev.ev))) rfl rfl ?_)
                  refine r_nil ?_
                  refine g_ret' [.int .i64 (evE ((bs.getD j default).ev.ev))] Try.func61 Try.results61 ⟨rfl, trivial⟩ ?_
                  have H117 : St W w113 F := (((((H114.drop 0 rfl).drop 0 rfl).drop 0 rfl).drop 0 rfl).drop 0 rfl)
                  exact ⟨vint (ptE_at (by omega) hz (by omega) (hat4) (by assumption)).symm, H117⟩
      · skip
        refine r_cons (s_lss false rfl rfl (dfalse hc30) rfl ?_)
        refine r_nil ?_
        refine g_false rfl ?_
        refine g_exit (by rfl) ?_
        refine g_seq ?_
        refine g_region ?_
        refine r_cons (s_assign (.int .i64 0) rfl rfl ?_)
        refine r_nil ?_
        refine g_ret' [.int .i64 0] Try.func61 Try.results61 ⟨rfl, trivial⟩ ?_
        have H118 : St W w27 F := ((((H28.drop 0 rfl).drop 0 rfl).drop 0 rfl).drop 0 rfl)
        exact ⟨vint (ptE_all (by omega) (fun q hq => hz q (by omega))).symm, H118⟩
set_option maxHeartbeats 4000000 in
set_option maxRecDepth 100000 in
theorem match_Clone {W w : World} {F : List Atom} (bs : List BoundD) (bv : Value) (hbl : bs.length * 80 ≤ 140737488355328) (hb9 : ∀ i, i < bs.length → (bs.getD i default).ev.ev.attrs.length * 48 ≤ 140737488355328) {ip : Nat} (hp : F[ip]? = some (Im 6 bv bs.length (bs.flatMap bndCell))) {iq : Nat} (hq : F[iq]? = some (bndsA bs)) (H : St W w F) : Calls Try.prog 105 #[.agg #[bv]] w (Ret fun v w' => ∃ (L : List BoundD) (q : Option Addr) (d : Nat), v = .agg #[.slice q L.length d] ∧ L.map BoundD.v = bs.map BoundD.v ∧ St W w' (Im 6 (.slice q L.length d) L.length (L.flatMap bndCell) :: bndsA L :: F)) := by
  obtain ⟨pp1, cc2, rfl, hn3⟩ := Rd.shape (Im.rd H (i := ip) hp)
  have H4 := H.dup (i := ip + 0) (by exact hp) (Im_pers _ _ _ _)
  have H5 : St W w (Im 6 (.slice pp1 bs.length cc2) bs.length (bs.flatMap bndCell) :: F) := H4
  have H6 := H5.dup (i := iq + 1) (by exact hq) (bndsA_pers _)
  have H7 : St W w (bndsA bs :: Im 6 (.slice pp1 bs.length cc2) bs.length (bs.flatMap bndCell) :: F) := H6
  have hmlb := Im.len H7 (i := 1) rfl
  refine calls_of_go (n := 25) Try.func105 rfl Try.ntmps105 rfl ?_
  refine g_seq ?_
  refine g_region ?_
  refine r_cons (s_box H7 30 (.agg #[.slice pp1 bs.length cc2]) rfl (cs := #[.slice pp1 bs.length cc2]) rfl rfl ?_); intro bk8 w9 H10
  refine r_cons (s_alloc H10 30 ze_30 rfl ?_); intro bk11 w12 H13
  refine r_nil ?_
  refine g_seq ?_
  refine g_region ?_
  refine r_cons (s_assign (.slice none 0 0) rfl rfl ?_)
  refine r_nil ?_
  refine g_seq ?_
  refine g_seq ?_
  refine g_region ?_
  refine r_cons (s_fieldAddr 30 0 0 0 28 rfl fi_30_0 rfl rfl ?_)
  refine r_cons (s_load (.slice pp1 bs.length cc2) ag_28 rfl (H13.blk_at (i := 1) rfl) rfl rfl ?_)
  refine r_cons (s_len bs.length rfl ⟨_, un_28⟩ rfl ?_)
  refine r_cons (s_move (.int .i64 0) rfl rfl ?_)
  refine r_nil ?_
  refine g_block ?_
  obtain ⟨pA14, cA15, gA16, oA17, kA18, eA19, zA20, he26, hn21, hp22, hx23, hs24, hml, H25⟩ := Im.open_ H13 (i := 3) rfl
  obtain ⟨rfl, rfl⟩ : pp1 = pA14 ∧ cc2 = cA15 := by injection he26 with a_ b_ c_; exact ⟨a_, c_⟩
  have H27 := Row.nil_intro H25 170 6
  have H28 := bndsA_nil H27
  have H29 : St W w12 (Row 170 6 (.slice none 0 0) 0 [] :: bndsA ([] : List BoundD) :: imi (0 < bs.length) gA16 (.cells kA18 eA19 zA20) :: blk bk11 (.cells #[.slice none 0 0] 30 (0, 0)) :: blk bk8 (.cells #[.slice pp1 bs.length cc2] 30 (0, 0)) :: bndsA bs :: Im 6 (.slice pp1 bs.length cc2) bs.length (bs.flatMap bndCell) :: F) := (((((((H28.move 6 rfl).move 6 rfl).move 6 rfl).move 6 rfl).move 6 rfl).move 5 rfl).move 6 rfl)
  refine g_loop_inv (fun (x_ : Nat × (List BoundD) × (Option Addr) × Nat) => match x_ with | (j, pre, q, d) => [(2, .pointer (some ⟨bk11, 0, none⟩)), (3, .slice q pre.length d), (7, .slice pp1 bs.length cc2), (8, .int .i64 (bs.length : Int)), (9, .int .i64 (j : Int))]) (fun (x_ : Nat × (List BoundD) × (Option Addr) × Nat) w => match x_ with | (j, pre, q, d) => (j ≤ bs.length) ∧ (pre.map BoundD.v = (bs.take j).map BoundD.v) ∧ St W w (Row 170 6 (.slice q pre.length d) pre.length (pre.flatMap bndCell) :: bndsA pre :: imi (0 < bs.length) gA16 (.cells kA18 eA19 zA20) :: blk bk11 (.cells #[.slice none 0 0] 30 (0, 0)) :: blk bk8 (.cells #[.slice pp1 bs.length cc2] 30 (0, 0)) :: bndsA bs :: Im 6 (.slice pp1 bs.length cc2) bs.length (bs.flatMap bndCell) :: F)) (fun (x_ : Nat × (List BoundD) × (Option Addr) × Nat) => match x_ with | (j, pre, q, d) => bs.length - j) (0, [], none, 0) ?_ ?_ ?_
  · exact ⟨by first | rfl | exact vint (by omega), by first | rfl | exact vint (by omega), by first | rfl | exact vint (by omega), by first | rfl | exact vint (by omega), by first | rfl | exact vint (by omega), trivial⟩
  · exact ⟨(by omega), rfl, H29⟩
  · rintro ⟨j, pre, q, d⟩ ρ30 w31 ⟨hjn, hp9, H32⟩ nx33
    change Ends _ _ (upds ρ30 [(2, .pointer (some ⟨bk11, 0, none⟩)), (3, .slice q pre.length d), (7, .slice pp1 bs.length cc2), (8, .int .i64 (bs.length : Int)), (9, .int .i64 (j : Int))]) w31
    have hpl := bv_len hp9
    rw [List.length_take] at hpl
    refine g_seq ?_
    refine g_region ?_
    by_cases hc34 : (j : Int) < (bs.length : Int)
    · skip
      refine r_cons (s_lss true rfl rfl (dtrue hc34) rfl ?_)
      refine r_nil ?_
      refine g_seq ?_
      refine g_true rfl ?_
      refine g_skip ?_
      refine g_seq ?_
      refine g_block ?_
      refine g_seq ?_
      refine g_region ?_
      refine r_cons (s_indexAddr gA16 (off := oA17) (j : Int) 6 (oA17 + j * 6) (by exact congrArg (fun z_ => Value.slice z_ bs.length cc2) (hp22 (by omega))) rfl el_28 (by omega) rfl rfl ?_)
      refine r_cons (s_loadAgg [.string ((bs.getD j default).var.v), .int .i64 ((bs.getD j default).ev.ev.src.v), .int .i64 ((bs.getD j default).ev.ev.seq.v), .int .i64 ((bs.getD j default).ev.ev.time.v), .string ((bs.getD j default).ev.ev.typ.v), .slice ((bs.getD j default).ev.p) ((bs.getD j default).ev.ev.attrs.length) ((bs.getD j default).ev.c)] 6 ag_170 rfl (H32.imi_at (i := 2) rfl (by omega)) (by have := elem_size (i := j) (s := 6) (hs24 (by omega)) (by omega); omega) (elem_take bndCell_len (hx23 (by omega)) (by omega) default) rfl ?_)
      refine r_cons (s_alloc H32 170 ze_170 rfl ?_); intro bk35 w36 H37
      refine r_cons (s_storeAgg H37 0 #[.string ((bs.getD j default).var.v), .int .i64 ((bs.getD j default).ev.ev.src.v), .int .i64 ((bs.getD j default).ev.ev.seq.v), .int .i64 ((bs.getD j default).ev.ev.time.v), .string ((bs.getD j default).ev.ev.typ.v), .slice ((bs.getD j default).ev.p) ((bs.getD j default).ev.ev.attrs.length) ((bs.getD j default).ev.c)] 6 rfl rfl rfl sz_170 rfl (by simp [Value.oneCell']) (Nat.le_of_ble_eq_true rfl) (fun o h1 h2 => by first | (simp; done) | (simp; omega)) (cs' := #[.string ((bs.getD j default).var.v), .int .i64 ((bs.getD j default).ev.ev.src.v), .int .i64 ((bs.getD j default).ev.ev.seq.v), .int .i64 ((bs.getD j default).ev.ev.time.v), .string ((bs.getD j default).ev.ev.typ.v), .slice ((bs.getD j default).ev.p) ((bs.getD j default).ev.ev.attrs.length) ((bs.getD j default).ev.c)]) rfl ?_); intro w38 H39
      refine r_nil ?_
      have H40 : St W w38 (blk bk35 (.cells #[.string ((bs.getD j default).var.v), .int .i64 ((bs.getD j default).ev.ev.src.v), .int .i64 ((bs.getD j default).ev.ev.seq.v), .int .i64 ((bs.getD j default).ev.ev.time.v), .string ((bs.getD j default).ev.ev.typ.v), .slice ((bs.getD j default).ev.p) ((bs.getD j default).ev.ev.attrs.length) ((bs.getD j default).ev.c)] 170 (0, 0)) :: bndsA pre :: imi (0 < bs.length) gA16 (.cells kA18 eA19 zA20) :: blk bk11 (.cells #[.slice none 0 0] 30 (0, 0)) :: blk bk8 (.cells #[.slice pp1 bs.length cc2] 30 (0, 0)) :: bndsA bs :: Im 6 (.slice pp1 bs.length cc2) bs.length (bs.flatMap bndCell) :: Row 170 6 (.slice q pre.length d) pre.length (pre.flatMap bndCell) :: F) := ((((((((H39.move 1 rfl).move 7 rfl).move 7 rfl).move 7 rfl).move 7 rfl).move 7 rfl).move 7 rfl).move 7 rfl)
      refine g_mix (fun t_ w => St W w (blk bk35 (.cells #[.string ((bs.getD j default).var.v), .int .i64 ((bs.getD j default).ev.ev.src.v), .int .i64 ((bs.getD j default).ev.ev.seq.v), .int .i64 ((bs.getD j default).ev.ev.time.v), .string ((bs.getD j default).ev.ev.typ.v), .slice ((bs.getD j default).ev.p) ((bs.getD j default).ev.ev.attrs.length) ((bs.getD j default).ev.c)] 170 (0, 0)) :: bndsA pre :: imi (0 < bs.length) gA16 (.cells kA18 eA19 zA20) :: blk bk11 (.cells #[.slice none 0 0] 30 (0, 0)) :: blk bk8 (.cells #[.slice pp1 bs.length cc2] 30 (0, 0)) :: bndsA bs :: Im 6 (.slice pp1 bs.length cc2) bs.length (bs.flatMap bndCell) :: t_)) (Row 170 6 (.slice q pre.length d) pre.length (pre.flatMap bndCell) :: F) mixed 10 rfl H40.drew ?_
      refine f_first 0 (listed' := #[true, false, false, false, false, false, false, false, false, false]) rfl (by kernel_rfl) (by kernel_rfl) (by kernel_rfl) rfl ?_
      refine f_val rfl rfl rfl (by intro t_ w hw; exact x_move (.slice q pre.length d) rfl w) ?_
      refine f_first 1 (listed' := #[true, true, false, false, false, false, false, false, false, false]) rfl (by kernel_rfl) (by kernel_rfl) (by kernel_rfl) rfl ?_
      refine f_val rfl rfl rfl (by intro t_ w hw; exact x_fieldAddr 170 0 0 0 9 rfl fi_170_0 rfl w) ?_
      refine f_first 2 (listed' := #[true, true, true, false, false, false, false, false, false, false]) rfl (by kernel_rfl) (by kernel_rfl) (by kernel_rfl) rfl ?_
      refine f_val rfl rfl rfl (by intro t_ w hw; exact x_load (.string ((bs.getD j default).var.v)) ag_9 rfl (hw.blk_at (i := 0) rfl) rfl) ?_
      refine f_first 3 (listed' := #[true, true, true, true, false, false, false, false, false, false]) rfl (by kernel_rfl) (by kernel_rfl) (by kernel_rfl) rfl ?_
      refine f_val rfl rfl rfl (by intro t_ w hw; exact x_fieldAddr 170 1 1 1 168 rfl fi_170_1 rfl w) ?_
      refine f_first 4 (listed' := #[true, true, true, true, true, false, false, false, false, false]) rfl (by kernel_rfl) (by kernel_rfl) (by kernel_rfl) rfl ?_
      refine f_val rfl rfl rfl (by intro t_ w hw; exact x_loadAgg [.int .i64 ((bs.getD j default).ev.ev.src.v), .int .i64 ((bs.getD j default).ev.ev.seq.v), .int .i64 ((bs.getD j default).ev.ev.time.v), .string ((bs.getD j default).ev.ev.typ.v), .slice ((bs.getD j default).ev.p) ((bs.getD j default).ev.ev.attrs.length) ((bs.getD j default).ev.c)] 5 ag_168 rfl (hw.blk_at (i := 0) rfl) (Nat.le_of_ble_eq_true rfl) rfl) ?_
      refine f_all (rs := [5]) (by kernel_rfl) (by simp) ?_
      refine a_cons ⟨_, rfl, ?_⟩ (fun x hx => absurd hx (by simp))
      intro w41 H42
      try dsimp only at H42
      have H43 := bndsA_at j H42 (i := 5) rfl
      have hab := hb9 j (by omega)
      refine s_call [.agg #[.int .i64 ((bs.getD j default).ev.ev.src.v), .int .i64 ((bs.getD j default).ev.ev.seq.v), .int .i64 ((bs.getD j default).ev.ev.time.v), .string ((bs.getD j default).ev.ev.typ.v), .slice ((bs.getD j default).ev.p) ((bs.getD j default).ev.ev.attrs.length) ((bs.getD j default).ev.c)]] pl_135 rfl rfl (event_Clone ((bs.getD j default).ev.ev) (.slice ((bs.getD j default).ev.p) ((bs.getD j default).ev.ev.attrs.length) ((bs.getD j default).ev.c)) (by omega) (j := 0) rfl H43) ?_
      rintro _ w46 ⟨pp44, cc45, rfl, H47⟩
      have H48 : St W w46 (blk bk35 (.cells #[.string ((bs.getD j default).var.v), .int .i64 ((bs.getD j default).ev.ev.src.v), .int .i64 ((bs.getD j default).ev.ev.seq.v), .int .i64 ((bs.getD j default).ev.ev.time.v), .string ((bs.getD j default).ev.ev.typ.v), .slice ((bs.getD j default).ev.p) ((bs.getD j default).ev.ev.attrs.length) ((bs.getD j default).ev.c)] 170 (0, 0)) :: bndsA pre :: imi (0 < bs.length) gA16 (.cells kA18 eA19 zA20) :: blk bk11 (.cells #[.slice none 0 0] 30 (0, 0)) :: blk bk8 (.cells #[.slice pp1 bs.length cc2] 30 (0, 0)) :: bndsA bs :: Im 6 (.slice pp1 bs.length cc2) bs.length (bs.flatMap bndCell) :: Attrs (.slice pp44 ((bs.getD j default).ev.ev.attrs.length) cc45) ((bs.getD j default).ev.ev.attrs) :: Attrs (.slice ((bs.getD j default).ev.p) ((bs.getD j default).ev.ev.attrs.length) ((bs.getD j default).ev.c)) ((bs.getD j default).ev.ev.attrs) :: Row 170 6 (.slice q pre.length d) pre.length (pre.flatMap bndCell) :: F) := ((((((((((H47.move 9 rfl).move 2 rfl).move 2 rfl).move 9 rfl).move 9 rfl).move 9 rfl).move 9 rfl).move 9 rfl).move 9 rfl).move 9 rfl)
      refine ⟨Attrs (.slice pp44 ((bs.getD j default).ev.ev.attrs.length) cc45) ((bs.getD j default).ev.ev.attrs) :: Attrs (.slice ((bs.getD j default).ev.p) ((bs.getD j default).ev.ev.attrs.length) ((bs.getD j default).ev.c)) ((bs.getD j default).ev.ev.attrs) :: Row 170 6 (.slice q pre.length d) pre.length (pre.flatMap bndCell) :: F, ?_, H48⟩
      change FReg _ _ _ _ _ #[true, true, true, true, true, true, false, false, false, false] _ _
      refine f_first 6 (listed' := #[true, true, true, true, true, true, true, false, false, false]) rfl (by kernel_rfl) (by kernel_rfl) (by kernel_rfl) rfl ?_
      refine f_val rfl rfl rfl (by intro t_ w hw; exact x_build (cs := #[.string ((bs.getD j default).var.v), .int .i64 ((bs.getD j default).ev.ev.src.v), .int .i64 ((bs.getD j default).ev.ev.seq.v), .int .i64 ((bs.getD j default).ev.ev.time.v), .string ((bs.getD j default).ev.ev.typ.v), .slice pp44 ((bs.getD j default).ev.ev.attrs.length) cc45]) (by kernel_rfl) w) ?_
      refine f_all (rs := [7]) (by kernel_rfl) (by simp) ?_
      refine a_cons ⟨_, rfl, ?_⟩ (fun x hx => absurd hx (by simp))
      intro w49 H50
      try dsimp only at H50
      refine s_buildSlice H50 6 1 (cs := #[.string ((bs.getD j default).var.v), .int .i64 ((bs.getD j default).ev.ev.src.v), .int .i64 ((bs.getD j default).ev.ev.seq.v), .int .i64 ((bs.getD j default).ev.ev.time.v), .string ((bs.getD j default).ev.ev.typ.v), .slice pp44 ((bs.getD j default).ev.ev.attrs.length) cc45]) #[.string ByteArray.empty, .int .i64 0, .int .i64 0, .int .i64 0, .string ByteArray.empty, .slice none 0 0] el_28 ze_170 (by decide) (by decide) (by kernel_rfl) rfl ?_; intro bk51 w52 H53
      have H54 : St W w52 (Im 6 (.slice pp1 bs.length cc2) bs.length (bs.flatMap bndCell) :: blk bk51 (.cells #[.string ((bs.getD j default).var.v), .int .i64 ((bs.getD j default).ev.ev.src.v), .int .i64 ((bs.getD j default).ev.ev.seq.v), .int .i64 ((bs.getD j default).ev.ev.time.v), .string ((bs.getD j default).ev.ev.typ.v), .slice pp44 ((bs.getD j default).ev.ev.attrs.length) cc45] 170 (0, 0)) :: Attrs (.slice pp44 ((bs.getD j default).ev.ev.attrs.length) cc45) ((bs.getD j default).ev.ev.attrs) :: Attrs (.slice ((bs.getD j default).ev.p) ((bs.getD j default).ev.ev.attrs.length) ((bs.getD j default).ev.c)) ((bs.getD j default).ev.ev.attrs) :: Row 170 6 (.slice q pre.length d) pre.length (pre.flatMap bndCell) :: blk bk35 (.cells #[.string ((bs.getD j default).var.v), .int .i64 ((bs.getD j default).ev.ev.src.v), .int .i64 ((bs.getD j default).ev.ev.seq.v), .int .i64 ((bs.getD j default).ev.ev.time.v), .string ((bs.getD j default).ev.ev.typ.v), .slice ((bs.getD j default).ev.p) ((bs.getD j default).ev.ev.attrs.length) ((bs.getD j default).ev.c)] 170 (0, 0)) :: bndsA pre :: imi (0 < bs.length) gA16 (.cells kA18 eA19 zA20) :: blk bk11 (.cells #[.slice none 0 0] 30 (0, 0)) :: blk bk8 (.cells #[.slice pp1 bs.length cc2] 30 (0, 0)) :: bndsA bs :: F) := (((((H53.move 10 rfl).move 10 rfl).move 10 rfl).move 3 rfl).move 10 rfl)
      have H55 : St W w52 (bndsA pre :: imi (0 < bs.length) gA16 (.cells kA18 eA19 zA20) :: blk bk11 (.cells #[.slice none 0 0] 30 (0, 0)) :: blk bk8 (.cells #[.slice pp1 bs.length cc2] 30 (0, 0)) :: bndsA bs :: Im 6 (.slice pp1 bs.length cc2) bs.length (bs.flatMap bndCell) :: blk bk51 (.cells #[.string ((bs.getD j default).var.v), .int .i64 ((bs.getD j default).ev.ev.src.v), .int .i64 ((bs.getD j default).ev.ev.seq.v), .int .i64 ((bs.getD j default).ev.ev.time.v), .string ((bs.getD j default).ev.ev.typ.v), .slice pp44 ((bs.getD j default).ev.ev.attrs.length) cc45] 170 (0, 0)) :: Attrs (.slice pp44 ((bs.getD j default).ev.ev.attrs.length) cc45) ((bs.getD j default).ev.ev.attrs) :: Attrs (.slice ((bs.getD j default).ev.p) ((bs.getD j default).ev.ev.attrs.length) ((bs.getD j default).ev.c)) ((bs.getD j default).ev.ev.attrs) :: Row 170 6 (.slice q pre.length d) pre.length (pre.flatMap bndCell) :: blk bk35 (.cells #[.string ((bs.getD j default).var.v), .int .i64 ((bs.getD j default).ev.ev.src.v), .int .i64 ((bs.getD j default).ev.ev.seq.v), .int .i64 ((bs.getD j default).ev.ev.time.v), .string ((bs.getD j default).ev.ev.typ.v), .slice ((bs.getD j default).ev.p) ((bs.getD j default).ev.ev.attrs.length) ((bs.getD j default).ev.c)] 170 (0, 0)) :: F) := (((((H54.move 10 rfl).move 10 rfl).move 10 rfl).move 10 rfl).move 10 rfl)
      have H56 : St W w52 (blk bk35 (.cells #[.string ((bs.getD j default).var.v), .int .i64 ((bs.getD j default).ev.ev.src.v), .int .i64 ((bs.getD j default).ev.ev.seq.v), .int .i64 ((bs.getD j default).ev.ev.time.v), .string ((bs.getD j default).ev.ev.typ.v), .slice ((bs.getD j default).ev.p) ((bs.getD j default).ev.ev.attrs.length) ((bs.getD j default).ev.c)] 170 (0, 0)) :: bndsA pre :: imi (0 < bs.length) gA16 (.cells kA18 eA19 zA20) :: blk bk11 (.cells #[.slice none 0 0] 30 (0, 0)) :: blk bk8 (.cells #[.slice pp1 bs.length cc2] 30 (0, 0)) :: bndsA bs :: Im 6 (.slice pp1 bs.length cc2) bs.length (bs.flatMap bndCell) :: blk bk51 (.cells #[.string ((bs.getD j default).var.v), .int .i64 ((bs.getD j default).ev.ev.src.v), .int .i64 ((bs.getD j default).ev.ev.seq.v), .int .i64 ((bs.getD j default).ev.ev.time.v), .string ((bs.getD j default).ev.ev.typ.v), .slice pp44 ((bs.getD j default).ev.ev.attrs.length) cc45] 170 (0, 0)) :: Attrs (.slice pp44 ((bs.getD j default).ev.ev.attrs.length) cc45) ((bs.getD j default).ev.ev.attrs) :: Attrs (.slice ((bs.getD j default).ev.p) ((bs.getD j default).ev.ev.attrs.length) ((bs.getD j default).ev.c)) ((bs.getD j default).ev.ev.attrs) :: Row 170 6 (.slice q pre.length d) pre.length (pre.flatMap bndCell) :: F) := (H55.move 10 rfl)
      refine ⟨blk bk51 (.cells #[.string ((bs.getD j default).var.v), .int .i64 ((bs.getD j default).ev.ev.src.v), .int .i64 ((bs.getD j default).ev.ev.seq.v), .int .i64 ((bs.getD j default).ev.ev.time.v), .string ((bs.getD j default).ev.ev.typ.v), .slice pp44 ((bs.getD j default).ev.ev.attrs.length) cc45] 170 (0, 0)) :: Attrs (.slice pp44 ((bs.getD j default).ev.ev.attrs.length) cc45) ((bs.getD j default).ev.ev.attrs) :: Attrs (.slice ((bs.getD j default).ev.p) ((bs.getD j default).ev.ev.attrs.length) ((bs.getD j default).ev.c)) ((bs.getD j default).ev.ev.attrs) :: Row 170 6 (.slice q pre.length d) pre.length (pre.flatMap bndCell) :: F, ?_, H56⟩
      change FReg _ _ _ _ _ #[true, true, true, true, true, true, true, true, false, false] _ _
      refine f_all (rs := [8]) (by kernel_rfl) (by simp) ?_
      refine a_cons ⟨_, rfl, ?_⟩ (fun x hx => absurd hx (by simp))
      intro w57 H58
      try dsimp only at H58
      refine s_append H58 10 rfl rfl rfl (rd_blk (H58.blk_at (i := 7) rfl) rfl (Nat.le_of_ble_eq_true rfl) (by simp [Value.oneCell'])) ap_28 (by decide) (by unfold maxLen; omega) (by omega) (n' := pre.length + 1) (xs' := pre.flatMap bndCell ++ ([.string ((bs.getD j default).var.v), .int .i64 ((bs.getD j default).ev.ev.src.v), .int .i64 ((bs.getD j default).ev.ev.seq.v), .int .i64 ((bs.getD j default).ev.ev.time.v), .string ((bs.getD j default).ev.ev.typ.v), .slice pp44 ((bs.getD j default).ev.ev.attrs.length) cc45] : List Value)) (by omega) (by first | rfl | simp) rfl ?_; intro vv59 w60 H61 hn62
      obtain ⟨pp63, cc64, rfl⟩ := Row.slice H61 (i := 10) rfl
      refine ⟨blk bk51 (.cells #[.string ((bs.getD j default).var.v), .int .i64 ((bs.getD j default).ev.ev.src.v), .int .i64 ((bs.getD j default).ev.ev.seq.v), .int .i64 ((bs.getD j default).ev.ev.time.v), .string ((bs.getD j default).ev.ev.typ.v), .slice pp44 ((bs.getD j default).ev.ev.attrs.length) cc45] 170 (0, 0)) :: Attrs (.slice pp44 ((bs.getD j default).ev.ev.attrs.length) cc45) ((bs.getD j default).ev.ev.attrs) :: Attrs (.slice ((bs.getD j default).ev.p) ((bs.getD j default).ev.ev.attrs.length) ((bs.getD j default).ev.c)) ((bs.getD j default).ev.ev.attrs) :: Row 170 6 (.slice pp63 (pre.length + 1) cc64) (pre.length + 1) (pre.flatMap bndCell ++ ([.string ((bs.getD j default).var.v), .int .i64 ((bs.getD j default).ev.ev.src.v), .int .i64 ((bs.getD j default).ev.ev.seq.v), .int .i64 ((bs.getD j default).ev.ev.time.v), .string ((bs.getD j default).ev.ev.typ.v), .slice pp44 ((bs.getD j default).ev.ev.attrs.length) cc45] : List Value)) :: F, ?_, H61⟩
      change FReg _ _ _ _ _ #[true, true, true, true, true, true, true, true, true, false] _ _
      refine f_first 9 (listed' := #[true, true, true, true, true, true, true, true, true, true]) rfl (by kernel_rfl) (by kernel_rfl) (by kernel_rfl) rfl ?_
      refine f_val rfl rfl rfl (by intro t_ w hw; exact x_assign (.slice pp63 (pre.length + 1) cc64) rfl w) ?_
      refine f_done (by kernel_rfl) ?_
      intro w65 H66
      refine g_inBlock ?_
      refine g_region ?_
      refine r_cons (s_add ((j : Int) + 1) rfl rfl (wi64 (by omega)) rfl ?_)
      refine r_cons (s_move (.int .i64 ((j : Int) + 1)) rfl rfl ?_)
      refine r_nil ?_
      have H67 : St W w65 (Attrs (.slice pp44 ((bs.getD j default).ev.ev.attrs.length) cc45) ((bs.getD j default).ev.ev.attrs) :: bndsA pre :: blk bk35 (.cells #[.string ((bs.getD j default).var.v), .int .i64 ((bs.getD j default).ev.ev.src.v), .int .i64 ((bs.getD j default).ev.ev.seq.v), .int .i64 ((bs.getD j default).ev.ev.time.v), .string ((bs.getD j default).ev.ev.typ.v), .slice ((bs.getD j default).ev.p) ((bs.getD j default).ev.ev.attrs.length) ((bs.getD j default).ev.c)] 170 (0, 0)) :: imi (0 < bs.length) gA16 (.cells kA18 eA19 zA20) :: blk bk11 (.cells #[.slice none 0 0] 30 (0, 0)) :: blk bk8 (.cells #[.slice pp1 bs.length cc2] 30 (0, 0)) :: bndsA bs :: Im 6 (.slice pp1 bs.length cc2) bs.length (bs.flatMap bndCell) :: blk bk51 (.cells #[.string ((bs.getD j default).var.v), .int .i64 ((bs.getD j default).ev.ev.src.v), .int .i64 ((bs.getD j default).ev.ev.seq.v), .int .i64 ((bs.getD j default).ev.ev.time.v), .string ((bs.getD j default).ev.ev.typ.v), .slice pp44 ((bs.getD j default).ev.ev.attrs.length) cc45] 170 (0, 0)) :: Attrs (.slice ((bs.getD j default).ev.p) ((bs.getD j default).ev.ev.attrs.length) ((bs.getD j default).ev.c)) ((bs.getD j default).ev.ev.attrs) :: Row 170 6 (.slice pp63 (pre.length + 1) cc64) (pre.length + 1) (pre.flatMap bndCell ++ ([.string ((bs.getD j default).var.v), .int .i64 ((bs.getD j default).ev.ev.src.v), .int .i64 ((bs.getD j default).ev.ev.seq.v), .int .i64 ((bs.getD j default).ev.ev.time.v), .string ((bs.getD j default).ev.ev.typ.v), .slice pp44 ((bs.getD j default).ev.ev.attrs.length) cc45] : List Value)) :: F) := ((H66.move 1 rfl).move 8 rfl)
      have H68 : St W w65 (bndsA (pre ++ [(⟨(bs.getD j default).var, ⟨(bs.getD j default).ev.ev, pp44, cc45⟩⟩ : BoundD)]) :: blk bk35 (.cells #[.string ((bs.getD j default).var.v), .int .i64 ((bs.getD j default).ev.ev.src.v), .int .i64 ((bs.getD j default).ev.ev.seq.v), .int .i64 ((bs.getD j default).ev.ev.time.v), .string ((bs.getD j default).ev.ev.typ.v), .slice ((bs.getD j default).ev.p) ((bs.getD j default).ev.ev.attrs.length) ((bs.getD j default).ev.c)] 170 (0, 0)) :: imi (0 < bs.length) gA16 (.cells kA18 eA19 zA20) :: blk bk11 (.cells #[.slice none 0 0] 30 (0, 0)) :: blk bk8 (.cells #[.slice pp1 bs.length cc2] 30 (0, 0)) :: bndsA bs :: Im 6 (.slice pp1 bs.length cc2) bs.length (bs.flatMap bndCell) :: blk bk51 (.cells #[.string ((bs.getD j default).var.v), .int .i64 ((bs.getD j default).ev.ev.src.v), .int .i64 ((bs.getD j default).ev.ev.seq.v), .int .i64 ((bs.getD j default).ev.ev.time.v), .string ((bs.getD j default).ev.ev.typ.v), .slice pp44 ((bs.getD j default).ev.ev.attrs.length) cc45] 170 (0, 0)) :: Attrs (.slice ((bs.getD j default).ev.p) ((bs.getD j default).ev.ev.attrs.length) ((bs.getD j default).ev.c)) ((bs.getD j default).ev.ev.attrs) :: Row 170 6 (.slice pp63 (pre.length + 1) cc64) (pre.length + 1) (pre.flatMap bndCell ++ ([.string ((bs.getD j default).var.v), .int .i64 ((bs.getD j default).ev.ev.src.v), .int .i64 ((bs.getD j default).ev.ev.seq.v), .int .i64 ((bs.getD j default).ev.ev.time.v), .string ((bs.getD j default).ev.ev.typ.v), .slice pp44 ((bs.getD j default).ev.ev.attrs.length) cc45] : List Value)) :: F) := bndsA_snoc (x := (⟨(bs.getD j default).var, ⟨(bs.getD j default).ev.ev, pp44, cc45⟩⟩ : BoundD)) H67
      have H69 : St W w65 (bndsA (pre ++ [(⟨(bs.getD j default).var, ⟨(bs.getD j default).ev.ev, pp44, cc45⟩⟩ : BoundD)]) :: blk bk35 (.cells #[.string ((bs.getD j default).var.v), .int .i64 ((bs.getD j default).ev.ev.src.v), .int .i64 ((bs.getD j default).ev.ev.seq.v), .int .i64 ((bs.getD j default).ev.ev.time.v), .string ((bs.getD j default).ev.ev.typ.v), .slice ((bs.getD j default).ev.p) ((bs.getD j default).ev.ev.attrs.length) ((bs.getD j default).ev.c)] 170 (0, 0)) :: imi (0 < bs.length) gA16 (.cells kA18 eA19 zA20) :: blk bk11 (.cells #[.slice none 0 0] 30 (0, 0)) :: blk bk8 (.cells #[.slice pp1 bs.length cc2] 30 (0, 0)) :: bndsA bs :: Im 6 (.slice pp1 bs.length cc2) bs.length (bs.flatMap bndCell) :: blk bk51 (.cells #[.string ((bs.getD j default).var.v), .int .i64 ((bs.getD j default).ev.ev.src.v), .int .i64 ((bs.getD j default).ev.ev.seq.v), .int .i64 ((bs.getD j default).ev.ev.time.v), .string ((bs.getD j default).ev.ev.typ.v), .slice pp44 ((bs.getD j default).ev.ev.attrs.length) cc45] 170 (0, 0)) :: Attrs (.slice ((bs.getD j default).ev.p) ((bs.getD j default).ev.ev.attrs.length) ((bs.getD j default).ev.c)) ((bs.getD j default).ev.ev.attrs) :: Row 170 6 (.slice pp63 ((pre ++ [(⟨(bs.getD j default).var, ⟨(bs.getD j default).ev.ev, pp44, cc45⟩⟩ : BoundD)]).length) cc64) ((pre ++ [(⟨(bs.getD j default).var, ⟨(bs.getD j default).ev.ev, pp44, cc45⟩⟩ : BoundD)]).length) ((pre ++ [(⟨(bs.getD j default).var, ⟨(bs.getD j default).ev.ev, pp44, cc45⟩⟩ : BoundD)]).flatMap bndCell) :: F) := by rw [List.flatMap_append, List.length_append]; exact H68
      have H70 : St W w65 (Row 170 6 (.slice pp63 ((pre ++ [(⟨(bs.getD j default).var, ⟨(bs.getD j default).ev.ev, pp44, cc45⟩⟩ : BoundD)]).length) cc64) ((pre ++ [(⟨(bs.getD j default).var, ⟨(bs.getD j default).ev.ev, pp44, cc45⟩⟩ : BoundD)]).length) ((pre ++ [(⟨(bs.getD j default).var, ⟨(bs.getD j default).ev.ev, pp44, cc45⟩⟩ : BoundD)]).flatMap bndCell) :: bndsA (pre ++ [(⟨(bs.getD j default).var, ⟨(bs.getD j default).ev.ev, pp44, cc45⟩⟩ : BoundD)]) :: imi (0 < bs.length) gA16 (.cells kA18 eA19 zA20) :: blk bk11 (.cells #[.slice none 0 0] 30 (0, 0)) :: blk bk8 (.cells #[.slice pp1 bs.length cc2] 30 (0, 0)) :: bndsA bs :: Im 6 (.slice pp1 bs.length cc2) bs.length (bs.flatMap bndCell) :: F) := ((((((((((H69.move 6 rfl).move 6 rfl).move 6 rfl).move 6 rfl).move 6 rfl).move 5 rfl).move 9 rfl).drop 7 rfl).drop 7 rfl).drop 7 rfl)
      exact nx33 (j + 1, (pre ++ [(⟨(bs.getD j default).var, ⟨(bs.getD j default).ev.ev, pp44, cc45⟩⟩ : BoundD)]), pp63, cc64) _ _ ⟨(by omega), (by rw [take_getD (by omega), List.map_append, List.map_append, hp9]; rfl), H70⟩ (by first | (dsimp only; omega) | omega) ⟨by first | rfl | exact vint (by omega), by first | rfl | (show Value.slice _ _ _ = _; rw [List.length_append]; rfl), by first | rfl | exact vint (by omega), by first | rfl | exact vint (by omega), by first | rfl | exact vint (by omega), trivial⟩
    · skip
      refine r_cons (s_lss false rfl rfl (dfalse hc34) rfl ?_)
      refine r_nil ?_
      refine g_seq ?_
      refine g_false rfl ?_
      refine g_exit (by rfl) ?_
      refine g_seq ?_
      refine g_region ?_
      refine r_cons (s_move (.slice q pre.length d) rfl rfl ?_)
      refine r_cons (s_build (cs := #[.slice q pre.length d]) (by kernel_rfl) rfl ?_)
      refine r_cons (s_storeAgg H32 3 #[.slice q pre.length d] 1 rfl rfl rfl sz_30 rfl (by simp [Value.oneCell']) (Nat.le_of_ble_eq_true rfl) (fun o h1 h2 => by first | (simp; done) | (simp; omega)) (cs' := #[.slice q pre.length d]) rfl ?_); intro w71 H72
      refine r_nil ?_
      refine g_ret' [.agg #[.slice q pre.length d]] Try.func105 Try.results105 ⟨(res_cellN rfl ag_30 (H72.blk_at (i := 3) rfl) (Nat.le_of_ble_eq_true rfl) rfl), trivial⟩ ?_
      have H73 : St W w71 (Im 6 (.slice q pre.length d) pre.length (pre.flatMap bndCell) :: bndsA pre :: imi (0 < bs.length) gA16 (.cells kA18 eA19 zA20) :: blk bk11 (.cells #[.slice q pre.length d] 30 (0, 0)) :: blk bk8 (.cells #[.slice pp1 bs.length cc2] 30 (0, 0)) :: bndsA bs :: Im 6 (.slice pp1 bs.length cc2) bs.length (bs.flatMap bndCell) :: F) := Row.im H72 (i := 0) rfl
      have H74 : St W w71 (Im 6 (.slice q pre.length d) pre.length (pre.flatMap bndCell) :: bndsA pre :: F) := (((((((H73.move 1 rfl).move 1 rfl).drop 2 rfl).drop 2 rfl).drop 2 rfl).drop 2 rfl).drop 2 rfl)
      obtain rfl : j = bs.length := by omega
      exact ⟨pre, _, _, rfl, by rw [hp9, List.take_length], H74⟩
set_option maxHeartbeats 4000000 in
set_option maxRecDepth 100000 in
theorem ref10_Clone {W w : World} {F : List Atom} (bs : List BoundD) (bv : Value) (hbl : bs.length * 80 ≤ 140737488355328) (hb9 : ∀ i, i < bs.length → (bs.getD i default).ev.ev.attrs.length * 48 ≤ 140737488355328) {ip : Nat} (hp : F[ip]? = some (Im 6 bv bs.length (bs.flatMap bndCell))) {iq : Nat} (hq : F[iq]? = some (bndsA bs)) (H : St W w F) : Calls Try.prog 108 #[.agg #[bv]] w (Ret fun v w' => ∃ (L : List BoundD) (q : Option Addr) (d : Nat), v = .agg #[.slice q L.length d] ∧ L.map BoundD.v = bs.map BoundD.v ∧ St W w' (Im 6 (.slice q L.length d) L.length (L.flatMap bndCell) :: bndsA L :: F)) := by
  obtain ⟨pp1, cc2, rfl, hn3⟩ := Rd.shape (Im.rd H (i := ip) hp)
  have H4 := H.dup (i := ip + 0) (by exact hp) (Im_pers _ _ _ _)
  have H5 : St W w (Im 6 (.slice pp1 bs.length cc2) bs.length (bs.flatMap bndCell) :: F) := H4
  have H6 := H5.dup (i := iq + 1) (by exact hq) (bndsA_pers _)
  have H7 : St W w (bndsA bs :: Im 6 (.slice pp1 bs.length cc2) bs.length (bs.flatMap bndCell) :: F) := H6
  have hmlb := Im.len H7 (i := 1) rfl
  refine calls_of_go (n := 31) Try.func108 rfl Try.ntmps108 rfl ?_
  refine g_seq ?_
  refine g_region ?_
  refine r_cons (s_box H7 30 (.agg #[.slice pp1 bs.length cc2]) rfl (cs := #[.slice pp1 bs.length cc2]) rfl rfl ?_); intro bk8 w9 H10
  refine r_cons (s_alloc H10 30 ze_30 rfl ?_); intro bk11 w12 H13
  refine r_nil ?_
  refine g_seq ?_
  refine g_region ?_
  refine r_cons (s_assign (.slice none 0 0) rfl rfl ?_)
  refine r_nil ?_
  refine g_seq ?_
  refine g_seq ?_
  refine g_region ?_
  refine r_cons (s_assign (.int .i64 0) rfl rfl ?_)
  refine r_nil ?_
  refine g_block ?_
  obtain ⟨pA14, cA15, gA16, oA17, kA18, eA19, zA20, he26, hn21, hp22, hx23, hs24, hml, H25⟩ := Im.open_ H13 (i := 3) rfl
  obtain ⟨rfl, rfl⟩ : pp1 = pA14 ∧ cc2 = cA15 := by injection he26 with a_ b_ c_; exact ⟨a_, c_⟩
  have H27 := Row.nil_intro H25 170 6
  have H28 := bndsA_nil H27
  have H29 : St W w12 (Row 170 6 (.slice none 0 0) 0 [] :: bndsA ([] : List BoundD) :: imi (0 < bs.length) gA16 (.cells kA18 eA19 zA20) :: blk bk11 (.cells #[.slice none 0 0] 30 (0, 0)) :: blk bk8 (.cells #[.slice pp1 bs.length cc2] 30 (0, 0)) :: bndsA bs :: Im 6 (.slice pp1 bs.length cc2) bs.length (bs.flatMap bndCell) :: F) := (((((((H28.move 6 rfl).move 6 rfl).move 6 rfl).move 6 rfl).move 6 rfl).move 5 rfl).move 6 rfl)
  refine g_loop_inv (fun (x_ : Nat × (List BoundD) × (Option Addr) × Nat) => match x_ with | (j, pre, q, d) => [(1, .pointer (some ⟨bk8, 0, none⟩)), (2, .pointer (some ⟨bk11, 0, none⟩)), (3, .slice q pre.length d), (4, .int .i64 (j : Int))]) (fun (x_ : Nat × (List BoundD) × (Option Addr) × Nat) w => match x_ with | (j, pre, q, d) => (j ≤ bs.length) ∧ (pre.map BoundD.v = (bs.take j).map BoundD.v) ∧ St W w (Row 170 6 (.slice q pre.length d) pre.length (pre.flatMap bndCell) :: bndsA pre :: imi (0 < bs.length) gA16 (.cells kA18 eA19 zA20) :: blk bk11 (.cells #[.slice none 0 0] 30 (0, 0)) :: blk bk8 (.cells #[.slice pp1 bs.length cc2] 30 (0, 0)) :: bndsA bs :: Im 6 (.slice pp1 bs.length cc2) bs.length (bs.flatMap bndCell) :: F)) (fun (x_ : Nat × (List BoundD) × (Option Addr) × Nat) => match x_ with | (j, pre, q, d) => bs.length - j) (0, [], none, 0) ?_ ?_ ?_
  · exact ⟨by first | rfl | exact vint (by omega), by first | rfl | exact vint (by omega), by first | rfl | exact vint (by omega), by first | rfl | exact vint (by omega), trivial⟩
  · exact ⟨(by omega), rfl, H29⟩
  · rintro ⟨j, pre, q, d⟩ ρ30 w31 ⟨hjn, hp9, H32⟩ nx33
    change Ends _ _ (upds ρ30 [(1, .pointer (some ⟨bk8, 0, none⟩)), (2, .pointer (some ⟨bk11, 0, none⟩)), (3, .slice q pre.length d), (4, .int .i64 (j : Int))]) w31
    have hpl := bv_len hp9
    rw [List.length_take] at hpl
    refine g_seq ?_
    refine g_seq ?_
    refine g_region ?_
    refine r_cons (s_move (.int .i64 (j : Int)) rfl rfl ?_)
    refine r_cons (s_fieldAddr 30 0 0 0 28 rfl fi_30_0 rfl rfl ?_)
    refine r_cons (s_load (.slice pp1 bs.length cc2) ag_28 rfl (H32.blk_at (i := 4) rfl) rfl rfl ?_)
    refine r_cons (s_len bs.length rfl ⟨_, un_28⟩ rfl ?_)
    by_cases hc34 : (j : Int) < (bs.length : Int)
    · skip
      refine r_cons (s_lss true rfl rfl (dtrue hc34) rfl ?_)
      refine r_nil ?_
      refine g_true rfl ?_
      refine g_skip ?_
      refine g_seq ?_
      refine g_block ?_
      have H35 : St W w31 (bndsA pre :: imi (0 < bs.length) gA16 (.cells kA18 eA19 zA20) :: blk bk11 (.cells #[.slice none 0 0] 30 (0, 0)) :: blk bk8 (.cells #[.slice pp1 bs.length cc2] 30 (0, 0)) :: bndsA bs :: Im 6 (.slice pp1 bs.length cc2) bs.length (bs.flatMap bndCell) :: Row 170 6 (.slice q pre.length d) pre.length (pre.flatMap bndCell) :: F) := ((((((H32.move 6 rfl).move 6 rfl).move 6 rfl).move 6 rfl).move 6 rfl).move 6 rfl)
      refine g_mix (fun t_ w => St W w (bndsA pre :: imi (0 < bs.length) gA16 (.cells kA18 eA19 zA20) :: blk bk11 (.cells #[.slice none 0 0] 30 (0, 0)) :: blk bk8 (.cells #[.slice pp1 bs.length cc2] 30 (0, 0)) :: bndsA bs :: Im 6 (.slice pp1 bs.length cc2) bs.length (bs.flatMap bndCell) :: t_)) (Row 170 6 (.slice q pre.length d) pre.length (pre.flatMap bndCell) :: F) mixed 18 rfl H35.drew ?_
      refine f_first 0 (listed' := #[true, false, false, false, false, false, false, false, false, false, false, false, false, false, false, false, false, false]) rfl (by kernel_rfl) (by kernel_rfl) (by kernel_rfl) rfl ?_
      refine f_val rfl rfl rfl (by intro t_ w hw; exact x_move (.slice q pre.length d) rfl w) ?_
      refine f_first 1 (listed' := #[true, true, false, false, false, false, false, false, false, false, false, false, false, false, false, false, false, false]) rfl (by kernel_rfl) (by kernel_rfl) (by kernel_rfl) rfl ?_
      refine f_val rfl rfl rfl (by intro t_ w hw; exact x_fieldAddr 30 0 0 0 28 rfl fi_30_0 rfl w) ?_
      refine f_first 2 (listed' := #[true, true, true, false, false, false, false, false, false, false, false, false, false, false, false, false, false, false]) rfl (by kernel_rfl) (by kernel_rfl) (by kernel_rfl) rfl ?_
      refine f_val rfl rfl rfl (by intro t_ w hw; exact x_load (.slice pp1 bs.length cc2) ag_28 rfl (hw.blk_at (i := 3) rfl) rfl) ?_
      refine f_first 3 (listed' := #[true, true, true, true, false, false, false, false, false, false, false, false, false, false, false, false, false, false]) rfl (by kernel_rfl) (by kernel_rfl) (by kernel_rfl) rfl ?_
      refine f_val rfl rfl rfl (by intro t_ w hw; exact x_move (.int .i64 (j : Int)) rfl w) ?_
      refine f_first 4 (listed' := #[true, true, true, true, true, false, false, false, false, false, false, false, false, false, false, false, false, false]) rfl (by kernel_rfl) (by kernel_rfl) (by kernel_rfl) rfl ?_
      refine f_val rfl rfl rfl (by intro t_ w hw; exact x_indexAddr gA16 (off := oA17) (j : Int) 6 (oA17 + j * 6) (by exact congrArg (fun z_ => Value.slice z_ bs.length cc2) (hp22 (by omega))) rfl el_28 (by omega) rfl w) ?_
      refine f_first 5 (listed' := #[true, true, true, true, true, true, false, false, false, false, false, false, false, false, false, false, false, false]) rfl (by kernel_rfl) (by kernel_rfl) (by kernel_rfl) rfl ?_
      refine f_val rfl rfl rfl (by intro t_ w hw; exact x_fieldAddr 170 0 0 (oA17 + j * 6) 9 rfl fi_170_0 rfl w) ?_
      refine f_first 6 (listed' := #[true, true, true, true, true, true, true, false, false, false, false, false, false, false, false, false, false, false]) rfl (by kernel_rfl) (by kernel_rfl) (by kernel_rfl) rfl ?_
      refine f_val rfl rfl rfl (by intro t_ w hw; exact x_load (.string ((bs.getD j default).var.v)) ag_9 rfl (hw.imi_at (i := 1) rfl (by omega)) (elem_cell (L := bs) (i := j) bndCell_len (hx23 (by omega)) (by omega) default 0 (by decide) _ rfl)) ?_
      refine f_first 7 (listed' := #[true, true, true, true, true, true, true, true, false, false, false, false, false, false, false, false, false, false]) rfl (by kernel_rfl) (by kernel_rfl) (by kernel_rfl) rfl ?_
      refine f_val rfl rfl rfl (by intro t_ w hw; exact x_fieldAddr 30 0 0 0 28 rfl fi_30_0 rfl w) ?_
      refine f_first 8 (listed' := #[true, true, true, true, true, true, true, true, true, false, false, false, false, false, false, false, false, false]) rfl (by kernel_rfl) (by kernel_rfl) (by kernel_rfl) rfl ?_
      refine f_val rfl rfl rfl (by intro t_ w hw; exact x_load (.slice pp1 bs.length cc2) ag_28 rfl (hw.blk_at (i := 3) rfl) rfl) ?_
      refine f_first 9 (listed' := #[true, true, true, true, true, true, true, true, true, true, false, false, false, false, false, false, false, false]) rfl (by kernel_rfl) (by kernel_rfl) (by kernel_rfl) rfl ?_
      refine f_val rfl rfl rfl (by intro t_ w hw; exact x_move (.int .i64 (j : Int)) rfl w) ?_
      refine f_first 10 (listed' := #[true, true, true, true, true, true, true, true, true, true, true, false, false, false, false, false, false, false]) rfl (by kernel_rfl) (by kernel_rfl) (by kernel_rfl) rfl ?_
      refine f_val rfl rfl rfl (by intro t_ w hw; exact x_indexAddr gA16 (off := oA17) (j : Int) 6 (oA17 + j * 6) (by exact congrArg (fun z_ => Value.slice z_ bs.length cc2) (hp22 (by omega))) rfl el_28 (by omega) rfl w) ?_
      refine f_first 11 (listed' := #[true, true, true, true, true, true, true, true, true, true, true, true, false, false, false, false, false, false]) rfl (by kernel_rfl) (by kernel_rfl) (by kernel_rfl) rfl ?_
      refine f_val rfl rfl rfl (by intro t_ w hw; exact x_fieldAddr 170 1 1 (oA17 + j * 6 + 1) 168 rfl fi_170_1 rfl w) ?_
      refine f_first 12 (listed' := #[true, true, true, true, true, true, true, true, true, true, true, true, true, false, false, false, false, false]) rfl (by kernel_rfl) (by kernel_rfl) (by kernel_rfl) rfl ?_
      refine f_val rfl rfl rfl (by intro t_ w hw; exact x_loadAgg [.int .i64 ((bs.getD j default).ev.ev.src.v), .int .i64 ((bs.getD j default).ev.ev.seq.v), .int .i64 ((bs.getD j default).ev.ev.time.v), .string ((bs.getD j default).ev.ev.typ.v), .slice ((bs.getD j default).ev.p) ((bs.getD j default).ev.ev.attrs.length) ((bs.getD j default).ev.c)] 5 ag_168 rfl (hw.imi_at (i := 1) rfl (by omega)) (by have := elem_size (i := j) (s := 6) (hs24 (by omega)) (by omega); omega) (elem_sub bndCell_len (hx23 (by omega)) (by omega) default 1 5 (by decide))) ?_
      refine f_all (rs := [13]) (by kernel_rfl) (by simp) ?_
      refine a_cons ⟨_, rfl, ?_⟩ (fun x hx => absurd hx (by simp))
      intro w36 H37
      try dsimp only at H37
      have H38 := bndsA_at j H37 (i := 4) rfl
      have hab := hb9 j (by omega)
      refine s_call [.agg #[.int .i64 ((bs.getD j default).ev.ev.src.v), .int .i64 ((bs.getD j default).ev.ev.seq.v), .int .i64 ((bs.getD j default).ev.ev.time.v), .string ((bs.getD j default).ev.ev.typ.v), .slice ((bs.getD j default).ev.p) ((bs.getD j default).ev.ev.attrs.length) ((bs.getD j default).ev.c)]] pl_137 rfl rfl (ref04_Clone ((bs.getD j default).ev.ev) (.slice ((bs.getD j default).ev.p) ((bs.getD j default).ev.ev.attrs.length) ((bs.getD j default).ev.c)) (by omega) (j := 0) rfl H38) ?_
      rintro _ w41 ⟨pp39, cc40, rfl, H42⟩
      have H43 : St W w41 (bndsA pre :: imi (0 < bs.length) gA16 (.cells kA18 eA19 zA20) :: blk bk11 (.cells #[.slice none 0 0] 30 (0, 0)) :: blk bk8 (.cells #[.slice pp1 bs.length cc2] 30 (0, 0)) :: bndsA bs :: Im 6 (.slice pp1 bs.length cc2) bs.length (bs.flatMap bndCell) :: Attrs (.slice pp39 ((bs.getD j default).ev.ev.attrs.length) cc40) ((bs.getD j default).ev.ev.attrs) :: Attrs (.slice ((bs.getD j default).ev.p) ((bs.getD j default).ev.ev.attrs.length) ((bs.getD j default).ev.c)) ((bs.getD j default).ev.ev.attrs) :: Row 170 6 (.slice q pre.length d) pre.length (pre.flatMap bndCell) :: F) := (((((((((H42.move 8 rfl).move 2 rfl).move 2 rfl).move 8 rfl).move 8 rfl).move 8 rfl).move 8 rfl).move 8 rfl).move 8 rfl)
      refine ⟨Attrs (.slice pp39 ((bs.getD j default).ev.ev.attrs.length) cc40) ((bs.getD j default).ev.ev.attrs) :: Attrs (.slice ((bs.getD j default).ev.p) ((bs.getD j default).ev.ev.attrs.length) ((bs.getD j default).ev.c)) ((bs.getD j default).ev.ev.attrs) :: Row 170 6 (.slice q pre.length d) pre.length (pre.flatMap bndCell) :: F, ?_, H43⟩
      change FReg _ _ _ _ _ #[true, true, true, true, true, true, true, true, true, true, true, true, true, true, false, false, false, false] _ _
      refine f_first 14 (listed' := #[true, true, true, true, true, true, true, true, true, true, true, true, true, true, true, false, false, false]) rfl (by kernel_rfl) (by kernel_rfl) (by kernel_rfl) rfl ?_
      refine f_val rfl rfl rfl (by intro t_ w hw; exact x_build (cs := #[.string ((bs.getD j default).var.v), .int .i64 ((bs.getD j default).ev.ev.src.v), .int .i64 ((bs.getD j default).ev.ev.seq.v), .int .i64 ((bs.getD j default).ev.ev.time.v), .string ((bs.getD j default).ev.ev.typ.v), .slice pp39 ((bs.getD j default).ev.ev.attrs.length) cc40]) (by kernel_rfl) w) ?_
      refine f_all (rs := [15]) (by kernel_rfl) (by simp) ?_
      refine a_cons ⟨_, rfl, ?_⟩ (fun x hx => absurd hx (by simp))
      intro w44 H45
      try dsimp only at H45
      refine s_buildSlice H45 6 1 (cs := #[.string ((bs.getD j default).var.v), .int .i64 ((bs.getD j default).ev.ev.src.v), .int .i64 ((bs.getD j default).ev.ev.seq.v), .int .i64 ((bs.getD j default).ev.ev.time.v), .string ((bs.getD j default).ev.ev.typ.v), .slice pp39 ((bs.getD j default).ev.ev.attrs.length) cc40]) #[.string ByteArray.empty, .int .i64 0, .int .i64 0, .int .i64 0, .string ByteArray.empty, .slice none 0 0] el_28 ze_170 (by decide) (by decide) (by kernel_rfl) rfl ?_; intro bk46 w47 H48
      have H49 : St W w47 (bndsA pre :: imi (0 < bs.length) gA16 (.cells kA18 eA19 zA20) :: blk bk11 (.cells #[.slice none 0 0] 30 (0, 0)) :: blk bk8 (.cells #[.slice pp1 bs.length cc2] 30 (0, 0)) :: bndsA bs :: Im 6 (.slice pp1 bs.length cc2) bs.length (bs.flatMap bndCell) :: blk bk46 (.cells #[.string ((bs.getD j default).var.v), .int .i64 ((bs.getD j default).ev.ev.src.v), .int .i64 ((bs.getD j default).ev.ev.seq.v), .int .i64 ((bs.getD j default).ev.ev.time.v), .string ((bs.getD j default).ev.ev.typ.v), .slice pp39 ((bs.getD j default).ev.ev.attrs.length) cc40] 170 (0, 0)) :: Attrs (.slice pp39 ((bs.getD j default).ev.ev.attrs.length) cc40) ((bs.getD j default).ev.ev.attrs) :: Attrs (.slice ((bs.getD j default).ev.p) ((bs.getD j default).ev.ev.attrs.length) ((bs.getD j default).ev.c)) ((bs.getD j default).ev.ev.attrs) :: Row 170 6 (.slice q pre.length d) pre.length (pre.flatMap bndCell) :: F) := ((((((((((H48.move 9 rfl).move 9 rfl).move 9 rfl).move 3 rfl).move 9 rfl).move 9 rfl).move 9 rfl).move 9 rfl).move 9 rfl).move 9 rfl)
      refine ⟨blk bk46 (.cells #[.string ((bs.getD j default).var.v), .int .i64 ((bs.getD j default).ev.ev.src.v), .int .i64 ((bs.getD j default).ev.ev.seq.v), .int .i64 ((bs.getD j default).ev.ev.time.v), .string ((bs.getD j default).ev.ev.typ.v), .slice pp39 ((bs.getD j default).ev.ev.attrs.length) cc40] 170 (0, 0)) :: Attrs (.slice pp39 ((bs.getD j default).ev.ev.attrs.length) cc40) ((bs.getD j default).ev.ev.attrs) :: Attrs (.slice ((bs.getD j default).ev.p) ((bs.getD j default).ev.ev.attrs.length) ((bs.getD j default).ev.c)) ((bs.getD j default).ev.ev.attrs) :: Row 170 6 (.slice q pre.length d) pre.length (pre.flatMap bndCell) :: F, ?_, H49⟩
      change FReg _ _ _ _ _ #[true, true, true, true, true, true, true, true, true, true, true, true, true, true, true, true, false, false] _ _
      refine f_all (rs := [16]) (by kernel_rfl) (by simp) ?_
      refine a_cons ⟨_, rfl, ?_⟩ (fun x hx => absurd hx (by simp))
      intro w50 H51
      try dsimp only at H51
      refine s_append H51 9 rfl rfl rfl (rd_blk (H51.blk_at (i := 6) rfl) rfl (Nat.le_of_ble_eq_true rfl) (by simp [Value.oneCell'])) ap_28 (by decide) (by unfold maxLen; omega) (by omega) (n' := pre.length + 1) (xs' := pre.flatMap bndCell ++ ([.string ((bs.getD j default).var.v), .int .i64 ((bs.getD j default).ev.ev.src.v), .int .i64 ((bs.getD j default).ev.ev.seq.v), .int .i64 ((bs.getD j default).ev.ev.time.v), .string ((bs.getD j default).ev.ev.typ.v), .slice pp39 ((bs.getD j default).ev.ev.attrs.length) cc40] : List Value)) (by omega) (by first | rfl | simp) rfl ?_; intro vv52 w53 H54 hn55
      obtain ⟨pp56, cc57, rfl⟩ := Row.slice H54 (i := 9) rfl
      refine ⟨blk bk46 (.cells #[.string ((bs.getD j default).var.v), .int .i64 ((bs.getD j default).ev.ev.src.v), .int .i64 ((bs.getD j default).ev.ev.seq.v), .int .i64 ((bs.getD j default).ev.ev.time.v), .string ((bs.getD j default).ev.ev.typ.v), .slice pp39 ((bs.getD j default).ev.ev.attrs.length) cc40] 170 (0, 0)) :: Attrs (.slice pp39 ((bs.getD j default).ev.ev.attrs.length) cc40) ((bs.getD j default).ev.ev.attrs) :: Attrs (.slice ((bs.getD j default).ev.p) ((bs.getD j default).ev.ev.attrs.length) ((bs.getD j default).ev.c)) ((bs.getD j default).ev.ev.attrs) :: Row 170 6 (.slice pp56 (pre.length + 1) cc57) (pre.length + 1) (pre.flatMap bndCell ++ ([.string ((bs.getD j default).var.v), .int .i64 ((bs.getD j default).ev.ev.src.v), .int .i64 ((bs.getD j default).ev.ev.seq.v), .int .i64 ((bs.getD j default).ev.ev.time.v), .string ((bs.getD j default).ev.ev.typ.v), .slice pp39 ((bs.getD j default).ev.ev.attrs.length) cc40] : List Value)) :: F, ?_, H54⟩
      change FReg _ _ _ _ _ #[true, true, true, true, true, true, true, true, true, true, true, true, true, true, true, true, true, false] _ _
      refine f_first 17 (listed' := #[true, true, true, true, true, true, true, true, true, true, true, true, true, true, true, true, true, true]) rfl (by kernel_rfl) (by kernel_rfl) (by kernel_rfl) rfl ?_
      refine f_val rfl rfl rfl (by intro t_ w hw; exact x_assign (.slice pp56 (pre.length + 1) cc57) rfl w) ?_
      refine f_done (by kernel_rfl) ?_
      intro w58 H59
      refine g_inBlock ?_
      refine g_region ?_
      refine r_cons (s_move (.int .i64 (j : Int)) rfl rfl ?_)
      refine r_cons (s_add ((j : Int) + 1) rfl rfl (wi64 (by omega)) rfl ?_)
      refine r_cons (s_assign (.int .i64 ((j : Int) + 1)) rfl rfl ?_)
      refine r_nil ?_
      have H60 : St W w58 (Attrs (.slice pp39 ((bs.getD j default).ev.ev.attrs.length) cc40) ((bs.getD j default).ev.ev.attrs) :: bndsA pre :: imi (0 < bs.length) gA16 (.cells kA18 eA19 zA20) :: blk bk11 (.cells #[.slice none 0 0] 30 (0, 0)) :: blk bk8 (.cells #[.slice pp1 bs.length cc2] 30 (0, 0)) :: bndsA bs :: Im 6 (.slice pp1 bs.length cc2) bs.length (bs.flatMap bndCell) :: blk bk46 (.cells #[.string ((bs.getD j default).var.v), .int .i64 ((bs.getD j default).ev.ev.src.v), .int .i64 ((bs.getD j default).ev.ev.seq.v), .int .i64 ((bs.getD j default).ev.ev.time.v), .string ((bs.getD j default).ev.ev.typ.v), .slice pp39 ((bs.getD j default).ev.ev.attrs.length) cc40] 170 (0, 0)) :: Attrs (.slice ((bs.getD j default).ev.p) ((bs.getD j default).ev.ev.attrs.length) ((bs.getD j default).ev.c)) ((bs.getD j default).ev.ev.attrs) :: Row 170 6 (.slice pp56 (pre.length + 1) cc57) (pre.length + 1) (pre.flatMap bndCell ++ ([.string ((bs.getD j default).var.v), .int .i64 ((bs.getD j default).ev.ev.src.v), .int .i64 ((bs.getD j default).ev.ev.seq.v), .int .i64 ((bs.getD j default).ev.ev.time.v), .string ((bs.getD j default).ev.ev.typ.v), .slice pp39 ((bs.getD j default).ev.ev.attrs.length) cc40] : List Value)) :: F) := (H59.move 7 rfl)
      have H61 : St W w58 (bndsA (pre ++ [(⟨(bs.getD j default).var, ⟨(bs.getD j default).ev.ev, pp39, cc40⟩⟩ : BoundD)]) :: imi (0 < bs.length) gA16 (.cells kA18 eA19 zA20) :: blk bk11 (.cells #[.slice none 0 0] 30 (0, 0)) :: blk bk8 (.cells #[.slice pp1 bs.length cc2] 30 (0, 0)) :: bndsA bs :: Im 6 (.slice pp1 bs.length cc2) bs.length (bs.flatMap bndCell) :: blk bk46 (.cells #[.string ((bs.getD j default).var.v), .int .i64 ((bs.getD j default).ev.ev.src.v), .int .i64 ((bs.getD j default).ev.ev.seq.v), .int .i64 ((bs.getD j default).ev.ev.time.v), .string ((bs.getD j default).ev.ev.typ.v), .slice pp39 ((bs.getD j default).ev.ev.attrs.length) cc40] 170 (0, 0)) :: Attrs (.slice ((bs.getD j default).ev.p) ((bs.getD j default).ev.ev.attrs.length) ((bs.getD j default).ev.c)) ((bs.getD j default).ev.ev.attrs) :: Row 170 6 (.slice pp56 (pre.length + 1) cc57) (pre.length + 1) (pre.flatMap bndCell ++ ([.string ((bs.getD j default).var.v), .int .i64 ((bs.getD j default).ev.ev.src.v), .int .i64 ((bs.getD j default).ev.ev.seq.v), .int .i64 ((bs.getD j default).ev.ev.time.v), .string ((bs.getD j default).ev.ev.typ.v), .slice pp39 ((bs.getD j default).ev.ev.attrs.length) cc40] : List Value)) :: F) := bndsA_snoc (x := (⟨(bs.getD j default).var, ⟨(bs.getD j default).ev.ev, pp39, cc40⟩⟩ : BoundD)) H60
      have H62 : St W w58 (bndsA (pre ++ [(⟨(bs.getD j default).var, ⟨(bs.getD j default).ev.ev, pp39, cc40⟩⟩ : BoundD)]) :: imi (0 < bs.length) gA16 (.cells kA18 eA19 zA20) :: blk bk11 (.cells #[.slice none 0 0] 30 (0, 0)) :: blk bk8 (.cells #[.slice pp1 bs.length cc2] 30 (0, 0)) :: bndsA bs :: Im 6 (.slice pp1 bs.length cc2) bs.length (bs.flatMap bndCell) :: blk bk46 (.cells #[.string ((bs.getD j default).var.v), .int .i64 ((bs.getD j default).ev.ev.src.v), .int .i64 ((bs.getD j default).ev.ev.seq.v), .int .i64 ((bs.getD j default).ev.ev.time.v), .string ((bs.getD j default).ev.ev.typ.v), .slice pp39 ((bs.getD j default).ev.ev.attrs.length) cc40] 170 (0, 0)) :: Attrs (.slice ((bs.getD j default).ev.p) ((bs.getD j default).ev.ev.attrs.length) ((bs.getD j default).ev.c)) ((bs.getD j default).ev.ev.attrs) :: Row 170 6 (.slice pp56 ((pre ++ [(⟨(bs.getD j default).var, ⟨(bs.getD j default).ev.ev, pp39, cc40⟩⟩ : BoundD)]).length) cc57) ((pre ++ [(⟨(bs.getD j default).var, ⟨(bs.getD j default).ev.ev, pp39, cc40⟩⟩ : BoundD)]).length) ((pre ++ [(⟨(bs.getD j default).var, ⟨(bs.getD j default).ev.ev, pp39, cc40⟩⟩ : BoundD)]).flatMap bndCell) :: F) := by rw [List.flatMap_append, List.length_append]; exact H61
      have H63 : St W w58 (Row 170 6 (.slice pp56 ((pre ++ [(⟨(bs.getD j default).var, ⟨(bs.getD j default).ev.ev, pp39, cc40⟩⟩ : BoundD)]).length) cc57) ((pre ++ [(⟨(bs.getD j default).var, ⟨(bs.getD j default).ev.ev, pp39, cc40⟩⟩ : BoundD)]).length) ((pre ++ [(⟨(bs.getD j default).var, ⟨(bs.getD j default).ev.ev, pp39, cc40⟩⟩ : BoundD)]).flatMap bndCell) :: bndsA (pre ++ [(⟨(bs.getD j default).var, ⟨(bs.getD j default).ev.ev, pp39, cc40⟩⟩ : BoundD)]) :: imi (0 < bs.length) gA16 (.cells kA18 eA19 zA20) :: blk bk11 (.cells #[.slice none 0 0] 30 (0, 0)) :: blk bk8 (.cells #[.slice pp1 bs.length cc2] 30 (0, 0)) :: bndsA bs :: Im 6 (.slice pp1 bs.length cc2) bs.length (bs.flatMap bndCell) :: F) := (((((((((H62.move 5 rfl).move 5 rfl).move 5 rfl).move 5 rfl).move 5 rfl).move 5 rfl).move 8 rfl).drop 7 rfl).drop 7 rfl)
      exact nx33 (j + 1, (pre ++ [(⟨(bs.getD j default).var, ⟨(bs.getD j default).ev.ev, pp39, cc40⟩⟩ : BoundD)]), pp56, cc57) _ _ ⟨(by omega), (by rw [take_getD (by omega), List.map_append, List.map_append, hp9]; rfl), H63⟩ (by first | (dsimp only; omega) | omega) ⟨by first | rfl | exact vint (by omega), by first | rfl | exact vint (by omega), by first | rfl | (show Value.slice _ _ _ = _; rw [List.length_append]; rfl), by first | rfl | exact vint (by omega), trivial⟩
    · skip
      refine r_cons (s_lss false rfl rfl (dfalse hc34) rfl ?_)
      refine r_nil ?_
      refine g_false rfl ?_
      refine g_exit (by rfl) ?_
      refine g_seq ?_
      refine g_region ?_
      refine r_cons (s_move (.slice q pre.length d) rfl rfl ?_)
      refine r_cons (s_build (cs := #[.slice q pre.length d]) (by kernel_rfl) rfl ?_)
      refine r_cons (s_storeAgg H32 3 #[.slice q pre.length d] 1 rfl rfl rfl sz_30 rfl (by simp [Value.oneCell']) (Nat.le_of_ble_eq_true rfl) (fun o h1 h2 => by first | (simp; done) | (simp; omega)) (cs' := #[.slice q pre.length d]) rfl ?_); intro w64 H65
      refine r_nil ?_
      refine g_ret' [.agg #[.slice q pre.length d]] Try.func108 Try.results108 ⟨(res_cellN rfl ag_30 (H65.blk_at (i := 3) rfl) (Nat.le_of_ble_eq_true rfl) rfl), trivial⟩ ?_
      have H66 : St W w64 (Im 6 (.slice q pre.length d) pre.length (pre.flatMap bndCell) :: bndsA pre :: imi (0 < bs.length) gA16 (.cells kA18 eA19 zA20) :: blk bk11 (.cells #[.slice q pre.length d] 30 (0, 0)) :: blk bk8 (.cells #[.slice pp1 bs.length cc2] 30 (0, 0)) :: bndsA bs :: Im 6 (.slice pp1 bs.length cc2) bs.length (bs.flatMap bndCell) :: F) := Row.im H65 (i := 0) rfl
      have H67 : St W w64 (Im 6 (.slice q pre.length d) pre.length (pre.flatMap bndCell) :: bndsA pre :: F) := (((((((H66.move 1 rfl).move 1 rfl).drop 2 rfl).drop 2 rfl).drop 2 rfl).drop 2 rfl).drop 2 rfl)
      obtain rfl : j = bs.length := by omega
      exact ⟨pre, _, _, rfl, by rw [hp9, List.take_length], H67⟩
set_option maxHeartbeats 4000000 in
set_option maxRecDepth 100000 in
theorem ref10_Same {W w : World} {F : List Atom} (bs ms : List BoundD) (bv cv : Value) {ip : Nat} (hp : F[ip]? = some (Im 6 bv bs.length (bs.flatMap bndCell))) {iq : Nat} (hq : F[iq]? = some (bndsA bs)) {ip2 : Nat} (hp2 : F[ip2]? = some (Im 6 cv ms.length (ms.flatMap bndCell))) {iq2 : Nat} (hq2 : F[iq2]? = some (bndsA ms)) (H : St W w F) : Calls Try.prog 106 #[.agg #[bv], .agg #[cv]] w (Ret fun v w' => v = .bool (sameBs bs ms) ∧ St W w' F) := by
  obtain ⟨pp1, cc2, rfl, hn3⟩ := Rd.shape (Im.rd H (i := ip) hp)
  have H4 := H.dup (i := ip + 0) (by exact hp) (Im_pers _ _ _ _)
  have H5 : St W w (Im 6 (.slice pp1 bs.length cc2) bs.length (bs.flatMap bndCell) :: F) := H4
  have H6 := H5.dup (i := iq + 1) (by exact hq) (bndsA_pers _)
  have H7 : St W w (bndsA bs :: Im 6 (.slice pp1 bs.length cc2) bs.length (bs.flatMap bndCell) :: F) := H6
  obtain ⟨pp8, cc9, rfl, hn10⟩ := Rd.shape (Im.rd H (i := ip2) hp2)
  have H11 := H7.dup (i := ip2 + 2) (by exact hp2) (Im_pers _ _ _ _)
  have H12 : St W w (Im 6 (.slice pp8 ms.length cc9) ms.length (ms.flatMap bndCell) :: bndsA bs :: Im 6 (.slice pp1 bs.length cc2) bs.length (bs.flatMap bndCell) :: F) := H11
  have H13 := H12.dup (i := iq2 + 3) (by exact hq2) (bndsA_pers _)
  have H14 : St W w (bndsA ms :: Im 6 (.slice pp8 ms.length cc9) ms.length (ms.flatMap bndCell) :: bndsA bs :: Im 6 (.slice pp1 bs.length cc2) bs.length (bs.flatMap bndCell) :: F) := H13
  have hmlb := Im.len H14 (i := 3) rfl
  have hmlm := Im.len H14 (i := 1) rfl
  refine calls_of_go (n := 49) Try.func106 rfl Try.ntmps106 rfl ?_
  refine g_seq ?_
  refine g_region ?_
  refine r_cons (s_box H14 30 (.agg #[.slice pp1 bs.length cc2]) rfl (cs := #[.slice pp1 bs.length cc2]) rfl rfl ?_); intro bk15 w16 H17
  refine r_cons (s_box H17 30 (.agg #[.slice pp8 ms.length cc9]) rfl (cs := #[.slice pp8 ms.length cc9]) rfl rfl ?_); intro bk18 w19 H20
  refine r_cons (s_assign (.bool false) rfl rfl ?_)
  refine r_nil ?_
  refine g_seq ?_
  refine g_seq ?_
  refine g_region ?_
  refine r_cons (s_fieldAddr 30 0 0 0 28 rfl fi_30_0 rfl rfl ?_)
  refine r_cons (s_load (.slice pp1 bs.length cc2) ag_28 rfl (H20.blk_at (i := 1) rfl) rfl rfl ?_)
  refine r_cons (s_len bs.length rfl ⟨_, un_28⟩ rfl ?_)
  refine r_cons (s_fieldAddr 30 0 0 0 28 rfl fi_30_0 rfl rfl ?_)
  refine r_cons (s_load (.slice pp8 ms.length cc9) ag_28 rfl (H20.blk_at (i := 0) rfl) rfl rfl ?_)
  refine r_cons (s_len ms.length rfl ⟨_, un_28⟩ rfl ?_)
  by_cases hc21 : (bs.length : Int) = (ms.length : Int)
  · skip
    refine r_cons (s_neq false rfl rfl (ntrue hc21) rfl ?_)
    refine r_nil ?_
    refine g_false rfl ?_
    refine g_skip ?_
    refine g_seq ?_
    refine g_seq ?_
    refine g_region ?_
    refine r_cons (s_assign (.int .i64 0) rfl rfl ?_)
    refine r_nil ?_
    refine g_block ?_
    obtain ⟨pA22, cA23, gA24, oA25, kA26, eA27, zA28, he34, hn29, hp30, hx31, hs32, hml, H33⟩ := Im.open_ H20 (i := 5) rfl
    obtain ⟨rfl, rfl⟩ : pp1 = pA22 ∧ cc2 = cA23 := by injection he34 with a_ b_ c_; exact ⟨a_, c_⟩
    obtain ⟨pA35, cA36, gA37, oA38, kA39, eA40, zA41, he47, hn42, hp43, hx44, hs45, hml, H46⟩ := Im.open_ H33 (i := 4) rfl
    obtain ⟨rfl, rfl⟩ : pp8 = pA35 ∧ cc9 = cA36 := by injection he47 with a_ b_ c_; exact ⟨a_, c_⟩
    have hll : bs.length = ms.length := by omega
    refine g_loop_inv (fun (x_ : Nat) => match x_ with | j => [(2, .pointer (some ⟨bk15, 0, none⟩)), (3, .pointer (some ⟨bk18, 0, none⟩)), (4, .bool false), (5, .int .i64 (j : Int))]) (fun (x_ : Nat) w => match x_ with | j => (j ≤ bs.length) ∧ (∀ q, q < j → (bs.getD q default).v = (ms.getD q default).v) ∧ St W w (imi (0 < ms.length) gA37 (.cells kA39 eA40 zA41) :: imi (0 < bs.length) gA24 (.cells kA26 eA27 zA28) :: blk bk18 (.cells #[.slice pp8 ms.length cc9] 30 (0, 0)) :: blk bk15 (.cells #[.slice pp1 bs.length cc2] 30 (0, 0)) :: bndsA ms :: Im 6 (.slice pp8 ms.length cc9) ms.length (ms.flatMap bndCell) :: bndsA bs :: Im 6 (.slice pp1 bs.length cc2) bs.length (bs.flatMap bndCell) :: F)) (fun (x_ : Nat) => match x_ with | j => bs.length - j) (0) ?_ ?_ ?_
    · exact ⟨by first | rfl | exact vint (by omega), by first | rfl | exact vint (by omega), by first | rfl | exact vint (by omega), by first | rfl | exact vint (by omega), trivial⟩
    · exact ⟨(by omega), (fun q hq => by omega), H46⟩
    · rintro j ρ48 w49 ⟨hjn, hz, H50⟩ nx51
      change Ends _ _ (upds ρ48 [(2, .pointer (some ⟨bk15, 0, none⟩)), (3, .pointer (some ⟨bk18, 0, none⟩)), (4, .bool false), (5, .int .i64 (j : Int))]) w49
      refine g_seq ?_
      refine g_seq ?_
      refine g_region ?_
      refine r_cons (s_move (.int .i64 (j : Int)) rfl rfl ?_)
      refine r_cons (s_fieldAddr 30 0 0 0 28 rfl fi_30_0 rfl rfl ?_)
      refine r_cons (s_load (.slice pp1 bs.length cc2) ag_28 rfl (H50.blk_at (i := 3) rfl) rfl rfl ?_)
      refine r_cons (s_len bs.length rfl ⟨_, un_28⟩ rfl ?_)
      by_cases hc52 : (j : Int) < (bs.length : Int)
      · skip
        refine r_cons (s_lss true rfl rfl (dtrue hc52) rfl ?_)
        refine r_nil ?_
        refine g_true rfl ?_
        refine g_skip ?_
        refine g_seq ?_
        refine g_block ?_
        refine g_seq ?_
        have H53 := bndsA_at j H50 (i := 6) rfl
        have H54 := bndsA_at j H53 (i := 5) rfl
        refine g_quiet (fun w' => St W w' (Attrs (.slice ((ms.getD j default).ev.p) ((ms.getD j default).ev.ev.attrs.length) ((ms.getD j default).ev.c)) ((ms.getD j default).ev.ev.attrs) :: Attrs (.slice ((bs.getD j default).ev.p) ((bs.getD j default).ev.ev.attrs.length) ((bs.getD j default).ev.c)) ((bs.getD j default).ev.ev.attrs) :: imi (0 < ms.length) gA37 (.cells kA39 eA40 zA41) :: imi (0 < bs.length) gA24 (.cells kA26 eA27 zA28) :: blk bk18 (.cells #[.slice pp8 ms.length cc9] 30 (0, 0)) :: blk bk15 (.cells #[.slice pp1 bs.length cc2] 30 (0, 0)) :: bndsA ms :: Im 6 (.slice pp8 ms.length cc9) ms.length (ms.flatMap bndCell) :: bndsA bs :: Im 6 (.slice pp1 bs.length cc2) bs.length (bs.flatMap bndCell) :: F)) mixed (by kernel_rfl) H54.drew ?_
        refine q_cons (q_val rfl rfl rfl (by intro w hw; exact x_fieldAddr 30 0 0 0 28 rfl fi_30_0 rfl w) ?_)
        refine q_cons (q_val rfl rfl rfl (by intro w hw; exact x_load (.slice pp1 bs.length cc2) ag_28 rfl (hw.blk_at (i := 5) rfl) rfl) ?_)
        refine q_cons (q_val rfl rfl rfl (by intro w hw; exact x_move (.int .i64 (j : Int)) rfl w) ?_)
        refine q_cons (q_val rfl rfl rfl (by intro w hw; exact x_indexAddr gA24 (off := oA25) (j : Int) 6 (oA25 + j * 6) (by exact congrArg (fun z_ => Value.slice z_ bs.length cc2) (hp30 (by omega))) rfl el_28 (by omega) rfl w) ?_)
        refine q_cons (q_val rfl rfl rfl (by intro w hw; exact x_fieldAddr 170 0 0 (oA25 + j * 6) 9 rfl fi_170_0 rfl w) ?_)
        refine q_cons (q_val rfl rfl rfl (by intro w hw; exact x_load (.string ((bs.getD j default).var.v)) ag_9 rfl (hw.imi_at (i := 3) rfl (by omega)) (elem_cell (L := bs) (i := j) bndCell_len (hx31 (by omega)) (by omega) default 0 (by decide) _ rfl)) ?_)
        refine q_cons (q_val rfl rfl rfl (by intro w hw; exact x_fieldAddr 30 0 0 0 28 rfl fi_30_0 rfl w) ?_)
        refine q_cons (q_val rfl rfl rfl (by intro w hw; exact x_load (.slice pp8 ms.length cc9) ag_28 rfl (hw.blk_at (i := 4) rfl) rfl) ?_)
        refine q_cons (q_val rfl rfl rfl (by intro w hw; exact x_move (.int .i64 (j : Int)) rfl w) ?_)
        refine q_cons (q_val rfl rfl rfl (by intro w hw; exact x_indexAddr gA37 (off := oA38) (j : Int) 6 (oA38 + j * 6) (by exact congrArg (fun z_ => Value.slice z_ ms.length cc9) (hp43 (by omega))) rfl el_28 (by omega) rfl w) ?_)
        refine q_cons (q_val rfl rfl rfl (by intro w hw; exact x_fieldAddr 170 0 0 (oA38 + j * 6) 9 rfl fi_170_0 rfl w) ?_)
        refine q_cons (q_val rfl rfl rfl (by intro w hw; exact x_load (.string ((ms.getD j default).var.v)) ag_9 rfl (hw.imi_at (i := 2) rfl (by omega)) (elem_cell (L := ms) (i := j) bndCell_len (hx44 (by omega)) (by omega) default 0 (by decide) _ rfl)) ?_)
        by_cases hc55 : (bs.getD j default).var.v = (ms.getD j default).var.v
        · skip
          refine q_cons (q_val rfl rfl rfl (by intro w hw; exact x_sneq false rfl rfl (ntrue hc55) w) ?_)
          refine q_cons (q_val rfl rfl rfl (by intro w hw; exact x_move (.bool false) rfl w) ?_)
          refine q_cons (q_take rfl rfl ?_)
          refine q_val rfl rfl rfl (by intro w hw; exact x_fieldAddr 30 0 0 0 28 rfl fi_30_0 rfl w) ?_
          refine q_cons (q_take rfl rfl ?_)
          refine q_val rfl rfl rfl (by intro w hw; exact x_load (.slice pp1 bs.length cc2) ag_28 rfl (hw.blk_at (i := 5) rfl) rfl) ?_
          refine q_cons (q_take rfl rfl ?_)
          refine q_val rfl rfl rfl (by intro w hw; exact x_move (.int .i64 (j : Int)) rfl w) ?_
          refine q_cons (q_take rfl rfl ?_)
          refine q_val rfl rfl rfl (by intro w hw; exact x_indexAddr gA24 (off := oA25) (j : Int) 6 (oA25 + j * 6) (by exact congrArg (fun z_ => Value.slice z_ bs.length cc2) (hp30 (by omega))) rfl el_28 (by omega) rfl w) ?_
          refine q_cons (q_take rfl rfl ?_)
          refine q_val rfl rfl rfl (by intro w hw; exact x_fieldAddr 170 1 1 (oA25 + j * 6 + 1) 168 rfl fi_170_1 rfl w) ?_
          refine q_cons (q_take rfl rfl ?_)
          refine q_val rfl rfl rfl (by intro w hw; exact x_loadAgg [.int .i64 ((bs.getD j default).ev.ev.src.v), .int .i64 ((bs.getD j default).ev.ev.seq.v), .int .i64 ((bs.getD j default).ev.ev.time.v), .string ((bs.getD j default).ev.ev.typ.v), .slice ((bs.getD j default).ev.p) ((bs.getD j default).ev.ev.attrs.length) ((bs.getD j default).ev.c)] 5 ag_168 rfl (hw.imi_at (i := 3) rfl (by omega)) (by have := elem_size (i := j) (s := 6) (hs32 (by omega)) (by omega); omega) (elem_sub bndCell_len (hx31 (by omega)) (by omega) default 1 5 (by decide))) ?_
          refine q_cons (q_take rfl rfl ?_)
          refine q_val rfl rfl rfl (by intro w hw; exact x_fieldAddr 30 0 0 0 28 rfl fi_30_0 rfl w) ?_
          refine q_cons (q_take rfl rfl ?_)
          refine q_val rfl rfl rfl (by intro w hw; exact x_load (.slice pp8 ms.length cc9) ag_28 rfl (hw.blk_at (i := 4) rfl) rfl) ?_
          refine q_cons (q_take rfl rfl ?_)
          refine q_val rfl rfl rfl (by intro w hw; exact x_move (.int .i64 (j : Int)) rfl w) ?_
          refine q_cons (q_take rfl rfl ?_)
          refine q_val rfl rfl rfl (by intro w hw; exact x_indexAddr gA37 (off := oA38) (j : Int) 6 (oA38 + j * 6) (by exact congrArg (fun z_ => Value.slice z_ ms.length cc9) (hp43 (by omega))) rfl el_28 (by omega) rfl w) ?_
          refine q_cons (q_take rfl rfl ?_)
          refine q_val rfl rfl rfl (by intro w hw; exact x_fieldAddr 170 1 1 (oA38 + j * 6 + 1) 168 rfl fi_170_1 rfl w) ?_
          refine q_cons (q_take rfl rfl ?_)
          refine q_val rfl rfl rfl (by intro w hw; exact x_loadAgg [.int .i64 ((ms.getD j default).ev.ev.src.v), .int .i64 ((ms.getD j default).ev.ev.seq.v), .int .i64 ((ms.getD j default).ev.ev.time.v), .string ((ms.getD j default).ev.ev.typ.v), .slice ((ms.getD j default).ev.p) ((ms.getD j default).ev.ev.attrs.length) ((ms.getD j default).ev.c)] 5 ag_168 rfl (hw.imi_at (i := 2) rfl (by omega)) (by have := elem_size (i := j) (s := 6) (hs45 (by omega)) (by omega); omega) (elem_sub bndCell_len (hx44 (by omega)) (by omega) default 1 5 (by decide))) ?_
          refine q_cons (q_take rfl rfl ?_)
          refine q_enter (args := #[.agg #[.int .i64 ((bs.getD j default).ev.ev.src.v), .int .i64 ((bs.getD j default).ev.ev.seq.v), .int .i64 ((bs.getD j default).ev.ev.time.v), .string ((bs.getD j default).ev.ev.typ.v), .slice ((bs.getD j default).ev.p) ((bs.getD j default).ev.ev.attrs.length) ((bs.getD j default).ev.c)], .agg #[.int .i64 ((ms.getD j default).ev.ev.src.v), .int .i64 ((ms.getD j default).ev.ev.seq.v), .int .i64 ((ms.getD j default).ev.ev.time.v), .string ((ms.getD j default).ev.ev.typ.v), .slice ((ms.getD j default).ev.p) ((ms.getD j default).ev.ev.attrs.length) ((ms.getD j default).ev.c)]]) (v := .bool (sameEv ((bs.getD j default).ev.ev) ((ms.getD j default).ev.ev))) rfl rfl rfl (x_call pl_136 [.agg #[.int .i64 ((bs.getD j default).ev.ev.src.v), .int .i64 ((bs.getD j default).ev.ev.seq.v), .int .i64 ((bs.getD j default).ev.ev.time.v), .string ((bs.getD j default).ev.ev.typ.v), .slice ((bs.getD j default).ev.p) ((bs.getD j default).ev.ev.attrs.length) ((bs.getD j default).ev.c)], .agg #[.int .i64 ((ms.getD j default).ev.ev.src.v), .int .i64 ((ms.getD j default).ev.ev.seq.v), .int .i64 ((ms.getD j default).ev.ev.time.v), .string ((ms.getD j default).ev.ev.typ.v), .slice ((ms.getD j default).ev.p) ((ms.getD j default).ev.ev.attrs.length) ((ms.getD j default).ev.c)]] rfl) (fun w hw => ref04_Same ((bs.getD j default).ev.ev) ((ms.getD j default).ev.ev) (.slice ((bs.getD j default).ev.p) ((bs.getD j default).ev.ev.attrs.length) ((bs.getD j default).ev.c)) (.slice ((ms.getD j default).ev.p) ((ms.getD j default).ev.ev.attrs.length) ((ms.getD j default).ev.c)) (j := 1) (k := 0) rfl rfl hw) ?_
          refine q_cons (q_take rfl rfl ?_)
          refine q_val rfl rfl rfl (by intro w hw; exact x_not (sameEv ((bs.getD j default).ev.ev) ((ms.getD j default).ev.ev)) rfl (!(sameEv ((bs.getD j default).ev.ev) ((ms.getD j default).ev.ev))) rfl w) ?_
          refine q_cons (q_val rfl rfl rfl (by intro w hw; exact x_pick_f (.bool (!(sameEv ((bs.getD j default).ev.ev) ((ms.getD j default).ev.ev)))) rfl rfl w) ?_)
          refine q_nil ?_
          intro w56 H57
          by_cases hb58 : (!(sameEv ((bs.getD j default).ev.ev) ((ms.getD j default).ev.ev))) = true
          · skip
            refine g_true (congrArg Value.bool hb58) ?_
            refine g_seq ?_
            refine g_region ?_
            refine r_cons (s_assign (.bool false) rfl rfl ?_)
            refine r_nil ?_
            refine g_ret' [.bool false] Try.func106 Try.results106 ⟨rfl, trivial⟩ ?_
            have H59 : St W w56 (blk bk18 (.cells #[.slice pp8 ms.length cc9] 30 (0, 0)) :: blk bk15 (.cells #[.slice pp1 bs.length cc2] 30 (0, 0)) :: bndsA ms :: Im 6 (.slice pp8 ms.length cc9) ms.length (ms.flatMap bndCell) :: bndsA bs :: Im 6 (.slice pp1 bs.length cc2) bs.length (bs.flatMap bndCell) :: F) := ((((H57.drop 0 rfl).drop 0 rfl).drop 0 rfl).drop 0 rfl)
            have H60 : St W w56 (bndsA bs :: Im 6 (.slice pp1 bs.length cc2) bs.length (bs.flatMap bndCell) :: F) := ((((H59.drop 0 rfl).drop 0 rfl).drop 0 rfl).drop 0 rfl)
            have H61 : St W w56 F := ((H60.drop 0 rfl).drop 0 rfl)
            exact ⟨congrArg Value.bool (show sameBs bs ms = false from by first | exact sameBs_len (by omega) | exact sameBs_var (j := j) (by assumption) | exact sameBs_ev (j := j) (by first | assumption | exact nottrue (by assumption) | simpa using ‹_›)).symm, H61⟩
          · have hb58 := eq_false_of_ne_true hb58
            refine g_false (congrArg Value.bool hb58) ?_
            refine g_skip ?_
            refine g_inBlock ?_
            refine g_region ?_
            refine r_cons (s_move (.int .i64 (j : Int)) rfl rfl ?_)
            refine r_cons (s_add ((j : Int) + 1) rfl rfl (wi64 (by omega)) rfl ?_)
            refine r_cons (s_assign (.int .i64 ((j : Int) + 1)) rfl rfl ?_)
            refine r_nil ?_
            have H62 : St W w56 (imi (0 < ms.length) gA37 (.cells kA39 eA40 zA41) :: imi (0 < bs.length) gA24 (.cells kA26 eA27 zA28) :: blk bk18 (.cells #[.slice pp8 ms.length cc9] 30 (0, 0)) :: blk bk15 (.cells #[.slice pp1 bs.length cc2] 30 (0, 0)) :: bndsA ms :: Im 6 (.slice pp8 ms.length cc9) ms.length (ms.flatMap bndCell) :: bndsA bs :: Im 6 (.slice pp1 bs.length cc2) bs.length (bs.flatMap bndCell) :: F) := ((((((((((H57.move 9 rfl).move 9 rfl).move 9 rfl).move 9 rfl).move 9 rfl).move 9 rfl).move 9 rfl).move 9 rfl).drop 8 rfl).drop 8 rfl)
            exact nx51 (j + 1) _ _ ⟨(by omega), (fun q hq => (Nat.lt_or_ge q j).elim (hz q) (fun h => by rw [show q = j from by omega]; exact bv_mk hc55 (by first | exact hb58 | exact notfalse hb58))), H62⟩ (by first | (dsimp only; omega) | omega) ⟨by first | rfl | exact vint (by omega), by first | rfl | exact vint (by omega), by first | rfl | exact vint (by omega), by first | rfl | exact vint (by omega), trivial⟩
        · skip
          refine q_cons (q_val rfl rfl rfl (by intro w hw; exact x_sneq true rfl rfl (nfalse hc55) w) ?_)
          refine q_cons (q_val rfl rfl rfl (by intro w hw; exact x_move (.bool true) rfl w) ?_)
          refine q_cons (q_pass rfl rfl rfl rfl rfl ?_)
          refine q_cons (q_pass rfl rfl rfl rfl rfl ?_)
          refine q_cons (q_pass rfl rfl rfl rfl rfl ?_)
          refine q_cons (q_pass rfl rfl rfl rfl rfl ?_)
          refine q_cons (q_pass rfl rfl rfl rfl rfl ?_)
          refine q_cons (q_pass rfl rfl rfl rfl rfl ?_)
          refine q_cons (q_pass rfl rfl rfl rfl rfl ?_)
          refine q_cons (q_pass rfl rfl rfl rfl rfl ?_)
          refine q_cons (q_pass rfl rfl rfl rfl rfl ?_)
          refine q_cons (q_pass rfl rfl rfl rfl rfl ?_)
          refine q_cons (q_pass rfl rfl rfl rfl rfl ?_)
          refine q_cons (q_pass rfl rfl rfl rfl rfl ?_)
          refine q_cons (q_pass rfl rfl rfl rfl rfl ?_)
          refine q_cons (q_pass rfl rfl rfl rfl rfl ?_)
          refine q_cons (q_val rfl rfl rfl (by intro w hw; exact x_pick_t (.bool true) rfl rfl w) ?_)
          refine q_nil ?_
          intro w63 H64
          refine g_true rfl ?_
          refine g_seq ?_
          refine g_region ?_
          refine r_cons (s_assign (.bool false) rfl rfl ?_)
          refine r_nil ?_
          refine g_ret' [.bool false] Try.func106 Try.results106 ⟨rfl, trivial⟩ ?_
          have H65 : St W w63 (blk bk18 (.cells #[.slice pp8 ms.length cc9] 30 (0, 0)) :: blk bk15 (.cells #[.slice pp1 bs.length cc2] 30 (0, 0)) :: bndsA ms :: Im 6 (.slice pp8 ms.length cc9) ms.length (ms.flatMap bndCell) :: bndsA bs :: Im 6 (.slice pp1 bs.length cc2) bs.length (bs.flatMap bndCell) :: F) := ((((H64.drop 0 rfl).drop 0 rfl).drop 0 rfl).drop 0 rfl)
          have H66 : St W w63 (bndsA bs :: Im 6 (.slice pp1 bs.length cc2) bs.length (bs.flatMap bndCell) :: F) := ((((H65.drop 0 rfl).drop 0 rfl).drop 0 rfl).drop 0 rfl)
          have H67 : St W w63 F := ((H66.drop 0 rfl).drop 0 rfl)
          exact ⟨congrArg Value.bool (show sameBs bs ms = false from by first | exact sameBs_len (by omega) | exact sameBs_var (j := j) (by assumption) | exact sameBs_ev (j := j) (by first | assumption | exact nottrue (by assumption) | simpa using ‹_›)).symm, H67⟩
      · skip
        refine r_cons (s_lss false rfl rfl (dfalse hc52) rfl ?_)
        refine r_nil ?_
        refine g_false rfl ?_
        refine g_exit (by rfl) ?_
        refine g_seq ?_
        refine g_region ?_
        refine r_cons (s_assign (.bool true) rfl rfl ?_)
        refine r_nil ?_
        refine g_ret' [.bool true] Try.func106 Try.results106 ⟨rfl, trivial⟩ ?_
        have H68 : St W w49 F := ((((((((H50.drop 0 rfl).drop 0 rfl).drop 0 rfl).drop 0 rfl).drop 0 rfl).drop 0 rfl).drop 0 rfl).drop 0 rfl)
        exact ⟨congrArg Value.bool (sameBs_yes (by omega) (fun q hq => hz q (by omega))).symm, H68⟩
  · skip
    refine r_cons (s_neq true rfl rfl (nfalse hc21) rfl ?_)
    refine r_nil ?_
    refine g_true rfl ?_
    refine g_seq ?_
    refine g_region ?_
    refine r_cons (s_assign (.bool false) rfl rfl ?_)
    refine r_nil ?_
    refine g_ret' [.bool false] Try.func106 Try.results106 ⟨rfl, trivial⟩ ?_
    have H69 : St W w19 F := ((((((H20.drop 0 rfl).drop 0 rfl).drop 0 rfl).drop 0 rfl).drop 0 rfl).drop 0 rfl)
    exact ⟨congrArg Value.bool (show sameBs bs ms = false from by first | exact sameBs_len (by omega) | exact sameBs_var (j := j) (by assumption) | exact sameBs_ev (j := j) (by first | assumption | exact nottrue (by assumption) | simpa using ‹_›)).symm, H69⟩
end Sl
