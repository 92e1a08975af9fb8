/- Walks of the program's functions. Printed by a program of this claim's author. No condition. -/
import Derived.Test.YtheggchlcpafmaaSlQ
import Derived.Test.YtheggchlcpafmaaSlI
import Derived.Test.YtheggchlcpafmaaSlP
import Derived.Test.YtheggchlcpafmaaSlAF
import Derived.Test.YtheggchlcpafmaaProg
import Derived.Test.YtheggchlcpafmaaWalkEventReads2
namespace Sl
open _root_.Go _root_.Go.RowKit _root_.Go.Proofs
set_option linter.all false
set_option maxHeartbeats 4000000 in
set_option maxRecDepth 100000 in
theorem ref04_take {W w : World} {F : List Atom} (b : Nat) (X : RX) (hX : X.e = 0) (hRl : X.R.length ≤ 1125899906842624) {i : Nat} (hi : F[i]? = some (RSrc b X.R)) (H : St W w F) : Calls Try.prog 85 #[.pointer (some ⟨b, 0, none⟩)] w (Ret fun v w' => ((v7 X).e = 0 ∧ ∃ q c, v = .tuple #[.agg #[.int .i64 ((evS s64 X).src.v), .int .i64 ((evS s64 X).seq.v), .int .i64 ((evS s64 X).time.v), .string ((evS s64 X).typ.v), .slice q ((evS s64 X).attrs.length) c], .int .i64 0] ∧ St W w' (Attrs (.slice q ((evS s64 X).attrs.length) c) (evS s64 X).attrs :: F.set i (RSrc b (v7 X).R))) ∨ (¬ (v7 X).e = 0 ∧ ∃ s1 s2 s3 s4 q n c R', v = .tuple #[.agg #[.int .i64 s1, .int .i64 s2, .int .i64 s3, .string s4, .slice q n c], .int .i64 (v7 X).e] ∧ St W w' (F.set i (RSrc b R')))) := by
  have H0 := H.front hi
  have hl1 := Nat.le_trans (v1_len (X := X)) hRl
  have hl2 := Nat.le_trans (v2_len (X := X)) hRl
  have hl3 := Nat.le_trans (v3_len (X := X)) hRl
  have hl4 := Nat.le_trans (v4_len (X := X)) hRl
  have hs4 : srcU X.R 4 < 16 := srcU_lt_pow (k := 4)
  have hs5 : srcU (v4 X).R 4 < 16 := srcU_lt_pow (k := 4)
  refine calls_of_go (n := 102) Try.func85 rfl Try.ntmps85 rfl ?_
  refine g_seq ?_
  refine g_region ?_
  refine r_cons (s_alloc H0 33 ze_33 rfl ?_); intro bk1 w2 H3
  refine r_cons (s_assign (.int .i64 0) rfl rfl ?_)
  refine r_nil ?_
  refine g_seq ?_
  refine g_region ?_
  refine r_cons (s_alloc H3 33 ze_33 rfl ?_); intro bk4 w5 H6
  refine r_nil ?_
  refine g_seq ?_
  refine g_region ?_
  refine r_cons (s_move (.pointer (some ⟨b, 0, none⟩)) rfl rfl ?_)
  refine r_cons (s_call [.pointer (some ⟨b, 0, none⟩), .int .i64 4] pl_104 rfl rfl (RSrc_Bits b X.R 4  (i := 2) rfl H6) ?_)
  rintro _ w7 ⟨rfl, H8⟩
  refine r_cons (s_move (.tuple #[.int .u64 (srcU X.R 4 : Int), .int .i64 (srcE X.R 4)]) rfl rfl ?_)
  refine r_cons (s_extract (.int .u64 (srcU X.R 4 : Int)) #[.int .u64 (srcU X.R 4 : Int), .int .i64 (srcE X.R 4)] rfl rfl rfl ?_)
  refine r_cons (s_extract (.int .i64 (srcE X.R 4)) #[.int .u64 (srcU X.R 4 : Int), .int .i64 (srcE X.R 4)] rfl rfl rfl ?_)
  refine r_cons (s_assign (.int .u64 (srcU X.R 4 : Int)) rfl rfl ?_)
  refine r_cons (s_assign (.int .i64 (srcE X.R 4)) rfl rfl ?_)
  refine r_nil ?_
  refine g_seq ?_
  refine g_seq ?_
  refine g_region ?_
  refine r_cons (s_move (.int .i64 (srcE X.R 4)) rfl rfl ?_)
  by_cases hc9 : srcE X.R 4 = 0
  · skip
    have q1 : stB 4 X = (srcU X.R 4, ⟨srcE X.R 4, X.R.drop (srcN X.R 4)⟩) := stB_yes hX
    have e1 : (v1 X).e = 0 := by show (stB 4 X).2.e = 0; rw [q1]; exact hc9
    have r1 : (v1 X).R = X.R.drop (srcN X.R 4) := by show (stB 4 X).2.R = _; rw [q1]
    have H10 : St W w7 (blk bk4 (.cells #[.int .i64 0, .int .i64 0, .int .i64 0, .string ByteArray.empty, .slice none 0 0] 33 (0, 0)) :: blk bk1 (.cells #[.int .i64 0, .int .i64 0, .int .i64 0, .string ByteArray.empty, .slice none 0 0] 33 (0, 0)) :: RSrc b ((v1 X).R) :: (F.set i emp)) := by rw [r1]; exact H8
    refine r_cons (s_neq false rfl rfl (ntrue hc9) rfl ?_)
    refine r_nil ?_
    refine g_false rfl ?_
    refine g_skip ?_
    refine g_seq ?_
    refine g_region ?_
    refine r_cons (s_move (.pointer (some ⟨b, 0, none⟩)) rfl rfl ?_)
    refine r_cons (s_call [.pointer (some ⟨b, 0, none⟩)] pl_105 rfl rfl (RSrc_Nat b ((v1 X).R)   (i := 2) rfl H10) ?_)
    rintro _ w11 ⟨rfl, H12⟩
    refine r_cons (s_move (.tuple #[.int .u64 (natU ((v1 X).R) : Int), .int .i64 (natE ((v1 X).R))]) rfl rfl ?_)
    refine r_cons (s_extract (.int .u64 (natU ((v1 X).R) : Int)) #[.int .u64 (natU ((v1 X).R) : Int), .int .i64 (natE ((v1 X).R))] rfl rfl rfl ?_)
    refine r_cons (s_extract (.int .i64 (natE ((v1 X).R))) #[.int .u64 (natU ((v1 X).R) : Int), .int .i64 (natE ((v1 X).R))] rfl rfl rfl ?_)
    refine r_cons (s_assign (.int .u64 (natU ((v1 X).R) : Int)) rfl rfl ?_)
    refine r_cons (s_assign (.int .i64 (natE ((v1 X).R))) rfl rfl ?_)
    refine r_nil ?_
    refine g_seq ?_
    refine g_seq ?_
    refine g_region ?_
    refine r_cons (s_move (.int .i64 (natE ((v1 X).R))) rfl rfl ?_)
    by_cases hc13 : natE ((v1 X).R) = 0
    · skip
      have q2 : stN (v1 X) = (natU (v1 X).R, ⟨natE (v1 X).R, (v1 X).R.drop (natN (v1 X).R)⟩) := stN_yes e1
      have e2 : (v2 X).e = 0 := by show (stN (v1 X)).2.e = 0; rw [q2]; exact hc13
      have r2 : (v2 X).R = (v1 X).R.drop (natN (v1 X).R) := by show (stN (v1 X)).2.R = _; rw [q2]
      have H14 : St W w11 (blk bk4 (.cells #[.int .i64 0, .int .i64 0, .int .i64 0, .string ByteArray.empty, .slice none 0 0] 33 (0, 0)) :: blk bk1 (.cells #[.int .i64 0, .int .i64 0, .int .i64 0, .string ByteArray.empty, .slice none 0 0] 33 (0, 0)) :: RSrc b ((v2 X).R) :: (F.set i emp)) := by rw [r2]; exact H12
      refine r_cons (s_neq false rfl rfl (ntrue hc13) rfl ?_)
      refine r_nil ?_
      refine g_false rfl ?_
      refine g_skip ?_
      refine g_seq ?_
      refine g_region ?_
      refine r_cons (s_move (.pointer (some ⟨b, 0, none⟩)) rfl rfl ?_)
      refine r_cons (s_call [.pointer (some ⟨b, 0, none⟩)] pl_105 rfl rfl (RSrc_Nat b ((v2 X).R)   (i := 2) rfl H14) ?_)
      rintro _ w15 ⟨rfl, H16⟩
      refine r_cons (s_move (.tuple #[.int .u64 (natU ((v2 X).R) : Int), .int .i64 (natE ((v2 X).R))]) rfl rfl ?_)
      refine r_cons (s_extract (.int .u64 (natU ((v2 X).R) : Int)) #[.int .u64 (natU ((v2 X).R) : Int), .int .i64 (natE ((v2 X).R))] rfl rfl rfl ?_)
      refine r_cons (s_extract (.int .i64 (natE ((v2 X).R))) #[.int .u64 (natU ((v2 X).R) : Int), .int .i64 (natE ((v2 X).R))] rfl rfl rfl ?_)
      refine r_cons (s_assign (.int .u64 (natU ((v2 X).R) : Int)) rfl rfl ?_)
      refine r_cons (s_assign (.int .i64 (natE ((v2 X).R))) rfl rfl ?_)
      refine r_nil ?_
      refine g_seq ?_
      refine g_seq ?_
      refine g_region ?_
      refine r_cons (s_move (.int .i64 (natE ((v2 X).R))) rfl rfl ?_)
      by_cases hc17 : natE ((v2 X).R) = 0
      · skip
        have q3 : stN (v2 X) = (natU (v2 X).R, ⟨natE (v2 X).R, (v2 X).R.drop (natN (v2 X).R)⟩) := stN_yes e2
        have e3 : (v3 X).e = 0 := by show (stN (v2 X)).2.e = 0; rw [q3]; exact hc17
        have r3 : (v3 X).R = (v2 X).R.drop (natN (v2 X).R) := by show (stN (v2 X)).2.R = _; rw [q3]
        have H18 : St W w15 (blk bk4 (.cells #[.int .i64 0, .int .i64 0, .int .i64 0, .string ByteArray.empty, .slice none 0 0] 33 (0, 0)) :: blk bk1 (.cells #[.int .i64 0, .int .i64 0, .int .i64 0, .string ByteArray.empty, .slice none 0 0] 33 (0, 0)) :: RSrc b ((v3 X).R) :: (F.set i emp)) := by rw [r3]; exact H16
        refine r_cons (s_neq false rfl rfl (ntrue hc17) rfl ?_)
        refine r_nil ?_
        refine g_false rfl ?_
        refine g_skip ?_
        refine g_seq ?_
        refine g_region ?_
        refine r_cons (s_move (.int .u64 (srcU X.R 4 : Int)) rfl rfl ?_)
        refine r_cons (s_conv (srcU X.R 4 : Int) rfl us_62 ik_3 (wi64 (by omega)) rfl ?_)
        refine r_cons (s_move (.int .u64 (natU ((v1 X).R) : Int)) rfl rfl ?_)
        refine r_cons (s_conv (s64 (natU ((v1 X).R))) rfl us_62 ik_2 (rfl) rfl ?_)
        refine r_cons (s_build (cs := #[.int .i64 (srcU X.R 4 : Int), .int .i64 (s64 (natU ((v1 X).R)))]) (by kernel_rfl) rfl ?_)
        refine r_cons (s_fieldAddr 33 0 0 0 30 rfl fi_33_0 rfl rfl ?_)
        refine r_cons (s_storeAgg H18 0 #[.int .i64 (srcU X.R 4 : Int), .int .i64 (s64 (natU ((v1 X).R)))] 2 rfl rfl rfl sz_30 rfl (by simp [Value.oneCell']) (Nat.le_of_ble_eq_true rfl) (fun o h1 h2 => by first | (simp; done) | (simp; omega)) (cs' := #[.int .i64 (srcU X.R 4 : Int), .int .i64 (s64 (natU ((v1 X).R))), .int .i64 0, .string ByteArray.empty, .slice none 0 0]) rfl ?_); intro w19 H20
        refine r_nil ?_
        refine g_seq ?_
        refine g_region ?_
        refine r_cons (s_move (.int .u64 (natU ((v2 X).R) : Int)) rfl rfl ?_)
        refine r_cons (s_conv (s64 (natU ((v2 X).R))) rfl us_62 ik_2 (rfl) rfl ?_)
        refine r_cons (s_fieldAddr 33 1 2 2 2 rfl fi_33_1 rfl rfl ?_)
        refine r_cons (s_store H20 0 (.int .i64 (s64 (natU ((v2 X).R)))) rfl rfl rfl sz_2 rfl (Nat.le_of_ble_eq_true rfl) rfl (cs' := #[.int .i64 (srcU X.R 4 : Int), .int .i64 (s64 (natU ((v1 X).R))), .int .i64 (s64 (natU ((v2 X).R))), .string ByteArray.empty, .slice none 0 0]) rfl ?_); intro w21 H22
        refine r_nil ?_
        refine g_seq ?_
        refine g_region ?_
        refine r_cons (s_move (.pointer (some ⟨b, 0, none⟩)) rfl rfl ?_)
        refine r_cons (s_call [.pointer (some ⟨b, 0, none⟩)] pl_106 rfl rfl (RSrc_Text b ((v3 X).R)  (by first | assumption | omega | (simp only [List.length_drop]; omega)) (i := 2) rfl H22) ?_)
        rintro _ w23 ⟨rfl, H24⟩
        refine r_cons (s_move (.tuple #[.string (textS ((v3 X).R)), .int .i64 (textE ((v3 X).R))]) rfl rfl ?_)
        refine r_cons (s_extract (.string (textS ((v3 X).R))) #[.string (textS ((v3 X).R)), .int .i64 (textE ((v3 X).R))] rfl rfl rfl ?_)
        refine r_cons (s_extract (.int .i64 (textE ((v3 X).R))) #[.string (textS ((v3 X).R)), .int .i64 (textE ((v3 X).R))] rfl rfl rfl ?_)
        refine r_cons (s_fieldAddr 33 2 3 3 9 rfl fi_33_2 rfl rfl ?_)
        refine r_cons (s_store H24 0 (.string (textS ((v3 X).R))) rfl rfl rfl sz_9 rfl (Nat.le_of_ble_eq_true rfl) rfl (cs' := #[.int .i64 (srcU X.R 4 : Int), .int .i64 (s64 (natU ((v1 X).R))), .int .i64 (s64 (natU ((v2 X).R))), .string (textS ((v3 X).R)), .slice none 0 0]) rfl ?_); intro w25 H26
        refine r_cons (s_assign (.int .i64 (textE ((v3 X).R))) rfl rfl ?_)
        refine r_nil ?_
        refine g_seq ?_
        refine g_seq ?_
        refine g_region ?_
        refine r_cons (s_move (.int .i64 (textE ((v3 X).R))) rfl rfl ?_)
        by_cases hc27 : textE ((v3 X).R) = 0
        · skip
          have q4 : stT (v3 X) = (textS (v3 X).R, ⟨textE (v3 X).R, (v3 X).R.drop (textN (v3 X).R)⟩) := stT_yes e3
          have e4 : (v4 X).e = 0 := by show (stT (v3 X)).2.e = 0; rw [q4]; exact hc27
          have r4 : (v4 X).R = (v3 X).R.drop (textN (v3 X).R) := by show (stT (v3 X)).2.R = _; rw [q4]
          have H28 : St W w25 (blk bk4 (.cells #[.int .i64 (srcU X.R 4 : Int), .int .i64 (s64 (natU ((v1 X).R))), .int .i64 (s64 (natU ((v2 X).R))), .string (textS ((v3 X).R)), .slice none 0 0] 33 (0, 0)) :: blk bk1 (.cells #[.int .i64 0, .int .i64 0, .int .i64 0, .string ByteArray.empty, .slice none 0 0] 33 (0, 0)) :: RSrc b ((v4 X).R) :: (F.set i emp)) := by rw [r4]; exact H26
          refine r_cons (s_neq false rfl rfl (ntrue hc27) rfl ?_)
          refine r_nil ?_
          refine g_false rfl ?_
          refine g_skip ?_
          refine g_seq ?_
          refine g_region ?_
          refine r_cons (s_move (.pointer (some ⟨b, 0, none⟩)) rfl rfl ?_)
          refine r_cons (s_call [.pointer (some ⟨b, 0, none⟩), .int .i64 4] pl_104 rfl rfl (RSrc_Bits b ((v4 X).R) 4  (i := 2) rfl H28) ?_)
          rintro _ w29 ⟨rfl, H30⟩
          refine r_cons (s_move (.tuple #[.int .u64 (srcU ((v4 X).R) 4 : Int), .int .i64 (srcE ((v4 X).R) 4)]) rfl rfl ?_)
          refine r_cons (s_extract (.int .u64 (srcU ((v4 X).R) 4 : Int)) #[.int .u64 (srcU ((v4 X).R) 4 : Int), .int .i64 (srcE ((v4 X).R) 4)] rfl rfl rfl ?_)
          refine r_cons (s_extract (.int .i64 (srcE ((v4 X).R) 4)) #[.int .u64 (srcU ((v4 X).R) 4 : Int), .int .i64 (srcE ((v4 X).R) 4)] rfl rfl rfl ?_)
          refine r_cons (s_assign (.int .u64 (srcU ((v4 X).R) 4 : Int)) rfl rfl ?_)
          refine r_cons (s_assign (.int .i64 (srcE ((v4 X).R) 4)) rfl rfl ?_)
          refine r_nil ?_
          refine g_seq ?_
          refine g_seq ?_
          refine g_region ?_
          refine r_cons (s_move (.int .i64 (srcE ((v4 X).R) 4)) rfl rfl ?_)
          by_cases hc31 : srcE ((v4 X).R) 4 = 0
          · skip
            have q5 : stB 4 (v4 X) = (srcU (v4 X).R 4, ⟨srcE (v4 X).R 4, (v4 X).R.drop (srcN (v4 X).R 4)⟩) := stB_yes e4
            have e5 : (v5 X).e = 0 := by show (stB 4 (v4 X)).2.e = 0; rw [q5]; exact hc31
            have r5 : (v5 X).R = (v4 X).R.drop (srcN (v4 X).R 4) := by show (stB 4 (v4 X)).2.R = _; rw [q5]
            have H32 : St W w29 (blk bk4 (.cells #[.int .i64 (srcU X.R 4 : Int), .int .i64 (s64 (natU ((v1 X).R))), .int .i64 (s64 (natU ((v2 X).R))), .string (textS ((v3 X).R)), .slice none 0 0] 33 (0, 0)) :: blk bk1 (.cells #[.int .i64 0, .int .i64 0, .int .i64 0, .string ByteArray.empty, .slice none 0 0] 33 (0, 0)) :: RSrc b ((v5 X).R) :: (F.set i emp)) := by rw [r5]; exact H30
            refine r_cons (s_neq false rfl rfl (ntrue hc31) rfl ?_)
            refine r_nil ?_
            refine g_false rfl ?_
            refine g_skip ?_
            refine g_seq ?_
            refine g_seq ?_
            refine g_region ?_
            refine r_cons (s_move (.int .u64 (srcU ((v4 X).R) 4 : Int)) rfl rfl ?_)
            by_cases hc33 : (8 : Int) < (srcU ((v4 X).R) 4 : Int)
            · skip
              have e6 : (v6 X).e = 40 := by
                show (if 8 < vn X then stK 40 (v5 X) else v5 X).e = 40
                rw [if_pos (show 8 < vn X by show 8 < (stB 4 (v4 X)).1; rw [q5]; show 8 < srcU (v4 X).R 4; omega), stK_yes e5]
              have e7 : (v7 X).e = 40 := (v7_6 (by rw [e6]; decide)).trans e6
              have en7 : ¬ (v7 X).e = 0 := by rw [e7]; decide
              refine r_cons (s_gtr true rfl rfl (dtrue hc33) rfl ?_)
              refine r_nil ?_
              refine g_true rfl ?_
              refine g_seq ?_
              refine g_region ?_
              refine r_cons (s_loadAgg [.int .i64 (srcU X.R 4 : Int), .int .i64 (s64 (natU ((v1 X).R))), .int .i64 (s64 (natU ((v2 X).R))), .string (textS ((v3 X).R)), .slice none 0 0] 5 ag_33 rfl (H32.blk_at (i := 0) rfl) (Nat.le_of_ble_eq_true rfl) rfl rfl ?_)
              refine r_cons (s_storeAgg H32 1 #[.int .i64 (srcU X.R 4 : Int), .int .i64 (s64 (natU ((v1 X).R))), .int .i64 (s64 (natU ((v2 X).R))), .string (textS ((v3 X).R)), .slice none 0 0] 5 rfl rfl rfl sz_33 rfl (by simp [Value.oneCell']) (Nat.le_of_ble_eq_true rfl) (fun o h1 h2 => by first | (simp; done) | (simp; omega)) (cs' := #[.int .i64 (srcU X.R 4 : Int), .int .i64 (s64 (natU ((v1 X).R))), .int .i64 (s64 (natU ((v2 X).R))), .string (textS ((v3 X).R)), .slice none 0 0]) rfl ?_); intro w34 H35
              refine r_cons (s_assign (.int .i64 40) rfl rfl ?_)
              refine r_nil ?_
              refine g_ret' [.agg #[.int .i64 (srcU X.R 4 : Int), .int .i64 (s64 (natU ((v1 X).R))), .int .i64 (s64 (natU ((v2 X).R))), .string (textS ((v3 X).R)), .slice none 0 0], .int .i64 40] Try.func85 Try.results85 ⟨(res_cellN rfl ag_33 (H35.blk_at (i := 1) rfl) (Nat.le_of_ble_eq_true rfl) rfl), rfl, trivial⟩ ?_
              have H36 : St W w34 (RSrc b ((v5 X).R) :: (F.set i emp)) := (((H35.move 2 rfl).drop 1 rfl).drop 1 rfl)
              exact .inr ⟨en7, _, _, _, _, _, _, _, _, by rw [e7]; rfl, St.back hi H36⟩
            · skip
              have h6 : v6 X = v5 X := if_neg (show ¬ 8 < vn X by show ¬ 8 < (stB 4 (v4 X)).1; rw [q5]; show ¬ 8 < srcU (v4 X).R 4; omega)
              have e6 : (v6 X).e = 0 := by rw [h6]; exact e5
              refine r_cons (s_gtr false rfl rfl (dfalse hc33) rfl ?_)
              refine r_nil ?_
              refine g_false rfl ?_
              refine g_skip ?_
              refine g_seq ?_
              refine g_seq ?_
              refine g_region ?_
              refine r_cons (s_assign (.int .u64 0) rfl rfl ?_)
              refine r_nil ?_
              refine g_block ?_
              have H37 : St W w29 (blk bk4 (.cells #[.int .i64 (srcU X.R 4 : Int), .int .i64 (s64 (natU ((v1 X).R))), .int .i64 (s64 (natU ((v2 X).R))), .string (textS ((v3 X).R)), .slice none 0 0] 33 (0, 0)) :: blk bk1 (.cells #[.int .i64 0, .int .i64 0, .int .i64 0, .string ByteArray.empty, .slice none 0 0] 33 (0, 0)) :: RSrc b ((v6 X).R) :: (F.set i emp)) := by rw [h6]; exact H32
              have H38 := Row.nil_intro H37 91 4
              have H39 : St W w29 (Row 91 4 (.slice none 0 0) 0 [] :: RSrc b ((v6 X).R) :: blk bk4 (.cells #[.int .i64 (srcU X.R 4 : Int), .int .i64 (s64 (natU ((v1 X).R))), .int .i64 (s64 (natU ((v2 X).R))), .string (textS ((v3 X).R)), .slice none 0 0] 33 (0, 0)) :: blk bk1 (.cells #[.int .i64 0, .int .i64 0, .int .i64 0, .string ByteArray.empty, .slice none 0 0] 33 (0, 0)) :: (F.set i emp)) := ((((H38.move 2 rfl).move 2 rfl).move 3 rfl).move 3 rfl)
              refine g_loop_inv (fun (x_ : Nat × (Option Addr) × Nat) => match x_ with | (j, qa, ca) => [(0, .pointer (some ⟨b, 0, none⟩)), (2, .pointer (some ⟨bk1, 0, none⟩)), (3, .int .i64 0), (4, .pointer (some ⟨bk4, 0, none⟩)), (9, .int .u64 (srcU ((v4 X).R) 4 : Int)), (10, .int .u64 (j : Int))]) (fun (x_ : Nat × (Option Addr) × Nat) w => match x_ with | (j, qa, ca) => (j ≤ srcU (v4 X).R 4) ∧ ((ats j (v6 X)).2.e = 0) ∧ St W w (Row 91 4 (.slice qa ((ats j (v6 X)).1.length) ca) ((ats j (v6 X)).1.length) (((ats j (v6 X)).1).flatMap attrCell) :: RSrc b ((ats j (v6 X)).2.R) :: blk bk4 (.cells #[.int .i64 (srcU X.R 4 : Int), .int .i64 (s64 (natU ((v1 X).R))), .int .i64 (s64 (natU ((v2 X).R))), .string (textS ((v3 X).R)), .slice qa ((ats j (v6 X)).1.length) ca] 33 (0, 0)) :: blk bk1 (.cells #[.int .i64 0, .int .i64 0, .int .i64 0, .string ByteArray.empty, .slice none 0 0] 33 (0, 0)) :: (F.set i emp))) (fun (x_ : Nat × (Option Addr) × Nat) => match x_ with | (j, qa, ca) => srcU (v4 X).R 4 - j) (0, none, 0) ?_ ?_ ?_
              · exact ⟨by first | rfl | exact vint (by omega), by first | rfl | exact vint (by omega), by first | rfl | exact vint (by omega), by first | rfl | exact vint (by omega), by first | rfl | exact vint (by omega), by first | rfl | exact vint (by omega), trivial⟩
              · exact ⟨(by omega), e6, H39⟩
              · rintro ⟨j, qa, ca⟩ ρ40 w41 ⟨hjn, hej, H42⟩ nx43
                change Ends _ _ (upds ρ40 [(0, .pointer (some ⟨b, 0, none⟩)), (2, .pointer (some ⟨bk1, 0, none⟩)), (3, .int .i64 0), (4, .pointer (some ⟨bk4, 0, none⟩)), (9, .int .u64 (srcU ((v4 X).R) 4 : Int)), (10, .int .u64 (j : Int))]) w41
                have hln := ats_le (X := v6 X) j
                have hvn : srcU (v4 X).R 4 < 16 := srcU_lt_pow (k := 4)
                have hlj : (ats j (v6 X)).2.R.length ≤ 1125899906842624 := Nat.le_trans (ats_len2 j) (Nat.le_trans v6_len hRl)
                obtain ⟨c1, c2, c3, c4⟩ := stA_cells hlj
                have c0 : (stT (ats j (v6 X)).2).1 = textS (ats j (v6 X)).2.R := by rw [stT_yes hej]
                have hlt : (stT (ats j (v6 X)).2).2.R.length ≤ 1125899906842624 := Nat.le_trans stT_len hlj
                refine g_seq ?_
                refine g_seq ?_
                refine g_region ?_
                refine r_cons (s_move (.int .u64 (j : Int)) rfl rfl ?_)
                refine r_cons (s_move (.int .u64 (srcU ((v4 X).R) 4 : Int)) rfl rfl ?_)
                by_cases hc44 : (j : Int) < (srcU ((v4 X).R) 4 : Int)
                · skip
                  refine r_cons (s_lss true rfl rfl (dtrue hc44) rfl ?_)
                  refine r_nil ?_
                  refine g_true rfl ?_
                  refine g_skip ?_
                  refine g_seq ?_
                  refine g_block ?_
                  refine g_seq ?_
                  refine g_region ?_
                  refine r_cons (s_alloc H42 91 ze_91 rfl ?_); intro bk45 w46 H47
                  refine r_nil ?_
                  refine g_seq ?_
                  refine g_region ?_
                  refine r_cons (s_move (.pointer (some ⟨b, 0, none⟩)) rfl rfl ?_)
                  refine r_cons (s_call [.pointer (some ⟨b, 0, none⟩)] pl_106 rfl rfl (RSrc_Text b ((ats j (v6 X)).2.R)  (by first | assumption | omega | (simp only [List.length_drop]; omega)) (i := 2) rfl H47) ?_)
                  rintro _ w48 ⟨rfl, H49⟩
                  refine r_cons (s_move (.tuple #[.string (textS ((ats j (v6 X)).2.R)), .int .i64 (textE ((ats j (v6 X)).2.R))]) rfl rfl ?_)
                  refine r_cons (s_extract (.string (textS ((ats j (v6 X)).2.R))) #[.string (textS ((ats j (v6 X)).2.R)), .int .i64 (textE ((ats j (v6 X)).2.R))] rfl rfl rfl ?_)
                  refine r_cons (s_extract (.int .i64 (textE ((ats j (v6 X)).2.R))) #[.string (textS ((ats j (v6 X)).2.R)), .int .i64 (textE ((ats j (v6 X)).2.R))] rfl rfl rfl ?_)
                  refine r_cons (s_fieldAddr 91 0 0 0 9 rfl fi_91_0 rfl rfl ?_)
                  refine r_cons (s_store H49 0 (.string (textS ((ats j (v6 X)).2.R))) rfl rfl rfl sz_9 rfl (Nat.le_of_ble_eq_true rfl) rfl (cs' := #[.string (textS ((ats j (v6 X)).2.R)), .int .i64 0, .int .i64 0, .string ByteArray.empty]) rfl ?_); intro w50 H51
                  refine r_cons (s_assign (.int .i64 (textE ((ats j (v6 X)).2.R))) rfl rfl ?_)
                  refine r_nil ?_
                  refine g_seq ?_
                  refine g_seq ?_
                  refine g_region ?_
                  refine r_cons (s_move (.int .i64 (textE ((ats j (v6 X)).2.R))) rfl rfl ?_)
                  by_cases hc52 : textE ((ats j (v6 X)).2.R) = 0
                  · skip
                    have qaa : stT (ats j (v6 X)).2 = (textS (ats j (v6 X)).2.R, ⟨textE (ats j (v6 X)).2.R, (ats j (v6 X)).2.R.drop (textN (ats j (v6 X)).2.R)⟩) := stT_yes hej
                    have eaa : (stT (ats j (v6 X)).2).2.e = 0 := by show (stT (ats j (v6 X)).2).2.e = 0; rw [qaa]; exact hc52
                    have raa : (stT (ats j (v6 X)).2).2.R = (ats j (v6 X)).2.R.drop (textN (ats j (v6 X)).2.R) := by show (stT (ats j (v6 X)).2).2.R = _; rw [qaa]
                    have H53 : St W w50 (blk bk45 (.cells #[.string (textS ((ats j (v6 X)).2.R)), .int .i64 0, .int .i64 0, .string ByteArray.empty] 91 (0, 0)) :: Row 91 4 (.slice qa ((ats j (v6 X)).1.length) ca) ((ats j (v6 X)).1.length) (((ats j (v6 X)).1).flatMap attrCell) :: RSrc b ((stT (ats j (v6 X)).2).2.R) :: blk bk4 (.cells #[.int .i64 (srcU X.R 4 : Int), .int .i64 (s64 (natU ((v1 X).R))), .int .i64 (s64 (natU ((v2 X).R))), .string (textS ((v3 X).R)), .slice qa ((ats j (v6 X)).1.length) ca] 33 (0, 0)) :: blk bk1 (.cells #[.int .i64 0, .int .i64 0, .int .i64 0, .string ByteArray.empty, .slice none 0 0] 33 (0, 0)) :: (F.set i emp)) := by rw [raa]; exact H51
                    refine r_cons (s_neq false rfl rfl (ntrue hc52) rfl ?_)
                    refine r_nil ?_
                    refine g_false rfl ?_
                    refine g_skip ?_
                    refine g_seq ?_
                    refine g_region ?_
                    refine r_cons (s_move (.pointer (some ⟨b, 0, none⟩)) rfl rfl ?_)
                    refine r_cons (s_call [.pointer (some ⟨b, 0, none⟩)] pl_107 rfl rfl (ref04_value b ((stT (ats j (v6 X)).2).2) eaa (by first | assumption | omega) (i := 2) rfl H53) ?_)
                    rintro _ w60 (⟨he54, rfl, H55⟩ | ⟨he54, sx56, sx57, sx58, RR59, rfl, H55⟩)
                    · skip
                      refine r_cons (s_move (.tuple #[.agg #[.int .i64 ((stV ((stT (ats j (v6 X)).2).2)).1.1), .int .i64 ((stV ((stT (ats j (v6 X)).2).2)).1.2.1), .string ((stV ((stT (ats j (v6 X)).2).2)).1.2.2)], .int .i64 0]) rfl rfl ?_)
                      refine r_cons (s_extract (.agg #[.int .i64 ((stV ((stT (ats j (v6 X)).2).2)).1.1), .int .i64 ((stV ((stT (ats j (v6 X)).2).2)).1.2.1), .string ((stV ((stT (ats j (v6 X)).2).2)).1.2.2)]) #[.agg #[.int .i64 ((stV ((stT (ats j (v6 X)).2).2)).1.1), .int .i64 ((stV ((stT (ats j (v6 X)).2).2)).1.2.1), .string ((stV ((stT (ats j (v6 X)).2).2)).1.2.2)], .int .i64 0] rfl rfl rfl ?_)
                      refine r_cons (s_extract (.int .i64 0) #[.agg #[.int .i64 ((stV ((stT (ats j (v6 X)).2).2)).1.1), .int .i64 ((stV ((stT (ats j (v6 X)).2).2)).1.2.1), .string ((stV ((stT (ats j (v6 X)).2).2)).1.2.2)], .int .i64 0] rfl rfl rfl ?_)
                      refine r_cons (s_fieldAddr 91 1 1 1 89 rfl fi_91_1 rfl rfl ?_)
                      refine r_cons (s_storeAgg H55 0 #[.int .i64 ((stV ((stT (ats j (v6 X)).2).2)).1.1), .int .i64 ((stV ((stT (ats j (v6 X)).2).2)).1.2.1), .string ((stV ((stT (ats j (v6 X)).2).2)).1.2.2)] 3 rfl rfl rfl sz_89 rfl (by simp [Value.oneCell']) (Nat.le_of_ble_eq_true rfl) (fun o h1 h2 => by first | (simp; done) | (simp; omega)) (cs' := #[.string (textS ((ats j (v6 X)).2.R)), .int .i64 ((stV ((stT (ats j (v6 X)).2).2)).1.1), .int .i64 ((stV ((stT (ats j (v6 X)).2).2)).1.2.1), .string ((stV ((stT (ats j (v6 X)).2).2)).1.2.2)]) rfl ?_); intro w61 H62
                      refine r_cons (s_assign (.int .i64 0) rfl rfl ?_)
                      refine r_nil ?_
                      refine g_seq ?_
                      refine g_seq ?_
                      refine g_region ?_
                      refine r_cons (s_move (.int .i64 0) rfl rfl ?_)
                      refine r_cons (s_neq false rfl rfl (ntrue (by decide)) rfl ?_)
                      refine r_nil ?_
                      refine g_false rfl ?_
                      refine g_skip ?_
                      refine g_region ?_
                      refine r_cons (s_fieldAddr 33 3 4 4 31 rfl fi_33_3 rfl rfl ?_)
                      refine r_cons (s_load (.slice qa ((ats j (v6 X)).1.length) ca) ag_31 rfl (H62.blk_at (i := 3) rfl) rfl rfl ?_)
                      refine r_cons (s_loadAgg [.string (textS ((ats j (v6 X)).2.R)), .int .i64 ((stV ((stT (ats j (v6 X)).2).2)).1.1), .int .i64 ((stV ((stT (ats j (v6 X)).2).2)).1.2.1), .string ((stV ((stT (ats j (v6 X)).2).2)).1.2.2)] 4 ag_91 rfl (H62.blk_at (i := 0) rfl) (Nat.le_of_ble_eq_true rfl) rfl rfl ?_)
                      refine r_cons (s_buildSlice H62 4 1 (cs := #[.string (textS ((ats j (v6 X)).2.R)), .int .i64 ((stV ((stT (ats j (v6 X)).2).2)).1.1), .int .i64 ((stV ((stT (ats j (v6 X)).2).2)).1.2.1), .string ((stV ((stT (ats j (v6 X)).2).2)).1.2.2)]) #[.string ByteArray.empty, .int .i64 0, .int .i64 0, .string ByteArray.empty] el_31 ze_91 (by decide) (by decide) (by kernel_rfl) rfl ?_); intro bk63 w64 H65
                      refine r_cons (s_append H65 2 rfl rfl rfl (rd_blk (H65.blk_at (i := 0) rfl) rfl (Nat.le_of_ble_eq_true rfl) (by simp [Value.oneCell'])) ap_31 (by decide) (by unfold maxLen; omega) (by omega) (n' := (ats j (v6 X)).1.length + 1) (xs' := ((ats j (v6 X)).1 ++ [(stA (ats j (v6 X)).2).1]).flatMap attrCell) (by omega) (by rw [List.flatMap_append, ← c0, ← c1, ← c2, ← c3, ← c4]; rfl) rfl ?_); intro vv66 w67 H68 hn69
                      obtain ⟨pp70, cc71, rfl⟩ := Row.slice H68 (i := 2) rfl
                      refine r_cons (s_fieldAddr 33 3 4 4 31 rfl fi_33_3 rfl rfl ?_)
                      refine r_cons (s_store H68 4 (.slice pp70 ((ats j (v6 X)).1.length + 1) cc71) rfl rfl rfl sz_31 rfl (Nat.le_of_ble_eq_true rfl) rfl (cs' := #[.int .i64 (srcU X.R 4 : Int), .int .i64 (s64 (natU ((v1 X).R))), .int .i64 (s64 (natU ((v2 X).R))), .string (textS ((v3 X).R)), .slice pp70 ((ats j (v6 X)).1.length + 1) cc71]) rfl ?_); intro w72 H73
                      refine r_nil ?_
                      refine g_inBlock ?_
                      refine g_region ?_
                      refine r_cons (s_move (.int .u64 (j : Int)) rfl rfl ?_)
                      refine r_cons (s_add ((j : Int) + 1) rfl rfl (wu64 (by omega)) rfl ?_)
                      refine r_cons (s_assign (.int .u64 ((j : Int) + 1)) rfl rfl ?_)
                      refine r_nil ?_
                      have H74 : St W w72 (Row 91 4 (.slice pp70 ((ats j (v6 X)).1.length + 1) cc71) ((ats j (v6 X)).1.length + 1) (((ats j (v6 X)).1 ++ [(stA (ats j (v6 X)).2).1]).flatMap attrCell) :: RSrc b ((stV ((stT (ats j (v6 X)).2).2)).2.R) :: blk bk4 (.cells #[.int .i64 (srcU X.R 4 : Int), .int .i64 (s64 (natU ((v1 X).R))), .int .i64 (s64 (natU ((v2 X).R))), .string (textS ((v3 X).R)), .slice pp70 ((ats j (v6 X)).1.length + 1) cc71] 33 (0, 0)) :: blk bk1 (.cells #[.int .i64 0, .int .i64 0, .int .i64 0, .string ByteArray.empty, .slice none 0 0] 33 (0, 0)) :: (F.set i emp)) := ((((((H73.move 5 rfl).move 5 rfl).move 5 rfl).move 5 rfl).drop 4 rfl).drop 4 rfl)
                      have H75 : St W w72 (Row 91 4 (.slice pp70 ((ats (j + 1) (v6 X)).1.length) cc71) ((ats (j + 1) (v6 X)).1.length) (((ats (j + 1) (v6 X)).1).flatMap attrCell) :: RSrc b ((ats (j + 1) (v6 X)).2.R) :: blk bk4 (.cells #[.int .i64 (srcU X.R 4 : Int), .int .i64 (s64 (natU ((v1 X).R))), .int .i64 (s64 (natU ((v2 X).R))), .string (textS ((v3 X).R)), .slice pp70 ((ats (j + 1) (v6 X)).1.length) cc71] 33 (0, 0)) :: blk bk1 (.cells #[.int .i64 0, .int .i64 0, .int .i64 0, .string ByteArray.empty, .slice none 0 0] 33 (0, 0)) :: (F.set i emp)) := by rw [ats_yes hej, List.length_append]; exact H74
                      exact nx43 (j + 1, pp70, cc71) _ _ ⟨(by omega), (by rw [ats_yes hej]; exact he54), H75⟩ (by first | (dsimp only; omega) | omega) ⟨by first | rfl | exact vint (by omega), by first | rfl | exact vint (by omega), by first | rfl | exact vint (by omega), by first | rfl | exact vint (by omega), by first | rfl | exact vint (by omega), by first | rfl | exact vint (by omega), trivial⟩
                    · skip
                      have ea : (ats (j + 1) (v6 X)).2.e = (stV ((stT (ats j (v6 X)).2).2)).2.e := by rw [ats_yes hej]; rfl
                      have e7 : (v7 X).e = (stV ((stT (ats j (v6 X)).2).2)).2.e := (v7_at (j := j + 1) (by show j + 1 ≤ (stB 4 (v4 X)).1; rw [q5]; show j + 1 ≤ srcU (v4 X).R 4; omega) (by rw [ea]; exact he54)).trans ea
                      have en7 : ¬ (v7 X).e = 0 := by rw [e7]; exact he54
                      refine r_cons (s_move (.tuple #[.agg #[.int .i64 sx56, .int .i64 sx57, .string sx58], .int .i64 ((stV ((stT (ats j (v6 X)).2).2)).2.e)]) rfl rfl ?_)
                      refine r_cons (s_extract (.agg #[.int .i64 sx56, .int .i64 sx57, .string sx58]) #[.agg #[.int .i64 sx56, .int .i64 sx57, .string sx58], .int .i64 ((stV ((stT (ats j (v6 X)).2).2)).2.e)] rfl rfl rfl ?_)
                      refine r_cons (s_extract (.int .i64 ((stV ((stT (ats j (v6 X)).2).2)).2.e)) #[.agg #[.int .i64 sx56, .int .i64 sx57, .string sx58], .int .i64 ((stV ((stT (ats j (v6 X)).2).2)).2.e)] rfl rfl rfl ?_)
                      refine r_cons (s_fieldAddr 91 1 1 1 89 rfl fi_91_1 rfl rfl ?_)
                      refine r_cons (s_storeAgg H55 0 #[.int .i64 sx56, .int .i64 sx57, .string sx58] 3 rfl rfl rfl sz_89 rfl (by simp [Value.oneCell']) (Nat.le_of_ble_eq_true rfl) (fun o h1 h2 => by first | (simp; done) | (simp; omega)) (cs' := #[.string (textS ((ats j (v6 X)).2.R)), .int .i64 sx56, .int .i64 sx57, .string sx58]) rfl ?_); intro w76 H77
                      refine r_cons (s_assign (.int .i64 ((stV ((stT (ats j (v6 X)).2).2)).2.e)) rfl rfl ?_)
                      refine r_nil ?_
                      refine g_seq ?_
                      refine g_seq ?_
                      refine g_region ?_
                      refine r_cons (s_move (.int .i64 ((stV ((stT (ats j (v6 X)).2).2)).2.e)) rfl rfl ?_)
                      refine r_cons (s_neq true rfl rfl (nfalse (by omega)) rfl ?_)
                      refine r_nil ?_
                      refine g_true rfl ?_
                      refine g_seq ?_
                      refine g_region ?_
                      refine r_cons (s_loadAgg [.int .i64 (srcU X.R 4 : Int), .int .i64 (s64 (natU ((v1 X).R))), .int .i64 (s64 (natU ((v2 X).R))), .string (textS ((v3 X).R)), .slice qa ((ats j (v6 X)).1.length) ca] 5 ag_33 rfl (H77.blk_at (i := 3) rfl) (Nat.le_of_ble_eq_true rfl) rfl rfl ?_)
                      refine r_cons (s_move (.int .i64 ((stV ((stT (ats j (v6 X)).2).2)).2.e)) rfl rfl ?_)
                      refine r_cons (s_storeAgg H77 4 #[.int .i64 (srcU X.R 4 : Int), .int .i64 (s64 (natU ((v1 X).R))), .int .i64 (s64 (natU ((v2 X).R))), .string (textS ((v3 X).R)), .slice qa ((ats j (v6 X)).1.length) ca] 5 rfl rfl rfl sz_33 rfl (by simp [Value.oneCell']) (Nat.le_of_ble_eq_true rfl) (fun o h1 h2 => by first | (simp; done) | (simp; omega)) (cs' := #[.int .i64 (srcU X.R 4 : Int), .int .i64 (s64 (natU ((v1 X).R))), .int .i64 (s64 (natU ((v2 X).R))), .string (textS ((v3 X).R)), .slice qa ((ats j (v6 X)).1.length) ca]) rfl ?_); intro w78 H79
                      refine r_cons (s_assign (.int .i64 ((stV ((stT (ats j (v6 X)).2).2)).2.e)) rfl rfl ?_)
                      refine r_nil ?_
                      refine g_ret' [.agg #[.int .i64 (srcU X.R 4 : Int), .int .i64 (s64 (natU ((v1 X).R))), .int .i64 (s64 (natU ((v2 X).R))), .string (textS ((v3 X).R)), .slice qa ((ats j (v6 X)).1.length) ca], .int .i64 ((stV ((stT (ats j (v6 X)).2).2)).2.e)] Try.func85 Try.results85 ⟨(res_cellN rfl ag_33 (H79.blk_at (i := 4) rfl) (Nat.le_of_ble_eq_true rfl) rfl), rfl, trivial⟩ ?_
                      have H80 : St W w78 (RSrc b RR59 :: (F.set i emp)) := (((((H79.move 2 rfl).drop 1 rfl).drop 1 rfl).drop 1 rfl).drop 1 rfl)
                      exact .inr ⟨en7, _, _, _, _, _, _, _, _, by rw [e7]; rfl, St.back hi H80⟩
                  · skip
                    have ee : (stT (ats j (v6 X)).2).2.e = textE (ats j (v6 X)).2.R := by show (stT (ats j (v6 X)).2).2.e = _; rw [stT_yes hej]
                    have en : ¬ (stT (ats j (v6 X)).2).2.e = 0 := by rw [ee]; exact hc52
                    have ea : (ats (j + 1) (v6 X)).2.e = textE (ats j (v6 X)).2.R := by rw [ats_yes hej]; exact (stA_stop en).trans ee
                    have e7 : (v7 X).e = textE (ats j (v6 X)).2.R := (v7_at (j := j + 1) (by show j + 1 ≤ (stB 4 (v4 X)).1; rw [q5]; show j + 1 ≤ srcU (v4 X).R 4; omega) (by rw [ea]; exact hc52)).trans ea
                    have en7 : ¬ (v7 X).e = 0 := by rw [e7]; exact hc52
                    refine r_cons (s_neq true rfl rfl (nfalse hc52) rfl ?_)
                    refine r_nil ?_
                    refine g_true rfl ?_
                    refine g_seq ?_
                    refine g_region ?_
                    refine r_cons (s_loadAgg [.int .i64 (srcU X.R 4 : Int), .int .i64 (s64 (natU ((v1 X).R))), .int .i64 (s64 (natU ((v2 X).R))), .string (textS ((v3 X).R)), .slice qa ((ats j (v6 X)).1.length) ca] 5 ag_33 rfl (H51.blk_at (i := 3) rfl) (Nat.le_of_ble_eq_true rfl) rfl rfl ?_)
                    refine r_cons (s_move (.int .i64 (textE ((ats j (v6 X)).2.R))) rfl rfl ?_)
                    refine r_cons (s_storeAgg H51 4 #[.int .i64 (srcU X.R 4 : Int), .int .i64 (s64 (natU ((v1 X).R))), .int .i64 (s64 (natU ((v2 X).R))), .string (textS ((v3 X).R)), .slice qa ((ats j (v6 X)).1.length) ca] 5 rfl rfl rfl sz_33 rfl (by simp [Value.oneCell']) (Nat.le_of_ble_eq_true rfl) (fun o h1 h2 => by first | (simp; done) | (simp; omega)) (cs' := #[.int .i64 (srcU X.R 4 : Int), .int .i64 (s64 (natU ((v1 X).R))), .int .i64 (s64 (natU ((v2 X).R))), .string (textS ((v3 X).R)), .slice qa ((ats j (v6 X)).1.length) ca]) rfl ?_); intro w81 H82
                    refine r_cons (s_assign (.int .i64 (textE ((ats j (v6 X)).2.R))) rfl rfl ?_)
                    refine r_nil ?_
                    refine g_ret' [.agg #[.int .i64 (srcU X.R 4 : Int), .int .i64 (s64 (natU ((v1 X).R))), .int .i64 (s64 (natU ((v2 X).R))), .string (textS ((v3 X).R)), .slice qa ((ats j (v6 X)).1.length) ca], .int .i64 (textE ((ats j (v6 X)).2.R))] Try.func85 Try.results85 ⟨(res_cellN rfl ag_33 (H82.blk_at (i := 4) rfl) (Nat.le_of_ble_eq_true rfl) rfl), rfl, trivial⟩ ?_
                    have H83 : St W w81 (RSrc b (((ats j (v6 X)).2.R).drop (textN ((ats j (v6 X)).2.R))) :: (F.set i emp)) := (((((H82.move 2 rfl).drop 1 rfl).drop 1 rfl).drop 1 rfl).drop 1 rfl)
                    exact .inr ⟨en7, _, _, _, _, _, _, _, _, by rw [e7]; rfl, St.back hi H83⟩
                · skip
                  refine r_cons (s_lss false rfl rfl (dfalse hc44) rfl ?_)
                  refine r_nil ?_
                  refine g_false rfl ?_
                  refine g_exit (by rfl) ?_
                  refine g_seq ?_
                  refine g_region ?_
                  have hvj : j = vn X := by show j = (stB 4 (v4 X)).1; rw [q5]; show j = srcU (v4 X).R 4; omega
                  have hL : ats j (v6 X) = ats (vn X) (v6 X) := by rw [← hvj]
                  have hat : (evS s64 X).attrs = (ats j (v6 X)).1 := by rw [hL]; rfl
                  have H84 : St W w41 (Row 91 4 (.slice qa ((evS s64 X).attrs.length) ca) ((evS s64 X).attrs.length) (((evS s64 X).attrs).flatMap attrCell) :: RSrc b ((ats j (v6 X)).2.R) :: blk bk4 (.cells #[.int .i64 ((evS s64 X).src.v), .int .i64 ((evS s64 X).seq.v), .int .i64 ((evS s64 X).time.v), .string ((evS s64 X).typ.v), .slice qa ((evS s64 X).attrs.length) ca] 33 (0, 0)) :: blk bk1 (.cells #[.int .i64 0, .int .i64 0, .int .i64 0, .string ByteArray.empty, .slice none 0 0] 33 (0, 0)) :: (F.set i emp)) := by rw [evS_src, evS_seq s64_ok, evS_time s64_ok, evS_typ hRl, hat, q1, q2, q3, q4]; exact H42
                  have H85 : St W w41 (Attrs (.slice qa ((evS s64 X).attrs.length) ca) ((evS s64 X).attrs) :: RSrc b ((ats j (v6 X)).2.R) :: blk bk4 (.cells #[.int .i64 ((evS s64 X).src.v), .int .i64 ((evS s64 X).seq.v), .int .i64 ((evS s64 X).time.v), .string ((evS s64 X).typ.v), .slice qa ((evS s64 X).attrs.length) ca] 33 (0, 0)) :: blk bk1 (.cells #[.int .i64 0, .int .i64 0, .int .i64 0, .string ByteArray.empty, .slice none 0 0] 33 (0, 0)) :: (F.set i emp)) := Row.im H84 (i := 0) rfl
                  have hr7 : (v7 X).R = (ats j (v6 X)).2.R := by show (ats (vn X) (v6 X)).2.R = _; rw [← hL]
                  have H86 : St W w41 (Attrs (.slice qa ((evS s64 X).attrs.length) ca) ((evS s64 X).attrs) :: RSrc b ((v7 X).R) :: blk bk4 (.cells #[.int .i64 ((evS s64 X).src.v), .int .i64 ((evS s64 X).seq.v), .int .i64 ((evS s64 X).time.v), .string ((evS s64 X).typ.v), .slice qa ((evS s64 X).attrs.length) ca] 33 (0, 0)) :: blk bk1 (.cells #[.int .i64 0, .int .i64 0, .int .i64 0, .string ByteArray.empty, .slice none 0 0] 33 (0, 0)) :: (F.set i emp)) := by rw [hr7]; exact H85
                  have h70 : (v7 X).e = 0 := by show (ats (vn X) (v6 X)).2.e = 0; rw [← hL]; exact hej
                  refine r_cons (s_loadAgg [.int .i64 ((evS s64 X).src.v), .int .i64 ((evS s64 X).seq.v), .int .i64 ((evS s64 X).time.v), .string ((evS s64 X).typ.v), .slice qa ((evS s64 X).attrs.length) ca] 5 ag_33 rfl (H86.blk_at (i := 2) rfl) (Nat.le_of_ble_eq_true rfl) rfl rfl ?_)
                  refine r_cons (s_storeAgg H86 3 #[.int .i64 ((evS s64 X).src.v), .int .i64 ((evS s64 X).seq.v), .int .i64 ((evS s64 X).time.v), .string ((evS s64 X).typ.v), .slice qa ((evS s64 X).attrs.length) ca] 5 rfl rfl rfl sz_33 rfl (by simp [Value.oneCell']) (Nat.le_of_ble_eq_true rfl) (fun o h1 h2 => by first | (simp; done) | (simp; omega)) (cs' := #[.int .i64 ((evS s64 X).src.v), .int .i64 ((evS s64 X).seq.v), .int .i64 ((evS s64 X).time.v), .string ((evS s64 X).typ.v), .slice qa ((evS s64 X).attrs.length) ca]) rfl ?_); intro w87 H88
                  refine r_cons (s_assign (.int .i64 0) rfl rfl ?_)
                  refine r_nil ?_
                  refine g_ret' [.agg #[.int .i64 ((evS s64 X).src.v), .int .i64 ((evS s64 X).seq.v), .int .i64 ((evS s64 X).time.v), .string ((evS s64 X).typ.v), .slice qa ((evS s64 X).attrs.length) ca], .int .i64 0] Try.func85 Try.results85 ⟨(res_cellN rfl ag_33 (H88.blk_at (i := 3) rfl) (Nat.le_of_ble_eq_true rfl) rfl), rfl, trivial⟩ ?_
                  have H89 : St W w87 (RSrc b ((v7 X).R) :: Attrs (.slice qa ((evS s64 X).attrs.length) ca) ((evS s64 X).attrs) :: (F.set i emp)) := (((H88.move 1 rfl).drop 2 rfl).drop 2 rfl)
                  have H90 : St W w87 (RSrc b ((v7 X).R) :: (Attrs (.slice qa ((evS s64 X).attrs.length) ca) ((evS s64 X).attrs) :: F).set (i + 1) emp) := H89
                  exact .inl ⟨h70, _, _, rfl, St.back (i := i + 1) (by exact hi) H90⟩
          · skip
            have ee : (v5 X).e = srcE (v4 X).R 4 := by show (stB 4 (v4 X)).2.e = _; rw [stB_yes e4]
            have en : ¬ (v5 X).e = 0 := by rw [ee]; exact hc31
            have e7 : (v7 X).e = srcE (v4 X).R 4 := (v7_5 en).trans ee
            have en7 : ¬ (v7 X).e = 0 := by rw [e7]; exact hc31
            refine r_cons (s_neq true rfl rfl (nfalse hc31) rfl ?_)
            refine r_nil ?_
            refine g_true rfl ?_
            refine g_seq ?_
            refine g_region ?_
            refine r_cons (s_loadAgg [.int .i64 (srcU X.R 4 : Int), .int .i64 (s64 (natU ((v1 X).R))), .int .i64 (s64 (natU ((v2 X).R))), .string (textS ((v3 X).R)), .slice none 0 0] 5 ag_33 rfl (H30.blk_at (i := 0) rfl) (Nat.le_of_ble_eq_true rfl) rfl rfl ?_)
            refine r_cons (s_move (.int .i64 (srcE ((v4 X).R) 4)) rfl rfl ?_)
            refine r_cons (s_storeAgg H30 1 #[.int .i64 (srcU X.R 4 : Int), .int .i64 (s64 (natU ((v1 X).R))), .int .i64 (s64 (natU ((v2 X).R))), .string (textS ((v3 X).R)), .slice none 0 0] 5 rfl rfl rfl sz_33 rfl (by simp [Value.oneCell']) (Nat.le_of_ble_eq_true rfl) (fun o h1 h2 => by first | (simp; done) | (simp; omega)) (cs' := #[.int .i64 (srcU X.R 4 : Int), .int .i64 (s64 (natU ((v1 X).R))), .int .i64 (s64 (natU ((v2 X).R))), .string (textS ((v3 X).R)), .slice none 0 0]) rfl ?_); intro w91 H92
            refine r_cons (s_assign (.int .i64 (srcE ((v4 X).R) 4)) rfl rfl ?_)
            refine r_nil ?_
            refine g_ret' [.agg #[.int .i64 (srcU X.R 4 : Int), .int .i64 (s64 (natU ((v1 X).R))), .int .i64 (s64 (natU ((v2 X).R))), .string (textS ((v3 X).R)), .slice none 0 0], .int .i64 (srcE ((v4 X).R) 4)] Try.func85 Try.results85 ⟨(res_cellN rfl ag_33 (H92.blk_at (i := 1) rfl) (Nat.le_of_ble_eq_true rfl) rfl), rfl, trivial⟩ ?_
            have H93 : St W w91 (RSrc b (((v4 X).R).drop (srcN ((v4 X).R) 4)) :: (F.set i emp)) := (((H92.move 2 rfl).drop 1 rfl).drop 1 rfl)
            exact .inr ⟨en7, _, _, _, _, _, _, _, _, by rw [e7]; rfl, St.back hi H93⟩
        · skip
          have ee : (v4 X).e = textE (v3 X).R := by show (stT (v3 X)).2.e = _; rw [stT_yes e3]
          have en : ¬ (v4 X).e = 0 := by rw [ee]; exact hc27
          have e7 : (v7 X).e = textE (v3 X).R := (v7_4 en).trans ee
          have en7 : ¬ (v7 X).e = 0 := by rw [e7]; exact hc27
          refine r_cons (s_neq true rfl rfl (nfalse hc27) rfl ?_)
          refine r_nil ?_
          refine g_true rfl ?_
          refine g_seq ?_
          refine g_region ?_
          refine r_cons (s_loadAgg [.int .i64 (srcU X.R 4 : Int), .int .i64 (s64 (natU ((v1 X).R))), .int .i64 (s64 (natU ((v2 X).R))), .string (textS ((v3 X).R)), .slice none 0 0] 5 ag_33 rfl (H26.blk_at (i := 0) rfl) (Nat.le_of_ble_eq_true rfl) rfl rfl ?_)
          refine r_cons (s_move (.int .i64 (textE ((v3 X).R))) rfl rfl ?_)
          refine r_cons (s_storeAgg H26 1 #[.int .i64 (srcU X.R 4 : Int), .int .i64 (s64 (natU ((v1 X).R))), .int .i64 (s64 (natU ((v2 X).R))), .string (textS ((v3 X).R)), .slice none 0 0] 5 rfl rfl rfl sz_33 rfl (by simp [Value.oneCell']) (Nat.le_of_ble_eq_true rfl) (fun o h1 h2 => by first | (simp; done) | (simp; omega)) (cs' := #[.int .i64 (srcU X.R 4 : Int), .int .i64 (s64 (natU ((v1 X).R))), .int .i64 (s64 (natU ((v2 X).R))), .string (textS ((v3 X).R)), .slice none 0 0]) rfl ?_); intro w94 H95
          refine r_cons (s_assign (.int .i64 (textE ((v3 X).R))) rfl rfl ?_)
          refine r_nil ?_
          refine g_ret' [.agg #[.int .i64 (srcU X.R 4 : Int), .int .i64 (s64 (natU ((v1 X).R))), .int .i64 (s64 (natU ((v2 X).R))), .string (textS ((v3 X).R)), .slice none 0 0], .int .i64 (textE ((v3 X).R))] Try.func85 Try.results85 ⟨(res_cellN rfl ag_33 (H95.blk_at (i := 1) rfl) (Nat.le_of_ble_eq_true rfl) rfl), rfl, trivial⟩ ?_
          have H96 : St W w94 (RSrc b (((v3 X).R).drop (textN ((v3 X).R))) :: (F.set i emp)) := (((H95.move 2 rfl).drop 1 rfl).drop 1 rfl)
          exact .inr ⟨en7, _, _, _, _, _, _, _, _, by rw [e7]; rfl, St.back hi H96⟩
      · skip
        have ee : (v3 X).e = natE (v2 X).R := by show (stN (v2 X)).2.e = _; rw [stN_yes e2]
        have en : ¬ (v3 X).e = 0 := by rw [ee]; exact hc17
        have e7 : (v7 X).e = natE (v2 X).R := (v7_3 en).trans ee
        have en7 : ¬ (v7 X).e = 0 := by rw [e7]; exact hc17
        refine r_cons (s_neq true rfl rfl (nfalse hc17) rfl ?_)
        refine r_nil ?_
        refine g_true rfl ?_
        refine g_seq ?_
        refine g_region ?_
        refine r_cons (s_loadAgg [.int .i64 0, .int .i64 0, .int .i64 0, .string ByteArray.empty, .slice none 0 0] 5 ag_33 rfl (H16.blk_at (i := 0) rfl) (Nat.le_of_ble_eq_true rfl) rfl rfl ?_)
        refine r_cons (s_move (.int .i64 (natE ((v2 X).R))) rfl rfl ?_)
        refine r_cons (s_storeAgg H16 1 #[.int .i64 0, .int .i64 0, .int .i64 0, .string ByteArray.empty, .slice none 0 0] 5 rfl rfl rfl sz_33 rfl (by simp [Value.oneCell']) (Nat.le_of_ble_eq_true rfl) (fun o h1 h2 => by first | (simp; done) | (simp; omega)) (cs' := #[.int .i64 0, .int .i64 0, .int .i64 0, .string ByteArray.empty, .slice none 0 0]) rfl ?_); intro w97 H98
        refine r_cons (s_assign (.int .i64 (natE ((v2 X).R))) rfl rfl ?_)
        refine r_nil ?_
        refine g_ret' [.agg #[.int .i64 0, .int .i64 0, .int .i64 0, .string ByteArray.empty, .slice none 0 0], .int .i64 (natE ((v2 X).R))] Try.func85 Try.results85 ⟨(res_cellN rfl ag_33 (H98.blk_at (i := 1) rfl) (Nat.le_of_ble_eq_true rfl) rfl), rfl, trivial⟩ ?_
        have H99 : St W w97 (RSrc b (((v2 X).R).drop (natN ((v2 X).R))) :: (F.set i emp)) := (((H98.move 2 rfl).drop 1 rfl).drop 1 rfl)
        exact .inr ⟨en7, _, _, _, _, _, _, _, _, by rw [e7]; rfl, St.back hi H99⟩
    · skip
      have ee : (v2 X).e = natE (v1 X).R := by show (stN (v1 X)).2.e = _; rw [stN_yes e1]
      have en : ¬ (v2 X).e = 0 := by rw [ee]; exact hc13
      have e7 : (v7 X).e = natE (v1 X).R := (v7_2 en).trans ee
      have en7 : ¬ (v7 X).e = 0 := by rw [e7]; exact hc13
      refine r_cons (s_neq true rfl rfl (nfalse hc13) rfl ?_)
      refine r_nil ?_
      refine g_true rfl ?_
      refine g_seq ?_
      refine g_region ?_
      refine r_cons (s_loadAgg [.int .i64 0, .int .i64 0, .int .i64 0, .string ByteArray.empty, .slice none 0 0] 5 ag_33 rfl (H12.blk_at (i := 0) rfl) (Nat.le_of_ble_eq_true rfl) rfl rfl ?_)
      refine r_cons (s_move (.int .i64 (natE ((v1 X).R))) rfl rfl ?_)
      refine r_cons (s_storeAgg H12 1 #[.int .i64 0, .int .i64 0, .int .i64 0, .string ByteArray.empty, .slice none 0 0] 5 rfl rfl rfl sz_33 rfl (by simp [Value.oneCell']) (Nat.le_of_ble_eq_true rfl) (fun o h1 h2 => by first | (simp; done) | (simp; omega)) (cs' := #[.int .i64 0, .int .i64 0, .int .i64 0, .string ByteArray.empty, .slice none 0 0]) rfl ?_); intro w100 H101
      refine r_cons (s_assign (.int .i64 (natE ((v1 X).R))) rfl rfl ?_)
      refine r_nil ?_
      refine g_ret' [.agg #[.int .i64 0, .int .i64 0, .int .i64 0, .string ByteArray.empty, .slice none 0 0], .int .i64 (natE ((v1 X).R))] Try.func85 Try.results85 ⟨(res_cellN rfl ag_33 (H101.blk_at (i := 1) rfl) (Nat.le_of_ble_eq_true rfl) rfl), rfl, trivial⟩ ?_
      have H102 : St W w100 (RSrc b (((v1 X).R).drop (natN ((v1 X).R))) :: (F.set i emp)) := (((H101.move 2 rfl).drop 1 rfl).drop 1 rfl)
      exact .inr ⟨en7, _, _, _, _, _, _, _, _, by rw [e7]; rfl, St.back hi H102⟩
  · skip
    have ee : (v1 X).e = srcE X.R 4 := by show (stB 4 X).2.e = _; rw [stB_yes hX]
    have en : ¬ (v1 X).e = 0 := by rw [ee]; exact hc9
    have e7 : (v7 X).e = srcE X.R 4 := (v7_1 en).trans ee
    have en7 : ¬ (v7 X).e = 0 := by rw [e7]; exact hc9
    refine r_cons (s_neq true rfl rfl (nfalse hc9) rfl ?_)
    refine r_nil ?_
    refine g_true rfl ?_
    refine g_seq ?_
    refine g_region ?_
    refine r_cons (s_loadAgg [.int .i64 0, .int .i64 0, .int .i64 0, .string ByteArray.empty, .slice none 0 0] 5 ag_33 rfl (H8.blk_at (i := 0) rfl) (Nat.le_of_ble_eq_true rfl) rfl rfl ?_)
    refine r_cons (s_move (.int .i64 (srcE X.R 4)) rfl rfl ?_)
    refine r_cons (s_storeAgg H8 1 #[.int .i64 0, .int .i64 0, .int .i64 0, .string ByteArray.empty, .slice none 0 0] 5 rfl rfl rfl sz_33 rfl (by simp [Value.oneCell']) (Nat.le_of_ble_eq_true rfl) (fun o h1 h2 => by first | (simp; done) | (simp; omega)) (cs' := #[.int .i64 0, .int .i64 0, .int .i64 0, .string ByteArray.empty, .slice none 0 0]) rfl ?_); intro w103 H104
    refine r_cons (s_assign (.int .i64 (srcE X.R 4)) rfl rfl ?_)
    refine r_nil ?_
    refine g_ret' [.agg #[.int .i64 0, .int .i64 0, .int .i64 0, .string ByteArray.empty, .slice none 0 0], .int .i64 (srcE X.R 4)] Try.func85 Try.results85 ⟨(res_cellN rfl ag_33 (H104.blk_at (i := 1) rfl) (Nat.le_of_ble_eq_true rfl) rfl), rfl, trivial⟩ ?_
    have H105 : St W w103 (RSrc b (X.R.drop (srcN X.R 4)) :: (F.set i emp)) := (((H104.move 2 rfl).drop 1 rfl).drop 1 rfl)
    exact .inr ⟨en7, _, _, _, _, _, _, _, _, by rw [e7]; rfl, St.back hi H105⟩
set_option maxHeartbeats 4000000 in
set_option maxRecDepth 100000 in
theorem ref04_Take {W w : World} {F : List Atom} (b : Nat) (R : List Bool) (hRl : R.length ≤ 1125899906842624) {i : Nat} (hi : F[i]? = some (RSrc b R)) (H : St W w F) : Calls Try.prog 53 #[.pointer (some ⟨b, 0, none⟩)] w (Ret fun v w' => ∃ q n c, v = .tuple #[.agg #[.int .i64 ((tkV R).src.v), .int .i64 ((tkV R).seq.v), .int .i64 ((tkV R).time.v), .string ((tkV R).typ.v), .slice q n c], .int .i64 (tkE R)] ∧ n = (tkV R).attrs.length ∧ St W w' (Attrs (.slice q n c) (tkV R).attrs :: F.set i (RSrc b (tkR R)))) := by
  have H0 := H.front hi
  refine calls_of_go (n := 27) Try.func53 rfl Try.ntmps53 rfl ?_
  refine g_seq ?_
  refine g_region ?_
  refine r_cons (s_alloc H0 33 ze_33 rfl ?_); intro bk1 w2 H3
  refine r_cons (s_assign (.int .i64 0) rfl rfl ?_)
  refine r_nil ?_
  refine g_seq ?_
  refine g_region ?_
  refine r_cons (s_move (.pointer (some ⟨b, 0, none⟩)) rfl rfl ?_)
  refine r_cons (s_nilCheck (.pointer (some ⟨b, 0, none⟩)) rfl ⟨_, rfl⟩ rfl ?_)
  have H4 := H3.move 1 rfl
  obtain ⟨vv5, H6⟩ := St.open_ex H4
  have H7 := St.open_star H6
  obtain ⟨pp8, cc9, gA10, oA11, kA12, eA13, zA14, rfl, hn15, hp16, hx17, hs18, hml, H19⟩ := Im.open_ H7 (i := 1) rfl
  have H20 : St W w2 (imi (0 < R.length) gA10 (.cells kA12 eA13 zA14) :: blk b (.cells #[.slice pp8 R.length cc9] 83 (0, 0)) :: Im 1 (.slice pp8 R.length cc9) R.length (R.flatMap blc) :: blk bk1 (.cells #[.int .i64 0, .int .i64 0, .int .i64 0, .string ByteArray.empty, .slice none 0 0] 33 (0, 0)) :: (F.set i emp)) := H19
  refine r_cons (s_loadAgg [.slice pp8 R.length cc9] 1 ag_83 rfl (H20.blk_at (i := 1) rfl) (Nat.le_of_ble_eq_true rfl) rfl rfl ?_)
  refine r_cons (s_alloc H20 83 ze_83 rfl ?_); intro bk21 w22 H23
  refine r_cons (s_storeAgg H23 0 #[.slice pp8 R.length cc9] 1 rfl rfl rfl sz_83 rfl (by simp [Value.oneCell']) (Nat.le_of_ble_eq_true rfl) (fun o h1 h2 => by first | (simp; done) | (simp; omega)) (cs' := #[.slice pp8 R.length cc9]) rfl ?_); intro w24 H25
  refine r_nil ?_
  refine g_seq ?_
  refine g_region ?_
  have H26 := H25.dup (i := 3) rfl (Im_pers _ _ _ _)
  refine r_cons (s_move (.pointer (some ⟨b, 0, none⟩)) rfl rfl ?_)
  have H27 : St W w24 (blk b (.cells #[.slice pp8 R.length cc9] 83 (0, 0)) :: Im 1 (.slice pp8 R.length cc9) R.length (R.flatMap blc) :: blk bk21 (.cells #[.slice pp8 R.length cc9] 83 (0, 0)) :: Im 1 (.slice pp8 R.length cc9) R.length (R.flatMap blc) :: blk bk1 (.cells #[.int .i64 0, .int .i64 0, .int .i64 0, .string ByteArray.empty, .slice none 0 0] 33 (0, 0)) :: (F.set i emp)) := ((((((H26.move 5 rfl).move 5 rfl).move 3 rfl).move 3 rfl).move 5 rfl).drop 5 rfl)
  have H28 : St W w24 (RSrc b R :: blk bk21 (.cells #[.slice pp8 R.length cc9] 83 (0, 0)) :: Im 1 (.slice pp8 R.length cc9) R.length (R.flatMap blc) :: blk bk1 (.cells #[.int .i64 0, .int .i64 0, .int .i64 0, .string ByteArray.empty, .slice none 0 0] 33 (0, 0)) :: (F.set i emp)) := St.shut_ex (.slice pp8 R.length cc9) (St.shut_star (ls := [blk b (.cells #[.slice pp8 R.length cc9] 83 (0, 0)), Im 1 (.slice pp8 R.length cc9) R.length (R.flatMap blc)]) H27)
  refine r_cons (s_call [.pointer (some ⟨b, 0, none⟩)] pl_85 rfl rfl (ref04_take b (⟨0, R⟩ : RX) rfl (by first | assumption | omega) (i := 0) rfl H28) ?_)
  rintro _ w39 (⟨he29, pp31, cc32, rfl, H30⟩ | ⟨he29, sx35, sx36, sx37, sx38, pp31, NN33, cc32, RR34, rfl, H30⟩)
  · skip
    refine r_cons (s_move (.tuple #[.agg #[.int .i64 ((evS s64 (⟨0, R⟩ : RX)).src.v), .int .i64 ((evS s64 (⟨0, R⟩ : RX)).seq.v), .int .i64 ((evS s64 (⟨0, R⟩ : RX)).time.v), .string ((evS s64 (⟨0, R⟩ : RX)).typ.v), .slice pp31 ((evS s64 (⟨0, R⟩ : RX)).attrs.length) cc32], .int .i64 0]) rfl rfl ?_)
    refine r_cons (s_extract (.agg #[.int .i64 ((evS s64 (⟨0, R⟩ : RX)).src.v), .int .i64 ((evS s64 (⟨0, R⟩ : RX)).seq.v), .int .i64 ((evS s64 (⟨0, R⟩ : RX)).time.v), .string ((evS s64 (⟨0, R⟩ : RX)).typ.v), .slice pp31 ((evS s64 (⟨0, R⟩ : RX)).attrs.length) cc32]) #[.agg #[.int .i64 ((evS s64 (⟨0, R⟩ : RX)).src.v), .int .i64 ((evS s64 (⟨0, R⟩ : RX)).seq.v), .int .i64 ((evS s64 (⟨0, R⟩ : RX)).time.v), .string ((evS s64 (⟨0, R⟩ : RX)).typ.v), .slice pp31 ((evS s64 (⟨0, R⟩ : RX)).attrs.length) cc32], .int .i64 0] rfl rfl rfl ?_)
    refine r_cons (s_extract (.int .i64 0) #[.agg #[.int .i64 ((evS s64 (⟨0, R⟩ : RX)).src.v), .int .i64 ((evS s64 (⟨0, R⟩ : RX)).seq.v), .int .i64 ((evS s64 (⟨0, R⟩ : RX)).time.v), .string ((evS s64 (⟨0, R⟩ : RX)).typ.v), .slice pp31 ((evS s64 (⟨0, R⟩ : RX)).attrs.length) cc32], .int .i64 0] rfl rfl rfl ?_)
    refine r_cons (s_alloc H30 33 ze_33 rfl ?_); intro bk40 w41 H42
    refine r_cons (s_storeAgg H42 0 #[.int .i64 ((evS s64 (⟨0, R⟩ : RX)).src.v), .int .i64 ((evS s64 (⟨0, R⟩ : RX)).seq.v), .int .i64 ((evS s64 (⟨0, R⟩ : RX)).time.v), .string ((evS s64 (⟨0, R⟩ : RX)).typ.v), .slice pp31 ((evS s64 (⟨0, R⟩ : RX)).attrs.length) cc32] 5 rfl rfl rfl sz_33 rfl (by simp [Value.oneCell']) (Nat.le_of_ble_eq_true rfl) (fun o h1 h2 => by first | (simp; done) | (simp; omega)) (cs' := #[.int .i64 ((evS s64 (⟨0, R⟩ : RX)).src.v), .int .i64 ((evS s64 (⟨0, R⟩ : RX)).seq.v), .int .i64 ((evS s64 (⟨0, R⟩ : RX)).time.v), .string ((evS s64 (⟨0, R⟩ : RX)).typ.v), .slice pp31 ((evS s64 (⟨0, R⟩ : RX)).attrs.length) cc32]) rfl ?_); intro w43 H44
    refine r_cons (s_assign (.int .i64 0) rfl rfl ?_)
    refine r_nil ?_
    refine g_seq ?_
    refine g_seq ?_
    refine g_region ?_
    refine r_cons (s_move (.int .i64 0) rfl rfl ?_)
    refine r_cons (s_eql true rfl rfl (dtrue (by decide)) rfl ?_)
    refine r_nil ?_
    refine g_true rfl ?_
    refine g_region ?_
    refine r_cons (s_loadAgg [.int .i64 ((evS s64 (⟨0, R⟩ : RX)).src.v), .int .i64 ((evS s64 (⟨0, R⟩ : RX)).seq.v), .int .i64 ((evS s64 (⟨0, R⟩ : RX)).time.v), .string ((evS s64 (⟨0, R⟩ : RX)).typ.v), .slice pp31 ((evS s64 (⟨0, R⟩ : RX)).attrs.length) cc32] 5 ag_33 rfl (H44.blk_at (i := 0) rfl) (Nat.le_of_ble_eq_true rfl) rfl rfl ?_)
    refine r_cons (s_call [.agg #[.int .i64 ((evS s64 (⟨0, R⟩ : RX)).src.v), .int .i64 ((evS s64 (⟨0, R⟩ : RX)).seq.v), .int .i64 ((evS s64 (⟨0, R⟩ : RX)).time.v), .string ((evS s64 (⟨0, R⟩ : RX)).typ.v), .slice pp31 ((evS s64 (⟨0, R⟩ : RX)).attrs.length) cc32]] pl_18 rfl rfl (ref04_Check (evS s64 (⟨0, R⟩ : RX)) (.slice pp31 ((evS s64 (⟨0, R⟩ : RX)).attrs.length) cc32) (j := 1) rfl H44) ?_)
    rintro _ w45 ⟨rfl, H46⟩
    refine r_cons (s_assign (.int .i64 (evE (evS s64 (⟨0, R⟩ : RX)))) rfl rfl ?_)
    refine r_nil ?_
    refine g_seq ?_
    refine g_seq ?_
    refine g_region ?_
    refine r_cons (s_move (.int .i64 (evE (evS s64 (⟨0, R⟩ : RX)))) rfl rfl ?_)
    by_cases hc47 : evE (evS s64 (⟨0, R⟩ : RX)) = 0
    · skip
      refine r_cons (s_neq false rfl rfl (ntrue hc47) rfl ?_)
      refine r_nil ?_
      refine g_false rfl ?_
      refine g_skip ?_
      refine g_seq ?_
      refine g_region ?_
      refine r_cons (s_loadAgg [.int .i64 ((evS s64 (⟨0, R⟩ : RX)).src.v), .int .i64 ((evS s64 (⟨0, R⟩ : RX)).seq.v), .int .i64 ((evS s64 (⟨0, R⟩ : RX)).time.v), .string ((evS s64 (⟨0, R⟩ : RX)).typ.v), .slice pp31 ((evS s64 (⟨0, R⟩ : RX)).attrs.length) cc32] 5 ag_33 rfl (H46.blk_at (i := 0) rfl) (Nat.le_of_ble_eq_true rfl) rfl rfl ?_)
      refine r_cons (s_storeAgg H46 5 #[.int .i64 ((evS s64 (⟨0, R⟩ : RX)).src.v), .int .i64 ((evS s64 (⟨0, R⟩ : RX)).seq.v), .int .i64 ((evS s64 (⟨0, R⟩ : RX)).time.v), .string ((evS s64 (⟨0, R⟩ : RX)).typ.v), .slice pp31 ((evS s64 (⟨0, R⟩ : RX)).attrs.length) cc32] 5 rfl rfl rfl sz_33 rfl (by simp [Value.oneCell']) (Nat.le_of_ble_eq_true rfl) (fun o h1 h2 => by first | (simp; done) | (simp; omega)) (cs' := #[.int .i64 ((evS s64 (⟨0, R⟩ : RX)).src.v), .int .i64 ((evS s64 (⟨0, R⟩ : RX)).seq.v), .int .i64 ((evS s64 (⟨0, R⟩ : RX)).time.v), .string ((evS s64 (⟨0, R⟩ : RX)).typ.v), .slice pp31 ((evS s64 (⟨0, R⟩ : RX)).attrs.length) cc32]) rfl ?_); intro w48 H49
      refine r_cons (s_assign (.int .i64 0) rfl rfl ?_)
      refine r_nil ?_
      refine g_ret' [.agg #[.int .i64 ((evS s64 (⟨0, R⟩ : RX)).src.v), .int .i64 ((evS s64 (⟨0, R⟩ : RX)).seq.v), .int .i64 ((evS s64 (⟨0, R⟩ : RX)).time.v), .string ((evS s64 (⟨0, R⟩ : RX)).typ.v), .slice pp31 ((evS s64 (⟨0, R⟩ : RX)).attrs.length) cc32], .int .i64 0] Try.func53 Try.results53 ⟨(res_cellN rfl ag_33 (H49.blk_at (i := 5) rfl) (Nat.le_of_ble_eq_true rfl) rfl), rfl, trivial⟩ ?_
      have hE : tkE R = evE (evS s64 (⟨0, R⟩ : RX)) := (evC_same (X := (⟨0, R⟩ : RX))).1.trans (evC_yes he29)
      have h0 : tkE R = 0 := by rw [hE]; exact hc47
      have hV : tkV R = evS s64 (⟨0, R⟩ : RX) := (tkV_yes h0).trans ((evC_same (X := (⟨0, R⟩ : RX))).2 h0)
      have H50 : St W w48 (RSrc b ((v7 (⟨0, R⟩ : RX)).R) :: Attrs (.slice pp31 ((evS s64 (⟨0, R⟩ : RX)).attrs.length) cc32) ((evS s64 (⟨0, R⟩ : RX)).attrs) :: (F.set i emp)) := ((((((H49.move 1 rfl).move 2 rfl).drop 2 rfl).drop 2 rfl).drop 2 rfl).drop 2 rfl)
      have H51 : St W w48 (RSrc b ((v7 (⟨0, R⟩ : RX)).R) :: (Attrs (.slice pp31 ((evS s64 (⟨0, R⟩ : RX)).attrs.length) cc32) ((evS s64 (⟨0, R⟩ : RX)).attrs) :: F).set (i + 1) emp) := H50
      exact ⟨_, _, _, by rw [h0, hV]; rfl, by rw [hV], by rw [hV, tkR_yes h0]; exact St.back (i := i + 1) (by exact hi) H51⟩
    · skip
      refine r_cons (s_neq true rfl rfl (nfalse hc47) rfl ?_)
      refine r_nil ?_
      refine g_true rfl ?_
      refine g_seq ?_
      refine g_region ?_
      refine r_cons (s_move (.pointer (some ⟨b, 0, none⟩)) rfl rfl ?_)
      refine r_cons (s_loadAgg [.slice pp8 R.length cc9] 1 ag_83 rfl (H46.blk_at (i := 3) rfl) (Nat.le_of_ble_eq_true rfl) rfl rfl ?_)
      refine r_cons (s_nilCheck (.pointer (some ⟨b, 0, none⟩)) rfl ⟨_, rfl⟩ rfl ?_)
      have H52 := H46.move 2 rfl
      obtain ⟨vv53, H54⟩ := St.open_ex H52
      have H55 := St.open_star H54
      obtain ⟨pp56, cc57, gA58, oA59, kA60, eA61, zA62, rfl, hn63, hp64, hx65, hs66, hml, H67⟩ := Im.open_ H55 (i := 1) rfl
      have H68 : St W w45 (imi (0 < ((v7 (⟨0, R⟩ : RX)).R).length) gA58 (.cells kA60 eA61 zA62) :: blk b (.cells #[.slice pp56 (((v7 (⟨0, R⟩ : RX)).R).length) cc57] 83 (0, 0)) :: Im 1 (.slice pp56 (((v7 (⟨0, R⟩ : RX)).R).length) cc57) (((v7 (⟨0, R⟩ : RX)).R).length) (((v7 (⟨0, R⟩ : RX)).R).flatMap blc) :: blk bk40 (.cells #[.int .i64 ((evS s64 (⟨0, R⟩ : RX)).src.v), .int .i64 ((evS s64 (⟨0, R⟩ : RX)).seq.v), .int .i64 ((evS s64 (⟨0, R⟩ : RX)).time.v), .string ((evS s64 (⟨0, R⟩ : RX)).typ.v), .slice pp31 ((evS s64 (⟨0, R⟩ : RX)).attrs.length) cc32] 33 (0, 0)) :: Attrs (.slice pp31 ((evS s64 (⟨0, R⟩ : RX)).attrs.length) cc32) ((evS s64 (⟨0, R⟩ : RX)).attrs) :: blk bk21 (.cells #[.slice pp8 R.length cc9] 83 (0, 0)) :: Im 1 (.slice pp8 R.length cc9) R.length (R.flatMap blc) :: blk bk1 (.cells #[.int .i64 0, .int .i64 0, .int .i64 0, .string ByteArray.empty, .slice none 0 0] 33 (0, 0)) :: (F.set i emp)) := H67
      refine r_cons (s_storeAgg H68 1 #[.slice pp8 R.length cc9] 1 rfl rfl rfl sz_83 rfl (by simp [Value.oneCell']) (Nat.le_of_ble_eq_true rfl) (fun o h1 h2 => by first | (simp; done) | (simp; omega)) (cs' := #[.slice pp8 R.length cc9]) rfl ?_); intro w69 H70
      refine r_nil ?_
      refine g_seq ?_
      refine g_region ?_
      refine r_cons (s_build (cs := #[.int .i64 0, .int .i64 0, .int .i64 0, .string ByteArray.empty, .slice none 0 0]) (by kernel_rfl) rfl ?_)
      refine r_cons (s_move (.int .i64 (evE (evS s64 (⟨0, R⟩ : RX)))) rfl rfl ?_)
      refine r_cons (s_storeAgg H70 7 #[.int .i64 0, .int .i64 0, .int .i64 0, .string ByteArray.empty, .slice none 0 0] 5 rfl rfl rfl sz_33 rfl (by simp [Value.oneCell']) (Nat.le_of_ble_eq_true rfl) (fun o h1 h2 => by first | (simp; done) | (simp; omega)) (cs' := #[.int .i64 0, .int .i64 0, .int .i64 0, .string ByteArray.empty, .slice none 0 0]) rfl ?_); intro w71 H72
      refine r_cons (s_assign (.int .i64 (evE (evS s64 (⟨0, R⟩ : RX)))) rfl rfl ?_)
      refine r_nil ?_
      refine g_ret' [.agg #[.int .i64 0, .int .i64 0, .int .i64 0, .string ByteArray.empty, .slice none 0 0], .int .i64 (evE (evS s64 (⟨0, R⟩ : RX)))] Try.func53 Try.results53 ⟨(res_cellN rfl ag_33 (H72.blk_at (i := 7) rfl) (Nat.le_of_ble_eq_true rfl) rfl), rfl, trivial⟩ ?_
      have H73 : St W w71 (blk b (.cells #[.slice pp8 R.length cc9] 83 (0, 0)) :: Im 1 (.slice pp8 R.length cc9) R.length (R.flatMap blc) :: Im 1 (.slice pp56 (((v7 (⟨0, R⟩ : RX)).R).length) cc57) (((v7 (⟨0, R⟩ : RX)).R).length) (((v7 (⟨0, R⟩ : RX)).R).flatMap blc) :: blk bk40 (.cells #[.int .i64 ((evS s64 (⟨0, R⟩ : RX)).src.v), .int .i64 ((evS s64 (⟨0, R⟩ : RX)).seq.v), .int .i64 ((evS s64 (⟨0, R⟩ : RX)).time.v), .string ((evS s64 (⟨0, R⟩ : RX)).typ.v), .slice pp31 ((evS s64 (⟨0, R⟩ : RX)).attrs.length) cc32] 33 (0, 0)) :: Attrs (.slice pp31 ((evS s64 (⟨0, R⟩ : RX)).attrs.length) cc32) ((evS s64 (⟨0, R⟩ : RX)).attrs) :: blk bk21 (.cells #[.slice pp8 R.length cc9] 83 (0, 0)) :: blk bk1 (.cells #[.int .i64 0, .int .i64 0, .int .i64 0, .string ByteArray.empty, .slice none 0 0] 33 (0, 0)) :: (F.set i emp)) := ((((((((H72.move 7 rfl).move 6 rfl).move 6 rfl).move 6 rfl).move 6 rfl).move 7 rfl).move 7 rfl).drop 7 rfl)
      have H74 : St W w71 (RSrc b R :: Im 1 (.slice pp56 (((v7 (⟨0, R⟩ : RX)).R).length) cc57) (((v7 (⟨0, R⟩ : RX)).R).length) (((v7 (⟨0, R⟩ : RX)).R).flatMap blc) :: blk bk40 (.cells #[.int .i64 ((evS s64 (⟨0, R⟩ : RX)).src.v), .int .i64 ((evS s64 (⟨0, R⟩ : RX)).seq.v), .int .i64 ((evS s64 (⟨0, R⟩ : RX)).time.v), .string ((evS s64 (⟨0, R⟩ : RX)).typ.v), .slice pp31 ((evS s64 (⟨0, R⟩ : RX)).attrs.length) cc32] 33 (0, 0)) :: Attrs (.slice pp31 ((evS s64 (⟨0, R⟩ : RX)).attrs.length) cc32) ((evS s64 (⟨0, R⟩ : RX)).attrs) :: blk bk21 (.cells #[.slice pp8 R.length cc9] 83 (0, 0)) :: blk bk1 (.cells #[.int .i64 0, .int .i64 0, .int .i64 0, .string ByteArray.empty, .slice none 0 0] 33 (0, 0)) :: (F.set i emp)) := St.shut_ex (.slice pp8 R.length cc9) (St.shut_star (ls := [blk b (.cells #[.slice pp8 R.length cc9] 83 (0, 0)), Im 1 (.slice pp8 R.length cc9) R.length (R.flatMap blc)]) H73)
      have hE : tkE R = evE (evS s64 (⟨0, R⟩ : RX)) := (evC_same (X := (⟨0, R⟩ : RX))).1.trans (evC_yes he29)
      have h0 : ¬ tkE R = 0 := by rw [hE]; exact hc47
      have H75 : St W w71 (Attrs (.slice none 0 0) [] :: RSrc b R :: Im 1 (.slice pp56 (((v7 (⟨0, R⟩ : RX)).R).length) cc57) (((v7 (⟨0, R⟩ : RX)).R).length) (((v7 (⟨0, R⟩ : RX)).R).flatMap blc) :: blk bk40 (.cells #[.int .i64 ((evS s64 (⟨0, R⟩ : RX)).src.v), .int .i64 ((evS s64 (⟨0, R⟩ : RX)).seq.v), .int .i64 ((evS s64 (⟨0, R⟩ : RX)).time.v), .string ((evS s64 (⟨0, R⟩ : RX)).typ.v), .slice pp31 ((evS s64 (⟨0, R⟩ : RX)).attrs.length) cc32] 33 (0, 0)) :: Attrs (.slice pp31 ((evS s64 (⟨0, R⟩ : RX)).attrs.length) cc32) ((evS s64 (⟨0, R⟩ : RX)).attrs) :: blk bk21 (.cells #[.slice pp8 R.length cc9] 83 (0, 0)) :: blk bk1 (.cells #[.int .i64 0, .int .i64 0, .int .i64 0, .string ByteArray.empty, .slice none 0 0] 33 (0, 0)) :: (F.set i emp)) := Row.im (Row.nil_intro H74 91 4) (i := 0) rfl
      have H76 : St W w71 (RSrc b R :: Attrs (.slice none 0 0) [] :: (F.set i emp)) := ((((((H75.move 1 rfl).drop 2 rfl).drop 2 rfl).drop 2 rfl).drop 2 rfl).drop 2 rfl)
      have H77 : St W w71 (RSrc b R :: (Attrs (.slice none 0 0) [] :: F).set (i + 1) emp) := H76
      exact ⟨none, 0, 0, by rw [tkV_no h0, hE]; rfl, by rw [tkV_no h0]; rfl, by rw [tkV_no h0, tkR_no h0]; exact St.back (i := i + 1) (by exact hi) H77⟩
  · skip
    refine r_cons (s_move (.tuple #[.agg #[.int .i64 sx35, .int .i64 sx36, .int .i64 sx37, .string sx38, .slice pp31 NN33 cc32], .int .i64 ((v7 (⟨0, R⟩ : RX)).e)]) rfl rfl ?_)
    refine r_cons (s_extract (.agg #[.int .i64 sx35, .int .i64 sx36, .int .i64 sx37, .string sx38, .slice pp31 NN33 cc32]) #[.agg #[.int .i64 sx35, .int .i64 sx36, .int .i64 sx37, .string sx38, .slice pp31 NN33 cc32], .int .i64 ((v7 (⟨0, R⟩ : RX)).e)] rfl rfl rfl ?_)
    refine r_cons (s_extract (.int .i64 ((v7 (⟨0, R⟩ : RX)).e)) #[.agg #[.int .i64 sx35, .int .i64 sx36, .int .i64 sx37, .string sx38, .slice pp31 NN33 cc32], .int .i64 ((v7 (⟨0, R⟩ : RX)).e)] rfl rfl rfl ?_)
    refine r_cons (s_alloc H30 33 ze_33 rfl ?_); intro bk78 w79 H80
    refine r_cons (s_storeAgg H80 0 #[.int .i64 sx35, .int .i64 sx36, .int .i64 sx37, .string sx38, .slice pp31 NN33 cc32] 5 rfl rfl rfl sz_33 rfl (by simp [Value.oneCell']) (Nat.le_of_ble_eq_true rfl) (fun o h1 h2 => by first | (simp; done) | (simp; omega)) (cs' := #[.int .i64 sx35, .int .i64 sx36, .int .i64 sx37, .string sx38, .slice pp31 NN33 cc32]) rfl ?_); intro w81 H82
    refine r_cons (s_assign (.int .i64 ((v7 (⟨0, R⟩ : RX)).e)) rfl rfl ?_)
    refine r_nil ?_
    refine g_seq ?_
    refine g_seq ?_
    refine g_region ?_
    refine r_cons (s_move (.int .i64 ((v7 (⟨0, R⟩ : RX)).e)) rfl rfl ?_)
    refine r_cons (s_eql false rfl rfl (dfalse (by omega)) rfl ?_)
    refine r_nil ?_
    refine g_false rfl ?_
    refine g_skip ?_
    refine g_seq ?_
    refine g_seq ?_
    refine g_region ?_
    refine r_cons (s_move (.int .i64 ((v7 (⟨0, R⟩ : RX)).e)) rfl rfl ?_)
    refine r_cons (s_neq true rfl rfl (nfalse (by omega)) rfl ?_)
    refine r_nil ?_
    refine g_true rfl ?_
    refine g_seq ?_
    refine g_region ?_
    refine r_cons (s_move (.pointer (some ⟨b, 0, none⟩)) rfl rfl ?_)
    refine r_cons (s_loadAgg [.slice pp8 R.length cc9] 1 ag_83 rfl (H82.blk_at (i := 2) rfl) (Nat.le_of_ble_eq_true rfl) rfl rfl ?_)
    refine r_cons (s_nilCheck (.pointer (some ⟨b, 0, none⟩)) rfl ⟨_, rfl⟩ rfl ?_)
    have H83 := H82.move 1 rfl
    obtain ⟨vv84, H85⟩ := St.open_ex H83
    have H86 := St.open_star H85
    obtain ⟨pp87, cc88, gA89, oA90, kA91, eA92, zA93, rfl, hn94, hp95, hx96, hs97, hml, H98⟩ := Im.open_ H86 (i := 1) rfl
    have H99 : St W w81 (imi (0 < RR34.length) gA89 (.cells kA91 eA92 zA93) :: blk b (.cells #[.slice pp87 RR34.length cc88] 83 (0, 0)) :: Im 1 (.slice pp87 RR34.length cc88) RR34.length (RR34.flatMap blc) :: blk bk78 (.cells #[.int .i64 sx35, .int .i64 sx36, .int .i64 sx37, .string sx38, .slice pp31 NN33 cc32] 33 (0, 0)) :: blk bk21 (.cells #[.slice pp8 R.length cc9] 83 (0, 0)) :: Im 1 (.slice pp8 R.length cc9) R.length (R.flatMap blc) :: blk bk1 (.cells #[.int .i64 0, .int .i64 0, .int .i64 0, .string ByteArray.empty, .slice none 0 0] 33 (0, 0)) :: (F.set i emp)) := H98
    refine r_cons (s_storeAgg H99 1 #[.slice pp8 R.length cc9] 1 rfl rfl rfl sz_83 rfl (by simp [Value.oneCell']) (Nat.le_of_ble_eq_true rfl) (fun o h1 h2 => by first | (simp; done) | (simp; omega)) (cs' := #[.slice pp8 R.length cc9]) rfl ?_); intro w100 H101
    refine r_nil ?_
    refine g_seq ?_
    refine g_region ?_
    refine r_cons (s_build (cs := #[.int .i64 0, .int .i64 0, .int .i64 0, .string ByteArray.empty, .slice none 0 0]) (by kernel_rfl) rfl ?_)
    refine r_cons (s_move (.int .i64 ((v7 (⟨0, R⟩ : RX)).e)) rfl rfl ?_)
    refine r_cons (s_storeAgg H101 6 #[.int .i64 0, .int .i64 0, .int .i64 0, .string ByteArray.empty, .slice none 0 0] 5 rfl rfl rfl sz_33 rfl (by simp [Value.oneCell']) (Nat.le_of_ble_eq_true rfl) (fun o h1 h2 => by first | (simp; done) | (simp; omega)) (cs' := #[.int .i64 0, .int .i64 0, .int .i64 0, .string ByteArray.empty, .slice none 0 0]) rfl ?_); intro w102 H103
    refine r_cons (s_assign (.int .i64 ((v7 (⟨0, R⟩ : RX)).e)) rfl rfl ?_)
    refine r_nil ?_
    refine g_ret' [.agg #[.int .i64 0, .int .i64 0, .int .i64 0, .string ByteArray.empty, .slice none 0 0], .int .i64 ((v7 (⟨0, R⟩ : RX)).e)] Try.func53 Try.results53 ⟨(res_cellN rfl ag_33 (H103.blk_at (i := 6) rfl) (Nat.le_of_ble_eq_true rfl) rfl), rfl, trivial⟩ ?_
    have H104 : St W w102 (blk b (.cells #[.slice pp8 R.length cc9] 83 (0, 0)) :: Im 1 (.slice pp8 R.length cc9) R.length (R.flatMap blc) :: Im 1 (.slice pp87 RR34.length cc88) RR34.length (RR34.flatMap blc) :: blk bk78 (.cells #[.int .i64 sx35, .int .i64 sx36, .int .i64 sx37, .string sx38, .slice pp31 NN33 cc32] 33 (0, 0)) :: blk bk21 (.cells #[.slice pp8 R.length cc9] 83 (0, 0)) :: blk bk1 (.cells #[.int .i64 0, .int .i64 0, .int .i64 0, .string ByteArray.empty, .slice none 0 0] 33 (0, 0)) :: (F.set i emp)) := (((((((H103.move 6 rfl).move 5 rfl).move 5 rfl).move 5 rfl).move 6 rfl).move 6 rfl).drop 6 rfl)
    have H105 : St W w102 (RSrc b R :: Im 1 (.slice pp87 RR34.length cc88) RR34.length (RR34.flatMap blc) :: blk bk78 (.cells #[.int .i64 sx35, .int .i64 sx36, .int .i64 sx37, .string sx38, .slice pp31 NN33 cc32] 33 (0, 0)) :: blk bk21 (.cells #[.slice pp8 R.length cc9] 83 (0, 0)) :: blk bk1 (.cells #[.int .i64 0, .int .i64 0, .int .i64 0, .string ByteArray.empty, .slice none 0 0] 33 (0, 0)) :: (F.set i emp)) := St.shut_ex (.slice pp8 R.length cc9) (St.shut_star (ls := [blk b (.cells #[.slice pp8 R.length cc9] 83 (0, 0)), Im 1 (.slice pp8 R.length cc9) R.length (R.flatMap blc)]) H104)
    have hE : tkE R = (v7 (⟨0, R⟩ : RX)).e := evC_no he29
    have h0 : ¬ tkE R = 0 := by rw [hE]; exact he29
    have H106 : St W w102 (Attrs (.slice none 0 0) [] :: RSrc b R :: Im 1 (.slice pp87 RR34.length cc88) RR34.length (RR34.flatMap blc) :: blk bk78 (.cells #[.int .i64 sx35, .int .i64 sx36, .int .i64 sx37, .string sx38, .slice pp31 NN33 cc32] 33 (0, 0)) :: blk bk21 (.cells #[.slice pp8 R.length cc9] 83 (0, 0)) :: blk bk1 (.cells #[.int .i64 0, .int .i64 0, .int .i64 0, .string ByteArray.empty, .slice none 0 0] 33 (0, 0)) :: (F.set i emp)) := Row.im (Row.nil_intro H105 91 4) (i := 0) rfl
    have H107 : St W w102 (RSrc b R :: Attrs (.slice none 0 0) [] :: (F.set i emp)) := (((((H106.move 1 rfl).drop 2 rfl).drop 2 rfl).drop 2 rfl).drop 2 rfl)
    have H108 : St W w102 (RSrc b R :: (Attrs (.slice none 0 0) [] :: F).set (i + 1) emp) := H107
    exact ⟨none, 0, 0, by rw [tkV_no h0, hE]; rfl, by rw [tkV_no h0]; rfl, by rw [tkV_no h0, tkR_no h0]; exact St.back (i := i + 1) (by exact hi) H108⟩
set_option maxHeartbeats 4000000 in
set_option maxRecDepth 100000 in
theorem ref04_Parse {W w : World} {F : List Atom} (bs : List UInt8) (bv : Value) (hb : bs.length ≤ 17592186044416) {j : Nat} (hj : F[j]? = some (Im 1 bv bs.length (bs.flatMap u8c))) (H : St W w F) : Calls Try.prog 48 #[bv] w (Ret fun v w' => ∃ q n c, v = .tuple #[.agg #[.int .i64 ((psV (remB bs 0)).src.v), .int .i64 ((psV (remB bs 0)).seq.v), .int .i64 ((psV (remB bs 0)).time.v), .string ((psV (remB bs 0)).typ.v), .slice q n c], .int .i64 (psE (remB bs 0))] ∧ n = (psV (remB bs 0)).attrs.length ∧ St W w' (Attrs (.slice q n c) (psV (remB bs 0)).attrs :: F)) := by
  have H1 := H.dup hj (Im_pers _ _ _ _)
  obtain ⟨pp2, cc3, rfl, hn4⟩ := Rd.shape (Im.rd H1 (i := 0) rfl)
  refine calls_of_go (n := 23) Try.func48 rfl Try.ntmps48 rfl ?_
  refine g_seq ?_
  refine g_region ?_
  refine r_cons (s_alloc H1 33 ze_33 rfl ?_); intro bk6 w7 H8
  refine r_cons (s_assign (.int .i64 0) rfl rfl ?_)
  refine r_nil ?_
  refine g_seq ?_
  refine g_region ?_
  refine r_cons (s_move (.slice pp2 bs.length cc3) rfl rfl ?_)
  refine r_cons (s_call [.slice pp2 bs.length cc3] pl_50 rfl rfl (RSrc_New bs _ (by omega) (j := 1) rfl H8) ?_)
  rintro _ w10 ⟨bk9, rfl, H11⟩
  refine r_cons (s_assign (.pointer (some ⟨bk9, 0, none⟩)) rfl rfl ?_)
  refine r_nil ?_
  refine g_seq ?_
  refine g_region ?_
  have H12 : St W w10 (RSrc bk9 (remB bs 0) :: blk bk6 (.cells #[.int .i64 0, .int .i64 0, .int .i64 0, .string ByteArray.empty, .slice none 0 0] 33 (0, 0)) :: Im 1 (.slice pp2 bs.length cc3) bs.length (bs.flatMap u8c) :: F) := H11
  have hrl : (remB bs 0).length ≤ 1125899906842624 := by rw [remB_len]; omega
  refine r_cons (s_move (.pointer (some ⟨bk9, 0, none⟩)) rfl rfl ?_)
  refine r_cons (s_call [.pointer (some ⟨bk9, 0, none⟩)] pl_53 rfl rfl (ref04_Take bk9 (remB bs 0) (by first | assumption | omega | (simp only [List.length_drop, remB_len]; omega)) (i := 0) rfl H12) ?_)
  rintro _ w15 ⟨pp13, _, cc14, rfl, rfl, H16⟩
  refine r_cons (s_move (.tuple #[.agg #[.int .i64 ((tkV (remB bs 0)).src.v), .int .i64 ((tkV (remB bs 0)).seq.v), .int .i64 ((tkV (remB bs 0)).time.v), .string ((tkV (remB bs 0)).typ.v), .slice pp13 ((tkV (remB bs 0)).attrs.length) cc14], .int .i64 (tkE (remB bs 0))]) rfl rfl ?_)
  refine r_cons (s_extract (.agg #[.int .i64 ((tkV (remB bs 0)).src.v), .int .i64 ((tkV (remB bs 0)).seq.v), .int .i64 ((tkV (remB bs 0)).time.v), .string ((tkV (remB bs 0)).typ.v), .slice pp13 ((tkV (remB bs 0)).attrs.length) cc14]) #[.agg #[.int .i64 ((tkV (remB bs 0)).src.v), .int .i64 ((tkV (remB bs 0)).seq.v), .int .i64 ((tkV (remB bs 0)).time.v), .string ((tkV (remB bs 0)).typ.v), .slice pp13 ((tkV (remB bs 0)).attrs.length) cc14], .int .i64 (tkE (remB bs 0))] rfl rfl rfl ?_)
  refine r_cons (s_extract (.int .i64 (tkE (remB bs 0))) #[.agg #[.int .i64 ((tkV (remB bs 0)).src.v), .int .i64 ((tkV (remB bs 0)).seq.v), .int .i64 ((tkV (remB bs 0)).time.v), .string ((tkV (remB bs 0)).typ.v), .slice pp13 ((tkV (remB bs 0)).attrs.length) cc14], .int .i64 (tkE (remB bs 0))] rfl rfl rfl ?_)
  refine r_cons (s_alloc H16 33 ze_33 rfl ?_); intro bk17 w18 H19
  refine r_cons (s_storeAgg H19 0 #[.int .i64 ((tkV (remB bs 0)).src.v), .int .i64 ((tkV (remB bs 0)).seq.v), .int .i64 ((tkV (remB bs 0)).time.v), .string ((tkV (remB bs 0)).typ.v), .slice pp13 ((tkV (remB bs 0)).attrs.length) cc14] 5 rfl rfl rfl sz_33 rfl (by simp [Value.oneCell']) (Nat.le_of_ble_eq_true rfl) (fun o h1 h2 => by first | (simp; done) | (simp; omega)) (cs' := #[.int .i64 ((tkV (remB bs 0)).src.v), .int .i64 ((tkV (remB bs 0)).seq.v), .int .i64 ((tkV (remB bs 0)).time.v), .string ((tkV (remB bs 0)).typ.v), .slice pp13 ((tkV (remB bs 0)).attrs.length) cc14]) rfl ?_); intro w20 H21
  refine r_cons (s_assign (.int .i64 (tkE (remB bs 0))) rfl rfl ?_)
  refine r_nil ?_
  refine g_seq ?_
  refine g_seq ?_
  refine g_region ?_
  refine r_cons (s_move (.int .i64 (tkE (remB bs 0))) rfl rfl ?_)
  by_cases hc22 : tkE (remB bs 0) = 0
  · skip
    refine r_cons (s_eql true rfl rfl (dtrue hc22) rfl ?_)
    refine r_nil ?_
    refine g_true rfl ?_
    refine g_region ?_
    refine r_cons (s_move (.pointer (some ⟨bk9, 0, none⟩)) rfl rfl ?_)
    refine r_cons (s_call [.pointer (some ⟨bk9, 0, none⟩)] pl_82 rfl rfl (RSrc_End bk9 (tkR (remB bs 0))   (i := 2) rfl H21) ?_)
    rintro _ w23 ⟨rfl, H24⟩
    refine r_cons (s_assign (.int .i64 (endE (tkR (remB bs 0)))) rfl rfl ?_)
    refine r_nil ?_
    refine g_seq ?_
    refine g_seq ?_
    refine g_region ?_
    refine r_cons (s_move (.int .i64 (endE (tkR (remB bs 0)))) rfl rfl ?_)
    by_cases hc25 : endE (tkR (remB bs 0)) = 0
    · skip
      refine r_cons (s_neq false rfl rfl (ntrue hc25) rfl ?_)
      refine r_nil ?_
      refine g_false rfl ?_
      refine g_skip ?_
      refine g_seq ?_
      refine g_region ?_
      refine r_cons (s_loadAgg [.int .i64 ((tkV (remB bs 0)).src.v), .int .i64 ((tkV (remB bs 0)).seq.v), .int .i64 ((tkV (remB bs 0)).time.v), .string ((tkV (remB bs 0)).typ.v), .slice pp13 ((tkV (remB bs 0)).attrs.length) cc14] 5 ag_33 rfl (H24.blk_at (i := 0) rfl) (Nat.le_of_ble_eq_true rfl) rfl rfl ?_)
      refine r_cons (s_storeAgg H24 3 #[.int .i64 ((tkV (remB bs 0)).src.v), .int .i64 ((tkV (remB bs 0)).seq.v), .int .i64 ((tkV (remB bs 0)).time.v), .string ((tkV (remB bs 0)).typ.v), .slice pp13 ((tkV (remB bs 0)).attrs.length) cc14] 5 rfl rfl rfl sz_33 rfl (by simp [Value.oneCell']) (Nat.le_of_ble_eq_true rfl) (fun o h1 h2 => by first | (simp; done) | (simp; omega)) (cs' := #[.int .i64 ((tkV (remB bs 0)).src.v), .int .i64 ((tkV (remB bs 0)).seq.v), .int .i64 ((tkV (remB bs 0)).time.v), .string ((tkV (remB bs 0)).typ.v), .slice pp13 ((tkV (remB bs 0)).attrs.length) cc14]) rfl ?_); intro w26 H27
      refine r_cons (s_assign (.int .i64 0) rfl rfl ?_)
      refine r_nil ?_
      refine g_ret' [.agg #[.int .i64 ((tkV (remB bs 0)).src.v), .int .i64 ((tkV (remB bs 0)).seq.v), .int .i64 ((tkV (remB bs 0)).time.v), .string ((tkV (remB bs 0)).typ.v), .slice pp13 ((tkV (remB bs 0)).attrs.length) cc14], .int .i64 0] Try.func48 Try.results48 ⟨(res_cellN rfl ag_33 (H27.blk_at (i := 3) rfl) (Nat.le_of_ble_eq_true rfl) rfl), rfl, trivial⟩ ?_
      have ht : tkE (remB bs 0) = 0 := hc22
      have hE : psE (remB bs 0) = endE (tkR (remB bs 0)) := psE_yes ht
      have hE0 : psE (remB bs 0) = 0 := by rw [hE]; exact hc25
      have H28 : St W w26 (Attrs (.slice pp13 ((tkV (remB bs 0)).attrs.length) cc14) ((tkV (remB bs 0)).attrs) :: F) := (((((H27.move 1 rfl).drop 1 rfl).drop 1 rfl).drop 1 rfl).drop 1 rfl)
      exact ⟨_, _, _, by rw [hE0, psV_yes hE0]; rfl, by rw [psV_yes hE0], by rw [psV_yes hE0]; exact H28⟩
    · skip
      refine r_cons (s_neq true rfl rfl (nfalse hc25) rfl ?_)
      refine r_nil ?_
      refine g_true rfl ?_
      refine g_seq ?_
      refine g_region ?_
      refine r_cons (s_build (cs := #[.int .i64 0, .int .i64 0, .int .i64 0, .string ByteArray.empty, .slice none 0 0]) (by kernel_rfl) rfl ?_)
      refine r_cons (s_move (.int .i64 (endE (tkR (remB bs 0)))) rfl rfl ?_)
      refine r_cons (s_storeAgg H24 3 #[.int .i64 0, .int .i64 0, .int .i64 0, .string ByteArray.empty, .slice none 0 0] 5 rfl rfl rfl sz_33 rfl (by simp [Value.oneCell']) (Nat.le_of_ble_eq_true rfl) (fun o h1 h2 => by first | (simp; done) | (simp; omega)) (cs' := #[.int .i64 0, .int .i64 0, .int .i64 0, .string ByteArray.empty, .slice none 0 0]) rfl ?_); intro w29 H30
      refine r_cons (s_assign (.int .i64 (endE (tkR (remB bs 0)))) rfl rfl ?_)
      refine r_nil ?_
      refine g_ret' [.agg #[.int .i64 0, .int .i64 0, .int .i64 0, .string ByteArray.empty, .slice none 0 0], .int .i64 (endE (tkR (remB bs 0)))] Try.func48 Try.results48 ⟨(res_cellN rfl ag_33 (H30.blk_at (i := 3) rfl) (Nat.le_of_ble_eq_true rfl) rfl), rfl, trivial⟩ ?_
      have ht : tkE (remB bs 0) = 0 := hc22
      have hE : psE (remB bs 0) = endE (tkR (remB bs 0)) := psE_yes ht
      have hE0 : ¬ psE (remB bs 0) = 0 := by rw [hE]; exact hc25
      have H31 : St W w29 F := (((((H30.drop 0 rfl).drop 0 rfl).drop 0 rfl).drop 0 rfl).drop 0 rfl)
      have H32 : St W w29 (Attrs (.slice none 0 0) [] :: F) := Row.im (Row.nil_intro H31 91 4) (i := 0) rfl
      exact ⟨none, 0, 0, by rw [psV_no hE0, hE]; rfl, by rw [psV_no hE0]; rfl, by rw [psV_no hE0]; exact H32⟩
  · skip
    refine r_cons (s_eql false rfl rfl (dfalse hc22) rfl ?_)
    refine r_nil ?_
    refine g_false rfl ?_
    refine g_skip ?_
    refine g_seq ?_
    refine g_seq ?_
    refine g_region ?_
    refine r_cons (s_move (.int .i64 (tkE (remB bs 0))) rfl rfl ?_)
    refine r_cons (s_neq true rfl rfl (nfalse (by omega)) rfl ?_)
    refine r_nil ?_
    refine g_true rfl ?_
    refine g_seq ?_
    refine g_region ?_
    refine r_cons (s_build (cs := #[.int .i64 0, .int .i64 0, .int .i64 0, .string ByteArray.empty, .slice none 0 0]) (by kernel_rfl) rfl ?_)
    refine r_cons (s_move (.int .i64 (tkE (remB bs 0))) rfl rfl ?_)
    refine r_cons (s_storeAgg H21 3 #[.int .i64 0, .int .i64 0, .int .i64 0, .string ByteArray.empty, .slice none 0 0] 5 rfl rfl rfl sz_33 rfl (by simp [Value.oneCell']) (Nat.le_of_ble_eq_true rfl) (fun o h1 h2 => by first | (simp; done) | (simp; omega)) (cs' := #[.int .i64 0, .int .i64 0, .int .i64 0, .string ByteArray.empty, .slice none 0 0]) rfl ?_); intro w33 H34
    refine r_cons (s_assign (.int .i64 (tkE (remB bs 0))) rfl rfl ?_)
    refine r_nil ?_
    refine g_ret' [.agg #[.int .i64 0, .int .i64 0, .int .i64 0, .string ByteArray.empty, .slice none 0 0], .int .i64 (tkE (remB bs 0))] Try.func48 Try.results48 ⟨(res_cellN rfl ag_33 (H34.blk_at (i := 3) rfl) (Nat.le_of_ble_eq_true rfl) rfl), rfl, trivial⟩ ?_
    have ht : ¬ tkE (remB bs 0) = 0 := hc22
    have hE : psE (remB bs 0) = tkE (remB bs 0) := psE_no ht
    have hE0 : ¬ psE (remB bs 0) = 0 := by rw [hE]; exact ht
    have H35 : St W w33 F := (((((H34.drop 0 rfl).drop 0 rfl).drop 0 rfl).drop 0 rfl).drop 0 rfl)
    have H36 : St W w33 (Attrs (.slice none 0 0) [] :: F) := Row.im (Row.nil_intro H35 91 4) (i := 0) rfl
    exact ⟨none, 0, 0, by rw [psV_no hE0, hE]; rfl, by rw [psV_no hE0]; rfl, by rw [psV_no hE0]; exact H36⟩
set_option maxHeartbeats 4000000 in
set_option maxRecDepth 100000 in
theorem EventReads_ {W w : World} {F : List Atom} (bs : List UInt8) (bv : Value) (k : Nat) (hk : k < 256) (hb : bs.length ≤ 8589934592) {j : Nat} (hj : F[j]? = some (Im 1 bv bs.length (bs.flatMap u8c))) (H : St W w F) : Calls Try.prog 8 #[bv, .int .u8 (k : Int)] w (Ret fun v w' => v = .bool true ∧ St W w' F) := by
  obtain ⟨pp1, cc2, rfl, hn3⟩ := Rd.shape (Im.rd H (i := j + 0) (by exact hj))
  have H4 := H.dup (i := j + 0) (by exact hj) (Im_pers _ _ _ _)
  have hL0 := remB_len bs 0
  have hL1 := bitsOf_len bs
  refine calls_of_go (n := 98) Try.func8 rfl Try.ntmps8 rfl ?_
  refine g_seq ?_
  refine g_region ?_
  refine r_cons (s_assign (.bool false) rfl rfl ?_)
  refine r_nil ?_
  refine g_seq ?_
  refine g_region ?_
  refine r_cons (s_move (.slice pp1 bs.length cc2) rfl rfl ?_)
  refine r_cons (s_call [.slice pp1 bs.length cc2] pl_47 rfl rfl (event_Parse bs _ (by omega) (j := 0) rfl H4) ?_)
  rintro _ w7 ⟨pp5, _, cc6, rfl, rfl, H8⟩
  refine r_cons (s_move (.tuple #[.agg #[.int .i64 ((psV (remB bs 0)).src.v), .int .i64 ((psV (remB bs 0)).seq.v), .int .i64 ((psV (remB bs 0)).time.v), .string ((psV (remB bs 0)).typ.v), .slice pp5 ((psV (remB bs 0)).attrs.length) cc6], .int .i64 (psE (remB bs 0))]) rfl rfl ?_)
  refine r_cons (s_extract (.agg #[.int .i64 ((psV (remB bs 0)).src.v), .int .i64 ((psV (remB bs 0)).seq.v), .int .i64 ((psV (remB bs 0)).time.v), .string ((psV (remB bs 0)).typ.v), .slice pp5 ((psV (remB bs 0)).attrs.length) cc6]) #[.agg #[.int .i64 ((psV (remB bs 0)).src.v), .int .i64 ((psV (remB bs 0)).seq.v), .int .i64 ((psV (remB bs 0)).time.v), .string ((psV (remB bs 0)).typ.v), .slice pp5 ((psV (remB bs 0)).attrs.length) cc6], .int .i64 (psE (remB bs 0))] rfl rfl rfl ?_)
  refine r_cons (s_extract (.int .i64 (psE (remB bs 0))) #[.agg #[.int .i64 ((psV (remB bs 0)).src.v), .int .i64 ((psV (remB bs 0)).seq.v), .int .i64 ((psV (remB bs 0)).time.v), .string ((psV (remB bs 0)).typ.v), .slice pp5 ((psV (remB bs 0)).attrs.length) cc6], .int .i64 (psE (remB bs 0))] rfl rfl rfl ?_)
  refine r_cons (s_alloc H8 33 ze_33 rfl ?_); intro bk9 w10 H11
  refine r_cons (s_storeAgg H11 0 #[.int .i64 ((psV (remB bs 0)).src.v), .int .i64 ((psV (remB bs 0)).seq.v), .int .i64 ((psV (remB bs 0)).time.v), .string ((psV (remB bs 0)).typ.v), .slice pp5 ((psV (remB bs 0)).attrs.length) cc6] 5 rfl rfl rfl sz_33 rfl (by simp [Value.oneCell']) (Nat.le_of_ble_eq_true rfl) (fun o h1 h2 => by first | (simp; done) | (simp; omega)) (cs' := #[.int .i64 ((psV (remB bs 0)).src.v), .int .i64 ((psV (remB bs 0)).seq.v), .int .i64 ((psV (remB bs 0)).time.v), .string ((psV (remB bs 0)).typ.v), .slice pp5 ((psV (remB bs 0)).attrs.length) cc6]) rfl ?_); intro w12 H13
  refine r_cons (s_assign (.int .i64 (psE (remB bs 0))) rfl rfl ?_)
  refine r_nil ?_
  refine g_seq ?_
  refine g_region ?_
  refine r_cons (s_move (.slice pp1 bs.length cc2) rfl rfl ?_)
  refine r_cons (s_call [.slice pp1 bs.length cc2] pl_48 rfl rfl (ref04_Parse bs _ (by omega) (j := 2) rfl H13) ?_)
  rintro _ w16 ⟨pp14, _, cc15, rfl, rfl, H17⟩
  refine r_cons (s_move (.tuple #[.agg #[.int .i64 ((psV (remB bs 0)).src.v), .int .i64 ((psV (remB bs 0)).seq.v), .int .i64 ((psV (remB bs 0)).time.v), .string ((psV (remB bs 0)).typ.v), .slice pp14 ((psV (remB bs 0)).attrs.length) cc15], .int .i64 (psE (remB bs 0))]) rfl rfl ?_)
  refine r_cons (s_extract (.agg #[.int .i64 ((psV (remB bs 0)).src.v), .int .i64 ((psV (remB bs 0)).seq.v), .int .i64 ((psV (remB bs 0)).time.v), .string ((psV (remB bs 0)).typ.v), .slice pp14 ((psV (remB bs 0)).attrs.length) cc15]) #[.agg #[.int .i64 ((psV (remB bs 0)).src.v), .int .i64 ((psV (remB bs 0)).seq.v), .int .i64 ((psV (remB bs 0)).time.v), .string ((psV (remB bs 0)).typ.v), .slice pp14 ((psV (remB bs 0)).attrs.length) cc15], .int .i64 (psE (remB bs 0))] rfl rfl rfl ?_)
  refine r_cons (s_extract (.int .i64 (psE (remB bs 0))) #[.agg #[.int .i64 ((psV (remB bs 0)).src.v), .int .i64 ((psV (remB bs 0)).seq.v), .int .i64 ((psV (remB bs 0)).time.v), .string ((psV (remB bs 0)).typ.v), .slice pp14 ((psV (remB bs 0)).attrs.length) cc15], .int .i64 (psE (remB bs 0))] rfl rfl rfl ?_)
  refine r_cons (s_alloc H17 33 ze_33 rfl ?_); intro bk18 w19 H20
  refine r_cons (s_storeAgg H20 0 #[.int .i64 ((psV (remB bs 0)).src.v), .int .i64 ((psV (remB bs 0)).seq.v), .int .i64 ((psV (remB bs 0)).time.v), .string ((psV (remB bs 0)).typ.v), .slice pp14 ((psV (remB bs 0)).attrs.length) cc15] 5 rfl rfl rfl sz_33 rfl (by simp [Value.oneCell']) (Nat.le_of_ble_eq_true rfl) (fun o h1 h2 => by first | (simp; done) | (simp; omega)) (cs' := #[.int .i64 ((psV (remB bs 0)).src.v), .int .i64 ((psV (remB bs 0)).seq.v), .int .i64 ((psV (remB bs 0)).time.v), .string ((psV (remB bs 0)).typ.v), .slice pp14 ((psV (remB bs 0)).attrs.length) cc15]) rfl ?_); intro w21 H22
  refine r_cons (s_assign (.int .i64 (psE (remB bs 0))) rfl rfl ?_)
  refine r_nil ?_
  refine g_seq ?_
  refine g_region ?_
  refine r_cons (s_move (.slice pp1 bs.length cc2) rfl rfl ?_)
  refine r_cons (s_call [.slice pp1 bs.length cc2] pl_49 rfl rfl (NewSource _ _ bs (RdA.im) (by first | omega | decide) (j := 4) rfl H22) ?_)
  rintro _ w24 ⟨bk23, rfl, H25⟩
  refine r_cons (s_move (.slice pp1 bs.length cc2) rfl rfl ?_)
  refine r_cons (s_call [.slice pp1 bs.length cc2] pl_50 rfl rfl (RSrc_New bs _ (by omega) (j := 5) rfl H25) ?_)
  rintro _ w27 ⟨bk26, rfl, H28⟩
  refine r_cons (s_assign (.pointer (some ⟨bk23, 0, none⟩)) rfl rfl ?_)
  refine r_cons (s_assign (.pointer (some ⟨bk26, 0, none⟩)) rfl rfl ?_)
  refine r_nil ?_
  refine g_seq ?_
  refine g_seq ?_
  refine g_region ?_
  refine r_cons (s_call [] pl_12 rfl rfl (begun_ H28) ?_)
  rintro _ w29 ⟨rfl, H30⟩
  refine r_cons (s_not true rfl false rfl rfl ?_)
  refine r_cons (s_move (.bool false) rfl rfl ?_)
  refine r_cons (r_take rfl rfl ?_)
  refine s_move (.pointer (some ⟨bk23, 0, none⟩)) rfl rfl ?_
  refine r_cons (r_take rfl rfl ?_)
  refine s_peql false un_76 rfl rfl rfl rfl ?_
  refine r_cons (s_pick_f (.bool false) rfl rfl rfl ?_)
  refine r_cons (s_move (.bool false) rfl rfl ?_)
  refine r_cons (r_take rfl rfl ?_)
  refine s_loadAgg [.int .i64 ((psV (remB bs 0)).src.v), .int .i64 ((psV (remB bs 0)).seq.v), .int .i64 ((psV (remB bs 0)).time.v), .string ((psV (remB bs 0)).typ.v), .slice pp5 ((psV (remB bs 0)).attrs.length) cc6] 5 ag_33 rfl (H30.blk_at (i := 4) rfl) (Nat.le_of_ble_eq_true rfl) rfl rfl ?_
  refine r_cons (r_take rfl rfl ?_)
  refine s_loadAgg [.int .i64 ((psV (remB bs 0)).src.v), .int .i64 ((psV (remB bs 0)).seq.v), .int .i64 ((psV (remB bs 0)).time.v), .string ((psV (remB bs 0)).typ.v), .slice pp14 ((psV (remB bs 0)).attrs.length) cc15] 5 ag_33 rfl (H30.blk_at (i := 2) rfl) (Nat.le_of_ble_eq_true rfl) rfl rfl ?_
  refine r_cons (r_take rfl rfl ?_)
  have hss31 : sameEv (psV (remB bs 0)) (psV (remB bs 0)) = true := sameEv_iff.2 rfl
  refine s_call [.agg #[.int .i64 ((psV (remB bs 0)).src.v), .int .i64 ((psV (remB bs 0)).seq.v), .int .i64 ((psV (remB bs 0)).time.v), .string ((psV (remB bs 0)).typ.v), .slice pp5 ((psV (remB bs 0)).attrs.length) cc6], .agg #[.int .i64 ((psV (remB bs 0)).src.v), .int .i64 ((psV (remB bs 0)).seq.v), .int .i64 ((psV (remB bs 0)).time.v), .string ((psV (remB bs 0)).typ.v), .slice pp14 ((psV (remB bs 0)).attrs.length) cc15]] pl_20 rfl rfl (ref04_Same (psV (remB bs 0)) (psV (remB bs 0)) (.slice pp5 ((psV (remB bs 0)).attrs.length) cc6) (.slice pp14 ((psV (remB bs 0)).attrs.length) cc15) (j := 5) (k := 3) rfl rfl H30) ?_
  rintro _ w32 ⟨rfl, H33⟩
  refine r_cons (r_take rfl rfl ?_)
  refine s_not (sameEv (psV (remB bs 0)) (psV (remB bs 0))) rfl false (by rw [hss31]; rfl) rfl ?_
  refine r_cons (s_pick_f (.bool false) rfl rfl rfl ?_)
  refine r_cons (s_move (.bool false) rfl rfl ?_)
  refine r_cons (r_take rfl rfl ?_)
  refine s_move (.int .i64 (psE (remB bs 0))) rfl rfl ?_
  refine r_cons (r_take rfl rfl ?_)
  refine s_move (.int .i64 (psE (remB bs 0))) rfl rfl ?_
  refine r_cons (r_take rfl rfl ?_)
  refine s_neq false rfl rfl (ntrue rfl) rfl ?_
  refine r_cons (s_pick_f (.bool false) rfl rfl rfl ?_)
  refine r_nil ?_
  refine g_false rfl ?_
  refine g_skip ?_
  refine g_seq ?_
  refine g_region ?_
  refine r_cons (s_move (.int .u8 (k : Int)) rfl rfl ?_)
  refine r_cons (s_rem ((k % 8 : Nat) : Int) rfl rfl (by omega) (by rw [tmod_pos (by omega)]; exact (Int.natCast_emod _ _).symm) rfl ?_)
  refine r_cons (s_conv ((k % 8 : Nat) : Int) rfl us_5 ik_3 (wi64 (by omega)) rfl ?_)
  refine r_cons (s_assign (.int .i64 ((k % 8 : Nat) : Int)) rfl rfl ?_)
  refine r_nil ?_
  refine g_seq ?_
  refine g_seq ?_
  refine g_region ?_
  refine r_cons (s_move (.pointer (some ⟨bk23, 0, none⟩)) rfl rfl ?_)
  refine r_cons (s_move (.int .i64 ((k % 8 : Nat) : Int)) rfl rfl ?_)
  refine r_cons (s_call [.pointer (some ⟨bk23, 0, none⟩), .int .i64 ((k % 8 : Nat) : Int)] pl_51 rfl rfl (Src_Bits bk23 bs 0 (by first | omega | decide +kernel | (repeat (first | assumption | exact Nat.zero_le _ | refine natN_pos ?_ | refine srcN_pos ?_ | refine textN_pos ?_))) (by first | omega | decide +kernel) ((k % 8 : Nat) : Int)  (i := 1) rfl H33) ?_)
  rintro _ w34 ⟨rfl, H35⟩
  refine r_cons (s_move (.tuple #[.int .u64 (srcU (remB bs 0) ((k % 8 : Nat) : Int) : Int), .int .i64 (srcE (remB bs 0) ((k % 8 : Nat) : Int))]) rfl rfl ?_)
  refine r_cons (s_extract (.int .u64 (srcU (remB bs 0) ((k % 8 : Nat) : Int) : Int)) #[.int .u64 (srcU (remB bs 0) ((k % 8 : Nat) : Int) : Int), .int .i64 (srcE (remB bs 0) ((k % 8 : Nat) : Int))] rfl rfl rfl ?_)
  refine r_cons (s_extract (.int .i64 (srcE (remB bs 0) ((k % 8 : Nat) : Int))) #[.int .u64 (srcU (remB bs 0) ((k % 8 : Nat) : Int) : Int), .int .i64 (srcE (remB bs 0) ((k % 8 : Nat) : Int))] rfl rfl rfl ?_)
  refine r_cons (s_assign (.int .u64 (srcU (remB bs 0) ((k % 8 : Nat) : Int) : Int)) rfl rfl ?_)
  refine r_cons (s_assign (.int .i64 (srcE (remB bs 0) ((k % 8 : Nat) : Int))) rfl rfl ?_)
  refine r_nil ?_
  refine g_seq ?_
  refine g_region ?_
  refine r_cons (s_move (.int .i64 (srcE (remB bs 0) ((k % 8 : Nat) : Int))) rfl rfl ?_)
  by_cases hc36 : srcE (remB bs 0) ((k % 8 : Nat) : Int) = 0
  · skip
    refine r_cons (s_neq false rfl rfl (ntrue hc36) rfl ?_)
    refine r_nil ?_
    refine g_false rfl ?_
    refine g_skip ?_
    refine g_seq ?_
    refine g_region ?_
    have hI := srcE_is hc36
    have hpe : 0 + srcN (remB bs 0) ((k % 8 : Nat) : Int) = k % 8 := by rw [srcN_0 hc36]; omega
    have H37 : St W w34 (RSrc bk26 (bitsOf bs) :: SrcA bk23 bs (k % 8) :: blk bk18 (.cells #[.int .i64 ((psV (remB bs 0)).src.v), .int .i64 ((psV (remB bs 0)).seq.v), .int .i64 ((psV (remB bs 0)).time.v), .string ((psV (remB bs 0)).typ.v), .slice pp14 ((psV (remB bs 0)).attrs.length) cc15] 33 (0, 0)) :: Attrs (.slice pp14 ((psV (remB bs 0)).attrs.length) cc15) ((psV (remB bs 0)).attrs) :: blk bk9 (.cells #[.int .i64 ((psV (remB bs 0)).src.v), .int .i64 ((psV (remB bs 0)).seq.v), .int .i64 ((psV (remB bs 0)).time.v), .string ((psV (remB bs 0)).typ.v), .slice pp5 ((psV (remB bs 0)).attrs.length) cc6] 33 (0, 0)) :: Attrs (.slice pp5 ((psV (remB bs 0)).attrs.length) cc6) ((psV (remB bs 0)).attrs) :: Im 1 (.slice pp1 bs.length cc2) bs.length (bs.flatMap u8c) :: F) := by have hx := H35; rw [hpe] at hx; exact hx
    refine r_cons (s_move (.pointer (some ⟨bk26, 0, none⟩)) rfl rfl ?_)
    refine r_cons (s_move (.pointer (some ⟨bk26, 0, none⟩)) rfl rfl ?_)
    refine r_cons (s_nilCheck (.pointer (some ⟨bk26, 0, none⟩)) rfl ⟨_, rfl⟩ rfl ?_)
    refine r_cons (s_fieldAddr 83 0 0 0 50 rfl fi_83_0 rfl rfl ?_)
    have H38 := H37.move 0 rfl
    obtain ⟨vv39, H40⟩ := St.open_ex H38
    have H41 := St.open_star H40
    obtain ⟨pp42, cc43, gA44, oA45, kA46, eA47, zA48, rfl, hn49, hp50, hx51, hs52, hml, H53⟩ := Im.open_ H41 (i := 1) rfl
    have H54 : St W w34 (imi (0 < (bitsOf bs).length) gA44 (.cells kA46 eA47 zA48) :: blk bk26 (.cells #[.slice pp42 ((bitsOf bs).length) cc43] 83 (0, 0)) :: Im 1 (.slice pp42 ((bitsOf bs).length) cc43) ((bitsOf bs).length) ((bitsOf bs).flatMap blc) :: SrcA bk23 bs (k % 8) :: blk bk18 (.cells #[.int .i64 ((psV (remB bs 0)).src.v), .int .i64 ((psV (remB bs 0)).seq.v), .int .i64 ((psV (remB bs 0)).time.v), .string ((psV (remB bs 0)).typ.v), .slice pp14 ((psV (remB bs 0)).attrs.length) cc15] 33 (0, 0)) :: Attrs (.slice pp14 ((psV (remB bs 0)).attrs.length) cc15) ((psV (remB bs 0)).attrs) :: blk bk9 (.cells #[.int .i64 ((psV (remB bs 0)).src.v), .int .i64 ((psV (remB bs 0)).seq.v), .int .i64 ((psV (remB bs 0)).time.v), .string ((psV (remB bs 0)).typ.v), .slice pp5 ((psV (remB bs 0)).attrs.length) cc6] 33 (0, 0)) :: Attrs (.slice pp5 ((psV (remB bs 0)).attrs.length) cc6) ((psV (remB bs 0)).attrs) :: Im 1 (.slice pp1 bs.length cc2) bs.length (bs.flatMap u8c) :: F) := H53
    refine r_cons (s_load (.slice pp42 ((bitsOf bs).length) cc43) ag_50 rfl (H54.blk_at (i := 1) rfl) rfl rfl ?_)
    refine r_cons (s_move (.int .i64 ((k % 8 : Nat) : Int)) rfl rfl ?_)
    have hc55 := Im.cap H54 (i := 2) rfl
    refine r_cons (s_slice_l pp42 ((k % 8 : Nat) : Int) 1 (.slice (cutAt pp42 (k % 8) cc43 1) (((bitsOf bs).length) - (k % 8)) (cc43 - (k % 8))) rfl rfl el_50 (by omega) (by first | rfl | (congr 1; omega)) rfl ?_)
    have H56 : St W w34 (Im 1 (.slice (cutAt pp42 (k % 8) cc43 1) (((bitsOf bs).length) - (k % 8)) (cc43 - (k % 8))) (((bitsOf bs).length) - (k % 8)) (((bitsOf bs).drop (k % 8)).flatMap blc) :: imi (0 < (bitsOf bs).length) gA44 (.cells kA46 eA47 zA48) :: blk bk26 (.cells #[.slice pp42 ((bitsOf bs).length) cc43] 83 (0, 0)) :: Im 1 (.slice pp42 ((bitsOf bs).length) cc43) ((bitsOf bs).length) ((bitsOf bs).flatMap blc) :: SrcA bk23 bs (k % 8) :: blk bk18 (.cells #[.int .i64 ((psV (remB bs 0)).src.v), .int .i64 ((psV (remB bs 0)).seq.v), .int .i64 ((psV (remB bs 0)).time.v), .string ((psV (remB bs 0)).typ.v), .slice pp14 ((psV (remB bs 0)).attrs.length) cc15] 33 (0, 0)) :: Attrs (.slice pp14 ((psV (remB bs 0)).attrs.length) cc15) ((psV (remB bs 0)).attrs) :: blk bk9 (.cells #[.int .i64 ((psV (remB bs 0)).src.v), .int .i64 ((psV (remB bs 0)).seq.v), .int .i64 ((psV (remB bs 0)).time.v), .string ((psV (remB bs 0)).typ.v), .slice pp5 ((psV (remB bs 0)).attrs.length) cc6] 33 (0, 0)) :: Attrs (.slice pp5 ((psV (remB bs 0)).attrs.length) cc6) ((psV (remB bs 0)).attrs) :: Im 1 (.slice pp1 bs.length cc2) bs.length (bs.flatMap u8c) :: F) := Im.cut_l blc_len (k % 8) H54 (i := 2) rfl (by omega)
    refine r_cons (s_nilCheck (.pointer (some ⟨bk26, 0, none⟩)) rfl ⟨_, rfl⟩ rfl ?_)
    refine r_cons (s_fieldAddr 83 0 0 0 50 rfl fi_83_0 rfl rfl ?_)
    refine r_cons (s_store H56 2 (.slice (cutAt pp42 (k % 8) cc43 1) (((bitsOf bs).length) - (k % 8)) (cc43 - (k % 8))) rfl rfl rfl sz_50 rfl (Nat.le_of_ble_eq_true rfl) rfl (cs' := #[.slice (cutAt pp42 (k % 8) cc43 1) (((bitsOf bs).length) - (k % 8)) (cc43 - (k % 8))]) rfl ?_); intro w57 H58
    refine r_nil ?_
    refine g_seq ?_
    refine g_region ?_
    refine r_cons (s_move (.pointer (some ⟨bk23, 0, none⟩)) rfl rfl ?_)
    refine r_cons (s_call [.pointer (some ⟨bk23, 0, none⟩)] pl_52 rfl rfl (event_Take bk23 bs (k % 8) (by first | omega | decide +kernel | (repeat (first | assumption | exact Nat.zero_le _ | refine natN_pos ?_ | refine srcN_pos ?_ | refine textN_pos ?_))) (by omega) (i := 4) rfl H58) ?_)
    rintro _ w64 ⟨pp59, _, cc60, q61, rfl, rfl, hR62, hp63, H65⟩
    refine r_cons (s_move (.tuple #[.agg #[.int .i64 ((tkV (remB bs (k % 8))).src.v), .int .i64 ((tkV (remB bs (k % 8))).seq.v), .int .i64 ((tkV (remB bs (k % 8))).time.v), .string ((tkV (remB bs (k % 8))).typ.v), .slice pp59 ((tkV (remB bs (k % 8))).attrs.length) cc60], .int .i64 (tkE (remB bs (k % 8)))]) rfl rfl ?_)
    refine r_cons (s_extract (.agg #[.int .i64 ((tkV (remB bs (k % 8))).src.v), .int .i64 ((tkV (remB bs (k % 8))).seq.v), .int .i64 ((tkV (remB bs (k % 8))).time.v), .string ((tkV (remB bs (k % 8))).typ.v), .slice pp59 ((tkV (remB bs (k % 8))).attrs.length) cc60]) #[.agg #[.int .i64 ((tkV (remB bs (k % 8))).src.v), .int .i64 ((tkV (remB bs (k % 8))).seq.v), .int .i64 ((tkV (remB bs (k % 8))).time.v), .string ((tkV (remB bs (k % 8))).typ.v), .slice pp59 ((tkV (remB bs (k % 8))).attrs.length) cc60], .int .i64 (tkE (remB bs (k % 8)))] rfl rfl rfl ?_)
    refine r_cons (s_extract (.int .i64 (tkE (remB bs (k % 8)))) #[.agg #[.int .i64 ((tkV (remB bs (k % 8))).src.v), .int .i64 ((tkV (remB bs (k % 8))).seq.v), .int .i64 ((tkV (remB bs (k % 8))).time.v), .string ((tkV (remB bs (k % 8))).typ.v), .slice pp59 ((tkV (remB bs (k % 8))).attrs.length) cc60], .int .i64 (tkE (remB bs (k % 8)))] rfl rfl rfl ?_)
    refine r_cons (s_storeAgg H65 8 #[.int .i64 ((tkV (remB bs (k % 8))).src.v), .int .i64 ((tkV (remB bs (k % 8))).seq.v), .int .i64 ((tkV (remB bs (k % 8))).time.v), .string ((tkV (remB bs (k % 8))).typ.v), .slice pp59 ((tkV (remB bs (k % 8))).attrs.length) cc60] 5 rfl rfl rfl sz_33 rfl (by simp [Value.oneCell']) (Nat.le_of_ble_eq_true rfl) (fun o h1 h2 => by first | (simp; done) | (simp; omega)) (cs' := #[.int .i64 ((tkV (remB bs (k % 8))).src.v), .int .i64 ((tkV (remB bs (k % 8))).seq.v), .int .i64 ((tkV (remB bs (k % 8))).time.v), .string ((tkV (remB bs (k % 8))).typ.v), .slice pp59 ((tkV (remB bs (k % 8))).attrs.length) cc60]) rfl ?_); intro w66 H67
    refine r_cons (s_assign (.int .i64 (tkE (remB bs (k % 8)))) rfl rfl ?_)
    refine r_nil ?_
    refine g_seq ?_
    refine g_region ?_
    have H68 : St W w66 (blk bk26 (.cells #[.slice (cutAt pp42 (k % 8) cc43 1) (((bitsOf bs).length) - (k % 8)) (cc43 - (k % 8))] 83 (0, 0)) :: Im 1 (.slice (cutAt pp42 (k % 8) cc43 1) (((bitsOf bs).length) - (k % 8)) (cc43 - (k % 8))) (((bitsOf bs).length) - (k % 8)) (((bitsOf bs).drop (k % 8)).flatMap blc) :: Attrs (.slice pp59 ((tkV (remB bs (k % 8))).attrs.length) cc60) ((tkV (remB bs (k % 8))).attrs) :: Im 1 (.slice pp42 ((bitsOf bs).length) cc43) ((bitsOf bs).length) ((bitsOf bs).flatMap blc) :: SrcA bk23 bs q61 :: blk bk18 (.cells #[.int .i64 ((psV (remB bs 0)).src.v), .int .i64 ((psV (remB bs 0)).seq.v), .int .i64 ((psV (remB bs 0)).time.v), .string ((psV (remB bs 0)).typ.v), .slice pp14 ((psV (remB bs 0)).attrs.length) cc15] 33 (0, 0)) :: Attrs (.slice pp14 ((psV (remB bs 0)).attrs.length) cc15) ((psV (remB bs 0)).attrs) :: blk bk9 (.cells #[.int .i64 ((tkV (remB bs (k % 8))).src.v), .int .i64 ((tkV (remB bs (k % 8))).seq.v), .int .i64 ((tkV (remB bs (k % 8))).time.v), .string ((tkV (remB bs (k % 8))).typ.v), .slice pp59 ((tkV (remB bs (k % 8))).attrs.length) cc60] 33 (0, 0)) :: Attrs (.slice pp5 ((psV (remB bs 0)).attrs.length) cc6) ((psV (remB bs 0)).attrs) :: Im 1 (.slice pp1 bs.length cc2) bs.length (bs.flatMap u8c) :: F) := (((((((((((H67.move 10 rfl).move 10 rfl).move 10 rfl).move 10 rfl).move 10 rfl).move 10 rfl).move 10 rfl).move 7 rfl).move 8 rfl).move 10 rfl).drop 10 rfl)
    have H69 : St W w66 (blk bk26 (.cells #[.slice (cutAt pp42 (k % 8) cc43 1) (((bitsOf bs).length) - (k % 8)) (cc43 - (k % 8))] 83 (0, 0)) :: Im 1 (.slice (cutAt pp42 (k % 8) cc43 1) (((bitsOf bs).length) - (k % 8)) (cc43 - (k % 8))) (((bitsOf bs).drop (k % 8)).length) (((bitsOf bs).drop (k % 8)).flatMap blc) :: Attrs (.slice pp59 ((tkV (remB bs (k % 8))).attrs.length) cc60) ((tkV (remB bs (k % 8))).attrs) :: Im 1 (.slice pp42 ((bitsOf bs).length) cc43) ((bitsOf bs).length) ((bitsOf bs).flatMap blc) :: SrcA bk23 bs q61 :: blk bk18 (.cells #[.int .i64 ((psV (remB bs 0)).src.v), .int .i64 ((psV (remB bs 0)).seq.v), .int .i64 ((psV (remB bs 0)).time.v), .string ((psV (remB bs 0)).typ.v), .slice pp14 ((psV (remB bs 0)).attrs.length) cc15] 33 (0, 0)) :: Attrs (.slice pp14 ((psV (remB bs 0)).attrs.length) cc15) ((psV (remB bs 0)).attrs) :: blk bk9 (.cells #[.int .i64 ((tkV (remB bs (k % 8))).src.v), .int .i64 ((tkV (remB bs (k % 8))).seq.v), .int .i64 ((tkV (remB bs (k % 8))).time.v), .string ((tkV (remB bs (k % 8))).typ.v), .slice pp59 ((tkV (remB bs (k % 8))).attrs.length) cc60] 33 (0, 0)) :: Attrs (.slice pp5 ((psV (remB bs 0)).attrs.length) cc6) ((psV (remB bs 0)).attrs) :: Im 1 (.slice pp1 bs.length cc2) bs.length (bs.flatMap u8c) :: F) := by rw [show ((bitsOf bs).drop (k % 8)).length = ((bitsOf bs).length) - (k % 8) from by simp only [List.length_drop, List.length_take]; (try omega)]; exact H68
    have H70 : St W w66 (RSrc bk26 ((bitsOf bs).drop (k % 8)) :: Attrs (.slice pp59 ((tkV (remB bs (k % 8))).attrs.length) cc60) ((tkV (remB bs (k % 8))).attrs) :: Im 1 (.slice pp42 ((bitsOf bs).length) cc43) ((bitsOf bs).length) ((bitsOf bs).flatMap blc) :: SrcA bk23 bs q61 :: blk bk18 (.cells #[.int .i64 ((psV (remB bs 0)).src.v), .int .i64 ((psV (remB bs 0)).seq.v), .int .i64 ((psV (remB bs 0)).time.v), .string ((psV (remB bs 0)).typ.v), .slice pp14 ((psV (remB bs 0)).attrs.length) cc15] 33 (0, 0)) :: Attrs (.slice pp14 ((psV (remB bs 0)).attrs.length) cc15) ((psV (remB bs 0)).attrs) :: blk bk9 (.cells #[.int .i64 ((tkV (remB bs (k % 8))).src.v), .int .i64 ((tkV (remB bs (k % 8))).seq.v), .int .i64 ((tkV (remB bs (k % 8))).time.v), .string ((tkV (remB bs (k % 8))).typ.v), .slice pp59 ((tkV (remB bs (k % 8))).attrs.length) cc60] 33 (0, 0)) :: Attrs (.slice pp5 ((psV (remB bs 0)).attrs.length) cc6) ((psV (remB bs 0)).attrs) :: Im 1 (.slice pp1 bs.length cc2) bs.length (bs.flatMap u8c) :: F) := St.shut_ex (.slice (cutAt pp42 (k % 8) cc43 1) (((bitsOf bs).length) - (k % 8)) (cc43 - (k % 8))) (St.shut_star (ls := [blk bk26 (.cells #[.slice (cutAt pp42 (k % 8) cc43 1) (((bitsOf bs).length) - (k % 8)) (cc43 - (k % 8))] 83 (0, 0)), Im 1 (.slice (cutAt pp42 (k % 8) cc43 1) (((bitsOf bs).length) - (k % 8)) (cc43 - (k % 8))) (((bitsOf bs).drop (k % 8)).length) (((bitsOf bs).drop (k % 8)).flatMap blc)]) H69)
    have hrl : (remB bs (k % 8)).length ≤ 1125899906842624 := by rw [remB_len]; omega
    have H71 : St W w66 (RSrc bk26 (remB bs (k % 8)) :: Attrs (.slice pp59 ((tkV (remB bs (k % 8))).attrs.length) cc60) ((tkV (remB bs (k % 8))).attrs) :: Im 1 (.slice pp42 ((bitsOf bs).length) cc43) ((bitsOf bs).length) ((bitsOf bs).flatMap blc) :: SrcA bk23 bs q61 :: blk bk18 (.cells #[.int .i64 ((psV (remB bs 0)).src.v), .int .i64 ((psV (remB bs 0)).seq.v), .int .i64 ((psV (remB bs 0)).time.v), .string ((psV (remB bs 0)).typ.v), .slice pp14 ((psV (remB bs 0)).attrs.length) cc15] 33 (0, 0)) :: Attrs (.slice pp14 ((psV (remB bs 0)).attrs.length) cc15) ((psV (remB bs 0)).attrs) :: blk bk9 (.cells #[.int .i64 ((tkV (remB bs (k % 8))).src.v), .int .i64 ((tkV (remB bs (k % 8))).seq.v), .int .i64 ((tkV (remB bs (k % 8))).time.v), .string ((tkV (remB bs (k % 8))).typ.v), .slice pp59 ((tkV (remB bs (k % 8))).attrs.length) cc60] 33 (0, 0)) :: Attrs (.slice pp5 ((psV (remB bs 0)).attrs.length) cc6) ((psV (remB bs 0)).attrs) :: Im 1 (.slice pp1 bs.length cc2) bs.length (bs.flatMap u8c) :: F) := H70
    refine r_cons (s_move (.pointer (some ⟨bk26, 0, none⟩)) rfl rfl ?_)
    refine r_cons (s_call [.pointer (some ⟨bk26, 0, none⟩)] pl_53 rfl rfl (ref04_Take bk26 (remB bs (k % 8)) (by first | assumption | omega | (simp only [List.length_drop, remB_len]; omega)) (i := 0) rfl H71) ?_)
    rintro _ w74 ⟨pp72, _, cc73, rfl, rfl, H75⟩
    refine r_cons (s_move (.tuple #[.agg #[.int .i64 ((tkV (remB bs (k % 8))).src.v), .int .i64 ((tkV (remB bs (k % 8))).seq.v), .int .i64 ((tkV (remB bs (k % 8))).time.v), .string ((tkV (remB bs (k % 8))).typ.v), .slice pp72 ((tkV (remB bs (k % 8))).attrs.length) cc73], .int .i64 (tkE (remB bs (k % 8)))]) rfl rfl ?_)
    refine r_cons (s_extract (.agg #[.int .i64 ((tkV (remB bs (k % 8))).src.v), .int .i64 ((tkV (remB bs (k % 8))).seq.v), .int .i64 ((tkV (remB bs (k % 8))).time.v), .string ((tkV (remB bs (k % 8))).typ.v), .slice pp72 ((tkV (remB bs (k % 8))).attrs.length) cc73]) #[.agg #[.int .i64 ((tkV (remB bs (k % 8))).src.v), .int .i64 ((tkV (remB bs (k % 8))).seq.v), .int .i64 ((tkV (remB bs (k % 8))).time.v), .string ((tkV (remB bs (k % 8))).typ.v), .slice pp72 ((tkV (remB bs (k % 8))).attrs.length) cc73], .int .i64 (tkE (remB bs (k % 8)))] rfl rfl rfl ?_)
    have hlen := congrArg List.length hR62
    have hss76 : sameEv (tkV (remB bs (k % 8))) (tkV (remB bs (k % 8))) = true := sameEv_iff.2 rfl
    refine r_cons (s_extract (.int .i64 (tkE (remB bs (k % 8)))) #[.agg #[.int .i64 ((tkV (remB bs (k % 8))).src.v), .int .i64 ((tkV (remB bs (k % 8))).seq.v), .int .i64 ((tkV (remB bs (k % 8))).time.v), .string ((tkV (remB bs (k % 8))).typ.v), .slice pp72 ((tkV (remB bs (k % 8))).attrs.length) cc73], .int .i64 (tkE (remB bs (k % 8)))] rfl rfl rfl ?_)
    refine r_cons (s_storeAgg H75 5 #[.int .i64 ((tkV (remB bs (k % 8))).src.v), .int .i64 ((tkV (remB bs (k % 8))).seq.v), .int .i64 ((tkV (remB bs (k % 8))).time.v), .string ((tkV (remB bs (k % 8))).typ.v), .slice pp72 ((tkV (remB bs (k % 8))).attrs.length) cc73] 5 rfl rfl rfl sz_33 rfl (by simp [Value.oneCell']) (Nat.le_of_ble_eq_true rfl) (fun o h1 h2 => by first | (simp; done) | (simp; omega)) (cs' := #[.int .i64 ((tkV (remB bs (k % 8))).src.v), .int .i64 ((tkV (remB bs (k % 8))).seq.v), .int .i64 ((tkV (remB bs (k % 8))).time.v), .string ((tkV (remB bs (k % 8))).typ.v), .slice pp72 ((tkV (remB bs (k % 8))).attrs.length) cc73]) rfl ?_); intro w77 H78
    refine r_cons (s_assign (.int .i64 (tkE (remB bs (k % 8)))) rfl rfl ?_)
    refine r_nil ?_
    refine g_seq ?_
    have H79 := H78.move 1 rfl
    obtain ⟨vv80, H81⟩ := St.open_ex H79
    have H82 := St.open_star H81
    obtain ⟨pp83, cc84, gA85, oA86, kA87, eA88, zA89, rfl, hn90, hp91, hx92, hs93, hml, H94⟩ := Im.open_ H82 (i := 1) rfl
    have H95 : St W w77 (imi (0 < (tkR (remB bs (k % 8))).length) gA85 (.cells kA87 eA88 zA89) :: blk bk26 (.cells #[.slice pp83 ((tkR (remB bs (k % 8))).length) cc84] 83 (0, 0)) :: Im 1 (.slice pp83 ((tkR (remB bs (k % 8))).length) cc84) ((tkR (remB bs (k % 8))).length) ((tkR (remB bs (k % 8))).flatMap blc) :: Attrs (.slice pp72 ((tkV (remB bs (k % 8))).attrs.length) cc73) ((tkV (remB bs (k % 8))).attrs) :: Attrs (.slice pp59 ((tkV (remB bs (k % 8))).attrs.length) cc60) ((tkV (remB bs (k % 8))).attrs) :: Im 1 (.slice pp42 ((bitsOf bs).length) cc43) ((bitsOf bs).length) ((bitsOf bs).flatMap blc) :: SrcA bk23 bs q61 :: blk bk18 (.cells #[.int .i64 ((tkV (remB bs (k % 8))).src.v), .int .i64 ((tkV (remB bs (k % 8))).seq.v), .int .i64 ((tkV (remB bs (k % 8))).time.v), .string ((tkV (remB bs (k % 8))).typ.v), .slice pp72 ((tkV (remB bs (k % 8))).attrs.length) cc73] 33 (0, 0)) :: Attrs (.slice pp14 ((psV (remB bs 0)).attrs.length) cc15) ((psV (remB bs 0)).attrs) :: blk bk9 (.cells #[.int .i64 ((tkV (remB bs (k % 8))).src.v), .int .i64 ((tkV (remB bs (k % 8))).seq.v), .int .i64 ((tkV (remB bs (k % 8))).time.v), .string ((tkV (remB bs (k % 8))).typ.v), .slice pp59 ((tkV (remB bs (k % 8))).attrs.length) cc60] 33 (0, 0)) :: Attrs (.slice pp5 ((psV (remB bs 0)).attrs.length) cc6) ((psV (remB bs 0)).attrs) :: Im 1 (.slice pp1 bs.length cc2) bs.length (bs.flatMap u8c) :: F) := H94
    refine g_quiet (fun w' => St W w' (imi (0 < (tkR (remB bs (k % 8))).length) gA85 (.cells kA87 eA88 zA89) :: blk bk26 (.cells #[.slice pp83 ((tkR (remB bs (k % 8))).length) cc84] 83 (0, 0)) :: Im 1 (.slice pp83 ((tkR (remB bs (k % 8))).length) cc84) ((tkR (remB bs (k % 8))).length) ((tkR (remB bs (k % 8))).flatMap blc) :: Attrs (.slice pp72 ((tkV (remB bs (k % 8))).attrs.length) cc73) ((tkV (remB bs (k % 8))).attrs) :: Attrs (.slice pp59 ((tkV (remB bs (k % 8))).attrs.length) cc60) ((tkV (remB bs (k % 8))).attrs) :: Im 1 (.slice pp42 ((bitsOf bs).length) cc43) ((bitsOf bs).length) ((bitsOf bs).flatMap blc) :: SrcA bk23 bs q61 :: blk bk18 (.cells #[.int .i64 ((tkV (remB bs (k % 8))).src.v), .int .i64 ((tkV (remB bs (k % 8))).seq.v), .int .i64 ((tkV (remB bs (k % 8))).time.v), .string ((tkV (remB bs (k % 8))).typ.v), .slice pp72 ((tkV (remB bs (k % 8))).attrs.length) cc73] 33 (0, 0)) :: Attrs (.slice pp14 ((psV (remB bs 0)).attrs.length) cc15) ((psV (remB bs 0)).attrs) :: blk bk9 (.cells #[.int .i64 ((tkV (remB bs (k % 8))).src.v), .int .i64 ((tkV (remB bs (k % 8))).seq.v), .int .i64 ((tkV (remB bs (k % 8))).time.v), .string ((tkV (remB bs (k % 8))).typ.v), .slice pp59 ((tkV (remB bs (k % 8))).attrs.length) cc60] 33 (0, 0)) :: Attrs (.slice pp5 ((psV (remB bs 0)).attrs.length) cc6) ((psV (remB bs 0)).attrs) :: Im 1 (.slice pp1 bs.length cc2) bs.length (bs.flatMap u8c) :: F)) mixed (by kernel_rfl) H95.drew ?_
    refine q_cons (q_val rfl rfl rfl (by intro w hw; exact x_loadAgg [.int .i64 ((tkV (remB bs (k % 8))).src.v), .int .i64 ((tkV (remB bs (k % 8))).seq.v), .int .i64 ((tkV (remB bs (k % 8))).time.v), .string ((tkV (remB bs (k % 8))).typ.v), .slice pp59 ((tkV (remB bs (k % 8))).attrs.length) cc60] 5 ag_33 rfl (hw.blk_at (i := 9) rfl) (Nat.le_of_ble_eq_true rfl) rfl) ?_)
    refine q_cons (q_val rfl rfl rfl (by intro w hw; exact x_loadAgg [.int .i64 ((tkV (remB bs (k % 8))).src.v), .int .i64 ((tkV (remB bs (k % 8))).seq.v), .int .i64 ((tkV (remB bs (k % 8))).time.v), .string ((tkV (remB bs (k % 8))).typ.v), .slice pp72 ((tkV (remB bs (k % 8))).attrs.length) cc73] 5 ag_33 rfl (hw.blk_at (i := 7) rfl) (Nat.le_of_ble_eq_true rfl) rfl) ?_)
    refine q_cons (q_enter (args := #[.agg #[.int .i64 ((tkV (remB bs (k % 8))).src.v), .int .i64 ((tkV (remB bs (k % 8))).seq.v), .int .i64 ((tkV (remB bs (k % 8))).time.v), .string ((tkV (remB bs (k % 8))).typ.v), .slice pp59 ((tkV (remB bs (k % 8))).attrs.length) cc60], .agg #[.int .i64 ((tkV (remB bs (k % 8))).src.v), .int .i64 ((tkV (remB bs (k % 8))).seq.v), .int .i64 ((tkV (remB bs (k % 8))).time.v), .string ((tkV (remB bs (k % 8))).typ.v), .slice pp72 ((tkV (remB bs (k % 8))).attrs.length) cc73]]) (v := .bool (sameEv (tkV (remB bs (k % 8))) (tkV (remB bs (k % 8))))) rfl rfl rfl (x_call pl_20 [.agg #[.int .i64 ((tkV (remB bs (k % 8))).src.v), .int .i64 ((tkV (remB bs (k % 8))).seq.v), .int .i64 ((tkV (remB bs (k % 8))).time.v), .string ((tkV (remB bs (k % 8))).typ.v), .slice pp59 ((tkV (remB bs (k % 8))).attrs.length) cc60], .agg #[.int .i64 ((tkV (remB bs (k % 8))).src.v), .int .i64 ((tkV (remB bs (k % 8))).seq.v), .int .i64 ((tkV (remB bs (k % 8))).time.v), .string ((tkV (remB bs (k % 8))).typ.v), .slice pp72 ((tkV (remB bs (k % 8))).attrs.length) cc73]] rfl) (fun w hw => ref04_Same (tkV (remB bs (k % 8))) (tkV (remB bs (k % 8))) (.slice pp59 ((tkV (remB bs (k % 8))).attrs.length) cc60) (.slice pp72 ((tkV (remB bs (k % 8))).attrs.length) cc73) (j := 4) (k := 3) rfl rfl hw) ?_)
    refine q_cons (q_val rfl rfl rfl (by intro w hw; exact x_move (.bool (sameEv (tkV (remB bs (k % 8))) (tkV (remB bs (k % 8))))) rfl w) ?_)
    refine q_cons (q_take rfl (congrArg some hss76) ?_)
    refine q_val rfl rfl rfl (by intro w hw; exact x_move (.int .i64 (tkE (remB bs (k % 8)))) rfl w) ?_
    refine q_cons (q_take rfl (congrArg some hss76) ?_)
    refine q_val rfl rfl rfl (by intro w hw; exact x_move (.int .i64 (tkE (remB bs (k % 8)))) rfl w) ?_
    refine q_cons (q_take rfl (congrArg some hss76) ?_)
    refine q_val rfl rfl rfl (by intro w hw; exact x_eql true rfl rfl (dtrue rfl) w) ?_
    refine q_cons (q_val rfl rfl rfl (by intro w hw; exact x_pick_t (.bool true) (by exact congrArg Value.bool hss76) rfl w) ?_)
    refine q_cons (q_val rfl rfl rfl (by intro w hw; exact x_move (.bool true) rfl w) ?_)
    refine q_cons (q_take rfl rfl ?_)
    refine q_val rfl rfl rfl (by intro w hw; exact x_move (.pointer (some ⟨bk23, 0, none⟩)) rfl w) ?_
    refine q_cons (q_take rfl rfl ?_)
    refine q_enter (args := #[.pointer (some ⟨bk23, 0, none⟩)]) (v := .int .i64 ((remB bs q61).length : Int)) rfl rfl rfl (x_call pl_54 [.pointer (some ⟨bk23, 0, none⟩)] rfl) (fun w hw => Src_Left bk23 bs q61 (by first | omega | decide +kernel | (repeat (first | assumption | exact Nat.zero_le _ | refine natN_pos ?_ | refine srcN_pos ?_ | refine textN_pos ?_))) (by first | omega | decide +kernel)   (i := 6) rfl hw) ?_
    refine q_cons (q_take rfl rfl ?_)
    refine q_val rfl rfl rfl (by intro w hw; exact x_move (.pointer (some ⟨bk26, 0, none⟩)) rfl w) ?_
    refine q_cons (q_take rfl rfl ?_)
    refine q_val rfl rfl rfl (by intro w hw; exact x_nilCheck (.pointer (some ⟨bk26, 0, none⟩)) rfl ⟨_, rfl⟩ w) ?_
    refine q_cons (q_take rfl rfl ?_)
    refine q_val rfl rfl rfl (by intro w hw; exact x_fieldAddr 83 0 0 0 50 rfl fi_83_0 rfl w) ?_
    refine q_cons (q_take rfl rfl ?_)
    refine q_val rfl rfl rfl (by intro w hw; exact x_load (.slice pp83 ((tkR (remB bs (k % 8))).length) cc84) ag_50 rfl (hw.blk_at (i := 1) rfl) rfl) ?_
    refine q_cons (q_take rfl rfl ?_)
    refine q_val rfl rfl rfl (by intro w hw; exact x_len ((tkR (remB bs (k % 8))).length) rfl ⟨_, un_50⟩ w) ?_
    refine q_cons (q_take rfl rfl ?_)
    refine q_val rfl rfl rfl (by intro w hw; exact x_eql true rfl rfl (dtrue (by omega)) w) ?_
    refine q_cons (q_val rfl rfl rfl (by intro w hw; exact x_pick_t (.bool true) rfl rfl w) ?_)
    refine q_cons (q_val rfl rfl rfl (by intro w hw; exact x_assign (.bool true) rfl w) ?_)
    refine q_nil ?_
    intro w96 H97
    refine g_ret' [.bool true] Try.func8 Try.results8 ⟨rfl, trivial⟩ ?_
    have H98 : St W w96 (blk bk26 (.cells #[.slice pp83 ((tkR (remB bs (k % 8))).length) cc84] 83 (0, 0)) :: Im 1 (.slice pp83 ((tkR (remB bs (k % 8))).length) cc84) ((tkR (remB bs (k % 8))).length) ((tkR (remB bs (k % 8))).flatMap blc) :: Attrs (.slice pp72 ((tkV (remB bs (k % 8))).attrs.length) cc73) ((tkV (remB bs (k % 8))).attrs) :: Attrs (.slice pp59 ((tkV (remB bs (k % 8))).attrs.length) cc60) ((tkV (remB bs (k % 8))).attrs) :: Im 1 (.slice pp42 ((bitsOf bs).length) cc43) ((bitsOf bs).length) ((bitsOf bs).flatMap blc) :: SrcA bk23 bs q61 :: blk bk18 (.cells #[.int .i64 ((tkV (remB bs (k % 8))).src.v), .int .i64 ((tkV (remB bs (k % 8))).seq.v), .int .i64 ((tkV (remB bs (k % 8))).time.v), .string ((tkV (remB bs (k % 8))).typ.v), .slice pp72 ((tkV (remB bs (k % 8))).attrs.length) cc73] 33 (0, 0)) :: Attrs (.slice pp14 ((psV (remB bs 0)).attrs.length) cc15) ((psV (remB bs 0)).attrs) :: blk bk9 (.cells #[.int .i64 ((tkV (remB bs (k % 8))).src.v), .int .i64 ((tkV (remB bs (k % 8))).seq.v), .int .i64 ((tkV (remB bs (k % 8))).time.v), .string ((tkV (remB bs (k % 8))).typ.v), .slice pp59 ((tkV (remB bs (k % 8))).attrs.length) cc60] 33 (0, 0)) :: Attrs (.slice pp5 ((psV (remB bs 0)).attrs.length) cc6) ((psV (remB bs 0)).attrs) :: Im 1 (.slice pp1 bs.length cc2) bs.length (bs.flatMap u8c) :: F) := ((((((((((((H97.move 11 rfl).move 11 rfl).move 11 rfl).move 11 rfl).move 11 rfl).move 11 rfl).move 11 rfl).move 11 rfl).move 11 rfl).move 11 rfl).move 11 rfl).drop 11 rfl)
    have H99 : St W w96 (RSrc bk26 (tkR (remB bs (k % 8))) :: Attrs (.slice pp72 ((tkV (remB bs (k % 8))).attrs.length) cc73) ((tkV (remB bs (k % 8))).attrs) :: Attrs (.slice pp59 ((tkV (remB bs (k % 8))).attrs.length) cc60) ((tkV (remB bs (k % 8))).attrs) :: Im 1 (.slice pp42 ((bitsOf bs).length) cc43) ((bitsOf bs).length) ((bitsOf bs).flatMap blc) :: SrcA bk23 bs q61 :: blk bk18 (.cells #[.int .i64 ((tkV (remB bs (k % 8))).src.v), .int .i64 ((tkV (remB bs (k % 8))).seq.v), .int .i64 ((tkV (remB bs (k % 8))).time.v), .string ((tkV (remB bs (k % 8))).typ.v), .slice pp72 ((tkV (remB bs (k % 8))).attrs.length) cc73] 33 (0, 0)) :: Attrs (.slice pp14 ((psV (remB bs 0)).attrs.length) cc15) ((psV (remB bs 0)).attrs) :: blk bk9 (.cells #[.int .i64 ((tkV (remB bs (k % 8))).src.v), .int .i64 ((tkV (remB bs (k % 8))).seq.v), .int .i64 ((tkV (remB bs (k % 8))).time.v), .string ((tkV (remB bs (k % 8))).typ.v), .slice pp59 ((tkV (remB bs (k % 8))).attrs.length) cc60] 33 (0, 0)) :: Attrs (.slice pp5 ((psV (remB bs 0)).attrs.length) cc6) ((psV (remB bs 0)).attrs) :: Im 1 (.slice pp1 bs.length cc2) bs.length (bs.flatMap u8c) :: F) := St.shut_ex (.slice pp83 ((tkR (remB bs (k % 8))).length) cc84) (St.shut_star (ls := [blk bk26 (.cells #[.slice pp83 ((tkR (remB bs (k % 8))).length) cc84] 83 (0, 0)), Im 1 (.slice pp83 ((tkR (remB bs (k % 8))).length) cc84) ((tkR (remB bs (k % 8))).length) ((tkR (remB bs (k % 8))).flatMap blc)]) H98)
    have H100 : St W w96 F := ((((((((((H99.drop 0 rfl).drop 0 rfl).drop 0 rfl).drop 0 rfl).drop 0 rfl).drop 0 rfl).drop 0 rfl).drop 0 rfl).drop 0 rfl).drop 0 rfl)
    exact ⟨rfl, H100⟩
  · skip
    refine r_cons (s_neq true rfl rfl (nfalse hc36) rfl ?_)
    refine r_nil ?_
    refine g_true rfl ?_
    refine g_seq ?_
    refine g_region ?_
    refine r_cons (s_move (.int .i64 ((k % 8 : Nat) : Int)) rfl rfl ?_)
    refine r_cons (s_move (.slice pp1 bs.length cc2) rfl rfl ?_)
    refine r_cons (s_len bs.length rfl ⟨_, un_66⟩ rfl ?_)
    refine r_cons (s_mul (8 * (bs.length : Int)) rfl rfl (wi64 (by omega)) rfl ?_)
    have hgt : 8 * (bs.length : Int) < ((k % 8 : Nat) : Int) := Decidable.byContradiction fun hn => absurd (srcE_0 (R := remB bs 0) (n := ((k % 8 : Nat) : Int)) (by omega) (by rw [remB_len]; omega)) hc36
    refine r_cons (s_gtr true rfl rfl (dtrue hgt) rfl ?_)
    refine r_cons (s_assign (.bool true) rfl rfl ?_)
    refine r_nil ?_
    refine g_ret' [.bool true] Try.func8 Try.results8 ⟨rfl, trivial⟩ ?_
    have H101 : St W w34 F := (((((((H35.drop 0 rfl).drop 0 rfl).drop 0 rfl).drop 0 rfl).drop 0 rfl).drop 0 rfl).drop 0 rfl)
    exact ⟨rfl, H101⟩
end Sl
