/- Walks of the program's functions. Printed by a program of this claim's author. No condition. -/
import Derived.Test.YtcomkhcpifcgmaaSlQ
import Derived.Test.YtcomkhcpifcgmaaSlH
import Derived.Test.YtcomkhcpifcgmaaSlP
import Derived.Test.YtcomkhcpifcgmaaSlAD
import Derived.Test.YtcomkhcpifcgmaaProg
import Derived.Test.YtcomkhcpifcgmaaWalkFrameSealed3
namespace Sl
open _root_.Go _root_.Go.RowKit _root_.Go.Proofs
set_option linter.all false
set_option maxHeartbeats 4000000 in
set_option maxRecDepth 100000 in
theorem ref02_read {W w : World} {F : List Atom} (b : Nat) (R : List Bool) {i : Nat} (hi : F[i]? = some (RSrc b R)) (H : St W w F) : Calls Try.prog 34 #[.pointer (some ⟨b, 0, none⟩)] w (Ret fun v w' => (rdE R = 0 ∧ ∃ q n c, v = .tuple #[.agg #[.int .i64 ((frW R).frm.v), .int .i64 ((frW R).to_.v), .int .i64 ((frW R).kind.v), .int .i64 ((frW R).seq.v), .int .i64 ((frW R).ack.v), .slice q n c], .int .i64 0] ∧ n = (frW R).body.length ∧ St W w' (Row 5 1 (.slice q n c) n ((frW R).body.flatMap u8c) :: F.set i (RSrc b (frEnd R)))) ∨ (¬ rdE R = 0 ∧ ∃ x1 x2 x3 x4 x5 q n c, v = .tuple #[.agg #[.int .i64 x1, .int .i64 x2, .int .i64 x3, .int .i64 x4, .int .i64 x5, .slice q n c], .int .i64 (rdE R)] ∧ ∃ R', St W w' (F.set i (RSrc b R')))) := by
  have H0 := H.front hi
  refine calls_of_go (n := 116) Try.func34 rfl Try.ntmps34 rfl ?_
  refine g_seq ?_
  refine g_region ?_
  refine r_cons (s_alloc H0 24 ze_24 rfl ?_); intro bk1 w2 H3
  refine r_cons (s_assign (.int .i64 0) rfl rfl ?_)
  refine r_nil ?_
  refine g_seq ?_
  refine g_region ?_
  refine r_cons (s_alloc H3 24 ze_24 rfl ?_); intro bk4 w5 H6
  refine r_nil ?_
  refine g_seq ?_
  refine g_region ?_
  refine r_cons (s_move (.pointer (some ⟨b, 0, none⟩)) rfl rfl ?_)
  refine r_cons (s_call [.pointer (some ⟨b, 0, none⟩), .int .i64 2] pl_48 rfl rfl (RSrc_Bits b R 2  (i := 2) rfl H6) ?_)
  rintro _ w7 ⟨rfl, H8⟩
  refine r_cons (s_move (.tuple #[.int .u64 (srcU R 2 : Int), .int .i64 (srcE R 2)]) rfl rfl ?_)
  refine r_cons (s_extract (.int .u64 (srcU R 2 : Int)) #[.int .u64 (srcU R 2 : Int), .int .i64 (srcE R 2)] rfl rfl rfl ?_)
  refine r_cons (s_extract (.int .i64 (srcE R 2)) #[.int .u64 (srcU R 2 : Int), .int .i64 (srcE R 2)] rfl rfl rfl ?_)
  refine r_cons (s_assign (.int .u64 (srcU R 2 : Int)) rfl rfl ?_)
  refine r_cons (s_assign (.int .i64 (srcE R 2)) rfl rfl ?_)
  refine r_nil ?_
  refine g_seq ?_
  refine g_seq ?_
  refine g_region ?_
  refine r_cons (s_move (.int .i64 (srcE R 2)) rfl rfl ?_)
  by_cases hc9 : srcE R 2 = 0
  · skip
    refine r_cons (s_neq false rfl rfl (ntrue hc9) rfl ?_)
    refine r_nil ?_
    refine g_false rfl ?_
    refine g_skip ?_
    refine g_seq ?_
    refine g_seq ?_
    refine g_region ?_
    refine r_cons (s_move (.int .u64 (srcU R 2 : Int)) rfl rfl ?_)
    by_cases hc10 : (srcU R 2 : Int) = 1
    · skip
      refine r_cons (s_neq false rfl rfl (ntrue hc10) rfl ?_)
      refine r_cons (s_move (.bool false) rfl rfl ?_)
      refine r_cons (r_pass rfl rfl rfl rfl rfl ?_)
      refine r_cons (r_pass rfl rfl rfl rfl rfl ?_)
      refine r_cons (s_pick_f (.bool false) rfl rfl rfl ?_)
      refine r_nil ?_
      refine g_false rfl ?_
      refine g_skip ?_
      refine g_seq ?_
      refine g_region ?_
      refine r_cons (s_move (.int .u64 (srcU R 2 : Int)) rfl rfl ?_)
      have hk4 : srcU R 2 < 4 := srcU_lt_pow (k := 2)
      refine r_cons (s_conv (srcU R 2 : Int) rfl us_54 ik_3 (wi64 (by omega)) rfl ?_)
      refine r_cons (s_fieldAddr 24 2 2 2 3 rfl fi_24_2 rfl rfl ?_)
      refine r_cons (s_store H8 0 (.int .i64 (srcU R 2 : Int)) rfl rfl rfl sz_3 rfl (Nat.le_of_ble_eq_true rfl) rfl (cs' := #[.int .i64 0, .int .i64 0, .int .i64 (srcU R 2 : Int), .int .i64 0, .int .i64 0, .slice none 0 0]) rfl ?_); intro w11 H12
      refine r_nil ?_
      refine g_seq ?_
      refine g_region ?_
      refine r_cons (s_move (.pointer (some ⟨b, 0, none⟩)) rfl rfl ?_)
      have H13 : St W w11 (blk bk4 (.cells #[.int .i64 0, .int .i64 0, .int .i64 (srcU R 2 : Int), .int .i64 0, .int .i64 0, .slice none 0 0] 24 (0, 0)) :: blk bk1 (.cells #[.int .i64 0, .int .i64 0, .int .i64 0, .int .i64 0, .int .i64 0, .slice none 0 0] 24 (0, 0)) :: RSrc b (fr1 R) :: (F.set i emp)) := H12
      refine r_cons (s_call [.pointer (some ⟨b, 0, none⟩), .int .i64 8] pl_48 rfl rfl (RSrc_Bits b (fr1 R) 8  (i := 2) rfl H13) ?_)
      rintro _ w14 ⟨rfl, H15⟩
      refine r_cons (s_move (.tuple #[.int .u64 (srcU (fr1 R) 8 : Int), .int .i64 (srcE (fr1 R) 8)]) rfl rfl ?_)
      refine r_cons (s_extract (.int .u64 (srcU (fr1 R) 8 : Int)) #[.int .u64 (srcU (fr1 R) 8 : Int), .int .i64 (srcE (fr1 R) 8)] rfl rfl rfl ?_)
      refine r_cons (s_extract (.int .i64 (srcE (fr1 R) 8)) #[.int .u64 (srcU (fr1 R) 8 : Int), .int .i64 (srcE (fr1 R) 8)] rfl rfl rfl ?_)
      refine r_cons (s_assign (.int .u64 (srcU (fr1 R) 8 : Int)) rfl rfl ?_)
      refine r_cons (s_assign (.int .i64 (srcE (fr1 R) 8)) rfl rfl ?_)
      refine r_nil ?_
      refine g_seq ?_
      refine g_seq ?_
      refine g_region ?_
      refine r_cons (s_move (.int .i64 (srcE (fr1 R) 8)) rfl rfl ?_)
      by_cases hc16 : srcE (fr1 R) 8 = 0
      · skip
        refine r_cons (s_neq false rfl rfl (ntrue hc16) rfl ?_)
        refine r_nil ?_
        refine g_false rfl ?_
        refine g_skip ?_
        refine g_seq ?_
        refine g_region ?_
        have hb8 := bits8_ok (R := fr1 R) hc16
        have hb3 : (fr1 R).drop (srcN (fr1 R) 8) = fr3 R := hb8.2.2.1
        have hb4 : srcU (fr1 R) 8 / 16 = srcU (fr1 R) 4 := hb8.2.2.2.1
        have hb5 : srcU (fr1 R) 8 % 16 = srcU (fr2 R) 4 := hb8.2.2.2.2
        have hl8 : srcU (fr1 R) 8 < 256 := srcU_lt_pow (k := 8)
        have hl4 : srcU (fr1 R) 4 < 16 := srcU_lt_pow (k := 4)
        have hl5 : srcU (fr2 R) 4 < 16 := srcU_lt_pow (k := 4)
        refine r_cons (s_move (.int .u64 (srcU (fr1 R) 8 : Int)) rfl rfl ?_)
        refine r_cons (s_quo ((srcU (fr1 R) 4 : Nat) : Int) rfl rfl (by omega) (by rw [tdiv_pos (by omega)]; exact (wu64 (by omega)).trans (by omega)) rfl ?_)
        refine r_cons (s_conv ((srcU (fr1 R) 4 : Nat) : Int) rfl us_54 ik_3 (wi64 (by omega)) rfl ?_)
        refine r_cons (s_fieldAddr 24 0 0 0 3 rfl fi_24_0 rfl rfl ?_)
        refine r_cons (s_store H15 0 (.int .i64 ((srcU (fr1 R) 4 : Nat) : Int)) rfl rfl rfl sz_3 rfl (Nat.le_of_ble_eq_true rfl) rfl (cs' := #[.int .i64 ((srcU (fr1 R) 4 : Nat) : Int), .int .i64 0, .int .i64 (srcU R 2 : Int), .int .i64 0, .int .i64 0, .slice none 0 0]) rfl ?_); intro w17 H18
        refine r_nil ?_
        refine g_seq ?_
        refine g_region ?_
        refine r_cons (s_move (.int .u64 (srcU (fr1 R) 8 : Int)) rfl rfl ?_)
        refine r_cons (s_rem ((srcU (fr2 R) 4 : Nat) : Int) rfl rfl (by omega) (by rw [tmod_pos (by omega)]; omega) rfl ?_)
        refine r_cons (s_conv ((srcU (fr2 R) 4 : Nat) : Int) rfl us_54 ik_3 (wi64 (by omega)) rfl ?_)
        refine r_cons (s_fieldAddr 24 1 1 1 3 rfl fi_24_1 rfl rfl ?_)
        refine r_cons (s_store H18 0 (.int .i64 ((srcU (fr2 R) 4 : Nat) : Int)) rfl rfl rfl sz_3 rfl (Nat.le_of_ble_eq_true rfl) rfl (cs' := #[.int .i64 ((srcU (fr1 R) 4 : Nat) : Int), .int .i64 ((srcU (fr2 R) 4 : Nat) : Int), .int .i64 (srcU R 2 : Int), .int .i64 0, .int .i64 0, .slice none 0 0]) rfl ?_); intro w19 H20
        refine r_nil ?_
        refine g_seq ?_
        refine g_region ?_
        refine r_cons (s_move (.pointer (some ⟨b, 0, none⟩)) rfl rfl ?_)
        have H21 : St W w19 (blk bk4 (.cells #[.int .i64 ((srcU (fr1 R) 4 : Nat) : Int), .int .i64 ((srcU (fr2 R) 4 : Nat) : Int), .int .i64 (srcU R 2 : Int), .int .i64 0, .int .i64 0, .slice none 0 0] 24 (0, 0)) :: blk bk1 (.cells #[.int .i64 0, .int .i64 0, .int .i64 0, .int .i64 0, .int .i64 0, .slice none 0 0] 24 (0, 0)) :: RSrc b (fr3 R) :: (F.set i emp)) := by rw [← hb3]; exact H20
        refine r_cons (s_call [.pointer (some ⟨b, 0, none⟩)] pl_49 rfl rfl (RSrc_Nat b (fr3 R)   (i := 2) rfl H21) ?_)
        rintro _ w22 ⟨rfl, H23⟩
        refine r_cons (s_move (.tuple #[.int .u64 (natU (fr3 R) : Int), .int .i64 (natE (fr3 R))]) rfl rfl ?_)
        refine r_cons (s_extract (.int .u64 (natU (fr3 R) : Int)) #[.int .u64 (natU (fr3 R) : Int), .int .i64 (natE (fr3 R))] rfl rfl rfl ?_)
        refine r_cons (s_extract (.int .i64 (natE (fr3 R))) #[.int .u64 (natU (fr3 R) : Int), .int .i64 (natE (fr3 R))] rfl rfl rfl ?_)
        refine r_cons (s_assign (.int .u64 (natU (fr3 R) : Int)) rfl rfl ?_)
        refine r_cons (s_assign (.int .i64 (natE (fr3 R))) rfl rfl ?_)
        refine r_nil ?_
        refine g_seq ?_
        refine g_seq ?_
        refine g_region ?_
        refine r_cons (s_move (.int .i64 (natE (fr3 R))) rfl rfl ?_)
        by_cases hc24 : natE (fr3 R) = 0
        · skip
          refine r_cons (s_neq false rfl rfl (ntrue hc24) rfl ?_)
          refine r_cons (s_move (.bool false) rfl rfl ?_)
          refine r_cons (r_take rfl rfl ?_)
          refine s_fieldAddr 24 2 2 2 3 rfl fi_24_2 rfl rfl ?_
          refine r_cons (r_take rfl rfl ?_)
          refine s_load (.int .i64 (srcU R 2 : Int)) ag_3 rfl (H23.blk_at (i := 0) rfl) rfl rfl ?_
          refine r_cons (r_take rfl rfl ?_)
          refine s_eql false rfl rfl (dfalse (by omega)) rfl ?_
          refine r_cons (s_pick_f (.bool false) rfl rfl rfl ?_)
          refine r_nil ?_
          refine g_false rfl ?_
          refine g_skip ?_
          refine g_seq ?_
          refine g_region ?_
          refine r_cons (s_move (.int .u64 (natU (fr3 R) : Int)) rfl rfl ?_)
          refine r_cons (s_conv (s64 (natU (fr3 R))) rfl us_54 ik_2 (rfl) rfl ?_)
          refine r_cons (s_fieldAddr 24 4 4 4 2 rfl fi_24_4 rfl rfl ?_)
          refine r_cons (s_store H23 0 (.int .i64 (s64 (natU (fr3 R)))) rfl rfl rfl sz_2 rfl (Nat.le_of_ble_eq_true rfl) rfl (cs' := #[.int .i64 ((srcU (fr1 R) 4 : Nat) : Int), .int .i64 ((srcU (fr2 R) 4 : Nat) : Int), .int .i64 (srcU R 2 : Int), .int .i64 0, .int .i64 (s64 (natU (fr3 R))), .slice none 0 0]) rfl ?_); intro w25 H26
          refine r_nil ?_
          refine g_seq ?_
          refine g_region ?_
          refine r_cons (s_move (.pointer (some ⟨b, 0, none⟩)) rfl rfl ?_)
          have H27 : St W w25 (blk bk4 (.cells #[.int .i64 ((srcU (fr1 R) 4 : Nat) : Int), .int .i64 ((srcU (fr2 R) 4 : Nat) : Int), .int .i64 (srcU R 2 : Int), .int .i64 0, .int .i64 (s64 (natU (fr3 R))), .slice none 0 0] 24 (0, 0)) :: blk bk1 (.cells #[.int .i64 0, .int .i64 0, .int .i64 0, .int .i64 0, .int .i64 0, .slice none 0 0] 24 (0, 0)) :: RSrc b (fr4 R) :: (F.set i emp)) := H26
          refine r_cons (s_call [.pointer (some ⟨b, 0, none⟩)] pl_49 rfl rfl (RSrc_Nat b (fr4 R)   (i := 2) rfl H27) ?_)
          rintro _ w28 ⟨rfl, H29⟩
          refine r_cons (s_move (.tuple #[.int .u64 (natU (fr4 R) : Int), .int .i64 (natE (fr4 R))]) rfl rfl ?_)
          refine r_cons (s_extract (.int .u64 (natU (fr4 R) : Int)) #[.int .u64 (natU (fr4 R) : Int), .int .i64 (natE (fr4 R))] rfl rfl rfl ?_)
          refine r_cons (s_extract (.int .i64 (natE (fr4 R))) #[.int .u64 (natU (fr4 R) : Int), .int .i64 (natE (fr4 R))] rfl rfl rfl ?_)
          refine r_cons (s_assign (.int .u64 (natU (fr4 R) : Int)) rfl rfl ?_)
          refine r_cons (s_assign (.int .i64 (natE (fr4 R))) rfl rfl ?_)
          refine r_nil ?_
          refine g_seq ?_
          refine g_seq ?_
          refine g_region ?_
          refine r_cons (s_move (.int .i64 (natE (fr4 R))) rfl rfl ?_)
          by_cases hc30 : natE (fr4 R) = 0
          · skip
            refine r_cons (s_neq false rfl rfl (ntrue hc30) rfl ?_)
            refine r_nil ?_
            refine g_false rfl ?_
            refine g_skip ?_
            refine g_seq ?_
            refine g_region ?_
            refine r_cons (s_move (.int .u64 (natU (fr4 R) : Int)) rfl rfl ?_)
            refine r_cons (s_conv (s64 (natU (fr4 R))) rfl us_54 ik_2 (rfl) rfl ?_)
            refine r_cons (s_fieldAddr 24 3 3 3 2 rfl fi_24_3 rfl rfl ?_)
            refine r_cons (s_store H29 0 (.int .i64 (s64 (natU (fr4 R)))) rfl rfl rfl sz_2 rfl (Nat.le_of_ble_eq_true rfl) rfl (cs' := #[.int .i64 ((srcU (fr1 R) 4 : Nat) : Int), .int .i64 ((srcU (fr2 R) 4 : Nat) : Int), .int .i64 (srcU R 2 : Int), .int .i64 (s64 (natU (fr4 R))), .int .i64 (s64 (natU (fr3 R))), .slice none 0 0]) rfl ?_); intro w31 H32
            refine r_nil ?_
            refine g_seq ?_
            refine g_region ?_
            refine r_cons (s_move (.pointer (some ⟨b, 0, none⟩)) rfl rfl ?_)
            have H33 : St W w31 (blk bk4 (.cells #[.int .i64 ((srcU (fr1 R) 4 : Nat) : Int), .int .i64 ((srcU (fr2 R) 4 : Nat) : Int), .int .i64 (srcU R 2 : Int), .int .i64 (s64 (natU (fr4 R))), .int .i64 (s64 (natU (fr3 R))), .slice none 0 0] 24 (0, 0)) :: blk bk1 (.cells #[.int .i64 0, .int .i64 0, .int .i64 0, .int .i64 0, .int .i64 0, .slice none 0 0] 24 (0, 0)) :: RSrc b (fr5 R) :: (F.set i emp)) := H32
            refine r_cons (s_call [.pointer (some ⟨b, 0, none⟩)] pl_49 rfl rfl (RSrc_Nat b (fr5 R)   (i := 2) rfl H33) ?_)
            rintro _ w34 ⟨rfl, H35⟩
            refine r_cons (s_move (.tuple #[.int .u64 (natU (fr5 R) : Int), .int .i64 (natE (fr5 R))]) rfl rfl ?_)
            refine r_cons (s_extract (.int .u64 (natU (fr5 R) : Int)) #[.int .u64 (natU (fr5 R) : Int), .int .i64 (natE (fr5 R))] rfl rfl rfl ?_)
            refine r_cons (s_extract (.int .i64 (natE (fr5 R))) #[.int .u64 (natU (fr5 R) : Int), .int .i64 (natE (fr5 R))] rfl rfl rfl ?_)
            refine r_cons (s_assign (.int .u64 (natU (fr5 R) : Int)) rfl rfl ?_)
            refine r_cons (s_assign (.int .i64 (natE (fr5 R))) rfl rfl ?_)
            refine r_nil ?_
            refine g_seq ?_
            refine g_seq ?_
            refine g_region ?_
            refine r_cons (s_move (.int .i64 (natE (fr5 R))) rfl rfl ?_)
            by_cases hc36 : natE (fr5 R) = 0
            · skip
              refine r_cons (s_neq false rfl rfl (ntrue hc36) rfl ?_)
              refine r_nil ?_
              refine g_false rfl ?_
              refine g_skip ?_
              refine g_seq ?_
              refine g_seq ?_
              refine g_region ?_
              refine r_cons (s_move (.int .u64 (natU (fr5 R) : Int)) rfl rfl ?_)
              by_cases hc37 : (16384 : Int) < (natU (fr5 R) : Int)
              · skip
                refine r_cons (s_gtr true rfl rfl (dtrue hc37) rfl ?_)
                refine r_nil ?_
                refine g_true rfl ?_
                refine g_seq ?_
                refine g_region ?_
                refine r_cons (s_loadAgg [.int .i64 ((srcU (fr1 R) 4 : Nat) : Int), .int .i64 ((srcU (fr2 R) 4 : Nat) : Int), .int .i64 (srcU R 2 : Int), .int .i64 (s64 (natU (fr4 R))), .int .i64 (s64 (natU (fr3 R))), .slice none 0 0] 6 ag_24 rfl (H35.blk_at (i := 0) rfl) (Nat.le_of_ble_eq_true rfl) rfl rfl ?_)
                refine r_cons (s_storeAgg H35 1 #[.int .i64 ((srcU (fr1 R) 4 : Nat) : Int), .int .i64 ((srcU (fr2 R) 4 : Nat) : Int), .int .i64 (srcU R 2 : Int), .int .i64 (s64 (natU (fr4 R))), .int .i64 (s64 (natU (fr3 R))), .slice none 0 0] 6 rfl rfl rfl sz_24 rfl (by simp [Value.oneCell']) (Nat.le_of_ble_eq_true rfl) (fun o h1 h2 => by first | (simp; done) | (simp; omega)) (cs' := #[.int .i64 ((srcU (fr1 R) 4 : Nat) : Int), .int .i64 ((srcU (fr2 R) 4 : Nat) : Int), .int .i64 (srcU R 2 : Int), .int .i64 (s64 (natU (fr4 R))), .int .i64 (s64 (natU (fr3 R))), .slice none 0 0]) rfl ?_); intro w38 H39
                refine r_cons (s_assign (.int .i64 21) rfl rfl ?_)
                refine r_nil ?_
                refine g_ret' [.agg #[.int .i64 ((srcU (fr1 R) 4 : Nat) : Int), .int .i64 ((srcU (fr2 R) 4 : Nat) : Int), .int .i64 (srcU R 2 : Int), .int .i64 (s64 (natU (fr4 R))), .int .i64 (s64 (natU (fr3 R))), .slice none 0 0], .int .i64 21] Try.func34 Try.results34 ⟨(res_cellN rfl ag_24 (H39.blk_at (i := 1) rfl) (Nat.le_of_ble_eq_true rfl) rfl), rfl, trivial⟩ ?_
                have H40 : St W w38 (RSrc b ((fr5 R).drop (natN (fr5 R))) :: (F.set i emp)) := (((H39.move 2 rfl).drop 1 rfl).drop 1 rfl)
                have hr : rdE R = 21 := (rdE_g hc9 (show srcU R 2 = 1 by omega) hb8.1 hb8.2.1 hc24 hc30).trans (bodyE_21 hc36 (by omega))
                exact .inr ⟨by rw [hr]; exact by decide, _, _, _, _, _, _, _, _, (congrArg (fun z_ => Value.tuple #[.agg #[.int .i64 ((srcU (fr1 R) 4 : Nat) : Int), .int .i64 ((srcU (fr2 R) 4 : Nat) : Int), .int .i64 (srcU R 2 : Int), .int .i64 (s64 (natU (fr4 R))), .int .i64 (s64 (natU (fr3 R))), .slice none 0 0], Value.int .i64 z_]) hr.symm), _, St.back hi H40⟩
              · skip
                refine r_cons (s_gtr false rfl rfl (dfalse hc37) rfl ?_)
                refine r_nil ?_
                refine g_false rfl ?_
                refine g_skip ?_
                refine g_seq ?_
                refine g_seq ?_
                refine g_region ?_
                refine r_cons (s_assign (.int .u64 0) rfl rfl ?_)
                refine r_nil ?_
                refine g_block ?_
                have hnE : natE (fr5 R) = 0 := hc36
                have H41 := Row.nil_intro H35 5 1
                have H42 : St W w34 (Row 5 1 (.slice none 0 0) 0 [] :: blk bk4 (.cells #[.int .i64 ((srcU (fr1 R) 4 : Nat) : Int), .int .i64 ((srcU (fr2 R) 4 : Nat) : Int), .int .i64 (srcU R 2 : Int), .int .i64 (s64 (natU (fr4 R))), .int .i64 (s64 (natU (fr3 R))), .slice none 0 0] 24 (0, 0)) :: blk bk1 (.cells #[.int .i64 0, .int .i64 0, .int .i64 0, .int .i64 0, .int .i64 0, .slice none 0 0] 24 (0, 0)) :: RSrc b ((fr5 R).drop (natN (fr5 R))) :: (F.set i emp)) := ((((H41.move 3 rfl).move 3 rfl).move 3 rfl).move 3 rfl)
                have H43 : St W w34 (Row 5 1 (.slice none 0 0) 0 (((List.range 0).map (byteT (fr5 R))).flatMap u8c) :: blk bk4 (.cells #[.int .i64 ((srcU (fr1 R) 4 : Nat) : Int), .int .i64 ((srcU (fr2 R) 4 : Nat) : Int), .int .i64 (srcU R 2 : Int), .int .i64 (s64 (natU (fr4 R))), .int .i64 (s64 (natU (fr3 R))), .slice none 0 0] 24 (0, 0)) :: blk bk1 (.cells #[.int .i64 0, .int .i64 0, .int .i64 0, .int .i64 0, .int .i64 0, .slice none 0 0] 24 (0, 0)) :: RSrc b ((fr5 R).drop (natN (fr5 R) + 8 * 0)) :: (F.set i emp)) := by rw [Nat.mul_zero, Nat.add_zero, List.range_zero, List.map_nil, List.flatMap_nil]; exact H42
                refine g_loop_inv (fun (x_ : Nat × (Option Addr) × Nat) => match x_ with | (j, pq, cq) => [(0, .pointer (some ⟨b, 0, none⟩)), (2, .pointer (some ⟨bk1, 0, none⟩)), (3, .int .i64 0), (4, .pointer (some ⟨bk4, 0, none⟩)), (10, .int .u64 (natU (fr5 R) : Int)), (11, .int .u64 (j : Int))]) (fun (x_ : Nat × (Option Addr) × Nat) w => match x_ with | (j, pq, cq) => (j ≤ natU (fr5 R)) ∧ (natN (fr5 R) + 8 * j ≤ (fr5 R).length) ∧ St W w (Row 5 1 (.slice pq j cq) j (((List.range j).map (byteT (fr5 R))).flatMap u8c) :: blk bk4 (.cells #[.int .i64 ((srcU (fr1 R) 4 : Nat) : Int), .int .i64 ((srcU (fr2 R) 4 : Nat) : Int), .int .i64 (srcU R 2 : Int), .int .i64 (s64 (natU (fr4 R))), .int .i64 (s64 (natU (fr3 R))), .slice pq j cq] 24 (0, 0)) :: blk bk1 (.cells #[.int .i64 0, .int .i64 0, .int .i64 0, .int .i64 0, .int .i64 0, .slice none 0 0] 24 (0, 0)) :: RSrc b ((fr5 R).drop (natN (fr5 R) + 8 * j)) :: (F.set i emp))) (fun (x_ : Nat × (Option Addr) × Nat) => match x_ with | (j, pq, cq) => natU (fr5 R) - j) (0, none, 0) ?_ ?_ ?_
                · exact ⟨by first | rfl | exact vint (by omega), by first | rfl | exact vint (by omega), by first | rfl | exact vint (by omega), by first | rfl | exact vint (by omega), by first | rfl | exact vint (by omega), by first | rfl | exact vint (by omega), trivial⟩
                · exact ⟨(by omega), (by have hq_ := natN_le (fr5 R); omega), H43⟩
                · rintro ⟨j, pq, cq⟩ ρ44 w45 ⟨hj, hlen, H46⟩ nx47
                  change Ends _ _ (upds ρ44 [(0, .pointer (some ⟨b, 0, none⟩)), (2, .pointer (some ⟨bk1, 0, none⟩)), (3, .int .i64 0), (4, .pointer (some ⟨bk4, 0, none⟩)), (10, .int .u64 (natU (fr5 R) : Int)), (11, .int .u64 (j : Int))]) w45
                  refine g_seq ?_
                  refine g_seq ?_
                  refine g_region ?_
                  refine r_cons (s_move (.int .u64 (j : Int)) rfl rfl ?_)
                  refine r_cons (s_move (.int .u64 (natU (fr5 R) : Int)) rfl rfl ?_)
                  by_cases hc48 : (j : Int) < (natU (fr5 R) : Int)
                  · skip
                    refine r_cons (s_lss true rfl rfl (dtrue hc48) rfl ?_)
                    refine r_nil ?_
                    refine g_true rfl ?_
                    refine g_skip ?_
                    refine g_seq ?_
                    refine g_block ?_
                    refine g_seq ?_
                    refine g_region ?_
                    refine r_cons (s_move (.pointer (some ⟨b, 0, none⟩)) rfl rfl ?_)
                    refine r_cons (s_call [.pointer (some ⟨b, 0, none⟩), .int .i64 8] pl_48 rfl rfl (RSrc_Bits b ((fr5 R).drop (natN (fr5 R) + 8 * j)) 8  (i := 3) rfl H46) ?_)
                    rintro _ w49 ⟨rfl, H50⟩
                    refine r_cons (s_move (.tuple #[.int .u64 (srcU ((fr5 R).drop (natN (fr5 R) + 8 * j)) 8 : Int), .int .i64 (srcE ((fr5 R).drop (natN (fr5 R) + 8 * j)) 8)]) rfl rfl ?_)
                    refine r_cons (s_extract (.int .u64 (srcU ((fr5 R).drop (natN (fr5 R) + 8 * j)) 8 : Int)) #[.int .u64 (srcU ((fr5 R).drop (natN (fr5 R) + 8 * j)) 8 : Int), .int .i64 (srcE ((fr5 R).drop (natN (fr5 R) + 8 * j)) 8)] rfl rfl rfl ?_)
                    refine r_cons (s_extract (.int .i64 (srcE ((fr5 R).drop (natN (fr5 R) + 8 * j)) 8)) #[.int .u64 (srcU ((fr5 R).drop (natN (fr5 R) + 8 * j)) 8 : Int), .int .i64 (srcE ((fr5 R).drop (natN (fr5 R) + 8 * j)) 8)] rfl rfl rfl ?_)
                    refine r_cons (s_assign (.int .u64 (srcU ((fr5 R).drop (natN (fr5 R) + 8 * j)) 8 : Int)) rfl rfl ?_)
                    refine r_cons (s_assign (.int .i64 (srcE ((fr5 R).drop (natN (fr5 R) + 8 * j)) 8)) rfl rfl ?_)
                    refine r_nil ?_
                    refine g_seq ?_
                    refine g_seq ?_
                    refine g_region ?_
                    refine r_cons (s_move (.int .i64 (srcE ((fr5 R).drop (natN (fr5 R) + 8 * j)) 8)) rfl rfl ?_)
                    by_cases hc51 : srcE ((fr5 R).drop (natN (fr5 R) + 8 * j)) 8 = 0
                    · skip
                      refine r_cons (s_neq false rfl rfl (ntrue hc51) rfl ?_)
                      refine r_nil ?_
                      refine g_false rfl ?_
                      refine g_skip ?_
                      refine g_region ?_
                      have hE8 : srcE ((fr5 R).drop (natN (fr5 R) + 8 * j)) 8 = 0 := hc51
                      have hN8 : srcN ((fr5 R).drop (natN (fr5 R) + 8 * j)) 8 = 8 := srcN_0 hE8
                      have hU8 : srcU ((fr5 R).drop (natN (fr5 R) + 8 * j)) 8 < 256 := srcU_lt_pow (k := 8)
                      have hL8 := (srcE_is hE8).2.2
                      rw [List.length_drop] at hL8
                      have hB8 : byteT (fr5 R) j = UInt8.ofNat (srcU ((fr5 R).drop (natN (fr5 R) + 8 * j)) 8) := by unfold byteT; rw [srcU_0 hE8]; rfl
                      have hcell : Value.int .u8 (srcU ((fr5 R).drop (natN (fr5 R) + 8 * j)) 8 : Int) = .int .u8 ((byteT (fr5 R) j).toNat : Int) := by rw [hB8, u8_nat hU8]
                      refine r_cons (s_fieldAddr 24 5 5 5 22 rfl fi_24_5 rfl rfl ?_)
                      refine r_cons (s_load (.slice pq j cq) ag_22 rfl (H50.blk_at (i := 1) rfl) rfl rfl ?_)
                      refine r_cons (s_move (.int .u64 (srcU ((fr5 R).drop (natN (fr5 R) + 8 * j)) 8 : Int)) rfl rfl ?_)
                      refine r_cons (s_conv (srcU ((fr5 R).drop (natN (fr5 R) + 8 * j)) 8 : Int) rfl us_54 ik_5 (wu8 (by omega)) rfl ?_)
                      refine r_cons (s_buildSlice H50 1 1 (cs := #[.int .u8 (srcU ((fr5 R).drop (natN (fr5 R) + 8 * j)) 8 : Int)]) #[.int .u8 0] el_22 ze_5 (by decide) (by decide) (by kernel_rfl) rfl ?_); intro bk52 w53 H54
                      refine r_cons (s_append H54 1 rfl rfl rfl (rd_blk (H54.blk_at (i := 0) rfl) rfl (Nat.le_of_ble_eq_true rfl) (by simp [Value.oneCell'])) ap_22 (by decide) (by unfold maxLen; omega) (by omega) (n' := j + 1) (xs' := ((List.range (j + 1)).map (byteT (fr5 R))).flatMap u8c) (by omega) (row_snoc hcell) rfl ?_); intro vv55 w56 H57 hn58
                      obtain ⟨pp59, cc60, rfl⟩ := Row.slice H57 (i := 1) rfl
                      refine r_cons (s_fieldAddr 24 5 5 5 22 rfl fi_24_5 rfl rfl ?_)
                      refine r_cons (s_store H57 2 (.slice pp59 (j + 1) cc60) rfl rfl rfl sz_22 rfl (Nat.le_of_ble_eq_true rfl) rfl (cs' := #[.int .i64 ((srcU (fr1 R) 4 : Nat) : Int), .int .i64 ((srcU (fr2 R) 4 : Nat) : Int), .int .i64 (srcU R 2 : Int), .int .i64 (s64 (natU (fr4 R))), .int .i64 (s64 (natU (fr3 R))), .slice pp59 (j + 1) cc60]) rfl ?_); intro w61 H62
                      refine r_nil ?_
                      refine g_inBlock ?_
                      refine g_region ?_
                      refine r_cons (s_move (.int .u64 (j : Int)) rfl rfl ?_)
                      refine r_cons (s_add ((j : Int) + 1) rfl rfl (wu64 (by omega)) rfl ?_)
                      refine r_cons (s_assign (.int .u64 ((j : Int) + 1)) rfl rfl ?_)
                      refine r_nil ?_
                      have H63 : St W w61 (Row 5 1 (.slice pp59 (j + 1) cc60) (j + 1) (((List.range (j + 1)).map (byteT (fr5 R))).flatMap u8c) :: blk bk4 (.cells #[.int .i64 ((srcU (fr1 R) 4 : Nat) : Int), .int .i64 ((srcU (fr2 R) 4 : Nat) : Int), .int .i64 (srcU R 2 : Int), .int .i64 (s64 (natU (fr4 R))), .int .i64 (s64 (natU (fr3 R))), .slice pp59 (j + 1) cc60] 24 (0, 0)) :: blk bk1 (.cells #[.int .i64 0, .int .i64 0, .int .i64 0, .int .i64 0, .int .i64 0, .slice none 0 0] 24 (0, 0)) :: RSrc b (((fr5 R).drop (natN (fr5 R) + 8 * j)).drop (srcN ((fr5 R).drop (natN (fr5 R) + 8 * j)) 8)) :: (F.set i emp)) := (((((H62.move 4 rfl).move 4 rfl).move 4 rfl).move 4 rfl).drop 4 rfl)
                      have H64 : St W w61 (Row 5 1 (.slice pp59 (j + 1) cc60) (j + 1) (((List.range (j + 1)).map (byteT (fr5 R))).flatMap u8c) :: blk bk4 (.cells #[.int .i64 ((srcU (fr1 R) 4 : Nat) : Int), .int .i64 ((srcU (fr2 R) 4 : Nat) : Int), .int .i64 (srcU R 2 : Int), .int .i64 (s64 (natU (fr4 R))), .int .i64 (s64 (natU (fr3 R))), .slice pp59 (j + 1) cc60] 24 (0, 0)) :: blk bk1 (.cells #[.int .i64 0, .int .i64 0, .int .i64 0, .int .i64 0, .int .i64 0, .slice none 0 0] 24 (0, 0)) :: RSrc b ((fr5 R).drop (natN (fr5 R) + 8 * (j + 1))) :: (F.set i emp)) := by rw [show (fr5 R).drop (natN (fr5 R) + 8 * (j + 1)) = ((fr5 R).drop (natN (fr5 R) + 8 * j)).drop (srcN ((fr5 R).drop (natN (fr5 R) + 8 * j)) 8) from by rw [hN8]; exact drop_step8]; exact H63
                      exact nx47 (j + 1, pp59, cc60) _ _ ⟨(by omega), (by omega), H64⟩ (by first | (dsimp only; omega) | omega) ⟨by first | rfl | exact vint (by omega), by first | rfl | exact vint (by omega), by first | rfl | exact vint (by omega), by first | rfl | exact vint (by omega), by first | rfl | exact vint (by omega), by first | rfl | exact vint (by omega), trivial⟩
                    · skip
                      refine r_cons (s_neq true rfl rfl (nfalse hc51) rfl ?_)
                      refine r_nil ?_
                      refine g_true rfl ?_
                      refine g_seq ?_
                      refine g_region ?_
                      refine r_cons (s_loadAgg [.int .i64 ((srcU (fr1 R) 4 : Nat) : Int), .int .i64 ((srcU (fr2 R) 4 : Nat) : Int), .int .i64 (srcU R 2 : Int), .int .i64 (s64 (natU (fr4 R))), .int .i64 (s64 (natU (fr3 R))), .slice pq j cq] 6 ag_24 rfl (H50.blk_at (i := 1) rfl) (Nat.le_of_ble_eq_true rfl) rfl rfl ?_)
                      refine r_cons (s_move (.int .i64 (srcE ((fr5 R).drop (natN (fr5 R) + 8 * j)) 8)) rfl rfl ?_)
                      refine r_cons (s_storeAgg H50 2 #[.int .i64 ((srcU (fr1 R) 4 : Nat) : Int), .int .i64 ((srcU (fr2 R) 4 : Nat) : Int), .int .i64 (srcU R 2 : Int), .int .i64 (s64 (natU (fr4 R))), .int .i64 (s64 (natU (fr3 R))), .slice pq j cq] 6 rfl rfl rfl sz_24 rfl (by simp [Value.oneCell']) (Nat.le_of_ble_eq_true rfl) (fun o h1 h2 => by first | (simp; done) | (simp; omega)) (cs' := #[.int .i64 ((srcU (fr1 R) 4 : Nat) : Int), .int .i64 ((srcU (fr2 R) 4 : Nat) : Int), .int .i64 (srcU R 2 : Int), .int .i64 (s64 (natU (fr4 R))), .int .i64 (s64 (natU (fr3 R))), .slice pq j cq]) rfl ?_); intro w65 H66
                      refine r_cons (s_assign (.int .i64 (srcE ((fr5 R).drop (natN (fr5 R) + 8 * j)) 8)) rfl rfl ?_)
                      refine r_nil ?_
                      refine g_ret' [.agg #[.int .i64 ((srcU (fr1 R) 4 : Nat) : Int), .int .i64 ((srcU (fr2 R) 4 : Nat) : Int), .int .i64 (srcU R 2 : Int), .int .i64 (s64 (natU (fr4 R))), .int .i64 (s64 (natU (fr3 R))), .slice pq j cq], .int .i64 (srcE ((fr5 R).drop (natN (fr5 R) + 8 * j)) 8)] Try.func34 Try.results34 ⟨(res_cellN rfl ag_24 (H66.blk_at (i := 2) rfl) (Nat.le_of_ble_eq_true rfl) rfl), rfl, trivial⟩ ?_
                      have H67 : St W w65 (RSrc b (((fr5 R).drop (natN (fr5 R) + 8 * j)).drop (srcN ((fr5 R).drop (natN (fr5 R) + 8 * j)) 8)) :: (F.set i emp)) := ((((H66.move 3 rfl).drop 1 rfl).drop 1 rfl).drop 1 rfl)
                      have hr : rdE R = (srcE ((fr5 R).drop (natN (fr5 R) + 8 * j)) 8) := (rdE_g hc9 (show srcU R 2 = 1 by omega) hb8.1 hb8.2.1 hc24 hc30).trans (body_err hnE (by omega) (by omega) hlen hc51)
                      exact .inr ⟨by rw [hr]; exact hc51, _, _, _, _, _, _, _, _, (congrArg (fun z_ => Value.tuple #[.agg #[.int .i64 ((srcU (fr1 R) 4 : Nat) : Int), .int .i64 ((srcU (fr2 R) 4 : Nat) : Int), .int .i64 (srcU R 2 : Int), .int .i64 (s64 (natU (fr4 R))), .int .i64 (s64 (natU (fr3 R))), .slice pq j cq], Value.int .i64 z_]) hr.symm), _, St.back hi H67⟩
                  · skip
                    refine r_cons (s_lss false rfl rfl (dfalse hc48) rfl ?_)
                    refine r_nil ?_
                    refine g_false rfl ?_
                    refine g_exit (by rfl) ?_
                    refine g_seq ?_
                    refine g_region ?_
                    refine r_cons (s_loadAgg [.int .i64 ((srcU (fr1 R) 4 : Nat) : Int), .int .i64 ((srcU (fr2 R) 4 : Nat) : Int), .int .i64 (srcU R 2 : Int), .int .i64 (s64 (natU (fr4 R))), .int .i64 (s64 (natU (fr3 R))), .slice pq j cq] 6 ag_24 rfl (H46.blk_at (i := 1) rfl) (Nat.le_of_ble_eq_true rfl) rfl rfl ?_)
                    refine r_cons (s_storeAgg H46 2 #[.int .i64 ((srcU (fr1 R) 4 : Nat) : Int), .int .i64 ((srcU (fr2 R) 4 : Nat) : Int), .int .i64 (srcU R 2 : Int), .int .i64 (s64 (natU (fr4 R))), .int .i64 (s64 (natU (fr3 R))), .slice pq j cq] 6 rfl rfl rfl sz_24 rfl (by simp [Value.oneCell']) (Nat.le_of_ble_eq_true rfl) (fun o h1 h2 => by first | (simp; done) | (simp; omega)) (cs' := #[.int .i64 ((srcU (fr1 R) 4 : Nat) : Int), .int .i64 ((srcU (fr2 R) 4 : Nat) : Int), .int .i64 (srcU R 2 : Int), .int .i64 (s64 (natU (fr4 R))), .int .i64 (s64 (natU (fr3 R))), .slice pq j cq]) rfl ?_); intro w68 H69
                    refine r_cons (s_assign (.int .i64 0) rfl rfl ?_)
                    refine r_nil ?_
                    refine g_ret' [.agg #[.int .i64 ((srcU (fr1 R) 4 : Nat) : Int), .int .i64 ((srcU (fr2 R) 4 : Nat) : Int), .int .i64 (srcU R 2 : Int), .int .i64 (s64 (natU (fr4 R))), .int .i64 (s64 (natU (fr3 R))), .slice pq j cq], .int .i64 0] Try.func34 Try.results34 ⟨(res_cellN rfl ag_24 (H69.blk_at (i := 2) rfl) (Nat.le_of_ble_eq_true rfl) rfl), rfl, trivial⟩ ?_
                    have H70 : St W w68 (RSrc b ((fr5 R).drop (natN (fr5 R) + 8 * j)) :: Row 5 1 (.slice pq j cq) j (((List.range j).map (byteT (fr5 R))).flatMap u8c) :: (F.set i emp)) := (((H69.move 3 rfl).drop 2 rfl).drop 2 rfl)
                    have hn1 : srcU R 2 = 1 := by omega
                    obtain rfl : j = natU (fr5 R) := by omega
                    obtain ⟨g1, g2, g3⟩ := body_ok hnE (by omega) hlen
                    have H71 := St.back (i := i + 1) (l := Row 5 1 (.slice pq (natU (fr5 R)) cq) (natU (fr5 R)) (((List.range (natU (fr5 R))).map (byteT (fr5 R))).flatMap u8c) :: F) (by exact hi) H70
                    have hend : frEnd R = (fr5 R).drop (natN (fr5 R) + 8 * natU (fr5 R)) := by unfold frEnd; rw [if_pos hn1, g3]
                    have hbl : (textBytes (fr5 R)).length = natU (fr5 R) := by rw [g2]; simp
                    exact .inl ⟨(rdE_g hc9 (show srcU R 2 = 1 by omega) hb8.1 hb8.2.1 hc24 hc30).trans g1, _, _, _, by rw [frW_frm, frW_to, frW_kind, frW_ack, frW_seq1 hn1]; rfl, by rw [frW_body1 hn1, hbl], by rw [frW_body1 hn1, hend, g2]; exact H71⟩
            · skip
              refine r_cons (s_neq true rfl rfl (nfalse hc36) rfl ?_)
              refine r_nil ?_
              refine g_true rfl ?_
              refine g_seq ?_
              refine g_region ?_
              refine r_cons (s_loadAgg [.int .i64 ((srcU (fr1 R) 4 : Nat) : Int), .int .i64 ((srcU (fr2 R) 4 : Nat) : Int), .int .i64 (srcU R 2 : Int), .int .i64 (s64 (natU (fr4 R))), .int .i64 (s64 (natU (fr3 R))), .slice none 0 0] 6 ag_24 rfl (H35.blk_at (i := 0) rfl) (Nat.le_of_ble_eq_true rfl) rfl rfl ?_)
              refine r_cons (s_move (.int .i64 (natE (fr5 R))) rfl rfl ?_)
              refine r_cons (s_storeAgg H35 1 #[.int .i64 ((srcU (fr1 R) 4 : Nat) : Int), .int .i64 ((srcU (fr2 R) 4 : Nat) : Int), .int .i64 (srcU R 2 : Int), .int .i64 (s64 (natU (fr4 R))), .int .i64 (s64 (natU (fr3 R))), .slice none 0 0] 6 rfl rfl rfl sz_24 rfl (by simp [Value.oneCell']) (Nat.le_of_ble_eq_true rfl) (fun o h1 h2 => by first | (simp; done) | (simp; omega)) (cs' := #[.int .i64 ((srcU (fr1 R) 4 : Nat) : Int), .int .i64 ((srcU (fr2 R) 4 : Nat) : Int), .int .i64 (srcU R 2 : Int), .int .i64 (s64 (natU (fr4 R))), .int .i64 (s64 (natU (fr3 R))), .slice none 0 0]) rfl ?_); intro w72 H73
              refine r_cons (s_assign (.int .i64 (natE (fr5 R))) rfl rfl ?_)
              refine r_nil ?_
              refine g_ret' [.agg #[.int .i64 ((srcU (fr1 R) 4 : Nat) : Int), .int .i64 ((srcU (fr2 R) 4 : Nat) : Int), .int .i64 (srcU R 2 : Int), .int .i64 (s64 (natU (fr4 R))), .int .i64 (s64 (natU (fr3 R))), .slice none 0 0], .int .i64 (natE (fr5 R))] Try.func34 Try.results34 ⟨(res_cellN rfl ag_24 (H73.blk_at (i := 1) rfl) (Nat.le_of_ble_eq_true rfl) rfl), rfl, trivial⟩ ?_
              have H74 : St W w72 (RSrc b ((fr5 R).drop (natN (fr5 R))) :: (F.set i emp)) := (((H73.move 2 rfl).drop 1 rfl).drop 1 rfl)
              have hr : rdE R = natE (fr5 R) := (rdE_g hc9 (show srcU R 2 = 1 by omega) hb8.1 hb8.2.1 hc24 hc30).trans (bodyE_nat hc36)
              exact .inr ⟨by rw [hr]; exact hc36, _, _, _, _, _, _, _, _, (congrArg (fun z_ => Value.tuple #[.agg #[.int .i64 ((srcU (fr1 R) 4 : Nat) : Int), .int .i64 ((srcU (fr2 R) 4 : Nat) : Int), .int .i64 (srcU R 2 : Int), .int .i64 (s64 (natU (fr4 R))), .int .i64 (s64 (natU (fr3 R))), .slice none 0 0], Value.int .i64 z_]) hr.symm), _, St.back hi H74⟩
          · skip
            refine r_cons (s_neq true rfl rfl (nfalse hc30) rfl ?_)
            refine r_nil ?_
            refine g_true rfl ?_
            refine g_seq ?_
            refine g_region ?_
            refine r_cons (s_loadAgg [.int .i64 ((srcU (fr1 R) 4 : Nat) : Int), .int .i64 ((srcU (fr2 R) 4 : Nat) : Int), .int .i64 (srcU R 2 : Int), .int .i64 0, .int .i64 (s64 (natU (fr3 R))), .slice none 0 0] 6 ag_24 rfl (H29.blk_at (i := 0) rfl) (Nat.le_of_ble_eq_true rfl) rfl rfl ?_)
            refine r_cons (s_move (.int .i64 (natE (fr4 R))) rfl rfl ?_)
            refine r_cons (s_storeAgg H29 1 #[.int .i64 ((srcU (fr1 R) 4 : Nat) : Int), .int .i64 ((srcU (fr2 R) 4 : Nat) : Int), .int .i64 (srcU R 2 : Int), .int .i64 0, .int .i64 (s64 (natU (fr3 R))), .slice none 0 0] 6 rfl rfl rfl sz_24 rfl (by simp [Value.oneCell']) (Nat.le_of_ble_eq_true rfl) (fun o h1 h2 => by first | (simp; done) | (simp; omega)) (cs' := #[.int .i64 ((srcU (fr1 R) 4 : Nat) : Int), .int .i64 ((srcU (fr2 R) 4 : Nat) : Int), .int .i64 (srcU R 2 : Int), .int .i64 0, .int .i64 (s64 (natU (fr3 R))), .slice none 0 0]) rfl ?_); intro w75 H76
            refine r_cons (s_assign (.int .i64 (natE (fr4 R))) rfl rfl ?_)
            refine r_nil ?_
            refine g_ret' [.agg #[.int .i64 ((srcU (fr1 R) 4 : Nat) : Int), .int .i64 ((srcU (fr2 R) 4 : Nat) : Int), .int .i64 (srcU R 2 : Int), .int .i64 0, .int .i64 (s64 (natU (fr3 R))), .slice none 0 0], .int .i64 (natE (fr4 R))] Try.func34 Try.results34 ⟨(res_cellN rfl ag_24 (H76.blk_at (i := 1) rfl) (Nat.le_of_ble_eq_true rfl) rfl), rfl, trivial⟩ ?_
            have H77 : St W w75 (RSrc b ((fr4 R).drop (natN (fr4 R))) :: (F.set i emp)) := (((H76.move 2 rfl).drop 1 rfl).drop 1 rfl)
            have hr : rdE R = natE (fr4 R) := rdE_f hc9 (show srcU R 2 = 1 by omega) hb8.1 hb8.2.1 hc24 hc30
            exact .inr ⟨by rw [hr]; exact hc30, _, _, _, _, _, _, _, _, (congrArg (fun z_ => Value.tuple #[.agg #[.int .i64 ((srcU (fr1 R) 4 : Nat) : Int), .int .i64 ((srcU (fr2 R) 4 : Nat) : Int), .int .i64 (srcU R 2 : Int), .int .i64 0, .int .i64 (s64 (natU (fr3 R))), .slice none 0 0], Value.int .i64 z_]) hr.symm), _, St.back hi H77⟩
        · skip
          refine r_cons (s_neq true rfl rfl (nfalse hc24) rfl ?_)
          refine r_cons (s_move (.bool true) rfl rfl ?_)
          refine r_cons (r_pass rfl rfl rfl rfl rfl ?_)
          refine r_cons (r_pass rfl rfl rfl rfl rfl ?_)
          refine r_cons (r_pass rfl rfl rfl rfl rfl ?_)
          refine r_cons (s_pick_t (.bool true) rfl rfl rfl ?_)
          refine r_nil ?_
          refine g_true rfl ?_
          refine g_seq ?_
          refine g_region ?_
          refine r_cons (s_move (.int .u64 (natU (fr3 R) : Int)) rfl rfl ?_)
          refine r_cons (s_conv (s64 (natU (fr3 R))) rfl us_54 ik_2 (rfl) rfl ?_)
          refine r_cons (s_fieldAddr 24 4 4 4 2 rfl fi_24_4 rfl rfl ?_)
          refine r_cons (s_store H23 0 (.int .i64 (s64 (natU (fr3 R)))) rfl rfl rfl sz_2 rfl (Nat.le_of_ble_eq_true rfl) rfl (cs' := #[.int .i64 ((srcU (fr1 R) 4 : Nat) : Int), .int .i64 ((srcU (fr2 R) 4 : Nat) : Int), .int .i64 (srcU R 2 : Int), .int .i64 0, .int .i64 (s64 (natU (fr3 R))), .slice none 0 0]) rfl ?_); intro w78 H79
          refine r_nil ?_
          refine g_seq ?_
          refine g_region ?_
          refine r_cons (s_loadAgg [.int .i64 ((srcU (fr1 R) 4 : Nat) : Int), .int .i64 ((srcU (fr2 R) 4 : Nat) : Int), .int .i64 (srcU R 2 : Int), .int .i64 0, .int .i64 (s64 (natU (fr3 R))), .slice none 0 0] 6 ag_24 rfl (H79.blk_at (i := 0) rfl) (Nat.le_of_ble_eq_true rfl) rfl rfl ?_)
          refine r_cons (s_move (.int .i64 (natE (fr3 R))) rfl rfl ?_)
          refine r_cons (s_storeAgg H79 1 #[.int .i64 ((srcU (fr1 R) 4 : Nat) : Int), .int .i64 ((srcU (fr2 R) 4 : Nat) : Int), .int .i64 (srcU R 2 : Int), .int .i64 0, .int .i64 (s64 (natU (fr3 R))), .slice none 0 0] 6 rfl rfl rfl sz_24 rfl (by simp [Value.oneCell']) (Nat.le_of_ble_eq_true rfl) (fun o h1 h2 => by first | (simp; done) | (simp; omega)) (cs' := #[.int .i64 ((srcU (fr1 R) 4 : Nat) : Int), .int .i64 ((srcU (fr2 R) 4 : Nat) : Int), .int .i64 (srcU R 2 : Int), .int .i64 0, .int .i64 (s64 (natU (fr3 R))), .slice none 0 0]) rfl ?_); intro w80 H81
          refine r_cons (s_assign (.int .i64 (natE (fr3 R))) rfl rfl ?_)
          refine r_nil ?_
          refine g_ret' [.agg #[.int .i64 ((srcU (fr1 R) 4 : Nat) : Int), .int .i64 ((srcU (fr2 R) 4 : Nat) : Int), .int .i64 (srcU R 2 : Int), .int .i64 0, .int .i64 (s64 (natU (fr3 R))), .slice none 0 0], .int .i64 (natE (fr3 R))] Try.func34 Try.results34 ⟨(res_cellN rfl ag_24 (H81.blk_at (i := 1) rfl) (Nat.le_of_ble_eq_true rfl) rfl), rfl, trivial⟩ ?_
          have H82 : St W w80 (RSrc b ((fr3 R).drop (natN (fr3 R))) :: (F.set i emp)) := (((H81.move 2 rfl).drop 1 rfl).drop 1 rfl)
          have hr : rdE R = natE (fr3 R) := rdE_e hc9 (show srcU R 2 = 1 ∨ srcU R 2 = 2 by omega) hb8.1 hb8.2.1 hc24
          exact .inr ⟨by rw [hr]; exact hc24, _, _, _, _, _, _, _, _, (congrArg (fun z_ => Value.tuple #[.agg #[.int .i64 ((srcU (fr1 R) 4 : Nat) : Int), .int .i64 ((srcU (fr2 R) 4 : Nat) : Int), .int .i64 (srcU R 2 : Int), .int .i64 0, .int .i64 (s64 (natU (fr3 R))), .slice none 0 0], Value.int .i64 z_]) hr.symm), _, St.back hi H82⟩
      · skip
        refine r_cons (s_neq true rfl rfl (nfalse hc16) rfl ?_)
        refine r_nil ?_
        refine g_true rfl ?_
        refine g_seq ?_
        refine g_region ?_
        refine r_cons (s_loadAgg [.int .i64 0, .int .i64 0, .int .i64 (srcU R 2 : Int), .int .i64 0, .int .i64 0, .slice none 0 0] 6 ag_24 rfl (H15.blk_at (i := 0) rfl) (Nat.le_of_ble_eq_true rfl) rfl rfl ?_)
        refine r_cons (s_move (.int .i64 (srcE (fr1 R) 8)) rfl rfl ?_)
        refine r_cons (s_storeAgg H15 1 #[.int .i64 0, .int .i64 0, .int .i64 (srcU R 2 : Int), .int .i64 0, .int .i64 0, .slice none 0 0] 6 rfl rfl rfl sz_24 rfl (by simp [Value.oneCell']) (Nat.le_of_ble_eq_true rfl) (fun o h1 h2 => by first | (simp; done) | (simp; omega)) (cs' := #[.int .i64 0, .int .i64 0, .int .i64 (srcU R 2 : Int), .int .i64 0, .int .i64 0, .slice none 0 0]) rfl ?_); intro w83 H84
        refine r_cons (s_assign (.int .i64 (srcE (fr1 R) 8)) rfl rfl ?_)
        refine r_nil ?_
        refine g_ret' [.agg #[.int .i64 0, .int .i64 0, .int .i64 (srcU R 2 : Int), .int .i64 0, .int .i64 0, .slice none 0 0], .int .i64 (srcE (fr1 R) 8)] Try.func34 Try.results34 ⟨(res_cellN rfl ag_24 (H84.blk_at (i := 1) rfl) (Nat.le_of_ble_eq_true rfl) rfl), rfl, trivial⟩ ?_
        have H85 : St W w83 (RSrc b ((fr1 R).drop (srcN (fr1 R) 8)) :: (F.set i emp)) := (((H84.move 2 rfl).drop 1 rfl).drop 1 rfl)
        have hr : rdE R = srcE (fr1 R) 8 := rdE_8 hc9 (show srcU R 2 = 1 ∨ srcU R 2 = 2 by omega) hc16
        exact .inr ⟨by rw [hr]; exact hc16, _, _, _, _, _, _, _, _, (congrArg (fun z_ => Value.tuple #[.agg #[.int .i64 0, .int .i64 0, .int .i64 (srcU R 2 : Int), .int .i64 0, .int .i64 0, .slice none 0 0], Value.int .i64 z_]) hr.symm), _, St.back hi H85⟩
    · skip
      refine r_cons (s_neq true rfl rfl (nfalse hc10) rfl ?_)
      refine r_cons (s_move (.bool true) rfl rfl ?_)
      refine r_cons (r_take rfl rfl ?_)
      refine s_move (.int .u64 (srcU R 2 : Int)) rfl rfl ?_
      refine r_cons (r_take rfl rfl ?_)
      by_cases hc86 : (srcU R 2 : Int) = 2
      · skip
        refine s_neq false rfl rfl (ntrue hc86) rfl ?_
        refine r_cons (s_pick_t (.bool false) rfl rfl rfl ?_)
        refine r_nil ?_
        refine g_false rfl ?_
        refine g_skip ?_
        refine g_seq ?_
        refine g_region ?_
        refine r_cons (s_move (.int .u64 (srcU R 2 : Int)) rfl rfl ?_)
        have hk4 : srcU R 2 < 4 := srcU_lt_pow (k := 2)
        refine r_cons (s_conv (srcU R 2 : Int) rfl us_54 ik_3 (wi64 (by omega)) rfl ?_)
        refine r_cons (s_fieldAddr 24 2 2 2 3 rfl fi_24_2 rfl rfl ?_)
        refine r_cons (s_store H8 0 (.int .i64 (srcU R 2 : Int)) rfl rfl rfl sz_3 rfl (Nat.le_of_ble_eq_true rfl) rfl (cs' := #[.int .i64 0, .int .i64 0, .int .i64 (srcU R 2 : Int), .int .i64 0, .int .i64 0, .slice none 0 0]) rfl ?_); intro w87 H88
        refine r_nil ?_
        refine g_seq ?_
        refine g_region ?_
        refine r_cons (s_move (.pointer (some ⟨b, 0, none⟩)) rfl rfl ?_)
        have H89 : St W w87 (blk bk4 (.cells #[.int .i64 0, .int .i64 0, .int .i64 (srcU R 2 : Int), .int .i64 0, .int .i64 0, .slice none 0 0] 24 (0, 0)) :: blk bk1 (.cells #[.int .i64 0, .int .i64 0, .int .i64 0, .int .i64 0, .int .i64 0, .slice none 0 0] 24 (0, 0)) :: RSrc b (fr1 R) :: (F.set i emp)) := H88
        refine r_cons (s_call [.pointer (some ⟨b, 0, none⟩), .int .i64 8] pl_48 rfl rfl (RSrc_Bits b (fr1 R) 8  (i := 2) rfl H89) ?_)
        rintro _ w90 ⟨rfl, H91⟩
        refine r_cons (s_move (.tuple #[.int .u64 (srcU (fr1 R) 8 : Int), .int .i64 (srcE (fr1 R) 8)]) rfl rfl ?_)
        refine r_cons (s_extract (.int .u64 (srcU (fr1 R) 8 : Int)) #[.int .u64 (srcU (fr1 R) 8 : Int), .int .i64 (srcE (fr1 R) 8)] rfl rfl rfl ?_)
        refine r_cons (s_extract (.int .i64 (srcE (fr1 R) 8)) #[.int .u64 (srcU (fr1 R) 8 : Int), .int .i64 (srcE (fr1 R) 8)] rfl rfl rfl ?_)
        refine r_cons (s_assign (.int .u64 (srcU (fr1 R) 8 : Int)) rfl rfl ?_)
        refine r_cons (s_assign (.int .i64 (srcE (fr1 R) 8)) rfl rfl ?_)
        refine r_nil ?_
        refine g_seq ?_
        refine g_seq ?_
        refine g_region ?_
        refine r_cons (s_move (.int .i64 (srcE (fr1 R) 8)) rfl rfl ?_)
        by_cases hc92 : srcE (fr1 R) 8 = 0
        · skip
          refine r_cons (s_neq false rfl rfl (ntrue hc92) rfl ?_)
          refine r_nil ?_
          refine g_false rfl ?_
          refine g_skip ?_
          refine g_seq ?_
          refine g_region ?_
          have hb8 := bits8_ok (R := fr1 R) hc92
          have hb3 : (fr1 R).drop (srcN (fr1 R) 8) = fr3 R := hb8.2.2.1
          have hb4 : srcU (fr1 R) 8 / 16 = srcU (fr1 R) 4 := hb8.2.2.2.1
          have hb5 : srcU (fr1 R) 8 % 16 = srcU (fr2 R) 4 := hb8.2.2.2.2
          have hl8 : srcU (fr1 R) 8 < 256 := srcU_lt_pow (k := 8)
          have hl4 : srcU (fr1 R) 4 < 16 := srcU_lt_pow (k := 4)
          have hl5 : srcU (fr2 R) 4 < 16 := srcU_lt_pow (k := 4)
          refine r_cons (s_move (.int .u64 (srcU (fr1 R) 8 : Int)) rfl rfl ?_)
          refine r_cons (s_quo ((srcU (fr1 R) 4 : Nat) : Int) rfl rfl (by omega) (by rw [tdiv_pos (by omega)]; exact (wu64 (by omega)).trans (by omega)) rfl ?_)
          refine r_cons (s_conv ((srcU (fr1 R) 4 : Nat) : Int) rfl us_54 ik_3 (wi64 (by omega)) rfl ?_)
          refine r_cons (s_fieldAddr 24 0 0 0 3 rfl fi_24_0 rfl rfl ?_)
          refine r_cons (s_store H91 0 (.int .i64 ((srcU (fr1 R) 4 : Nat) : Int)) rfl rfl rfl sz_3 rfl (Nat.le_of_ble_eq_true rfl) rfl (cs' := #[.int .i64 ((srcU (fr1 R) 4 : Nat) : Int), .int .i64 0, .int .i64 (srcU R 2 : Int), .int .i64 0, .int .i64 0, .slice none 0 0]) rfl ?_); intro w93 H94
          refine r_nil ?_
          refine g_seq ?_
          refine g_region ?_
          refine r_cons (s_move (.int .u64 (srcU (fr1 R) 8 : Int)) rfl rfl ?_)
          refine r_cons (s_rem ((srcU (fr2 R) 4 : Nat) : Int) rfl rfl (by omega) (by rw [tmod_pos (by omega)]; omega) rfl ?_)
          refine r_cons (s_conv ((srcU (fr2 R) 4 : Nat) : Int) rfl us_54 ik_3 (wi64 (by omega)) rfl ?_)
          refine r_cons (s_fieldAddr 24 1 1 1 3 rfl fi_24_1 rfl rfl ?_)
          refine r_cons (s_store H94 0 (.int .i64 ((srcU (fr2 R) 4 : Nat) : Int)) rfl rfl rfl sz_3 rfl (Nat.le_of_ble_eq_true rfl) rfl (cs' := #[.int .i64 ((srcU (fr1 R) 4 : Nat) : Int), .int .i64 ((srcU (fr2 R) 4 : Nat) : Int), .int .i64 (srcU R 2 : Int), .int .i64 0, .int .i64 0, .slice none 0 0]) rfl ?_); intro w95 H96
          refine r_nil ?_
          refine g_seq ?_
          refine g_region ?_
          refine r_cons (s_move (.pointer (some ⟨b, 0, none⟩)) rfl rfl ?_)
          have H97 : St W w95 (blk bk4 (.cells #[.int .i64 ((srcU (fr1 R) 4 : Nat) : Int), .int .i64 ((srcU (fr2 R) 4 : Nat) : Int), .int .i64 (srcU R 2 : Int), .int .i64 0, .int .i64 0, .slice none 0 0] 24 (0, 0)) :: blk bk1 (.cells #[.int .i64 0, .int .i64 0, .int .i64 0, .int .i64 0, .int .i64 0, .slice none 0 0] 24 (0, 0)) :: RSrc b (fr3 R) :: (F.set i emp)) := by rw [← hb3]; exact H96
          refine r_cons (s_call [.pointer (some ⟨b, 0, none⟩)] pl_49 rfl rfl (RSrc_Nat b (fr3 R)   (i := 2) rfl H97) ?_)
          rintro _ w98 ⟨rfl, H99⟩
          refine r_cons (s_move (.tuple #[.int .u64 (natU (fr3 R) : Int), .int .i64 (natE (fr3 R))]) rfl rfl ?_)
          refine r_cons (s_extract (.int .u64 (natU (fr3 R) : Int)) #[.int .u64 (natU (fr3 R) : Int), .int .i64 (natE (fr3 R))] rfl rfl rfl ?_)
          refine r_cons (s_extract (.int .i64 (natE (fr3 R))) #[.int .u64 (natU (fr3 R) : Int), .int .i64 (natE (fr3 R))] rfl rfl rfl ?_)
          refine r_cons (s_assign (.int .u64 (natU (fr3 R) : Int)) rfl rfl ?_)
          refine r_cons (s_assign (.int .i64 (natE (fr3 R))) rfl rfl ?_)
          refine r_nil ?_
          refine g_seq ?_
          refine g_seq ?_
          refine g_region ?_
          refine r_cons (s_move (.int .i64 (natE (fr3 R))) rfl rfl ?_)
          by_cases hc100 : natE (fr3 R) = 0
          · skip
            refine r_cons (s_neq false rfl rfl (ntrue hc100) rfl ?_)
            refine r_cons (s_move (.bool false) rfl rfl ?_)
            refine r_cons (r_take rfl rfl ?_)
            refine s_fieldAddr 24 2 2 2 3 rfl fi_24_2 rfl rfl ?_
            refine r_cons (r_take rfl rfl ?_)
            refine s_load (.int .i64 (srcU R 2 : Int)) ag_3 rfl (H99.blk_at (i := 0) rfl) rfl rfl ?_
            refine r_cons (r_take rfl rfl ?_)
            refine s_eql true rfl rfl (dtrue (by omega)) rfl ?_
            refine r_cons (s_pick_f (.bool true) rfl rfl rfl ?_)
            refine r_nil ?_
            refine g_true rfl ?_
            refine g_seq ?_
            refine g_region ?_
            refine r_cons (s_move (.int .u64 (natU (fr3 R) : Int)) rfl rfl ?_)
            refine r_cons (s_conv (s64 (natU (fr3 R))) rfl us_54 ik_2 (rfl) rfl ?_)
            refine r_cons (s_fieldAddr 24 4 4 4 2 rfl fi_24_4 rfl rfl ?_)
            refine r_cons (s_store H99 0 (.int .i64 (s64 (natU (fr3 R)))) rfl rfl rfl sz_2 rfl (Nat.le_of_ble_eq_true rfl) rfl (cs' := #[.int .i64 ((srcU (fr1 R) 4 : Nat) : Int), .int .i64 ((srcU (fr2 R) 4 : Nat) : Int), .int .i64 (srcU R 2 : Int), .int .i64 0, .int .i64 (s64 (natU (fr3 R))), .slice none 0 0]) rfl ?_); intro w101 H102
            refine r_nil ?_
            refine g_seq ?_
            refine g_region ?_
            refine r_cons (s_loadAgg [.int .i64 ((srcU (fr1 R) 4 : Nat) : Int), .int .i64 ((srcU (fr2 R) 4 : Nat) : Int), .int .i64 (srcU R 2 : Int), .int .i64 0, .int .i64 (s64 (natU (fr3 R))), .slice none 0 0] 6 ag_24 rfl (H102.blk_at (i := 0) rfl) (Nat.le_of_ble_eq_true rfl) rfl rfl ?_)
            refine r_cons (s_move (.int .i64 (natE (fr3 R))) rfl rfl ?_)
            refine r_cons (s_storeAgg H102 1 #[.int .i64 ((srcU (fr1 R) 4 : Nat) : Int), .int .i64 ((srcU (fr2 R) 4 : Nat) : Int), .int .i64 (srcU R 2 : Int), .int .i64 0, .int .i64 (s64 (natU (fr3 R))), .slice none 0 0] 6 rfl rfl rfl sz_24 rfl (by simp [Value.oneCell']) (Nat.le_of_ble_eq_true rfl) (fun o h1 h2 => by first | (simp; done) | (simp; omega)) (cs' := #[.int .i64 ((srcU (fr1 R) 4 : Nat) : Int), .int .i64 ((srcU (fr2 R) 4 : Nat) : Int), .int .i64 (srcU R 2 : Int), .int .i64 0, .int .i64 (s64 (natU (fr3 R))), .slice none 0 0]) rfl ?_); intro w103 H104
            refine r_cons (s_assign (.int .i64 (natE (fr3 R))) rfl rfl ?_)
            refine r_nil ?_
            refine g_ret' [.agg #[.int .i64 ((srcU (fr1 R) 4 : Nat) : Int), .int .i64 ((srcU (fr2 R) 4 : Nat) : Int), .int .i64 (srcU R 2 : Int), .int .i64 0, .int .i64 (s64 (natU (fr3 R))), .slice none 0 0], .int .i64 (natE (fr3 R))] Try.func34 Try.results34 ⟨(res_cellN rfl ag_24 (H104.blk_at (i := 1) rfl) (Nat.le_of_ble_eq_true rfl) rfl), rfl, trivial⟩ ?_
            have H105 := Row.nil_intro H104 5 1
            have H106 : St W w103 (RSrc b ((fr3 R).drop (natN (fr3 R))) :: Row 5 1 (.slice none 0 0) 0 [] :: (F.set i emp)) := (((H105.move 3 rfl).drop 2 rfl).drop 2 rfl)
            have hn1 : ¬ srcU R 2 = 1 := by omega
            have H107 := St.back (i := i + 1) (l := Row 5 1 (.slice none 0 0) 0 [] :: F) (by exact hi) H106
            have hend : frEnd R = (fr3 R).drop (natN (fr3 R)) := by unfold frEnd; rw [if_neg hn1]; rfl
            exact .inl ⟨rdE_ack hc9 (show srcU R 2 = 2 by omega) hb8.1 hb8.2.1 hc100, none, 0, 0, by rw [frW_frm, frW_to, frW_kind, frW_ack, frW_seq2 hn1, hc100]; rfl, by rw [frW_body2 hn1]; rfl, by rw [frW_body2 hn1, hend]; exact H107⟩
          · skip
            refine r_cons (s_neq true rfl rfl (nfalse hc100) rfl ?_)
            refine r_cons (s_move (.bool true) rfl rfl ?_)
            refine r_cons (r_pass rfl rfl rfl rfl rfl ?_)
            refine r_cons (r_pass rfl rfl rfl rfl rfl ?_)
            refine r_cons (r_pass rfl rfl rfl rfl rfl ?_)
            refine r_cons (s_pick_t (.bool true) rfl rfl rfl ?_)
            refine r_nil ?_
            refine g_true rfl ?_
            refine g_seq ?_
            refine g_region ?_
            refine r_cons (s_move (.int .u64 (natU (fr3 R) : Int)) rfl rfl ?_)
            refine r_cons (s_conv (s64 (natU (fr3 R))) rfl us_54 ik_2 (rfl) rfl ?_)
            refine r_cons (s_fieldAddr 24 4 4 4 2 rfl fi_24_4 rfl rfl ?_)
            refine r_cons (s_store H99 0 (.int .i64 (s64 (natU (fr3 R)))) rfl rfl rfl sz_2 rfl (Nat.le_of_ble_eq_true rfl) rfl (cs' := #[.int .i64 ((srcU (fr1 R) 4 : Nat) : Int), .int .i64 ((srcU (fr2 R) 4 : Nat) : Int), .int .i64 (srcU R 2 : Int), .int .i64 0, .int .i64 (s64 (natU (fr3 R))), .slice none 0 0]) rfl ?_); intro w108 H109
            refine r_nil ?_
            refine g_seq ?_
            refine g_region ?_
            refine r_cons (s_loadAgg [.int .i64 ((srcU (fr1 R) 4 : Nat) : Int), .int .i64 ((srcU (fr2 R) 4 : Nat) : Int), .int .i64 (srcU R 2 : Int), .int .i64 0, .int .i64 (s64 (natU (fr3 R))), .slice none 0 0] 6 ag_24 rfl (H109.blk_at (i := 0) rfl) (Nat.le_of_ble_eq_true rfl) rfl rfl ?_)
            refine r_cons (s_move (.int .i64 (natE (fr3 R))) rfl rfl ?_)
            refine r_cons (s_storeAgg H109 1 #[.int .i64 ((srcU (fr1 R) 4 : Nat) : Int), .int .i64 ((srcU (fr2 R) 4 : Nat) : Int), .int .i64 (srcU R 2 : Int), .int .i64 0, .int .i64 (s64 (natU (fr3 R))), .slice none 0 0] 6 rfl rfl rfl sz_24 rfl (by simp [Value.oneCell']) (Nat.le_of_ble_eq_true rfl) (fun o h1 h2 => by first | (simp; done) | (simp; omega)) (cs' := #[.int .i64 ((srcU (fr1 R) 4 : Nat) : Int), .int .i64 ((srcU (fr2 R) 4 : Nat) : Int), .int .i64 (srcU R 2 : Int), .int .i64 0, .int .i64 (s64 (natU (fr3 R))), .slice none 0 0]) rfl ?_); intro w110 H111
            refine r_cons (s_assign (.int .i64 (natE (fr3 R))) rfl rfl ?_)
            refine r_nil ?_
            refine g_ret' [.agg #[.int .i64 ((srcU (fr1 R) 4 : Nat) : Int), .int .i64 ((srcU (fr2 R) 4 : Nat) : Int), .int .i64 (srcU R 2 : Int), .int .i64 0, .int .i64 (s64 (natU (fr3 R))), .slice none 0 0], .int .i64 (natE (fr3 R))] Try.func34 Try.results34 ⟨(res_cellN rfl ag_24 (H111.blk_at (i := 1) rfl) (Nat.le_of_ble_eq_true rfl) rfl), rfl, trivial⟩ ?_
            have H112 : St W w110 (RSrc b ((fr3 R).drop (natN (fr3 R))) :: (F.set i emp)) := (((H111.move 2 rfl).drop 1 rfl).drop 1 rfl)
            have hr : rdE R = natE (fr3 R) := rdE_e hc9 (show srcU R 2 = 1 ∨ srcU R 2 = 2 by omega) hb8.1 hb8.2.1 hc100
            exact .inr ⟨by rw [hr]; exact hc100, _, _, _, _, _, _, _, _, (congrArg (fun z_ => Value.tuple #[.agg #[.int .i64 ((srcU (fr1 R) 4 : Nat) : Int), .int .i64 ((srcU (fr2 R) 4 : Nat) : Int), .int .i64 (srcU R 2 : Int), .int .i64 0, .int .i64 (s64 (natU (fr3 R))), .slice none 0 0], Value.int .i64 z_]) hr.symm), _, St.back hi H112⟩
        · skip
          refine r_cons (s_neq true rfl rfl (nfalse hc92) rfl ?_)
          refine r_nil ?_
          refine g_true rfl ?_
          refine g_seq ?_
          refine g_region ?_
          refine r_cons (s_loadAgg [.int .i64 0, .int .i64 0, .int .i64 (srcU R 2 : Int), .int .i64 0, .int .i64 0, .slice none 0 0] 6 ag_24 rfl (H91.blk_at (i := 0) rfl) (Nat.le_of_ble_eq_true rfl) rfl rfl ?_)
          refine r_cons (s_move (.int .i64 (srcE (fr1 R) 8)) rfl rfl ?_)
          refine r_cons (s_storeAgg H91 1 #[.int .i64 0, .int .i64 0, .int .i64 (srcU R 2 : Int), .int .i64 0, .int .i64 0, .slice none 0 0] 6 rfl rfl rfl sz_24 rfl (by simp [Value.oneCell']) (Nat.le_of_ble_eq_true rfl) (fun o h1 h2 => by first | (simp; done) | (simp; omega)) (cs' := #[.int .i64 0, .int .i64 0, .int .i64 (srcU R 2 : Int), .int .i64 0, .int .i64 0, .slice none 0 0]) rfl ?_); intro w113 H114
          refine r_cons (s_assign (.int .i64 (srcE (fr1 R) 8)) rfl rfl ?_)
          refine r_nil ?_
          refine g_ret' [.agg #[.int .i64 0, .int .i64 0, .int .i64 (srcU R 2 : Int), .int .i64 0, .int .i64 0, .slice none 0 0], .int .i64 (srcE (fr1 R) 8)] Try.func34 Try.results34 ⟨(res_cellN rfl ag_24 (H114.blk_at (i := 1) rfl) (Nat.le_of_ble_eq_true rfl) rfl), rfl, trivial⟩ ?_
          have H115 : St W w113 (RSrc b ((fr1 R).drop (srcN (fr1 R) 8)) :: (F.set i emp)) := (((H114.move 2 rfl).drop 1 rfl).drop 1 rfl)
          have hr : rdE R = srcE (fr1 R) 8 := rdE_8 hc9 (show srcU R 2 = 1 ∨ srcU R 2 = 2 by omega) hc92
          exact .inr ⟨by rw [hr]; exact hc92, _, _, _, _, _, _, _, _, (congrArg (fun z_ => Value.tuple #[.agg #[.int .i64 0, .int .i64 0, .int .i64 (srcU R 2 : Int), .int .i64 0, .int .i64 0, .slice none 0 0], Value.int .i64 z_]) hr.symm), _, St.back hi H115⟩
      · skip
        refine s_neq true rfl rfl (nfalse hc86) rfl ?_
        refine r_cons (s_pick_t (.bool true) rfl rfl rfl ?_)
        refine r_nil ?_
        refine g_true rfl ?_
        refine g_seq ?_
        refine g_region ?_
        refine r_cons (s_loadAgg [.int .i64 0, .int .i64 0, .int .i64 0, .int .i64 0, .int .i64 0, .slice none 0 0] 6 ag_24 rfl (H8.blk_at (i := 0) rfl) (Nat.le_of_ble_eq_true rfl) rfl rfl ?_)
        refine r_cons (s_storeAgg H8 1 #[.int .i64 0, .int .i64 0, .int .i64 0, .int .i64 0, .int .i64 0, .slice none 0 0] 6 rfl rfl rfl sz_24 rfl (by simp [Value.oneCell']) (Nat.le_of_ble_eq_true rfl) (fun o h1 h2 => by first | (simp; done) | (simp; omega)) (cs' := #[.int .i64 0, .int .i64 0, .int .i64 0, .int .i64 0, .int .i64 0, .slice none 0 0]) rfl ?_); intro w116 H117
        refine r_cons (s_assign (.int .i64 21) rfl rfl ?_)
        refine r_nil ?_
        refine g_ret' [.agg #[.int .i64 0, .int .i64 0, .int .i64 0, .int .i64 0, .int .i64 0, .slice none 0 0], .int .i64 21] Try.func34 Try.results34 ⟨(res_cellN rfl ag_24 (H117.blk_at (i := 1) rfl) (Nat.le_of_ble_eq_true rfl) rfl), rfl, trivial⟩ ?_
        have H118 : St W w116 (RSrc b (R.drop (srcN R 2)) :: (F.set i emp)) := (((H117.move 2 rfl).drop 1 rfl).drop 1 rfl)
        have hr : rdE R = 21 := rdE_b hc9 (show ¬ (srcU R 2 = 1 ∨ srcU R 2 = 2) by omega)
        exact .inr ⟨by rw [hr]; exact by decide, _, _, _, _, _, _, _, _, (congrArg (fun z_ => Value.tuple #[.agg #[.int .i64 0, .int .i64 0, .int .i64 0, .int .i64 0, .int .i64 0, .slice none 0 0], Value.int .i64 z_]) hr.symm), _, St.back hi H118⟩
  · skip
    refine r_cons (s_neq true rfl rfl (nfalse hc9) rfl ?_)
    refine r_nil ?_
    refine g_true rfl ?_
    refine g_seq ?_
    refine g_region ?_
    refine r_cons (s_loadAgg [.int .i64 0, .int .i64 0, .int .i64 0, .int .i64 0, .int .i64 0, .slice none 0 0] 6 ag_24 rfl (H8.blk_at (i := 0) rfl) (Nat.le_of_ble_eq_true rfl) rfl rfl ?_)
    refine r_cons (s_move (.int .i64 (srcE R 2)) rfl rfl ?_)
    refine r_cons (s_storeAgg H8 1 #[.int .i64 0, .int .i64 0, .int .i64 0, .int .i64 0, .int .i64 0, .slice none 0 0] 6 rfl rfl rfl sz_24 rfl (by simp [Value.oneCell']) (Nat.le_of_ble_eq_true rfl) (fun o h1 h2 => by first | (simp; done) | (simp; omega)) (cs' := #[.int .i64 0, .int .i64 0, .int .i64 0, .int .i64 0, .int .i64 0, .slice none 0 0]) rfl ?_); intro w119 H120
    refine r_cons (s_assign (.int .i64 (srcE R 2)) rfl rfl ?_)
    refine r_nil ?_
    refine g_ret' [.agg #[.int .i64 0, .int .i64 0, .int .i64 0, .int .i64 0, .int .i64 0, .slice none 0 0], .int .i64 (srcE R 2)] Try.func34 Try.results34 ⟨(res_cellN rfl ag_24 (H120.blk_at (i := 1) rfl) (Nat.le_of_ble_eq_true rfl) rfl), rfl, trivial⟩ ?_
    have H121 : St W w119 (RSrc b (R.drop (srcN R 2)) :: (F.set i emp)) := (((H120.move 2 rfl).drop 1 rfl).drop 1 rfl)
    have hr : rdE R = srcE R 2 := rdE_a hc9
    exact .inr ⟨by rw [hr]; exact hc9, _, _, _, _, _, _, _, _, (congrArg (fun z_ => Value.tuple #[.agg #[.int .i64 0, .int .i64 0, .int .i64 0, .int .i64 0, .int .i64 0, .slice none 0 0], Value.int .i64 z_]) hr.symm), _, St.back hi H121⟩
set_option maxHeartbeats 4000000 in
set_option maxRecDepth 100000 in
theorem ref02_Decode {W w : World} {F : List Atom} (bs : List UInt8) (bv : Value) (hb : bs.length ≤ 17592186044416) {j : Nat} (hj : F[j]? = some (Im 1 bv bs.length (bs.flatMap u8c))) (H : St W w F) : Calls Try.prog 11 #[bv] w (Ret fun v w' => ∃ q n c, v = .tuple #[.agg #[.int .i64 ((decV bs).frm.v), .int .i64 ((decV bs).to_.v), .int .i64 ((decV bs).kind.v), .int .i64 ((decV bs).seq.v), .int .i64 ((decV bs).ack.v), .slice q n c], .int .i64 (decE bs)] ∧ n = (decV bs).body.length ∧ St W w' (Row 5 1 (.slice q n c) n ((decV bs).body.flatMap u8c) :: F)) := by
  obtain ⟨pA1, cA2, gA3, oA4, kA5, eA6, zA7, rfl, hn8, hp9, hx10, hs11, hml, H12⟩ := Im.open_ H hj
  have H13 := H12.dup (i := j + 1) (by exact hj) (Im_pers _ _ _ _)
  refine calls_of_go (n := 89) Try.func11 rfl Try.ntmps11 rfl ?_
  refine g_seq ?_
  refine g_region ?_
  refine r_cons (s_alloc H13 24 ze_24 rfl ?_); intro bk14 w15 H16
  refine r_cons (s_assign (.int .i64 0) rfl rfl ?_)
  refine r_nil ?_
  refine g_seq ?_
  refine g_seq ?_
  refine g_region ?_
  refine r_cons (s_move (.slice pA1 bs.length cA2) rfl rfl ?_)
  refine r_cons (s_len bs.length rfl ⟨_, un_22⟩ rfl ?_)
  by_cases hc17 : (bs.length : Int) < 6
  · skip
    refine r_cons (s_lss true rfl rfl (dtrue hc17) rfl ?_)
    refine r_nil ?_
    refine g_true rfl ?_
    refine g_seq ?_
    refine g_region ?_
    refine r_cons (s_build (cs := #[.int .i64 0, .int .i64 0, .int .i64 0, .int .i64 0, .int .i64 0, .slice none 0 0]) (by kernel_rfl) rfl ?_)
    refine r_cons (s_storeAgg H16 0 #[.int .i64 0, .int .i64 0, .int .i64 0, .int .i64 0, .int .i64 0, .slice none 0 0] 6 rfl rfl rfl sz_24 rfl (by simp [Value.oneCell']) (Nat.le_of_ble_eq_true rfl) (fun o h1 h2 => by first | (simp; done) | (simp; omega)) (cs' := #[.int .i64 0, .int .i64 0, .int .i64 0, .int .i64 0, .int .i64 0, .slice none 0 0]) rfl ?_); intro w18 H19
    refine r_cons (s_assign (.int .i64 10) rfl rfl ?_)
    refine r_nil ?_
    refine g_ret' [.agg #[.int .i64 0, .int .i64 0, .int .i64 0, .int .i64 0, .int .i64 0, .slice none 0 0], .int .i64 10] Try.func11 Try.results11 ⟨(res_cellN rfl ag_24 (H19.blk_at (i := 0) rfl) (Nat.le_of_ble_eq_true rfl) rfl), rfl, trivial⟩ ?_
    have hD : decE bs = 10 := decE_10 (by omega)
    have H20 : St W w18 F := (((H19.drop 0 rfl).drop 0 rfl).drop 0 rfl)
    have hV := decV_no (bs := bs) (by rw [hD]; decide)
    have H21 := Row.nil_intro H20 5 1
    exact ⟨none, 0, 0, by rw [hD, hV]; rfl, by rw [hV]; rfl, by rw [hV]; exact H21⟩
  · skip
    refine r_cons (s_lss false rfl rfl (dfalse hc17) rfl ?_)
    refine r_nil ?_
    refine g_false rfl ?_
    refine g_skip ?_
    refine g_seq ?_
    refine g_region ?_
    refine r_cons (s_move (.slice pA1 bs.length cA2) rfl rfl ?_)
    refine r_cons (s_len bs.length rfl ⟨_, un_22⟩ rfl ?_)
    refine r_cons (s_sub ((bs.length - 4 : Nat) : Int) rfl rfl ((wi64 (by omega)).trans (by omega)) rfl ?_)
    refine r_cons (s_assign (.int .i64 ((bs.length - 4 : Nat) : Int)) rfl rfl ?_)
    refine r_nil ?_
    refine g_seq ?_
    refine g_seq ?_
    refine g_region ?_
    refine r_cons (s_move (.slice pA1 bs.length cA2) rfl rfl ?_)
    refine r_cons (s_move (.int .i64 ((bs.length - 4 : Nat) : Int)) rfl rfl ?_)
    have hc22 := Im.cap H16 (i := 1) rfl
    refine r_cons (s_slice_h pA1 ((bs.length - 4 : Nat) : Int) 1 (.slice pA1 (bs.length - 4) cA2) rfl rfl el_22 (by omega) (by first | rfl | (congr 1; omega)) rfl ?_)
    have H23 : St W w15 (Im 1 (.slice pA1 (bs.length - 4) cA2) (bs.length - 4) ((bs.take (bs.length - 4)).flatMap u8c) :: blk bk14 (.cells #[.int .i64 0, .int .i64 0, .int .i64 0, .int .i64 0, .int .i64 0, .slice none 0 0] 24 (0, 0)) :: Im 1 (.slice pA1 bs.length cA2) bs.length (bs.flatMap u8c) :: imi (0 < bs.length) gA3 (.cells kA5 eA6 zA7) :: F) := Im.cut_h u8c_len (bs.length - 4) H16 (i := 1) rfl (by omega)
    have H24 : St W w15 (Im 1 (.slice pA1 (bs.length - 4) cA2) ((headOf bs).length) ((headOf bs).flatMap u8c) :: blk bk14 (.cells #[.int .i64 0, .int .i64 0, .int .i64 0, .int .i64 0, .int .i64 0, .slice none 0 0] 24 (0, 0)) :: Im 1 (.slice pA1 bs.length cA2) bs.length (bs.flatMap u8c) :: imi (0 < bs.length) gA3 (.cells kA5 eA6 zA7) :: F) := by rw [headOf_len]; exact H23
    have hhl := headOf_len bs
    have hsl := sumN_lt (headOf bs)
    refine r_cons (s_call [.slice pA1 (bs.length - 4) cA2] pl_21 rfl rfl (ref02_Sum_im (headOf bs) _ (j := 0) rfl H24) ?_)
    rintro _ w25 ⟨rfl, H26⟩
    refine r_cons (s_assign (.int .u32 ((sumN (headOf bs) : Nat) : Int)) rfl rfl ?_)
    refine r_nil ?_
    refine g_seq ?_
    refine g_region ?_
    refine r_cons (s_move (.slice pA1 bs.length cA2) rfl rfl ?_)
    refine r_cons (s_move (.int .i64 ((bs.length - 4 : Nat) : Int)) rfl rfl ?_)
    refine r_cons (s_indexAddr gA3 (off := oA4) ((bs.length - 4 : Nat) : Int) 1 (oA4 + (bs.length - 4) * 1) (by exact congrArg (fun z_ => Value.slice z_ bs.length cA2) (hp9 (by omega))) rfl el_22 (by omega) (by rw [show (((bs.length - 4 : Nat) : Int) : Int).toNat = bs.length - 4 from by omega]) rfl ?_)
    refine r_cons (s_load (.int .u8 ((bs.getD (bs.length - 4) 0).toNat : Int)) ag_5 rfl (H26.imi_at (i := 3) rfl (by omega)) (elem_cell (L := bs) (i := bs.length - 4) u8c_len (hx10 (by omega)) (by omega) 0 0 (by decide) _ rfl) rfl ?_)
    refine r_cons (s_move (.int .u32 ((sumN (headOf bs) : Nat) : Int)) rfl rfl ?_)
    refine r_cons (s_shr (((sumN (headOf bs)) / 2 ^ 24 : Nat) : Int) rfl rfl (by omega) (shr_nat (k := 24) rfl (by decide)) rfl ?_)
    refine r_cons (s_conv (((sumN (headOf bs)) / 2 ^ 24 : Nat) : Int) rfl us_37 ik_5 (wu8 (by omega)) rfl ?_)
    by_cases hc27 : ((bs.getD (bs.length - 4) 0).toNat : Int) = (((sumN (headOf bs)) / 2 ^ 24 : Nat) : Int)
    · skip
      refine r_cons (s_neq false rfl rfl (ntrue hc27) rfl ?_)
      refine r_cons (s_move (.bool false) rfl rfl ?_)
      refine r_cons (r_take rfl rfl ?_)
      refine s_move (.slice pA1 bs.length cA2) rfl rfl ?_
      refine r_cons (r_take rfl rfl ?_)
      refine s_move (.int .i64 ((bs.length - 4 : Nat) : Int)) rfl rfl ?_
      refine r_cons (r_take rfl rfl ?_)
      refine s_add (((bs.length - 4 : Nat) : Int) + 1) rfl rfl (wi64 (by omega)) rfl ?_
      refine r_cons (r_take rfl rfl ?_)
      refine s_indexAddr gA3 (off := oA4) (((bs.length - 4 : Nat) : Int) + 1) 1 (oA4 + (bs.length - 4 + 1) * 1) (by exact congrArg (fun z_ => Value.slice z_ bs.length cA2) (hp9 (by omega))) rfl el_22 (by omega) (by rw [show (((bs.length - 4 : Nat) : Int) + 1 : Int).toNat = bs.length - 4 + 1 from by omega]) rfl ?_
      refine r_cons (r_take rfl rfl ?_)
      refine s_load (.int .u8 ((bs.getD (bs.length - 4 + 1) 0).toNat : Int)) ag_5 rfl (H26.imi_at (i := 3) rfl (by omega)) (elem_cell (L := bs) (i := bs.length - 4 + 1) u8c_len (hx10 (by omega)) (by omega) 0 0 (by decide) _ rfl) rfl ?_
      refine r_cons (r_take rfl rfl ?_)
      refine s_move (.int .u32 ((sumN (headOf bs) : Nat) : Int)) rfl rfl ?_
      refine r_cons (r_take rfl rfl ?_)
      refine s_shr (((sumN (headOf bs)) / 2 ^ 16 : Nat) : Int) rfl rfl (by omega) (shr_nat (k := 16) rfl (by decide)) rfl ?_
      refine r_cons (r_take rfl rfl ?_)
      refine s_conv (((sumN (headOf bs)) / 2 ^ 16 % 256 : Nat) : Int) rfl us_37 ik_5 (wrap8 _) rfl ?_
      refine r_cons (r_take rfl rfl ?_)
      by_cases hc28 : ((bs.getD (bs.length - 4 + 1) 0).toNat : Int) = (((sumN (headOf bs)) / 2 ^ 16 % 256 : Nat) : Int)
      · skip
        refine s_neq false rfl rfl (ntrue hc28) rfl ?_
        refine r_cons (s_pick_f (.bool false) rfl rfl rfl ?_)
        refine r_cons (s_move (.bool false) rfl rfl ?_)
        refine r_cons (r_take rfl rfl ?_)
        refine s_move (.slice pA1 bs.length cA2) rfl rfl ?_
        refine r_cons (r_take rfl rfl ?_)
        refine s_move (.int .i64 ((bs.length - 4 : Nat) : Int)) rfl rfl ?_
        refine r_cons (r_take rfl rfl ?_)
        refine s_add (((bs.length - 4 : Nat) : Int) + 2) rfl rfl (wi64 (by omega)) rfl ?_
        refine r_cons (r_take rfl rfl ?_)
        refine s_indexAddr gA3 (off := oA4) (((bs.length - 4 : Nat) : Int) + 2) 1 (oA4 + (bs.length - 4 + 2) * 1) (by exact congrArg (fun z_ => Value.slice z_ bs.length cA2) (hp9 (by omega))) rfl el_22 (by omega) (by rw [show (((bs.length - 4 : Nat) : Int) + 2 : Int).toNat = bs.length - 4 + 2 from by omega]) rfl ?_
        refine r_cons (r_take rfl rfl ?_)
        refine s_load (.int .u8 ((bs.getD (bs.length - 4 + 2) 0).toNat : Int)) ag_5 rfl (H26.imi_at (i := 3) rfl (by omega)) (elem_cell (L := bs) (i := bs.length - 4 + 2) u8c_len (hx10 (by omega)) (by omega) 0 0 (by decide) _ rfl) rfl ?_
        refine r_cons (r_take rfl rfl ?_)
        refine s_move (.int .u32 ((sumN (headOf bs) : Nat) : Int)) rfl rfl ?_
        refine r_cons (r_take rfl rfl ?_)
        refine s_shr (((sumN (headOf bs)) / 2 ^ 8 : Nat) : Int) rfl rfl (by omega) (shr_nat (k := 8) rfl (by decide)) rfl ?_
        refine r_cons (r_take rfl rfl ?_)
        refine s_conv (((sumN (headOf bs)) / 2 ^ 8 % 256 : Nat) : Int) rfl us_37 ik_5 (wrap8 _) rfl ?_
        refine r_cons (r_take rfl rfl ?_)
        by_cases hc29 : ((bs.getD (bs.length - 4 + 2) 0).toNat : Int) = (((sumN (headOf bs)) / 2 ^ 8 % 256 : Nat) : Int)
        · skip
          refine s_neq false rfl rfl (ntrue hc29) rfl ?_
          refine r_cons (s_pick_f (.bool false) rfl rfl rfl ?_)
          refine r_cons (s_move (.bool false) rfl rfl ?_)
          refine r_cons (r_take rfl rfl ?_)
          refine s_move (.slice pA1 bs.length cA2) rfl rfl ?_
          refine r_cons (r_take rfl rfl ?_)
          refine s_move (.int .i64 ((bs.length - 4 : Nat) : Int)) rfl rfl ?_
          refine r_cons (r_take rfl rfl ?_)
          refine s_add (((bs.length - 4 : Nat) : Int) + 3) rfl rfl (wi64 (by omega)) rfl ?_
          refine r_cons (r_take rfl rfl ?_)
          refine s_indexAddr gA3 (off := oA4) (((bs.length - 4 : Nat) : Int) + 3) 1 (oA4 + (bs.length - 4 + 3) * 1) (by exact congrArg (fun z_ => Value.slice z_ bs.length cA2) (hp9 (by omega))) rfl el_22 (by omega) (by rw [show (((bs.length - 4 : Nat) : Int) + 3 : Int).toNat = bs.length - 4 + 3 from by omega]) rfl ?_
          refine r_cons (r_take rfl rfl ?_)
          refine s_load (.int .u8 ((bs.getD (bs.length - 4 + 3) 0).toNat : Int)) ag_5 rfl (H26.imi_at (i := 3) rfl (by omega)) (elem_cell (L := bs) (i := bs.length - 4 + 3) u8c_len (hx10 (by omega)) (by omega) 0 0 (by decide) _ rfl) rfl ?_
          refine r_cons (r_take rfl rfl ?_)
          refine s_move (.int .u32 ((sumN (headOf bs) : Nat) : Int)) rfl rfl ?_
          refine r_cons (r_take rfl rfl ?_)
          refine s_conv ((sumN (headOf bs) % 256 : Nat) : Int) rfl us_37 ik_5 (wrap8 _) rfl ?_
          refine r_cons (r_take rfl rfl ?_)
          by_cases hc30 : ((bs.getD (bs.length - 4 + 3) 0).toNat : Int) = ((sumN (headOf bs) % 256 : Nat) : Int)
          · skip
            refine s_neq false rfl rfl (ntrue hc30) rfl ?_
            refine r_cons (s_pick_f (.bool false) rfl rfl rfl ?_)
            refine r_nil ?_
            refine g_false rfl ?_
            refine g_skip ?_
            refine g_seq ?_
            refine g_region ?_
            refine r_cons (s_move (.slice pA1 bs.length cA2) rfl rfl ?_)
            refine r_cons (s_move (.int .i64 ((bs.length - 4 : Nat) : Int)) rfl rfl ?_)
            have hc31 := Im.cap H26 (i := 2) rfl
            refine r_cons (s_slice_h pA1 ((bs.length - 4 : Nat) : Int) 1 (.slice pA1 (bs.length - 4) cA2) rfl rfl el_22 (by omega) (by first | rfl | (congr 1; omega)) rfl ?_)
            have H32 : St W w25 (Im 1 (.slice pA1 (bs.length - 4) cA2) (bs.length - 4) ((bs.take (bs.length - 4)).flatMap u8c) :: Im 1 (.slice pA1 (bs.length - 4) cA2) ((headOf bs).length) ((headOf bs).flatMap u8c) :: blk bk14 (.cells #[.int .i64 0, .int .i64 0, .int .i64 0, .int .i64 0, .int .i64 0, .slice none 0 0] 24 (0, 0)) :: Im 1 (.slice pA1 bs.length cA2) bs.length (bs.flatMap u8c) :: imi (0 < bs.length) gA3 (.cells kA5 eA6 zA7) :: F) := Im.cut_h u8c_len (bs.length - 4) H26 (i := 2) rfl (by omega)
            have H33 := H32.drop 0 rfl
            refine r_cons (s_call [.slice pA1 (bs.length - 4) cA2] pl_33 rfl rfl (RSrc_New (headOf bs) _ (by omega) (j := 0) rfl H33) ?_)
            rintro _ w35 ⟨bk34, rfl, H36⟩
            refine r_cons (s_assign (.pointer (some ⟨bk34, 0, none⟩)) rfl rfl ?_)
            refine r_nil ?_
            refine g_seq ?_
            refine g_region ?_
            refine r_cons (s_move (.pointer (some ⟨bk34, 0, none⟩)) rfl rfl ?_)
            refine r_cons (s_call [.pointer (some ⟨bk34, 0, none⟩)] pl_34 rfl rfl (ref02_read bk34 (bitsOf (headOf bs)) (i := 0) rfl H36) ?_)
            rintro _ w48 (⟨he37, pp39, _, cc40, rfl, rfl, H38⟩ | ⟨he37, x42, x43, x44, x45, x46, pp39, NN41, cc40, rfl, RR47, H38⟩)
            · skip
              refine r_cons (s_move (.tuple #[.agg #[.int .i64 ((frW (bitsOf (headOf bs))).frm.v), .int .i64 ((frW (bitsOf (headOf bs))).to_.v), .int .i64 ((frW (bitsOf (headOf bs))).kind.v), .int .i64 ((frW (bitsOf (headOf bs))).seq.v), .int .i64 ((frW (bitsOf (headOf bs))).ack.v), .slice pp39 ((frW (bitsOf (headOf bs))).body.length) cc40], .int .i64 0]) rfl rfl ?_)
              refine r_cons (s_extract (.agg #[.int .i64 ((frW (bitsOf (headOf bs))).frm.v), .int .i64 ((frW (bitsOf (headOf bs))).to_.v), .int .i64 ((frW (bitsOf (headOf bs))).kind.v), .int .i64 ((frW (bitsOf (headOf bs))).seq.v), .int .i64 ((frW (bitsOf (headOf bs))).ack.v), .slice pp39 ((frW (bitsOf (headOf bs))).body.length) cc40]) #[.agg #[.int .i64 ((frW (bitsOf (headOf bs))).frm.v), .int .i64 ((frW (bitsOf (headOf bs))).to_.v), .int .i64 ((frW (bitsOf (headOf bs))).kind.v), .int .i64 ((frW (bitsOf (headOf bs))).seq.v), .int .i64 ((frW (bitsOf (headOf bs))).ack.v), .slice pp39 ((frW (bitsOf (headOf bs))).body.length) cc40], .int .i64 0] rfl rfl rfl ?_)
              refine r_cons (s_extract (.int .i64 0) #[.agg #[.int .i64 ((frW (bitsOf (headOf bs))).frm.v), .int .i64 ((frW (bitsOf (headOf bs))).to_.v), .int .i64 ((frW (bitsOf (headOf bs))).kind.v), .int .i64 ((frW (bitsOf (headOf bs))).seq.v), .int .i64 ((frW (bitsOf (headOf bs))).ack.v), .slice pp39 ((frW (bitsOf (headOf bs))).body.length) cc40], .int .i64 0] rfl rfl rfl ?_)
              refine r_cons (s_alloc H38 24 ze_24 rfl ?_); intro bk49 w50 H51
              refine r_cons (s_storeAgg H51 0 #[.int .i64 ((frW (bitsOf (headOf bs))).frm.v), .int .i64 ((frW (bitsOf (headOf bs))).to_.v), .int .i64 ((frW (bitsOf (headOf bs))).kind.v), .int .i64 ((frW (bitsOf (headOf bs))).seq.v), .int .i64 ((frW (bitsOf (headOf bs))).ack.v), .slice pp39 ((frW (bitsOf (headOf bs))).body.length) cc40] 6 rfl rfl rfl sz_24 rfl (by simp [Value.oneCell']) (Nat.le_of_ble_eq_true rfl) (fun o h1 h2 => by first | (simp; done) | (simp; omega)) (cs' := #[.int .i64 ((frW (bitsOf (headOf bs))).frm.v), .int .i64 ((frW (bitsOf (headOf bs))).to_.v), .int .i64 ((frW (bitsOf (headOf bs))).kind.v), .int .i64 ((frW (bitsOf (headOf bs))).seq.v), .int .i64 ((frW (bitsOf (headOf bs))).ack.v), .slice pp39 ((frW (bitsOf (headOf bs))).body.length) cc40]) rfl ?_); intro w52 H53
              refine r_cons (s_assign (.int .i64 0) rfl rfl ?_)
              refine r_nil ?_
              refine g_seq ?_
              refine g_seq ?_
              refine g_region ?_
              refine r_cons (s_move (.int .i64 0) rfl rfl ?_)
              refine r_cons (s_neq false rfl rfl (ntrue (by decide)) rfl ?_)
              refine r_nil ?_
              refine g_false rfl ?_
              refine g_skip ?_
              refine g_seq ?_
              refine g_seq ?_
              refine g_region ?_
              refine r_cons (s_move (.pointer (some ⟨bk34, 0, none⟩)) rfl rfl ?_)
              refine r_cons (s_call [.pointer (some ⟨bk34, 0, none⟩)] pl_35 rfl rfl (RSrc_End bk34 (frEnd (bitsOf (headOf bs)))   (i := 2) rfl H53) ?_)
              rintro _ w54 ⟨rfl, H55⟩
              refine r_cons (s_assign (.int .i64 (endE (frEnd (bitsOf (headOf bs))))) rfl rfl ?_)
              refine r_nil ?_
              refine g_seq ?_
              refine g_region ?_
              refine r_cons (s_move (.int .i64 (endE (frEnd (bitsOf (headOf bs))))) rfl rfl ?_)
              by_cases hc56 : endE (frEnd (bitsOf (headOf bs))) = 0
              · skip
                refine r_cons (s_neq false rfl rfl (ntrue hc56) rfl ?_)
                refine r_nil ?_
                refine g_false rfl ?_
                refine g_skip ?_
                refine g_seq ?_
                refine g_seq ?_
                refine g_region ?_
                refine r_cons (s_loadAgg [.int .i64 ((frW (bitsOf (headOf bs))).frm.v), .int .i64 ((frW (bitsOf (headOf bs))).to_.v), .int .i64 ((frW (bitsOf (headOf bs))).kind.v), .int .i64 ((frW (bitsOf (headOf bs))).seq.v), .int .i64 ((frW (bitsOf (headOf bs))).ack.v), .slice pp39 ((frW (bitsOf (headOf bs))).body.length) cc40] 6 ag_24 rfl (H55.blk_at (i := 0) rfl) (Nat.le_of_ble_eq_true rfl) rfl rfl ?_)
                refine r_cons (s_call [.agg #[.int .i64 ((frW (bitsOf (headOf bs))).frm.v), .int .i64 ((frW (bitsOf (headOf bs))).to_.v), .int .i64 ((frW (bitsOf (headOf bs))).kind.v), .int .i64 ((frW (bitsOf (headOf bs))).seq.v), .int .i64 ((frW (bitsOf (headOf bs))).ack.v), .slice pp39 ((frW (bitsOf (headOf bs))).body.length) cc40]] pl_25 rfl rfl (eyrieref02_Check (frW (bitsOf (headOf bs))) _ RdA.row (j := 1) rfl H55) ?_)
                rintro _ w57 ⟨rfl, H58⟩
                refine r_cons (s_assign (.int .i64 (dgE (frW (bitsOf (headOf bs))))) rfl rfl ?_)
                refine r_nil ?_
                refine g_seq ?_
                refine g_region ?_
                refine r_cons (s_move (.int .i64 (dgE (frW (bitsOf (headOf bs))))) rfl rfl ?_)
                by_cases hc59 : dgE (frW (bitsOf (headOf bs))) = 0
                · skip
                  refine r_cons (s_neq false rfl rfl (ntrue hc59) rfl ?_)
                  refine r_nil ?_
                  refine g_false rfl ?_
                  refine g_skip ?_
                  refine g_seq ?_
                  refine g_region ?_
                  refine r_cons (s_loadAgg [.int .i64 ((frW (bitsOf (headOf bs))).frm.v), .int .i64 ((frW (bitsOf (headOf bs))).to_.v), .int .i64 ((frW (bitsOf (headOf bs))).kind.v), .int .i64 ((frW (bitsOf (headOf bs))).seq.v), .int .i64 ((frW (bitsOf (headOf bs))).ack.v), .slice pp39 ((frW (bitsOf (headOf bs))).body.length) cc40] 6 ag_24 rfl (H58.blk_at (i := 0) rfl) (Nat.le_of_ble_eq_true rfl) rfl rfl ?_)
                  refine r_cons (s_storeAgg H58 4 #[.int .i64 ((frW (bitsOf (headOf bs))).frm.v), .int .i64 ((frW (bitsOf (headOf bs))).to_.v), .int .i64 ((frW (bitsOf (headOf bs))).kind.v), .int .i64 ((frW (bitsOf (headOf bs))).seq.v), .int .i64 ((frW (bitsOf (headOf bs))).ack.v), .slice pp39 ((frW (bitsOf (headOf bs))).body.length) cc40] 6 rfl rfl rfl sz_24 rfl (by simp [Value.oneCell']) (Nat.le_of_ble_eq_true rfl) (fun o h1 h2 => by first | (simp; done) | (simp; omega)) (cs' := #[.int .i64 ((frW (bitsOf (headOf bs))).frm.v), .int .i64 ((frW (bitsOf (headOf bs))).to_.v), .int .i64 ((frW (bitsOf (headOf bs))).kind.v), .int .i64 ((frW (bitsOf (headOf bs))).seq.v), .int .i64 ((frW (bitsOf (headOf bs))).ack.v), .slice pp39 ((frW (bitsOf (headOf bs))).body.length) cc40]) rfl ?_); intro w60 H61
                  refine r_cons (s_assign (.int .i64 0) rfl rfl ?_)
                  refine r_nil ?_
                  refine g_ret' [.agg #[.int .i64 ((frW (bitsOf (headOf bs))).frm.v), .int .i64 ((frW (bitsOf (headOf bs))).to_.v), .int .i64 ((frW (bitsOf (headOf bs))).kind.v), .int .i64 ((frW (bitsOf (headOf bs))).seq.v), .int .i64 ((frW (bitsOf (headOf bs))).ack.v), .slice pp39 ((frW (bitsOf (headOf bs))).body.length) cc40], .int .i64 0] Try.func11 Try.results11 ⟨(res_cellN rfl ag_24 (H61.blk_at (i := 4) rfl) (Nat.le_of_ble_eq_true rfl) rfl), rfl, trivial⟩ ?_
                  have hD : decE bs = 0 := (decE_fr (by omega) ((tail_is (by omega) hsl).2 ⟨by omega, by omega, by omega, by omega⟩)).trans ((frE_dg he37 hc56).trans (frW_dgE.symm.trans hc59))
                  have H62 : St W w60 (Row 5 1 (.slice pp39 ((frW (bitsOf (headOf bs))).body.length) cc40) ((frW (bitsOf (headOf bs))).body.length) ((frW (bitsOf (headOf bs))).body.flatMap u8c) :: F) := (((((((H61.move 1 rfl).drop 1 rfl).drop 1 rfl).drop 1 rfl).drop 1 rfl).drop 1 rfl).drop 1 rfl)
                  have hV : decV bs = frW (bitsOf (headOf bs)) := (decV_yes hD).trans (frW_is hc59).symm
                  exact ⟨_, _, _, by rw [hD, hV]; rfl, by rw [hV], by rw [hV]; exact H62⟩
                · skip
                  refine r_cons (s_neq true rfl rfl (nfalse hc59) rfl ?_)
                  refine r_nil ?_
                  refine g_true rfl ?_
                  refine g_seq ?_
                  refine g_region ?_
                  refine r_cons (s_build (cs := #[.int .i64 0, .int .i64 0, .int .i64 0, .int .i64 0, .int .i64 0, .slice none 0 0]) (by kernel_rfl) rfl ?_)
                  refine r_cons (s_move (.int .i64 (dgE (frW (bitsOf (headOf bs))))) rfl rfl ?_)
                  refine r_cons (s_storeAgg H58 4 #[.int .i64 0, .int .i64 0, .int .i64 0, .int .i64 0, .int .i64 0, .slice none 0 0] 6 rfl rfl rfl sz_24 rfl (by simp [Value.oneCell']) (Nat.le_of_ble_eq_true rfl) (fun o h1 h2 => by first | (simp; done) | (simp; omega)) (cs' := #[.int .i64 0, .int .i64 0, .int .i64 0, .int .i64 0, .int .i64 0, .slice none 0 0]) rfl ?_); intro w63 H64
                  refine r_cons (s_assign (.int .i64 (dgE (frW (bitsOf (headOf bs))))) rfl rfl ?_)
                  refine r_nil ?_
                  refine g_ret' [.agg #[.int .i64 0, .int .i64 0, .int .i64 0, .int .i64 0, .int .i64 0, .slice none 0 0], .int .i64 (dgE (frW (bitsOf (headOf bs))))] Try.func11 Try.results11 ⟨(res_cellN rfl ag_24 (H64.blk_at (i := 4) rfl) (Nat.le_of_ble_eq_true rfl) rfl), rfl, trivial⟩ ?_
                  have hD : decE bs = dgE (frW (bitsOf (headOf bs))) := (decE_fr (by omega) ((tail_is (by omega) hsl).2 ⟨by omega, by omega, by omega, by omega⟩)).trans ((frE_dg he37 hc56).trans (frW_dgE.symm))
                  have H65 : St W w63 F := (((((((H64.drop 0 rfl).drop 0 rfl).drop 0 rfl).drop 0 rfl).drop 0 rfl).drop 0 rfl).drop 0 rfl)
                  have hV := decV_no (bs := bs) (by rw [hD]; exact hc59)
                  have H66 := Row.nil_intro H65 5 1
                  exact ⟨none, 0, 0, by rw [hD, hV]; rfl, by rw [hV]; rfl, by rw [hV]; exact H66⟩
              · skip
                refine r_cons (s_neq true rfl rfl (nfalse hc56) rfl ?_)
                refine r_nil ?_
                refine g_true rfl ?_
                refine g_seq ?_
                refine g_region ?_
                refine r_cons (s_build (cs := #[.int .i64 0, .int .i64 0, .int .i64 0, .int .i64 0, .int .i64 0, .slice none 0 0]) (by kernel_rfl) rfl ?_)
                refine r_cons (s_move (.int .i64 (endE (frEnd (bitsOf (headOf bs))))) rfl rfl ?_)
                refine r_cons (s_storeAgg H55 4 #[.int .i64 0, .int .i64 0, .int .i64 0, .int .i64 0, .int .i64 0, .slice none 0 0] 6 rfl rfl rfl sz_24 rfl (by simp [Value.oneCell']) (Nat.le_of_ble_eq_true rfl) (fun o h1 h2 => by first | (simp; done) | (simp; omega)) (cs' := #[.int .i64 0, .int .i64 0, .int .i64 0, .int .i64 0, .int .i64 0, .slice none 0 0]) rfl ?_); intro w67 H68
                refine r_cons (s_assign (.int .i64 (endE (frEnd (bitsOf (headOf bs))))) rfl rfl ?_)
                refine r_nil ?_
                refine g_ret' [.agg #[.int .i64 0, .int .i64 0, .int .i64 0, .int .i64 0, .int .i64 0, .slice none 0 0], .int .i64 (endE (frEnd (bitsOf (headOf bs))))] Try.func11 Try.results11 ⟨(res_cellN rfl ag_24 (H68.blk_at (i := 4) rfl) (Nat.le_of_ble_eq_true rfl) rfl), rfl, trivial⟩ ?_
                have hD : decE bs = endE (frEnd (bitsOf (headOf bs))) := (decE_fr (by omega) ((tail_is (by omega) hsl).2 ⟨by omega, by omega, by omega, by omega⟩)).trans (frE_end he37 hc56)
                have H69 : St W w67 F := (((((((H68.drop 0 rfl).drop 0 rfl).drop 0 rfl).drop 0 rfl).drop 0 rfl).drop 0 rfl).drop 0 rfl)
                have hV := decV_no (bs := bs) (by rw [hD]; exact hc56)
                have H70 := Row.nil_intro H69 5 1
                exact ⟨none, 0, 0, by rw [hD, hV]; rfl, by rw [hV]; rfl, by rw [hV]; exact H70⟩
            · skip
              refine r_cons (s_move (.tuple #[.agg #[.int .i64 x42, .int .i64 x43, .int .i64 x44, .int .i64 x45, .int .i64 x46, .slice pp39 NN41 cc40], .int .i64 (rdE (bitsOf (headOf bs)))]) rfl rfl ?_)
              refine r_cons (s_extract (.agg #[.int .i64 x42, .int .i64 x43, .int .i64 x44, .int .i64 x45, .int .i64 x46, .slice pp39 NN41 cc40]) #[.agg #[.int .i64 x42, .int .i64 x43, .int .i64 x44, .int .i64 x45, .int .i64 x46, .slice pp39 NN41 cc40], .int .i64 (rdE (bitsOf (headOf bs)))] rfl rfl rfl ?_)
              refine r_cons (s_extract (.int .i64 (rdE (bitsOf (headOf bs)))) #[.agg #[.int .i64 x42, .int .i64 x43, .int .i64 x44, .int .i64 x45, .int .i64 x46, .slice pp39 NN41 cc40], .int .i64 (rdE (bitsOf (headOf bs)))] rfl rfl rfl ?_)
              refine r_cons (s_alloc H38 24 ze_24 rfl ?_); intro bk71 w72 H73
              refine r_cons (s_storeAgg H73 0 #[.int .i64 x42, .int .i64 x43, .int .i64 x44, .int .i64 x45, .int .i64 x46, .slice pp39 NN41 cc40] 6 rfl rfl rfl sz_24 rfl (by simp [Value.oneCell']) (Nat.le_of_ble_eq_true rfl) (fun o h1 h2 => by first | (simp; done) | (simp; omega)) (cs' := #[.int .i64 x42, .int .i64 x43, .int .i64 x44, .int .i64 x45, .int .i64 x46, .slice pp39 NN41 cc40]) rfl ?_); intro w74 H75
              refine r_cons (s_assign (.int .i64 (rdE (bitsOf (headOf bs)))) rfl rfl ?_)
              refine r_nil ?_
              refine g_seq ?_
              refine g_seq ?_
              refine g_region ?_
              refine r_cons (s_move (.int .i64 (rdE (bitsOf (headOf bs)))) rfl rfl ?_)
              refine r_cons (s_neq true rfl rfl (nfalse (by omega)) rfl ?_)
              refine r_nil ?_
              refine g_true rfl ?_
              refine g_seq ?_
              refine g_region ?_
              refine r_cons (s_build (cs := #[.int .i64 0, .int .i64 0, .int .i64 0, .int .i64 0, .int .i64 0, .slice none 0 0]) (by kernel_rfl) rfl ?_)
              refine r_cons (s_move (.int .i64 (rdE (bitsOf (headOf bs)))) rfl rfl ?_)
              refine r_cons (s_storeAgg H75 3 #[.int .i64 0, .int .i64 0, .int .i64 0, .int .i64 0, .int .i64 0, .slice none 0 0] 6 rfl rfl rfl sz_24 rfl (by simp [Value.oneCell']) (Nat.le_of_ble_eq_true rfl) (fun o h1 h2 => by first | (simp; done) | (simp; omega)) (cs' := #[.int .i64 0, .int .i64 0, .int .i64 0, .int .i64 0, .int .i64 0, .slice none 0 0]) rfl ?_); intro w76 H77
              refine r_cons (s_assign (.int .i64 (rdE (bitsOf (headOf bs)))) rfl rfl ?_)
              refine r_nil ?_
              refine g_ret' [.agg #[.int .i64 0, .int .i64 0, .int .i64 0, .int .i64 0, .int .i64 0, .slice none 0 0], .int .i64 (rdE (bitsOf (headOf bs)))] Try.func11 Try.results11 ⟨(res_cellN rfl ag_24 (H77.blk_at (i := 3) rfl) (Nat.le_of_ble_eq_true rfl) rfl), rfl, trivial⟩ ?_
              have hD : decE bs = rdE (bitsOf (headOf bs)) := (decE_fr (by omega) ((tail_is (by omega) hsl).2 ⟨by omega, by omega, by omega, by omega⟩)).trans (frE_rd he37)
              have H78 : St W w76 F := ((((((H77.drop 0 rfl).drop 0 rfl).drop 0 rfl).drop 0 rfl).drop 0 rfl).drop 0 rfl)
              have hV := decV_no (bs := bs) (by rw [hD]; exact he37)
              have H79 := Row.nil_intro H78 5 1
              exact ⟨none, 0, 0, by rw [hD, hV]; rfl, by rw [hV]; rfl, by rw [hV]; exact H79⟩
          · skip
            refine s_neq true rfl rfl (nfalse hc30) rfl ?_
            refine r_cons (s_pick_f (.bool true) rfl rfl rfl ?_)
            refine r_nil ?_
            refine g_true rfl ?_
            refine g_seq ?_
            refine g_region ?_
            refine r_cons (s_build (cs := #[.int .i64 0, .int .i64 0, .int .i64 0, .int .i64 0, .int .i64 0, .slice none 0 0]) (by kernel_rfl) rfl ?_)
            refine r_cons (s_storeAgg H26 1 #[.int .i64 0, .int .i64 0, .int .i64 0, .int .i64 0, .int .i64 0, .slice none 0 0] 6 rfl rfl rfl sz_24 rfl (by simp [Value.oneCell']) (Nat.le_of_ble_eq_true rfl) (fun o h1 h2 => by first | (simp; done) | (simp; omega)) (cs' := #[.int .i64 0, .int .i64 0, .int .i64 0, .int .i64 0, .int .i64 0, .slice none 0 0]) rfl ?_); intro w80 H81
            refine r_cons (s_assign (.int .i64 20) rfl rfl ?_)
            refine r_nil ?_
            refine g_ret' [.agg #[.int .i64 0, .int .i64 0, .int .i64 0, .int .i64 0, .int .i64 0, .slice none 0 0], .int .i64 20] Try.func11 Try.results11 ⟨(res_cellN rfl ag_24 (H81.blk_at (i := 1) rfl) (Nat.le_of_ble_eq_true rfl) rfl), rfl, trivial⟩ ?_
            have hD : decE bs = 20 := decE_20 (by omega) (fun ht => by have hq := (tail_is (by omega) hsl).1 ht; omega)
            have H82 : St W w80 F := ((((H81.drop 0 rfl).drop 0 rfl).drop 0 rfl).drop 0 rfl)
            have hV := decV_no (bs := bs) (by rw [hD]; decide)
            have H83 := Row.nil_intro H82 5 1
            exact ⟨none, 0, 0, by rw [hD, hV]; rfl, by rw [hV]; rfl, by rw [hV]; exact H83⟩
        · skip
          refine s_neq true rfl rfl (nfalse hc29) rfl ?_
          refine r_cons (s_pick_f (.bool true) rfl rfl rfl ?_)
          refine r_cons (s_move (.bool true) rfl rfl ?_)
          refine r_cons (r_pass rfl rfl rfl rfl rfl ?_)
          refine r_cons (r_pass rfl rfl rfl rfl rfl ?_)
          refine r_cons (r_pass rfl rfl rfl rfl rfl ?_)
          refine r_cons (r_pass rfl rfl rfl rfl rfl ?_)
          refine r_cons (r_pass rfl rfl rfl rfl rfl ?_)
          refine r_cons (r_pass rfl rfl rfl rfl rfl ?_)
          refine r_cons (r_pass rfl rfl rfl rfl rfl ?_)
          refine r_cons (r_pass rfl rfl rfl rfl rfl ?_)
          refine r_cons (s_pick_t (.bool true) rfl rfl rfl ?_)
          refine r_nil ?_
          refine g_true rfl ?_
          refine g_seq ?_
          refine g_region ?_
          refine r_cons (s_build (cs := #[.int .i64 0, .int .i64 0, .int .i64 0, .int .i64 0, .int .i64 0, .slice none 0 0]) (by kernel_rfl) rfl ?_)
          refine r_cons (s_storeAgg H26 1 #[.int .i64 0, .int .i64 0, .int .i64 0, .int .i64 0, .int .i64 0, .slice none 0 0] 6 rfl rfl rfl sz_24 rfl (by simp [Value.oneCell']) (Nat.le_of_ble_eq_true rfl) (fun o h1 h2 => by first | (simp; done) | (simp; omega)) (cs' := #[.int .i64 0, .int .i64 0, .int .i64 0, .int .i64 0, .int .i64 0, .slice none 0 0]) rfl ?_); intro w84 H85
          refine r_cons (s_assign (.int .i64 20) rfl rfl ?_)
          refine r_nil ?_
          refine g_ret' [.agg #[.int .i64 0, .int .i64 0, .int .i64 0, .int .i64 0, .int .i64 0, .slice none 0 0], .int .i64 20] Try.func11 Try.results11 ⟨(res_cellN rfl ag_24 (H85.blk_at (i := 1) rfl) (Nat.le_of_ble_eq_true rfl) rfl), rfl, trivial⟩ ?_
          have hD : decE bs = 20 := decE_20 (by omega) (fun ht => by have hq := (tail_is (by omega) hsl).1 ht; omega)
          have H86 : St W w84 F := ((((H85.drop 0 rfl).drop 0 rfl).drop 0 rfl).drop 0 rfl)
          have hV := decV_no (bs := bs) (by rw [hD]; decide)
          have H87 := Row.nil_intro H86 5 1
          exact ⟨none, 0, 0, by rw [hD, hV]; rfl, by rw [hV]; rfl, by rw [hV]; exact H87⟩
      · skip
        refine s_neq true rfl rfl (nfalse hc28) rfl ?_
        refine r_cons (s_pick_f (.bool true) rfl rfl rfl ?_)
        refine r_cons (s_move (.bool true) rfl rfl ?_)
        refine r_cons (r_pass rfl rfl rfl rfl rfl ?_)
        refine r_cons (r_pass rfl rfl rfl rfl rfl ?_)
        refine r_cons (r_pass rfl rfl rfl rfl rfl ?_)
        refine r_cons (r_pass rfl rfl rfl rfl rfl ?_)
        refine r_cons (r_pass rfl rfl rfl rfl rfl ?_)
        refine r_cons (r_pass rfl rfl rfl rfl rfl ?_)
        refine r_cons (r_pass rfl rfl rfl rfl rfl ?_)
        refine r_cons (r_pass rfl rfl rfl rfl rfl ?_)
        refine r_cons (r_pass rfl rfl rfl rfl rfl ?_)
        refine r_cons (s_pick_t (.bool true) rfl rfl rfl ?_)
        refine r_cons (s_move (.bool true) rfl rfl ?_)
        refine r_cons (r_pass rfl rfl rfl rfl rfl ?_)
        refine r_cons (r_pass rfl rfl rfl rfl rfl ?_)
        refine r_cons (r_pass rfl rfl rfl rfl rfl ?_)
        refine r_cons (r_pass rfl rfl rfl rfl rfl ?_)
        refine r_cons (r_pass rfl rfl rfl rfl rfl ?_)
        refine r_cons (r_pass rfl rfl rfl rfl rfl ?_)
        refine r_cons (r_pass rfl rfl rfl rfl rfl ?_)
        refine r_cons (r_pass rfl rfl rfl rfl rfl ?_)
        refine r_cons (s_pick_t (.bool true) rfl rfl rfl ?_)
        refine r_nil ?_
        refine g_true rfl ?_
        refine g_seq ?_
        refine g_region ?_
        refine r_cons (s_build (cs := #[.int .i64 0, .int .i64 0, .int .i64 0, .int .i64 0, .int .i64 0, .slice none 0 0]) (by kernel_rfl) rfl ?_)
        refine r_cons (s_storeAgg H26 1 #[.int .i64 0, .int .i64 0, .int .i64 0, .int .i64 0, .int .i64 0, .slice none 0 0] 6 rfl rfl rfl sz_24 rfl (by simp [Value.oneCell']) (Nat.le_of_ble_eq_true rfl) (fun o h1 h2 => by first | (simp; done) | (simp; omega)) (cs' := #[.int .i64 0, .int .i64 0, .int .i64 0, .int .i64 0, .int .i64 0, .slice none 0 0]) rfl ?_); intro w88 H89
        refine r_cons (s_assign (.int .i64 20) rfl rfl ?_)
        refine r_nil ?_
        refine g_ret' [.agg #[.int .i64 0, .int .i64 0, .int .i64 0, .int .i64 0, .int .i64 0, .slice none 0 0], .int .i64 20] Try.func11 Try.results11 ⟨(res_cellN rfl ag_24 (H89.blk_at (i := 1) rfl) (Nat.le_of_ble_eq_true rfl) rfl), rfl, trivial⟩ ?_
        have hD : decE bs = 20 := decE_20 (by omega) (fun ht => by have hq := (tail_is (by omega) hsl).1 ht; omega)
        have H90 : St W w88 F := ((((H89.drop 0 rfl).drop 0 rfl).drop 0 rfl).drop 0 rfl)
        have hV := decV_no (bs := bs) (by rw [hD]; decide)
        have H91 := Row.nil_intro H90 5 1
        exact ⟨none, 0, 0, by rw [hD, hV]; rfl, by rw [hV]; rfl, by rw [hV]; exact H91⟩
    · skip
      refine r_cons (s_neq true rfl rfl (nfalse hc27) rfl ?_)
      refine r_cons (s_move (.bool true) rfl rfl ?_)
      refine r_cons (r_pass rfl rfl rfl rfl rfl ?_)
      refine r_cons (r_pass rfl rfl rfl rfl rfl ?_)
      refine r_cons (r_pass rfl rfl rfl rfl rfl ?_)
      refine r_cons (r_pass rfl rfl rfl rfl rfl ?_)
      refine r_cons (r_pass rfl rfl rfl rfl rfl ?_)
      refine r_cons (r_pass rfl rfl rfl rfl rfl ?_)
      refine r_cons (r_pass rfl rfl rfl rfl rfl ?_)
      refine r_cons (r_pass rfl rfl rfl rfl rfl ?_)
      refine r_cons (r_pass rfl rfl rfl rfl rfl ?_)
      refine r_cons (s_pick_t (.bool true) rfl rfl rfl ?_)
      refine r_cons (s_move (.bool true) rfl rfl ?_)
      refine r_cons (r_pass rfl rfl rfl rfl rfl ?_)
      refine r_cons (r_pass rfl rfl rfl rfl rfl ?_)
      refine r_cons (r_pass rfl rfl rfl rfl rfl ?_)
      refine r_cons (r_pass rfl rfl rfl rfl rfl ?_)
      refine r_cons (r_pass rfl rfl rfl rfl rfl ?_)
      refine r_cons (r_pass rfl rfl rfl rfl rfl ?_)
      refine r_cons (r_pass rfl rfl rfl rfl rfl ?_)
      refine r_cons (r_pass rfl rfl rfl rfl rfl ?_)
      refine r_cons (r_pass rfl rfl rfl rfl rfl ?_)
      refine r_cons (s_pick_t (.bool true) rfl rfl rfl ?_)
      refine r_cons (s_move (.bool true) rfl rfl ?_)
      refine r_cons (r_pass rfl rfl rfl rfl rfl ?_)
      refine r_cons (r_pass rfl rfl rfl rfl rfl ?_)
      refine r_cons (r_pass rfl rfl rfl rfl rfl ?_)
      refine r_cons (r_pass rfl rfl rfl rfl rfl ?_)
      refine r_cons (r_pass rfl rfl rfl rfl rfl ?_)
      refine r_cons (r_pass rfl rfl rfl rfl rfl ?_)
      refine r_cons (r_pass rfl rfl rfl rfl rfl ?_)
      refine r_cons (r_pass rfl rfl rfl rfl rfl ?_)
      refine r_cons (s_pick_t (.bool true) rfl rfl rfl ?_)
      refine r_nil ?_
      refine g_true rfl ?_
      refine g_seq ?_
      refine g_region ?_
      refine r_cons (s_build (cs := #[.int .i64 0, .int .i64 0, .int .i64 0, .int .i64 0, .int .i64 0, .slice none 0 0]) (by kernel_rfl) rfl ?_)
      refine r_cons (s_storeAgg H26 1 #[.int .i64 0, .int .i64 0, .int .i64 0, .int .i64 0, .int .i64 0, .slice none 0 0] 6 rfl rfl rfl sz_24 rfl (by simp [Value.oneCell']) (Nat.le_of_ble_eq_true rfl) (fun o h1 h2 => by first | (simp; done) | (simp; omega)) (cs' := #[.int .i64 0, .int .i64 0, .int .i64 0, .int .i64 0, .int .i64 0, .slice none 0 0]) rfl ?_); intro w92 H93
      refine r_cons (s_assign (.int .i64 20) rfl rfl ?_)
      refine r_nil ?_
      refine g_ret' [.agg #[.int .i64 0, .int .i64 0, .int .i64 0, .int .i64 0, .int .i64 0, .slice none 0 0], .int .i64 20] Try.func11 Try.results11 ⟨(res_cellN rfl ag_24 (H93.blk_at (i := 1) rfl) (Nat.le_of_ble_eq_true rfl) rfl), rfl, trivial⟩ ?_
      have hD : decE bs = 20 := decE_20 (by omega) (fun ht => by have hq := (tail_is (by omega) hsl).1 ht; omega)
      have H94 : St W w92 F := ((((H93.drop 0 rfl).drop 0 rfl).drop 0 rfl).drop 0 rfl)
      have hV := decV_no (bs := bs) (by rw [hD]; decide)
      have H95 := Row.nil_intro H94 5 1
      exact ⟨none, 0, 0, by rw [hD, hV]; rfl, by rw [hV]; rfl, by rw [hV]; exact H95⟩
set_option maxHeartbeats 4000000 in
set_option maxRecDepth 100000 in
theorem frame_begun {W w : World} {F : List Atom}  (H : St W w F) : Calls Try.prog 12 #[] w (Ret fun v w' => v = .bool true ∧ St W w' F) := by
  refine calls_of_go (n := 52) Try.func12 rfl Try.ntmps12 rfl ?_
  refine g_seq ?_
  refine g_region ?_
  refine r_cons (s_assign (.bool false) rfl rfl ?_)
  refine r_nil ?_
  refine g_seq ?_
  refine g_region ?_
  refine r_cons (s_build (cs := #[.int .i64 0, .int .i64 1, .int .i64 2, .int .i64 0, .int .i64 0, .slice none 0 0]) (by kernel_rfl) rfl ?_)
  have H1 := Row.im (Row.nil_intro H 5 1) (i := 0) rfl
  refine r_cons (s_call [.agg #[.int .i64 0, .int .i64 1, .int .i64 2, .int .i64 0, .int .i64 0, .slice none 0 0]] pl_14 rfl rfl (frame_Encode dgAck _ RdA.im (j := 0) rfl H1) ?_)
  rintro _ w4 ⟨pp2, _, cc3, rfl, rfl, H5⟩
  refine r_cons (s_move (.tuple #[.slice pp2 ((dgBytes dgAck).length) cc3, .int .i64 (dgE dgAck)]) rfl rfl ?_)
  refine r_cons (s_extract (.slice pp2 ((dgBytes dgAck).length) cc3) #[.slice pp2 ((dgBytes dgAck).length) cc3, .int .i64 (dgE dgAck)] rfl rfl rfl ?_)
  refine r_cons (s_extract (.int .i64 (dgE dgAck)) #[.slice pp2 ((dgBytes dgAck).length) cc3, .int .i64 (dgE dgAck)] rfl rfl rfl ?_)
  refine r_cons (s_assign (.slice pp2 ((dgBytes dgAck).length) cc3) rfl rfl ?_)
  refine r_cons (s_assign (.int .i64 (dgE dgAck)) rfl rfl ?_)
  refine r_nil ?_
  refine g_seq ?_
  refine g_region ?_
  refine r_cons (s_move (.slice pp2 ((dgBytes dgAck).length) cc3) rfl rfl ?_)
  have H6 : St W w4 (Im 1 (.slice pp2 ((dgBytes dgAck).length) cc3) ((dgBytes dgAck).length) ((dgBytes dgAck).flatMap u8c) :: Im 1 (.slice none 0 0) 0 (([] : List UInt8).flatMap u8c) :: F) := Row.im H5 (i := 0) rfl
  refine r_cons (s_call [.slice pp2 ((dgBytes dgAck).length) cc3] pl_10 rfl rfl (frame_Decode (dgBytes dgAck) _ (by decide +kernel) (j := 0) rfl H6) ?_)
  rintro _ w9 ⟨pp7, _, cc8, rfl, rfl, H10⟩
  refine r_cons (s_move (.tuple #[.agg #[.int .i64 ((decV (dgBytes dgAck)).frm.v), .int .i64 ((decV (dgBytes dgAck)).to_.v), .int .i64 ((decV (dgBytes dgAck)).kind.v), .int .i64 ((decV (dgBytes dgAck)).seq.v), .int .i64 ((decV (dgBytes dgAck)).ack.v), .slice pp7 ((decV (dgBytes dgAck)).body.length) cc8], .int .i64 (decE (dgBytes dgAck))]) rfl rfl ?_)
  refine r_cons (s_extract (.agg #[.int .i64 ((decV (dgBytes dgAck)).frm.v), .int .i64 ((decV (dgBytes dgAck)).to_.v), .int .i64 ((decV (dgBytes dgAck)).kind.v), .int .i64 ((decV (dgBytes dgAck)).seq.v), .int .i64 ((decV (dgBytes dgAck)).ack.v), .slice pp7 ((decV (dgBytes dgAck)).body.length) cc8]) #[.agg #[.int .i64 ((decV (dgBytes dgAck)).frm.v), .int .i64 ((decV (dgBytes dgAck)).to_.v), .int .i64 ((decV (dgBytes dgAck)).kind.v), .int .i64 ((decV (dgBytes dgAck)).seq.v), .int .i64 ((decV (dgBytes dgAck)).ack.v), .slice pp7 ((decV (dgBytes dgAck)).body.length) cc8], .int .i64 (decE (dgBytes dgAck))] rfl rfl rfl ?_)
  refine r_cons (s_extract (.int .i64 (decE (dgBytes dgAck))) #[.agg #[.int .i64 ((decV (dgBytes dgAck)).frm.v), .int .i64 ((decV (dgBytes dgAck)).to_.v), .int .i64 ((decV (dgBytes dgAck)).kind.v), .int .i64 ((decV (dgBytes dgAck)).seq.v), .int .i64 ((decV (dgBytes dgAck)).ack.v), .slice pp7 ((decV (dgBytes dgAck)).body.length) cc8], .int .i64 (decE (dgBytes dgAck))] rfl rfl rfl ?_)
  refine r_cons (s_alloc H10 24 ze_24 rfl ?_); intro bk11 w12 H13
  refine r_cons (s_storeAgg H13 0 #[.int .i64 ((decV (dgBytes dgAck)).frm.v), .int .i64 ((decV (dgBytes dgAck)).to_.v), .int .i64 ((decV (dgBytes dgAck)).kind.v), .int .i64 ((decV (dgBytes dgAck)).seq.v), .int .i64 ((decV (dgBytes dgAck)).ack.v), .slice pp7 ((decV (dgBytes dgAck)).body.length) cc8] 6 rfl rfl rfl sz_24 rfl (by simp [Value.oneCell']) (Nat.le_of_ble_eq_true rfl) (fun o h1 h2 => by first | (simp; done) | (simp; omega)) (cs' := #[.int .i64 ((decV (dgBytes dgAck)).frm.v), .int .i64 ((decV (dgBytes dgAck)).to_.v), .int .i64 ((decV (dgBytes dgAck)).kind.v), .int .i64 ((decV (dgBytes dgAck)).seq.v), .int .i64 ((decV (dgBytes dgAck)).ack.v), .slice pp7 ((decV (dgBytes dgAck)).body.length) cc8]) rfl ?_); intro w14 H15
  refine r_cons (s_assign (.int .i64 (decE (dgBytes dgAck))) rfl rfl ?_)
  refine r_nil ?_
  refine g_seq ?_
  refine g_region ?_
  refine r_cons (s_move (.int .i64 (dgE dgAck)) rfl rfl ?_)
  refine r_cons (s_eql true rfl rfl (dtrue (by decide +kernel)) rfl ?_)
  refine r_cons (s_move (.bool true) rfl rfl ?_)
  refine r_cons (r_take rfl rfl ?_)
  refine s_move (.int .i64 (decE (dgBytes dgAck))) rfl rfl ?_
  refine r_cons (r_take rfl rfl ?_)
  refine s_eql true rfl rfl (dtrue (by decide +kernel)) rfl ?_
  refine r_cons (s_pick_t (.bool true) rfl rfl rfl ?_)
  refine r_cons (s_move (.bool true) rfl rfl ?_)
  refine r_cons (r_take rfl rfl ?_)
  refine s_move (.slice pp2 ((dgBytes dgAck).length) cc3) rfl rfl ?_
  refine r_cons (r_take rfl rfl ?_)
  refine s_len ((dgBytes dgAck).length) rfl ⟨_, un_22⟩ rfl ?_
  refine r_cons (r_take rfl rfl ?_)
  refine s_eql true rfl rfl (dtrue (by decide +kernel)) rfl ?_
  refine r_cons (s_pick_t (.bool true) rfl rfl rfl ?_)
  refine r_cons (s_move (.bool true) rfl rfl ?_)
  refine r_cons (r_take rfl rfl ?_)
  refine s_move (.slice pp2 ((dgBytes dgAck).length) cc3) rfl rfl ?_
  refine r_cons (r_take rfl rfl ?_)
  have hl6 : (dgBytes dgAck).length = 6 := by decide +kernel
  obtain ⟨pA16, cA17, gA18, oA19, kA20, eA21, zA22, he28, hn23, hp24, hx25, hs26, hml, H27⟩ := Im.open_ H15 (i := 2) rfl
  obtain ⟨rfl, rfl⟩ : pp2 = pA16 ∧ cc3 = cA17 := by injection he28 with a_ b_ c_; exact ⟨a_, c_⟩
  refine s_indexAddr gA18 (off := oA19) 0 1 (oA19 + 0 * 1) (by exact congrArg (fun z_ => Value.slice z_ ((dgBytes dgAck).length) cc3) (hp24 (by omega))) rfl el_22 (by omega) (by rw [show (0 : Int).toNat = 0 from by omega]) rfl ?_
  refine r_cons (r_take rfl rfl ?_)
  refine s_load (.int .u8 (((dgBytes dgAck).getD 0 0).toNat : Int)) ag_5 rfl (H27.imi_at (i := 0) rfl (by omega)) (elem_cell (L := (dgBytes dgAck)) (i := 0) u8c_len (hx25 (by omega)) (by omega) 0 0 (by decide) _ rfl) rfl ?_
  refine r_cons (r_take rfl rfl ?_)
  refine s_eql true rfl rfl (dtrue (by decide +kernel)) rfl ?_
  refine r_cons (s_pick_t (.bool true) rfl rfl rfl ?_)
  refine r_cons (s_move (.bool true) rfl rfl ?_)
  refine r_cons (r_take rfl rfl ?_)
  refine s_move (.slice pp2 ((dgBytes dgAck).length) cc3) rfl rfl ?_
  refine r_cons (r_take rfl rfl ?_)
  refine s_indexAddr gA18 (off := oA19) 1 1 (oA19 + 1 * 1) (by exact congrArg (fun z_ => Value.slice z_ ((dgBytes dgAck).length) cc3) (hp24 (by omega))) rfl el_22 (by omega) (by rw [show (1 : Int).toNat = 1 from by omega]) rfl ?_
  refine r_cons (r_take rfl rfl ?_)
  refine s_load (.int .u8 (((dgBytes dgAck).getD 1 0).toNat : Int)) ag_5 rfl (H27.imi_at (i := 0) rfl (by omega)) (elem_cell (L := (dgBytes dgAck)) (i := 1) u8c_len (hx25 (by omega)) (by omega) 0 0 (by decide) _ rfl) rfl ?_
  refine r_cons (r_take rfl rfl ?_)
  refine s_eql true rfl rfl (dtrue (by decide +kernel)) rfl ?_
  refine r_cons (s_pick_t (.bool true) rfl rfl rfl ?_)
  refine r_cons (s_move (.bool true) rfl rfl ?_)
  refine r_cons (r_take rfl rfl ?_)
  refine s_fieldAddr 24 1 1 1 3 rfl fi_24_1 rfl rfl ?_
  refine r_cons (r_take rfl rfl ?_)
  refine s_load (.int .i64 ((decV (dgBytes dgAck)).to_.v)) ag_3 rfl (H27.blk_at (i := 1) rfl) rfl rfl ?_
  refine r_cons (r_take rfl rfl ?_)
  refine s_eql true rfl rfl (dtrue (by decide +kernel)) rfl ?_
  refine r_cons (s_pick_t (.bool true) rfl rfl rfl ?_)
  refine r_cons (s_move (.bool true) rfl rfl ?_)
  refine r_cons (r_take rfl rfl ?_)
  refine s_buildSlice H27 1 5 (cs := #[.int .u8 49, .int .u8 50, .int .u8 51, .int .u8 52, .int .u8 53]) #[.int .u8 0] el_22 ze_5 (by decide) (by decide) (by kernel_rfl) rfl ?_; intro bk29 w30 H31
  refine r_cons (r_take rfl rfl ?_)
  refine s_conv_mark H31 0 rfl rfl un_22 un_5 rfl ?_; intro w32 H33
  have H34 : St W w32 (blk bk29 (.cells #[.int .u8 49, .int .u8 50, .int .u8 51, .int .u8 52, .int .u8 53] 5 (5, 6)) :: imi (0 < (dgBytes dgAck).length) gA18 (.cells kA20 eA21 zA22) :: blk bk11 (.cells #[.int .i64 ((decV (dgBytes dgAck)).frm.v), .int .i64 ((decV (dgBytes dgAck)).to_.v), .int .i64 ((decV (dgBytes dgAck)).kind.v), .int .i64 ((decV (dgBytes dgAck)).seq.v), .int .i64 ((decV (dgBytes dgAck)).ack.v), .slice pp7 ((decV (dgBytes dgAck)).body.length) cc8] 24 (0, 0)) :: Row 5 1 (.slice pp7 ((decV (dgBytes dgAck)).body.length) cc8) ((decV (dgBytes dgAck)).body.length) ((decV (dgBytes dgAck)).body.flatMap u8c) :: Im 1 (.slice pp2 ((dgBytes dgAck).length) cc3) ((dgBytes dgAck).length) ((dgBytes dgAck).flatMap u8c) :: Im 1 (.slice none 0 0) 0 (([] : List UInt8).flatMap u8c) :: F) := H33
  refine r_cons (r_take rfl rfl ?_)
  refine s_buildSlice H34 1 4 (cs := #[.int .u8 54, .int .u8 55, .int .u8 56, .int .u8 57]) #[.int .u8 0] el_22 ze_5 (by decide) (by decide) (by kernel_rfl) rfl ?_; intro bk35 w36 H37
  refine r_cons (r_take rfl rfl ?_)
  refine s_conv_mark H37 0 rfl rfl un_22 un_5 rfl ?_; intro w38 H39
  have H40 : St W w38 (blk bk35 (.cells #[.int .u8 54, .int .u8 55, .int .u8 56, .int .u8 57] 5 (4, 5)) :: blk bk29 (.cells #[.int .u8 49, .int .u8 50, .int .u8 51, .int .u8 52, .int .u8 53] 5 (5, 6)) :: imi (0 < (dgBytes dgAck).length) gA18 (.cells kA20 eA21 zA22) :: blk bk11 (.cells #[.int .i64 ((decV (dgBytes dgAck)).frm.v), .int .i64 ((decV (dgBytes dgAck)).to_.v), .int .i64 ((decV (dgBytes dgAck)).kind.v), .int .i64 ((decV (dgBytes dgAck)).seq.v), .int .i64 ((decV (dgBytes dgAck)).ack.v), .slice pp7 ((decV (dgBytes dgAck)).body.length) cc8] 24 (0, 0)) :: Row 5 1 (.slice pp7 ((decV (dgBytes dgAck)).body.length) cc8) ((decV (dgBytes dgAck)).body.length) ((decV (dgBytes dgAck)).body.flatMap u8c) :: Im 1 (.slice pp2 ((dgBytes dgAck).length) cc3) ((dgBytes dgAck).length) ((dgBytes dgAck).flatMap u8c) :: Im 1 (.slice none 0 0) 0 (([] : List UInt8).flatMap u8c) :: F) := H39
  refine r_cons (r_take rfl rfl ?_)
  refine s_buildSlice H40 1 2 (cs := #[.slice (some ⟨bk29, 0, none⟩) 5 5, .slice (some ⟨bk35, 0, none⟩) 4 4]) #[.slice none 0 0] el_64 ze_22 (by decide) (by decide) (by kernel_rfl) rfl ?_; intro bk41 w42 H43
  refine r_cons (r_take rfl rfl ?_)
  have H44 : St W w42 (blk bk41 (.cells #[.slice (some ⟨bk29, 0, none⟩) 5 5, .slice (some ⟨bk35, 0, none⟩) 4 4] 22 (0, 0)) :: blk bk35 (.cells #[.int .u8 54, .int .u8 55, .int .u8 56, .int .u8 57] 5 (4, 5)) :: Im 1 (.slice (some ⟨bk29, 0, none⟩) 5 5) 5 (([49, 50, 51, 52, 53] : List UInt8).flatMap u8c) :: imi (0 < (dgBytes dgAck).length) gA18 (.cells kA20 eA21 zA22) :: blk bk11 (.cells #[.int .i64 ((decV (dgBytes dgAck)).frm.v), .int .i64 ((decV (dgBytes dgAck)).to_.v), .int .i64 ((decV (dgBytes dgAck)).kind.v), .int .i64 ((decV (dgBytes dgAck)).seq.v), .int .i64 ((decV (dgBytes dgAck)).ack.v), .slice pp7 ((decV (dgBytes dgAck)).body.length) cc8] 24 (0, 0)) :: Row 5 1 (.slice pp7 ((decV (dgBytes dgAck)).body.length) cc8) ((decV (dgBytes dgAck)).body.length) ((decV (dgBytes dgAck)).body.flatMap u8c) :: Im 1 (.slice pp2 ((dgBytes dgAck).length) cc3) ((dgBytes dgAck).length) ((dgBytes dgAck).flatMap u8c) :: Im 1 (.slice none 0 0) 0 (([] : List UInt8).flatMap u8c) :: F) := marked_im H43 (i := 2) rfl (by decide) (fun x hx => one_u8 ([49, 50, 51, 52, 53] : List UInt8) x hx)
  have H45 : St W w42 (blk bk41 (.cells #[.slice (some ⟨bk29, 0, none⟩) 5 5, .slice (some ⟨bk35, 0, none⟩) 4 4] 22 (0, 0)) :: Im 1 (.slice (some ⟨bk35, 0, none⟩) 4 4) 4 (([54, 55, 56, 57] : List UInt8).flatMap u8c) :: Im 1 (.slice (some ⟨bk29, 0, none⟩) 5 5) 5 (([49, 50, 51, 52, 53] : List UInt8).flatMap u8c) :: imi (0 < (dgBytes dgAck).length) gA18 (.cells kA20 eA21 zA22) :: blk bk11 (.cells #[.int .i64 ((decV (dgBytes dgAck)).frm.v), .int .i64 ((decV (dgBytes dgAck)).to_.v), .int .i64 ((decV (dgBytes dgAck)).kind.v), .int .i64 ((decV (dgBytes dgAck)).seq.v), .int .i64 ((decV (dgBytes dgAck)).ack.v), .slice pp7 ((decV (dgBytes dgAck)).body.length) cc8] 24 (0, 0)) :: Row 5 1 (.slice pp7 ((decV (dgBytes dgAck)).body.length) cc8) ((decV (dgBytes dgAck)).body.length) ((decV (dgBytes dgAck)).body.flatMap u8c) :: Im 1 (.slice pp2 ((dgBytes dgAck).length) cc3) ((dgBytes dgAck).length) ((dgBytes dgAck).flatMap u8c) :: Im 1 (.slice none 0 0) 0 (([] : List UInt8).flatMap u8c) :: F) := marked_im H44 (i := 1) rfl (by decide) (fun x hx => one_u8 ([54, 55, 56, 57] : List UInt8) x hx)
  refine s_call [.slice (some ⟨bk41, 0, none⟩) 2 2] pl_20 rfl rfl (Sum2_im bk41 ([49, 50, 51, 52, 53] : List UInt8) ([54, 55, 56, 57] : List UInt8) 5 4 _ _ (by first | rfl | (simp only [List.length_take, List.length_drop]; done) | (simp only [List.length_take, List.length_drop]; omega)) (by first | rfl | (simp only [List.length_take, List.length_drop]; done) | (simp only [List.length_take, List.length_drop]; omega)) (j := 2) rfl (k := 1) rfl (i := 0) rfl H45) ?_
  rintro _ w46 ⟨rfl, H47⟩
  refine r_cons (r_take rfl rfl ?_)
  refine s_eql true rfl rfl (dtrue (by decide +kernel)) rfl ?_
  refine r_cons (s_pick_t (.bool true) rfl rfl rfl ?_)
  refine r_cons (s_assign (.bool true) rfl rfl ?_)
  refine r_nil ?_
  refine g_ret' [.bool true] Try.func12 Try.results12 ⟨rfl, trivial⟩ ?_
  have H48 : St W w46 F := ((((((((H47.drop 0 rfl).drop 0 rfl).drop 0 rfl).drop 0 rfl).drop 0 rfl).drop 0 rfl).drop 0 rfl).drop 0 rfl)
  exact ⟨rfl, H48⟩
set_option maxHeartbeats 4000000 in
set_option maxRecDepth 100000 in
theorem FrameSealed_ {W w : World} {F : List Atom} (bs : List UInt8) (bv : Value) (hb : bs.length ≤ 8589934592) {j : Nat} (hj : F[j]? = some (Im 1 bv bs.length (bs.flatMap u8c))) (H : St W w F) : Calls Try.prog 6 #[bv] w (Ret fun v w' => v = .bool true ∧ St W w' F) := by
  obtain ⟨pp1, cc2, rfl, hn3⟩ := Rd.shape (Im.rd H (i := j + 0) (by exact hj))
  have H4 := H.dup (i := j + 0) (by exact hj) (Im_pers _ _ _ _)
  have hsl := sumN_lt bs
  obtain ⟨cs, hcs⟩ : ∃ cs : List UInt8, cs = bs ++ sumB (sumN bs) := ⟨_, rfl⟩
  have hcl : cs.length = bs.length + 4 := by rw [hcs, List.length_append, sumB_len]
  refine calls_of_go (n := 66) Try.func6 rfl Try.ntmps6 rfl ?_
  refine g_seq ?_
  refine g_region ?_
  refine r_cons (s_assign (.bool false) rfl rfl ?_)
  refine r_nil ?_
  refine g_seq ?_
  refine g_region ?_
  refine r_cons (s_move (.slice pp1 bs.length cc2) rfl rfl ?_)
  refine r_cons (s_buildSlice H4 1 1 (cs := #[.slice pp1 bs.length cc2]) #[.slice none 0 0] el_64 ze_22 (by decide) (by decide) (by kernel_rfl) rfl ?_); intro bk5 w6 H7
  refine r_cons (s_call [.slice (some ⟨bk5, 0, none⟩) 1 1] pl_20 rfl rfl (Sum1_im bk5 bs _ (j := 1) rfl (i := 0) rfl H7) ?_)
  rintro _ w8 ⟨rfl, H9⟩
  refine r_cons (s_assign (.int .u32 ((sumN bs : Nat) : Int)) rfl rfl ?_)
  refine r_nil ?_
  refine g_seq ?_
  refine g_region ?_
  refine r_cons (s_move (.slice pp1 bs.length cc2) rfl rfl ?_)
  refine r_cons (s_call [.slice pp1 bs.length cc2] pl_22 rfl rfl (bytes_Clone _ _ bs.length (bs.flatMap u8c) RdA.im (by first | omega | (have hlp := Nat.le_refl 0; omega)) (j := 1) rfl H9) ?_)
  rintro _ w12 ⟨pp10, cc11, rfl, H13⟩
  refine r_cons (s_move (.int .u32 ((sumN bs : Nat) : Int)) rfl rfl ?_)
  refine r_cons (s_shr (((sumN bs) / 2 ^ 24 : Nat) : Int) rfl rfl (by omega) (shr_nat (k := 24) rfl (by decide)) rfl ?_)
  refine r_cons (s_conv (((sumN bs) / 2 ^ 24 : Nat) : Int) rfl us_37 ik_5 (wu8 (by omega)) rfl ?_)
  refine r_cons (s_move (.int .u32 ((sumN bs : Nat) : Int)) rfl rfl ?_)
  refine r_cons (s_shr (((sumN bs) / 2 ^ 16 : Nat) : Int) rfl rfl (by omega) (shr_nat (k := 16) rfl (by decide)) rfl ?_)
  refine r_cons (s_conv (((sumN bs) / 2 ^ 16 % 256 : Nat) : Int) rfl us_37 ik_5 (wrap8 _) rfl ?_)
  refine r_cons (s_move (.int .u32 ((sumN bs : Nat) : Int)) rfl rfl ?_)
  refine r_cons (s_shr (((sumN bs) / 2 ^ 8 : Nat) : Int) rfl rfl (by omega) (shr_nat (k := 8) rfl (by decide)) rfl ?_)
  refine r_cons (s_conv (((sumN bs) / 2 ^ 8 % 256 : Nat) : Int) rfl us_37 ik_5 (wrap8 _) rfl ?_)
  refine r_cons (s_move (.int .u32 ((sumN bs : Nat) : Int)) rfl rfl ?_)
  refine r_cons (s_conv ((sumN bs % 256 : Nat) : Int) rfl us_37 ik_5 (wrap8 _) rfl ?_)
  refine r_cons (s_buildSlice H13 1 4 (cs := #[.int .u8 (((sumN bs) / 2 ^ 24 : Nat) : Int), .int .u8 (((sumN bs) / 2 ^ 16 % 256 : Nat) : Int), .int .u8 (((sumN bs) / 2 ^ 8 % 256 : Nat) : Int), .int .u8 ((sumN bs % 256 : Nat) : Int)]) #[.int .u8 0] el_22 ze_5 (by decide) (by decide) (by kernel_rfl) rfl ?_); intro bk14 w15 H16
  refine r_cons (s_append H16 1 rfl rfl rfl (rd_blk (H16.blk_at (i := 0) rfl) rfl (Nat.le_of_ble_eq_true rfl) (by simp [Value.oneCell'])) ap_22 (by decide) (by unfold maxLen; omega) (by omega) (n' := cs.length) (xs' := cs.flatMap u8c) (by omega) (by rw [hcs, List.flatMap_append, sumB_cells hsl]; rfl) rfl ?_); intro vv17 w18 H19 hn20
  obtain ⟨pp21, cc22, rfl⟩ := Row.slice H19 (i := 1) rfl
  refine r_cons (s_assign (.slice pp21 cs.length cc22) rfl rfl ?_)
  refine r_nil ?_
  refine g_seq ?_
  refine g_region ?_
  refine r_cons (s_move (.slice pp21 cs.length cc22) rfl rfl ?_)
  have H23 : St W w18 (blk bk14 (.cells #[.int .u8 (((sumN bs) / 2 ^ 24 : Nat) : Int), .int .u8 (((sumN bs) / 2 ^ 16 % 256 : Nat) : Int), .int .u8 (((sumN bs) / 2 ^ 8 % 256 : Nat) : Int), .int .u8 ((sumN bs % 256 : Nat) : Int)] 5 (0, 0)) :: Im 1 (.slice pp21 cs.length cc22) cs.length (cs.flatMap u8c) :: blk bk5 (.cells #[.slice pp1 bs.length cc2] 22 (0, 0)) :: Im 1 (.slice pp1 bs.length cc2) bs.length (bs.flatMap u8c) :: F) := Row.im H19 (i := 1) rfl
  refine r_cons (s_call [.slice pp21 cs.length cc22] pl_10 rfl rfl (frame_Decode cs _ (by omega) (j := 1) rfl H23) ?_)
  rintro _ w26 ⟨pp24, _, cc25, rfl, rfl, H27⟩
  refine r_cons (s_move (.tuple #[.agg #[.int .i64 ((decV cs).frm.v), .int .i64 ((decV cs).to_.v), .int .i64 ((decV cs).kind.v), .int .i64 ((decV cs).seq.v), .int .i64 ((decV cs).ack.v), .slice pp24 ((decV cs).body.length) cc25], .int .i64 (decE cs)]) rfl rfl ?_)
  refine r_cons (s_extract (.agg #[.int .i64 ((decV cs).frm.v), .int .i64 ((decV cs).to_.v), .int .i64 ((decV cs).kind.v), .int .i64 ((decV cs).seq.v), .int .i64 ((decV cs).ack.v), .slice pp24 ((decV cs).body.length) cc25]) #[.agg #[.int .i64 ((decV cs).frm.v), .int .i64 ((decV cs).to_.v), .int .i64 ((decV cs).kind.v), .int .i64 ((decV cs).seq.v), .int .i64 ((decV cs).ack.v), .slice pp24 ((decV cs).body.length) cc25], .int .i64 (decE cs)] rfl rfl rfl ?_)
  refine r_cons (s_extract (.int .i64 (decE cs)) #[.agg #[.int .i64 ((decV cs).frm.v), .int .i64 ((decV cs).to_.v), .int .i64 ((decV cs).kind.v), .int .i64 ((decV cs).seq.v), .int .i64 ((decV cs).ack.v), .slice pp24 ((decV cs).body.length) cc25], .int .i64 (decE cs)] rfl rfl rfl ?_)
  refine r_cons (s_alloc H27 24 ze_24 rfl ?_); intro bk28 w29 H30
  refine r_cons (s_storeAgg H30 0 #[.int .i64 ((decV cs).frm.v), .int .i64 ((decV cs).to_.v), .int .i64 ((decV cs).kind.v), .int .i64 ((decV cs).seq.v), .int .i64 ((decV cs).ack.v), .slice pp24 ((decV cs).body.length) cc25] 6 rfl rfl rfl sz_24 rfl (by simp [Value.oneCell']) (Nat.le_of_ble_eq_true rfl) (fun o h1 h2 => by first | (simp; done) | (simp; omega)) (cs' := #[.int .i64 ((decV cs).frm.v), .int .i64 ((decV cs).to_.v), .int .i64 ((decV cs).kind.v), .int .i64 ((decV cs).seq.v), .int .i64 ((decV cs).ack.v), .slice pp24 ((decV cs).body.length) cc25]) rfl ?_); intro w31 H32
  refine r_cons (s_assign (.int .i64 (decE cs)) rfl rfl ?_)
  refine r_nil ?_
  refine g_seq ?_
  refine g_region ?_
  refine r_cons (s_move (.slice pp21 cs.length cc22) rfl rfl ?_)
  refine r_cons (s_call [.slice pp21 cs.length cc22] pl_11 rfl rfl (ref02_Decode cs _ (by omega) (j := 3) rfl H32) ?_)
  rintro _ w35 ⟨pp33, _, cc34, rfl, rfl, H36⟩
  refine r_cons (s_move (.tuple #[.agg #[.int .i64 ((decV cs).frm.v), .int .i64 ((decV cs).to_.v), .int .i64 ((decV cs).kind.v), .int .i64 ((decV cs).seq.v), .int .i64 ((decV cs).ack.v), .slice pp33 ((decV cs).body.length) cc34], .int .i64 (decE cs)]) rfl rfl ?_)
  refine r_cons (s_extract (.agg #[.int .i64 ((decV cs).frm.v), .int .i64 ((decV cs).to_.v), .int .i64 ((decV cs).kind.v), .int .i64 ((decV cs).seq.v), .int .i64 ((decV cs).ack.v), .slice pp33 ((decV cs).body.length) cc34]) #[.agg #[.int .i64 ((decV cs).frm.v), .int .i64 ((decV cs).to_.v), .int .i64 ((decV cs).kind.v), .int .i64 ((decV cs).seq.v), .int .i64 ((decV cs).ack.v), .slice pp33 ((decV cs).body.length) cc34], .int .i64 (decE cs)] rfl rfl rfl ?_)
  refine r_cons (s_extract (.int .i64 (decE cs)) #[.agg #[.int .i64 ((decV cs).frm.v), .int .i64 ((decV cs).to_.v), .int .i64 ((decV cs).kind.v), .int .i64 ((decV cs).seq.v), .int .i64 ((decV cs).ack.v), .slice pp33 ((decV cs).body.length) cc34], .int .i64 (decE cs)] rfl rfl rfl ?_)
  refine r_cons (s_alloc H36 24 ze_24 rfl ?_); intro bk37 w38 H39
  refine r_cons (s_storeAgg H39 0 #[.int .i64 ((decV cs).frm.v), .int .i64 ((decV cs).to_.v), .int .i64 ((decV cs).kind.v), .int .i64 ((decV cs).seq.v), .int .i64 ((decV cs).ack.v), .slice pp33 ((decV cs).body.length) cc34] 6 rfl rfl rfl sz_24 rfl (by simp [Value.oneCell']) (Nat.le_of_ble_eq_true rfl) (fun o h1 h2 => by first | (simp; done) | (simp; omega)) (cs' := #[.int .i64 ((decV cs).frm.v), .int .i64 ((decV cs).to_.v), .int .i64 ((decV cs).kind.v), .int .i64 ((decV cs).seq.v), .int .i64 ((decV cs).ack.v), .slice pp33 ((decV cs).body.length) cc34]) rfl ?_); intro w40 H41
  refine r_cons (s_assign (.int .i64 (decE cs)) rfl rfl ?_)
  refine r_nil ?_
  refine g_seq ?_
  refine g_seq ?_
  refine g_region ?_
  refine r_cons (s_call [] pl_12 rfl rfl (frame_begun H41) ?_)
  rintro _ w42 ⟨rfl, H43⟩
  refine r_cons (s_not true rfl false rfl rfl ?_)
  refine r_cons (s_move (.bool false) rfl rfl ?_)
  refine r_cons (r_take rfl rfl ?_)
  refine s_loadAgg [.int .i64 ((decV cs).frm.v), .int .i64 ((decV cs).to_.v), .int .i64 ((decV cs).kind.v), .int .i64 ((decV cs).seq.v), .int .i64 ((decV cs).ack.v), .slice pp24 ((decV cs).body.length) cc25] 6 ag_24 rfl (H43.blk_at (i := 2) rfl) (Nat.le_of_ble_eq_true rfl) rfl rfl ?_
  refine r_cons (r_take rfl rfl ?_)
  refine s_loadAgg [.int .i64 ((decV cs).frm.v), .int .i64 ((decV cs).to_.v), .int .i64 ((decV cs).kind.v), .int .i64 ((decV cs).seq.v), .int .i64 ((decV cs).ack.v), .slice pp33 ((decV cs).body.length) cc34] 6 ag_24 rfl (H43.blk_at (i := 0) rfl) (Nat.le_of_ble_eq_true rfl) rfl rfl ?_
  refine r_cons (r_take rfl rfl ?_)
  have hss44 := dgSame_self (decV cs)
  refine s_call [.agg #[.int .i64 ((decV cs).frm.v), .int .i64 ((decV cs).to_.v), .int .i64 ((decV cs).kind.v), .int .i64 ((decV cs).seq.v), .int .i64 ((decV cs).ack.v), .slice pp24 ((decV cs).body.length) cc25], .agg #[.int .i64 ((decV cs).frm.v), .int .i64 ((decV cs).to_.v), .int .i64 ((decV cs).kind.v), .int .i64 ((decV cs).seq.v), .int .i64 ((decV cs).ack.v), .slice pp33 ((decV cs).body.length) cc34]] pl_13 rfl rfl (eyrieref02_Same (decV cs) (decV cs) _ _ RdA.row (j := 3) rfl RdA.row (k := 1) rfl H43) ?_
  rintro _ w45 ⟨rfl, H46⟩
  refine r_cons (r_take rfl rfl ?_)
  refine s_not (dgSame (decV cs) (decV cs)) rfl false (by rw [hss44]; rfl) rfl ?_
  refine r_cons (s_pick_f (.bool false) rfl rfl rfl ?_)
  refine r_cons (s_move (.bool false) rfl rfl ?_)
  refine r_cons (r_take rfl rfl ?_)
  refine s_move (.int .i64 (decE cs)) rfl rfl ?_
  refine r_cons (r_take rfl rfl ?_)
  refine s_move (.int .i64 (decE cs)) rfl rfl ?_
  refine r_cons (r_take rfl rfl ?_)
  refine s_neq false rfl rfl (ntrue rfl) rfl ?_
  refine r_cons (s_pick_f (.bool false) rfl rfl rfl ?_)
  refine r_nil ?_
  refine g_false rfl ?_
  refine g_skip ?_
  refine g_seq ?_
  refine g_seq ?_
  refine g_region ?_
  refine r_cons (s_move (.int .i64 (decE cs)) rfl rfl ?_)
  by_cases hc47 : decE cs = 0
  · skip
    refine r_cons (s_neq false rfl rfl (ntrue hc47) rfl ?_)
    refine r_nil ?_
    refine g_false rfl ?_
    refine g_skip ?_
    refine g_seq ?_
    refine g_region ?_
    refine r_cons (s_loadAgg [.int .i64 ((decV cs).frm.v), .int .i64 ((decV cs).to_.v), .int .i64 ((decV cs).kind.v), .int .i64 ((decV cs).seq.v), .int .i64 ((decV cs).ack.v), .slice pp24 ((decV cs).body.length) cc25] 6 ag_24 rfl (H46.blk_at (i := 2) rfl) (Nat.le_of_ble_eq_true rfl) rfl rfl ?_)
    refine r_cons (s_call [.agg #[.int .i64 ((decV cs).frm.v), .int .i64 ((decV cs).to_.v), .int .i64 ((decV cs).kind.v), .int .i64 ((decV cs).seq.v), .int .i64 ((decV cs).ack.v), .slice pp24 ((decV cs).body.length) cc25]] pl_14 rfl rfl (frame_Encode (decV cs) _ RdA.row (j := 3) rfl H46) ?_)
    rintro _ w50 ⟨pp48, _, cc49, rfl, rfl, H51⟩
    refine r_cons (s_move (.tuple #[.slice pp48 ((dgBytes (decV cs)).length) cc49, .int .i64 (dgE (decV cs))]) rfl rfl ?_)
    obtain ⟨he1, he2⟩ := enc_dec hc47
    have hbl := dgBytes_max (decV cs)
    refine r_cons (s_extract (.slice pp48 ((dgBytes (decV cs)).length) cc49) #[.slice pp48 ((dgBytes (decV cs)).length) cc49, .int .i64 (dgE (decV cs))] rfl rfl rfl ?_)
    refine r_cons (s_extract (.int .i64 (dgE (decV cs))) #[.slice pp48 ((dgBytes (decV cs)).length) cc49, .int .i64 (dgE (decV cs))] rfl rfl rfl ?_)
    refine r_cons (s_assign (.slice pp48 ((dgBytes (decV cs)).length) cc49) rfl rfl ?_)
    refine r_cons (s_assign (.int .i64 (dgE (decV cs))) rfl rfl ?_)
    refine r_nil ?_
    refine g_seq ?_
    refine g_region ?_
    refine r_cons (s_move (.int .i64 (dgE (decV cs))) rfl rfl ?_)
    refine r_cons (s_eql true rfl rfl (dtrue he1) rfl ?_)
    refine r_cons (s_move (.bool true) rfl rfl ?_)
    refine r_cons (r_take rfl rfl ?_)
    refine s_move (.slice pp48 ((dgBytes (decV cs)).length) cc49) rfl rfl ?_
    refine r_cons (r_take rfl rfl ?_)
    refine s_move (.slice pp21 cs.length cc22) rfl rfl ?_
    refine r_cons (r_take rfl rfl ?_)
    have hbe : decide (dgBytes (decV cs) = cs) = true := decide_eq_true he2
    refine s_call [.slice pp48 ((dgBytes (decV cs)).length) cc49, .slice pp21 cs.length cc22] pl_18 rfl rfl (bytes_Equal _ _ _ _ _ _ (dgBytes (decV cs)) cs RdA.row RdA.im (j := 0) rfl (k := 6) rfl H51) ?_
    rintro _ w52 ⟨rfl, H53⟩
    refine r_cons (s_pick_t (.bool (decide ((dgBytes (decV cs)) = cs))) rfl rfl rfl ?_)
    refine r_cons (s_assign (.bool (decide ((dgBytes (decV cs)) = cs))) rfl rfl ?_)
    refine r_nil ?_
    refine g_ret' [.bool (decide ((dgBytes (decV cs)) = cs))] Try.func6 Try.results6 ⟨rfl, trivial⟩ ?_
    have H54 : St W w52 F := (((((((((H53.drop 0 rfl).drop 0 rfl).drop 0 rfl).drop 0 rfl).drop 0 rfl).drop 0 rfl).drop 0 rfl).drop 0 rfl).drop 0 rfl)
    exact ⟨congrArg Value.bool hbe, H54⟩
  · skip
    refine r_cons (s_neq true rfl rfl (nfalse hc47) rfl ?_)
    refine r_nil ?_
    refine g_true rfl ?_
    refine g_seq ?_
    refine g_region ?_
    refine r_cons (s_assign (.bool true) rfl rfl ?_)
    refine r_nil ?_
    refine g_ret' [.bool true] Try.func6 Try.results6 ⟨rfl, trivial⟩ ?_
    have H55 : St W w45 F := ((((((((H46.drop 0 rfl).drop 0 rfl).drop 0 rfl).drop 0 rfl).drop 0 rfl).drop 0 rfl).drop 0 rfl).drop 0 rfl)
    exact ⟨rfl, H55⟩
end Sl
