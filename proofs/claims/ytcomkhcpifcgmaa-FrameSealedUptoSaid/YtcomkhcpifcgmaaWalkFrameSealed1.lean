/- Walks of the program's functions. Printed by a program of this claim's author. No condition. -/
import Derived.Test.YtcomkhcpifcgmaaSlQ
import Derived.Test.YtcomkhcpifcgmaaSlH
import Derived.Test.YtcomkhcpifcgmaaSlP
import Derived.Test.YtcomkhcpifcgmaaSlAD
import Derived.Test.YtcomkhcpifcgmaaProg
import Derived.Test.YtcomkhcpifcgmaaWalkFrameSealed0
namespace Sl
open _root_.Go _root_.Go.RowKit _root_.Go.Proofs
set_option linter.all false
set_option maxHeartbeats 4000000 in
set_option maxRecDepth 100000 in
theorem RSrc_Nat {W w : World} {F : List Atom} (b : Nat) (R : List Bool) {i : Nat} (hi : F[i]? = some (RSrc b R)) (H : St W w F) : Calls Try.prog 49 #[.pointer (some ⟨b, 0, none⟩)] w (Ret fun v w' => v = .tuple #[.int .u64 (natU R : Int), .int .i64 (natE R)] ∧ St W w' (F.set i (RSrc b (R.drop (natN R))))) := by
  have H0 := H.front hi
  refine calls_of_go (n := 75) Try.func49 rfl Try.ntmps49 rfl ?_
  refine g_seq ?_
  refine g_region ?_
  refine r_cons (s_assign (.int .u64 0) rfl rfl ?_)
  refine r_cons (s_assign (.int .i64 0) rfl rfl ?_)
  refine r_nil ?_
  refine g_seq ?_
  refine g_region ?_
  refine r_cons (s_assign (.int .i64 0) rfl rfl ?_)
  refine r_nil ?_
  refine g_seq ?_
  refine g_block ?_
  have H1 : St W w (RSrc b R :: (F.set i emp)) := H0
  refine g_loop_inv (fun (x_ : Nat) => match x_ with | k => [(0, .pointer (some ⟨b, 0, none⟩)), (2, .int .u64 0), (3, .int .i64 0), (4, .int .i64 (k : Int))]) (fun (x_ : Nat) w => match x_ with | k => (k ≤ 65) ∧ (k ≤ R.length) ∧ (∀ j, j < k → R.getD j false = false) ∧ St W w (RSrc b R :: (F.set i emp))) (fun (x_ : Nat) => match x_ with | k => 65 - k) (0) ?_ ?_ ?_
  · exact ⟨by first | rfl | exact vint (by omega), by first | rfl | exact vint (by omega), by first | rfl | exact vint (by omega), by first | rfl | exact vint (by omega), trivial⟩
  · exact ⟨(by omega), (by omega), (fun j hj => by omega), H1⟩
  · rintro k ρ2 w3 ⟨hk, hkr, hz, H4⟩ nx5
    change Ends _ _ (upds ρ2 [(0, .pointer (some ⟨b, 0, none⟩)), (2, .int .u64 0), (3, .int .i64 0), (4, .int .i64 (k : Int))]) w3
    refine g_seq ?_
    refine g_seq ?_
    refine g_region ?_
    refine r_cons (s_move (.int .i64 (k : Int)) rfl rfl ?_)
    refine r_cons (s_move (.pointer (some ⟨b, 0, none⟩)) rfl rfl ?_)
    refine r_cons (s_nilCheck (.pointer (some ⟨b, 0, none⟩)) rfl ⟨_, rfl⟩ rfl ?_)
    refine r_cons (s_fieldAddr 74 0 0 0 72 rfl fi_74_0 rfl rfl ?_)
    have H6 := H4.move 0 rfl
    obtain ⟨vv7, H8⟩ := St.open_ex H6
    have H9 := St.open_star H8
    obtain ⟨pp10, cc11, gA12, oA13, kA14, eA15, zA16, rfl, hn17, hp18, hx19, hs20, hml, H21⟩ := Im.open_ H9 (i := 1) rfl
    have H22 : St W w3 (imi (0 < R.length) gA12 (.cells kA14 eA15 zA16) :: blk b (.cells #[.slice pp10 R.length cc11] 74 (0, 0)) :: Im 1 (.slice pp10 R.length cc11) R.length (R.flatMap blc) :: (F.set i emp)) := H21
    refine r_cons (s_load (.slice pp10 R.length cc11) ag_72 rfl (H22.blk_at (i := 1) rfl) rfl rfl ?_)
    refine r_cons (s_len R.length rfl ⟨_, un_72⟩ rfl ?_)
    by_cases hc23 : (k : Int) < (R.length : Int)
    · skip
      refine r_cons (s_lss true rfl rfl (dtrue hc23) rfl ?_)
      refine r_cons (s_move (.bool true) rfl rfl ?_)
      refine r_cons (r_take rfl rfl ?_)
      refine s_move (.int .i64 (k : Int)) rfl rfl ?_
      refine r_cons (r_take rfl rfl ?_)
      by_cases hc24 : (k : Int) < 65
      · skip
        refine s_lss true rfl rfl (dtrue hc24) rfl ?_
        refine r_cons (s_pick_t (.bool true) rfl rfl rfl ?_)
        refine r_cons (s_move (.bool true) rfl rfl ?_)
        refine r_cons (r_take rfl rfl ?_)
        refine s_move (.pointer (some ⟨b, 0, none⟩)) rfl rfl ?_
        refine r_cons (r_take rfl rfl ?_)
        refine s_nilCheck (.pointer (some ⟨b, 0, none⟩)) rfl ⟨_, rfl⟩ rfl ?_
        refine r_cons (r_take rfl rfl ?_)
        refine s_fieldAddr 74 0 0 0 72 rfl fi_74_0 rfl rfl ?_
        refine r_cons (r_take rfl rfl ?_)
        refine s_load (.slice pp10 R.length cc11) ag_72 rfl (H22.blk_at (i := 1) rfl) rfl rfl ?_
        refine r_cons (r_take rfl rfl ?_)
        refine s_move (.int .i64 (k : Int)) rfl rfl ?_
        refine r_cons (r_take rfl rfl ?_)
        refine s_indexAddr gA12 (off := oA13) (k : Int) 1 (oA13 + k * 1) (by exact congrArg (fun z_ => Value.slice z_ R.length cc11) (hp18 (by omega))) rfl el_72 (by omega) rfl rfl ?_
        refine r_cons (r_take rfl rfl ?_)
        refine s_load (.bool (R.getD k false)) ag_4 rfl (H22.imi_at (i := 0) rfl (by omega)) (elem_cell (L := R) (i := k) blc_len (hx19 (by omega)) (by omega) false 0 (by decide) _ rfl) rfl ?_
        refine r_cons (r_take rfl rfl ?_)
        refine s_not (R.getD k false) rfl (!(R.getD k false)) rfl rfl ?_
        refine r_cons (s_pick_t (.bool (!(R.getD k false))) rfl rfl rfl ?_)
        refine r_nil ?_
        by_cases hb25 : (!(R.getD k false)) = true
        · skip
          refine g_true (congrArg Value.bool hb25) ?_
          refine g_skip ?_
          refine g_block ?_
          refine g_region ?_
          refine r_cons (s_move (.int .i64 (k : Int)) rfl rfl ?_)
          refine r_cons (s_add ((k : Int) + 1) rfl rfl (wi64 (by omega)) rfl ?_)
          refine r_cons (s_assign (.int .i64 ((k : Int) + 1)) rfl rfl ?_)
          refine r_nil ?_
          refine g_inBlock ?_
          have H26 : St W w3 (blk b (.cells #[.slice pp10 R.length cc11] 74 (0, 0)) :: Im 1 (.slice pp10 R.length cc11) R.length (R.flatMap blc) :: (F.set i emp)) := (((H22.move 2 rfl).move 2 rfl).drop 2 rfl)
          have H27 : St W w3 (RSrc b R :: (F.set i emp)) := St.shut_ex (.slice pp10 R.length cc11) (St.shut_star (ls := [blk b (.cells #[.slice pp10 R.length cc11] 74 (0, 0)), Im 1 (.slice pp10 R.length cc11) R.length (R.flatMap blc)]) H26)
          have H28 : St W w3 (RSrc b R :: (F.set i emp)) := H27
          exact nx5 (k + 1) _ _ ⟨(by omega), (by omega), (fun j hj => (Nat.lt_or_ge j k).elim (hz j) (fun h => by rw [show j = k from by omega]; simpa using hb25)), H28⟩ (by first | (dsimp only; omega) | omega) ⟨by first | rfl | exact vint (by omega), by first | rfl | exact vint (by omega), by first | rfl | exact vint (by omega), by first | rfl | exact vint (by omega), trivial⟩
        · have hb25 := eq_false_of_ne_true hb25
          refine g_false (congrArg Value.bool hb25) ?_
          refine g_exit (by rfl) ?_
          refine g_seq ?_
          refine g_seq ?_
          refine g_region ?_
          refine r_cons (s_move (.int .i64 (k : Int)) rfl rfl ?_)
          have hzz : zeros R = k := zeros_is hk hkr hz (by first | (left; omega) | (right; left; omega) | (right; right; simpa using hb25))
          clear hz
          refine r_cons (s_eql false rfl rfl (dfalse (by omega)) rfl ?_)
          refine r_nil ?_
          refine g_false rfl ?_
          refine g_skip ?_
          refine g_seq ?_
          refine g_seq ?_
          refine g_region ?_
          refine r_cons (s_move (.int .i64 (k : Int)) rfl rfl ?_)
          refine r_cons (s_mul ((2 * k : Nat) : Int) rfl rfl ((wi64 (by omega)).trans (by omega)) rfl ?_)
          refine r_cons (s_add (((2 * k : Nat) : Int) + 1) rfl rfl (wi64 (by omega)) rfl ?_)
          refine r_cons (s_move (.pointer (some ⟨b, 0, none⟩)) rfl rfl ?_)
          refine r_cons (s_nilCheck (.pointer (some ⟨b, 0, none⟩)) rfl ⟨_, rfl⟩ rfl ?_)
          refine r_cons (s_fieldAddr 74 0 0 0 72 rfl fi_74_0 rfl rfl ?_)
          refine r_cons (s_load (.slice pp10 R.length cc11) ag_72 rfl (H22.blk_at (i := 1) rfl) rfl rfl ?_)
          refine r_cons (s_len R.length rfl ⟨_, un_72⟩ rfl ?_)
          by_cases hc29 : (R.length : Int) < ((2 * k : Nat) : Int) + 1
          · skip
            refine r_cons (s_gtr true rfl rfl (dtrue hc29) rfl ?_)
            refine r_nil ?_
            refine g_true rfl ?_
            refine g_seq ?_
            refine g_region ?_
            refine r_cons (s_assign (.int .u64 0) rfl rfl ?_)
            refine r_cons (s_assign (.int .i64 10) rfl rfl ?_)
            refine r_nil ?_
            refine g_ret' [.int .u64 0, .int .i64 10] Try.func49 Try.results49 ⟨rfl, rfl, trivial⟩ ?_
            have H30 : St W w3 (blk b (.cells #[.slice pp10 R.length cc11] 74 (0, 0)) :: Im 1 (.slice pp10 R.length cc11) R.length (R.flatMap blc) :: (F.set i emp)) := (((H22.move 2 rfl).move 2 rfl).drop 2 rfl)
            have H31 : St W w3 (RSrc b R :: (F.set i emp)) := St.shut_ex (.slice pp10 R.length cc11) (St.shut_star (ls := [blk b (.cells #[.slice pp10 R.length cc11] 74 (0, 0)), Im 1 (.slice pp10 R.length cc11) R.length (R.flatMap blc)]) H30)
            have H32 : St W w3 (RSrc b R :: (F.set i emp)) := H31
            have hE : natE R = 10 := natE_10 (by omega) (by omega)
            have hE0 : ¬ natE R = 0 := by rw [hE]; decide
            exact ⟨by rw [natU_no hE0, hE]; rfl, by rw [natN_no hE0, List.drop_zero]; exact St.back hi H32⟩
          · skip
            refine r_cons (s_gtr false rfl rfl (dfalse hc29) rfl ?_)
            refine r_nil ?_
            refine g_false rfl ?_
            refine g_skip ?_
            refine g_seq ?_
            refine g_region ?_
            refine r_cons (s_move (.pointer (some ⟨b, 0, none⟩)) rfl rfl ?_)
            refine r_cons (s_nilCheck (.pointer (some ⟨b, 0, none⟩)) rfl ⟨_, rfl⟩ rfl ?_)
            refine r_cons (s_fieldAddr 74 0 0 0 72 rfl fi_74_0 rfl rfl ?_)
            refine r_cons (s_load (.slice pp10 R.length cc11) ag_72 rfl (H22.blk_at (i := 1) rfl) rfl rfl ?_)
            refine r_cons (s_move (.int .i64 (k : Int)) rfl rfl ?_)
            refine r_cons (s_add ((k : Int) + 1) rfl rfl (wi64 (by omega)) rfl ?_)
            refine r_cons (s_move (.int .i64 (k : Int)) rfl rfl ?_)
            refine r_cons (s_mul ((2 * k : Nat) : Int) rfl rfl ((wi64 (by omega)).trans (by omega)) rfl ?_)
            refine r_cons (s_add (((2 * k : Nat) : Int) + 1) rfl rfl (wi64 (by omega)) rfl ?_)
            have hc33 := Im.cap H22 (i := 2) rfl
            refine r_cons (s_slice pp10 ((k : Int) + 1) (((2 * k : Nat) : Int) + 1) 1 (.slice (cutAt pp10 (k + 1) cc11 1) ((2 * k + 1) - (k + 1)) (cc11 - (k + 1))) rfl rfl rfl el_72 (by omega) (by first | rfl | (congr 1; omega)) rfl ?_)
            have H34 : St W w3 (Im 1 (.slice (cutAt pp10 (k + 1) cc11 1) ((2 * k + 1) - (k + 1)) (cc11 - (k + 1))) ((2 * k + 1) - (k + 1)) (((R.drop (k + 1)).take ((2 * k + 1) - (k + 1))).flatMap blc) :: imi (0 < R.length) gA12 (.cells kA14 eA15 zA16) :: blk b (.cells #[.slice pp10 R.length cc11] 74 (0, 0)) :: Im 1 (.slice pp10 R.length cc11) R.length (R.flatMap blc) :: (F.set i emp)) := Im.cut blc_len (k + 1) (2 * k + 1) H22 (i := 2) rfl (by omega) (by omega)
            refine r_cons (s_call [.slice (cutAt pp10 (k + 1) cc11 1) ((2 * k + 1) - (k + 1)) (cc11 - (k + 1))] pl_59 rfl rfl (ref01_value _ _ ((R.drop (k + 1)).take ((2 * k + 1) - (k + 1))) (by first | rfl | (simp only [List.length_take, List.length_drop]; omega)) (by omega) (j := 0) rfl H34) ?_)
            rintro _ w35 ⟨rfl, H36⟩
            refine r_cons (s_assign (.int .u64 (valOf ((R.drop (k + 1)).take ((2 * k + 1) - (k + 1))) : Int)) rfl rfl ?_)
            refine r_nil ?_
            refine g_seq ?_
            refine g_seq ?_
            refine g_region ?_
            have hlow : valOf ((R.drop (k + 1)).take (2 * k + 1 - (k + 1))) = valOf ((R.drop (zeros R + 1)).take (zeros R)) := by rw [hzz]; congr 2; omega
            have hlt : valOf ((R.drop (k + 1)).take (2 * k + 1 - (k + 1))) < 2 ^ k := by rw [hlow, hzz]; exact valOf_take_lt _ _
            refine r_cons (s_move (.int .i64 (k : Int)) rfl rfl ?_)
            by_cases hc37 : (k : Int) = 64
            · skip
              refine r_cons (s_eql true rfl rfl (dtrue hc37) rfl ?_)
              refine r_cons (s_move (.bool true) rfl rfl ?_)
              refine r_cons (r_take rfl rfl ?_)
              refine s_move (.int .u64 (valOf ((R.drop (k + 1)).take ((2 * k + 1) - (k + 1))) : Int)) rfl rfl ?_
              refine r_cons (r_take rfl rfl ?_)
              by_cases hc38 : (0 : Int) < (valOf ((R.drop (k + 1)).take ((2 * k + 1) - (k + 1))) : Int)
              · skip
                refine s_gtr true rfl rfl (dtrue hc38) rfl ?_
                refine r_cons (s_pick_t (.bool true) rfl rfl rfl ?_)
                refine r_nil ?_
                refine g_true rfl ?_
                refine g_seq ?_
                refine g_region ?_
                refine r_cons (s_assign (.int .u64 0) rfl rfl ?_)
                refine r_cons (s_assign (.int .i64 11) rfl rfl ?_)
                refine r_nil ?_
                refine g_ret' [.int .u64 0, .int .i64 11] Try.func49 Try.results49 ⟨rfl, rfl, trivial⟩ ?_
                have H39 : St W w35 (blk b (.cells #[.slice pp10 R.length cc11] 74 (0, 0)) :: Im 1 (.slice pp10 R.length cc11) R.length (R.flatMap blc) :: Im 1 (.slice (cutAt pp10 (k + 1) cc11 1) ((2 * k + 1) - (k + 1)) (cc11 - (k + 1))) ((2 * k + 1) - (k + 1)) (((R.drop (k + 1)).take ((2 * k + 1) - (k + 1))).flatMap blc) :: (F.set i emp)) := (((H36.move 3 rfl).move 3 rfl).drop 3 rfl)
                have H40 : St W w35 (RSrc b R :: Im 1 (.slice (cutAt pp10 (k + 1) cc11 1) ((2 * k + 1) - (k + 1)) (cc11 - (k + 1))) ((2 * k + 1) - (k + 1)) (((R.drop (k + 1)).take ((2 * k + 1) - (k + 1))).flatMap blc) :: (F.set i emp)) := St.shut_ex (.slice pp10 R.length cc11) (St.shut_star (ls := [blk b (.cells #[.slice pp10 R.length cc11] 74 (0, 0)), Im 1 (.slice pp10 R.length cc11) R.length (R.flatMap blc)]) H39)
                have H41 : St W w35 (RSrc b R :: (F.set i emp)) := (H40.drop 1 rfl)
                have hE : natE R = 11 := by first | exact natE_65 (by omega) | exact natE_11 (by omega) (by omega) (by rw [← hlow]; omega)
                have hE0 : ¬ natE R = 0 := by rw [hE]; decide
                exact ⟨by rw [natU_no hE0, hE]; rfl, by rw [natN_no hE0, List.drop_zero]; exact St.back hi H41⟩
              · skip
                refine s_gtr false rfl rfl (dfalse hc38) rfl ?_
                refine r_cons (s_pick_t (.bool false) rfl rfl rfl ?_)
                refine r_nil ?_
                refine g_false rfl ?_
                refine g_skip ?_
                refine g_seq ?_
                refine g_region ?_
                refine r_cons (s_move (.pointer (some ⟨b, 0, none⟩)) rfl rfl ?_)
                refine r_cons (s_move (.pointer (some ⟨b, 0, none⟩)) rfl rfl ?_)
                refine r_cons (s_nilCheck (.pointer (some ⟨b, 0, none⟩)) rfl ⟨_, rfl⟩ rfl ?_)
                refine r_cons (s_fieldAddr 74 0 0 0 72 rfl fi_74_0 rfl rfl ?_)
                refine r_cons (s_load (.slice pp10 R.length cc11) ag_72 rfl (H36.blk_at (i := 2) rfl) rfl rfl ?_)
                refine r_cons (s_move (.int .i64 (k : Int)) rfl rfl ?_)
                refine r_cons (s_mul ((2 * k : Nat) : Int) rfl rfl ((wi64 (by omega)).trans (by omega)) rfl ?_)
                refine r_cons (s_add (((2 * k : Nat) : Int) + 1) rfl rfl (wi64 (by omega)) rfl ?_)
                have hc42 := Im.cap H36 (i := 3) rfl
                refine r_cons (s_slice_l pp10 (((2 * k : Nat) : Int) + 1) 1 (.slice (cutAt pp10 (2 * k + 1) cc11 1) (R.length - (2 * k + 1)) (cc11 - (2 * k + 1))) rfl rfl el_72 (by omega) (by first | rfl | (congr 1; omega)) rfl ?_)
                have H43 : St W w35 (Im 1 (.slice (cutAt pp10 (2 * k + 1) cc11 1) (R.length - (2 * k + 1)) (cc11 - (2 * k + 1))) (R.length - (2 * k + 1)) ((R.drop (2 * k + 1)).flatMap blc) :: Im 1 (.slice (cutAt pp10 (k + 1) cc11 1) ((2 * k + 1) - (k + 1)) (cc11 - (k + 1))) ((2 * k + 1) - (k + 1)) (((R.drop (k + 1)).take ((2 * k + 1) - (k + 1))).flatMap blc) :: imi (0 < R.length) gA12 (.cells kA14 eA15 zA16) :: blk b (.cells #[.slice pp10 R.length cc11] 74 (0, 0)) :: Im 1 (.slice pp10 R.length cc11) R.length (R.flatMap blc) :: (F.set i emp)) := Im.cut_l blc_len (2 * k + 1) H36 (i := 3) rfl (by omega)
                refine r_cons (s_nilCheck (.pointer (some ⟨b, 0, none⟩)) rfl ⟨_, rfl⟩ rfl ?_)
                refine r_cons (s_fieldAddr 74 0 0 0 72 rfl fi_74_0 rfl rfl ?_)
                refine r_cons (s_store H43 3 (.slice (cutAt pp10 (2 * k + 1) cc11 1) (R.length - (2 * k + 1)) (cc11 - (2 * k + 1))) rfl rfl rfl sz_72 rfl (Nat.le_of_ble_eq_true rfl) rfl (cs' := #[.slice (cutAt pp10 (2 * k + 1) cc11 1) (R.length - (2 * k + 1)) (cc11 - (2 * k + 1))]) rfl ?_); intro w44 H45
                refine r_nil ?_
                refine g_seq ?_
                refine g_seq ?_
                refine g_region ?_
                refine r_cons (s_move (.int .i64 (k : Int)) rfl rfl ?_)
                refine r_cons (s_eql true rfl rfl (dtrue (by omega)) rfl ?_)
                refine r_nil ?_
                refine g_true rfl ?_
                refine g_seq ?_
                refine g_region ?_
                refine r_cons (s_assign (.int .u64 18446744073709551615) rfl rfl ?_)
                refine r_cons (s_assign (.int .i64 0) rfl rfl ?_)
                refine r_nil ?_
                refine g_ret' [.int .u64 18446744073709551615, .int .i64 0] Try.func49 Try.results49 ⟨rfl, rfl, trivial⟩ ?_
                have H46 : St W w44 (blk b (.cells #[.slice (cutAt pp10 (2 * k + 1) cc11 1) (R.length - (2 * k + 1)) (cc11 - (2 * k + 1))] 74 (0, 0)) :: Im 1 (.slice (cutAt pp10 (2 * k + 1) cc11 1) (R.length - (2 * k + 1)) (cc11 - (2 * k + 1))) (R.length - (2 * k + 1)) ((R.drop (2 * k + 1)).flatMap blc) :: Im 1 (.slice (cutAt pp10 (k + 1) cc11 1) ((2 * k + 1) - (k + 1)) (cc11 - (k + 1))) ((2 * k + 1) - (k + 1)) (((R.drop (k + 1)).take ((2 * k + 1) - (k + 1))).flatMap blc) :: Im 1 (.slice pp10 R.length cc11) R.length (R.flatMap blc) :: (F.set i emp)) := (((((H45.move 4 rfl).move 2 rfl).move 2 rfl).move 4 rfl).drop 4 rfl)
                have H47 : St W w44 (blk b (.cells #[.slice (cutAt pp10 (2 * k + 1) cc11 1) (R.length - (2 * k + 1)) (cc11 - (2 * k + 1))] 74 (0, 0)) :: Im 1 (.slice (cutAt pp10 (2 * k + 1) cc11 1) (R.length - (2 * k + 1)) (cc11 - (2 * k + 1))) ((R.drop (2 * k + 1)).length) ((R.drop (2 * k + 1)).flatMap blc) :: Im 1 (.slice (cutAt pp10 (k + 1) cc11 1) ((2 * k + 1) - (k + 1)) (cc11 - (k + 1))) ((2 * k + 1) - (k + 1)) (((R.drop (k + 1)).take ((2 * k + 1) - (k + 1))).flatMap blc) :: Im 1 (.slice pp10 R.length cc11) R.length (R.flatMap blc) :: (F.set i emp)) := by rw [show (R.drop (2 * k + 1)).length = R.length - (2 * k + 1) from by simp only [List.length_drop, List.length_take]; (try omega)]; exact H46
                have H48 : St W w44 (RSrc b (R.drop (2 * k + 1)) :: Im 1 (.slice (cutAt pp10 (k + 1) cc11 1) ((2 * k + 1) - (k + 1)) (cc11 - (k + 1))) ((2 * k + 1) - (k + 1)) (((R.drop (k + 1)).take ((2 * k + 1) - (k + 1))).flatMap blc) :: Im 1 (.slice pp10 R.length cc11) R.length (R.flatMap blc) :: (F.set i emp)) := St.shut_ex (.slice (cutAt pp10 (2 * k + 1) cc11 1) (R.length - (2 * k + 1)) (cc11 - (2 * k + 1))) (St.shut_star (ls := [blk b (.cells #[.slice (cutAt pp10 (2 * k + 1) cc11 1) (R.length - (2 * k + 1)) (cc11 - (2 * k + 1))] 74 (0, 0)), Im 1 (.slice (cutAt pp10 (2 * k + 1) cc11 1) (R.length - (2 * k + 1)) (cc11 - (2 * k + 1))) ((R.drop (2 * k + 1)).length) ((R.drop (2 * k + 1)).flatMap blc)]) H47)
                have H49 : St W w44 (RSrc b (R.drop (2 * k + 1)) :: (F.set i emp)) := ((H48.drop 1 rfl).drop 1 rfl)
                have hE : natE R = 0 := natE_0 (by omega) (by omega) (by rw [← hlow]; omega)
                have hN : natN R = 2 * k + 1 := by rw [natN_0 hE]; omega
                have hv : (natU R : Int) = 18446744073709551615 := by rw [natU_64 hE (by omega)]; rfl
                exact ⟨by rw [hE, hv]; rfl, by rw [hN]; exact St.back hi H49⟩
            · skip
              refine r_cons (s_eql false rfl rfl (dfalse hc37) rfl ?_)
              refine r_cons (s_move (.bool false) rfl rfl ?_)
              refine r_cons (r_pass rfl rfl rfl rfl rfl ?_)
              refine r_cons (r_pass rfl rfl rfl rfl rfl ?_)
              refine r_cons (s_pick_f (.bool false) rfl rfl rfl ?_)
              refine r_nil ?_
              refine g_false rfl ?_
              refine g_skip ?_
              refine g_seq ?_
              refine g_region ?_
              refine r_cons (s_move (.pointer (some ⟨b, 0, none⟩)) rfl rfl ?_)
              refine r_cons (s_move (.pointer (some ⟨b, 0, none⟩)) rfl rfl ?_)
              refine r_cons (s_nilCheck (.pointer (some ⟨b, 0, none⟩)) rfl ⟨_, rfl⟩ rfl ?_)
              refine r_cons (s_fieldAddr 74 0 0 0 72 rfl fi_74_0 rfl rfl ?_)
              refine r_cons (s_load (.slice pp10 R.length cc11) ag_72 rfl (H36.blk_at (i := 2) rfl) rfl rfl ?_)
              refine r_cons (s_move (.int .i64 (k : Int)) rfl rfl ?_)
              refine r_cons (s_mul ((2 * k : Nat) : Int) rfl rfl ((wi64 (by omega)).trans (by omega)) rfl ?_)
              refine r_cons (s_add (((2 * k : Nat) : Int) + 1) rfl rfl (wi64 (by omega)) rfl ?_)
              have hc50 := Im.cap H36 (i := 3) rfl
              refine r_cons (s_slice_l pp10 (((2 * k : Nat) : Int) + 1) 1 (.slice (cutAt pp10 (2 * k + 1) cc11 1) (R.length - (2 * k + 1)) (cc11 - (2 * k + 1))) rfl rfl el_72 (by omega) (by first | rfl | (congr 1; omega)) rfl ?_)
              have H51 : St W w35 (Im 1 (.slice (cutAt pp10 (2 * k + 1) cc11 1) (R.length - (2 * k + 1)) (cc11 - (2 * k + 1))) (R.length - (2 * k + 1)) ((R.drop (2 * k + 1)).flatMap blc) :: Im 1 (.slice (cutAt pp10 (k + 1) cc11 1) ((2 * k + 1) - (k + 1)) (cc11 - (k + 1))) ((2 * k + 1) - (k + 1)) (((R.drop (k + 1)).take ((2 * k + 1) - (k + 1))).flatMap blc) :: imi (0 < R.length) gA12 (.cells kA14 eA15 zA16) :: blk b (.cells #[.slice pp10 R.length cc11] 74 (0, 0)) :: Im 1 (.slice pp10 R.length cc11) R.length (R.flatMap blc) :: (F.set i emp)) := Im.cut_l blc_len (2 * k + 1) H36 (i := 3) rfl (by omega)
              refine r_cons (s_nilCheck (.pointer (some ⟨b, 0, none⟩)) rfl ⟨_, rfl⟩ rfl ?_)
              refine r_cons (s_fieldAddr 74 0 0 0 72 rfl fi_74_0 rfl rfl ?_)
              refine r_cons (s_store H51 3 (.slice (cutAt pp10 (2 * k + 1) cc11 1) (R.length - (2 * k + 1)) (cc11 - (2 * k + 1))) rfl rfl rfl sz_72 rfl (Nat.le_of_ble_eq_true rfl) rfl (cs' := #[.slice (cutAt pp10 (2 * k + 1) cc11 1) (R.length - (2 * k + 1)) (cc11 - (2 * k + 1))]) rfl ?_); intro w52 H53
              refine r_nil ?_
              refine g_seq ?_
              refine g_seq ?_
              refine g_region ?_
              refine r_cons (s_move (.int .i64 (k : Int)) rfl rfl ?_)
              refine r_cons (s_eql false rfl rfl (dfalse (by omega)) rfl ?_)
              refine r_nil ?_
              refine g_false rfl ?_
              refine g_skip ?_
              refine g_seq ?_
              refine g_region ?_
              refine r_cons (s_move (.int .i64 (k : Int)) rfl rfl ?_)
              have hpw := pow_le63 (k := k) (by omega)
              have hq : 0 < 2 ^ k := Nat.pow_pos (by decide)
              refine r_cons (s_shl ((2 ^ k : Nat) : Int) rfl rfl (by omega) (shl_one rfl (by omega)) rfl ?_)
              refine r_cons (s_move (.int .u64 (valOf ((R.drop (k + 1)).take ((2 * k + 1) - (k + 1))) : Int)) rfl rfl ?_)
              refine r_cons (s_add ((2 ^ k + valOf ((R.drop (k + 1)).take (2 * k + 1 - (k + 1))) : Nat) : Int) rfl rfl ((wu64 (by generalize 2 ^ k = q at *; omega)).trans (by generalize 2 ^ k = q at *; omega)) rfl ?_)
              refine r_cons (s_sub ((2 ^ k + valOf ((R.drop (k + 1)).take (2 * k + 1 - (k + 1))) - 1 : Nat) : Int) rfl rfl ((wu64 (by generalize 2 ^ k = q at *; omega)).trans (by generalize 2 ^ k = q at *; omega)) rfl ?_)
              refine r_cons (s_assign (.int .u64 ((2 ^ k + valOf ((R.drop (k + 1)).take (2 * k + 1 - (k + 1))) - 1 : Nat) : Int)) rfl rfl ?_)
              refine r_cons (s_assign (.int .i64 0) rfl rfl ?_)
              refine r_nil ?_
              refine g_ret' [.int .u64 ((2 ^ k + valOf ((R.drop (k + 1)).take (2 * k + 1 - (k + 1))) - 1 : Nat) : Int), .int .i64 0] Try.func49 Try.results49 ⟨rfl, rfl, trivial⟩ ?_
              have H54 : St W w52 (blk b (.cells #[.slice (cutAt pp10 (2 * k + 1) cc11 1) (R.length - (2 * k + 1)) (cc11 - (2 * k + 1))] 74 (0, 0)) :: Im 1 (.slice (cutAt pp10 (2 * k + 1) cc11 1) (R.length - (2 * k + 1)) (cc11 - (2 * k + 1))) (R.length - (2 * k + 1)) ((R.drop (2 * k + 1)).flatMap blc) :: Im 1 (.slice (cutAt pp10 (k + 1) cc11 1) ((2 * k + 1) - (k + 1)) (cc11 - (k + 1))) ((2 * k + 1) - (k + 1)) (((R.drop (k + 1)).take ((2 * k + 1) - (k + 1))).flatMap blc) :: Im 1 (.slice pp10 R.length cc11) R.length (R.flatMap blc) :: (F.set i emp)) := (((((H53.move 4 rfl).move 2 rfl).move 2 rfl).move 4 rfl).drop 4 rfl)
              have H55 : St W w52 (blk b (.cells #[.slice (cutAt pp10 (2 * k + 1) cc11 1) (R.length - (2 * k + 1)) (cc11 - (2 * k + 1))] 74 (0, 0)) :: Im 1 (.slice (cutAt pp10 (2 * k + 1) cc11 1) (R.length - (2 * k + 1)) (cc11 - (2 * k + 1))) ((R.drop (2 * k + 1)).length) ((R.drop (2 * k + 1)).flatMap blc) :: Im 1 (.slice (cutAt pp10 (k + 1) cc11 1) ((2 * k + 1) - (k + 1)) (cc11 - (k + 1))) ((2 * k + 1) - (k + 1)) (((R.drop (k + 1)).take ((2 * k + 1) - (k + 1))).flatMap blc) :: Im 1 (.slice pp10 R.length cc11) R.length (R.flatMap blc) :: (F.set i emp)) := by rw [show (R.drop (2 * k + 1)).length = R.length - (2 * k + 1) from by simp only [List.length_drop, List.length_take]; (try omega)]; exact H54
              have H56 : St W w52 (RSrc b (R.drop (2 * k + 1)) :: Im 1 (.slice (cutAt pp10 (k + 1) cc11 1) ((2 * k + 1) - (k + 1)) (cc11 - (k + 1))) ((2 * k + 1) - (k + 1)) (((R.drop (k + 1)).take ((2 * k + 1) - (k + 1))).flatMap blc) :: Im 1 (.slice pp10 R.length cc11) R.length (R.flatMap blc) :: (F.set i emp)) := St.shut_ex (.slice (cutAt pp10 (2 * k + 1) cc11 1) (R.length - (2 * k + 1)) (cc11 - (2 * k + 1))) (St.shut_star (ls := [blk b (.cells #[.slice (cutAt pp10 (2 * k + 1) cc11 1) (R.length - (2 * k + 1)) (cc11 - (2 * k + 1))] 74 (0, 0)), Im 1 (.slice (cutAt pp10 (2 * k + 1) cc11 1) (R.length - (2 * k + 1)) (cc11 - (2 * k + 1))) ((R.drop (2 * k + 1)).length) ((R.drop (2 * k + 1)).flatMap blc)]) H55)
              have H57 : St W w52 (RSrc b (R.drop (2 * k + 1)) :: (F.set i emp)) := ((H56.drop 1 rfl).drop 1 rfl)
              have hE : natE R = 0 := natE_0 (by omega) (by omega) (by rw [← hlow]; omega)
              have hN : natN R = 2 * k + 1 := by rw [natN_0 hE]; omega
              have hv : (natU R : Int) = ((2 ^ k + valOf ((R.drop (k + 1)).take (2 * k + 1 - (k + 1))) - 1 : Nat) : Int) := by rw [natU_is hE (by omega), ← hlow, hzz]; congr 1; omega
              exact ⟨by rw [hE, hv]; rfl, by rw [hN]; exact St.back hi H57⟩
      · skip
        refine s_lss false rfl rfl (dfalse hc24) rfl ?_
        refine r_cons (s_pick_t (.bool false) rfl rfl rfl ?_)
        refine r_cons (s_move (.bool false) rfl rfl ?_)
        refine r_cons (r_pass rfl rfl rfl rfl rfl ?_)
        refine r_cons (r_pass rfl rfl rfl rfl rfl ?_)
        refine r_cons (r_pass rfl rfl rfl rfl rfl ?_)
        refine r_cons (r_pass rfl rfl rfl rfl rfl ?_)
        refine r_cons (r_pass rfl rfl rfl rfl rfl ?_)
        refine r_cons (r_pass rfl rfl rfl rfl rfl ?_)
        refine r_cons (r_pass rfl rfl rfl rfl rfl ?_)
        refine r_cons (r_pass rfl rfl rfl rfl rfl ?_)
        refine r_cons (s_pick_f (.bool false) rfl rfl rfl ?_)
        refine r_nil ?_
        refine g_false rfl ?_
        refine g_exit (by rfl) ?_
        refine g_seq ?_
        refine g_seq ?_
        refine g_region ?_
        refine r_cons (s_move (.int .i64 (k : Int)) rfl rfl ?_)
        have hzz : zeros R = k := zeros_is hk hkr hz (by first | (left; omega) | (right; left; omega) | (right; right; simpa using hz))
        clear hz
        by_cases hc58 : (k : Int) = 65
        · skip
          refine r_cons (s_eql true rfl rfl (dtrue hc58) rfl ?_)
          refine r_nil ?_
          refine g_true rfl ?_
          refine g_seq ?_
          refine g_region ?_
          refine r_cons (s_assign (.int .u64 0) rfl rfl ?_)
          refine r_cons (s_assign (.int .i64 11) rfl rfl ?_)
          refine r_nil ?_
          refine g_ret' [.int .u64 0, .int .i64 11] Try.func49 Try.results49 ⟨rfl, rfl, trivial⟩ ?_
          have H59 : St W w3 (blk b (.cells #[.slice pp10 R.length cc11] 74 (0, 0)) :: Im 1 (.slice pp10 R.length cc11) R.length (R.flatMap blc) :: (F.set i emp)) := (((H22.move 2 rfl).move 2 rfl).drop 2 rfl)
          have H60 : St W w3 (RSrc b R :: (F.set i emp)) := St.shut_ex (.slice pp10 R.length cc11) (St.shut_star (ls := [blk b (.cells #[.slice pp10 R.length cc11] 74 (0, 0)), Im 1 (.slice pp10 R.length cc11) R.length (R.flatMap blc)]) H59)
          have H61 : St W w3 (RSrc b R :: (F.set i emp)) := H60
          have hE : natE R = 11 := by first | exact natE_65 (by omega) | exact natE_11 (by omega) (by omega) (by rw [← hlow]; omega)
          have hE0 : ¬ natE R = 0 := by rw [hE]; decide
          exact ⟨by rw [natU_no hE0, hE]; rfl, by rw [natN_no hE0, List.drop_zero]; exact St.back hi H61⟩
        · skip
          refine r_cons (s_eql false rfl rfl (dfalse hc58) rfl ?_)
          refine r_nil ?_
          refine g_false rfl ?_
          refine g_skip ?_
          refine g_seq ?_
          refine g_seq ?_
          refine g_region ?_
          refine r_cons (s_move (.int .i64 (k : Int)) rfl rfl ?_)
          refine r_cons (s_mul ((2 * k : Nat) : Int) rfl rfl ((wi64 (by omega)).trans (by omega)) rfl ?_)
          refine r_cons (s_add (((2 * k : Nat) : Int) + 1) rfl rfl (wi64 (by omega)) rfl ?_)
          refine r_cons (s_move (.pointer (some ⟨b, 0, none⟩)) rfl rfl ?_)
          refine r_cons (s_nilCheck (.pointer (some ⟨b, 0, none⟩)) rfl ⟨_, rfl⟩ rfl ?_)
          refine r_cons (s_fieldAddr 74 0 0 0 72 rfl fi_74_0 rfl rfl ?_)
          refine r_cons (s_load (.slice pp10 R.length cc11) ag_72 rfl (H22.blk_at (i := 1) rfl) rfl rfl ?_)
          refine r_cons (s_len R.length rfl ⟨_, un_72⟩ rfl ?_)
          by_cases hc62 : (R.length : Int) < ((2 * k : Nat) : Int) + 1
          · skip
            refine r_cons (s_gtr true rfl rfl (dtrue hc62) rfl ?_)
            refine r_nil ?_
            refine g_true rfl ?_
            refine g_seq ?_
            refine g_region ?_
            refine r_cons (s_assign (.int .u64 0) rfl rfl ?_)
            refine r_cons (s_assign (.int .i64 10) rfl rfl ?_)
            refine r_nil ?_
            refine g_ret' [.int .u64 0, .int .i64 10] Try.func49 Try.results49 ⟨rfl, rfl, trivial⟩ ?_
            have H63 : St W w3 (blk b (.cells #[.slice pp10 R.length cc11] 74 (0, 0)) :: Im 1 (.slice pp10 R.length cc11) R.length (R.flatMap blc) :: (F.set i emp)) := (((H22.move 2 rfl).move 2 rfl).drop 2 rfl)
            have H64 : St W w3 (RSrc b R :: (F.set i emp)) := St.shut_ex (.slice pp10 R.length cc11) (St.shut_star (ls := [blk b (.cells #[.slice pp10 R.length cc11] 74 (0, 0)), Im 1 (.slice pp10 R.length cc11) R.length (R.flatMap blc)]) H63)
            have H65 : St W w3 (RSrc b R :: (F.set i emp)) := H64
            have hE : natE R = 10 := natE_10 (by omega) (by omega)
            have hE0 : ¬ natE R = 0 := by rw [hE]; decide
            exact ⟨by rw [natU_no hE0, hE]; rfl, by rw [natN_no hE0, List.drop_zero]; exact St.back hi H65⟩
          · skip
            refine r_cons (s_gtr false rfl rfl (dfalse hc62) rfl ?_)
            refine r_nil ?_
            refine g_false rfl ?_
            refine g_skip ?_
            refine g_seq ?_
            refine g_region ?_
            refine r_cons (s_move (.pointer (some ⟨b, 0, none⟩)) rfl rfl ?_)
            refine r_cons (s_nilCheck (.pointer (some ⟨b, 0, none⟩)) rfl ⟨_, rfl⟩ rfl ?_)
            refine r_cons (s_fieldAddr 74 0 0 0 72 rfl fi_74_0 rfl rfl ?_)
            refine r_cons (s_load (.slice pp10 R.length cc11) ag_72 rfl (H22.blk_at (i := 1) rfl) rfl rfl ?_)
            refine r_cons (s_move (.int .i64 (k : Int)) rfl rfl ?_)
            refine r_cons (s_add ((k : Int) + 1) rfl rfl (wi64 (by omega)) rfl ?_)
            refine r_cons (s_move (.int .i64 (k : Int)) rfl rfl ?_)
            refine r_cons (s_mul ((2 * k : Nat) : Int) rfl rfl ((wi64 (by omega)).trans (by omega)) rfl ?_)
            refine r_cons (s_add (((2 * k : Nat) : Int) + 1) rfl rfl (wi64 (by omega)) rfl ?_)
            have hc66 := Im.cap H22 (i := 2) rfl
            refine r_cons (s_slice pp10 ((k : Int) + 1) (((2 * k : Nat) : Int) + 1) 1 (.slice (cutAt pp10 (k + 1) cc11 1) ((2 * k + 1) - (k + 1)) (cc11 - (k + 1))) rfl rfl rfl el_72 (by omega) (by first | rfl | (congr 1; omega)) rfl ?_)
            have H67 : St W w3 (Im 1 (.slice (cutAt pp10 (k + 1) cc11 1) ((2 * k + 1) - (k + 1)) (cc11 - (k + 1))) ((2 * k + 1) - (k + 1)) (((R.drop (k + 1)).take ((2 * k + 1) - (k + 1))).flatMap blc) :: imi (0 < R.length) gA12 (.cells kA14 eA15 zA16) :: blk b (.cells #[.slice pp10 R.length cc11] 74 (0, 0)) :: Im 1 (.slice pp10 R.length cc11) R.length (R.flatMap blc) :: (F.set i emp)) := Im.cut blc_len (k + 1) (2 * k + 1) H22 (i := 2) rfl (by omega) (by omega)
            refine r_cons (s_call [.slice (cutAt pp10 (k + 1) cc11 1) ((2 * k + 1) - (k + 1)) (cc11 - (k + 1))] pl_59 rfl rfl (ref01_value _ _ ((R.drop (k + 1)).take ((2 * k + 1) - (k + 1))) (by first | rfl | (simp only [List.length_take, List.length_drop]; omega)) (by omega) (j := 0) rfl H67) ?_)
            rintro _ w68 ⟨rfl, H69⟩
            refine r_cons (s_assign (.int .u64 (valOf ((R.drop (k + 1)).take ((2 * k + 1) - (k + 1))) : Int)) rfl rfl ?_)
            refine r_nil ?_
            refine g_seq ?_
            refine g_seq ?_
            refine g_region ?_
            have hlow : valOf ((R.drop (k + 1)).take (2 * k + 1 - (k + 1))) = valOf ((R.drop (zeros R + 1)).take (zeros R)) := by rw [hzz]; congr 2; omega
            have hlt : valOf ((R.drop (k + 1)).take (2 * k + 1 - (k + 1))) < 2 ^ k := by rw [hlow, hzz]; exact valOf_take_lt _ _
            refine r_cons (s_move (.int .i64 (k : Int)) rfl rfl ?_)
            refine r_cons (s_eql false rfl rfl (dfalse (by omega)) rfl ?_)
            refine r_cons (s_move (.bool false) rfl rfl ?_)
            refine r_cons (r_pass rfl rfl rfl rfl rfl ?_)
            refine r_cons (r_pass rfl rfl rfl rfl rfl ?_)
            refine r_cons (s_pick_f (.bool false) rfl rfl rfl ?_)
            refine r_nil ?_
            refine g_false rfl ?_
            refine g_skip ?_
            refine g_seq ?_
            refine g_region ?_
            refine r_cons (s_move (.pointer (some ⟨b, 0, none⟩)) rfl rfl ?_)
            refine r_cons (s_move (.pointer (some ⟨b, 0, none⟩)) rfl rfl ?_)
            refine r_cons (s_nilCheck (.pointer (some ⟨b, 0, none⟩)) rfl ⟨_, rfl⟩ rfl ?_)
            refine r_cons (s_fieldAddr 74 0 0 0 72 rfl fi_74_0 rfl rfl ?_)
            refine r_cons (s_load (.slice pp10 R.length cc11) ag_72 rfl (H69.blk_at (i := 2) rfl) rfl rfl ?_)
            refine r_cons (s_move (.int .i64 (k : Int)) rfl rfl ?_)
            refine r_cons (s_mul ((2 * k : Nat) : Int) rfl rfl ((wi64 (by omega)).trans (by omega)) rfl ?_)
            refine r_cons (s_add (((2 * k : Nat) : Int) + 1) rfl rfl (wi64 (by omega)) rfl ?_)
            have hc70 := Im.cap H69 (i := 3) rfl
            refine r_cons (s_slice_l pp10 (((2 * k : Nat) : Int) + 1) 1 (.slice (cutAt pp10 (2 * k + 1) cc11 1) (R.length - (2 * k + 1)) (cc11 - (2 * k + 1))) rfl rfl el_72 (by omega) (by first | rfl | (congr 1; omega)) rfl ?_)
            have H71 : St W w68 (Im 1 (.slice (cutAt pp10 (2 * k + 1) cc11 1) (R.length - (2 * k + 1)) (cc11 - (2 * k + 1))) (R.length - (2 * k + 1)) ((R.drop (2 * k + 1)).flatMap blc) :: Im 1 (.slice (cutAt pp10 (k + 1) cc11 1) ((2 * k + 1) - (k + 1)) (cc11 - (k + 1))) ((2 * k + 1) - (k + 1)) (((R.drop (k + 1)).take ((2 * k + 1) - (k + 1))).flatMap blc) :: imi (0 < R.length) gA12 (.cells kA14 eA15 zA16) :: blk b (.cells #[.slice pp10 R.length cc11] 74 (0, 0)) :: Im 1 (.slice pp10 R.length cc11) R.length (R.flatMap blc) :: (F.set i emp)) := Im.cut_l blc_len (2 * k + 1) H69 (i := 3) rfl (by omega)
            refine r_cons (s_nilCheck (.pointer (some ⟨b, 0, none⟩)) rfl ⟨_, rfl⟩ rfl ?_)
            refine r_cons (s_fieldAddr 74 0 0 0 72 rfl fi_74_0 rfl rfl ?_)
            refine r_cons (s_store H71 3 (.slice (cutAt pp10 (2 * k + 1) cc11 1) (R.length - (2 * k + 1)) (cc11 - (2 * k + 1))) rfl rfl rfl sz_72 rfl (Nat.le_of_ble_eq_true rfl) rfl (cs' := #[.slice (cutAt pp10 (2 * k + 1) cc11 1) (R.length - (2 * k + 1)) (cc11 - (2 * k + 1))]) rfl ?_); intro w72 H73
            refine r_nil ?_
            refine g_seq ?_
            refine g_seq ?_
            refine g_region ?_
            refine r_cons (s_move (.int .i64 (k : Int)) rfl rfl ?_)
            refine r_cons (s_eql false rfl rfl (dfalse (by omega)) rfl ?_)
            refine r_nil ?_
            refine g_false rfl ?_
            refine g_skip ?_
            refine g_seq ?_
            refine g_region ?_
            refine r_cons (s_move (.int .i64 (k : Int)) rfl rfl ?_)
            have hpw := pow_le63 (k := k) (by omega)
            have hq : 0 < 2 ^ k := Nat.pow_pos (by decide)
            refine r_cons (s_shl ((2 ^ k : Nat) : Int) rfl rfl (by omega) (shl_one rfl (by omega)) rfl ?_)
            refine r_cons (s_move (.int .u64 (valOf ((R.drop (k + 1)).take ((2 * k + 1) - (k + 1))) : Int)) rfl rfl ?_)
            refine r_cons (s_add ((2 ^ k + valOf ((R.drop (k + 1)).take (2 * k + 1 - (k + 1))) : Nat) : Int) rfl rfl ((wu64 (by generalize 2 ^ k = q at *; omega)).trans (by generalize 2 ^ k = q at *; omega)) rfl ?_)
            refine r_cons (s_sub ((2 ^ k + valOf ((R.drop (k + 1)).take (2 * k + 1 - (k + 1))) - 1 : Nat) : Int) rfl rfl ((wu64 (by generalize 2 ^ k = q at *; omega)).trans (by generalize 2 ^ k = q at *; omega)) rfl ?_)
            refine r_cons (s_assign (.int .u64 ((2 ^ k + valOf ((R.drop (k + 1)).take (2 * k + 1 - (k + 1))) - 1 : Nat) : Int)) rfl rfl ?_)
            refine r_cons (s_assign (.int .i64 0) rfl rfl ?_)
            refine r_nil ?_
            refine g_ret' [.int .u64 ((2 ^ k + valOf ((R.drop (k + 1)).take (2 * k + 1 - (k + 1))) - 1 : Nat) : Int), .int .i64 0] Try.func49 Try.results49 ⟨rfl, rfl, trivial⟩ ?_
            have H74 : St W w72 (blk b (.cells #[.slice (cutAt pp10 (2 * k + 1) cc11 1) (R.length - (2 * k + 1)) (cc11 - (2 * k + 1))] 74 (0, 0)) :: Im 1 (.slice (cutAt pp10 (2 * k + 1) cc11 1) (R.length - (2 * k + 1)) (cc11 - (2 * k + 1))) (R.length - (2 * k + 1)) ((R.drop (2 * k + 1)).flatMap blc) :: Im 1 (.slice (cutAt pp10 (k + 1) cc11 1) ((2 * k + 1) - (k + 1)) (cc11 - (k + 1))) ((2 * k + 1) - (k + 1)) (((R.drop (k + 1)).take ((2 * k + 1) - (k + 1))).flatMap blc) :: Im 1 (.slice pp10 R.length cc11) R.length (R.flatMap blc) :: (F.set i emp)) := (((((H73.move 4 rfl).move 2 rfl).move 2 rfl).move 4 rfl).drop 4 rfl)
            have H75 : St W w72 (blk b (.cells #[.slice (cutAt pp10 (2 * k + 1) cc11 1) (R.length - (2 * k + 1)) (cc11 - (2 * k + 1))] 74 (0, 0)) :: Im 1 (.slice (cutAt pp10 (2 * k + 1) cc11 1) (R.length - (2 * k + 1)) (cc11 - (2 * k + 1))) ((R.drop (2 * k + 1)).length) ((R.drop (2 * k + 1)).flatMap blc) :: Im 1 (.slice (cutAt pp10 (k + 1) cc11 1) ((2 * k + 1) - (k + 1)) (cc11 - (k + 1))) ((2 * k + 1) - (k + 1)) (((R.drop (k + 1)).take ((2 * k + 1) - (k + 1))).flatMap blc) :: Im 1 (.slice pp10 R.length cc11) R.length (R.flatMap blc) :: (F.set i emp)) := by rw [show (R.drop (2 * k + 1)).length = R.length - (2 * k + 1) from by simp only [List.length_drop, List.length_take]; (try omega)]; exact H74
            have H76 : St W w72 (RSrc b (R.drop (2 * k + 1)) :: Im 1 (.slice (cutAt pp10 (k + 1) cc11 1) ((2 * k + 1) - (k + 1)) (cc11 - (k + 1))) ((2 * k + 1) - (k + 1)) (((R.drop (k + 1)).take ((2 * k + 1) - (k + 1))).flatMap blc) :: Im 1 (.slice pp10 R.length cc11) R.length (R.flatMap blc) :: (F.set i emp)) := St.shut_ex (.slice (cutAt pp10 (2 * k + 1) cc11 1) (R.length - (2 * k + 1)) (cc11 - (2 * k + 1))) (St.shut_star (ls := [blk b (.cells #[.slice (cutAt pp10 (2 * k + 1) cc11 1) (R.length - (2 * k + 1)) (cc11 - (2 * k + 1))] 74 (0, 0)), Im 1 (.slice (cutAt pp10 (2 * k + 1) cc11 1) (R.length - (2 * k + 1)) (cc11 - (2 * k + 1))) ((R.drop (2 * k + 1)).length) ((R.drop (2 * k + 1)).flatMap blc)]) H75)
            have H77 : St W w72 (RSrc b (R.drop (2 * k + 1)) :: (F.set i emp)) := ((H76.drop 1 rfl).drop 1 rfl)
            have hE : natE R = 0 := natE_0 (by omega) (by omega) (by rw [← hlow]; omega)
            have hN : natN R = 2 * k + 1 := by rw [natN_0 hE]; omega
            have hv : (natU R : Int) = ((2 ^ k + valOf ((R.drop (k + 1)).take (2 * k + 1 - (k + 1))) - 1 : Nat) : Int) := by rw [natU_is hE (by omega), ← hlow, hzz]; congr 1; omega
            exact ⟨by rw [hE, hv]; rfl, by rw [hN]; exact St.back hi H77⟩
    · skip
      refine r_cons (s_lss false rfl rfl (dfalse hc23) rfl ?_)
      refine r_cons (s_move (.bool false) rfl rfl ?_)
      refine r_cons (r_pass rfl rfl rfl rfl rfl ?_)
      refine r_cons (r_pass rfl rfl rfl rfl rfl ?_)
      refine r_cons (s_pick_f (.bool false) rfl rfl rfl ?_)
      refine r_cons (s_move (.bool false) rfl rfl ?_)
      refine r_cons (r_pass rfl rfl rfl rfl rfl ?_)
      refine r_cons (r_pass rfl rfl rfl rfl rfl ?_)
      refine r_cons (r_pass rfl rfl rfl rfl rfl ?_)
      refine r_cons (r_pass rfl rfl rfl rfl rfl ?_)
      refine r_cons (r_pass rfl rfl rfl rfl rfl ?_)
      refine r_cons (r_pass rfl rfl rfl rfl rfl ?_)
      refine r_cons (r_pass rfl rfl rfl rfl rfl ?_)
      refine r_cons (r_pass rfl rfl rfl rfl rfl ?_)
      refine r_cons (s_pick_f (.bool false) rfl rfl rfl ?_)
      refine r_nil ?_
      refine g_false rfl ?_
      refine g_exit (by rfl) ?_
      refine g_seq ?_
      refine g_seq ?_
      refine g_region ?_
      refine r_cons (s_move (.int .i64 (k : Int)) rfl rfl ?_)
      have hzz : zeros R = k := zeros_is hk hkr hz (by first | (left; omega) | (right; left; omega) | (right; right; simpa using hz))
      clear hz
      by_cases hc78 : (k : Int) = 65
      · skip
        refine r_cons (s_eql true rfl rfl (dtrue hc78) rfl ?_)
        refine r_nil ?_
        refine g_true rfl ?_
        refine g_seq ?_
        refine g_region ?_
        refine r_cons (s_assign (.int .u64 0) rfl rfl ?_)
        refine r_cons (s_assign (.int .i64 11) rfl rfl ?_)
        refine r_nil ?_
        refine g_ret' [.int .u64 0, .int .i64 11] Try.func49 Try.results49 ⟨rfl, rfl, trivial⟩ ?_
        have H79 : St W w3 (blk b (.cells #[.slice pp10 R.length cc11] 74 (0, 0)) :: Im 1 (.slice pp10 R.length cc11) R.length (R.flatMap blc) :: (F.set i emp)) := (((H22.move 2 rfl).move 2 rfl).drop 2 rfl)
        have H80 : St W w3 (RSrc b R :: (F.set i emp)) := St.shut_ex (.slice pp10 R.length cc11) (St.shut_star (ls := [blk b (.cells #[.slice pp10 R.length cc11] 74 (0, 0)), Im 1 (.slice pp10 R.length cc11) R.length (R.flatMap blc)]) H79)
        have H81 : St W w3 (RSrc b R :: (F.set i emp)) := H80
        have hE : natE R = 11 := by first | exact natE_65 (by omega) | exact natE_11 (by omega) (by omega) (by rw [← hlow]; omega)
        have hE0 : ¬ natE R = 0 := by rw [hE]; decide
        exact ⟨by rw [natU_no hE0, hE]; rfl, by rw [natN_no hE0, List.drop_zero]; exact St.back hi H81⟩
      · skip
        refine r_cons (s_eql false rfl rfl (dfalse hc78) rfl ?_)
        refine r_nil ?_
        refine g_false rfl ?_
        refine g_skip ?_
        refine g_seq ?_
        refine g_seq ?_
        refine g_region ?_
        refine r_cons (s_move (.int .i64 (k : Int)) rfl rfl ?_)
        refine r_cons (s_mul ((2 * k : Nat) : Int) rfl rfl ((wi64 (by omega)).trans (by omega)) rfl ?_)
        refine r_cons (s_add (((2 * k : Nat) : Int) + 1) rfl rfl (wi64 (by omega)) rfl ?_)
        refine r_cons (s_move (.pointer (some ⟨b, 0, none⟩)) rfl rfl ?_)
        refine r_cons (s_nilCheck (.pointer (some ⟨b, 0, none⟩)) rfl ⟨_, rfl⟩ rfl ?_)
        refine r_cons (s_fieldAddr 74 0 0 0 72 rfl fi_74_0 rfl rfl ?_)
        refine r_cons (s_load (.slice pp10 R.length cc11) ag_72 rfl (H22.blk_at (i := 1) rfl) rfl rfl ?_)
        refine r_cons (s_len R.length rfl ⟨_, un_72⟩ rfl ?_)
        by_cases hc82 : (R.length : Int) < ((2 * k : Nat) : Int) + 1
        · skip
          refine r_cons (s_gtr true rfl rfl (dtrue hc82) rfl ?_)
          refine r_nil ?_
          refine g_true rfl ?_
          refine g_seq ?_
          refine g_region ?_
          refine r_cons (s_assign (.int .u64 0) rfl rfl ?_)
          refine r_cons (s_assign (.int .i64 10) rfl rfl ?_)
          refine r_nil ?_
          refine g_ret' [.int .u64 0, .int .i64 10] Try.func49 Try.results49 ⟨rfl, rfl, trivial⟩ ?_
          have H83 : St W w3 (blk b (.cells #[.slice pp10 R.length cc11] 74 (0, 0)) :: Im 1 (.slice pp10 R.length cc11) R.length (R.flatMap blc) :: (F.set i emp)) := (((H22.move 2 rfl).move 2 rfl).drop 2 rfl)
          have H84 : St W w3 (RSrc b R :: (F.set i emp)) := St.shut_ex (.slice pp10 R.length cc11) (St.shut_star (ls := [blk b (.cells #[.slice pp10 R.length cc11] 74 (0, 0)), Im 1 (.slice pp10 R.length cc11) R.length (R.flatMap blc)]) H83)
          have H85 : St W w3 (RSrc b R :: (F.set i emp)) := H84
          have hE : natE R = 10 := natE_10 (by omega) (by omega)
          have hE0 : ¬ natE R = 0 := by rw [hE]; decide
          exact ⟨by rw [natU_no hE0, hE]; rfl, by rw [natN_no hE0, List.drop_zero]; exact St.back hi H85⟩
        · skip
          refine r_cons (s_gtr false rfl rfl (dfalse hc82) rfl ?_)
          refine r_nil ?_
          refine g_false rfl ?_
          refine g_skip ?_
          refine g_seq ?_
          refine g_region ?_
          refine r_cons (s_move (.pointer (some ⟨b, 0, none⟩)) rfl rfl ?_)
          refine r_cons (s_nilCheck (.pointer (some ⟨b, 0, none⟩)) rfl ⟨_, rfl⟩ rfl ?_)
          refine r_cons (s_fieldAddr 74 0 0 0 72 rfl fi_74_0 rfl rfl ?_)
          refine r_cons (s_load (.slice pp10 R.length cc11) ag_72 rfl (H22.blk_at (i := 1) rfl) rfl rfl ?_)
          refine r_cons (s_move (.int .i64 (k : Int)) rfl rfl ?_)
          refine r_cons (s_add ((k : Int) + 1) rfl rfl (wi64 (by omega)) rfl ?_)
          refine r_cons (s_move (.int .i64 (k : Int)) rfl rfl ?_)
          refine r_cons (s_mul ((2 * k : Nat) : Int) rfl rfl ((wi64 (by omega)).trans (by omega)) rfl ?_)
          refine r_cons (s_add (((2 * k : Nat) : Int) + 1) rfl rfl (wi64 (by omega)) rfl ?_)
          have hc86 := Im.cap H22 (i := 2) rfl
          refine r_cons (s_slice pp10 ((k : Int) + 1) (((2 * k : Nat) : Int) + 1) 1 (.slice (cutAt pp10 (k + 1) cc11 1) ((2 * k + 1) - (k + 1)) (cc11 - (k + 1))) rfl rfl rfl el_72 (by omega) (by first | rfl | (congr 1; omega)) rfl ?_)
          have H87 : St W w3 (Im 1 (.slice (cutAt pp10 (k + 1) cc11 1) ((2 * k + 1) - (k + 1)) (cc11 - (k + 1))) ((2 * k + 1) - (k + 1)) (((R.drop (k + 1)).take ((2 * k + 1) - (k + 1))).flatMap blc) :: imi (0 < R.length) gA12 (.cells kA14 eA15 zA16) :: blk b (.cells #[.slice pp10 R.length cc11] 74 (0, 0)) :: Im 1 (.slice pp10 R.length cc11) R.length (R.flatMap blc) :: (F.set i emp)) := Im.cut blc_len (k + 1) (2 * k + 1) H22 (i := 2) rfl (by omega) (by omega)
          refine r_cons (s_call [.slice (cutAt pp10 (k + 1) cc11 1) ((2 * k + 1) - (k + 1)) (cc11 - (k + 1))] pl_59 rfl rfl (ref01_value _ _ ((R.drop (k + 1)).take ((2 * k + 1) - (k + 1))) (by first | rfl | (simp only [List.length_take, List.length_drop]; omega)) (by omega) (j := 0) rfl H87) ?_)
          rintro _ w88 ⟨rfl, H89⟩
          refine r_cons (s_assign (.int .u64 (valOf ((R.drop (k + 1)).take ((2 * k + 1) - (k + 1))) : Int)) rfl rfl ?_)
          refine r_nil ?_
          refine g_seq ?_
          refine g_seq ?_
          refine g_region ?_
          have hlow : valOf ((R.drop (k + 1)).take (2 * k + 1 - (k + 1))) = valOf ((R.drop (zeros R + 1)).take (zeros R)) := by rw [hzz]; congr 2; omega
          have hlt : valOf ((R.drop (k + 1)).take (2 * k + 1 - (k + 1))) < 2 ^ k := by rw [hlow, hzz]; exact valOf_take_lt _ _
          refine r_cons (s_move (.int .i64 (k : Int)) rfl rfl ?_)
          by_cases hc90 : (k : Int) = 64
          · skip
            refine r_cons (s_eql true rfl rfl (dtrue hc90) rfl ?_)
            refine r_cons (s_move (.bool true) rfl rfl ?_)
            refine r_cons (r_take rfl rfl ?_)
            refine s_move (.int .u64 (valOf ((R.drop (k + 1)).take ((2 * k + 1) - (k + 1))) : Int)) rfl rfl ?_
            refine r_cons (r_take rfl rfl ?_)
            by_cases hc91 : (0 : Int) < (valOf ((R.drop (k + 1)).take ((2 * k + 1) - (k + 1))) : Int)
            · skip
              refine s_gtr true rfl rfl (dtrue hc91) rfl ?_
              refine r_cons (s_pick_t (.bool true) rfl rfl rfl ?_)
              refine r_nil ?_
              refine g_true rfl ?_
              refine g_seq ?_
              refine g_region ?_
              refine r_cons (s_assign (.int .u64 0) rfl rfl ?_)
              refine r_cons (s_assign (.int .i64 11) rfl rfl ?_)
              refine r_nil ?_
              refine g_ret' [.int .u64 0, .int .i64 11] Try.func49 Try.results49 ⟨rfl, rfl, trivial⟩ ?_
              have H92 : St W w88 (blk b (.cells #[.slice pp10 R.length cc11] 74 (0, 0)) :: Im 1 (.slice pp10 R.length cc11) R.length (R.flatMap blc) :: Im 1 (.slice (cutAt pp10 (k + 1) cc11 1) ((2 * k + 1) - (k + 1)) (cc11 - (k + 1))) ((2 * k + 1) - (k + 1)) (((R.drop (k + 1)).take ((2 * k + 1) - (k + 1))).flatMap blc) :: (F.set i emp)) := (((H89.move 3 rfl).move 3 rfl).drop 3 rfl)
              have H93 : St W w88 (RSrc b R :: Im 1 (.slice (cutAt pp10 (k + 1) cc11 1) ((2 * k + 1) - (k + 1)) (cc11 - (k + 1))) ((2 * k + 1) - (k + 1)) (((R.drop (k + 1)).take ((2 * k + 1) - (k + 1))).flatMap blc) :: (F.set i emp)) := St.shut_ex (.slice pp10 R.length cc11) (St.shut_star (ls := [blk b (.cells #[.slice pp10 R.length cc11] 74 (0, 0)), Im 1 (.slice pp10 R.length cc11) R.length (R.flatMap blc)]) H92)
              have H94 : St W w88 (RSrc b R :: (F.set i emp)) := (H93.drop 1 rfl)
              have hE : natE R = 11 := by first | exact natE_65 (by omega) | exact natE_11 (by omega) (by omega) (by rw [← hlow]; omega)
              have hE0 : ¬ natE R = 0 := by rw [hE]; decide
              exact ⟨by rw [natU_no hE0, hE]; rfl, by rw [natN_no hE0, List.drop_zero]; exact St.back hi H94⟩
            · skip
              refine s_gtr false rfl rfl (dfalse hc91) rfl ?_
              refine r_cons (s_pick_t (.bool false) rfl rfl rfl ?_)
              refine r_nil ?_
              refine g_false rfl ?_
              refine g_skip ?_
              refine g_seq ?_
              refine g_region ?_
              refine r_cons (s_move (.pointer (some ⟨b, 0, none⟩)) rfl rfl ?_)
              refine r_cons (s_move (.pointer (some ⟨b, 0, none⟩)) rfl rfl ?_)
              refine r_cons (s_nilCheck (.pointer (some ⟨b, 0, none⟩)) rfl ⟨_, rfl⟩ rfl ?_)
              refine r_cons (s_fieldAddr 74 0 0 0 72 rfl fi_74_0 rfl rfl ?_)
              refine r_cons (s_load (.slice pp10 R.length cc11) ag_72 rfl (H89.blk_at (i := 2) rfl) rfl rfl ?_)
              refine r_cons (s_move (.int .i64 (k : Int)) rfl rfl ?_)
              refine r_cons (s_mul ((2 * k : Nat) : Int) rfl rfl ((wi64 (by omega)).trans (by omega)) rfl ?_)
              refine r_cons (s_add (((2 * k : Nat) : Int) + 1) rfl rfl (wi64 (by omega)) rfl ?_)
              have hc95 := Im.cap H89 (i := 3) rfl
              refine r_cons (s_slice_l pp10 (((2 * k : Nat) : Int) + 1) 1 (.slice (cutAt pp10 (2 * k + 1) cc11 1) (R.length - (2 * k + 1)) (cc11 - (2 * k + 1))) rfl rfl el_72 (by omega) (by first | rfl | (congr 1; omega)) rfl ?_)
              have H96 : St W w88 (Im 1 (.slice (cutAt pp10 (2 * k + 1) cc11 1) (R.length - (2 * k + 1)) (cc11 - (2 * k + 1))) (R.length - (2 * k + 1)) ((R.drop (2 * k + 1)).flatMap blc) :: Im 1 (.slice (cutAt pp10 (k + 1) cc11 1) ((2 * k + 1) - (k + 1)) (cc11 - (k + 1))) ((2 * k + 1) - (k + 1)) (((R.drop (k + 1)).take ((2 * k + 1) - (k + 1))).flatMap blc) :: imi (0 < R.length) gA12 (.cells kA14 eA15 zA16) :: blk b (.cells #[.slice pp10 R.length cc11] 74 (0, 0)) :: Im 1 (.slice pp10 R.length cc11) R.length (R.flatMap blc) :: (F.set i emp)) := Im.cut_l blc_len (2 * k + 1) H89 (i := 3) rfl (by omega)
              refine r_cons (s_nilCheck (.pointer (some ⟨b, 0, none⟩)) rfl ⟨_, rfl⟩ rfl ?_)
              refine r_cons (s_fieldAddr 74 0 0 0 72 rfl fi_74_0 rfl rfl ?_)
              refine r_cons (s_store H96 3 (.slice (cutAt pp10 (2 * k + 1) cc11 1) (R.length - (2 * k + 1)) (cc11 - (2 * k + 1))) rfl rfl rfl sz_72 rfl (Nat.le_of_ble_eq_true rfl) rfl (cs' := #[.slice (cutAt pp10 (2 * k + 1) cc11 1) (R.length - (2 * k + 1)) (cc11 - (2 * k + 1))]) rfl ?_); intro w97 H98
              refine r_nil ?_
              refine g_seq ?_
              refine g_seq ?_
              refine g_region ?_
              refine r_cons (s_move (.int .i64 (k : Int)) rfl rfl ?_)
              refine r_cons (s_eql true rfl rfl (dtrue (by omega)) rfl ?_)
              refine r_nil ?_
              refine g_true rfl ?_
              refine g_seq ?_
              refine g_region ?_
              refine r_cons (s_assign (.int .u64 18446744073709551615) rfl rfl ?_)
              refine r_cons (s_assign (.int .i64 0) rfl rfl ?_)
              refine r_nil ?_
              refine g_ret' [.int .u64 18446744073709551615, .int .i64 0] Try.func49 Try.results49 ⟨rfl, rfl, trivial⟩ ?_
              have H99 : St W w97 (blk b (.cells #[.slice (cutAt pp10 (2 * k + 1) cc11 1) (R.length - (2 * k + 1)) (cc11 - (2 * k + 1))] 74 (0, 0)) :: Im 1 (.slice (cutAt pp10 (2 * k + 1) cc11 1) (R.length - (2 * k + 1)) (cc11 - (2 * k + 1))) (R.length - (2 * k + 1)) ((R.drop (2 * k + 1)).flatMap blc) :: Im 1 (.slice (cutAt pp10 (k + 1) cc11 1) ((2 * k + 1) - (k + 1)) (cc11 - (k + 1))) ((2 * k + 1) - (k + 1)) (((R.drop (k + 1)).take ((2 * k + 1) - (k + 1))).flatMap blc) :: Im 1 (.slice pp10 R.length cc11) R.length (R.flatMap blc) :: (F.set i emp)) := (((((H98.move 4 rfl).move 2 rfl).move 2 rfl).move 4 rfl).drop 4 rfl)
              have H100 : St W w97 (blk b (.cells #[.slice (cutAt pp10 (2 * k + 1) cc11 1) (R.length - (2 * k + 1)) (cc11 - (2 * k + 1))] 74 (0, 0)) :: Im 1 (.slice (cutAt pp10 (2 * k + 1) cc11 1) (R.length - (2 * k + 1)) (cc11 - (2 * k + 1))) ((R.drop (2 * k + 1)).length) ((R.drop (2 * k + 1)).flatMap blc) :: Im 1 (.slice (cutAt pp10 (k + 1) cc11 1) ((2 * k + 1) - (k + 1)) (cc11 - (k + 1))) ((2 * k + 1) - (k + 1)) (((R.drop (k + 1)).take ((2 * k + 1) - (k + 1))).flatMap blc) :: Im 1 (.slice pp10 R.length cc11) R.length (R.flatMap blc) :: (F.set i emp)) := by rw [show (R.drop (2 * k + 1)).length = R.length - (2 * k + 1) from by simp only [List.length_drop, List.length_take]; (try omega)]; exact H99
              have H101 : St W w97 (RSrc b (R.drop (2 * k + 1)) :: Im 1 (.slice (cutAt pp10 (k + 1) cc11 1) ((2 * k + 1) - (k + 1)) (cc11 - (k + 1))) ((2 * k + 1) - (k + 1)) (((R.drop (k + 1)).take ((2 * k + 1) - (k + 1))).flatMap blc) :: Im 1 (.slice pp10 R.length cc11) R.length (R.flatMap blc) :: (F.set i emp)) := St.shut_ex (.slice (cutAt pp10 (2 * k + 1) cc11 1) (R.length - (2 * k + 1)) (cc11 - (2 * k + 1))) (St.shut_star (ls := [blk b (.cells #[.slice (cutAt pp10 (2 * k + 1) cc11 1) (R.length - (2 * k + 1)) (cc11 - (2 * k + 1))] 74 (0, 0)), Im 1 (.slice (cutAt pp10 (2 * k + 1) cc11 1) (R.length - (2 * k + 1)) (cc11 - (2 * k + 1))) ((R.drop (2 * k + 1)).length) ((R.drop (2 * k + 1)).flatMap blc)]) H100)
              have H102 : St W w97 (RSrc b (R.drop (2 * k + 1)) :: (F.set i emp)) := ((H101.drop 1 rfl).drop 1 rfl)
              have hE : natE R = 0 := natE_0 (by omega) (by omega) (by rw [← hlow]; omega)
              have hN : natN R = 2 * k + 1 := by rw [natN_0 hE]; omega
              have hv : (natU R : Int) = 18446744073709551615 := by rw [natU_64 hE (by omega)]; rfl
              exact ⟨by rw [hE, hv]; rfl, by rw [hN]; exact St.back hi H102⟩
          · skip
            refine r_cons (s_eql false rfl rfl (dfalse hc90) rfl ?_)
            refine r_cons (s_move (.bool false) rfl rfl ?_)
            refine r_cons (r_pass rfl rfl rfl rfl rfl ?_)
            refine r_cons (r_pass rfl rfl rfl rfl rfl ?_)
            refine r_cons (s_pick_f (.bool false) rfl rfl rfl ?_)
            refine r_nil ?_
            refine g_false rfl ?_
            refine g_skip ?_
            refine g_seq ?_
            refine g_region ?_
            refine r_cons (s_move (.pointer (some ⟨b, 0, none⟩)) rfl rfl ?_)
            refine r_cons (s_move (.pointer (some ⟨b, 0, none⟩)) rfl rfl ?_)
            refine r_cons (s_nilCheck (.pointer (some ⟨b, 0, none⟩)) rfl ⟨_, rfl⟩ rfl ?_)
            refine r_cons (s_fieldAddr 74 0 0 0 72 rfl fi_74_0 rfl rfl ?_)
            refine r_cons (s_load (.slice pp10 R.length cc11) ag_72 rfl (H89.blk_at (i := 2) rfl) rfl rfl ?_)
            refine r_cons (s_move (.int .i64 (k : Int)) rfl rfl ?_)
            refine r_cons (s_mul ((2 * k : Nat) : Int) rfl rfl ((wi64 (by omega)).trans (by omega)) rfl ?_)
            refine r_cons (s_add (((2 * k : Nat) : Int) + 1) rfl rfl (wi64 (by omega)) rfl ?_)
            have hc103 := Im.cap H89 (i := 3) rfl
            refine r_cons (s_slice_l pp10 (((2 * k : Nat) : Int) + 1) 1 (.slice (cutAt pp10 (2 * k + 1) cc11 1) (R.length - (2 * k + 1)) (cc11 - (2 * k + 1))) rfl rfl el_72 (by omega) (by first | rfl | (congr 1; omega)) rfl ?_)
            have H104 : St W w88 (Im 1 (.slice (cutAt pp10 (2 * k + 1) cc11 1) (R.length - (2 * k + 1)) (cc11 - (2 * k + 1))) (R.length - (2 * k + 1)) ((R.drop (2 * k + 1)).flatMap blc) :: Im 1 (.slice (cutAt pp10 (k + 1) cc11 1) ((2 * k + 1) - (k + 1)) (cc11 - (k + 1))) ((2 * k + 1) - (k + 1)) (((R.drop (k + 1)).take ((2 * k + 1) - (k + 1))).flatMap blc) :: imi (0 < R.length) gA12 (.cells kA14 eA15 zA16) :: blk b (.cells #[.slice pp10 R.length cc11] 74 (0, 0)) :: Im 1 (.slice pp10 R.length cc11) R.length (R.flatMap blc) :: (F.set i emp)) := Im.cut_l blc_len (2 * k + 1) H89 (i := 3) rfl (by omega)
            refine r_cons (s_nilCheck (.pointer (some ⟨b, 0, none⟩)) rfl ⟨_, rfl⟩ rfl ?_)
            refine r_cons (s_fieldAddr 74 0 0 0 72 rfl fi_74_0 rfl rfl ?_)
            refine r_cons (s_store H104 3 (.slice (cutAt pp10 (2 * k + 1) cc11 1) (R.length - (2 * k + 1)) (cc11 - (2 * k + 1))) rfl rfl rfl sz_72 rfl (Nat.le_of_ble_eq_true rfl) rfl (cs' := #[.slice (cutAt pp10 (2 * k + 1) cc11 1) (R.length - (2 * k + 1)) (cc11 - (2 * k + 1))]) rfl ?_); intro w105 H106
            refine r_nil ?_
            refine g_seq ?_
            refine g_seq ?_
            refine g_region ?_
            refine r_cons (s_move (.int .i64 (k : Int)) rfl rfl ?_)
            refine r_cons (s_eql false rfl rfl (dfalse (by omega)) rfl ?_)
            refine r_nil ?_
            refine g_false rfl ?_
            refine g_skip ?_
            refine g_seq ?_
            refine g_region ?_
            refine r_cons (s_move (.int .i64 (k : Int)) rfl rfl ?_)
            have hpw := pow_le63 (k := k) (by omega)
            have hq : 0 < 2 ^ k := Nat.pow_pos (by decide)
            refine r_cons (s_shl ((2 ^ k : Nat) : Int) rfl rfl (by omega) (shl_one rfl (by omega)) rfl ?_)
            refine r_cons (s_move (.int .u64 (valOf ((R.drop (k + 1)).take ((2 * k + 1) - (k + 1))) : Int)) rfl rfl ?_)
            refine r_cons (s_add ((2 ^ k + valOf ((R.drop (k + 1)).take (2 * k + 1 - (k + 1))) : Nat) : Int) rfl rfl ((wu64 (by generalize 2 ^ k = q at *; omega)).trans (by generalize 2 ^ k = q at *; omega)) rfl ?_)
            refine r_cons (s_sub ((2 ^ k + valOf ((R.drop (k + 1)).take (2 * k + 1 - (k + 1))) - 1 : Nat) : Int) rfl rfl ((wu64 (by generalize 2 ^ k = q at *; omega)).trans (by generalize 2 ^ k = q at *; omega)) rfl ?_)
            refine r_cons (s_assign (.int .u64 ((2 ^ k + valOf ((R.drop (k + 1)).take (2 * k + 1 - (k + 1))) - 1 : Nat) : Int)) rfl rfl ?_)
            refine r_cons (s_assign (.int .i64 0) rfl rfl ?_)
            refine r_nil ?_
            refine g_ret' [.int .u64 ((2 ^ k + valOf ((R.drop (k + 1)).take (2 * k + 1 - (k + 1))) - 1 : Nat) : Int), .int .i64 0] Try.func49 Try.results49 ⟨rfl, rfl, trivial⟩ ?_
            have H107 : St W w105 (blk b (.cells #[.slice (cutAt pp10 (2 * k + 1) cc11 1) (R.length - (2 * k + 1)) (cc11 - (2 * k + 1))] 74 (0, 0)) :: Im 1 (.slice (cutAt pp10 (2 * k + 1) cc11 1) (R.length - (2 * k + 1)) (cc11 - (2 * k + 1))) (R.length - (2 * k + 1)) ((R.drop (2 * k + 1)).flatMap blc) :: Im 1 (.slice (cutAt pp10 (k + 1) cc11 1) ((2 * k + 1) - (k + 1)) (cc11 - (k + 1))) ((2 * k + 1) - (k + 1)) (((R.drop (k + 1)).take ((2 * k + 1) - (k + 1))).flatMap blc) :: Im 1 (.slice pp10 R.length cc11) R.length (R.flatMap blc) :: (F.set i emp)) := (((((H106.move 4 rfl).move 2 rfl).move 2 rfl).move 4 rfl).drop 4 rfl)
            have H108 : St W w105 (blk b (.cells #[.slice (cutAt pp10 (2 * k + 1) cc11 1) (R.length - (2 * k + 1)) (cc11 - (2 * k + 1))] 74 (0, 0)) :: Im 1 (.slice (cutAt pp10 (2 * k + 1) cc11 1) (R.length - (2 * k + 1)) (cc11 - (2 * k + 1))) ((R.drop (2 * k + 1)).length) ((R.drop (2 * k + 1)).flatMap blc) :: Im 1 (.slice (cutAt pp10 (k + 1) cc11 1) ((2 * k + 1) - (k + 1)) (cc11 - (k + 1))) ((2 * k + 1) - (k + 1)) (((R.drop (k + 1)).take ((2 * k + 1) - (k + 1))).flatMap blc) :: Im 1 (.slice pp10 R.length cc11) R.length (R.flatMap blc) :: (F.set i emp)) := by rw [show (R.drop (2 * k + 1)).length = R.length - (2 * k + 1) from by simp only [List.length_drop, List.length_take]; (try omega)]; exact H107
            have H109 : St W w105 (RSrc b (R.drop (2 * k + 1)) :: Im 1 (.slice (cutAt pp10 (k + 1) cc11 1) ((2 * k + 1) - (k + 1)) (cc11 - (k + 1))) ((2 * k + 1) - (k + 1)) (((R.drop (k + 1)).take ((2 * k + 1) - (k + 1))).flatMap blc) :: Im 1 (.slice pp10 R.length cc11) R.length (R.flatMap blc) :: (F.set i emp)) := St.shut_ex (.slice (cutAt pp10 (2 * k + 1) cc11 1) (R.length - (2 * k + 1)) (cc11 - (2 * k + 1))) (St.shut_star (ls := [blk b (.cells #[.slice (cutAt pp10 (2 * k + 1) cc11 1) (R.length - (2 * k + 1)) (cc11 - (2 * k + 1))] 74 (0, 0)), Im 1 (.slice (cutAt pp10 (2 * k + 1) cc11 1) (R.length - (2 * k + 1)) (cc11 - (2 * k + 1))) ((R.drop (2 * k + 1)).length) ((R.drop (2 * k + 1)).flatMap blc)]) H108)
            have H110 : St W w105 (RSrc b (R.drop (2 * k + 1)) :: (F.set i emp)) := ((H109.drop 1 rfl).drop 1 rfl)
            have hE : natE R = 0 := natE_0 (by omega) (by omega) (by rw [← hlow]; omega)
            have hN : natN R = 2 * k + 1 := by rw [natN_0 hE]; omega
            have hv : (natU R : Int) = ((2 ^ k + valOf ((R.drop (k + 1)).take (2 * k + 1 - (k + 1))) - 1 : Nat) : Int) := by rw [natU_is hE (by omega), ← hlow, hzz]; congr 1; omega
            exact ⟨by rw [hE, hv]; rfl, by rw [hN]; exact St.back hi H110⟩
set_option maxHeartbeats 4000000 in
set_option maxRecDepth 100000 in
theorem RSrc_End {W w : World} {F : List Atom} (b : Nat) (R : List Bool) {i : Nat} (hi : F[i]? = some (RSrc b R)) (H : St W w F) : Calls Try.prog 35 #[.pointer (some ⟨b, 0, none⟩)] w (Ret fun v w' => v = .int .i64 (endE R) ∧ St W w' F) := by
  have H0 := H.front hi
  refine calls_of_go (n := 26) Try.func35 rfl Try.ntmps35 rfl ?_
  refine g_seq ?_
  refine g_region ?_
  refine r_cons (s_assign (.int .i64 0) rfl rfl ?_)
  refine r_nil ?_
  refine g_seq ?_
  refine g_seq ?_
  refine g_region ?_
  refine r_cons (s_move (.pointer (some ⟨b, 0, none⟩)) rfl rfl ?_)
  refine r_cons (s_nilCheck (.pointer (some ⟨b, 0, none⟩)) rfl ⟨_, rfl⟩ rfl ?_)
  refine r_cons (s_fieldAddr 74 0 0 0 72 rfl fi_74_0 rfl rfl ?_)
  have H1 := H0.move 0 rfl
  obtain ⟨vv2, H3⟩ := St.open_ex H1
  have H4 := St.open_star H3
  obtain ⟨pp5, cc6, gA7, oA8, kA9, eA10, zA11, rfl, hn12, hp13, hx14, hs15, hml, H16⟩ := Im.open_ H4 (i := 1) rfl
  have H17 : St W w (imi (0 < R.length) gA7 (.cells kA9 eA10 zA11) :: blk b (.cells #[.slice pp5 R.length cc6] 74 (0, 0)) :: Im 1 (.slice pp5 R.length cc6) R.length (R.flatMap blc) :: (F.set i emp)) := H16
  refine r_cons (s_load (.slice pp5 R.length cc6) ag_72 rfl (H17.blk_at (i := 1) rfl) rfl rfl ?_)
  refine r_cons (s_len R.length rfl ⟨_, un_72⟩ rfl ?_)
  by_cases hc18 : (7 : Int) < (R.length : Int)
  · skip
    refine r_cons (s_gtr true rfl rfl (dtrue hc18) rfl ?_)
    refine r_nil ?_
    refine g_true rfl ?_
    refine g_seq ?_
    refine g_region ?_
    refine r_cons (s_assign (.int .i64 12) rfl rfl ?_)
    refine r_nil ?_
    refine g_ret' [.int .i64 12] Try.func35 Try.results35 ⟨rfl, trivial⟩ ?_
    have H19 : St W w (blk b (.cells #[.slice pp5 R.length cc6] 74 (0, 0)) :: Im 1 (.slice pp5 R.length cc6) R.length (R.flatMap blc) :: (F.set i emp)) := (((H17.move 2 rfl).move 2 rfl).drop 2 rfl)
    have H20 : St W w (RSrc b R :: (F.set i emp)) := St.shut_ex (.slice pp5 R.length cc6) (St.shut_star (ls := [blk b (.cells #[.slice pp5 R.length cc6] 74 (0, 0)), Im 1 (.slice pp5 R.length cc6) R.length (R.flatMap blc)]) H19)
    have H21 : St W w (RSrc b R :: (F.set i emp)) := H20
    exact ⟨vint (by first | exact (endE_long (by omega)).symm | exact (endE_bit (j := k) (by omega) (by assumption)).symm | exact (endE_0 (by omega) (fun j hj => hz j (by omega))).symm), St.back_same hi H21⟩
  · skip
    refine r_cons (s_gtr false rfl rfl (dfalse hc18) rfl ?_)
    refine r_nil ?_
    refine g_false rfl ?_
    refine g_skip ?_
    refine g_seq ?_
    refine g_seq ?_
    refine g_region ?_
    refine r_cons (s_assign (.int .i64 0) rfl rfl ?_)
    refine r_nil ?_
    refine g_block ?_
    have H22 : St W w (blk b (.cells #[.slice pp5 R.length cc6] 74 (0, 0)) :: Im 1 (.slice pp5 R.length cc6) R.length (R.flatMap blc) :: (F.set i emp)) := (((H17.move 2 rfl).move 2 rfl).drop 2 rfl)
    have H23 : St W w (RSrc b R :: (F.set i emp)) := St.shut_ex (.slice pp5 R.length cc6) (St.shut_star (ls := [blk b (.cells #[.slice pp5 R.length cc6] 74 (0, 0)), Im 1 (.slice pp5 R.length cc6) R.length (R.flatMap blc)]) H22)
    have H24 : St W w (RSrc b R :: (F.set i emp)) := H23
    refine g_loop_inv (fun (x_ : Nat) => match x_ with | k => [(0, .pointer (some ⟨b, 0, none⟩)), (2, .int .i64 0), (3, .int .i64 (k : Int))]) (fun (x_ : Nat) w => match x_ with | k => (k ≤ R.length) ∧ (∀ j, j < k → R.getD j false = false) ∧ St W w (RSrc b R :: (F.set i emp))) (fun (x_ : Nat) => match x_ with | k => R.length - k) (0) ?_ ?_ ?_
    · exact ⟨by first | rfl | exact vint (by omega), by first | rfl | exact vint (by omega), by first | rfl | exact vint (by omega), trivial⟩
    · exact ⟨(by omega), (fun j hj => by omega), H24⟩
    · rintro k ρ25 w26 ⟨hk, hz, H27⟩ nx28
      change Ends _ _ (upds ρ25 [(0, .pointer (some ⟨b, 0, none⟩)), (2, .int .i64 0), (3, .int .i64 (k : Int))]) w26
      refine g_seq ?_
      refine g_seq ?_
      refine g_region ?_
      refine r_cons (s_move (.int .i64 (k : Int)) rfl rfl ?_)
      refine r_cons (s_move (.pointer (some ⟨b, 0, none⟩)) rfl rfl ?_)
      refine r_cons (s_nilCheck (.pointer (some ⟨b, 0, none⟩)) rfl ⟨_, rfl⟩ rfl ?_)
      refine r_cons (s_fieldAddr 74 0 0 0 72 rfl fi_74_0 rfl rfl ?_)
      have H29 := H27.move 0 rfl
      obtain ⟨vv30, H31⟩ := St.open_ex H29
      have H32 := St.open_star H31
      obtain ⟨pp33, cc34, gA35, oA36, kA37, eA38, zA39, rfl, hn40, hp41, hx42, hs43, hml, H44⟩ := Im.open_ H32 (i := 1) rfl
      have H45 : St W w26 (imi (0 < R.length) gA35 (.cells kA37 eA38 zA39) :: blk b (.cells #[.slice pp33 R.length cc34] 74 (0, 0)) :: Im 1 (.slice pp33 R.length cc34) R.length (R.flatMap blc) :: (F.set i emp)) := H44
      refine r_cons (s_load (.slice pp33 R.length cc34) ag_72 rfl (H45.blk_at (i := 1) rfl) rfl rfl ?_)
      refine r_cons (s_len R.length rfl ⟨_, un_72⟩ rfl ?_)
      by_cases hc46 : (k : Int) < (R.length : Int)
      · skip
        refine r_cons (s_lss true rfl rfl (dtrue hc46) rfl ?_)
        refine r_nil ?_
        refine g_true rfl ?_
        refine g_skip ?_
        refine g_seq ?_
        refine g_block ?_
        refine g_seq ?_
        refine g_region ?_
        refine r_cons (s_move (.pointer (some ⟨b, 0, none⟩)) rfl rfl ?_)
        refine r_cons (s_nilCheck (.pointer (some ⟨b, 0, none⟩)) rfl ⟨_, rfl⟩ rfl ?_)
        refine r_cons (s_fieldAddr 74 0 0 0 72 rfl fi_74_0 rfl rfl ?_)
        refine r_cons (s_load (.slice pp33 R.length cc34) ag_72 rfl (H45.blk_at (i := 1) rfl) rfl rfl ?_)
        refine r_cons (s_move (.int .i64 (k : Int)) rfl rfl ?_)
        refine r_cons (s_indexAddr gA35 (off := oA36) (k : Int) 1 (oA36 + k * 1) (by exact congrArg (fun z_ => Value.slice z_ R.length cc34) (hp41 (by omega))) rfl el_72 (by omega) rfl rfl ?_)
        refine r_cons (s_load (.bool (R.getD k false)) ag_4 rfl (H45.imi_at (i := 0) rfl (by omega)) (elem_cell (L := R) (i := k) blc_len (hx42 (by omega)) (by omega) false 0 (by decide) _ rfl) rfl ?_)
        refine r_nil ?_
        by_cases hb47 : (R.getD k false) = true
        · skip
          refine g_true (congrArg Value.bool hb47) ?_
          refine g_seq ?_
          refine g_region ?_
          refine r_cons (s_assign (.int .i64 12) rfl rfl ?_)
          refine r_nil ?_
          refine g_ret' [.int .i64 12] Try.func35 Try.results35 ⟨rfl, trivial⟩ ?_
          have H48 : St W w26 (blk b (.cells #[.slice pp33 R.length cc34] 74 (0, 0)) :: Im 1 (.slice pp33 R.length cc34) R.length (R.flatMap blc) :: (F.set i emp)) := (((H45.move 2 rfl).move 2 rfl).drop 2 rfl)
          have H49 : St W w26 (RSrc b R :: (F.set i emp)) := St.shut_ex (.slice pp33 R.length cc34) (St.shut_star (ls := [blk b (.cells #[.slice pp33 R.length cc34] 74 (0, 0)), Im 1 (.slice pp33 R.length cc34) R.length (R.flatMap blc)]) H48)
          have H50 : St W w26 (RSrc b R :: (F.set i emp)) := H49
          exact ⟨vint (by first | exact (endE_long (by omega)).symm | exact (endE_bit (j := k) (by omega) (by assumption)).symm | exact (endE_0 (by omega) (fun j hj => hz j (by omega))).symm), St.back_same hi H50⟩
        · have hb47 := eq_false_of_ne_true hb47
          refine g_false (congrArg Value.bool hb47) ?_
          refine g_skip ?_
          refine g_inBlock ?_
          refine g_region ?_
          refine r_cons (s_move (.int .i64 (k : Int)) rfl rfl ?_)
          refine r_cons (s_add ((k : Int) + 1) rfl rfl (wi64 (by omega)) rfl ?_)
          refine r_cons (s_assign (.int .i64 ((k : Int) + 1)) rfl rfl ?_)
          refine r_nil ?_
          have H51 : St W w26 (blk b (.cells #[.slice pp33 R.length cc34] 74 (0, 0)) :: Im 1 (.slice pp33 R.length cc34) R.length (R.flatMap blc) :: (F.set i emp)) := (((H45.move 2 rfl).move 2 rfl).drop 2 rfl)
          have H52 : St W w26 (RSrc b R :: (F.set i emp)) := St.shut_ex (.slice pp33 R.length cc34) (St.shut_star (ls := [blk b (.cells #[.slice pp33 R.length cc34] 74 (0, 0)), Im 1 (.slice pp33 R.length cc34) R.length (R.flatMap blc)]) H51)
          have H53 : St W w26 (RSrc b R :: (F.set i emp)) := H52
          exact nx28 (k + 1) _ _ ⟨(by omega), (fun j hj => (Nat.lt_or_ge j k).elim (hz j) (fun h => by rw [show j = k from by omega]; exact hb47)), H53⟩ (by first | (dsimp only; omega) | omega) ⟨by first | rfl | exact vint (by omega), by first | rfl | exact vint (by omega), by first | rfl | exact vint (by omega), trivial⟩
      · skip
        refine r_cons (s_lss false rfl rfl (dfalse hc46) rfl ?_)
        refine r_nil ?_
        refine g_false rfl ?_
        refine g_exit (by rfl) ?_
        refine g_seq ?_
        refine g_region ?_
        refine r_cons (s_assign (.int .i64 0) rfl rfl ?_)
        refine r_nil ?_
        refine g_ret' [.int .i64 0] Try.func35 Try.results35 ⟨rfl, trivial⟩ ?_
        have H54 : St W w26 (blk b (.cells #[.slice pp33 R.length cc34] 74 (0, 0)) :: Im 1 (.slice pp33 R.length cc34) R.length (R.flatMap blc) :: (F.set i emp)) := (((H45.move 2 rfl).move 2 rfl).drop 2 rfl)
        have H55 : St W w26 (RSrc b R :: (F.set i emp)) := St.shut_ex (.slice pp33 R.length cc34) (St.shut_star (ls := [blk b (.cells #[.slice pp33 R.length cc34] 74 (0, 0)), Im 1 (.slice pp33 R.length cc34) R.length (R.flatMap blc)]) H54)
        have H56 : St W w26 (RSrc b R :: (F.set i emp)) := H55
        exact ⟨vint (by first | exact (endE_long (by omega)).symm | exact (endE_bit (j := k) (by omega) (by assumption)).symm | exact (endE_0 (by omega) (fun j hj => hz j (by omega))).symm), St.back_same hi H56⟩
set_option maxHeartbeats 4000000 in
set_option maxRecDepth 100000 in
theorem RSrc_New {W w : World} {F : List Atom} (bs : List UInt8) (v0 : Value) (hb : bs.length ≤ 17592186044416) {j : Nat} (hj : F[j]? = some (Im 1 v0 bs.length (bs.flatMap u8c))) (H : St W w F) : Calls Try.prog 33 #[v0] w (Ret fun v w' => ∃ k, v = .pointer (some ⟨k, 0, none⟩) ∧ St W w' (RSrc k (bitsOf bs) :: F)) := by
  obtain ⟨pA1, cA2, gA3, oA4, kA5, eA6, zA7, rfl, hn8, hp9, hx10, hs11, hml, H12⟩ := Im.open_ H hj
  refine calls_of_go (n := 28) Try.func33 rfl Try.ntmps33 rfl ?_
  refine g_seq ?_
  refine g_region ?_
  refine r_cons (s_assign (.pointer none) rfl rfl ?_)
  refine r_nil ?_
  refine g_seq ?_
  refine g_region ?_
  refine r_cons (s_build (cs := #[.slice none 0 0]) (by kernel_rfl) rfl ?_)
  refine r_cons (s_box H12 74 (.agg #[.slice none 0 0]) rfl (cs := #[.slice none 0 0]) rfl rfl ?_); intro bk13 w14 H15
  refine r_cons (s_assign (.pointer (some ⟨bk13, 0, none⟩)) rfl rfl ?_)
  refine r_nil ?_
  refine g_seq ?_
  refine g_seq ?_
  refine g_region ?_
  refine r_cons (s_assign (.int .i64 0) rfl rfl ?_)
  refine r_nil ?_
  refine g_block ?_
  have H16 : St W w14 (blk bk13 (.cells #[.slice none 0 0] 74 (0, 0)) :: imi (0 < bs.length) gA3 (.cells kA5 eA6 zA7) :: F) := ((H15.move 1 rfl).move 1 rfl)
  have H17 := Row.nil_intro H16 4 1
  refine g_loop_inv (fun (x_ : Nat × (Option Addr) × Nat) => match x_ with | (j, pq, cq) => [(0, .slice pA1 bs.length cA2), (2, .pointer none), (3, .pointer (some ⟨bk13, 0, none⟩)), (4, .int .i64 (j : Int))]) (fun (x_ : Nat × (Option Addr) × Nat) w => match x_ with | (j, pq, cq) => (j ≤ bs.length) ∧ St W w (Row 4 1 (.slice pq (8 * j) cq) (8 * j) ((bitsOf (bs.take j)).flatMap blc) :: blk bk13 (.cells #[.slice pq (8 * j) cq] 74 (0, 0)) :: imi (0 < bs.length) gA3 (.cells kA5 eA6 zA7) :: F)) (fun (x_ : Nat × (Option Addr) × Nat) => match x_ with | (j, pq, cq) => bs.length - j) (0, none, 0) ?_ ?_ ?_
  · exact ⟨by first | rfl | exact vint (by omega), by first | rfl | exact vint (by omega), by first | rfl | exact vint (by omega), by first | rfl | exact vint (by omega), trivial⟩
  · exact ⟨(by omega), H17⟩
  · rintro ⟨j, pq, cq⟩ ρ18 w19 ⟨hj, H20⟩ nx21
    change Ends _ _ (upds ρ18 [(0, .slice pA1 bs.length cA2), (2, .pointer none), (3, .pointer (some ⟨bk13, 0, none⟩)), (4, .int .i64 (j : Int))]) w19
    have hlt := (bs.getD j 0).toNat_lt
    refine g_seq ?_
    refine g_seq ?_
    refine g_region ?_
    refine r_cons (s_move (.int .i64 (j : Int)) rfl rfl ?_)
    refine r_cons (s_move (.slice pA1 bs.length cA2) rfl rfl ?_)
    refine r_cons (s_len bs.length rfl ⟨_, un_22⟩ rfl ?_)
    by_cases hc22 : (j : Int) < (bs.length : Int)
    · skip
      refine r_cons (s_lss true rfl rfl (dtrue hc22) rfl ?_)
      refine r_nil ?_
      refine g_true rfl ?_
      refine g_skip ?_
      refine g_seq ?_
      refine g_block ?_
      refine g_cut (fun (x : Option Addr × Nat × Option Addr × Nat) => match x with | (pp23, cc24, pp31, cc32) => [(0, .slice pA1 bs.length cA2), (2, .pointer none), (3, .pointer (some ⟨bk13, 0, none⟩)), (4, .int .i64 (j : Int)), (7, .int .i64 (j : Int)), (8, .slice pA1 bs.length cA2), (9, .int .i64 (bs.length : Int)), (10, .bool true), (13, .pointer (some ⟨bk13, 0, none⟩)), (14, .pointer (some ⟨bk13, 0, none⟩)), (15, .pointer (some ⟨bk13, 0, none⟩)), (16, .pointer (some ⟨bk13, 0, none⟩)), (17, .slice pq (8 * j) cq), (18, .slice pA1 bs.length cA2), (19, .int .i64 (j : Int)), (20, .pointer (some ⟨gA3, oA4 + j * 1, none⟩)), (21, .int .u8 ((bs.getD j 0).toNat : Int)), (22, .int .u64 ((bs.getD j 0).toNat : Int)), (23, .slice pp23 8 cc24), (24, .slice pp31 (8 * (j + 1)) cc32), (25, .pointer (some ⟨bk13, 0, none⟩)), (26, .pointer (some ⟨bk13, 0, none⟩))]) (fun (x : Option Addr × Nat × Option Addr × Nat) w => match x with | (pp23, cc24, pp31, cc32) => St W w (Row 4 1 (.slice pp23 8 cc24) 8 ((lowB ((bs.getD j 0).toNat) 8).flatMap blc) :: Row 4 1 (.slice pp31 (8 * (j + 1)) cc32) (8 * (j + 1)) ((bitsOf (bs.take (j + 1))).flatMap blc) :: blk bk13 (.cells #[.slice pp31 (8 * (j + 1)) cc32] 74 (0, 0)) :: imi (0 < bs.length) gA3 (.cells kA5 eA6 zA7) :: F)) ?_ ?_
      · rintro ⟨pp23, cc24, pp31, cc32⟩ ρ26 w24 H25
        change Ends _ _ (upds ρ26 [(0, .slice pA1 bs.length cA2), (2, .pointer none), (3, .pointer (some ⟨bk13, 0, none⟩)), (4, .int .i64 (j : Int)), (7, .int .i64 (j : Int)), (8, .slice pA1 bs.length cA2), (9, .int .i64 (bs.length : Int)), (10, .bool true), (13, .pointer (some ⟨bk13, 0, none⟩)), (14, .pointer (some ⟨bk13, 0, none⟩)), (15, .pointer (some ⟨bk13, 0, none⟩)), (16, .pointer (some ⟨bk13, 0, none⟩)), (17, .slice pq (8 * j) cq), (18, .slice pA1 bs.length cA2), (19, .int .i64 (j : Int)), (20, .pointer (some ⟨gA3, oA4 + j * 1, none⟩)), (21, .int .u8 ((bs.getD j 0).toNat : Int)), (22, .int .u64 ((bs.getD j 0).toNat : Int)), (23, .slice pp23 8 cc24), (24, .slice pp31 (8 * (j + 1)) cc32), (25, .pointer (some ⟨bk13, 0, none⟩)), (26, .pointer (some ⟨bk13, 0, none⟩))]) w24
        refine g_inBlock ?_
        refine g_region ?_
        refine r_cons (s_move (.int .i64 (j : Int)) rfl rfl ?_)
        refine r_cons (s_add ((j : Int) + 1) rfl rfl (wi64 (by omega)) rfl ?_)
        refine r_cons (s_assign (.int .i64 ((j : Int) + 1)) rfl rfl ?_)
        refine r_nil ?_
        have H27 : St W w24 (Row 4 1 (.slice pp31 (8 * (j + 1)) cc32) (8 * (j + 1)) ((bitsOf (bs.take (j + 1))).flatMap blc) :: blk bk13 (.cells #[.slice pp31 (8 * (j + 1)) cc32] 74 (0, 0)) :: imi (0 < bs.length) gA3 (.cells kA5 eA6 zA7) :: F) := ((((H25.move 3 rfl).move 3 rfl).move 3 rfl).drop 3 rfl)
        exact nx21 (j + 1, pp31, cc32) _ _ ⟨(by omega), H27⟩ (by first | (dsimp only; omega) | omega) ⟨by first | rfl | exact vint (by omega), by first | rfl | exact vint (by omega), by first | rfl | exact vint (by omega), by first | rfl | exact vint (by omega), trivial⟩
      · intro join23
        refine g_any mixed 15 rfl ?_
        intro w28 hw29
        have H30 := H20.drew
        rw [← hw29] at H30
        clear hw29
        refine a_take 0 (listed' := #[true, false, false, false, false, false, false, false, false, false, false, false, false, false, false]) rfl (by kernel_rfl) (by kernel_rfl) (by kernel_rfl) rfl rfl rfl rfl (fun w => x_move (.pointer (some ⟨bk13, 0, none⟩)) rfl w) ?_
        refine a_take 1 (listed' := #[true, true, false, false, false, false, false, false, false, false, false, false, false, false, false]) rfl (by kernel_rfl) (by kernel_rfl) (by kernel_rfl) rfl rfl rfl rfl (fun w => x_move (.pointer (some ⟨bk13, 0, none⟩)) rfl w) ?_
        refine a_take 2 (listed' := #[true, true, true, false, false, false, false, false, false, false, false, false, false, false, false]) rfl (by kernel_rfl) (by kernel_rfl) (by kernel_rfl) rfl rfl rfl rfl (fun w => x_nilCheck (.pointer (some ⟨bk13, 0, none⟩)) rfl ⟨_, rfl⟩ w) ?_
        refine a_take 3 (listed' := #[true, true, true, true, false, false, false, false, false, false, false, false, false, false, false]) rfl (by kernel_rfl) (by kernel_rfl) (by kernel_rfl) rfl rfl rfl rfl (fun w => x_fieldAddr 74 0 0 0 72 rfl fi_74_0 rfl w) ?_
        refine a_take 5 (listed' := #[true, true, true, true, false, true, false, false, false, false, false, false, false, false, false]) rfl (by kernel_rfl) (by kernel_rfl) (by kernel_rfl) rfl rfl rfl rfl (fun w => x_move (.slice pA1 bs.length cA2) rfl w) ?_
        refine a_take 6 (listed' := #[true, true, true, true, false, true, true, false, false, false, false, false, false, false, false]) rfl (by kernel_rfl) (by kernel_rfl) (by kernel_rfl) rfl rfl rfl rfl (fun w => x_move (.int .i64 (j : Int)) rfl w) ?_
        refine a_take 7 (listed' := #[true, true, true, true, false, true, true, true, false, false, false, false, false, false, false]) rfl (by kernel_rfl) (by kernel_rfl) (by kernel_rfl) rfl rfl rfl rfl (fun w => x_indexAddr gA3 (off := oA4) (j : Int) 1 (oA4 + j * 1) (by exact congrArg (fun z_ => Value.slice z_ bs.length cA2) (hp9 (by omega))) rfl el_22 (by omega) rfl w) ?_
        refine a_all (rs := [4, 8]) (by kernel_rfl) (by simp) ?_
        refine a_cons ⟨_, rfl, ?_⟩ (a_cons ⟨_, rfl, ?_⟩ (fun x hx => absurd hx (by simp)))
        · skip
          refine s_load (.slice pq (8 * j) cq) ag_72 rfl (H30.blk_at (i := 1) rfl) rfl rfl ?_
          change AnyG _ _ _ _ #[true, true, true, true, true, true, true, true, false, false, false, false, false, false, false] _ _
          refine a_all (rs := [8]) (by kernel_rfl) (by simp) ?_
          refine a_cons ⟨_, rfl, ?_⟩ (fun x hx => absurd hx (by simp))
          refine s_load (.int .u8 ((bs.getD j 0).toNat : Int)) ag_5 rfl (H30.imi_at (i := 2) rfl (by omega)) (elem_cell (L := bs) (i := j) u8c_len (hx10 (by omega)) (by omega) 0 0 (by decide) _ rfl) rfl ?_
          change AnyG _ _ _ _ #[true, true, true, true, true, true, true, true, true, false, false, false, false, false, false] _ _
          refine a_take 9 (listed' := #[true, true, true, true, true, true, true, true, true, true, false, false, false, false, false]) rfl (by kernel_rfl) (by kernel_rfl) (by kernel_rfl) rfl rfl rfl rfl (fun w => x_conv ((bs.getD j 0).toNat : Int) rfl us_5 ik_54 (wu64 (by omega)) w) ?_
          refine a_all (rs := [10]) (by kernel_rfl) (by simp) ?_
          refine a_cons ⟨_, rfl, ?_⟩ (fun x hx => absurd hx (by simp))
          refine s_call [.int .u64 ((bs.getD j 0).toNat : Int), .int .i64 8] pl_47 rfl rfl (ref01_Low ((bs.getD j 0).toNat) 8 (by omega) (by omega) H30) ?_
          rintro _ w33 ⟨pp31, cc32, rfl, H34⟩
          change AnyG _ _ _ _ #[true, true, true, true, true, true, true, true, true, true, true, false, false, false, false] _ _
          refine a_all (rs := [11]) (by kernel_rfl) (by simp) ?_
          refine a_cons ⟨_, rfl, ?_⟩ (fun x hx => absurd hx (by simp))
          refine s_append H34 1 rfl rfl rfl (Row.rd H34 (i := 0) rfl) ap_72 (by decide) (by unfold maxLen; omega) (by omega) (n' := 8 * (j + 1)) (xs' := (bitsOf (bs.take (j + 1))).flatMap blc) (by omega) (by rw [bitsOf_take (by omega)]; exact List.flatMap_append.symm) rfl ?_; intro vv35 w36 H37 hn38
          obtain ⟨pp39, cc40, rfl⟩ := Row.slice H37 (i := 1) rfl
          change AnyG _ _ _ _ #[true, true, true, true, true, true, true, true, true, true, true, true, false, false, false] _ _
          refine a_take 12 (listed' := #[true, true, true, true, true, true, true, true, true, true, true, true, true, false, false]) rfl (by kernel_rfl) (by kernel_rfl) (by kernel_rfl) rfl rfl rfl rfl (fun w => x_nilCheck (.pointer (some ⟨bk13, 0, none⟩)) rfl ⟨_, rfl⟩ w) ?_
          refine a_take 13 (listed' := #[true, true, true, true, true, true, true, true, true, true, true, true, true, true, false]) rfl (by kernel_rfl) (by kernel_rfl) (by kernel_rfl) rfl rfl rfl rfl (fun w => x_fieldAddr 74 0 0 0 72 rfl fi_74_0 rfl w) ?_
          refine a_all (rs := [14]) (by kernel_rfl) (by simp) ?_
          refine a_cons ⟨_, rfl, ?_⟩ (fun x hx => absurd hx (by simp))
          refine s_store H37 2 (.slice pp39 (8 * (j + 1)) cc40) rfl rfl rfl sz_72 rfl (Nat.le_of_ble_eq_true rfl) rfl (cs' := #[.slice pp39 (8 * (j + 1)) cc40]) rfl ?_; intro w41 H42
          change AnyG _ _ _ _ #[true, true, true, true, true, true, true, true, true, true, true, true, true, true, true] _ _
          refine a_done (by kernel_rfl) ?_
          exact join23 (pp31, cc32, pp39, cc40) _ _ H42 ⟨rfl, rfl, rfl, rfl, rfl, rfl, rfl, rfl, rfl, rfl, rfl, rfl, rfl, rfl, rfl, rfl, rfl, rfl, rfl, rfl, rfl, rfl, trivial⟩
        · skip
          refine s_load (.int .u8 ((bs.getD j 0).toNat : Int)) ag_5 rfl (H30.imi_at (i := 2) rfl (by omega)) (elem_cell (L := bs) (i := j) u8c_len (hx10 (by omega)) (by omega) 0 0 (by decide) _ rfl) rfl ?_
          change AnyG _ _ _ _ #[true, true, true, true, false, true, true, true, true, false, false, false, false, false, false] _ _
          refine a_take 9 (listed' := #[true, true, true, true, false, true, true, true, true, true, false, false, false, false, false]) rfl (by kernel_rfl) (by kernel_rfl) (by kernel_rfl) rfl rfl rfl rfl (fun w => x_conv ((bs.getD j 0).toNat : Int) rfl us_5 ik_54 (wu64 (by omega)) w) ?_
          refine a_all (rs := [4, 10]) (by kernel_rfl) (by simp) ?_
          refine a_cons ⟨_, rfl, ?_⟩ (a_cons ⟨_, rfl, ?_⟩ (fun x hx => absurd hx (by simp)))
          · skip
            refine s_load (.slice pq (8 * j) cq) ag_72 rfl (H30.blk_at (i := 1) rfl) rfl rfl ?_
            change AnyG _ _ _ _ #[true, true, true, true, true, true, true, true, true, true, false, false, false, false, false] _ _
            refine a_all (rs := [10]) (by kernel_rfl) (by simp) ?_
            refine a_cons ⟨_, rfl, ?_⟩ (fun x hx => absurd hx (by simp))
            refine s_call [.int .u64 ((bs.getD j 0).toNat : Int), .int .i64 8] pl_47 rfl rfl (ref01_Low ((bs.getD j 0).toNat) 8 (by omega) (by omega) H30) ?_
            rintro _ w45 ⟨pp43, cc44, rfl, H46⟩
            change AnyG _ _ _ _ #[true, true, true, true, true, true, true, true, true, true, true, false, false, false, false] _ _
            refine a_all (rs := [11]) (by kernel_rfl) (by simp) ?_
            refine a_cons ⟨_, rfl, ?_⟩ (fun x hx => absurd hx (by simp))
            refine s_append H46 1 rfl rfl rfl (Row.rd H46 (i := 0) rfl) ap_72 (by decide) (by unfold maxLen; omega) (by omega) (n' := 8 * (j + 1)) (xs' := (bitsOf (bs.take (j + 1))).flatMap blc) (by omega) (by rw [bitsOf_take (by omega)]; exact List.flatMap_append.symm) rfl ?_; intro vv47 w48 H49 hn50
            obtain ⟨pp51, cc52, rfl⟩ := Row.slice H49 (i := 1) rfl
            change AnyG _ _ _ _ #[true, true, true, true, true, true, true, true, true, true, true, true, false, false, false] _ _
            refine a_take 12 (listed' := #[true, true, true, true, true, true, true, true, true, true, true, true, true, false, false]) rfl (by kernel_rfl) (by kernel_rfl) (by kernel_rfl) rfl rfl rfl rfl (fun w => x_nilCheck (.pointer (some ⟨bk13, 0, none⟩)) rfl ⟨_, rfl⟩ w) ?_
            refine a_take 13 (listed' := #[true, true, true, true, true, true, true, true, true, true, true, true, true, true, false]) rfl (by kernel_rfl) (by kernel_rfl) (by kernel_rfl) rfl rfl rfl rfl (fun w => x_fieldAddr 74 0 0 0 72 rfl fi_74_0 rfl w) ?_
            refine a_all (rs := [14]) (by kernel_rfl) (by simp) ?_
            refine a_cons ⟨_, rfl, ?_⟩ (fun x hx => absurd hx (by simp))
            refine s_store H49 2 (.slice pp51 (8 * (j + 1)) cc52) rfl rfl rfl sz_72 rfl (Nat.le_of_ble_eq_true rfl) rfl (cs' := #[.slice pp51 (8 * (j + 1)) cc52]) rfl ?_; intro w53 H54
            change AnyG _ _ _ _ #[true, true, true, true, true, true, true, true, true, true, true, true, true, true, true] _ _
            refine a_done (by kernel_rfl) ?_
            exact join23 (pp43, cc44, pp51, cc52) _ _ H54 ⟨rfl, rfl, rfl, rfl, rfl, rfl, rfl, rfl, rfl, rfl, rfl, rfl, rfl, rfl, rfl, rfl, rfl, rfl, rfl, rfl, rfl, rfl, trivial⟩
          · skip
            refine s_call [.int .u64 ((bs.getD j 0).toNat : Int), .int .i64 8] pl_47 rfl rfl (ref01_Low ((bs.getD j 0).toNat) 8 (by omega) (by omega) H30) ?_
            rintro _ w57 ⟨pp55, cc56, rfl, H58⟩
            change AnyG _ _ _ _ #[true, true, true, true, false, true, true, true, true, true, true, false, false, false, false] _ _
            refine a_all (rs := [4]) (by kernel_rfl) (by simp) ?_
            refine a_cons ⟨_, rfl, ?_⟩ (fun x hx => absurd hx (by simp))
            refine s_load (.slice pq (8 * j) cq) ag_72 rfl (H58.blk_at (i := 2) rfl) rfl rfl ?_
            change AnyG _ _ _ _ #[true, true, true, true, true, true, true, true, true, true, true, false, false, false, false] _ _
            refine a_all (rs := [11]) (by kernel_rfl) (by simp) ?_
            refine a_cons ⟨_, rfl, ?_⟩ (fun x hx => absurd hx (by simp))
            refine s_append H58 1 rfl rfl rfl (Row.rd H58 (i := 0) rfl) ap_72 (by decide) (by unfold maxLen; omega) (by omega) (n' := 8 * (j + 1)) (xs' := (bitsOf (bs.take (j + 1))).flatMap blc) (by omega) (by rw [bitsOf_take (by omega)]; exact List.flatMap_append.symm) rfl ?_; intro vv59 w60 H61 hn62
            obtain ⟨pp63, cc64, rfl⟩ := Row.slice H61 (i := 1) rfl
            change AnyG _ _ _ _ #[true, true, true, true, true, true, true, true, true, true, true, true, false, false, false] _ _
            refine a_take 12 (listed' := #[true, true, true, true, true, true, true, true, true, true, true, true, true, false, false]) rfl (by kernel_rfl) (by kernel_rfl) (by kernel_rfl) rfl rfl rfl rfl (fun w => x_nilCheck (.pointer (some ⟨bk13, 0, none⟩)) rfl ⟨_, rfl⟩ w) ?_
            refine a_take 13 (listed' := #[true, true, true, true, true, true, true, true, true, true, true, true, true, true, false]) rfl (by kernel_rfl) (by kernel_rfl) (by kernel_rfl) rfl rfl rfl rfl (fun w => x_fieldAddr 74 0 0 0 72 rfl fi_74_0 rfl w) ?_
            refine a_all (rs := [14]) (by kernel_rfl) (by simp) ?_
            refine a_cons ⟨_, rfl, ?_⟩ (fun x hx => absurd hx (by simp))
            refine s_store H61 2 (.slice pp63 (8 * (j + 1)) cc64) rfl rfl rfl sz_72 rfl (Nat.le_of_ble_eq_true rfl) rfl (cs' := #[.slice pp63 (8 * (j + 1)) cc64]) rfl ?_; intro w65 H66
            change AnyG _ _ _ _ #[true, true, true, true, true, true, true, true, true, true, true, true, true, true, true] _ _
            refine a_done (by kernel_rfl) ?_
            exact join23 (pp55, cc56, pp63, cc64) _ _ H66 ⟨rfl, rfl, rfl, rfl, rfl, rfl, rfl, rfl, rfl, rfl, rfl, rfl, rfl, rfl, rfl, rfl, rfl, rfl, rfl, rfl, rfl, rfl, trivial⟩
    · skip
      refine r_cons (s_lss false rfl rfl (dfalse hc22) rfl ?_)
      refine r_nil ?_
      refine g_false rfl ?_
      refine g_exit (by rfl) ?_
      refine g_seq ?_
      refine g_region ?_
      refine r_cons (s_move (.pointer (some ⟨bk13, 0, none⟩)) rfl rfl ?_)
      refine r_cons (s_assign (.pointer (some ⟨bk13, 0, none⟩)) rfl rfl ?_)
      refine r_nil ?_
      refine g_ret' [.pointer (some ⟨bk13, 0, none⟩)] Try.func33 Try.results33 ⟨rfl, trivial⟩ ?_
      have H67 : St W w19 (blk bk13 (.cells #[.slice pq (8 * j) cq] 74 (0, 0)) :: Row 4 1 (.slice pq (8 * j) cq) (8 * j) ((bitsOf (bs.take j)).flatMap blc) :: F) := ((H20.move 1 rfl).drop 2 rfl)
      have H68 := Row.im H67 (i := 1) rfl
      obtain rfl : j = bs.length := by omega
      have H69 : St W w19 (blk bk13 (.cells #[.slice pq (8 * bs.length) cq] 74 (0, 0)) :: Im 1 (.slice pq (8 * bs.length) cq) (bitsOf (bs.take bs.length)).length ((bitsOf (bs.take bs.length)).flatMap blc) :: F) := by rw [show (bitsOf (bs.take bs.length)).length = 8 * bs.length from by rw [List.take_length, bitsOf_len]]; exact H68
      refine ⟨bk13, rfl, ?_⟩
      have hy : St W w19 (RSrc bk13 (bitsOf (bs.take bs.length)) :: F) := St.shut_ex (.slice pq (8 * bs.length) cq) (St.shut_star (ls := [blk bk13 (.cells #[.slice pq (8 * bs.length) cq] 74 (0, 0)), Im 1 (.slice pq (8 * bs.length) cq) (bitsOf (bs.take bs.length)).length ((bitsOf (bs.take bs.length)).flatMap blc)]) H69)
      rw [List.take_length] at hy
      exact hy
set_option maxHeartbeats 4000000 in
set_option maxRecDepth 100000 in
theorem frame_time {W w : World} {F : List Atom} (n : Int) (H : St W w F) : Calls Try.prog 38 #[.int .i64 n] w (Ret fun v w' => v = .bool (timeB n) ∧ St W w' F) := by
  refine calls_of_go (n := 9) Try.func38 rfl Try.ntmps38 rfl ?_
  refine g_seq ?_
  refine g_region ?_
  refine r_cons (s_assign (.bool false) rfl rfl ?_)
  refine r_nil ?_
  refine g_seq ?_
  refine g_region ?_
  refine r_cons (s_move (.int .i64 n) rfl rfl ?_)
  by_cases hc1 : (0 : Int) ≤ n
  · skip
    refine r_cons (s_geq true rfl rfl (dtrue hc1) rfl ?_)
    refine r_cons (s_move (.bool true) rfl rfl ?_)
    refine r_cons (r_take rfl rfl ?_)
    refine s_move (.int .i64 n) rfl rfl ?_
    refine r_cons (r_take rfl rfl ?_)
    by_cases hc2 : n ≤ 1099511627776
    · skip
      refine s_leq true rfl rfl (dtrue hc2) rfl ?_
      refine r_cons (s_pick_t (.bool true) rfl rfl rfl ?_)
      refine r_cons (s_assign (.bool true) rfl rfl ?_)
      refine r_nil ?_
      refine g_ret' [.bool true] Try.func38 Try.results38 ⟨rfl, trivial⟩ ?_
      exact ⟨congrArg Value.bool (by simp only [timeB, brB]; first | (exact (decide_eq_true (by omega)).symm) | (exact (decide_eq_false (by omega)).symm)), H⟩
    · skip
      refine s_leq false rfl rfl (dfalse hc2) rfl ?_
      refine r_cons (s_pick_t (.bool false) rfl rfl rfl ?_)
      refine r_cons (s_assign (.bool false) rfl rfl ?_)
      refine r_nil ?_
      refine g_ret' [.bool false] Try.func38 Try.results38 ⟨rfl, trivial⟩ ?_
      exact ⟨congrArg Value.bool (by simp only [timeB, brB]; first | (exact (decide_eq_true (by omega)).symm) | (exact (decide_eq_false (by omega)).symm)), H⟩
  · skip
    refine r_cons (s_geq false rfl rfl (dfalse hc1) rfl ?_)
    refine r_cons (s_move (.bool false) rfl rfl ?_)
    refine r_cons (r_pass rfl rfl rfl rfl rfl ?_)
    refine r_cons (r_pass rfl rfl rfl rfl rfl ?_)
    refine r_cons (s_pick_f (.bool false) rfl rfl rfl ?_)
    refine r_cons (s_assign (.bool false) rfl rfl ?_)
    refine r_nil ?_
    refine g_ret' [.bool false] Try.func38 Try.results38 ⟨rfl, trivial⟩ ?_
    exact ⟨congrArg Value.bool (by simp only [timeB, brB]; first | (exact (decide_eq_true (by omega)).symm) | (exact (decide_eq_false (by omega)).symm)), H⟩
set_option maxHeartbeats 4000000 in
set_option maxRecDepth 100000 in
theorem frame_broker {W w : World} {F : List Atom} (n : Int) (H : St W w F) : Calls Try.prog 37 #[.int .i64 n] w (Ret fun v w' => v = .bool (brB n) ∧ St W w' F) := by
  refine calls_of_go (n := 9) Try.func37 rfl Try.ntmps37 rfl ?_
  refine g_seq ?_
  refine g_region ?_
  refine r_cons (s_assign (.bool false) rfl rfl ?_)
  refine r_nil ?_
  refine g_seq ?_
  refine g_region ?_
  refine r_cons (s_move (.int .i64 n) rfl rfl ?_)
  by_cases hc1 : (0 : Int) ≤ n
  · skip
    refine r_cons (s_geq true rfl rfl (dtrue hc1) rfl ?_)
    refine r_cons (s_move (.bool true) rfl rfl ?_)
    refine r_cons (r_take rfl rfl ?_)
    refine s_move (.int .i64 n) rfl rfl ?_
    refine r_cons (r_take rfl rfl ?_)
    by_cases hc2 : n < 16
    · skip
      refine s_lss true rfl rfl (dtrue hc2) rfl ?_
      refine r_cons (s_pick_t (.bool true) rfl rfl rfl ?_)
      refine r_cons (s_assign (.bool true) rfl rfl ?_)
      refine r_nil ?_
      refine g_ret' [.bool true] Try.func37 Try.results37 ⟨rfl, trivial⟩ ?_
      exact ⟨congrArg Value.bool (by simp only [timeB, brB]; first | (exact (decide_eq_true (by omega)).symm) | (exact (decide_eq_false (by omega)).symm)), H⟩
    · skip
      refine s_lss false rfl rfl (dfalse hc2) rfl ?_
      refine r_cons (s_pick_t (.bool false) rfl rfl rfl ?_)
      refine r_cons (s_assign (.bool false) rfl rfl ?_)
      refine r_nil ?_
      refine g_ret' [.bool false] Try.func37 Try.results37 ⟨rfl, trivial⟩ ?_
      exact ⟨congrArg Value.bool (by simp only [timeB, brB]; first | (exact (decide_eq_true (by omega)).symm) | (exact (decide_eq_false (by omega)).symm)), H⟩
  · skip
    refine r_cons (s_geq false rfl rfl (dfalse hc1) rfl ?_)
    refine r_cons (s_move (.bool false) rfl rfl ?_)
    refine r_cons (r_pass rfl rfl rfl rfl rfl ?_)
    refine r_cons (r_pass rfl rfl rfl rfl rfl ?_)
    refine r_cons (s_pick_f (.bool false) rfl rfl rfl ?_)
    refine r_cons (s_assign (.bool false) rfl rfl ?_)
    refine r_nil ?_
    refine g_ret' [.bool false] Try.func37 Try.results37 ⟨rfl, trivial⟩ ?_
    exact ⟨congrArg Value.bool (by simp only [timeB, brB]; first | (exact (decide_eq_true (by omega)).symm) | (exact (decide_eq_false (by omega)).symm)), H⟩
set_option maxHeartbeats 4000000 in
set_option maxRecDepth 100000 in
theorem frame_Check {W w : World} {F : List Atom} (d : DgM) (bv_d : Value) {A_d : Atom} (hA_d : RdA A_d 1 bv_d d.body.length (d.body.flatMap u8c)) {j : Nat} (hj : F[j]? = some A_d) (H : St W w F) : Calls Try.prog 15 #[.agg #[.int .i64 d.frm.v, .int .i64 d.to_.v, .int .i64 d.kind.v, .int .i64 d.seq.v, .int .i64 d.ack.v, bv_d]] w (Ret fun v w' => v = .int .i64 (dgE d) ∧ St W w' F) := by
  have hml := (hA_d _ _ _ j H hj).2
  obtain ⟨pp1, cc2, rfl, hn3⟩ := Rd.shape (hA_d _ _ _ j H hj).1
  refine calls_of_go (n := 55) Try.func15 rfl Try.ntmps15 rfl ?_
  refine g_seq ?_
  refine g_region ?_
  refine r_cons (s_box H 24 (.agg #[.int .i64 d.frm.v, .int .i64 d.to_.v, .int .i64 d.kind.v, .int .i64 d.seq.v, .int .i64 d.ack.v, .slice pp1 d.body.length cc2]) rfl (cs := #[.int .i64 d.frm.v, .int .i64 d.to_.v, .int .i64 d.kind.v, .int .i64 d.seq.v, .int .i64 d.ack.v, .slice pp1 d.body.length cc2]) rfl rfl ?_); intro bk4 w5 H6
  refine r_cons (s_assign (.int .i64 0) rfl rfl ?_)
  refine r_nil ?_
  refine g_seq ?_
  refine g_region ?_
  refine r_cons (s_fieldAddr 24 0 0 0 3 rfl fi_24_0 rfl rfl ?_)
  refine r_cons (s_load (.int .i64 d.frm.v) ag_3 rfl (H6.blk_at (i := 0) rfl) rfl rfl ?_)
  refine r_cons (s_call [.int .i64 d.frm.v] pl_37 rfl rfl (frame_broker d.frm.v H6) ?_)
  rintro _ w7 ⟨rfl, H8⟩
  refine r_cons (s_move (.bool (brB d.frm.v)) rfl rfl ?_)
  by_cases hb9 : (brB d.frm.v) = true
  · skip
    refine r_cons (r_take rfl (congrArg some hb9) ?_)
    refine s_fieldAddr 24 1 1 1 3 rfl fi_24_1 rfl rfl ?_
    refine r_cons (r_take rfl (congrArg some hb9) ?_)
    refine s_load (.int .i64 d.to_.v) ag_3 rfl (H8.blk_at (i := 0) rfl) rfl rfl ?_
    refine r_cons (r_take rfl (congrArg some hb9) ?_)
    refine s_call [.int .i64 d.to_.v] pl_37 rfl rfl (frame_broker d.to_.v H8) ?_
    rintro _ w10 ⟨rfl, H11⟩
    refine r_cons (s_pick_t (.bool (brB d.to_.v)) (by exact congrArg Value.bool hb9) rfl rfl ?_)
    refine r_cons (s_move (.bool (brB d.to_.v)) rfl rfl ?_)
    by_cases hb12 : (brB d.to_.v) = true
    · skip
      refine r_cons (r_take rfl (congrArg some hb12) ?_)
      refine s_fieldAddr 24 0 0 0 3 rfl fi_24_0 rfl rfl ?_
      refine r_cons (r_take rfl (congrArg some hb12) ?_)
      refine s_load (.int .i64 d.frm.v) ag_3 rfl (H11.blk_at (i := 0) rfl) rfl rfl ?_
      refine r_cons (r_take rfl (congrArg some hb12) ?_)
      refine s_fieldAddr 24 1 1 1 3 rfl fi_24_1 rfl rfl ?_
      refine r_cons (r_take rfl (congrArg some hb12) ?_)
      refine s_load (.int .i64 d.to_.v) ag_3 rfl (H11.blk_at (i := 0) rfl) rfl rfl ?_
      refine r_cons (r_take rfl (congrArg some hb12) ?_)
      by_cases hc13 : d.frm.v = d.to_.v
      · skip
        refine s_neq false rfl rfl (ntrue hc13) rfl ?_
        refine r_cons (s_pick_t (.bool false) (by exact congrArg Value.bool hb12) rfl rfl ?_)
        refine r_cons (s_move (.bool false) rfl rfl ?_)
        refine r_cons (r_pass rfl rfl rfl rfl rfl ?_)
        refine r_cons (r_pass rfl rfl rfl rfl rfl ?_)
        refine r_cons (r_pass rfl rfl rfl rfl rfl ?_)
        refine r_cons (s_pick_f (.bool false) rfl rfl rfl ?_)
        refine r_cons (s_move (.bool false) rfl rfl ?_)
        refine r_cons (r_pass rfl rfl rfl rfl rfl ?_)
        refine r_cons (r_pass rfl rfl rfl rfl rfl ?_)
        refine r_cons (r_pass rfl rfl rfl rfl rfl ?_)
        refine r_cons (s_pick_f (.bool false) rfl rfl rfl ?_)
        refine r_cons (s_move (.bool false) rfl rfl ?_)
        refine r_cons (r_pass rfl rfl rfl rfl rfl ?_)
        refine r_cons (r_pass rfl rfl rfl rfl rfl ?_)
        refine r_cons (r_pass rfl rfl rfl rfl rfl ?_)
        refine r_cons (r_pass rfl rfl rfl rfl rfl ?_)
        refine r_cons (s_pick_f (.bool false) rfl rfl rfl ?_)
        refine r_cons (s_assign (.bool false) rfl rfl ?_)
        refine r_nil ?_
        refine g_seq ?_
        refine g_seq ?_
        refine g_region ?_
        refine r_cons (s_fieldAddr 24 2 2 2 3 rfl fi_24_2 rfl rfl ?_)
        refine r_cons (s_load (.int .i64 d.kind.v) ag_3 rfl (H11.blk_at (i := 0) rfl) rfl rfl ?_)
        refine r_nil ?_
        refine g_block ?_
        refine g_seq ?_
        refine g_region ?_
        by_cases hc14 : d.kind.v = 1
        · skip
          refine r_cons (s_eql true rfl rfl (dtrue hc14) rfl ?_)
          refine r_cons (s_assign (.bool true) rfl rfl ?_)
          refine r_nil ?_
          refine g_true rfl ?_
          refine g_skip ?_
          refine g_inBlock ?_
          refine g_seq ?_
          refine g_seq ?_
          refine g_region ?_
          refine r_cons (s_move (.bool false) rfl rfl ?_)
          refine r_cons (s_not false rfl true rfl rfl ?_)
          refine r_nil ?_
          refine g_true rfl ?_
          refine g_seq ?_
          refine g_region ?_
          refine r_cons (s_assign (.int .i64 21) rfl rfl ?_)
          refine r_nil ?_
          refine g_ret' [.int .i64 21] Try.func15 Try.results15 ⟨rfl, trivial⟩ ?_
          have H15 : St W w10 F := (H11.drop 0 rfl)
          have hz89 : (brB d.frm.v) = true := by simpa using hb9
          simp only [timeB, brB, decide_eq_true_eq, decide_eq_false_iff_not] at hz89
          have hz91 : (brB d.to_.v) = true := by simpa using hb12
          simp only [timeB, brB, decide_eq_true_eq, decide_eq_false_iff_not] at hz91
          exact ⟨vint (by exact (dgE_21 (by unfold dgOk; omega)).symm), H15⟩
        · skip
          refine r_cons (s_eql false rfl rfl (dfalse hc14) rfl ?_)
          refine r_cons (s_assign (.bool false) rfl rfl ?_)
          refine r_nil ?_
          refine g_false rfl ?_
          refine g_seq ?_
          refine g_region ?_
          by_cases hc16 : d.kind.v = 2
          · skip
            refine r_cons (s_eql true rfl rfl (dtrue hc16) rfl ?_)
            refine r_cons (s_assign (.bool true) rfl rfl ?_)
            refine r_nil ?_
            refine g_true rfl ?_
            refine g_region ?_
            refine r_cons (s_move (.bool false) rfl rfl ?_)
            refine r_cons (s_move (.bool false) rfl rfl ?_)
            refine r_cons (r_pass rfl rfl rfl rfl rfl ?_)
            refine r_cons (r_pass rfl rfl rfl rfl rfl ?_)
            refine r_cons (r_pass rfl rfl rfl rfl rfl ?_)
            refine r_cons (s_pick_f (.bool false) rfl rfl rfl ?_)
            refine r_cons (s_move (.bool false) rfl rfl ?_)
            refine r_cons (r_pass rfl rfl rfl rfl rfl ?_)
            refine r_cons (r_pass rfl rfl rfl rfl rfl ?_)
            refine r_cons (r_pass rfl rfl rfl rfl rfl ?_)
            refine r_cons (r_pass rfl rfl rfl rfl rfl ?_)
            refine r_cons (s_pick_f (.bool false) rfl rfl rfl ?_)
            refine r_cons (s_assign (.bool false) rfl rfl ?_)
            refine r_nil ?_
            refine g_inBlock ?_
            refine g_seq ?_
            refine g_seq ?_
            refine g_region ?_
            refine r_cons (s_move (.bool false) rfl rfl ?_)
            refine r_cons (s_not false rfl true rfl rfl ?_)
            refine r_nil ?_
            refine g_true rfl ?_
            refine g_seq ?_
            refine g_region ?_
            refine r_cons (s_assign (.int .i64 21) rfl rfl ?_)
            refine r_nil ?_
            refine g_ret' [.int .i64 21] Try.func15 Try.results15 ⟨rfl, trivial⟩ ?_
            have H17 : St W w10 F := (H11.drop 0 rfl)
            have hz136 : (brB d.frm.v) = true := by simpa using hb9
            simp only [timeB, brB, decide_eq_true_eq, decide_eq_false_iff_not] at hz136
            have hz138 : (brB d.to_.v) = true := by simpa using hb12
            simp only [timeB, brB, decide_eq_true_eq, decide_eq_false_iff_not] at hz138
            exact ⟨vint (by exact (dgE_21 (by unfold dgOk; omega)).symm), H17⟩
          · skip
            refine r_cons (s_eql false rfl rfl (dfalse hc16) rfl ?_)
            refine r_cons (s_assign (.bool false) rfl rfl ?_)
            refine r_nil ?_
            refine g_false rfl ?_
            refine g_region ?_
            refine r_cons (s_assign (.bool false) rfl rfl ?_)
            refine r_nil ?_
            refine g_inBlock ?_
            refine g_seq ?_
            refine g_seq ?_
            refine g_region ?_
            refine r_cons (s_move (.bool false) rfl rfl ?_)
            refine r_cons (s_not false rfl true rfl rfl ?_)
            refine r_nil ?_
            refine g_true rfl ?_
            refine g_seq ?_
            refine g_region ?_
            refine r_cons (s_assign (.int .i64 21) rfl rfl ?_)
            refine r_nil ?_
            refine g_ret' [.int .i64 21] Try.func15 Try.results15 ⟨rfl, trivial⟩ ?_
            have H18 : St W w10 F := (H11.drop 0 rfl)
            have hz163 : (brB d.frm.v) = true := by simpa using hb9
            simp only [timeB, brB, decide_eq_true_eq, decide_eq_false_iff_not] at hz163
            have hz165 : (brB d.to_.v) = true := by simpa using hb12
            simp only [timeB, brB, decide_eq_true_eq, decide_eq_false_iff_not] at hz165
            exact ⟨vint (by exact (dgE_21 (by unfold dgOk; omega)).symm), H18⟩
      · skip
        refine s_neq true rfl rfl (nfalse hc13) rfl ?_
        refine r_cons (s_pick_t (.bool true) (by exact congrArg Value.bool hb12) rfl rfl ?_)
        refine r_cons (s_move (.bool true) rfl rfl ?_)
        refine r_cons (r_take rfl rfl ?_)
        refine s_fieldAddr 24 3 3 3 2 rfl fi_24_3 rfl rfl ?_
        refine r_cons (r_take rfl rfl ?_)
        refine s_load (.int .i64 d.seq.v) ag_2 rfl (H11.blk_at (i := 0) rfl) rfl rfl ?_
        refine r_cons (r_take rfl rfl ?_)
        refine s_call [.int .i64 d.seq.v] pl_38 rfl rfl (frame_time d.seq.v H11) ?_
        rintro _ w19 ⟨rfl, H20⟩
        refine r_cons (s_pick_t (.bool (timeB d.seq.v)) rfl rfl rfl ?_)
        refine r_cons (s_move (.bool (timeB d.seq.v)) rfl rfl ?_)
        by_cases hb21 : (timeB d.seq.v) = true
        · skip
          refine r_cons (r_take rfl (congrArg some hb21) ?_)
          refine s_fieldAddr 24 4 4 4 2 rfl fi_24_4 rfl rfl ?_
          refine r_cons (r_take rfl (congrArg some hb21) ?_)
          refine s_load (.int .i64 d.ack.v) ag_2 rfl (H20.blk_at (i := 0) rfl) rfl rfl ?_
          refine r_cons (r_take rfl (congrArg some hb21) ?_)
          refine s_call [.int .i64 d.ack.v] pl_38 rfl rfl (frame_time d.ack.v H20) ?_
          rintro _ w22 ⟨rfl, H23⟩
          refine r_cons (s_pick_t (.bool (timeB d.ack.v)) (by exact congrArg Value.bool hb21) rfl rfl ?_)
          refine r_cons (s_move (.bool (timeB d.ack.v)) rfl rfl ?_)
          by_cases hb24 : (timeB d.ack.v) = true
          · skip
            refine r_cons (r_take rfl (congrArg some hb24) ?_)
            refine s_fieldAddr 24 5 5 5 22 rfl fi_24_5 rfl rfl ?_
            refine r_cons (r_take rfl (congrArg some hb24) ?_)
            refine s_load (.slice pp1 d.body.length cc2) ag_22 rfl (H23.blk_at (i := 0) rfl) rfl rfl ?_
            refine r_cons (r_take rfl (congrArg some hb24) ?_)
            refine s_len d.body.length rfl ⟨_, un_22⟩ rfl ?_
            refine r_cons (r_take rfl (congrArg some hb24) ?_)
            by_cases hc25 : (d.body.length : Int) ≤ 16384
            · skip
              refine s_leq true rfl rfl (dtrue hc25) rfl ?_
              refine r_cons (s_pick_t (.bool true) (by exact congrArg Value.bool hb24) rfl rfl ?_)
              refine r_cons (s_assign (.bool true) rfl rfl ?_)
              refine r_nil ?_
              refine g_seq ?_
              refine g_seq ?_
              refine g_region ?_
              refine r_cons (s_fieldAddr 24 2 2 2 3 rfl fi_24_2 rfl rfl ?_)
              refine r_cons (s_load (.int .i64 d.kind.v) ag_3 rfl (H23.blk_at (i := 0) rfl) rfl rfl ?_)
              refine r_nil ?_
              refine g_block ?_
              refine g_seq ?_
              refine g_region ?_
              by_cases hc26 : d.kind.v = 1
              · skip
                refine r_cons (s_eql true rfl rfl (dtrue hc26) rfl ?_)
                refine r_cons (s_assign (.bool true) rfl rfl ?_)
                refine r_nil ?_
                refine g_true rfl ?_
                refine g_skip ?_
                refine g_inBlock ?_
                refine g_seq ?_
                refine g_seq ?_
                refine g_region ?_
                refine r_cons (s_move (.bool true) rfl rfl ?_)
                refine r_cons (s_not true rfl false rfl rfl ?_)
                refine r_nil ?_
                refine g_false rfl ?_
                refine g_skip ?_
                refine g_seq ?_
                refine g_region ?_
                refine r_cons (s_assign (.int .i64 0) rfl rfl ?_)
                refine r_nil ?_
                refine g_ret' [.int .i64 0] Try.func15 Try.results15 ⟨rfl, trivial⟩ ?_
                have H27 : St W w22 F := (H23.drop 0 rfl)
                have hz238 : (brB d.frm.v) = true := by simpa using hb9
                simp only [timeB, brB, decide_eq_true_eq, decide_eq_false_iff_not] at hz238
                have hz240 : (brB d.to_.v) = true := by simpa using hb12
                simp only [timeB, brB, decide_eq_true_eq, decide_eq_false_iff_not] at hz240
                have hz242 : (timeB d.seq.v) = true := by simpa using hb21
                simp only [timeB, brB, decide_eq_true_eq, decide_eq_false_iff_not] at hz242
                have hz244 : (timeB d.ack.v) = true := by simpa using hb24
                simp only [timeB, brB, decide_eq_true_eq, decide_eq_false_iff_not] at hz244
                exact ⟨vint (by exact (dgE_0 (by unfold dgOk; omega)).symm), H27⟩
              · skip
                refine r_cons (s_eql false rfl rfl (dfalse hc26) rfl ?_)
                refine r_cons (s_assign (.bool false) rfl rfl ?_)
                refine r_nil ?_
                refine g_false rfl ?_
                refine g_seq ?_
                refine g_region ?_
                by_cases hc28 : d.kind.v = 2
                · skip
                  refine r_cons (s_eql true rfl rfl (dtrue hc28) rfl ?_)
                  refine r_cons (s_assign (.bool true) rfl rfl ?_)
                  refine r_nil ?_
                  refine g_true rfl ?_
                  refine g_region ?_
                  refine r_cons (s_move (.bool true) rfl rfl ?_)
                  refine r_cons (s_move (.bool true) rfl rfl ?_)
                  refine r_cons (r_take rfl rfl ?_)
                  refine s_fieldAddr 24 3 3 3 2 rfl fi_24_3 rfl rfl ?_
                  refine r_cons (r_take rfl rfl ?_)
                  refine s_load (.int .i64 d.seq.v) ag_2 rfl (H23.blk_at (i := 0) rfl) rfl rfl ?_
                  refine r_cons (r_take rfl rfl ?_)
                  by_cases hc29 : d.seq.v = 0
                  · skip
                    refine s_eql true rfl rfl (dtrue hc29) rfl ?_
                    refine r_cons (s_pick_t (.bool true) rfl rfl rfl ?_)
                    refine r_cons (s_move (.bool true) rfl rfl ?_)
                    refine r_cons (r_take rfl rfl ?_)
                    refine s_fieldAddr 24 5 5 5 22 rfl fi_24_5 rfl rfl ?_
                    refine r_cons (r_take rfl rfl ?_)
                    refine s_load (.slice pp1 d.body.length cc2) ag_22 rfl (H23.blk_at (i := 0) rfl) rfl rfl ?_
                    refine r_cons (r_take rfl rfl ?_)
                    refine s_len d.body.length rfl ⟨_, un_22⟩ rfl ?_
                    refine r_cons (r_take rfl rfl ?_)
                    by_cases hc30 : (d.body.length : Int) = 0
                    · skip
                      refine s_eql true rfl rfl (dtrue hc30) rfl ?_
                      refine r_cons (s_pick_t (.bool true) rfl rfl rfl ?_)
                      refine r_cons (s_assign (.bool true) rfl rfl ?_)
                      refine r_nil ?_
                      refine g_inBlock ?_
                      refine g_seq ?_
                      refine g_seq ?_
                      refine g_region ?_
                      refine r_cons (s_move (.bool true) rfl rfl ?_)
                      refine r_cons (s_not true rfl false rfl rfl ?_)
                      refine r_nil ?_
                      refine g_false rfl ?_
                      refine g_skip ?_
                      refine g_seq ?_
                      refine g_region ?_
                      refine r_cons (s_assign (.int .i64 0) rfl rfl ?_)
                      refine r_nil ?_
                      refine g_ret' [.int .i64 0] Try.func15 Try.results15 ⟨rfl, trivial⟩ ?_
                      have H31 : St W w22 F := (H23.drop 0 rfl)
                      have hz301 : (brB d.frm.v) = true := by simpa using hb9
                      simp only [timeB, brB, decide_eq_true_eq, decide_eq_false_iff_not] at hz301
                      have hz303 : (brB d.to_.v) = true := by simpa using hb12
                      simp only [timeB, brB, decide_eq_true_eq, decide_eq_false_iff_not] at hz303
                      have hz305 : (timeB d.seq.v) = true := by simpa using hb21
                      simp only [timeB, brB, decide_eq_true_eq, decide_eq_false_iff_not] at hz305
                      have hz307 : (timeB d.ack.v) = true := by simpa using hb24
                      simp only [timeB, brB, decide_eq_true_eq, decide_eq_false_iff_not] at hz307
                      exact ⟨vint (by exact (dgE_0 (by unfold dgOk; omega)).symm), H31⟩
                    · skip
                      refine s_eql false rfl rfl (dfalse hc30) rfl ?_
                      refine r_cons (s_pick_t (.bool false) rfl rfl rfl ?_)
                      refine r_cons (s_assign (.bool false) rfl rfl ?_)
                      refine r_nil ?_
                      refine g_inBlock ?_
                      refine g_seq ?_
                      refine g_seq ?_
                      refine g_region ?_
                      refine r_cons (s_move (.bool false) rfl rfl ?_)
                      refine r_cons (s_not false rfl true rfl rfl ?_)
                      refine r_nil ?_
                      refine g_true rfl ?_
                      refine g_seq ?_
                      refine g_region ?_
                      refine r_cons (s_assign (.int .i64 21) rfl rfl ?_)
                      refine r_nil ?_
                      refine g_ret' [.int .i64 21] Try.func15 Try.results15 ⟨rfl, trivial⟩ ?_
                      have H32 : St W w22 F := (H23.drop 0 rfl)
                      have hz329 : (brB d.frm.v) = true := by simpa using hb9
                      simp only [timeB, brB, decide_eq_true_eq, decide_eq_false_iff_not] at hz329
                      have hz331 : (brB d.to_.v) = true := by simpa using hb12
                      simp only [timeB, brB, decide_eq_true_eq, decide_eq_false_iff_not] at hz331
                      have hz333 : (timeB d.seq.v) = true := by simpa using hb21
                      simp only [timeB, brB, decide_eq_true_eq, decide_eq_false_iff_not] at hz333
                      have hz335 : (timeB d.ack.v) = true := by simpa using hb24
                      simp only [timeB, brB, decide_eq_true_eq, decide_eq_false_iff_not] at hz335
                      exact ⟨vint (by exact (dgE_21 (by unfold dgOk; omega)).symm), H32⟩
                  · skip
                    refine s_eql false rfl rfl (dfalse hc29) rfl ?_
                    refine r_cons (s_pick_t (.bool false) rfl rfl rfl ?_)
                    refine r_cons (s_move (.bool false) rfl rfl ?_)
                    refine r_cons (r_pass rfl rfl rfl rfl rfl ?_)
                    refine r_cons (r_pass rfl rfl rfl rfl rfl ?_)
                    refine r_cons (r_pass rfl rfl rfl rfl rfl ?_)
                    refine r_cons (r_pass rfl rfl rfl rfl rfl ?_)
                    refine r_cons (s_pick_f (.bool false) rfl rfl rfl ?_)
                    refine r_cons (s_assign (.bool false) rfl rfl ?_)
                    refine r_nil ?_
                    refine g_inBlock ?_
                    refine g_seq ?_
                    refine g_seq ?_
                    refine g_region ?_
                    refine r_cons (s_move (.bool false) rfl rfl ?_)
                    refine r_cons (s_not false rfl true rfl rfl ?_)
                    refine r_nil ?_
                    refine g_true rfl ?_
                    refine g_seq ?_
                    refine g_region ?_
                    refine r_cons (s_assign (.int .i64 21) rfl rfl ?_)
                    refine r_nil ?_
                    refine g_ret' [.int .i64 21] Try.func15 Try.results15 ⟨rfl, trivial⟩ ?_
                    have H33 : St W w22 F := (H23.drop 0 rfl)
                    have hz363 : (brB d.frm.v) = true := by simpa using hb9
                    simp only [timeB, brB, decide_eq_true_eq, decide_eq_false_iff_not] at hz363
                    have hz365 : (brB d.to_.v) = true := by simpa using hb12
                    simp only [timeB, brB, decide_eq_true_eq, decide_eq_false_iff_not] at hz365
                    have hz367 : (timeB d.seq.v) = true := by simpa using hb21
                    simp only [timeB, brB, decide_eq_true_eq, decide_eq_false_iff_not] at hz367
                    have hz369 : (timeB d.ack.v) = true := by simpa using hb24
                    simp only [timeB, brB, decide_eq_true_eq, decide_eq_false_iff_not] at hz369
                    exact ⟨vint (by exact (dgE_21 (by unfold dgOk; omega)).symm), H33⟩
                · skip
                  refine r_cons (s_eql false rfl rfl (dfalse hc28) rfl ?_)
                  refine r_cons (s_assign (.bool false) rfl rfl ?_)
                  refine r_nil ?_
                  refine g_false rfl ?_
                  refine g_region ?_
                  refine r_cons (s_assign (.bool false) rfl rfl ?_)
                  refine r_nil ?_
                  refine g_inBlock ?_
                  refine g_seq ?_
                  refine g_seq ?_
                  refine g_region ?_
                  refine r_cons (s_move (.bool false) rfl rfl ?_)
                  refine r_cons (s_not false rfl true rfl rfl ?_)
                  refine r_nil ?_
                  refine g_true rfl ?_
                  refine g_seq ?_
                  refine g_region ?_
                  refine r_cons (s_assign (.int .i64 21) rfl rfl ?_)
                  refine r_nil ?_
                  refine g_ret' [.int .i64 21] Try.func15 Try.results15 ⟨rfl, trivial⟩ ?_
                  have H34 : St W w22 F := (H23.drop 0 rfl)
                  have hz394 : (brB d.frm.v) = true := by simpa using hb9
                  simp only [timeB, brB, decide_eq_true_eq, decide_eq_false_iff_not] at hz394
                  have hz396 : (brB d.to_.v) = true := by simpa using hb12
                  simp only [timeB, brB, decide_eq_true_eq, decide_eq_false_iff_not] at hz396
                  have hz398 : (timeB d.seq.v) = true := by simpa using hb21
                  simp only [timeB, brB, decide_eq_true_eq, decide_eq_false_iff_not] at hz398
                  have hz400 : (timeB d.ack.v) = true := by simpa using hb24
                  simp only [timeB, brB, decide_eq_true_eq, decide_eq_false_iff_not] at hz400
                  exact ⟨vint (by exact (dgE_21 (by unfold dgOk; omega)).symm), H34⟩
            · skip
              refine s_leq false rfl rfl (dfalse hc25) rfl ?_
              refine r_cons (s_pick_t (.bool false) (by exact congrArg Value.bool hb24) rfl rfl ?_)
              refine r_cons (s_assign (.bool false) rfl rfl ?_)
              refine r_nil ?_
              refine g_seq ?_
              refine g_seq ?_
              refine g_region ?_
              refine r_cons (s_fieldAddr 24 2 2 2 3 rfl fi_24_2 rfl rfl ?_)
              refine r_cons (s_load (.int .i64 d.kind.v) ag_3 rfl (H23.blk_at (i := 0) rfl) rfl rfl ?_)
              refine r_nil ?_
              refine g_block ?_
              refine g_seq ?_
              refine g_region ?_
              by_cases hc35 : d.kind.v = 1
              · skip
                refine r_cons (s_eql true rfl rfl (dtrue hc35) rfl ?_)
                refine r_cons (s_assign (.bool true) rfl rfl ?_)
                refine r_nil ?_
                refine g_true rfl ?_
                refine g_skip ?_
                refine g_inBlock ?_
                refine g_seq ?_
                refine g_seq ?_
                refine g_region ?_
                refine r_cons (s_move (.bool false) rfl rfl ?_)
                refine r_cons (s_not false rfl true rfl rfl ?_)
                refine r_nil ?_
                refine g_true rfl ?_
                refine g_seq ?_
                refine g_region ?_
                refine r_cons (s_assign (.int .i64 21) rfl rfl ?_)
                refine r_nil ?_
                refine g_ret' [.int .i64 21] Try.func15 Try.results15 ⟨rfl, trivial⟩ ?_
                have H36 : St W w22 F := (H23.drop 0 rfl)
                have hz438 : (brB d.frm.v) = true := by simpa using hb9
                simp only [timeB, brB, decide_eq_true_eq, decide_eq_false_iff_not] at hz438
                have hz440 : (brB d.to_.v) = true := by simpa using hb12
                simp only [timeB, brB, decide_eq_true_eq, decide_eq_false_iff_not] at hz440
                have hz442 : (timeB d.seq.v) = true := by simpa using hb21
                simp only [timeB, brB, decide_eq_true_eq, decide_eq_false_iff_not] at hz442
                have hz444 : (timeB d.ack.v) = true := by simpa using hb24
                simp only [timeB, brB, decide_eq_true_eq, decide_eq_false_iff_not] at hz444
                exact ⟨vint (by exact (dgE_21 (by unfold dgOk; omega)).symm), H36⟩
              · skip
                refine r_cons (s_eql false rfl rfl (dfalse hc35) rfl ?_)
                refine r_cons (s_assign (.bool false) rfl rfl ?_)
                refine r_nil ?_
                refine g_false rfl ?_
                refine g_seq ?_
                refine g_region ?_
                by_cases hc37 : d.kind.v = 2
                · skip
                  refine r_cons (s_eql true rfl rfl (dtrue hc37) rfl ?_)
                  refine r_cons (s_assign (.bool true) rfl rfl ?_)
                  refine r_nil ?_
                  refine g_true rfl ?_
                  refine g_region ?_
                  refine r_cons (s_move (.bool false) rfl rfl ?_)
                  refine r_cons (s_move (.bool false) rfl rfl ?_)
                  refine r_cons (r_pass rfl rfl rfl rfl rfl ?_)
                  refine r_cons (r_pass rfl rfl rfl rfl rfl ?_)
                  refine r_cons (r_pass rfl rfl rfl rfl rfl ?_)
                  refine r_cons (s_pick_f (.bool false) rfl rfl rfl ?_)
                  refine r_cons (s_move (.bool false) rfl rfl ?_)
                  refine r_cons (r_pass rfl rfl rfl rfl rfl ?_)
                  refine r_cons (r_pass rfl rfl rfl rfl rfl ?_)
                  refine r_cons (r_pass rfl rfl rfl rfl rfl ?_)
                  refine r_cons (r_pass rfl rfl rfl rfl rfl ?_)
                  refine r_cons (s_pick_f (.bool false) rfl rfl rfl ?_)
                  refine r_cons (s_assign (.bool false) rfl rfl ?_)
                  refine r_nil ?_
                  refine g_inBlock ?_
                  refine g_seq ?_
                  refine g_seq ?_
                  refine g_region ?_
                  refine r_cons (s_move (.bool false) rfl rfl ?_)
                  refine r_cons (s_not false rfl true rfl rfl ?_)
                  refine r_nil ?_
                  refine g_true rfl ?_
                  refine g_seq ?_
                  refine g_region ?_
                  refine r_cons (s_assign (.int .i64 21) rfl rfl ?_)
                  refine r_nil ?_
                  refine g_ret' [.int .i64 21] Try.func15 Try.results15 ⟨rfl, trivial⟩ ?_
                  have H38 : St W w22 F := (H23.drop 0 rfl)
                  have hz489 : (brB d.frm.v) = true := by simpa using hb9
                  simp only [timeB, brB, decide_eq_true_eq, decide_eq_false_iff_not] at hz489
                  have hz491 : (brB d.to_.v) = true := by simpa using hb12
                  simp only [timeB, brB, decide_eq_true_eq, decide_eq_false_iff_not] at hz491
                  have hz493 : (timeB d.seq.v) = true := by simpa using hb21
                  simp only [timeB, brB, decide_eq_true_eq, decide_eq_false_iff_not] at hz493
                  have hz495 : (timeB d.ack.v) = true := by simpa using hb24
                  simp only [timeB, brB, decide_eq_true_eq, decide_eq_false_iff_not] at hz495
                  exact ⟨vint (by exact (dgE_21 (by unfold dgOk; omega)).symm), H38⟩
                · skip
                  refine r_cons (s_eql false rfl rfl (dfalse hc37) rfl ?_)
                  refine r_cons (s_assign (.bool false) rfl rfl ?_)
                  refine r_nil ?_
                  refine g_false rfl ?_
                  refine g_region ?_
                  refine r_cons (s_assign (.bool false) rfl rfl ?_)
                  refine r_nil ?_
                  refine g_inBlock ?_
                  refine g_seq ?_
                  refine g_seq ?_
                  refine g_region ?_
                  refine r_cons (s_move (.bool false) rfl rfl ?_)
                  refine r_cons (s_not false rfl true rfl rfl ?_)
                  refine r_nil ?_
                  refine g_true rfl ?_
                  refine g_seq ?_
                  refine g_region ?_
                  refine r_cons (s_assign (.int .i64 21) rfl rfl ?_)
                  refine r_nil ?_
                  refine g_ret' [.int .i64 21] Try.func15 Try.results15 ⟨rfl, trivial⟩ ?_
                  have H39 : St W w22 F := (H23.drop 0 rfl)
                  have hz520 : (brB d.frm.v) = true := by simpa using hb9
                  simp only [timeB, brB, decide_eq_true_eq, decide_eq_false_iff_not] at hz520
                  have hz522 : (brB d.to_.v) = true := by simpa using hb12
                  simp only [timeB, brB, decide_eq_true_eq, decide_eq_false_iff_not] at hz522
                  have hz524 : (timeB d.seq.v) = true := by simpa using hb21
                  simp only [timeB, brB, decide_eq_true_eq, decide_eq_false_iff_not] at hz524
                  have hz526 : (timeB d.ack.v) = true := by simpa using hb24
                  simp only [timeB, brB, decide_eq_true_eq, decide_eq_false_iff_not] at hz526
                  exact ⟨vint (by exact (dgE_21 (by unfold dgOk; omega)).symm), H39⟩
          · have hb24 := eq_false_of_ne_true hb24
            refine r_cons (r_pass rfl (congrArg some hb24) rfl rfl rfl ?_)
            refine r_cons (r_pass rfl (congrArg some hb24) rfl rfl rfl ?_)
            refine r_cons (r_pass rfl (congrArg some hb24) rfl rfl rfl ?_)
            refine r_cons (r_pass rfl (congrArg some hb24) rfl rfl rfl ?_)
            refine r_cons (s_pick_f (.bool false) (by exact congrArg Value.bool hb24) rfl rfl ?_)
            refine r_cons (s_assign (.bool false) rfl rfl ?_)
            refine r_nil ?_
            refine g_seq ?_
            refine g_seq ?_
            refine g_region ?_
            refine r_cons (s_fieldAddr 24 2 2 2 3 rfl fi_24_2 rfl rfl ?_)
            refine r_cons (s_load (.int .i64 d.kind.v) ag_3 rfl (H23.blk_at (i := 0) rfl) rfl rfl ?_)
            refine r_nil ?_
            refine g_block ?_
            refine g_seq ?_
            refine g_region ?_
            by_cases hc40 : d.kind.v = 1
            · skip
              refine r_cons (s_eql true rfl rfl (dtrue hc40) rfl ?_)
              refine r_cons (s_assign (.bool true) rfl rfl ?_)
              refine r_nil ?_
              refine g_true rfl ?_
              refine g_skip ?_
              refine g_inBlock ?_
              refine g_seq ?_
              refine g_seq ?_
              refine g_region ?_
              refine r_cons (s_move (.bool false) rfl rfl ?_)
              refine r_cons (s_not false rfl true rfl rfl ?_)
              refine r_nil ?_
              refine g_true rfl ?_
              refine g_seq ?_
              refine g_region ?_
              refine r_cons (s_assign (.int .i64 21) rfl rfl ?_)
              refine r_nil ?_
              refine g_ret' [.int .i64 21] Try.func15 Try.results15 ⟨rfl, trivial⟩ ?_
              have H41 : St W w22 F := (H23.drop 0 rfl)
              have hz567 : (brB d.frm.v) = true := by simpa using hb9
              simp only [timeB, brB, decide_eq_true_eq, decide_eq_false_iff_not] at hz567
              have hz569 : (brB d.to_.v) = true := by simpa using hb12
              simp only [timeB, brB, decide_eq_true_eq, decide_eq_false_iff_not] at hz569
              have hz571 : (timeB d.seq.v) = true := by simpa using hb21
              simp only [timeB, brB, decide_eq_true_eq, decide_eq_false_iff_not] at hz571
              have hz573 : (timeB d.ack.v) = false := by simpa using hb24
              simp only [timeB, brB, decide_eq_true_eq, decide_eq_false_iff_not] at hz573
              exact ⟨vint (by exact (dgE_21 (by unfold dgOk; omega)).symm), H41⟩
            · skip
              refine r_cons (s_eql false rfl rfl (dfalse hc40) rfl ?_)
              refine r_cons (s_assign (.bool false) rfl rfl ?_)
              refine r_nil ?_
              refine g_false rfl ?_
              refine g_seq ?_
              refine g_region ?_
              by_cases hc42 : d.kind.v = 2
              · skip
                refine r_cons (s_eql true rfl rfl (dtrue hc42) rfl ?_)
                refine r_cons (s_assign (.bool true) rfl rfl ?_)
                refine r_nil ?_
                refine g_true rfl ?_
                refine g_region ?_
                refine r_cons (s_move (.bool false) rfl rfl ?_)
                refine r_cons (s_move (.bool false) rfl rfl ?_)
                refine r_cons (r_pass rfl rfl rfl rfl rfl ?_)
                refine r_cons (r_pass rfl rfl rfl rfl rfl ?_)
                refine r_cons (r_pass rfl rfl rfl rfl rfl ?_)
                refine r_cons (s_pick_f (.bool false) rfl rfl rfl ?_)
                refine r_cons (s_move (.bool false) rfl rfl ?_)
                refine r_cons (r_pass rfl rfl rfl rfl rfl ?_)
                refine r_cons (r_pass rfl rfl rfl rfl rfl ?_)
                refine r_cons (r_pass rfl rfl rfl rfl rfl ?_)
                refine r_cons (r_pass rfl rfl rfl rfl rfl ?_)
                refine r_cons (s_pick_f (.bool false) rfl rfl rfl ?_)
                refine r_cons (s_assign (.bool false) rfl rfl ?_)
                refine r_nil ?_
                refine g_inBlock ?_
                refine g_seq ?_
                refine g_seq ?_
                refine g_region ?_
                refine r_cons (s_move (.bool false) rfl rfl ?_)
                refine r_cons (s_not false rfl true rfl rfl ?_)
                refine r_nil ?_
                refine g_true rfl ?_
                refine g_seq ?_
                refine g_region ?_
                refine r_cons (s_assign (.int .i64 21) rfl rfl ?_)
                refine r_nil ?_
                refine g_ret' [.int .i64 21] Try.func15 Try.results15 ⟨rfl, trivial⟩ ?_
                have H43 : St W w22 F := (H23.drop 0 rfl)
                have hz618 : (brB d.frm.v) = true := by simpa using hb9
                simp only [timeB, brB, decide_eq_true_eq, decide_eq_false_iff_not] at hz618
                have hz620 : (brB d.to_.v) = true := by simpa using hb12
                simp only [timeB, brB, decide_eq_true_eq, decide_eq_false_iff_not] at hz620
                have hz622 : (timeB d.seq.v) = true := by simpa using hb21
                simp only [timeB, brB, decide_eq_true_eq, decide_eq_false_iff_not] at hz622
                have hz624 : (timeB d.ack.v) = false := by simpa using hb24
                simp only [timeB, brB, decide_eq_true_eq, decide_eq_false_iff_not] at hz624
                exact ⟨vint (by exact (dgE_21 (by unfold dgOk; omega)).symm), H43⟩
              · skip
                refine r_cons (s_eql false rfl rfl (dfalse hc42) rfl ?_)
                refine r_cons (s_assign (.bool false) rfl rfl ?_)
                refine r_nil ?_
                refine g_false rfl ?_
                refine g_region ?_
                refine r_cons (s_assign (.bool false) rfl rfl ?_)
                refine r_nil ?_
                refine g_inBlock ?_
                refine g_seq ?_
                refine g_seq ?_
                refine g_region ?_
                refine r_cons (s_move (.bool false) rfl rfl ?_)
                refine r_cons (s_not false rfl true rfl rfl ?_)
                refine r_nil ?_
                refine g_true rfl ?_
                refine g_seq ?_
                refine g_region ?_
                refine r_cons (s_assign (.int .i64 21) rfl rfl ?_)
                refine r_nil ?_
                refine g_ret' [.int .i64 21] Try.func15 Try.results15 ⟨rfl, trivial⟩ ?_
                have H44 : St W w22 F := (H23.drop 0 rfl)
                have hz649 : (brB d.frm.v) = true := by simpa using hb9
                simp only [timeB, brB, decide_eq_true_eq, decide_eq_false_iff_not] at hz649
                have hz651 : (brB d.to_.v) = true := by simpa using hb12
                simp only [timeB, brB, decide_eq_true_eq, decide_eq_false_iff_not] at hz651
                have hz653 : (timeB d.seq.v) = true := by simpa using hb21
                simp only [timeB, brB, decide_eq_true_eq, decide_eq_false_iff_not] at hz653
                have hz655 : (timeB d.ack.v) = false := by simpa using hb24
                simp only [timeB, brB, decide_eq_true_eq, decide_eq_false_iff_not] at hz655
                exact ⟨vint (by exact (dgE_21 (by unfold dgOk; omega)).symm), H44⟩
        · have hb21 := eq_false_of_ne_true hb21
          refine r_cons (r_pass rfl (congrArg some hb21) rfl rfl rfl ?_)
          refine r_cons (r_pass rfl (congrArg some hb21) rfl rfl rfl ?_)
          refine r_cons (r_pass rfl (congrArg some hb21) rfl rfl rfl ?_)
          refine r_cons (s_pick_f (.bool false) (by exact congrArg Value.bool hb21) rfl rfl ?_)
          refine r_cons (s_move (.bool false) rfl rfl ?_)
          refine r_cons (r_pass rfl rfl rfl rfl rfl ?_)
          refine r_cons (r_pass rfl rfl rfl rfl rfl ?_)
          refine r_cons (r_pass rfl rfl rfl rfl rfl ?_)
          refine r_cons (r_pass rfl rfl rfl rfl rfl ?_)
          refine r_cons (s_pick_f (.bool false) rfl rfl rfl ?_)
          refine r_cons (s_assign (.bool false) rfl rfl ?_)
          refine r_nil ?_
          refine g_seq ?_
          refine g_seq ?_
          refine g_region ?_
          refine r_cons (s_fieldAddr 24 2 2 2 3 rfl fi_24_2 rfl rfl ?_)
          refine r_cons (s_load (.int .i64 d.kind.v) ag_3 rfl (H20.blk_at (i := 0) rfl) rfl rfl ?_)
          refine r_nil ?_
          refine g_block ?_
          refine g_seq ?_
          refine g_region ?_
          by_cases hc45 : d.kind.v = 1
          · skip
            refine r_cons (s_eql true rfl rfl (dtrue hc45) rfl ?_)
            refine r_cons (s_assign (.bool true) rfl rfl ?_)
            refine r_nil ?_
            refine g_true rfl ?_
            refine g_skip ?_
            refine g_inBlock ?_
            refine g_seq ?_
            refine g_seq ?_
            refine g_region ?_
            refine r_cons (s_move (.bool false) rfl rfl ?_)
            refine r_cons (s_not false rfl true rfl rfl ?_)
            refine r_nil ?_
            refine g_true rfl ?_
            refine g_seq ?_
            refine g_region ?_
            refine r_cons (s_assign (.int .i64 21) rfl rfl ?_)
            refine r_nil ?_
            refine g_ret' [.int .i64 21] Try.func15 Try.results15 ⟨rfl, trivial⟩ ?_
            have H46 : St W w19 F := (H20.drop 0 rfl)
            have hz701 : (brB d.frm.v) = true := by simpa using hb9
            simp only [timeB, brB, decide_eq_true_eq, decide_eq_false_iff_not] at hz701
            have hz703 : (brB d.to_.v) = true := by simpa using hb12
            simp only [timeB, brB, decide_eq_true_eq, decide_eq_false_iff_not] at hz703
            have hz705 : (timeB d.seq.v) = false := by simpa using hb21
            simp only [timeB, brB, decide_eq_true_eq, decide_eq_false_iff_not] at hz705
            exact ⟨vint (by exact (dgE_21 (by unfold dgOk; omega)).symm), H46⟩
          · skip
            refine r_cons (s_eql false rfl rfl (dfalse hc45) rfl ?_)
            refine r_cons (s_assign (.bool false) rfl rfl ?_)
            refine r_nil ?_
            refine g_false rfl ?_
            refine g_seq ?_
            refine g_region ?_
            by_cases hc47 : d.kind.v = 2
            · skip
              refine r_cons (s_eql true rfl rfl (dtrue hc47) rfl ?_)
              refine r_cons (s_assign (.bool true) rfl rfl ?_)
              refine r_nil ?_
              refine g_true rfl ?_
              refine g_region ?_
              refine r_cons (s_move (.bool false) rfl rfl ?_)
              refine r_cons (s_move (.bool false) rfl rfl ?_)
              refine r_cons (r_pass rfl rfl rfl rfl rfl ?_)
              refine r_cons (r_pass rfl rfl rfl rfl rfl ?_)
              refine r_cons (r_pass rfl rfl rfl rfl rfl ?_)
              refine r_cons (s_pick_f (.bool false) rfl rfl rfl ?_)
              refine r_cons (s_move (.bool false) rfl rfl ?_)
              refine r_cons (r_pass rfl rfl rfl rfl rfl ?_)
              refine r_cons (r_pass rfl rfl rfl rfl rfl ?_)
              refine r_cons (r_pass rfl rfl rfl rfl rfl ?_)
              refine r_cons (r_pass rfl rfl rfl rfl rfl ?_)
              refine r_cons (s_pick_f (.bool false) rfl rfl rfl ?_)
              refine r_cons (s_assign (.bool false) rfl rfl ?_)
              refine r_nil ?_
              refine g_inBlock ?_
              refine g_seq ?_
              refine g_seq ?_
              refine g_region ?_
              refine r_cons (s_move (.bool false) rfl rfl ?_)
              refine r_cons (s_not false rfl true rfl rfl ?_)
              refine r_nil ?_
              refine g_true rfl ?_
              refine g_seq ?_
              refine g_region ?_
              refine r_cons (s_assign (.int .i64 21) rfl rfl ?_)
              refine r_nil ?_
              refine g_ret' [.int .i64 21] Try.func15 Try.results15 ⟨rfl, trivial⟩ ?_
              have H48 : St W w19 F := (H20.drop 0 rfl)
              have hz750 : (brB d.frm.v) = true := by simpa using hb9
              simp only [timeB, brB, decide_eq_true_eq, decide_eq_false_iff_not] at hz750
              have hz752 : (brB d.to_.v) = true := by simpa using hb12
              simp only [timeB, brB, decide_eq_true_eq, decide_eq_false_iff_not] at hz752
              have hz754 : (timeB d.seq.v) = false := by simpa using hb21
              simp only [timeB, brB, decide_eq_true_eq, decide_eq_false_iff_not] at hz754
              exact ⟨vint (by exact (dgE_21 (by unfold dgOk; omega)).symm), H48⟩
            · skip
              refine r_cons (s_eql false rfl rfl (dfalse hc47) rfl ?_)
              refine r_cons (s_assign (.bool false) rfl rfl ?_)
              refine r_nil ?_
              refine g_false rfl ?_
              refine g_region ?_
              refine r_cons (s_assign (.bool false) rfl rfl ?_)
              refine r_nil ?_
              refine g_inBlock ?_
              refine g_seq ?_
              refine g_seq ?_
              refine g_region ?_
              refine r_cons (s_move (.bool false) rfl rfl ?_)
              refine r_cons (s_not false rfl true rfl rfl ?_)
              refine r_nil ?_
              refine g_true rfl ?_
              refine g_seq ?_
              refine g_region ?_
              refine r_cons (s_assign (.int .i64 21) rfl rfl ?_)
              refine r_nil ?_
              refine g_ret' [.int .i64 21] Try.func15 Try.results15 ⟨rfl, trivial⟩ ?_
              have H49 : St W w19 F := (H20.drop 0 rfl)
              have hz779 : (brB d.frm.v) = true := by simpa using hb9
              simp only [timeB, brB, decide_eq_true_eq, decide_eq_false_iff_not] at hz779
              have hz781 : (brB d.to_.v) = true := by simpa using hb12
              simp only [timeB, brB, decide_eq_true_eq, decide_eq_false_iff_not] at hz781
              have hz783 : (timeB d.seq.v) = false := by simpa using hb21
              simp only [timeB, brB, decide_eq_true_eq, decide_eq_false_iff_not] at hz783
              exact ⟨vint (by exact (dgE_21 (by unfold dgOk; omega)).symm), H49⟩
    · have hb12 := eq_false_of_ne_true hb12
      refine r_cons (r_pass rfl (congrArg some hb12) rfl rfl rfl ?_)
      refine r_cons (r_pass rfl (congrArg some hb12) rfl rfl rfl ?_)
      refine r_cons (r_pass rfl (congrArg some hb12) rfl rfl rfl ?_)
      refine r_cons (r_pass rfl (congrArg some hb12) rfl rfl rfl ?_)
      refine r_cons (r_pass rfl (congrArg some hb12) rfl rfl rfl ?_)
      refine r_cons (s_pick_f (.bool false) (by exact congrArg Value.bool hb12) rfl rfl ?_)
      refine r_cons (s_move (.bool false) rfl rfl ?_)
      refine r_cons (r_pass rfl rfl rfl rfl rfl ?_)
      refine r_cons (r_pass rfl rfl rfl rfl rfl ?_)
      refine r_cons (r_pass rfl rfl rfl rfl rfl ?_)
      refine r_cons (s_pick_f (.bool false) rfl rfl rfl ?_)
      refine r_cons (s_move (.bool false) rfl rfl ?_)
      refine r_cons (r_pass rfl rfl rfl rfl rfl ?_)
      refine r_cons (r_pass rfl rfl rfl rfl rfl ?_)
      refine r_cons (r_pass rfl rfl rfl rfl rfl ?_)
      refine r_cons (s_pick_f (.bool false) rfl rfl rfl ?_)
      refine r_cons (s_move (.bool false) rfl rfl ?_)
      refine r_cons (r_pass rfl rfl rfl rfl rfl ?_)
      refine r_cons (r_pass rfl rfl rfl rfl rfl ?_)
      refine r_cons (r_pass rfl rfl rfl rfl rfl ?_)
      refine r_cons (r_pass rfl rfl rfl rfl rfl ?_)
      refine r_cons (s_pick_f (.bool false) rfl rfl rfl ?_)
      refine r_cons (s_assign (.bool false) rfl rfl ?_)
      refine r_nil ?_
      refine g_seq ?_
      refine g_seq ?_
      refine g_region ?_
      refine r_cons (s_fieldAddr 24 2 2 2 3 rfl fi_24_2 rfl rfl ?_)
      refine r_cons (s_load (.int .i64 d.kind.v) ag_3 rfl (H11.blk_at (i := 0) rfl) rfl rfl ?_)
      refine r_nil ?_
      refine g_block ?_
      refine g_seq ?_
      refine g_region ?_
      by_cases hc50 : d.kind.v = 1
      · skip
        refine r_cons (s_eql true rfl rfl (dtrue hc50) rfl ?_)
        refine r_cons (s_assign (.bool true) rfl rfl ?_)
        refine r_nil ?_
        refine g_true rfl ?_
        refine g_skip ?_
        refine g_inBlock ?_
        refine g_seq ?_
        refine g_seq ?_
        refine g_region ?_
        refine r_cons (s_move (.bool false) rfl rfl ?_)
        refine r_cons (s_not false rfl true rfl rfl ?_)
        refine r_nil ?_
        refine g_true rfl ?_
        refine g_seq ?_
        refine g_region ?_
        refine r_cons (s_assign (.int .i64 21) rfl rfl ?_)
        refine r_nil ?_
        refine g_ret' [.int .i64 21] Try.func15 Try.results15 ⟨rfl, trivial⟩ ?_
        have H51 : St W w10 F := (H11.drop 0 rfl)
        have hz841 : (brB d.frm.v) = true := by simpa using hb9
        simp only [timeB, brB, decide_eq_true_eq, decide_eq_false_iff_not] at hz841
        have hz843 : (brB d.to_.v) = false := by simpa using hb12
        simp only [timeB, brB, decide_eq_true_eq, decide_eq_false_iff_not] at hz843
        exact ⟨vint (by exact (dgE_21 (by unfold dgOk; omega)).symm), H51⟩
      · skip
        refine r_cons (s_eql false rfl rfl (dfalse hc50) rfl ?_)
        refine r_cons (s_assign (.bool false) rfl rfl ?_)
        refine r_nil ?_
        refine g_false rfl ?_
        refine g_seq ?_
        refine g_region ?_
        by_cases hc52 : d.kind.v = 2
        · skip
          refine r_cons (s_eql true rfl rfl (dtrue hc52) rfl ?_)
          refine r_cons (s_assign (.bool true) rfl rfl ?_)
          refine r_nil ?_
          refine g_true rfl ?_
          refine g_region ?_
          refine r_cons (s_move (.bool false) rfl rfl ?_)
          refine r_cons (s_move (.bool false) rfl rfl ?_)
          refine r_cons (r_pass rfl rfl rfl rfl rfl ?_)
          refine r_cons (r_pass rfl rfl rfl rfl rfl ?_)
          refine r_cons (r_pass rfl rfl rfl rfl rfl ?_)
          refine r_cons (s_pick_f (.bool false) rfl rfl rfl ?_)
          refine r_cons (s_move (.bool false) rfl rfl ?_)
          refine r_cons (r_pass rfl rfl rfl rfl rfl ?_)
          refine r_cons (r_pass rfl rfl rfl rfl rfl ?_)
          refine r_cons (r_pass rfl rfl rfl rfl rfl ?_)
          refine r_cons (r_pass rfl rfl rfl rfl rfl ?_)
          refine r_cons (s_pick_f (.bool false) rfl rfl rfl ?_)
          refine r_cons (s_assign (.bool false) rfl rfl ?_)
          refine r_nil ?_
          refine g_inBlock ?_
          refine g_seq ?_
          refine g_seq ?_
          refine g_region ?_
          refine r_cons (s_move (.bool false) rfl rfl ?_)
          refine r_cons (s_not false rfl true rfl rfl ?_)
          refine r_nil ?_
          refine g_true rfl ?_
          refine g_seq ?_
          refine g_region ?_
          refine r_cons (s_assign (.int .i64 21) rfl rfl ?_)
          refine r_nil ?_
          refine g_ret' [.int .i64 21] Try.func15 Try.results15 ⟨rfl, trivial⟩ ?_
          have H53 : St W w10 F := (H11.drop 0 rfl)
          have hz888 : (brB d.frm.v) = true := by simpa using hb9
          simp only [timeB, brB, decide_eq_true_eq, decide_eq_false_iff_not] at hz888
          have hz890 : (brB d.to_.v) = false := by simpa using hb12
          simp only [timeB, brB, decide_eq_true_eq, decide_eq_false_iff_not] at hz890
          exact ⟨vint (by exact (dgE_21 (by unfold dgOk; omega)).symm), H53⟩
        · skip
          refine r_cons (s_eql false rfl rfl (dfalse hc52) rfl ?_)
          refine r_cons (s_assign (.bool false) rfl rfl ?_)
          refine r_nil ?_
          refine g_false rfl ?_
          refine g_region ?_
          refine r_cons (s_assign (.bool false) rfl rfl ?_)
          refine r_nil ?_
          refine g_inBlock ?_
          refine g_seq ?_
          refine g_seq ?_
          refine g_region ?_
          refine r_cons (s_move (.bool false) rfl rfl ?_)
          refine r_cons (s_not false rfl true rfl rfl ?_)
          refine r_nil ?_
          refine g_true rfl ?_
          refine g_seq ?_
          refine g_region ?_
          refine r_cons (s_assign (.int .i64 21) rfl rfl ?_)
          refine r_nil ?_
          refine g_ret' [.int .i64 21] Try.func15 Try.results15 ⟨rfl, trivial⟩ ?_
          have H54 : St W w10 F := (H11.drop 0 rfl)
          have hz915 : (brB d.frm.v) = true := by simpa using hb9
          simp only [timeB, brB, decide_eq_true_eq, decide_eq_false_iff_not] at hz915
          have hz917 : (brB d.to_.v) = false := by simpa using hb12
          simp only [timeB, brB, decide_eq_true_eq, decide_eq_false_iff_not] at hz917
          exact ⟨vint (by exact (dgE_21 (by unfold dgOk; omega)).symm), H54⟩
  · have hb9 := eq_false_of_ne_true hb9
    refine r_cons (r_pass rfl (congrArg some hb9) rfl rfl rfl ?_)
    refine r_cons (r_pass rfl (congrArg some hb9) rfl rfl rfl ?_)
    refine r_cons (r_pass rfl (congrArg some hb9) rfl rfl rfl ?_)
    refine r_cons (s_pick_f (.bool false) (by exact congrArg Value.bool hb9) rfl rfl ?_)
    refine r_cons (s_move (.bool false) rfl rfl ?_)
    refine r_cons (r_pass rfl rfl rfl rfl rfl ?_)
    refine r_cons (r_pass rfl rfl rfl rfl rfl ?_)
    refine r_cons (r_pass rfl rfl rfl rfl rfl ?_)
    refine r_cons (r_pass rfl rfl rfl rfl rfl ?_)
    refine r_cons (r_pass rfl rfl rfl rfl rfl ?_)
    refine r_cons (s_pick_f (.bool false) rfl rfl rfl ?_)
    refine r_cons (s_move (.bool false) rfl rfl ?_)
    refine r_cons (r_pass rfl rfl rfl rfl rfl ?_)
    refine r_cons (r_pass rfl rfl rfl rfl rfl ?_)
    refine r_cons (r_pass rfl rfl rfl rfl rfl ?_)
    refine r_cons (s_pick_f (.bool false) rfl rfl rfl ?_)
    refine r_cons (s_move (.bool false) rfl rfl ?_)
    refine r_cons (r_pass rfl rfl rfl rfl rfl ?_)
    refine r_cons (r_pass rfl rfl rfl rfl rfl ?_)
    refine r_cons (r_pass rfl rfl rfl rfl rfl ?_)
    refine r_cons (s_pick_f (.bool false) rfl rfl rfl ?_)
    refine r_cons (s_move (.bool false) rfl rfl ?_)
    refine r_cons (r_pass rfl rfl rfl rfl rfl ?_)
    refine r_cons (r_pass rfl rfl rfl rfl rfl ?_)
    refine r_cons (r_pass rfl rfl rfl rfl rfl ?_)
    refine r_cons (r_pass rfl rfl rfl rfl rfl ?_)
    refine r_cons (s_pick_f (.bool false) rfl rfl rfl ?_)
    refine r_cons (s_assign (.bool false) rfl rfl ?_)
    refine r_nil ?_
    refine g_seq ?_
    refine g_seq ?_
    refine g_region ?_
    refine r_cons (s_fieldAddr 24 2 2 2 3 rfl fi_24_2 rfl rfl ?_)
    refine r_cons (s_load (.int .i64 d.kind.v) ag_3 rfl (H8.blk_at (i := 0) rfl) rfl rfl ?_)
    refine r_nil ?_
    refine g_block ?_
    refine g_seq ?_
    refine g_region ?_
    by_cases hc55 : d.kind.v = 1
    · skip
      refine r_cons (s_eql true rfl rfl (dtrue hc55) rfl ?_)
      refine r_cons (s_assign (.bool true) rfl rfl ?_)
      refine r_nil ?_
      refine g_true rfl ?_
      refine g_skip ?_
      refine g_inBlock ?_
      refine g_seq ?_
      refine g_seq ?_
      refine g_region ?_
      refine r_cons (s_move (.bool false) rfl rfl ?_)
      refine r_cons (s_not false rfl true rfl rfl ?_)
      refine r_nil ?_
      refine g_true rfl ?_
      refine g_seq ?_
      refine g_region ?_
      refine r_cons (s_assign (.int .i64 21) rfl rfl ?_)
      refine r_nil ?_
      refine g_ret' [.int .i64 21] Try.func15 Try.results15 ⟨rfl, trivial⟩ ?_
      have H56 : St W w7 F := (H8.drop 0 rfl)
      have hz980 : (brB d.frm.v) = false := by simpa using hb9
      simp only [timeB, brB, decide_eq_true_eq, decide_eq_false_iff_not] at hz980
      exact ⟨vint (by exact (dgE_21 (by unfold dgOk; omega)).symm), H56⟩
    · skip
      refine r_cons (s_eql false rfl rfl (dfalse hc55) rfl ?_)
      refine r_cons (s_assign (.bool false) rfl rfl ?_)
      refine r_nil ?_
      refine g_false rfl ?_
      refine g_seq ?_
      refine g_region ?_
      by_cases hc57 : d.kind.v = 2
      · skip
        refine r_cons (s_eql true rfl rfl (dtrue hc57) rfl ?_)
        refine r_cons (s_assign (.bool true) rfl rfl ?_)
        refine r_nil ?_
        refine g_true rfl ?_
        refine g_region ?_
        refine r_cons (s_move (.bool false) rfl rfl ?_)
        refine r_cons (s_move (.bool false) rfl rfl ?_)
        refine r_cons (r_pass rfl rfl rfl rfl rfl ?_)
        refine r_cons (r_pass rfl rfl rfl rfl rfl ?_)
        refine r_cons (r_pass rfl rfl rfl rfl rfl ?_)
        refine r_cons (s_pick_f (.bool false) rfl rfl rfl ?_)
        refine r_cons (s_move (.bool false) rfl rfl ?_)
        refine r_cons (r_pass rfl rfl rfl rfl rfl ?_)
        refine r_cons (r_pass rfl rfl rfl rfl rfl ?_)
        refine r_cons (r_pass rfl rfl rfl rfl rfl ?_)
        refine r_cons (r_pass rfl rfl rfl rfl rfl ?_)
        refine r_cons (s_pick_f (.bool false) rfl rfl rfl ?_)
        refine r_cons (s_assign (.bool false) rfl rfl ?_)
        refine r_nil ?_
        refine g_inBlock ?_
        refine g_seq ?_
        refine g_seq ?_
        refine g_region ?_
        refine r_cons (s_move (.bool false) rfl rfl ?_)
        refine r_cons (s_not false rfl true rfl rfl ?_)
        refine r_nil ?_
        refine g_true rfl ?_
        refine g_seq ?_
        refine g_region ?_
        refine r_cons (s_assign (.int .i64 21) rfl rfl ?_)
        refine r_nil ?_
        refine g_ret' [.int .i64 21] Try.func15 Try.results15 ⟨rfl, trivial⟩ ?_
        have H58 : St W w7 F := (H8.drop 0 rfl)
        have hz1025 : (brB d.frm.v) = false := by simpa using hb9
        simp only [timeB, brB, decide_eq_true_eq, decide_eq_false_iff_not] at hz1025
        exact ⟨vint (by exact (dgE_21 (by unfold dgOk; omega)).symm), H58⟩
      · skip
        refine r_cons (s_eql false rfl rfl (dfalse hc57) rfl ?_)
        refine r_cons (s_assign (.bool false) rfl rfl ?_)
        refine r_nil ?_
        refine g_false rfl ?_
        refine g_region ?_
        refine r_cons (s_assign (.bool false) rfl rfl ?_)
        refine r_nil ?_
        refine g_inBlock ?_
        refine g_seq ?_
        refine g_seq ?_
        refine g_region ?_
        refine r_cons (s_move (.bool false) rfl rfl ?_)
        refine r_cons (s_not false rfl true rfl rfl ?_)
        refine r_nil ?_
        refine g_true rfl ?_
        refine g_seq ?_
        refine g_region ?_
        refine r_cons (s_assign (.int .i64 21) rfl rfl ?_)
        refine r_nil ?_
        refine g_ret' [.int .i64 21] Try.func15 Try.results15 ⟨rfl, trivial⟩ ?_
        have H59 : St W w7 F := (H8.drop 0 rfl)
        have hz1050 : (brB d.frm.v) = false := by simpa using hb9
        simp only [timeB, brB, decide_eq_true_eq, decide_eq_false_iff_not] at hz1050
        exact ⟨vint (by exact (dgE_21 (by unfold dgOk; omega)).symm), H59⟩
set_option maxHeartbeats 4000000 in
set_option maxRecDepth 100000 in
theorem eyrieref02_time {W w : World} {F : List Atom} (n : Int) (H : St W w F) : Calls Try.prog 41 #[.int .i64 n] w (Ret fun v w' => v = .bool (timeB n) ∧ St W w' F) := by
  refine calls_of_go (n := 9) Try.func41 rfl Try.ntmps41 rfl ?_
  refine g_seq ?_
  refine g_region ?_
  refine r_cons (s_assign (.bool false) rfl rfl ?_)
  refine r_nil ?_
  refine g_seq ?_
  refine g_region ?_
  refine r_cons (s_move (.int .i64 n) rfl rfl ?_)
  by_cases hc1 : (0 : Int) ≤ n
  · skip
    refine r_cons (s_geq true rfl rfl (dtrue hc1) rfl ?_)
    refine r_cons (s_move (.bool true) rfl rfl ?_)
    refine r_cons (r_take rfl rfl ?_)
    refine s_move (.int .i64 n) rfl rfl ?_
    refine r_cons (r_take rfl rfl ?_)
    by_cases hc2 : n ≤ 1099511627776
    · skip
      refine s_leq true rfl rfl (dtrue hc2) rfl ?_
      refine r_cons (s_pick_t (.bool true) rfl rfl rfl ?_)
      refine r_cons (s_assign (.bool true) rfl rfl ?_)
      refine r_nil ?_
      refine g_ret' [.bool true] Try.func41 Try.results41 ⟨rfl, trivial⟩ ?_
      exact ⟨congrArg Value.bool (by simp only [timeB, brB]; first | (exact (decide_eq_true (by omega)).symm) | (exact (decide_eq_false (by omega)).symm)), H⟩
    · skip
      refine s_leq false rfl rfl (dfalse hc2) rfl ?_
      refine r_cons (s_pick_t (.bool false) rfl rfl rfl ?_)
      refine r_cons (s_assign (.bool false) rfl rfl ?_)
      refine r_nil ?_
      refine g_ret' [.bool false] Try.func41 Try.results41 ⟨rfl, trivial⟩ ?_
      exact ⟨congrArg Value.bool (by simp only [timeB, brB]; first | (exact (decide_eq_true (by omega)).symm) | (exact (decide_eq_false (by omega)).symm)), H⟩
  · skip
    refine r_cons (s_geq false rfl rfl (dfalse hc1) rfl ?_)
    refine r_cons (s_move (.bool false) rfl rfl ?_)
    refine r_cons (r_pass rfl rfl rfl rfl rfl ?_)
    refine r_cons (r_pass rfl rfl rfl rfl rfl ?_)
    refine r_cons (s_pick_f (.bool false) rfl rfl rfl ?_)
    refine r_cons (s_assign (.bool false) rfl rfl ?_)
    refine r_nil ?_
    refine g_ret' [.bool false] Try.func41 Try.results41 ⟨rfl, trivial⟩ ?_
    exact ⟨congrArg Value.bool (by simp only [timeB, brB]; first | (exact (decide_eq_true (by omega)).symm) | (exact (decide_eq_false (by omega)).symm)), H⟩
set_option maxHeartbeats 4000000 in
set_option maxRecDepth 100000 in
theorem eyrieref02_broker {W w : World} {F : List Atom} (n : Int) (H : St W w F) : Calls Try.prog 40 #[.int .i64 n] w (Ret fun v w' => v = .bool (brB n) ∧ St W w' F) := by
  refine calls_of_go (n := 9) Try.func40 rfl Try.ntmps40 rfl ?_
  refine g_seq ?_
  refine g_region ?_
  refine r_cons (s_assign (.bool false) rfl rfl ?_)
  refine r_nil ?_
  refine g_seq ?_
  refine g_region ?_
  refine r_cons (s_move (.int .i64 n) rfl rfl ?_)
  by_cases hc1 : (0 : Int) ≤ n
  · skip
    refine r_cons (s_geq true rfl rfl (dtrue hc1) rfl ?_)
    refine r_cons (s_move (.bool true) rfl rfl ?_)
    refine r_cons (r_take rfl rfl ?_)
    refine s_move (.int .i64 n) rfl rfl ?_
    refine r_cons (r_take rfl rfl ?_)
    by_cases hc2 : n < 16
    · skip
      refine s_lss true rfl rfl (dtrue hc2) rfl ?_
      refine r_cons (s_pick_t (.bool true) rfl rfl rfl ?_)
      refine r_cons (s_assign (.bool true) rfl rfl ?_)
      refine r_nil ?_
      refine g_ret' [.bool true] Try.func40 Try.results40 ⟨rfl, trivial⟩ ?_
      exact ⟨congrArg Value.bool (by simp only [timeB, brB]; first | (exact (decide_eq_true (by omega)).symm) | (exact (decide_eq_false (by omega)).symm)), H⟩
    · skip
      refine s_lss false rfl rfl (dfalse hc2) rfl ?_
      refine r_cons (s_pick_t (.bool false) rfl rfl rfl ?_)
      refine r_cons (s_assign (.bool false) rfl rfl ?_)
      refine r_nil ?_
      refine g_ret' [.bool false] Try.func40 Try.results40 ⟨rfl, trivial⟩ ?_
      exact ⟨congrArg Value.bool (by simp only [timeB, brB]; first | (exact (decide_eq_true (by omega)).symm) | (exact (decide_eq_false (by omega)).symm)), H⟩
  · skip
    refine r_cons (s_geq false rfl rfl (dfalse hc1) rfl ?_)
    refine r_cons (s_move (.bool false) rfl rfl ?_)
    refine r_cons (r_pass rfl rfl rfl rfl rfl ?_)
    refine r_cons (r_pass rfl rfl rfl rfl rfl ?_)
    refine r_cons (s_pick_f (.bool false) rfl rfl rfl ?_)
    refine r_cons (s_assign (.bool false) rfl rfl ?_)
    refine r_nil ?_
    refine g_ret' [.bool false] Try.func40 Try.results40 ⟨rfl, trivial⟩ ?_
    exact ⟨congrArg Value.bool (by simp only [timeB, brB]; first | (exact (decide_eq_true (by omega)).symm) | (exact (decide_eq_false (by omega)).symm)), H⟩
set_option maxHeartbeats 4000000 in
set_option maxRecDepth 100000 in
theorem eyrieref02_Check {W w : World} {F : List Atom} (d : DgM) (bv_d : Value) {A_d : Atom} (hA_d : RdA A_d 1 bv_d d.body.length (d.body.flatMap u8c)) {j : Nat} (hj : F[j]? = some A_d) (H : St W w F) : Calls Try.prog 25 #[.agg #[.int .i64 d.frm.v, .int .i64 d.to_.v, .int .i64 d.kind.v, .int .i64 d.seq.v, .int .i64 d.ack.v, bv_d]] w (Ret fun v w' => v = .int .i64 (dgE d) ∧ St W w' F) := by
  have hml := (hA_d _ _ _ j H hj).2
  obtain ⟨pp1, cc2, rfl, hn3⟩ := Rd.shape (hA_d _ _ _ j H hj).1
  refine calls_of_go (n := 63) Try.func25 rfl Try.ntmps25 rfl ?_
  refine g_seq ?_
  refine g_region ?_
  refine r_cons (s_box H 24 (.agg #[.int .i64 d.frm.v, .int .i64 d.to_.v, .int .i64 d.kind.v, .int .i64 d.seq.v, .int .i64 d.ack.v, .slice pp1 d.body.length cc2]) rfl (cs := #[.int .i64 d.frm.v, .int .i64 d.to_.v, .int .i64 d.kind.v, .int .i64 d.seq.v, .int .i64 d.ack.v, .slice pp1 d.body.length cc2]) rfl rfl ?_); intro bk4 w5 H6
  refine r_cons (s_assign (.int .i64 0) rfl rfl ?_)
  refine r_nil ?_
  refine g_seq ?_
  refine g_region ?_
  refine r_cons (s_fieldAddr 24 0 0 0 3 rfl fi_24_0 rfl rfl ?_)
  refine r_cons (s_load (.int .i64 d.frm.v) ag_3 rfl (H6.blk_at (i := 0) rfl) rfl rfl ?_)
  refine r_cons (s_call [.int .i64 d.frm.v] pl_40 rfl rfl (eyrieref02_broker d.frm.v H6) ?_)
  rintro _ w7 ⟨rfl, H8⟩
  refine r_cons (s_move (.bool (brB d.frm.v)) rfl rfl ?_)
  by_cases hb9 : (brB d.frm.v) = true
  · skip
    refine r_cons (r_take rfl (congrArg some hb9) ?_)
    refine s_fieldAddr 24 1 1 1 3 rfl fi_24_1 rfl rfl ?_
    refine r_cons (r_take rfl (congrArg some hb9) ?_)
    refine s_load (.int .i64 d.to_.v) ag_3 rfl (H8.blk_at (i := 0) rfl) rfl rfl ?_
    refine r_cons (r_take rfl (congrArg some hb9) ?_)
    refine s_call [.int .i64 d.to_.v] pl_40 rfl rfl (eyrieref02_broker d.to_.v H8) ?_
    rintro _ w10 ⟨rfl, H11⟩
    refine r_cons (s_pick_t (.bool (brB d.to_.v)) (by exact congrArg Value.bool hb9) rfl rfl ?_)
    refine r_cons (s_move (.bool (brB d.to_.v)) rfl rfl ?_)
    by_cases hb12 : (brB d.to_.v) = true
    · skip
      refine r_cons (r_take rfl (congrArg some hb12) ?_)
      refine s_fieldAddr 24 0 0 0 3 rfl fi_24_0 rfl rfl ?_
      refine r_cons (r_take rfl (congrArg some hb12) ?_)
      refine s_load (.int .i64 d.frm.v) ag_3 rfl (H11.blk_at (i := 0) rfl) rfl rfl ?_
      refine r_cons (r_take rfl (congrArg some hb12) ?_)
      refine s_fieldAddr 24 1 1 1 3 rfl fi_24_1 rfl rfl ?_
      refine r_cons (r_take rfl (congrArg some hb12) ?_)
      refine s_load (.int .i64 d.to_.v) ag_3 rfl (H11.blk_at (i := 0) rfl) rfl rfl ?_
      refine r_cons (r_take rfl (congrArg some hb12) ?_)
      by_cases hc13 : d.frm.v = d.to_.v
      · skip
        refine s_neq false rfl rfl (ntrue hc13) rfl ?_
        refine r_cons (s_pick_t (.bool false) (by exact congrArg Value.bool hb12) rfl rfl ?_)
        refine r_cons (s_move (.bool false) rfl rfl ?_)
        refine r_cons (r_pass rfl rfl rfl rfl rfl ?_)
        refine r_cons (r_pass rfl rfl rfl rfl rfl ?_)
        refine r_cons (r_pass rfl rfl rfl rfl rfl ?_)
        refine r_cons (s_pick_f (.bool false) rfl rfl rfl ?_)
        refine r_cons (s_move (.bool false) rfl rfl ?_)
        refine r_cons (r_pass rfl rfl rfl rfl rfl ?_)
        refine r_cons (r_pass rfl rfl rfl rfl rfl ?_)
        refine r_cons (r_pass rfl rfl rfl rfl rfl ?_)
        refine r_cons (s_pick_f (.bool false) rfl rfl rfl ?_)
        refine r_cons (s_move (.bool false) rfl rfl ?_)
        refine r_cons (r_pass rfl rfl rfl rfl rfl ?_)
        refine r_cons (r_pass rfl rfl rfl rfl rfl ?_)
        refine r_cons (r_pass rfl rfl rfl rfl rfl ?_)
        refine r_cons (r_pass rfl rfl rfl rfl rfl ?_)
        refine r_cons (s_pick_f (.bool false) rfl rfl rfl ?_)
        refine r_cons (s_assign (.bool false) rfl rfl ?_)
        refine r_nil ?_
        refine g_seq ?_
        refine g_seq ?_
        refine g_region ?_
        refine r_cons (s_move (.bool false) rfl rfl ?_)
        refine r_cons (s_not false rfl true rfl rfl ?_)
        refine r_cons (s_move (.bool true) rfl rfl ?_)
        refine r_cons (r_pass rfl rfl rfl rfl rfl ?_)
        refine r_cons (r_pass rfl rfl rfl rfl rfl ?_)
        refine r_cons (r_pass rfl rfl rfl rfl rfl ?_)
        refine r_cons (r_pass rfl rfl rfl rfl rfl ?_)
        refine r_cons (r_passN rfl rfl rfl rfl ?_)
        refine r_cons (r_passN rfl rfl rfl rfl ?_)
        refine r_cons (r_passN rfl rfl rfl rfl ?_)
        refine r_cons (r_pass rfl rfl rfl rfl rfl ?_)
        refine r_cons (s_pick_t (.bool true) rfl rfl rfl ?_)
        refine r_cons (s_move (.bool true) rfl rfl ?_)
        refine r_cons (r_pass rfl rfl rfl rfl rfl ?_)
        refine r_cons (r_pass rfl rfl rfl rfl rfl ?_)
        refine r_cons (r_pass rfl rfl rfl rfl rfl ?_)
        refine r_cons (r_pass rfl rfl rfl rfl rfl ?_)
        refine r_cons (r_passN rfl rfl rfl rfl ?_)
        refine r_cons (r_passN rfl rfl rfl rfl ?_)
        refine r_cons (r_passN rfl rfl rfl rfl ?_)
        refine r_cons (r_passN rfl rfl rfl rfl ?_)
        refine r_cons (r_passN rfl rfl rfl rfl ?_)
        refine r_cons (r_passN rfl rfl rfl rfl ?_)
        refine r_cons (r_passN rfl rfl rfl rfl ?_)
        refine r_cons (r_passN rfl rfl rfl rfl ?_)
        refine r_cons (r_passN rfl rfl rfl rfl ?_)
        refine r_cons (r_pass rfl rfl rfl rfl rfl ?_)
        refine r_cons (s_pick_t (.bool true) rfl rfl rfl ?_)
        refine r_nil ?_
        refine g_true rfl ?_
        refine g_seq ?_
        refine g_region ?_
        refine r_cons (s_assign (.int .i64 21) rfl rfl ?_)
        refine r_nil ?_
        refine g_ret' [.int .i64 21] Try.func25 Try.results25 ⟨rfl, trivial⟩ ?_
        have H14 : St W w10 F := (H11.drop 0 rfl)
        have hz98 : (brB d.frm.v) = true := by simpa using hb9
        simp only [timeB, brB, decide_eq_true_eq, decide_eq_false_iff_not] at hz98
        have hz100 : (brB d.to_.v) = true := by simpa using hb12
        simp only [timeB, brB, decide_eq_true_eq, decide_eq_false_iff_not] at hz100
        exact ⟨vint (by exact (dgE_21 (by unfold dgOk; omega)).symm), H14⟩
      · skip
        refine s_neq true rfl rfl (nfalse hc13) rfl ?_
        refine r_cons (s_pick_t (.bool true) (by exact congrArg Value.bool hb12) rfl rfl ?_)
        refine r_cons (s_move (.bool true) rfl rfl ?_)
        refine r_cons (r_take rfl rfl ?_)
        refine s_fieldAddr 24 3 3 3 2 rfl fi_24_3 rfl rfl ?_
        refine r_cons (r_take rfl rfl ?_)
        refine s_load (.int .i64 d.seq.v) ag_2 rfl (H11.blk_at (i := 0) rfl) rfl rfl ?_
        refine r_cons (r_take rfl rfl ?_)
        refine s_call [.int .i64 d.seq.v] pl_41 rfl rfl (eyrieref02_time d.seq.v H11) ?_
        rintro _ w15 ⟨rfl, H16⟩
        refine r_cons (s_pick_t (.bool (timeB d.seq.v)) rfl rfl rfl ?_)
        refine r_cons (s_move (.bool (timeB d.seq.v)) rfl rfl ?_)
        by_cases hb17 : (timeB d.seq.v) = true
        · skip
          refine r_cons (r_take rfl (congrArg some hb17) ?_)
          refine s_fieldAddr 24 4 4 4 2 rfl fi_24_4 rfl rfl ?_
          refine r_cons (r_take rfl (congrArg some hb17) ?_)
          refine s_load (.int .i64 d.ack.v) ag_2 rfl (H16.blk_at (i := 0) rfl) rfl rfl ?_
          refine r_cons (r_take rfl (congrArg some hb17) ?_)
          refine s_call [.int .i64 d.ack.v] pl_41 rfl rfl (eyrieref02_time d.ack.v H16) ?_
          rintro _ w18 ⟨rfl, H19⟩
          refine r_cons (s_pick_t (.bool (timeB d.ack.v)) (by exact congrArg Value.bool hb17) rfl rfl ?_)
          refine r_cons (s_move (.bool (timeB d.ack.v)) rfl rfl ?_)
          by_cases hb20 : (timeB d.ack.v) = true
          · skip
            refine r_cons (r_take rfl (congrArg some hb20) ?_)
            refine s_fieldAddr 24 5 5 5 22 rfl fi_24_5 rfl rfl ?_
            refine r_cons (r_take rfl (congrArg some hb20) ?_)
            refine s_load (.slice pp1 d.body.length cc2) ag_22 rfl (H19.blk_at (i := 0) rfl) rfl rfl ?_
            refine r_cons (r_take rfl (congrArg some hb20) ?_)
            refine s_len d.body.length rfl ⟨_, un_22⟩ rfl ?_
            refine r_cons (r_take rfl (congrArg some hb20) ?_)
            by_cases hc21 : (d.body.length : Int) ≤ 16384
            · skip
              refine s_leq true rfl rfl (dtrue hc21) rfl ?_
              refine r_cons (s_pick_t (.bool true) (by exact congrArg Value.bool hb20) rfl rfl ?_)
              refine r_cons (s_assign (.bool true) rfl rfl ?_)
              refine r_nil ?_
              refine g_seq ?_
              refine g_seq ?_
              refine g_region ?_
              refine r_cons (s_move (.bool true) rfl rfl ?_)
              refine r_cons (s_not true rfl false rfl rfl ?_)
              refine r_cons (s_move (.bool false) rfl rfl ?_)
              refine r_cons (r_take rfl rfl ?_)
              refine s_fieldAddr 24 2 2 2 3 rfl fi_24_2 rfl rfl ?_
              refine r_cons (r_take rfl rfl ?_)
              refine s_load (.int .i64 d.kind.v) ag_3 rfl (H19.blk_at (i := 0) rfl) rfl rfl ?_
              refine r_cons (r_take rfl rfl ?_)
              by_cases hc22 : d.kind.v = 1
              · skip
                refine s_neq false rfl rfl (ntrue hc22) rfl ?_
                refine r_cons (r_take rfl rfl ?_)
                refine s_move (.bool false) rfl rfl ?_
                refine r_cons (r_pass rfl rfl rfl rfl rfl ?_)
                refine r_cons (r_pass rfl rfl rfl rfl rfl ?_)
                refine r_cons (r_pass rfl rfl rfl rfl rfl ?_)
                refine r_cons (r_take rfl rfl ?_)
                refine s_pick_f (.bool false) rfl rfl rfl ?_
                refine r_cons (s_pick_f (.bool false) rfl rfl rfl ?_)
                refine r_cons (s_move (.bool false) rfl rfl ?_)
                refine r_cons (r_take rfl rfl ?_)
                refine s_fieldAddr 24 2 2 2 3 rfl fi_24_2 rfl rfl ?_
                refine r_cons (r_take rfl rfl ?_)
                refine s_load (.int .i64 d.kind.v) ag_3 rfl (H19.blk_at (i := 0) rfl) rfl rfl ?_
                refine r_cons (r_take rfl rfl ?_)
                refine s_eql false rfl rfl (dfalse (by omega)) rfl ?_
                refine r_cons (r_take rfl rfl ?_)
                refine s_move (.bool false) rfl rfl ?_
                refine r_cons (r_pass rfl rfl rfl rfl rfl ?_)
                refine r_cons (r_pass rfl rfl rfl rfl rfl ?_)
                refine r_cons (r_pass rfl rfl rfl rfl rfl ?_)
                refine r_cons (r_pass rfl rfl rfl rfl rfl ?_)
                refine r_cons (r_passN rfl rfl rfl rfl ?_)
                refine r_cons (r_passN rfl rfl rfl rfl ?_)
                refine r_cons (r_passN rfl rfl rfl rfl ?_)
                refine r_cons (r_passN rfl rfl rfl rfl ?_)
                refine r_cons (r_pass rfl rfl rfl rfl rfl ?_)
                refine r_cons (r_take rfl rfl ?_)
                refine s_pick_f (.bool false) rfl rfl rfl ?_
                refine r_cons (s_pick_f (.bool false) rfl rfl rfl ?_)
                refine r_nil ?_
                refine g_false rfl ?_
                refine g_skip ?_
                refine g_seq ?_
                refine g_region ?_
                refine r_cons (s_assign (.int .i64 0) rfl rfl ?_)
                refine r_nil ?_
                refine g_ret' [.int .i64 0] Try.func25 Try.results25 ⟨rfl, trivial⟩ ?_
                have H23 : St W w18 F := (H19.drop 0 rfl)
                have hz194 : (brB d.frm.v) = true := by simpa using hb9
                simp only [timeB, brB, decide_eq_true_eq, decide_eq_false_iff_not] at hz194
                have hz196 : (brB d.to_.v) = true := by simpa using hb12
                simp only [timeB, brB, decide_eq_true_eq, decide_eq_false_iff_not] at hz196
                have hz198 : (timeB d.seq.v) = true := by simpa using hb17
                simp only [timeB, brB, decide_eq_true_eq, decide_eq_false_iff_not] at hz198
                have hz200 : (timeB d.ack.v) = true := by simpa using hb20
                simp only [timeB, brB, decide_eq_true_eq, decide_eq_false_iff_not] at hz200
                exact ⟨vint (by exact (dgE_0 (by unfold dgOk; omega)).symm), H23⟩
              · skip
                refine s_neq true rfl rfl (nfalse hc22) rfl ?_
                refine r_cons (r_take rfl rfl ?_)
                refine s_move (.bool true) rfl rfl ?_
                refine r_cons (r_take rfl rfl ?_)
                refine s_fieldAddr 24 2 2 2 3 rfl fi_24_2 rfl rfl ?_
                refine r_cons (r_take rfl rfl ?_)
                refine s_load (.int .i64 d.kind.v) ag_3 rfl (H19.blk_at (i := 0) rfl) rfl rfl ?_
                refine r_cons (r_take rfl rfl ?_)
                by_cases hc24 : d.kind.v = 2
                · skip
                  refine s_neq false rfl rfl (ntrue hc24) rfl ?_
                  refine r_cons (r_take rfl rfl ?_)
                  refine s_pick_t (.bool false) rfl rfl rfl ?_
                  refine r_cons (s_pick_f (.bool false) rfl rfl rfl ?_)
                  refine r_cons (s_move (.bool false) rfl rfl ?_)
                  refine r_cons (r_take rfl rfl ?_)
                  refine s_fieldAddr 24 2 2 2 3 rfl fi_24_2 rfl rfl ?_
                  refine r_cons (r_take rfl rfl ?_)
                  refine s_load (.int .i64 d.kind.v) ag_3 rfl (H19.blk_at (i := 0) rfl) rfl rfl ?_
                  refine r_cons (r_take rfl rfl ?_)
                  refine s_eql true rfl rfl (dtrue (by omega)) rfl ?_
                  refine r_cons (r_take rfl rfl ?_)
                  refine s_move (.bool true) rfl rfl ?_
                  refine r_cons (r_take rfl rfl ?_)
                  refine s_fieldAddr 24 3 3 3 2 rfl fi_24_3 rfl rfl ?_
                  refine r_cons (r_take rfl rfl ?_)
                  refine s_load (.int .i64 d.seq.v) ag_2 rfl (H19.blk_at (i := 0) rfl) rfl rfl ?_
                  refine r_cons (r_take rfl rfl ?_)
                  by_cases hc25 : d.seq.v = 0
                  · skip
                    refine s_neq false rfl rfl (ntrue hc25) rfl ?_
                    refine r_cons (r_take rfl rfl ?_)
                    refine s_move (.bool false) rfl rfl ?_
                    refine r_cons (r_take rfl rfl ?_)
                    refine s_fieldAddr 24 5 5 5 22 rfl fi_24_5 rfl rfl ?_
                    refine r_cons (r_take rfl rfl ?_)
                    refine s_load (.slice pp1 d.body.length cc2) ag_22 rfl (H19.blk_at (i := 0) rfl) rfl rfl ?_
                    refine r_cons (r_take rfl rfl ?_)
                    refine s_len d.body.length rfl ⟨_, un_22⟩ rfl ?_
                    refine r_cons (r_take rfl rfl ?_)
                    by_cases hc26 : (0 : Int) < (d.body.length : Int)
                    · skip
                      refine s_gtr true rfl rfl (dtrue hc26) rfl ?_
                      refine r_cons (r_take rfl rfl ?_)
                      refine s_pick_f (.bool true) rfl rfl rfl ?_
                      refine r_cons (r_take rfl rfl ?_)
                      refine s_pick_t (.bool true) rfl rfl rfl ?_
                      refine r_cons (s_pick_f (.bool true) rfl rfl rfl ?_)
                      refine r_nil ?_
                      refine g_true rfl ?_
                      refine g_seq ?_
                      refine g_region ?_
                      refine r_cons (s_assign (.int .i64 21) rfl rfl ?_)
                      refine r_nil ?_
                      refine g_ret' [.int .i64 21] Try.func25 Try.results25 ⟨rfl, trivial⟩ ?_
                      have H27 : St W w18 F := (H19.drop 0 rfl)
                      have hz260 : (brB d.frm.v) = true := by simpa using hb9
                      simp only [timeB, brB, decide_eq_true_eq, decide_eq_false_iff_not] at hz260
                      have hz262 : (brB d.to_.v) = true := by simpa using hb12
                      simp only [timeB, brB, decide_eq_true_eq, decide_eq_false_iff_not] at hz262
                      have hz264 : (timeB d.seq.v) = true := by simpa using hb17
                      simp only [timeB, brB, decide_eq_true_eq, decide_eq_false_iff_not] at hz264
                      have hz266 : (timeB d.ack.v) = true := by simpa using hb20
                      simp only [timeB, brB, decide_eq_true_eq, decide_eq_false_iff_not] at hz266
                      exact ⟨vint (by exact (dgE_21 (by unfold dgOk; omega)).symm), H27⟩
                    · skip
                      refine s_gtr false rfl rfl (dfalse hc26) rfl ?_
                      refine r_cons (r_take rfl rfl ?_)
                      refine s_pick_f (.bool false) rfl rfl rfl ?_
                      refine r_cons (r_take rfl rfl ?_)
                      refine s_pick_t (.bool false) rfl rfl rfl ?_
                      refine r_cons (s_pick_f (.bool false) rfl rfl rfl ?_)
                      refine r_nil ?_
                      refine g_false rfl ?_
                      refine g_skip ?_
                      refine g_seq ?_
                      refine g_region ?_
                      refine r_cons (s_assign (.int .i64 0) rfl rfl ?_)
                      refine r_nil ?_
                      refine g_ret' [.int .i64 0] Try.func25 Try.results25 ⟨rfl, trivial⟩ ?_
                      have H28 : St W w18 F := (H19.drop 0 rfl)
                      have hz285 : (brB d.frm.v) = true := by simpa using hb9
                      simp only [timeB, brB, decide_eq_true_eq, decide_eq_false_iff_not] at hz285
                      have hz287 : (brB d.to_.v) = true := by simpa using hb12
                      simp only [timeB, brB, decide_eq_true_eq, decide_eq_false_iff_not] at hz287
                      have hz289 : (timeB d.seq.v) = true := by simpa using hb17
                      simp only [timeB, brB, decide_eq_true_eq, decide_eq_false_iff_not] at hz289
                      have hz291 : (timeB d.ack.v) = true := by simpa using hb20
                      simp only [timeB, brB, decide_eq_true_eq, decide_eq_false_iff_not] at hz291
                      exact ⟨vint (by exact (dgE_0 (by unfold dgOk; omega)).symm), H28⟩
                  · skip
                    refine s_neq true rfl rfl (nfalse hc25) rfl ?_
                    refine r_cons (r_take rfl rfl ?_)
                    refine s_move (.bool true) rfl rfl ?_
                    refine r_cons (r_pass rfl rfl rfl rfl rfl ?_)
                    refine r_cons (r_pass rfl rfl rfl rfl rfl ?_)
                    refine r_cons (r_pass rfl rfl rfl rfl rfl ?_)
                    refine r_cons (r_pass rfl rfl rfl rfl rfl ?_)
                    refine r_cons (r_take rfl rfl ?_)
                    refine s_pick_t (.bool true) rfl rfl rfl ?_
                    refine r_cons (r_take rfl rfl ?_)
                    refine s_pick_t (.bool true) rfl rfl rfl ?_
                    refine r_cons (s_pick_f (.bool true) rfl rfl rfl ?_)
                    refine r_nil ?_
                    refine g_true rfl ?_
                    refine g_seq ?_
                    refine g_region ?_
                    refine r_cons (s_assign (.int .i64 21) rfl rfl ?_)
                    refine r_nil ?_
                    refine g_ret' [.int .i64 21] Try.func25 Try.results25 ⟨rfl, trivial⟩ ?_
                    have H29 : St W w18 F := (H19.drop 0 rfl)
                    have hz315 : (brB d.frm.v) = true := by simpa using hb9
                    simp only [timeB, brB, decide_eq_true_eq, decide_eq_false_iff_not] at hz315
                    have hz317 : (brB d.to_.v) = true := by simpa using hb12
                    simp only [timeB, brB, decide_eq_true_eq, decide_eq_false_iff_not] at hz317
                    have hz319 : (timeB d.seq.v) = true := by simpa using hb17
                    simp only [timeB, brB, decide_eq_true_eq, decide_eq_false_iff_not] at hz319
                    have hz321 : (timeB d.ack.v) = true := by simpa using hb20
                    simp only [timeB, brB, decide_eq_true_eq, decide_eq_false_iff_not] at hz321
                    exact ⟨vint (by exact (dgE_21 (by unfold dgOk; omega)).symm), H29⟩
                · skip
                  refine s_neq true rfl rfl (nfalse hc24) rfl ?_
                  refine r_cons (r_take rfl rfl ?_)
                  refine s_pick_t (.bool true) rfl rfl rfl ?_
                  refine r_cons (s_pick_f (.bool true) rfl rfl rfl ?_)
                  refine r_cons (s_move (.bool true) rfl rfl ?_)
                  refine r_cons (r_pass rfl rfl rfl rfl rfl ?_)
                  refine r_cons (r_pass rfl rfl rfl rfl rfl ?_)
                  refine r_cons (r_pass rfl rfl rfl rfl rfl ?_)
                  refine r_cons (r_pass rfl rfl rfl rfl rfl ?_)
                  refine r_cons (r_passN rfl rfl rfl rfl ?_)
                  refine r_cons (r_passN rfl rfl rfl rfl ?_)
                  refine r_cons (r_passN rfl rfl rfl rfl ?_)
                  refine r_cons (r_passN rfl rfl rfl rfl ?_)
                  refine r_cons (r_passN rfl rfl rfl rfl ?_)
                  refine r_cons (r_passN rfl rfl rfl rfl ?_)
                  refine r_cons (r_passN rfl rfl rfl rfl ?_)
                  refine r_cons (r_passN rfl rfl rfl rfl ?_)
                  refine r_cons (r_passN rfl rfl rfl rfl ?_)
                  refine r_cons (r_pass rfl rfl rfl rfl rfl ?_)
                  refine r_cons (s_pick_t (.bool true) rfl rfl rfl ?_)
                  refine r_nil ?_
                  refine g_true rfl ?_
                  refine g_seq ?_
                  refine g_region ?_
                  refine r_cons (s_assign (.int .i64 21) rfl rfl ?_)
                  refine r_nil ?_
                  refine g_ret' [.int .i64 21] Try.func25 Try.results25 ⟨rfl, trivial⟩ ?_
                  have H30 : St W w18 F := (H19.drop 0 rfl)
                  have hz353 : (brB d.frm.v) = true := by simpa using hb9
                  simp only [timeB, brB, decide_eq_true_eq, decide_eq_false_iff_not] at hz353
                  have hz355 : (brB d.to_.v) = true := by simpa using hb12
                  simp only [timeB, brB, decide_eq_true_eq, decide_eq_false_iff_not] at hz355
                  have hz357 : (timeB d.seq.v) = true := by simpa using hb17
                  simp only [timeB, brB, decide_eq_true_eq, decide_eq_false_iff_not] at hz357
                  have hz359 : (timeB d.ack.v) = true := by simpa using hb20
                  simp only [timeB, brB, decide_eq_true_eq, decide_eq_false_iff_not] at hz359
                  exact ⟨vint (by exact (dgE_21 (by unfold dgOk; omega)).symm), H30⟩
            · skip
              refine s_leq false rfl rfl (dfalse hc21) rfl ?_
              refine r_cons (s_pick_t (.bool false) (by exact congrArg Value.bool hb20) rfl rfl ?_)
              refine r_cons (s_assign (.bool false) rfl rfl ?_)
              refine r_nil ?_
              refine g_seq ?_
              refine g_seq ?_
              refine g_region ?_
              refine r_cons (s_move (.bool false) rfl rfl ?_)
              refine r_cons (s_not false rfl true rfl rfl ?_)
              refine r_cons (s_move (.bool true) rfl rfl ?_)
              refine r_cons (r_pass rfl rfl rfl rfl rfl ?_)
              refine r_cons (r_pass rfl rfl rfl rfl rfl ?_)
              refine r_cons (r_pass rfl rfl rfl rfl rfl ?_)
              refine r_cons (r_pass rfl rfl rfl rfl rfl ?_)
              refine r_cons (r_passN rfl rfl rfl rfl ?_)
              refine r_cons (r_passN rfl rfl rfl rfl ?_)
              refine r_cons (r_passN rfl rfl rfl rfl ?_)
              refine r_cons (r_pass rfl rfl rfl rfl rfl ?_)
              refine r_cons (s_pick_t (.bool true) rfl rfl rfl ?_)
              refine r_cons (s_move (.bool true) rfl rfl ?_)
              refine r_cons (r_pass rfl rfl rfl rfl rfl ?_)
              refine r_cons (r_pass rfl rfl rfl rfl rfl ?_)
              refine r_cons (r_pass rfl rfl rfl rfl rfl ?_)
              refine r_cons (r_pass rfl rfl rfl rfl rfl ?_)
              refine r_cons (r_passN rfl rfl rfl rfl ?_)
              refine r_cons (r_passN rfl rfl rfl rfl ?_)
              refine r_cons (r_passN rfl rfl rfl rfl ?_)
              refine r_cons (r_passN rfl rfl rfl rfl ?_)
              refine r_cons (r_passN rfl rfl rfl rfl ?_)
              refine r_cons (r_passN rfl rfl rfl rfl ?_)
              refine r_cons (r_passN rfl rfl rfl rfl ?_)
              refine r_cons (r_passN rfl rfl rfl rfl ?_)
              refine r_cons (r_passN rfl rfl rfl rfl ?_)
              refine r_cons (r_pass rfl rfl rfl rfl rfl ?_)
              refine r_cons (s_pick_t (.bool true) rfl rfl rfl ?_)
              refine r_nil ?_
              refine g_true rfl ?_
              refine g_seq ?_
              refine g_region ?_
              refine r_cons (s_assign (.int .i64 21) rfl rfl ?_)
              refine r_nil ?_
              refine g_ret' [.int .i64 21] Try.func25 Try.results25 ⟨rfl, trivial⟩ ?_
              have H31 : St W w18 F := (H19.drop 0 rfl)
              have hz406 : (brB d.frm.v) = true := by simpa using hb9
              simp only [timeB, brB, decide_eq_true_eq, decide_eq_false_iff_not] at hz406
              have hz408 : (brB d.to_.v) = true := by simpa using hb12
              simp only [timeB, brB, decide_eq_true_eq, decide_eq_false_iff_not] at hz408
              have hz410 : (timeB d.seq.v) = true := by simpa using hb17
              simp only [timeB, brB, decide_eq_true_eq, decide_eq_false_iff_not] at hz410
              have hz412 : (timeB d.ack.v) = true := by simpa using hb20
              simp only [timeB, brB, decide_eq_true_eq, decide_eq_false_iff_not] at hz412
              exact ⟨vint (by exact (dgE_21 (by unfold dgOk; omega)).symm), H31⟩
          · have hb20 := eq_false_of_ne_true hb20
            refine r_cons (r_pass rfl (congrArg some hb20) rfl rfl rfl ?_)
            refine r_cons (r_pass rfl (congrArg some hb20) rfl rfl rfl ?_)
            refine r_cons (r_pass rfl (congrArg some hb20) rfl rfl rfl ?_)
            refine r_cons (r_pass rfl (congrArg some hb20) rfl rfl rfl ?_)
            refine r_cons (s_pick_f (.bool false) (by exact congrArg Value.bool hb20) rfl rfl ?_)
            refine r_cons (s_assign (.bool false) rfl rfl ?_)
            refine r_nil ?_
            refine g_seq ?_
            refine g_seq ?_
            refine g_region ?_
            refine r_cons (s_move (.bool false) rfl rfl ?_)
            refine r_cons (s_not false rfl true rfl rfl ?_)
            refine r_cons (s_move (.bool true) rfl rfl ?_)
            refine r_cons (r_pass rfl rfl rfl rfl rfl ?_)
            refine r_cons (r_pass rfl rfl rfl rfl rfl ?_)
            refine r_cons (r_pass rfl rfl rfl rfl rfl ?_)
            refine r_cons (r_pass rfl rfl rfl rfl rfl ?_)
            refine r_cons (r_passN rfl rfl rfl rfl ?_)
            refine r_cons (r_passN rfl rfl rfl rfl ?_)
            refine r_cons (r_passN rfl rfl rfl rfl ?_)
            refine r_cons (r_pass rfl rfl rfl rfl rfl ?_)
            refine r_cons (s_pick_t (.bool true) rfl rfl rfl ?_)
            refine r_cons (s_move (.bool true) rfl rfl ?_)
            refine r_cons (r_pass rfl rfl rfl rfl rfl ?_)
            refine r_cons (r_pass rfl rfl rfl rfl rfl ?_)
            refine r_cons (r_pass rfl rfl rfl rfl rfl ?_)
            refine r_cons (r_pass rfl rfl rfl rfl rfl ?_)
            refine r_cons (r_passN rfl rfl rfl rfl ?_)
            refine r_cons (r_passN rfl rfl rfl rfl ?_)
            refine r_cons (r_passN rfl rfl rfl rfl ?_)
            refine r_cons (r_passN rfl rfl rfl rfl ?_)
            refine r_cons (r_passN rfl rfl rfl rfl ?_)
            refine r_cons (r_passN rfl rfl rfl rfl ?_)
            refine r_cons (r_passN rfl rfl rfl rfl ?_)
            refine r_cons (r_passN rfl rfl rfl rfl ?_)
            refine r_cons (r_passN rfl rfl rfl rfl ?_)
            refine r_cons (r_pass rfl rfl rfl rfl rfl ?_)
            refine r_cons (s_pick_t (.bool true) rfl rfl rfl ?_)
            refine r_nil ?_
            refine g_true rfl ?_
            refine g_seq ?_
            refine g_region ?_
            refine r_cons (s_assign (.int .i64 21) rfl rfl ?_)
            refine r_nil ?_
            refine g_ret' [.int .i64 21] Try.func25 Try.results25 ⟨rfl, trivial⟩ ?_
            have H32 : St W w18 F := (H19.drop 0 rfl)
            have hz462 : (brB d.frm.v) = true := by simpa using hb9
            simp only [timeB, brB, decide_eq_true_eq, decide_eq_false_iff_not] at hz462
            have hz464 : (brB d.to_.v) = true := by simpa using hb12
            simp only [timeB, brB, decide_eq_true_eq, decide_eq_false_iff_not] at hz464
            have hz466 : (timeB d.seq.v) = true := by simpa using hb17
            simp only [timeB, brB, decide_eq_true_eq, decide_eq_false_iff_not] at hz466
            have hz468 : (timeB d.ack.v) = false := by simpa using hb20
            simp only [timeB, brB, decide_eq_true_eq, decide_eq_false_iff_not] at hz468
            exact ⟨vint (by exact (dgE_21 (by unfold dgOk; omega)).symm), H32⟩
        · have hb17 := eq_false_of_ne_true hb17
          refine r_cons (r_pass rfl (congrArg some hb17) rfl rfl rfl ?_)
          refine r_cons (r_pass rfl (congrArg some hb17) rfl rfl rfl ?_)
          refine r_cons (r_pass rfl (congrArg some hb17) rfl rfl rfl ?_)
          refine r_cons (s_pick_f (.bool false) (by exact congrArg Value.bool hb17) rfl rfl ?_)
          refine r_cons (s_move (.bool false) rfl rfl ?_)
          refine r_cons (r_pass rfl rfl rfl rfl rfl ?_)
          refine r_cons (r_pass rfl rfl rfl rfl rfl ?_)
          refine r_cons (r_pass rfl rfl rfl rfl rfl ?_)
          refine r_cons (r_pass rfl rfl rfl rfl rfl ?_)
          refine r_cons (s_pick_f (.bool false) rfl rfl rfl ?_)
          refine r_cons (s_assign (.bool false) rfl rfl ?_)
          refine r_nil ?_
          refine g_seq ?_
          refine g_seq ?_
          refine g_region ?_
          refine r_cons (s_move (.bool false) rfl rfl ?_)
          refine r_cons (s_not false rfl true rfl rfl ?_)
          refine r_cons (s_move (.bool true) rfl rfl ?_)
          refine r_cons (r_pass rfl rfl rfl rfl rfl ?_)
          refine r_cons (r_pass rfl rfl rfl rfl rfl ?_)
          refine r_cons (r_pass rfl rfl rfl rfl rfl ?_)
          refine r_cons (r_pass rfl rfl rfl rfl rfl ?_)
          refine r_cons (r_passN rfl rfl rfl rfl ?_)
          refine r_cons (r_passN rfl rfl rfl rfl ?_)
          refine r_cons (r_passN rfl rfl rfl rfl ?_)
          refine r_cons (r_pass rfl rfl rfl rfl rfl ?_)
          refine r_cons (s_pick_t (.bool true) rfl rfl rfl ?_)
          refine r_cons (s_move (.bool true) rfl rfl ?_)
          refine r_cons (r_pass rfl rfl rfl rfl rfl ?_)
          refine r_cons (r_pass rfl rfl rfl rfl rfl ?_)
          refine r_cons (r_pass rfl rfl rfl rfl rfl ?_)
          refine r_cons (r_pass rfl rfl rfl rfl rfl ?_)
          refine r_cons (r_passN rfl rfl rfl rfl ?_)
          refine r_cons (r_passN rfl rfl rfl rfl ?_)
          refine r_cons (r_passN rfl rfl rfl rfl ?_)
          refine r_cons (r_passN rfl rfl rfl rfl ?_)
          refine r_cons (r_passN rfl rfl rfl rfl ?_)
          refine r_cons (r_passN rfl rfl rfl rfl ?_)
          refine r_cons (r_passN rfl rfl rfl rfl ?_)
          refine r_cons (r_passN rfl rfl rfl rfl ?_)
          refine r_cons (r_passN rfl rfl rfl rfl ?_)
          refine r_cons (r_pass rfl rfl rfl rfl rfl ?_)
          refine r_cons (s_pick_t (.bool true) rfl rfl rfl ?_)
          refine r_nil ?_
          refine g_true rfl ?_
          refine g_seq ?_
          refine g_region ?_
          refine r_cons (s_assign (.int .i64 21) rfl rfl ?_)
          refine r_nil ?_
          refine g_ret' [.int .i64 21] Try.func25 Try.results25 ⟨rfl, trivial⟩ ?_
          have H33 : St W w15 F := (H16.drop 0 rfl)
          have hz523 : (brB d.frm.v) = true := by simpa using hb9
          simp only [timeB, brB, decide_eq_true_eq, decide_eq_false_iff_not] at hz523
          have hz525 : (brB d.to_.v) = true := by simpa using hb12
          simp only [timeB, brB, decide_eq_true_eq, decide_eq_false_iff_not] at hz525
          have hz527 : (timeB d.seq.v) = false := by simpa using hb17
          simp only [timeB, brB, decide_eq_true_eq, decide_eq_false_iff_not] at hz527
          exact ⟨vint (by exact (dgE_21 (by unfold dgOk; omega)).symm), H33⟩
    · have hb12 := eq_false_of_ne_true hb12
      refine r_cons (r_pass rfl (congrArg some hb12) rfl rfl rfl ?_)
      refine r_cons (r_pass rfl (congrArg some hb12) rfl rfl rfl ?_)
      refine r_cons (r_pass rfl (congrArg some hb12) rfl rfl rfl ?_)
      refine r_cons (r_pass rfl (congrArg some hb12) rfl rfl rfl ?_)
      refine r_cons (r_pass rfl (congrArg some hb12) rfl rfl rfl ?_)
      refine r_cons (s_pick_f (.bool false) (by exact congrArg Value.bool hb12) rfl rfl ?_)
      refine r_cons (s_move (.bool false) rfl rfl ?_)
      refine r_cons (r_pass rfl rfl rfl rfl rfl ?_)
      refine r_cons (r_pass rfl rfl rfl rfl rfl ?_)
      refine r_cons (r_pass rfl rfl rfl rfl rfl ?_)
      refine r_cons (s_pick_f (.bool false) rfl rfl rfl ?_)
      refine r_cons (s_move (.bool false) rfl rfl ?_)
      refine r_cons (r_pass rfl rfl rfl rfl rfl ?_)
      refine r_cons (r_pass rfl rfl rfl rfl rfl ?_)
      refine r_cons (r_pass rfl rfl rfl rfl rfl ?_)
      refine r_cons (s_pick_f (.bool false) rfl rfl rfl ?_)
      refine r_cons (s_move (.bool false) rfl rfl ?_)
      refine r_cons (r_pass rfl rfl rfl rfl rfl ?_)
      refine r_cons (r_pass rfl rfl rfl rfl rfl ?_)
      refine r_cons (r_pass rfl rfl rfl rfl rfl ?_)
      refine r_cons (r_pass rfl rfl rfl rfl rfl ?_)
      refine r_cons (s_pick_f (.bool false) rfl rfl rfl ?_)
      refine r_cons (s_assign (.bool false) rfl rfl ?_)
      refine r_nil ?_
      refine g_seq ?_
      refine g_seq ?_
      refine g_region ?_
      refine r_cons (s_move (.bool false) rfl rfl ?_)
      refine r_cons (s_not false rfl true rfl rfl ?_)
      refine r_cons (s_move (.bool true) rfl rfl ?_)
      refine r_cons (r_pass rfl rfl rfl rfl rfl ?_)
      refine r_cons (r_pass rfl rfl rfl rfl rfl ?_)
      refine r_cons (r_pass rfl rfl rfl rfl rfl ?_)
      refine r_cons (r_pass rfl rfl rfl rfl rfl ?_)
      refine r_cons (r_passN rfl rfl rfl rfl ?_)
      refine r_cons (r_passN rfl rfl rfl rfl ?_)
      refine r_cons (r_passN rfl rfl rfl rfl ?_)
      refine r_cons (r_pass rfl rfl rfl rfl rfl ?_)
      refine r_cons (s_pick_t (.bool true) rfl rfl rfl ?_)
      refine r_cons (s_move (.bool true) rfl rfl ?_)
      refine r_cons (r_pass rfl rfl rfl rfl rfl ?_)
      refine r_cons (r_pass rfl rfl rfl rfl rfl ?_)
      refine r_cons (r_pass rfl rfl rfl rfl rfl ?_)
      refine r_cons (r_pass rfl rfl rfl rfl rfl ?_)
      refine r_cons (r_passN rfl rfl rfl rfl ?_)
      refine r_cons (r_passN rfl rfl rfl rfl ?_)
      refine r_cons (r_passN rfl rfl rfl rfl ?_)
      refine r_cons (r_passN rfl rfl rfl rfl ?_)
      refine r_cons (r_passN rfl rfl rfl rfl ?_)
      refine r_cons (r_passN rfl rfl rfl rfl ?_)
      refine r_cons (r_passN rfl rfl rfl rfl ?_)
      refine r_cons (r_passN rfl rfl rfl rfl ?_)
      refine r_cons (r_passN rfl rfl rfl rfl ?_)
      refine r_cons (r_pass rfl rfl rfl rfl rfl ?_)
      refine r_cons (s_pick_t (.bool true) rfl rfl rfl ?_)
      refine r_nil ?_
      refine g_true rfl ?_
      refine g_seq ?_
      refine g_region ?_
      refine r_cons (s_assign (.int .i64 21) rfl rfl ?_)
      refine r_nil ?_
      refine g_ret' [.int .i64 21] Try.func25 Try.results25 ⟨rfl, trivial⟩ ?_
      have H34 : St W w10 F := (H11.drop 0 rfl)
      have hz594 : (brB d.frm.v) = true := by simpa using hb9
      simp only [timeB, brB, decide_eq_true_eq, decide_eq_false_iff_not] at hz594
      have hz596 : (brB d.to_.v) = false := by simpa using hb12
      simp only [timeB, brB, decide_eq_true_eq, decide_eq_false_iff_not] at hz596
      exact ⟨vint (by exact (dgE_21 (by unfold dgOk; omega)).symm), H34⟩
  · have hb9 := eq_false_of_ne_true hb9
    refine r_cons (r_pass rfl (congrArg some hb9) rfl rfl rfl ?_)
    refine r_cons (r_pass rfl (congrArg some hb9) rfl rfl rfl ?_)
    refine r_cons (r_pass rfl (congrArg some hb9) rfl rfl rfl ?_)
    refine r_cons (s_pick_f (.bool false) (by exact congrArg Value.bool hb9) rfl rfl ?_)
    refine r_cons (s_move (.bool false) rfl rfl ?_)
    refine r_cons (r_pass rfl rfl rfl rfl rfl ?_)
    refine r_cons (r_pass rfl rfl rfl rfl rfl ?_)
    refine r_cons (r_pass rfl rfl rfl rfl rfl ?_)
    refine r_cons (r_pass rfl rfl rfl rfl rfl ?_)
    refine r_cons (r_pass rfl rfl rfl rfl rfl ?_)
    refine r_cons (s_pick_f (.bool false) rfl rfl rfl ?_)
    refine r_cons (s_move (.bool false) rfl rfl ?_)
    refine r_cons (r_pass rfl rfl rfl rfl rfl ?_)
    refine r_cons (r_pass rfl rfl rfl rfl rfl ?_)
    refine r_cons (r_pass rfl rfl rfl rfl rfl ?_)
    refine r_cons (s_pick_f (.bool false) rfl rfl rfl ?_)
    refine r_cons (s_move (.bool false) rfl rfl ?_)
    refine r_cons (r_pass rfl rfl rfl rfl rfl ?_)
    refine r_cons (r_pass rfl rfl rfl rfl rfl ?_)
    refine r_cons (r_pass rfl rfl rfl rfl rfl ?_)
    refine r_cons (s_pick_f (.bool false) rfl rfl rfl ?_)
    refine r_cons (s_move (.bool false) rfl rfl ?_)
    refine r_cons (r_pass rfl rfl rfl rfl rfl ?_)
    refine r_cons (r_pass rfl rfl rfl rfl rfl ?_)
    refine r_cons (r_pass rfl rfl rfl rfl rfl ?_)
    refine r_cons (r_pass rfl rfl rfl rfl rfl ?_)
    refine r_cons (s_pick_f (.bool false) rfl rfl rfl ?_)
    refine r_cons (s_assign (.bool false) rfl rfl ?_)
    refine r_nil ?_
    refine g_seq ?_
    refine g_seq ?_
    refine g_region ?_
    refine r_cons (s_move (.bool false) rfl rfl ?_)
    refine r_cons (s_not false rfl true rfl rfl ?_)
    refine r_cons (s_move (.bool true) rfl rfl ?_)
    refine r_cons (r_pass rfl rfl rfl rfl rfl ?_)
    refine r_cons (r_pass rfl rfl rfl rfl rfl ?_)
    refine r_cons (r_pass rfl rfl rfl rfl rfl ?_)
    refine r_cons (r_pass rfl rfl rfl rfl rfl ?_)
    refine r_cons (r_passN rfl rfl rfl rfl ?_)
    refine r_cons (r_passN rfl rfl rfl rfl ?_)
    refine r_cons (r_passN rfl rfl rfl rfl ?_)
    refine r_cons (r_pass rfl rfl rfl rfl rfl ?_)
    refine r_cons (s_pick_t (.bool true) rfl rfl rfl ?_)
    refine r_cons (s_move (.bool true) rfl rfl ?_)
    refine r_cons (r_pass rfl rfl rfl rfl rfl ?_)
    refine r_cons (r_pass rfl rfl rfl rfl rfl ?_)
    refine r_cons (r_pass rfl rfl rfl rfl rfl ?_)
    refine r_cons (r_pass rfl rfl rfl rfl rfl ?_)
    refine r_cons (r_passN rfl rfl rfl rfl ?_)
    refine r_cons (r_passN rfl rfl rfl rfl ?_)
    refine r_cons (r_passN rfl rfl rfl rfl ?_)
    refine r_cons (r_passN rfl rfl rfl rfl ?_)
    refine r_cons (r_passN rfl rfl rfl rfl ?_)
    refine r_cons (r_passN rfl rfl rfl rfl ?_)
    refine r_cons (r_passN rfl rfl rfl rfl ?_)
    refine r_cons (r_passN rfl rfl rfl rfl ?_)
    refine r_cons (r_passN rfl rfl rfl rfl ?_)
    refine r_cons (r_pass rfl rfl rfl rfl rfl ?_)
    refine r_cons (s_pick_t (.bool true) rfl rfl rfl ?_)
    refine r_nil ?_
    refine g_true rfl ?_
    refine g_seq ?_
    refine g_region ?_
    refine r_cons (s_assign (.int .i64 21) rfl rfl ?_)
    refine r_nil ?_
    refine g_ret' [.int .i64 21] Try.func25 Try.results25 ⟨rfl, trivial⟩ ?_
    have H35 : St W w7 F := (H8.drop 0 rfl)
    have hz668 : (brB d.frm.v) = false := by simpa using hb9
    simp only [timeB, brB, decide_eq_true_eq, decide_eq_false_iff_not] at hz668
    exact ⟨vint (by exact (dgE_21 (by unfold dgOk; omega)).symm), H35⟩
set_option maxHeartbeats 4000000 in
set_option maxRecDepth 100000 in
theorem eyrieref02_Same {W w : World} {F : List Atom} (d e : DgM) (bv_d bv_e : Value) {A_d : Atom} (hA_d : RdA A_d 1 bv_d d.body.length (d.body.flatMap u8c)) {j : Nat} (hj : F[j]? = some A_d) {A_e : Atom} (hA_e : RdA A_e 1 bv_e e.body.length (e.body.flatMap u8c)) {k : Nat} (hk : F[k]? = some A_e) (H : St W w F) : Calls Try.prog 13 #[.agg #[.int .i64 d.frm.v, .int .i64 d.to_.v, .int .i64 d.kind.v, .int .i64 d.seq.v, .int .i64 d.ack.v, bv_d], .agg #[.int .i64 e.frm.v, .int .i64 e.to_.v, .int .i64 e.kind.v, .int .i64 e.seq.v, .int .i64 e.ack.v, bv_e]] w (Ret fun v w' => v = .bool (dgSame d e) ∧ St W w' F) := by
  have hml := (hA_d _ _ _ j H hj).2
  obtain ⟨pp1, cc2, rfl, hn3⟩ := Rd.shape (hA_d _ _ _ j H hj).1
  have hml := (hA_e _ _ _ k H hk).2
  obtain ⟨pp4, cc5, rfl, hn6⟩ := Rd.shape (hA_e _ _ _ k H hk).1
  refine calls_of_go (n := 47) Try.func13 rfl Try.ntmps13 rfl ?_
  refine g_seq ?_
  refine g_region ?_
  refine r_cons (s_box H 24 (.agg #[.int .i64 d.frm.v, .int .i64 d.to_.v, .int .i64 d.kind.v, .int .i64 d.seq.v, .int .i64 d.ack.v, .slice pp1 d.body.length cc2]) rfl (cs := #[.int .i64 d.frm.v, .int .i64 d.to_.v, .int .i64 d.kind.v, .int .i64 d.seq.v, .int .i64 d.ack.v, .slice pp1 d.body.length cc2]) rfl rfl ?_); intro bk7 w8 H9
  refine r_cons (s_box H9 24 (.agg #[.int .i64 e.frm.v, .int .i64 e.to_.v, .int .i64 e.kind.v, .int .i64 e.seq.v, .int .i64 e.ack.v, .slice pp4 e.body.length cc5]) rfl (cs := #[.int .i64 e.frm.v, .int .i64 e.to_.v, .int .i64 e.kind.v, .int .i64 e.seq.v, .int .i64 e.ack.v, .slice pp4 e.body.length cc5]) rfl rfl ?_); intro bk10 w11 H12
  refine r_cons (s_assign (.bool false) rfl rfl ?_)
  refine r_nil ?_
  refine g_seq ?_
  refine g_region ?_
  refine r_cons (s_fieldAddr 24 0 0 0 3 rfl fi_24_0 rfl rfl ?_)
  refine r_cons (s_load (.int .i64 d.frm.v) ag_3 rfl (H12.blk_at (i := 1) rfl) rfl rfl ?_)
  refine r_cons (s_fieldAddr 24 0 0 0 3 rfl fi_24_0 rfl rfl ?_)
  refine r_cons (s_load (.int .i64 e.frm.v) ag_3 rfl (H12.blk_at (i := 0) rfl) rfl rfl ?_)
  by_cases hc13 : d.frm.v = e.frm.v
  · skip
    refine r_cons (s_eql true rfl rfl (dtrue hc13) rfl ?_)
    refine r_cons (s_move (.bool true) rfl rfl ?_)
    refine r_cons (r_take rfl rfl ?_)
    refine s_fieldAddr 24 1 1 1 3 rfl fi_24_1 rfl rfl ?_
    refine r_cons (r_take rfl rfl ?_)
    refine s_load (.int .i64 d.to_.v) ag_3 rfl (H12.blk_at (i := 1) rfl) rfl rfl ?_
    refine r_cons (r_take rfl rfl ?_)
    refine s_fieldAddr 24 1 1 1 3 rfl fi_24_1 rfl rfl ?_
    refine r_cons (r_take rfl rfl ?_)
    refine s_load (.int .i64 e.to_.v) ag_3 rfl (H12.blk_at (i := 0) rfl) rfl rfl ?_
    refine r_cons (r_take rfl rfl ?_)
    by_cases hc14 : d.to_.v = e.to_.v
    · skip
      refine s_eql true rfl rfl (dtrue hc14) rfl ?_
      refine r_cons (s_pick_t (.bool true) rfl rfl rfl ?_)
      refine r_cons (s_move (.bool true) rfl rfl ?_)
      refine r_cons (r_take rfl rfl ?_)
      refine s_fieldAddr 24 2 2 2 3 rfl fi_24_2 rfl rfl ?_
      refine r_cons (r_take rfl rfl ?_)
      refine s_load (.int .i64 d.kind.v) ag_3 rfl (H12.blk_at (i := 1) rfl) rfl rfl ?_
      refine r_cons (r_take rfl rfl ?_)
      refine s_fieldAddr 24 2 2 2 3 rfl fi_24_2 rfl rfl ?_
      refine r_cons (r_take rfl rfl ?_)
      refine s_load (.int .i64 e.kind.v) ag_3 rfl (H12.blk_at (i := 0) rfl) rfl rfl ?_
      refine r_cons (r_take rfl rfl ?_)
      by_cases hc15 : d.kind.v = e.kind.v
      · skip
        refine s_eql true rfl rfl (dtrue hc15) rfl ?_
        refine r_cons (s_pick_t (.bool true) rfl rfl rfl ?_)
        refine r_cons (s_move (.bool true) rfl rfl ?_)
        refine r_cons (r_take rfl rfl ?_)
        refine s_fieldAddr 24 3 3 3 2 rfl fi_24_3 rfl rfl ?_
        refine r_cons (r_take rfl rfl ?_)
        refine s_load (.int .i64 d.seq.v) ag_2 rfl (H12.blk_at (i := 1) rfl) rfl rfl ?_
        refine r_cons (r_take rfl rfl ?_)
        refine s_fieldAddr 24 3 3 3 2 rfl fi_24_3 rfl rfl ?_
        refine r_cons (r_take rfl rfl ?_)
        refine s_load (.int .i64 e.seq.v) ag_2 rfl (H12.blk_at (i := 0) rfl) rfl rfl ?_
        refine r_cons (r_take rfl rfl ?_)
        by_cases hc16 : d.seq.v = e.seq.v
        · skip
          refine s_eql true rfl rfl (dtrue hc16) rfl ?_
          refine r_cons (s_pick_t (.bool true) rfl rfl rfl ?_)
          refine r_cons (s_move (.bool true) rfl rfl ?_)
          refine r_cons (r_take rfl rfl ?_)
          refine s_fieldAddr 24 4 4 4 2 rfl fi_24_4 rfl rfl ?_
          refine r_cons (r_take rfl rfl ?_)
          refine s_load (.int .i64 d.ack.v) ag_2 rfl (H12.blk_at (i := 1) rfl) rfl rfl ?_
          refine r_cons (r_take rfl rfl ?_)
          refine s_fieldAddr 24 4 4 4 2 rfl fi_24_4 rfl rfl ?_
          refine r_cons (r_take rfl rfl ?_)
          refine s_load (.int .i64 e.ack.v) ag_2 rfl (H12.blk_at (i := 0) rfl) rfl rfl ?_
          refine r_cons (r_take rfl rfl ?_)
          by_cases hc17 : d.ack.v = e.ack.v
          · skip
            refine s_eql true rfl rfl (dtrue hc17) rfl ?_
            refine r_cons (s_pick_t (.bool true) rfl rfl rfl ?_)
            refine r_cons (s_move (.bool true) rfl rfl ?_)
            refine r_cons (r_take rfl rfl ?_)
            refine s_fieldAddr 24 5 5 5 22 rfl fi_24_5 rfl rfl ?_
            refine r_cons (r_take rfl rfl ?_)
            refine s_load (.slice pp1 d.body.length cc2) ag_22 rfl (H12.blk_at (i := 1) rfl) rfl rfl ?_
            refine r_cons (r_take rfl rfl ?_)
            refine s_bytes_str (xs := d.body) rfl (by rw [bytesV_flat]; exact (hA_d _ _ _ (j + 2) H12 (by exact hj)).1) un_22 un_5 un_9 rfl ?_
            refine r_cons (r_take rfl rfl ?_)
            refine s_fieldAddr 24 5 5 5 22 rfl fi_24_5 rfl rfl ?_
            refine r_cons (r_take rfl rfl ?_)
            refine s_load (.slice pp4 e.body.length cc5) ag_22 rfl (H12.blk_at (i := 0) rfl) rfl rfl ?_
            refine r_cons (r_take rfl rfl ?_)
            refine s_bytes_str (xs := e.body) rfl (by rw [bytesV_flat]; exact (hA_e _ _ _ (k + 2) H12 (by exact hk)).1) un_22 un_5 un_9 rfl ?_
            refine r_cons (r_take rfl rfl ?_)
            refine s_seql (decide ((⟨(d.body).toArray⟩ : ByteArray) = ⟨(e.body).toArray⟩)) rfl rfl rfl rfl ?_
            refine r_cons (s_pick_t (.bool (decide ((⟨(d.body).toArray⟩ : ByteArray) = ⟨(e.body).toArray⟩))) rfl rfl rfl ?_)
            refine r_cons (s_assign (.bool (decide ((⟨(d.body).toArray⟩ : ByteArray) = ⟨(e.body).toArray⟩))) rfl rfl ?_)
            refine r_nil ?_
            refine g_ret' [.bool (decide ((⟨(d.body).toArray⟩ : ByteArray) = ⟨(e.body).toArray⟩))] Try.func13 Try.results13 ⟨rfl, trivial⟩ ?_
            have H18 : St W w11 F := ((H12.drop 0 rfl).drop 0 rfl)
            exact ⟨congrArg Value.bool (by unfold dgSame; rw [decide_eq_decide]; first | exact ⟨fun q => ⟨by assumption, by assumption, by assumption, by assumption, by assumption, q⟩, fun q => q.2.2.2.2.2⟩ | exact ⟨fun q => ⟨by assumption, by assumption, by assumption, by assumption, by assumption, bodyEq q⟩, fun q => congrArg (fun z : List UInt8 => (⟨z.toArray⟩ : ByteArray)) q.2.2.2.2.2⟩), H18⟩
          · skip
            refine s_eql false rfl rfl (dfalse hc17) rfl ?_
            refine r_cons (s_pick_t (.bool false) rfl rfl rfl ?_)
            refine r_cons (s_move (.bool false) rfl rfl ?_)
            refine r_cons (r_pass rfl rfl rfl rfl rfl ?_)
            refine r_cons (r_pass rfl rfl rfl rfl rfl ?_)
            refine r_cons (r_pass rfl rfl rfl rfl rfl ?_)
            refine r_cons (r_pass rfl rfl rfl rfl rfl ?_)
            refine r_cons (r_pass rfl rfl rfl rfl rfl ?_)
            refine r_cons (r_pass rfl rfl rfl rfl rfl ?_)
            refine r_cons (r_pass rfl rfl rfl rfl rfl ?_)
            refine r_cons (s_pick_f (.bool false) rfl rfl rfl ?_)
            refine r_cons (s_assign (.bool false) rfl rfl ?_)
            refine r_nil ?_
            refine g_ret' [.bool false] Try.func13 Try.results13 ⟨rfl, trivial⟩ ?_
            have H19 : St W w11 F := ((H12.drop 0 rfl).drop 0 rfl)
            exact ⟨congrArg Value.bool (Eq.symm (decide_eq_false (fun ⟨q1, q2, q3, q4, q5, q6⟩ => by first | exact absurd q1 (by assumption) | exact absurd q2 (by assumption) | exact absurd q3 (by assumption) | exact absurd q4 (by assumption) | exact absurd q5 (by assumption)))), H19⟩
        · skip
          refine s_eql false rfl rfl (dfalse hc16) rfl ?_
          refine r_cons (s_pick_t (.bool false) rfl rfl rfl ?_)
          refine r_cons (s_move (.bool false) rfl rfl ?_)
          refine r_cons (r_pass rfl rfl rfl rfl rfl ?_)
          refine r_cons (r_pass rfl rfl rfl rfl rfl ?_)
          refine r_cons (r_pass rfl rfl rfl rfl rfl ?_)
          refine r_cons (r_pass rfl rfl rfl rfl rfl ?_)
          refine r_cons (r_pass rfl rfl rfl rfl rfl ?_)
          refine r_cons (s_pick_f (.bool false) rfl rfl rfl ?_)
          refine r_cons (s_move (.bool false) rfl rfl ?_)
          refine r_cons (r_pass rfl rfl rfl rfl rfl ?_)
          refine r_cons (r_pass rfl rfl rfl rfl rfl ?_)
          refine r_cons (r_pass rfl rfl rfl rfl rfl ?_)
          refine r_cons (r_pass rfl rfl rfl rfl rfl ?_)
          refine r_cons (r_pass rfl rfl rfl rfl rfl ?_)
          refine r_cons (r_pass rfl rfl rfl rfl rfl ?_)
          refine r_cons (r_pass rfl rfl rfl rfl rfl ?_)
          refine r_cons (s_pick_f (.bool false) rfl rfl rfl ?_)
          refine r_cons (s_assign (.bool false) rfl rfl ?_)
          refine r_nil ?_
          refine g_ret' [.bool false] Try.func13 Try.results13 ⟨rfl, trivial⟩ ?_
          have H20 : St W w11 F := ((H12.drop 0 rfl).drop 0 rfl)
          exact ⟨congrArg Value.bool (Eq.symm (decide_eq_false (fun ⟨q1, q2, q3, q4, q5, q6⟩ => by first | exact absurd q1 (by assumption) | exact absurd q2 (by assumption) | exact absurd q3 (by assumption) | exact absurd q4 (by assumption) | exact absurd q5 (by assumption)))), H20⟩
      · skip
        refine s_eql false rfl rfl (dfalse hc15) rfl ?_
        refine r_cons (s_pick_t (.bool false) rfl rfl rfl ?_)
        refine r_cons (s_move (.bool false) rfl rfl ?_)
        refine r_cons (r_pass rfl rfl rfl rfl rfl ?_)
        refine r_cons (r_pass rfl rfl rfl rfl rfl ?_)
        refine r_cons (r_pass rfl rfl rfl rfl rfl ?_)
        refine r_cons (r_pass rfl rfl rfl rfl rfl ?_)
        refine r_cons (r_pass rfl rfl rfl rfl rfl ?_)
        refine r_cons (s_pick_f (.bool false) rfl rfl rfl ?_)
        refine r_cons (s_move (.bool false) rfl rfl ?_)
        refine r_cons (r_pass rfl rfl rfl rfl rfl ?_)
        refine r_cons (r_pass rfl rfl rfl rfl rfl ?_)
        refine r_cons (r_pass rfl rfl rfl rfl rfl ?_)
        refine r_cons (r_pass rfl rfl rfl rfl rfl ?_)
        refine r_cons (r_pass rfl rfl rfl rfl rfl ?_)
        refine r_cons (s_pick_f (.bool false) rfl rfl rfl ?_)
        refine r_cons (s_move (.bool false) rfl rfl ?_)
        refine r_cons (r_pass rfl rfl rfl rfl rfl ?_)
        refine r_cons (r_pass rfl rfl rfl rfl rfl ?_)
        refine r_cons (r_pass rfl rfl rfl rfl rfl ?_)
        refine r_cons (r_pass rfl rfl rfl rfl rfl ?_)
        refine r_cons (r_pass rfl rfl rfl rfl rfl ?_)
        refine r_cons (r_pass rfl rfl rfl rfl rfl ?_)
        refine r_cons (r_pass rfl rfl rfl rfl rfl ?_)
        refine r_cons (s_pick_f (.bool false) rfl rfl rfl ?_)
        refine r_cons (s_assign (.bool false) rfl rfl ?_)
        refine r_nil ?_
        refine g_ret' [.bool false] Try.func13 Try.results13 ⟨rfl, trivial⟩ ?_
        have H21 : St W w11 F := ((H12.drop 0 rfl).drop 0 rfl)
        exact ⟨congrArg Value.bool (Eq.symm (decide_eq_false (fun ⟨q1, q2, q3, q4, q5, q6⟩ => by first | exact absurd q1 (by assumption) | exact absurd q2 (by assumption) | exact absurd q3 (by assumption) | exact absurd q4 (by assumption) | exact absurd q5 (by assumption)))), H21⟩
    · skip
      refine s_eql false rfl rfl (dfalse hc14) rfl ?_
      refine r_cons (s_pick_t (.bool false) rfl rfl rfl ?_)
      refine r_cons (s_move (.bool false) rfl rfl ?_)
      refine r_cons (r_pass rfl rfl rfl rfl rfl ?_)
      refine r_cons (r_pass rfl rfl rfl rfl rfl ?_)
      refine r_cons (r_pass rfl rfl rfl rfl rfl ?_)
      refine r_cons (r_pass rfl rfl rfl rfl rfl ?_)
      refine r_cons (r_pass rfl rfl rfl rfl rfl ?_)
      refine r_cons (s_pick_f (.bool false) rfl rfl rfl ?_)
      refine r_cons (s_move (.bool false) rfl rfl ?_)
      refine r_cons (r_pass rfl rfl rfl rfl rfl ?_)
      refine r_cons (r_pass rfl rfl rfl rfl rfl ?_)
      refine r_cons (r_pass rfl rfl rfl rfl rfl ?_)
      refine r_cons (r_pass rfl rfl rfl rfl rfl ?_)
      refine r_cons (r_pass rfl rfl rfl rfl rfl ?_)
      refine r_cons (s_pick_f (.bool false) rfl rfl rfl ?_)
      refine r_cons (s_move (.bool false) rfl rfl ?_)
      refine r_cons (r_pass rfl rfl rfl rfl rfl ?_)
      refine r_cons (r_pass rfl rfl rfl rfl rfl ?_)
      refine r_cons (r_pass rfl rfl rfl rfl rfl ?_)
      refine r_cons (r_pass rfl rfl rfl rfl rfl ?_)
      refine r_cons (r_pass rfl rfl rfl rfl rfl ?_)
      refine r_cons (s_pick_f (.bool false) rfl rfl rfl ?_)
      refine r_cons (s_move (.bool false) rfl rfl ?_)
      refine r_cons (r_pass rfl rfl rfl rfl rfl ?_)
      refine r_cons (r_pass rfl rfl rfl rfl rfl ?_)
      refine r_cons (r_pass rfl rfl rfl rfl rfl ?_)
      refine r_cons (r_pass rfl rfl rfl rfl rfl ?_)
      refine r_cons (r_pass rfl rfl rfl rfl rfl ?_)
      refine r_cons (r_pass rfl rfl rfl rfl rfl ?_)
      refine r_cons (r_pass rfl rfl rfl rfl rfl ?_)
      refine r_cons (s_pick_f (.bool false) rfl rfl rfl ?_)
      refine r_cons (s_assign (.bool false) rfl rfl ?_)
      refine r_nil ?_
      refine g_ret' [.bool false] Try.func13 Try.results13 ⟨rfl, trivial⟩ ?_
      have H22 : St W w11 F := ((H12.drop 0 rfl).drop 0 rfl)
      exact ⟨congrArg Value.bool (Eq.symm (decide_eq_false (fun ⟨q1, q2, q3, q4, q5, q6⟩ => by first | exact absurd q1 (by assumption) | exact absurd q2 (by assumption) | exact absurd q3 (by assumption) | exact absurd q4 (by assumption) | exact absurd q5 (by assumption)))), H22⟩
  · skip
    refine r_cons (s_eql false rfl rfl (dfalse hc13) rfl ?_)
    refine r_cons (s_move (.bool false) rfl rfl ?_)
    refine r_cons (r_pass rfl rfl rfl rfl rfl ?_)
    refine r_cons (r_pass rfl rfl rfl rfl rfl ?_)
    refine r_cons (r_pass rfl rfl rfl rfl rfl ?_)
    refine r_cons (r_pass rfl rfl rfl rfl rfl ?_)
    refine r_cons (r_pass rfl rfl rfl rfl rfl ?_)
    refine r_cons (s_pick_f (.bool false) rfl rfl rfl ?_)
    refine r_cons (s_move (.bool false) rfl rfl ?_)
    refine r_cons (r_pass rfl rfl rfl rfl rfl ?_)
    refine r_cons (r_pass rfl rfl rfl rfl rfl ?_)
    refine r_cons (r_pass rfl rfl rfl rfl rfl ?_)
    refine r_cons (r_pass rfl rfl rfl rfl rfl ?_)
    refine r_cons (r_pass rfl rfl rfl rfl rfl ?_)
    refine r_cons (s_pick_f (.bool false) rfl rfl rfl ?_)
    refine r_cons (s_move (.bool false) rfl rfl ?_)
    refine r_cons (r_pass rfl rfl rfl rfl rfl ?_)
    refine r_cons (r_pass rfl rfl rfl rfl rfl ?_)
    refine r_cons (r_pass rfl rfl rfl rfl rfl ?_)
    refine r_cons (r_pass rfl rfl rfl rfl rfl ?_)
    refine r_cons (r_pass rfl rfl rfl rfl rfl ?_)
    refine r_cons (s_pick_f (.bool false) rfl rfl rfl ?_)
    refine r_cons (s_move (.bool false) rfl rfl ?_)
    refine r_cons (r_pass rfl rfl rfl rfl rfl ?_)
    refine r_cons (r_pass rfl rfl rfl rfl rfl ?_)
    refine r_cons (r_pass rfl rfl rfl rfl rfl ?_)
    refine r_cons (r_pass rfl rfl rfl rfl rfl ?_)
    refine r_cons (r_pass rfl rfl rfl rfl rfl ?_)
    refine r_cons (s_pick_f (.bool false) rfl rfl rfl ?_)
    refine r_cons (s_move (.bool false) rfl rfl ?_)
    refine r_cons (r_pass rfl rfl rfl rfl rfl ?_)
    refine r_cons (r_pass rfl rfl rfl rfl rfl ?_)
    refine r_cons (r_pass rfl rfl rfl rfl rfl ?_)
    refine r_cons (r_pass rfl rfl rfl rfl rfl ?_)
    refine r_cons (r_pass rfl rfl rfl rfl rfl ?_)
    refine r_cons (r_pass rfl rfl rfl rfl rfl ?_)
    refine r_cons (r_pass rfl rfl rfl rfl rfl ?_)
    refine r_cons (s_pick_f (.bool false) rfl rfl rfl ?_)
    refine r_cons (s_assign (.bool false) rfl rfl ?_)
    refine r_nil ?_
    refine g_ret' [.bool false] Try.func13 Try.results13 ⟨rfl, trivial⟩ ?_
    have H23 : St W w11 F := ((H12.drop 0 rfl).drop 0 rfl)
    exact ⟨congrArg Value.bool (Eq.symm (decide_eq_false (fun ⟨q1, q2, q3, q4, q5, q6⟩ => by first | exact absurd q1 (by assumption) | exact absurd q2 (by assumption) | exact absurd q3 (by assumption) | exact absurd q4 (by assumption) | exact absurd q5 (by assumption)))), H23⟩
set_option maxHeartbeats 4000000 in
set_option maxRecDepth 100000 in
theorem ref02_Sum_im {W w : World} {F : List Atom} (xs : List UInt8) (v0 : Value) {j : Nat} (hj : F[j]? = some (Im 1 v0 xs.length (xs.flatMap u8c))) (H : St W w F) : Calls Try.prog 21 #[v0] w (Ret fun v w' => v = .int .u32 ((sumN xs : Nat) : Int) ∧ St W w' F) := by
  obtain ⟨pA1, cA2, gA3, oA4, kA5, eA6, zA7, rfl, hn8, hp9, hx10, hs11, hml, H12⟩ := Im.open_ H hj
  refine calls_of_go (n := 34) Try.func21 rfl Try.ntmps21 rfl ?_
  refine g_seq ?_
  refine g_region ?_
  refine r_cons (s_assign (.int .u32 0) rfl rfl ?_)
  refine r_nil ?_
  refine g_seq ?_
  refine g_region ?_
  refine r_cons (s_assign (.int .u32 4294967295) rfl rfl ?_)
  refine r_nil ?_
  refine g_seq ?_
  refine g_seq ?_
  refine g_region ?_
  refine r_cons (s_assign (.int .i64 0) rfl rfl ?_)
  refine r_nil ?_
  refine g_block ?_
  have hS0 : 4294967295 < 4294967296 := (by decide)
  refine g_loop_inv (fun (x_ : Nat) => match x_ with | jb13 => [(0, .slice pA1 xs.length cA2), (2, .int .u32 0), (3, .int .u32 ((crcL 4294967295 (xs.take jb13) : Nat) : Int)), (4, .int .i64 (jb13 : Int))]) (fun (x_ : Nat) w => match x_ with | jb13 => (jb13 ≤ xs.length) ∧ St W w (imi (0 < xs.length) gA3 (.cells kA5 eA6 zA7) :: F)) (fun (x_ : Nat) => match x_ with | jb13 => xs.length - jb13) (0) ?_ ?_ ?_
  · exact ⟨by first | rfl | exact vint (by omega), by first | rfl | exact vint (by omega), vint (by rw [List.take_zero, crcL_nil]; rfl), by first | rfl | exact vint (by omega), trivial⟩
  · exact ⟨(by omega), H12⟩
  · rintro jb13 ρ14 w15 ⟨hjb13, H16⟩ nx17
    change Ends _ _ (upds ρ14 [(0, .slice pA1 xs.length cA2), (2, .int .u32 0), (3, .int .u32 ((crcL 4294967295 (xs.take jb13) : Nat) : Int)), (4, .int .i64 (jb13 : Int))]) w15
    have hS := crcL_lt (xs.take jb13) hS0
    have hxb := (xs.getD jb13 0).toNat_lt
    refine g_seq ?_
    refine g_seq ?_
    refine g_region ?_
    refine r_cons (s_move (.int .i64 (jb13 : Int)) rfl rfl ?_)
    refine r_cons (s_move (.slice pA1 xs.length cA2) rfl rfl ?_)
    refine r_cons (s_len xs.length rfl ⟨_, un_22⟩ rfl ?_)
    by_cases hc18 : (jb13 : Int) < (xs.length : Int)
    · skip
      refine r_cons (s_lss true rfl rfl (dtrue hc18) rfl ?_)
      refine r_nil ?_
      refine g_true rfl ?_
      refine g_skip ?_
      refine g_seq ?_
      refine g_block ?_
      refine g_seq ?_
      refine g_region ?_
      refine r_cons (s_move (.int .u32 ((crcL 4294967295 (xs.take jb13) : Nat) : Int)) rfl rfl ?_)
      refine r_cons (s_move (.slice pA1 xs.length cA2) rfl rfl ?_)
      refine r_cons (s_move (.int .i64 (jb13 : Int)) rfl rfl ?_)
      refine r_cons (s_indexAddr gA3 (off := oA4) (jb13 : Int) 1 (oA4 + jb13 * 1) (by exact congrArg (fun z_ => Value.slice z_ xs.length cA2) (hp9 (by omega))) rfl el_22 (by omega) rfl rfl ?_)
      refine r_cons (s_load (.int .u8 ((xs.getD jb13 0).toNat : Int)) ag_5 rfl (H16.imi_at (i := 0) rfl (by omega)) (elem_cell (L := xs) (i := jb13) u8c_len (hx10 (by omega)) (by omega) 0 0 (by decide) _ rfl) rfl ?_)
      refine r_cons (s_conv ((xs.getD jb13 0).toNat : Int) rfl us_5 ik_37 (wu32 (by omega)) rfl ?_)
      refine r_cons (s_shl (((xs.getD jb13 0).toNat * 16777216 : Nat) : Int) rfl rfl (by omega) (crc_shl24 _) rfl ?_)
      refine r_cons (s_xor ((crcX (crcL 4294967295 (xs.take jb13)) (xs.getD jb13 0) : Nat) : Int) rfl rfl (crc_xor _ hS) rfl ?_)
      refine r_cons (s_assign (.int .u32 ((crcX (crcL 4294967295 (xs.take jb13)) (xs.getD jb13 0) : Nat) : Int)) rfl rfl ?_)
      refine r_nil ?_
      refine g_seq ?_
      refine g_region ?_
      refine r_cons (s_assign (.int .i64 0) rfl rfl ?_)
      refine r_nil ?_
      refine g_block ?_
      have hX : crcX (crcL 4294967295 (xs.take jb13)) (xs.getD jb13 0) < 4294967296 := crcX_lt _ hS
      refine g_loop_inv (fun (x_ : Nat) => match x_ with | kb19 => [(0, .slice pA1 xs.length cA2), (2, .int .u32 0), (3, .int .u32 ((crcBits kb19 (crcX (crcL 4294967295 (xs.take jb13)) (xs.getD jb13 0)) : Nat) : Int)), (4, .int .i64 (jb13 : Int)), (5, .int .i64 (kb19 : Int))]) (fun (x_ : Nat) w => match x_ with | kb19 => (kb19 ≤ 8) ∧ St W w (imi (0 < xs.length) gA3 (.cells kA5 eA6 zA7) :: F)) (fun (x_ : Nat) => match x_ with | kb19 => 8 - kb19) (0) ?_ ?_ ?_
      · exact ⟨by first | rfl | exact vint (by omega), by first | rfl | exact vint (by omega), by first | rfl | exact vint (by omega), by first | rfl | exact vint (by omega), by first | rfl | exact vint (by omega), trivial⟩
      · exact ⟨(by omega), H16⟩
      · rintro kb19 ρ20 w21 ⟨hkb19, H22⟩ nx23
        change Ends _ _ (upds ρ20 [(0, .slice pA1 xs.length cA2), (2, .int .u32 0), (3, .int .u32 ((crcBits kb19 (crcX (crcL 4294967295 (xs.take jb13)) (xs.getD jb13 0)) : Nat) : Int)), (4, .int .i64 (jb13 : Int)), (5, .int .i64 (kb19 : Int))]) w21
        have hck := crcBits_lt hX kb19
        refine g_seq ?_
        refine g_seq ?_
        refine g_region ?_
        refine r_cons (s_move (.int .i64 (kb19 : Int)) rfl rfl ?_)
        by_cases hc24 : (kb19 : Int) < 8
        · skip
          refine r_cons (s_lss true rfl rfl (dtrue hc24) rfl ?_)
          refine r_nil ?_
          refine g_true rfl ?_
          refine g_skip ?_
          refine g_seq ?_
          refine g_block ?_
          refine g_seq ?_
          refine g_region ?_
          refine r_cons (s_move (.int .u32 ((crcBits kb19 (crcX (crcL 4294967295 (xs.take jb13)) (xs.getD jb13 0)) : Nat) : Int)) rfl rfl ?_)
          by_cases hc25 : (2147483648 : Int) ≤ ((crcBits kb19 (crcX (crcL 4294967295 (xs.take jb13)) (xs.getD jb13 0)) : Nat) : Int)
          · skip
            refine r_cons (s_geq true rfl rfl (dtrue hc25) rfl ?_)
            refine r_cons (s_assign (.bool true) rfl rfl ?_)
            refine r_nil ?_
            refine g_seq ?_
            refine g_region ?_
            refine r_cons (s_move (.int .u32 ((crcBits kb19 (crcX (crcL 4294967295 (xs.take jb13)) (xs.getD jb13 0)) : Nat) : Int)) rfl rfl ?_)
            refine r_cons (s_mul ((2 * (crcBits kb19 (crcX (crcL 4294967295 (xs.take jb13)) (xs.getD jb13 0))) % 4294967296 : Nat) : Int) rfl rfl (crc_mul2 _) rfl ?_)
            refine r_cons (s_assign (.int .u32 ((2 * (crcBits kb19 (crcX (crcL 4294967295 (xs.take jb13)) (xs.getD jb13 0))) % 4294967296 : Nat) : Int)) rfl rfl ?_)
            refine r_nil ?_
            refine g_seq ?_
            refine g_region ?_
            refine r_cons (s_move (.bool true) rfl rfl ?_)
            refine r_nil ?_
            refine g_true rfl ?_
            refine g_region ?_
            refine r_cons (s_move (.int .u32 ((2 * (crcBits kb19 (crcX (crcL 4294967295 (xs.take jb13)) (xs.getD jb13 0))) % 4294967296 : Nat) : Int)) rfl rfl ?_)
            refine r_cons (s_xor (((2 * (crcBits kb19 (crcX (crcL 4294967295 (xs.take jb13)) (xs.getD jb13 0))) % 4294967296) ^^^ 79764919 : Nat) : Int) rfl rfl (crc_poly (Nat.mod_lt _ (by decide))) rfl ?_)
            refine r_cons (s_assign (.int .u32 (((2 * (crcBits kb19 (crcX (crcL 4294967295 (xs.take jb13)) (xs.getD jb13 0))) % 4294967296) ^^^ 79764919 : Nat) : Int)) rfl rfl ?_)
            refine r_nil ?_
            refine g_inBlock ?_
            refine g_region ?_
            refine r_cons (s_move (.int .i64 (kb19 : Int)) rfl rfl ?_)
            refine r_cons (s_add ((kb19 : Int) + 1) rfl rfl (wi64 (by omega)) rfl ?_)
            refine r_cons (s_assign (.int .i64 ((kb19 : Int) + 1)) rfl rfl ?_)
            refine r_nil ?_
            exact nx23 (kb19 + 1) _ _ ⟨(by omega), H22⟩ (by first | (dsimp only; omega) | omega) ⟨by first | rfl | exact vint (by omega), by first | rfl | exact vint (by omega), vint (by rw [show crcBits (kb19 + 1) (crcX (crcL 4294967295 (xs.take jb13)) (xs.getD jb13 0)) = crcBit (crcBits kb19 (crcX (crcL 4294967295 (xs.take jb13)) (xs.getD jb13 0))) from rfl]; first | rw [crcBit_hi (by omega)] | rw [crcBit_lo (by omega)]), by first | rfl | exact vint (by omega), by first | rfl | exact vint (by omega), trivial⟩
          · skip
            refine r_cons (s_geq false rfl rfl (dfalse hc25) rfl ?_)
            refine r_cons (s_assign (.bool false) rfl rfl ?_)
            refine r_nil ?_
            refine g_seq ?_
            refine g_region ?_
            refine r_cons (s_move (.int .u32 ((crcBits kb19 (crcX (crcL 4294967295 (xs.take jb13)) (xs.getD jb13 0)) : Nat) : Int)) rfl rfl ?_)
            refine r_cons (s_mul ((2 * (crcBits kb19 (crcX (crcL 4294967295 (xs.take jb13)) (xs.getD jb13 0))) % 4294967296 : Nat) : Int) rfl rfl (crc_mul2 _) rfl ?_)
            refine r_cons (s_assign (.int .u32 ((2 * (crcBits kb19 (crcX (crcL 4294967295 (xs.take jb13)) (xs.getD jb13 0))) % 4294967296 : Nat) : Int)) rfl rfl ?_)
            refine r_nil ?_
            refine g_seq ?_
            refine g_region ?_
            refine r_cons (s_move (.bool false) rfl rfl ?_)
            refine r_nil ?_
            refine g_false rfl ?_
            refine g_skip ?_
            refine g_inBlock ?_
            refine g_region ?_
            refine r_cons (s_move (.int .i64 (kb19 : Int)) rfl rfl ?_)
            refine r_cons (s_add ((kb19 : Int) + 1) rfl rfl (wi64 (by omega)) rfl ?_)
            refine r_cons (s_assign (.int .i64 ((kb19 : Int) + 1)) rfl rfl ?_)
            refine r_nil ?_
            exact nx23 (kb19 + 1) _ _ ⟨(by omega), H22⟩ (by first | (dsimp only; omega) | omega) ⟨by first | rfl | exact vint (by omega), by first | rfl | exact vint (by omega), vint (by rw [show crcBits (kb19 + 1) (crcX (crcL 4294967295 (xs.take jb13)) (xs.getD jb13 0)) = crcBit (crcBits kb19 (crcX (crcL 4294967295 (xs.take jb13)) (xs.getD jb13 0))) from rfl]; first | rw [crcBit_hi (by omega)] | rw [crcBit_lo (by omega)]), by first | rfl | exact vint (by omega), by first | rfl | exact vint (by omega), trivial⟩
        · skip
          refine r_cons (s_lss false rfl rfl (dfalse hc24) rfl ?_)
          refine r_nil ?_
          refine g_false rfl ?_
          refine g_exit (by rfl) ?_
          refine g_inBlock ?_
          refine g_region ?_
          refine r_cons (s_move (.int .i64 (jb13 : Int)) rfl rfl ?_)
          refine r_cons (s_add ((jb13 : Int) + 1) rfl rfl (wi64 (by omega)) rfl ?_)
          refine r_cons (s_assign (.int .i64 ((jb13 : Int) + 1)) rfl rfl ?_)
          refine r_nil ?_
          have H26 : St W w21 (imi (0 < xs.length) gA3 (.cells kA5 eA6 zA7) :: F) := H22
          exact nx17 (jb13 + 1) _ _ ⟨(by omega), H26⟩ (by first | (dsimp only; omega) | omega) ⟨by first | rfl | exact vint (by omega), by first | rfl | exact vint (by omega), vint (by rw [crcL_take (by omega)]; unfold crcByte; rw [show kb19 = 8 from by omega]), by first | rfl | exact vint (by omega), trivial⟩
    · skip
      refine r_cons (s_lss false rfl rfl (dfalse hc18) rfl ?_)
      refine r_nil ?_
      refine g_false rfl ?_
      refine g_exit (by rfl) ?_
      refine g_seq ?_
      refine g_region ?_
      refine r_cons (s_move (.int .u32 ((crcL 4294967295 (xs.take jb13) : Nat) : Int)) rfl rfl ?_)
      refine r_cons (s_compl (((crcL 4294967295 (xs.take jb13)) ^^^ 4294967295 : Nat) : Int) rfl (crc_not hS) rfl ?_)
      refine r_cons (s_assign (.int .u32 (((crcL 4294967295 (xs.take jb13)) ^^^ 4294967295 : Nat) : Int)) rfl rfl ?_)
      refine r_nil ?_
      refine g_ret' [.int .u32 (((crcL 4294967295 (xs.take jb13)) ^^^ 4294967295 : Nat) : Int)] Try.func21 Try.results21 ⟨rfl, trivial⟩ ?_
      obtain rfl : jb13 = xs.length := by omega
      have H27 : St W w15 F := (H16.drop 0 rfl)
      exact ⟨vint (by simp only [List.take_length]; rfl), H27⟩
set_option maxHeartbeats 4000000 in
set_option maxRecDepth 100000 in
theorem Sum1_im {W w : World} {F : List Atom} (b : Nat) (xs : List UInt8) (v0 : Value) {j : Nat} (hj : F[j]? = some (Im 1 v0 xs.length (xs.flatMap u8c))) {i : Nat} (hi : F[i]? = some (blk b (.cells #[v0] 22 (0, 0)))) (H : St W w F) : Calls Try.prog 20 #[.slice (some ⟨b, 0, none⟩) 1 1] w (Ret fun v w' => v = .int .u32 ((sumN xs : Nat) : Int) ∧ St W w' F) := by
  have H0 := H.front hi
  obtain ⟨pA1, cA2, gA3, oA4, kA5, eA6, zA7, rfl, hn8, hp9, hx10, hs11, hml, H12⟩ := Im.open_ H hj
  have H0 := H12.front (i := i + 1) (by exact hi)
  refine calls_of_go (n := 41) Try.func20 rfl Try.ntmps20 rfl ?_
  refine g_seq ?_
  refine g_region ?_
  refine r_cons (s_assign (.int .u32 0) rfl rfl ?_)
  refine r_nil ?_
  refine g_seq ?_
  refine g_region ?_
  refine r_cons (s_assign (.int .u32 4294967295) rfl rfl ?_)
  refine r_nil ?_
  refine g_seq ?_
  refine g_seq ?_
  refine g_region ?_
  refine r_cons (s_move (.slice (some ⟨b, 0, none⟩) 1 1) rfl rfl ?_)
  refine r_cons (s_len 1 rfl ⟨_, un_64⟩ rfl ?_)
  refine r_cons (s_move (.int .i64 0) rfl rfl ?_)
  refine r_nil ?_
  refine g_block ?_
  refine g_loop ?_
  refine g_seq ?_
  refine g_region ?_
  refine r_cons (s_lss true rfl rfl (dtrue (by decide)) rfl ?_)
  refine r_nil ?_
  refine g_seq ?_
  refine g_true rfl ?_
  refine g_skip ?_
  refine g_seq ?_
  refine g_block ?_
  refine g_seq ?_
  refine g_region ?_
  refine r_cons (s_indexAddr b 0 1 0 rfl rfl el_64 (by omega) rfl rfl ?_)
  refine r_cons (s_load (.slice pA1 xs.length cA2) ag_22 rfl (H0.blk_at (i := 0) rfl) rfl rfl ?_)
  refine r_cons (s_assign (.slice pA1 xs.length cA2) rfl rfl ?_)
  refine r_nil ?_
  refine g_seq ?_
  refine g_region ?_
  refine r_cons (s_move (.slice pA1 xs.length cA2) rfl rfl ?_)
  refine r_cons (s_len xs.length rfl ⟨_, un_22⟩ rfl ?_)
  refine r_cons (s_move (.int .i64 0) rfl rfl ?_)
  refine r_nil ?_
  refine g_block ?_
  have hS0 : 4294967295 < 4294967296 := (by decide)
  refine g_loop_inv (fun (x_ : Nat) => match x_ with | jb13 => [(2, .int .u32 0), (3, .int .u32 ((crcL 4294967295 (xs.take jb13) : Nat) : Int)), (9, .slice (some ⟨b, 0, none⟩) 1 1), (10, .int .i64 1), (11, .int .i64 0), (15, .slice pA1 xs.length cA2), (16, .int .i64 (xs.length : Int)), (17, .int .i64 (jb13 : Int))]) (fun (x_ : Nat) w => match x_ with | jb13 => (jb13 ≤ xs.length) ∧ St W w (blk b (.cells #[.slice pA1 xs.length cA2] 22 (0, 0)) :: imi (0 < xs.length) gA3 (.cells kA5 eA6 zA7) :: (F.set i emp))) (fun (x_ : Nat) => match x_ with | jb13 => xs.length - jb13) (0) ?_ ?_ ?_
  · exact ⟨by first | rfl | exact vint (by omega), vint (by rw [List.take_zero, crcL_nil]; rfl), by first | rfl | exact vint (by omega), by first | rfl | exact vint (by omega), by first | rfl | exact vint (by omega), by first | rfl | exact vint (by omega), by first | rfl | exact vint (by omega), by first | rfl | exact vint (by omega), trivial⟩
  · exact ⟨(by omega), H0⟩
  · rintro jb13 ρ14 w15 ⟨hjb13, H16⟩ nx17
    change Ends _ _ (upds ρ14 [(2, .int .u32 0), (3, .int .u32 ((crcL 4294967295 (xs.take jb13) : Nat) : Int)), (9, .slice (some ⟨b, 0, none⟩) 1 1), (10, .int .i64 1), (11, .int .i64 0), (15, .slice pA1 xs.length cA2), (16, .int .i64 (xs.length : Int)), (17, .int .i64 (jb13 : Int))]) w15
    have hS := crcL_lt (xs.take jb13) hS0
    have hxb := (xs.getD jb13 0).toNat_lt
    refine g_seq ?_
    refine g_region ?_
    by_cases hc18 : (jb13 : Int) < (xs.length : Int)
    · skip
      refine r_cons (s_lss true rfl rfl (dtrue hc18) rfl ?_)
      refine r_nil ?_
      refine g_seq ?_
      refine g_true rfl ?_
      refine g_skip ?_
      refine g_seq ?_
      refine g_block ?_
      refine g_seq ?_
      refine g_region ?_
      refine r_cons (s_indexAddr gA3 (off := oA4) (jb13 : Int) 1 (oA4 + jb13 * 1) (by exact congrArg (fun z_ => Value.slice z_ xs.length cA2) (hp9 (by omega))) rfl el_22 (by omega) rfl rfl ?_)
      refine r_cons (s_load (.int .u8 ((xs.getD jb13 0).toNat : Int)) ag_5 rfl (H16.imi_at (i := 1) rfl (by omega)) (elem_cell (L := xs) (i := jb13) u8c_len (hx10 (by omega)) (by omega) 0 0 (by decide) _ rfl) rfl ?_)
      refine r_cons (s_assign (.int .u8 ((xs.getD jb13 0).toNat : Int)) rfl rfl ?_)
      refine r_nil ?_
      refine g_seq ?_
      refine g_region ?_
      refine r_cons (s_move (.int .u32 ((crcL 4294967295 (xs.take jb13) : Nat) : Int)) rfl rfl ?_)
      refine r_cons (s_move (.int .u8 ((xs.getD jb13 0).toNat : Int)) rfl rfl ?_)
      refine r_cons (s_conv ((xs.getD jb13 0).toNat : Int) rfl us_5 ik_37 (wu32 (by omega)) rfl ?_)
      refine r_cons (s_shl (((xs.getD jb13 0).toNat * 16777216 : Nat) : Int) rfl rfl (by omega) (crc_shl24 _) rfl ?_)
      refine r_cons (s_xor ((crcX (crcL 4294967295 (xs.take jb13)) (xs.getD jb13 0) : Nat) : Int) rfl rfl (crc_xor _ hS) rfl ?_)
      refine r_cons (s_assign (.int .u32 ((crcX (crcL 4294967295 (xs.take jb13)) (xs.getD jb13 0) : Nat) : Int)) rfl rfl ?_)
      refine r_nil ?_
      refine g_seq ?_
      refine g_region ?_
      refine r_cons (s_move (.int .i64 0) rfl rfl ?_)
      refine r_nil ?_
      refine g_block ?_
      have hX : crcX (crcL 4294967295 (xs.take jb13)) (xs.getD jb13 0) < 4294967296 := crcX_lt _ hS
      refine g_loop_inv (fun (x_ : Nat) => match x_ with | kb19 => [(2, .int .u32 0), (3, .int .u32 ((crcBits kb19 (crcX (crcL 4294967295 (xs.take jb13)) (xs.getD jb13 0)) : Nat) : Int)), (9, .slice (some ⟨b, 0, none⟩) 1 1), (10, .int .i64 1), (11, .int .i64 0), (15, .slice pA1 xs.length cA2), (16, .int .i64 (xs.length : Int)), (17, .int .i64 (jb13 : Int)), (26, .int .i64 (kb19 : Int))]) (fun (x_ : Nat) w => match x_ with | kb19 => (kb19 ≤ 8) ∧ St W w (blk b (.cells #[.slice pA1 xs.length cA2] 22 (0, 0)) :: imi (0 < xs.length) gA3 (.cells kA5 eA6 zA7) :: (F.set i emp))) (fun (x_ : Nat) => match x_ with | kb19 => 8 - kb19) (0) ?_ ?_ ?_
      · exact ⟨by first | rfl | exact vint (by omega), by first | rfl | exact vint (by omega), by first | rfl | exact vint (by omega), by first | rfl | exact vint (by omega), by first | rfl | exact vint (by omega), by first | rfl | exact vint (by omega), by first | rfl | exact vint (by omega), by first | rfl | exact vint (by omega), by first | rfl | exact vint (by omega), trivial⟩
      · exact ⟨(by omega), H16⟩
      · rintro kb19 ρ20 w21 ⟨hkb19, H22⟩ nx23
        change Ends _ _ (upds ρ20 [(2, .int .u32 0), (3, .int .u32 ((crcBits kb19 (crcX (crcL 4294967295 (xs.take jb13)) (xs.getD jb13 0)) : Nat) : Int)), (9, .slice (some ⟨b, 0, none⟩) 1 1), (10, .int .i64 1), (11, .int .i64 0), (15, .slice pA1 xs.length cA2), (16, .int .i64 (xs.length : Int)), (17, .int .i64 (jb13 : Int)), (26, .int .i64 (kb19 : Int))]) w21
        have hck := crcBits_lt hX kb19
        refine g_seq ?_
        refine g_region ?_
        by_cases hc24 : (kb19 : Int) < 8
        · skip
          refine r_cons (s_lss true rfl rfl (dtrue hc24) rfl ?_)
          refine r_nil ?_
          refine g_seq ?_
          refine g_true rfl ?_
          refine g_skip ?_
          refine g_seq ?_
          refine g_block ?_
          refine g_seq ?_
          refine g_region ?_
          refine r_cons (s_move (.int .u32 ((crcBits kb19 (crcX (crcL 4294967295 (xs.take jb13)) (xs.getD jb13 0)) : Nat) : Int)) rfl rfl ?_)
          refine r_cons (s_shr (((crcBits kb19 (crcX (crcL 4294967295 (xs.take jb13)) (xs.getD jb13 0))) / 2 ^ 31 : Nat) : Int) rfl rfl (by omega) (shr_nat (k := 31) rfl (by decide)) rfl ?_)
          refine r_cons (s_assign (.int .u32 (((crcBits kb19 (crcX (crcL 4294967295 (xs.take jb13)) (xs.getD jb13 0))) / 2 ^ 31 : Nat) : Int)) rfl rfl ?_)
          refine r_nil ?_
          refine g_seq ?_
          refine g_region ?_
          refine r_cons (s_move (.int .u32 ((crcBits kb19 (crcX (crcL 4294967295 (xs.take jb13)) (xs.getD jb13 0)) : Nat) : Int)) rfl rfl ?_)
          refine r_cons (s_shl ((2 * (crcBits kb19 (crcX (crcL 4294967295 (xs.take jb13)) (xs.getD jb13 0))) % 4294967296 : Nat) : Int) rfl rfl (by omega) (crc_shl1 _) rfl ?_)
          refine r_cons (s_assign (.int .u32 ((2 * (crcBits kb19 (crcX (crcL 4294967295 (xs.take jb13)) (xs.getD jb13 0))) % 4294967296 : Nat) : Int)) rfl rfl ?_)
          refine r_nil ?_
          refine g_seq ?_
          refine g_region ?_
          refine r_cons (s_move (.int .u32 (((crcBits kb19 (crcX (crcL 4294967295 (xs.take jb13)) (xs.getD jb13 0))) / 2 ^ 31 : Nat) : Int)) rfl rfl ?_)
          by_cases hc25 : (((crcBits kb19 (crcX (crcL 4294967295 (xs.take jb13)) (xs.getD jb13 0))) / 2 ^ 31 : Nat) : Int) = 1
          · skip
            refine r_cons (s_eql true rfl rfl (dtrue hc25) rfl ?_)
            refine r_nil ?_
            refine g_true rfl ?_
            refine g_region ?_
            refine r_cons (s_move (.int .u32 ((2 * (crcBits kb19 (crcX (crcL 4294967295 (xs.take jb13)) (xs.getD jb13 0))) % 4294967296 : Nat) : Int)) rfl rfl ?_)
            refine r_cons (s_xor (((2 * (crcBits kb19 (crcX (crcL 4294967295 (xs.take jb13)) (xs.getD jb13 0))) % 4294967296) ^^^ 79764919 : Nat) : Int) rfl rfl (crc_poly (Nat.mod_lt _ (by decide))) rfl ?_)
            refine r_cons (s_assign (.int .u32 (((2 * (crcBits kb19 (crcX (crcL 4294967295 (xs.take jb13)) (xs.getD jb13 0))) % 4294967296) ^^^ 79764919 : Nat) : Int)) rfl rfl ?_)
            refine r_nil ?_
            refine g_inBlock ?_
            refine g_region ?_
            refine r_cons (s_add ((kb19 : Int) + 1) rfl rfl (wi64 (by omega)) rfl ?_)
            refine r_cons (s_move (.int .i64 ((kb19 : Int) + 1)) rfl rfl ?_)
            refine r_nil ?_
            exact nx23 (kb19 + 1) _ _ ⟨(by omega), H22⟩ (by first | (dsimp only; omega) | omega) ⟨by first | rfl | exact vint (by omega), vint (by rw [show crcBits (kb19 + 1) (crcX (crcL 4294967295 (xs.take jb13)) (xs.getD jb13 0)) = crcBit (crcBits kb19 (crcX (crcL 4294967295 (xs.take jb13)) (xs.getD jb13 0))) from rfl]; first | rw [crcBit_hi (by omega)] | rw [crcBit_lo (by omega)]), by first | rfl | exact vint (by omega), by first | rfl | exact vint (by omega), by first | rfl | exact vint (by omega), by first | rfl | exact vint (by omega), by first | rfl | exact vint (by omega), by first | rfl | exact vint (by omega), by first | rfl | exact vint (by omega), trivial⟩
          · skip
            refine r_cons (s_eql false rfl rfl (dfalse hc25) rfl ?_)
            refine r_nil ?_
            refine g_false rfl ?_
            refine g_skip ?_
            refine g_inBlock ?_
            refine g_region ?_
            refine r_cons (s_add ((kb19 : Int) + 1) rfl rfl (wi64 (by omega)) rfl ?_)
            refine r_cons (s_move (.int .i64 ((kb19 : Int) + 1)) rfl rfl ?_)
            refine r_nil ?_
            exact nx23 (kb19 + 1) _ _ ⟨(by omega), H22⟩ (by first | (dsimp only; omega) | omega) ⟨by first | rfl | exact vint (by omega), vint (by rw [show crcBits (kb19 + 1) (crcX (crcL 4294967295 (xs.take jb13)) (xs.getD jb13 0)) = crcBit (crcBits kb19 (crcX (crcL 4294967295 (xs.take jb13)) (xs.getD jb13 0))) from rfl]; first | rw [crcBit_hi (by omega)] | rw [crcBit_lo (by omega)]), by first | rfl | exact vint (by omega), by first | rfl | exact vint (by omega), by first | rfl | exact vint (by omega), by first | rfl | exact vint (by omega), by first | rfl | exact vint (by omega), by first | rfl | exact vint (by omega), by first | rfl | exact vint (by omega), trivial⟩
        · skip
          refine r_cons (s_lss false rfl rfl (dfalse hc24) rfl ?_)
          refine r_nil ?_
          refine g_seq ?_
          refine g_false rfl ?_
          refine g_exit (by rfl) ?_
          refine g_inBlock ?_
          refine g_region ?_
          refine r_cons (s_add ((jb13 : Int) + 1) rfl rfl (wi64 (by omega)) rfl ?_)
          refine r_cons (s_move (.int .i64 ((jb13 : Int) + 1)) rfl rfl ?_)
          refine r_nil ?_
          have H26 : St W w21 (blk b (.cells #[.slice pA1 xs.length cA2] 22 (0, 0)) :: imi (0 < xs.length) gA3 (.cells kA5 eA6 zA7) :: (F.set i emp)) := ((H22.move 1 rfl).move 1 rfl)
          exact nx17 (jb13 + 1) _ _ ⟨(by omega), H26⟩ (by first | (dsimp only; omega) | omega) ⟨by first | rfl | exact vint (by omega), vint (by rw [crcL_take (by omega)]; unfold crcByte; rw [show kb19 = 8 from by omega]), by first | rfl | exact vint (by omega), by first | rfl | exact vint (by omega), by first | rfl | exact vint (by omega), by first | rfl | exact vint (by omega), by first | rfl | exact vint (by omega), by first | rfl | exact vint (by omega), trivial⟩
    · skip
      refine r_cons (s_lss false rfl rfl (dfalse hc18) rfl ?_)
      refine r_nil ?_
      refine g_seq ?_
      refine g_false rfl ?_
      refine g_exit (by rfl) ?_
      refine g_inBlock ?_
      refine g_region ?_
      refine r_cons (s_add 1 rfl rfl (wi64 (by omega)) rfl ?_)
      refine r_cons (s_move (.int .i64 1) rfl rfl ?_)
      refine r_nil ?_
      refine g_inLoop ?_
      refine g_seq ?_
      refine g_region ?_
      refine r_cons (s_lss false rfl rfl (dfalse (by decide)) rfl ?_)
      refine r_nil ?_
      refine g_seq ?_
      refine g_false rfl ?_
      refine g_exit (by rfl) ?_
      refine g_seq ?_
      refine g_region ?_
      refine r_cons (s_move (.int .u32 ((crcL 4294967295 (xs.take jb13) : Nat) : Int)) rfl rfl ?_)
      refine r_cons (s_compl (((crcL 4294967295 (xs.take jb13)) ^^^ 4294967295 : Nat) : Int) rfl (crc_not hS) rfl ?_)
      refine r_cons (s_assign (.int .u32 (((crcL 4294967295 (xs.take jb13)) ^^^ 4294967295 : Nat) : Int)) rfl rfl ?_)
      refine r_nil ?_
      refine g_ret' [.int .u32 (((crcL 4294967295 (xs.take jb13)) ^^^ 4294967295 : Nat) : Int)] Try.func20 Try.results20 ⟨rfl, trivial⟩ ?_
      obtain rfl : jb13 = xs.length := by omega
      have H27 : St W w15 (blk b (.cells #[.slice pA1 xs.length cA2] 22 (0, 0)) :: (F.set i emp)) := (H16.drop 1 rfl)
      exact ⟨vint (by simp only [List.take_length]; rfl), St.back_same hi H27⟩
end Sl
