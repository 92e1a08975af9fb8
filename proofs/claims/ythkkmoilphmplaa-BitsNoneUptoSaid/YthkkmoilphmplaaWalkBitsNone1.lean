/- Walks of the program's functions. Printed by a program of this claim's author. No condition. -/
import Derived.Test.YthkkmoilphmplaaSlQ
import Derived.Test.YthkkmoilphmplaaSlL
import Derived.Test.YthkkmoilphmplaaSlP
import Derived.Test.YthkkmoilphmplaaProg
import Derived.Test.YthkkmoilphmplaaWalkBitsNone0
namespace Sl
open _root_.Go _root_.Go.RowKit _root_.Go.Proofs
set_option linter.all false
set_option maxHeartbeats 4000000 in
set_option maxRecDepth 100000 in
theorem RSrc_Nat {W w : World} {F : List Atom} (b : Nat) (R : List Bool) {i : Nat} (hi : F[i]? = some (RSrc b R)) (H : St W w F) : Calls Try.prog 41 #[.pointer (some ⟨b, 0, none⟩)] w (Ret fun v w' => v = .tuple #[.int .u64 (natU R : Int), .int .i64 (natE R)] ∧ St W w' (F.set i (RSrc b (R.drop (natN R))))) := by
  have H0 := H.front hi
  refine calls_of_go (n := 75) Try.func41 rfl Try.ntmps41 rfl ?_
  refine g_seq ?_
  refine g_region ?_
  refine r_cons (s_assign (.int .u64 0) rfl rfl ?_)
  refine r_cons (s_assign (.int .i64 0) rfl rfl ?_)
  refine r_nil ?_
  refine g_seq ?_
  refine g_region ?_
  refine r_cons (s_assign (.int .i64 0) rfl rfl ?_)
  refine r_nil ?_
  refine g_seq ?_
  refine g_block ?_
  have H1 : St W w (RSrc b R :: (F.set i emp)) := H0
  refine g_loop_inv (fun (x : Nat) => match x with | k => [(0, .pointer (some ⟨b, 0, none⟩)), (2, .int .u64 0), (3, .int .i64 0), (4, .int .i64 (k : Int))]) (fun (x : Nat) w => match x with | k => (k ≤ 65) ∧ (k ≤ R.length) ∧ (∀ j, j < k → R.getD j false = false) ∧ St W w (RSrc b R :: (F.set i emp))) (fun (x : Nat) => match x with | k => 65 - k) (0) ?_ ?_ ?_
  · exact ⟨by first | rfl | exact vint (by omega), by first | rfl | exact vint (by omega), by first | rfl | exact vint (by omega), by first | rfl | exact vint (by omega), trivial⟩
  · exact ⟨(by omega), (by omega), (fun j hj => by omega), H1⟩
  · rintro k ρ2 w3 ⟨hk, hkr, hz, H4⟩ nx5
    change Ends _ _ (upds ρ2 [(0, .pointer (some ⟨b, 0, none⟩)), (2, .int .u64 0), (3, .int .i64 0), (4, .int .i64 (k : Int))]) w3
    refine g_seq ?_
    refine g_seq ?_
    refine g_region ?_
    refine r_cons (s_move (.int .i64 (k : Int)) rfl rfl ?_)
    refine r_cons (s_move (.pointer (some ⟨b, 0, none⟩)) rfl rfl ?_)
    refine r_cons (s_nilCheck (.pointer (some ⟨b, 0, none⟩)) rfl ⟨_, rfl⟩ rfl ?_)
    refine r_cons (s_fieldAddr 43 0 0 0 23 rfl fi_43_0 rfl rfl ?_)
    have H6 := H4.move 0 rfl
    obtain ⟨vv7, H8⟩ := St.open_ex H6
    have H9 := St.open_star H8
    obtain ⟨pp10, cc11, gA12, oA13, kA14, eA15, zA16, rfl, hn17, hp18, hx19, hs20, hml, H21⟩ := Im.open_ H9 (i := 1) rfl
    have H22 : St W w3 (imi (0 < R.length) gA12 (.cells kA14 eA15 zA16) :: blk b (.cells #[.slice pp10 R.length cc11] 43 (0, 0)) :: Im 1 (.slice pp10 R.length cc11) R.length (R.flatMap blc) :: (F.set i emp)) := H21
    refine r_cons (s_load (.slice pp10 R.length cc11) ag_23 rfl (H22.blk_at (i := 1) rfl) rfl rfl ?_)
    refine r_cons (s_len R.length rfl ⟨_, un_23⟩ rfl ?_)
    by_cases hc23 : (k : Int) < (R.length : Int)
    · skip
      refine r_cons (s_lss true rfl rfl (dtrue hc23) rfl ?_)
      refine r_cons (s_move (.bool true) rfl rfl ?_)
      refine r_cons (r_take rfl rfl ?_)
      refine s_move (.int .i64 (k : Int)) rfl rfl ?_
      refine r_cons (r_take rfl rfl ?_)
      by_cases hc24 : (k : Int) < 65
      · skip
        refine s_lss true rfl rfl (dtrue hc24) rfl ?_
        refine r_cons (s_pick_t (.bool true) rfl rfl rfl ?_)
        refine r_cons (s_move (.bool true) rfl rfl ?_)
        refine r_cons (r_take rfl rfl ?_)
        refine s_move (.pointer (some ⟨b, 0, none⟩)) rfl rfl ?_
        refine r_cons (r_take rfl rfl ?_)
        refine s_nilCheck (.pointer (some ⟨b, 0, none⟩)) rfl ⟨_, rfl⟩ rfl ?_
        refine r_cons (r_take rfl rfl ?_)
        refine s_fieldAddr 43 0 0 0 23 rfl fi_43_0 rfl rfl ?_
        refine r_cons (r_take rfl rfl ?_)
        refine s_load (.slice pp10 R.length cc11) ag_23 rfl (H22.blk_at (i := 1) rfl) rfl rfl ?_
        refine r_cons (r_take rfl rfl ?_)
        refine s_move (.int .i64 (k : Int)) rfl rfl ?_
        refine r_cons (r_take rfl rfl ?_)
        refine s_indexAddr gA12 (off := oA13) (k : Int) 1 (oA13 + k * 1) (by exact congrArg (fun z_ => Value.slice z_ R.length cc11) (hp18 (by omega))) rfl el_23 (by omega) rfl rfl ?_
        refine r_cons (r_take rfl rfl ?_)
        refine s_load (.bool (R.getD k false)) ag_4 rfl (H22.imi_at (i := 0) rfl (by omega)) (elem_cell blc_len (hx19 (by omega)) (by omega) false 0 (by decide) _ rfl) rfl ?_
        refine r_cons (r_take rfl rfl ?_)
        refine s_not (R.getD k false) rfl (!(R.getD k false)) rfl rfl ?_
        refine r_cons (s_pick_t (.bool (!(R.getD k false))) rfl rfl rfl ?_)
        refine r_nil ?_
        by_cases hb25 : (!(R.getD k false)) = true
        · skip
          refine g_true (congrArg Value.bool hb25) ?_
          refine g_skip ?_
          refine g_block ?_
          refine g_region ?_
          refine r_cons (s_move (.int .i64 (k : Int)) rfl rfl ?_)
          refine r_cons (s_add ((k : Int) + 1) rfl rfl (wi64 (by omega)) rfl ?_)
          refine r_cons (s_assign (.int .i64 ((k : Int) + 1)) rfl rfl ?_)
          refine r_nil ?_
          refine g_inBlock ?_
          have H26 : St W w3 (blk b (.cells #[.slice pp10 R.length cc11] 43 (0, 0)) :: Im 1 (.slice pp10 R.length cc11) R.length (R.flatMap blc) :: (F.set i emp)) := (((H22.move 2 rfl).move 2 rfl).drop 2 rfl)
          have H27 : St W w3 (RSrc b R :: (F.set i emp)) := St.shut_ex (.slice pp10 R.length cc11) (St.shut_star (ls := [blk b (.cells #[.slice pp10 R.length cc11] 43 (0, 0)), Im 1 (.slice pp10 R.length cc11) R.length (R.flatMap blc)]) H26)
          have H28 : St W w3 (RSrc b R :: (F.set i emp)) := H27
          exact nx5 (k + 1) _ _ ⟨(by omega), (by omega), (fun j hj => (Nat.lt_or_ge j k).elim (hz j) (fun h => by rw [show j = k from by omega]; simpa using hb25)), H28⟩ (by first | (dsimp only; omega) | omega) ⟨by first | rfl | exact vint (by omega), by first | rfl | exact vint (by omega), by first | rfl | exact vint (by omega), by first | rfl | exact vint (by omega), trivial⟩
        · have hb25 := eq_false_of_ne_true hb25
          refine g_false (congrArg Value.bool hb25) ?_
          refine g_exit (by rfl) ?_
          refine g_seq ?_
          refine g_seq ?_
          refine g_region ?_
          refine r_cons (s_move (.int .i64 (k : Int)) rfl rfl ?_)
          have hzz : zeros R = k := zeros_is hk hkr hz (by first | (left; omega) | (right; left; omega) | (right; right; simpa using hb25))
          clear hz
          refine r_cons (s_eql false rfl rfl (dfalse (by omega)) rfl ?_)
          refine r_nil ?_
          refine g_false rfl ?_
          refine g_skip ?_
          refine g_seq ?_
          refine g_seq ?_
          refine g_region ?_
          refine r_cons (s_move (.int .i64 (k : Int)) rfl rfl ?_)
          refine r_cons (s_mul ((2 * k : Nat) : Int) rfl rfl ((wi64 (by omega)).trans (by omega)) rfl ?_)
          refine r_cons (s_add (((2 * k : Nat) : Int) + 1) rfl rfl (wi64 (by omega)) rfl ?_)
          refine r_cons (s_move (.pointer (some ⟨b, 0, none⟩)) rfl rfl ?_)
          refine r_cons (s_nilCheck (.pointer (some ⟨b, 0, none⟩)) rfl ⟨_, rfl⟩ rfl ?_)
          refine r_cons (s_fieldAddr 43 0 0 0 23 rfl fi_43_0 rfl rfl ?_)
          refine r_cons (s_load (.slice pp10 R.length cc11) ag_23 rfl (H22.blk_at (i := 1) rfl) rfl rfl ?_)
          refine r_cons (s_len R.length rfl ⟨_, un_23⟩ rfl ?_)
          by_cases hc29 : (R.length : Int) < ((2 * k : Nat) : Int) + 1
          · skip
            refine r_cons (s_gtr true rfl rfl (dtrue hc29) rfl ?_)
            refine r_nil ?_
            refine g_true rfl ?_
            refine g_seq ?_
            refine g_region ?_
            refine r_cons (s_assign (.int .u64 0) rfl rfl ?_)
            refine r_cons (s_assign (.int .i64 10) rfl rfl ?_)
            refine r_nil ?_
            refine g_ret' [.int .u64 0, .int .i64 10] Try.func41 Try.results41 ⟨rfl, rfl, trivial⟩ ?_
            have H30 : St W w3 (blk b (.cells #[.slice pp10 R.length cc11] 43 (0, 0)) :: Im 1 (.slice pp10 R.length cc11) R.length (R.flatMap blc) :: (F.set i emp)) := (((H22.move 2 rfl).move 2 rfl).drop 2 rfl)
            have H31 : St W w3 (RSrc b R :: (F.set i emp)) := St.shut_ex (.slice pp10 R.length cc11) (St.shut_star (ls := [blk b (.cells #[.slice pp10 R.length cc11] 43 (0, 0)), Im 1 (.slice pp10 R.length cc11) R.length (R.flatMap blc)]) H30)
            have H32 : St W w3 (RSrc b R :: (F.set i emp)) := H31
            have hE : natE R = 10 := natE_10 (by omega) (by omega)
            have hE0 : ¬ natE R = 0 := by rw [hE]; decide
            exact ⟨by rw [natU_no hE0, hE]; rfl, by rw [natN_no hE0, List.drop_zero]; exact St.back hi H32⟩
          · skip
            refine r_cons (s_gtr false rfl rfl (dfalse hc29) rfl ?_)
            refine r_nil ?_
            refine g_false rfl ?_
            refine g_skip ?_
            refine g_seq ?_
            refine g_region ?_
            refine r_cons (s_move (.pointer (some ⟨b, 0, none⟩)) rfl rfl ?_)
            refine r_cons (s_nilCheck (.pointer (some ⟨b, 0, none⟩)) rfl ⟨_, rfl⟩ rfl ?_)
            refine r_cons (s_fieldAddr 43 0 0 0 23 rfl fi_43_0 rfl rfl ?_)
            refine r_cons (s_load (.slice pp10 R.length cc11) ag_23 rfl (H22.blk_at (i := 1) rfl) rfl rfl ?_)
            refine r_cons (s_move (.int .i64 (k : Int)) rfl rfl ?_)
            refine r_cons (s_add ((k : Int) + 1) rfl rfl (wi64 (by omega)) rfl ?_)
            refine r_cons (s_move (.int .i64 (k : Int)) rfl rfl ?_)
            refine r_cons (s_mul ((2 * k : Nat) : Int) rfl rfl ((wi64 (by omega)).trans (by omega)) rfl ?_)
            refine r_cons (s_add (((2 * k : Nat) : Int) + 1) rfl rfl (wi64 (by omega)) rfl ?_)
            have hc33 := Im.cap H22 (i := 2) rfl
            refine r_cons (s_slice pp10 ((k : Int) + 1) (((2 * k : Nat) : Int) + 1) 1 (.slice (cutAt pp10 (k + 1) cc11 1) ((2 * k + 1) - (k + 1)) (cc11 - (k + 1))) rfl rfl rfl el_23 (by omega) (by first | rfl | (congr 1; omega)) rfl ?_)
            have H34 : St W w3 (Im 1 (.slice (cutAt pp10 (k + 1) cc11 1) ((2 * k + 1) - (k + 1)) (cc11 - (k + 1))) ((2 * k + 1) - (k + 1)) (((R.drop (k + 1)).take ((2 * k + 1) - (k + 1))).flatMap blc) :: imi (0 < R.length) gA12 (.cells kA14 eA15 zA16) :: blk b (.cells #[.slice pp10 R.length cc11] 43 (0, 0)) :: Im 1 (.slice pp10 R.length cc11) R.length (R.flatMap blc) :: (F.set i emp)) := Im.cut blc_len (k + 1) (2 * k + 1) H22 (i := 2) rfl (by omega) (by omega)
            refine r_cons (s_call [.slice (cutAt pp10 (k + 1) cc11 1) ((2 * k + 1) - (k + 1)) (cc11 - (k + 1))] pl_52 rfl rfl (ref01_value _ _ ((R.drop (k + 1)).take ((2 * k + 1) - (k + 1))) (by first | rfl | (simp only [List.length_take, List.length_drop]; omega)) (by omega) (j := 0) rfl H34) ?_)
            rintro _ w35 ⟨rfl, H36⟩
            refine r_cons (s_assign (.int .u64 (valOf ((R.drop (k + 1)).take ((2 * k + 1) - (k + 1))) : Int)) rfl rfl ?_)
            refine r_nil ?_
            refine g_seq ?_
            refine g_seq ?_
            refine g_region ?_
            have hlow : valOf ((R.drop (k + 1)).take (2 * k + 1 - (k + 1))) = valOf ((R.drop (zeros R + 1)).take (zeros R)) := by rw [hzz]; congr 2; omega
            have hlt : valOf ((R.drop (k + 1)).take (2 * k + 1 - (k + 1))) < 2 ^ k := by rw [hlow, hzz]; exact valOf_take_lt _ _
            refine r_cons (s_move (.int .i64 (k : Int)) rfl rfl ?_)
            by_cases hc37 : (k : Int) = 64
            · skip
              refine r_cons (s_eql true rfl rfl (dtrue hc37) rfl ?_)
              refine r_cons (s_move (.bool true) rfl rfl ?_)
              refine r_cons (r_take rfl rfl ?_)
              refine s_move (.int .u64 (valOf ((R.drop (k + 1)).take ((2 * k + 1) - (k + 1))) : Int)) rfl rfl ?_
              refine r_cons (r_take rfl rfl ?_)
              by_cases hc38 : (0 : Int) < (valOf ((R.drop (k + 1)).take ((2 * k + 1) - (k + 1))) : Int)
              · skip
                refine s_gtr true rfl rfl (dtrue hc38) rfl ?_
                refine r_cons (s_pick_t (.bool true) rfl rfl rfl ?_)
                refine r_nil ?_
                refine g_true rfl ?_
                refine g_seq ?_
                refine g_region ?_
                refine r_cons (s_assign (.int .u64 0) rfl rfl ?_)
                refine r_cons (s_assign (.int .i64 11) rfl rfl ?_)
                refine r_nil ?_
                refine g_ret' [.int .u64 0, .int .i64 11] Try.func41 Try.results41 ⟨rfl, rfl, trivial⟩ ?_
                have H39 : St W w35 (blk b (.cells #[.slice pp10 R.length cc11] 43 (0, 0)) :: Im 1 (.slice pp10 R.length cc11) R.length (R.flatMap blc) :: Im 1 (.slice (cutAt pp10 (k + 1) cc11 1) ((2 * k + 1) - (k + 1)) (cc11 - (k + 1))) ((2 * k + 1) - (k + 1)) (((R.drop (k + 1)).take ((2 * k + 1) - (k + 1))).flatMap blc) :: (F.set i emp)) := (((H36.move 3 rfl).move 3 rfl).drop 3 rfl)
                have H40 : St W w35 (RSrc b R :: Im 1 (.slice (cutAt pp10 (k + 1) cc11 1) ((2 * k + 1) - (k + 1)) (cc11 - (k + 1))) ((2 * k + 1) - (k + 1)) (((R.drop (k + 1)).take ((2 * k + 1) - (k + 1))).flatMap blc) :: (F.set i emp)) := St.shut_ex (.slice pp10 R.length cc11) (St.shut_star (ls := [blk b (.cells #[.slice pp10 R.length cc11] 43 (0, 0)), Im 1 (.slice pp10 R.length cc11) R.length (R.flatMap blc)]) H39)
                have H41 : St W w35 (RSrc b R :: (F.set i emp)) := (H40.drop 1 rfl)
                have hE : natE R = 11 := by first | exact natE_65 (by omega) | exact natE_11 (by omega) (by omega) (by rw [← hlow]; omega)
                have hE0 : ¬ natE R = 0 := by rw [hE]; decide
                exact ⟨by rw [natU_no hE0, hE]; rfl, by rw [natN_no hE0, List.drop_zero]; exact St.back hi H41⟩
              · skip
                refine s_gtr false rfl rfl (dfalse hc38) rfl ?_
                refine r_cons (s_pick_t (.bool false) rfl rfl rfl ?_)
                refine r_nil ?_
                refine g_false rfl ?_
                refine g_skip ?_
                refine g_seq ?_
                refine g_region ?_
                refine r_cons (s_move (.pointer (some ⟨b, 0, none⟩)) rfl rfl ?_)
                refine r_cons (s_move (.pointer (some ⟨b, 0, none⟩)) rfl rfl ?_)
                refine r_cons (s_nilCheck (.pointer (some ⟨b, 0, none⟩)) rfl ⟨_, rfl⟩ rfl ?_)
                refine r_cons (s_fieldAddr 43 0 0 0 23 rfl fi_43_0 rfl rfl ?_)
                refine r_cons (s_load (.slice pp10 R.length cc11) ag_23 rfl (H36.blk_at (i := 2) rfl) rfl rfl ?_)
                refine r_cons (s_move (.int .i64 (k : Int)) rfl rfl ?_)
                refine r_cons (s_mul ((2 * k : Nat) : Int) rfl rfl ((wi64 (by omega)).trans (by omega)) rfl ?_)
                refine r_cons (s_add (((2 * k : Nat) : Int) + 1) rfl rfl (wi64 (by omega)) rfl ?_)
                have hc42 := Im.cap H36 (i := 3) rfl
                refine r_cons (s_slice_l pp10 (((2 * k : Nat) : Int) + 1) 1 (.slice (cutAt pp10 (2 * k + 1) cc11 1) (R.length - (2 * k + 1)) (cc11 - (2 * k + 1))) rfl rfl el_23 (by omega) (by first | rfl | (congr 1; omega)) rfl ?_)
                have H43 : St W w35 (Im 1 (.slice (cutAt pp10 (2 * k + 1) cc11 1) (R.length - (2 * k + 1)) (cc11 - (2 * k + 1))) (R.length - (2 * k + 1)) ((R.drop (2 * k + 1)).flatMap blc) :: Im 1 (.slice (cutAt pp10 (k + 1) cc11 1) ((2 * k + 1) - (k + 1)) (cc11 - (k + 1))) ((2 * k + 1) - (k + 1)) (((R.drop (k + 1)).take ((2 * k + 1) - (k + 1))).flatMap blc) :: imi (0 < R.length) gA12 (.cells kA14 eA15 zA16) :: blk b (.cells #[.slice pp10 R.length cc11] 43 (0, 0)) :: Im 1 (.slice pp10 R.length cc11) R.length (R.flatMap blc) :: (F.set i emp)) := Im.cut_l blc_len (2 * k + 1) H36 (i := 3) rfl (by omega)
                refine r_cons (s_nilCheck (.pointer (some ⟨b, 0, none⟩)) rfl ⟨_, rfl⟩ rfl ?_)
                refine r_cons (s_fieldAddr 43 0 0 0 23 rfl fi_43_0 rfl rfl ?_)
                refine r_cons (s_store H43 3 (.slice (cutAt pp10 (2 * k + 1) cc11 1) (R.length - (2 * k + 1)) (cc11 - (2 * k + 1))) rfl rfl rfl sz_23 rfl (Nat.le_of_ble_eq_true rfl) rfl (cs' := #[.slice (cutAt pp10 (2 * k + 1) cc11 1) (R.length - (2 * k + 1)) (cc11 - (2 * k + 1))]) rfl ?_); intro w44 H45
                refine r_nil ?_
                refine g_seq ?_
                refine g_seq ?_
                refine g_region ?_
                refine r_cons (s_move (.int .i64 (k : Int)) rfl rfl ?_)
                refine r_cons (s_eql true rfl rfl (dtrue (by omega)) rfl ?_)
                refine r_nil ?_
                refine g_true rfl ?_
                refine g_seq ?_
                refine g_region ?_
                refine r_cons (s_assign (.int .u64 18446744073709551615) rfl rfl ?_)
                refine r_cons (s_assign (.int .i64 0) rfl rfl ?_)
                refine r_nil ?_
                refine g_ret' [.int .u64 18446744073709551615, .int .i64 0] Try.func41 Try.results41 ⟨rfl, rfl, trivial⟩ ?_
                have H46 : St W w44 (blk b (.cells #[.slice (cutAt pp10 (2 * k + 1) cc11 1) (R.length - (2 * k + 1)) (cc11 - (2 * k + 1))] 43 (0, 0)) :: Im 1 (.slice (cutAt pp10 (2 * k + 1) cc11 1) (R.length - (2 * k + 1)) (cc11 - (2 * k + 1))) (R.length - (2 * k + 1)) ((R.drop (2 * k + 1)).flatMap blc) :: Im 1 (.slice (cutAt pp10 (k + 1) cc11 1) ((2 * k + 1) - (k + 1)) (cc11 - (k + 1))) ((2 * k + 1) - (k + 1)) (((R.drop (k + 1)).take ((2 * k + 1) - (k + 1))).flatMap blc) :: Im 1 (.slice pp10 R.length cc11) R.length (R.flatMap blc) :: (F.set i emp)) := (((((H45.move 4 rfl).move 2 rfl).move 2 rfl).move 4 rfl).drop 4 rfl)
                have H47 : St W w44 (blk b (.cells #[.slice (cutAt pp10 (2 * k + 1) cc11 1) (R.length - (2 * k + 1)) (cc11 - (2 * k + 1))] 43 (0, 0)) :: Im 1 (.slice (cutAt pp10 (2 * k + 1) cc11 1) (R.length - (2 * k + 1)) (cc11 - (2 * k + 1))) ((R.drop (2 * k + 1)).length) ((R.drop (2 * k + 1)).flatMap blc) :: Im 1 (.slice (cutAt pp10 (k + 1) cc11 1) ((2 * k + 1) - (k + 1)) (cc11 - (k + 1))) ((2 * k + 1) - (k + 1)) (((R.drop (k + 1)).take ((2 * k + 1) - (k + 1))).flatMap blc) :: Im 1 (.slice pp10 R.length cc11) R.length (R.flatMap blc) :: (F.set i emp)) := by rw [show (R.drop (2 * k + 1)).length = R.length - (2 * k + 1) from by simp only [List.length_drop, List.length_take]; (try omega)]; exact H46
                have H48 : St W w44 (RSrc b (R.drop (2 * k + 1)) :: Im 1 (.slice (cutAt pp10 (k + 1) cc11 1) ((2 * k + 1) - (k + 1)) (cc11 - (k + 1))) ((2 * k + 1) - (k + 1)) (((R.drop (k + 1)).take ((2 * k + 1) - (k + 1))).flatMap blc) :: Im 1 (.slice pp10 R.length cc11) R.length (R.flatMap blc) :: (F.set i emp)) := St.shut_ex (.slice (cutAt pp10 (2 * k + 1) cc11 1) (R.length - (2 * k + 1)) (cc11 - (2 * k + 1))) (St.shut_star (ls := [blk b (.cells #[.slice (cutAt pp10 (2 * k + 1) cc11 1) (R.length - (2 * k + 1)) (cc11 - (2 * k + 1))] 43 (0, 0)), Im 1 (.slice (cutAt pp10 (2 * k + 1) cc11 1) (R.length - (2 * k + 1)) (cc11 - (2 * k + 1))) ((R.drop (2 * k + 1)).length) ((R.drop (2 * k + 1)).flatMap blc)]) H47)
                have H49 : St W w44 (RSrc b (R.drop (2 * k + 1)) :: (F.set i emp)) := ((H48.drop 1 rfl).drop 1 rfl)
                have hE : natE R = 0 := natE_0 (by omega) (by omega) (by rw [← hlow]; omega)
                have hN : natN R = 2 * k + 1 := by rw [natN_0 hE]; omega
                have hv : (natU R : Int) = 18446744073709551615 := by rw [natU_64 hE (by omega)]; rfl
                exact ⟨by rw [hE, hv]; rfl, by rw [hN]; exact St.back hi H49⟩
            · skip
              refine r_cons (s_eql false rfl rfl (dfalse hc37) rfl ?_)
              refine r_cons (s_move (.bool false) rfl rfl ?_)
              refine r_cons (r_pass rfl rfl rfl rfl rfl ?_)
              refine r_cons (r_pass rfl rfl rfl rfl rfl ?_)
              refine r_cons (s_pick_f (.bool false) rfl rfl rfl ?_)
              refine r_nil ?_
              refine g_false rfl ?_
              refine g_skip ?_
              refine g_seq ?_
              refine g_region ?_
              refine r_cons (s_move (.pointer (some ⟨b, 0, none⟩)) rfl rfl ?_)
              refine r_cons (s_move (.pointer (some ⟨b, 0, none⟩)) rfl rfl ?_)
              refine r_cons (s_nilCheck (.pointer (some ⟨b, 0, none⟩)) rfl ⟨_, rfl⟩ rfl ?_)
              refine r_cons (s_fieldAddr 43 0 0 0 23 rfl fi_43_0 rfl rfl ?_)
              refine r_cons (s_load (.slice pp10 R.length cc11) ag_23 rfl (H36.blk_at (i := 2) rfl) rfl rfl ?_)
              refine r_cons (s_move (.int .i64 (k : Int)) rfl rfl ?_)
              refine r_cons (s_mul ((2 * k : Nat) : Int) rfl rfl ((wi64 (by omega)).trans (by omega)) rfl ?_)
              refine r_cons (s_add (((2 * k : Nat) : Int) + 1) rfl rfl (wi64 (by omega)) rfl ?_)
              have hc50 := Im.cap H36 (i := 3) rfl
              refine r_cons (s_slice_l pp10 (((2 * k : Nat) : Int) + 1) 1 (.slice (cutAt pp10 (2 * k + 1) cc11 1) (R.length - (2 * k + 1)) (cc11 - (2 * k + 1))) rfl rfl el_23 (by omega) (by first | rfl | (congr 1; omega)) rfl ?_)
              have H51 : St W w35 (Im 1 (.slice (cutAt pp10 (2 * k + 1) cc11 1) (R.length - (2 * k + 1)) (cc11 - (2 * k + 1))) (R.length - (2 * k + 1)) ((R.drop (2 * k + 1)).flatMap blc) :: Im 1 (.slice (cutAt pp10 (k + 1) cc11 1) ((2 * k + 1) - (k + 1)) (cc11 - (k + 1))) ((2 * k + 1) - (k + 1)) (((R.drop (k + 1)).take ((2 * k + 1) - (k + 1))).flatMap blc) :: imi (0 < R.length) gA12 (.cells kA14 eA15 zA16) :: blk b (.cells #[.slice pp10 R.length cc11] 43 (0, 0)) :: Im 1 (.slice pp10 R.length cc11) R.length (R.flatMap blc) :: (F.set i emp)) := Im.cut_l blc_len (2 * k + 1) H36 (i := 3) rfl (by omega)
              refine r_cons (s_nilCheck (.pointer (some ⟨b, 0, none⟩)) rfl ⟨_, rfl⟩ rfl ?_)
              refine r_cons (s_fieldAddr 43 0 0 0 23 rfl fi_43_0 rfl rfl ?_)
              refine r_cons (s_store H51 3 (.slice (cutAt pp10 (2 * k + 1) cc11 1) (R.length - (2 * k + 1)) (cc11 - (2 * k + 1))) rfl rfl rfl sz_23 rfl (Nat.le_of_ble_eq_true rfl) rfl (cs' := #[.slice (cutAt pp10 (2 * k + 1) cc11 1) (R.length - (2 * k + 1)) (cc11 - (2 * k + 1))]) rfl ?_); intro w52 H53
              refine r_nil ?_
              refine g_seq ?_
              refine g_seq ?_
              refine g_region ?_
              refine r_cons (s_move (.int .i64 (k : Int)) rfl rfl ?_)
              refine r_cons (s_eql false rfl rfl (dfalse (by omega)) rfl ?_)
              refine r_nil ?_
              refine g_false rfl ?_
              refine g_skip ?_
              refine g_seq ?_
              refine g_region ?_
              refine r_cons (s_move (.int .i64 (k : Int)) rfl rfl ?_)
              have hpw := pow_le63 (k := k) (by omega)
              have hq : 0 < 2 ^ k := Nat.pow_pos (by decide)
              refine r_cons (s_shl ((2 ^ k : Nat) : Int) rfl rfl (by omega) (shl_one rfl (by omega)) rfl ?_)
              refine r_cons (s_move (.int .u64 (valOf ((R.drop (k + 1)).take ((2 * k + 1) - (k + 1))) : Int)) rfl rfl ?_)
              refine r_cons (s_add ((2 ^ k + valOf ((R.drop (k + 1)).take (2 * k + 1 - (k + 1))) : Nat) : Int) rfl rfl ((wu64 (by generalize 2 ^ k = q at *; omega)).trans (by generalize 2 ^ k = q at *; omega)) rfl ?_)
              refine r_cons (s_sub ((2 ^ k + valOf ((R.drop (k + 1)).take (2 * k + 1 - (k + 1))) - 1 : Nat) : Int) rfl rfl ((wu64 (by generalize 2 ^ k = q at *; omega)).trans (by generalize 2 ^ k = q at *; omega)) rfl ?_)
              refine r_cons (s_assign (.int .u64 ((2 ^ k + valOf ((R.drop (k + 1)).take (2 * k + 1 - (k + 1))) - 1 : Nat) : Int)) rfl rfl ?_)
              refine r_cons (s_assign (.int .i64 0) rfl rfl ?_)
              refine r_nil ?_
              refine g_ret' [.int .u64 ((2 ^ k + valOf ((R.drop (k + 1)).take (2 * k + 1 - (k + 1))) - 1 : Nat) : Int), .int .i64 0] Try.func41 Try.results41 ⟨rfl, rfl, trivial⟩ ?_
              have H54 : St W w52 (blk b (.cells #[.slice (cutAt pp10 (2 * k + 1) cc11 1) (R.length - (2 * k + 1)) (cc11 - (2 * k + 1))] 43 (0, 0)) :: Im 1 (.slice (cutAt pp10 (2 * k + 1) cc11 1) (R.length - (2 * k + 1)) (cc11 - (2 * k + 1))) (R.length - (2 * k + 1)) ((R.drop (2 * k + 1)).flatMap blc) :: Im 1 (.slice (cutAt pp10 (k + 1) cc11 1) ((2 * k + 1) - (k + 1)) (cc11 - (k + 1))) ((2 * k + 1) - (k + 1)) (((R.drop (k + 1)).take ((2 * k + 1) - (k + 1))).flatMap blc) :: Im 1 (.slice pp10 R.length cc11) R.length (R.flatMap blc) :: (F.set i emp)) := (((((H53.move 4 rfl).move 2 rfl).move 2 rfl).move 4 rfl).drop 4 rfl)
              have H55 : St W w52 (blk b (.cells #[.slice (cutAt pp10 (2 * k + 1) cc11 1) (R.length - (2 * k + 1)) (cc11 - (2 * k + 1))] 43 (0, 0)) :: Im 1 (.slice (cutAt pp10 (2 * k + 1) cc11 1) (R.length - (2 * k + 1)) (cc11 - (2 * k + 1))) ((R.drop (2 * k + 1)).length) ((R.drop (2 * k + 1)).flatMap blc) :: Im 1 (.slice (cutAt pp10 (k + 1) cc11 1) ((2 * k + 1) - (k + 1)) (cc11 - (k + 1))) ((2 * k + 1) - (k + 1)) (((R.drop (k + 1)).take ((2 * k + 1) - (k + 1))).flatMap blc) :: Im 1 (.slice pp10 R.length cc11) R.length (R.flatMap blc) :: (F.set i emp)) := by rw [show (R.drop (2 * k + 1)).length = R.length - (2 * k + 1) from by simp only [List.length_drop, List.length_take]; (try omega)]; exact H54
              have H56 : St W w52 (RSrc b (R.drop (2 * k + 1)) :: Im 1 (.slice (cutAt pp10 (k + 1) cc11 1) ((2 * k + 1) - (k + 1)) (cc11 - (k + 1))) ((2 * k + 1) - (k + 1)) (((R.drop (k + 1)).take ((2 * k + 1) - (k + 1))).flatMap blc) :: Im 1 (.slice pp10 R.length cc11) R.length (R.flatMap blc) :: (F.set i emp)) := St.shut_ex (.slice (cutAt pp10 (2 * k + 1) cc11 1) (R.length - (2 * k + 1)) (cc11 - (2 * k + 1))) (St.shut_star (ls := [blk b (.cells #[.slice (cutAt pp10 (2 * k + 1) cc11 1) (R.length - (2 * k + 1)) (cc11 - (2 * k + 1))] 43 (0, 0)), Im 1 (.slice (cutAt pp10 (2 * k + 1) cc11 1) (R.length - (2 * k + 1)) (cc11 - (2 * k + 1))) ((R.drop (2 * k + 1)).length) ((R.drop (2 * k + 1)).flatMap blc)]) H55)
              have H57 : St W w52 (RSrc b (R.drop (2 * k + 1)) :: (F.set i emp)) := ((H56.drop 1 rfl).drop 1 rfl)
              have hE : natE R = 0 := natE_0 (by omega) (by omega) (by rw [← hlow]; omega)
              have hN : natN R = 2 * k + 1 := by rw [natN_0 hE]; omega
              have hv : (natU R : Int) = ((2 ^ k + valOf ((R.drop (k + 1)).take (2 * k + 1 - (k + 1))) - 1 : Nat) : Int) := by rw [natU_is hE (by omega), ← hlow, hzz]; congr 1; omega
              exact ⟨by rw [hE, hv]; rfl, by rw [hN]; exact St.back hi H57⟩
      · skip
        refine s_lss false rfl rfl (dfalse hc24) rfl ?_
        refine r_cons (s_pick_t (.bool false) rfl rfl rfl ?_)
        refine r_cons (s_move (.bool false) rfl rfl ?_)
        refine r_cons (r_pass rfl rfl rfl rfl rfl ?_)
        refine r_cons (r_pass rfl rfl rfl rfl rfl ?_)
        refine r_cons (r_pass rfl rfl rfl rfl rfl ?_)
        refine r_cons (r_pass rfl rfl rfl rfl rfl ?_)
        refine r_cons (r_pass rfl rfl rfl rfl rfl ?_)
        refine r_cons (r_pass rfl rfl rfl rfl rfl ?_)
        refine r_cons (r_pass rfl rfl rfl rfl rfl ?_)
        refine r_cons (r_pass rfl rfl rfl rfl rfl ?_)
        refine r_cons (s_pick_f (.bool false) rfl rfl rfl ?_)
        refine r_nil ?_
        refine g_false rfl ?_
        refine g_exit (by rfl) ?_
        refine g_seq ?_
        refine g_seq ?_
        refine g_region ?_
        refine r_cons (s_move (.int .i64 (k : Int)) rfl rfl ?_)
        have hzz : zeros R = k := zeros_is hk hkr hz (by first | (left; omega) | (right; left; omega) | (right; right; simpa using hz))
        clear hz
        by_cases hc58 : (k : Int) = 65
        · skip
          refine r_cons (s_eql true rfl rfl (dtrue hc58) rfl ?_)
          refine r_nil ?_
          refine g_true rfl ?_
          refine g_seq ?_
          refine g_region ?_
          refine r_cons (s_assign (.int .u64 0) rfl rfl ?_)
          refine r_cons (s_assign (.int .i64 11) rfl rfl ?_)
          refine r_nil ?_
          refine g_ret' [.int .u64 0, .int .i64 11] Try.func41 Try.results41 ⟨rfl, rfl, trivial⟩ ?_
          have H59 : St W w3 (blk b (.cells #[.slice pp10 R.length cc11] 43 (0, 0)) :: Im 1 (.slice pp10 R.length cc11) R.length (R.flatMap blc) :: (F.set i emp)) := (((H22.move 2 rfl).move 2 rfl).drop 2 rfl)
          have H60 : St W w3 (RSrc b R :: (F.set i emp)) := St.shut_ex (.slice pp10 R.length cc11) (St.shut_star (ls := [blk b (.cells #[.slice pp10 R.length cc11] 43 (0, 0)), Im 1 (.slice pp10 R.length cc11) R.length (R.flatMap blc)]) H59)
          have H61 : St W w3 (RSrc b R :: (F.set i emp)) := H60
          have hE : natE R = 11 := by first | exact natE_65 (by omega) | exact natE_11 (by omega) (by omega) (by rw [← hlow]; omega)
          have hE0 : ¬ natE R = 0 := by rw [hE]; decide
          exact ⟨by rw [natU_no hE0, hE]; rfl, by rw [natN_no hE0, List.drop_zero]; exact St.back hi H61⟩
        · skip
          refine r_cons (s_eql false rfl rfl (dfalse hc58) rfl ?_)
          refine r_nil ?_
          refine g_false rfl ?_
          refine g_skip ?_
          refine g_seq ?_
          refine g_seq ?_
          refine g_region ?_
          refine r_cons (s_move (.int .i64 (k : Int)) rfl rfl ?_)
          refine r_cons (s_mul ((2 * k : Nat) : Int) rfl rfl ((wi64 (by omega)).trans (by omega)) rfl ?_)
          refine r_cons (s_add (((2 * k : Nat) : Int) + 1) rfl rfl (wi64 (by omega)) rfl ?_)
          refine r_cons (s_move (.pointer (some ⟨b, 0, none⟩)) rfl rfl ?_)
          refine r_cons (s_nilCheck (.pointer (some ⟨b, 0, none⟩)) rfl ⟨_, rfl⟩ rfl ?_)
          refine r_cons (s_fieldAddr 43 0 0 0 23 rfl fi_43_0 rfl rfl ?_)
          refine r_cons (s_load (.slice pp10 R.length cc11) ag_23 rfl (H22.blk_at (i := 1) rfl) rfl rfl ?_)
          refine r_cons (s_len R.length rfl ⟨_, un_23⟩ rfl ?_)
          by_cases hc62 : (R.length : Int) < ((2 * k : Nat) : Int) + 1
          · skip
            refine r_cons (s_gtr true rfl rfl (dtrue hc62) rfl ?_)
            refine r_nil ?_
            refine g_true rfl ?_
            refine g_seq ?_
            refine g_region ?_
            refine r_cons (s_assign (.int .u64 0) rfl rfl ?_)
            refine r_cons (s_assign (.int .i64 10) rfl rfl ?_)
            refine r_nil ?_
            refine g_ret' [.int .u64 0, .int .i64 10] Try.func41 Try.results41 ⟨rfl, rfl, trivial⟩ ?_
            have H63 : St W w3 (blk b (.cells #[.slice pp10 R.length cc11] 43 (0, 0)) :: Im 1 (.slice pp10 R.length cc11) R.length (R.flatMap blc) :: (F.set i emp)) := (((H22.move 2 rfl).move 2 rfl).drop 2 rfl)
            have H64 : St W w3 (RSrc b R :: (F.set i emp)) := St.shut_ex (.slice pp10 R.length cc11) (St.shut_star (ls := [blk b (.cells #[.slice pp10 R.length cc11] 43 (0, 0)), Im 1 (.slice pp10 R.length cc11) R.length (R.flatMap blc)]) H63)
            have H65 : St W w3 (RSrc b R :: (F.set i emp)) := H64
            have hE : natE R = 10 := natE_10 (by omega) (by omega)
            have hE0 : ¬ natE R = 0 := by rw [hE]; decide
            exact ⟨by rw [natU_no hE0, hE]; rfl, by rw [natN_no hE0, List.drop_zero]; exact St.back hi H65⟩
          · skip
            refine r_cons (s_gtr false rfl rfl (dfalse hc62) rfl ?_)
            refine r_nil ?_
            refine g_false rfl ?_
            refine g_skip ?_
            refine g_seq ?_
            refine g_region ?_
            refine r_cons (s_move (.pointer (some ⟨b, 0, none⟩)) rfl rfl ?_)
            refine r_cons (s_nilCheck (.pointer (some ⟨b, 0, none⟩)) rfl ⟨_, rfl⟩ rfl ?_)
            refine r_cons (s_fieldAddr 43 0 0 0 23 rfl fi_43_0 rfl rfl ?_)
            refine r_cons (s_load (.slice pp10 R.length cc11) ag_23 rfl (H22.blk_at (i := 1) rfl) rfl rfl ?_)
            refine r_cons (s_move (.int .i64 (k : Int)) rfl rfl ?_)
            refine r_cons (s_add ((k : Int) + 1) rfl rfl (wi64 (by omega)) rfl ?_)
            refine r_cons (s_move (.int .i64 (k : Int)) rfl rfl ?_)
            refine r_cons (s_mul ((2 * k : Nat) : Int) rfl rfl ((wi64 (by omega)).trans (by omega)) rfl ?_)
            refine r_cons (s_add (((2 * k : Nat) : Int) + 1) rfl rfl (wi64 (by omega)) rfl ?_)
            have hc66 := Im.cap H22 (i := 2) rfl
            refine r_cons (s_slice pp10 ((k : Int) + 1) (((2 * k : Nat) : Int) + 1) 1 (.slice (cutAt pp10 (k + 1) cc11 1) ((2 * k + 1) - (k + 1)) (cc11 - (k + 1))) rfl rfl rfl el_23 (by omega) (by first | rfl | (congr 1; omega)) rfl ?_)
            have H67 : St W w3 (Im 1 (.slice (cutAt pp10 (k + 1) cc11 1) ((2 * k + 1) - (k + 1)) (cc11 - (k + 1))) ((2 * k + 1) - (k + 1)) (((R.drop (k + 1)).take ((2 * k + 1) - (k + 1))).flatMap blc) :: imi (0 < R.length) gA12 (.cells kA14 eA15 zA16) :: blk b (.cells #[.slice pp10 R.length cc11] 43 (0, 0)) :: Im 1 (.slice pp10 R.length cc11) R.length (R.flatMap blc) :: (F.set i emp)) := Im.cut blc_len (k + 1) (2 * k + 1) H22 (i := 2) rfl (by omega) (by omega)
            refine r_cons (s_call [.slice (cutAt pp10 (k + 1) cc11 1) ((2 * k + 1) - (k + 1)) (cc11 - (k + 1))] pl_52 rfl rfl (ref01_value _ _ ((R.drop (k + 1)).take ((2 * k + 1) - (k + 1))) (by first | rfl | (simp only [List.length_take, List.length_drop]; omega)) (by omega) (j := 0) rfl H67) ?_)
            rintro _ w68 ⟨rfl, H69⟩
            refine r_cons (s_assign (.int .u64 (valOf ((R.drop (k + 1)).take ((2 * k + 1) - (k + 1))) : Int)) rfl rfl ?_)
            refine r_nil ?_
            refine g_seq ?_
            refine g_seq ?_
            refine g_region ?_
            have hlow : valOf ((R.drop (k + 1)).take (2 * k + 1 - (k + 1))) = valOf ((R.drop (zeros R + 1)).take (zeros R)) := by rw [hzz]; congr 2; omega
            have hlt : valOf ((R.drop (k + 1)).take (2 * k + 1 - (k + 1))) < 2 ^ k := by rw [hlow, hzz]; exact valOf_take_lt _ _
            refine r_cons (s_move (.int .i64 (k : Int)) rfl rfl ?_)
            refine r_cons (s_eql false rfl rfl (dfalse (by omega)) rfl ?_)
            refine r_cons (s_move (.bool false) rfl rfl ?_)
            refine r_cons (r_pass rfl rfl rfl rfl rfl ?_)
            refine r_cons (r_pass rfl rfl rfl rfl rfl ?_)
            refine r_cons (s_pick_f (.bool false) rfl rfl rfl ?_)
            refine r_nil ?_
            refine g_false rfl ?_
            refine g_skip ?_
            refine g_seq ?_
            refine g_region ?_
            refine r_cons (s_move (.pointer (some ⟨b, 0, none⟩)) rfl rfl ?_)
            refine r_cons (s_move (.pointer (some ⟨b, 0, none⟩)) rfl rfl ?_)
            refine r_cons (s_nilCheck (.pointer (some ⟨b, 0, none⟩)) rfl ⟨_, rfl⟩ rfl ?_)
            refine r_cons (s_fieldAddr 43 0 0 0 23 rfl fi_43_0 rfl rfl ?_)
            refine r_cons (s_load (.slice pp10 R.length cc11) ag_23 rfl (H69.blk_at (i := 2) rfl) rfl rfl ?_)
            refine r_cons (s_move (.int .i64 (k : Int)) rfl rfl ?_)
            refine r_cons (s_mul ((2 * k : Nat) : Int) rfl rfl ((wi64 (by omega)).trans (by omega)) rfl ?_)
            refine r_cons (s_add (((2 * k : Nat) : Int) + 1) rfl rfl (wi64 (by omega)) rfl ?_)
            have hc70 := Im.cap H69 (i := 3) rfl
            refine r_cons (s_slice_l pp10 (((2 * k : Nat) : Int) + 1) 1 (.slice (cutAt pp10 (2 * k + 1) cc11 1) (R.length - (2 * k + 1)) (cc11 - (2 * k + 1))) rfl rfl el_23 (by omega) (by first | rfl | (congr 1; omega)) rfl ?_)
            have H71 : St W w68 (Im 1 (.slice (cutAt pp10 (2 * k + 1) cc11 1) (R.length - (2 * k + 1)) (cc11 - (2 * k + 1))) (R.length - (2 * k + 1)) ((R.drop (2 * k + 1)).flatMap blc) :: Im 1 (.slice (cutAt pp10 (k + 1) cc11 1) ((2 * k + 1) - (k + 1)) (cc11 - (k + 1))) ((2 * k + 1) - (k + 1)) (((R.drop (k + 1)).take ((2 * k + 1) - (k + 1))).flatMap blc) :: imi (0 < R.length) gA12 (.cells kA14 eA15 zA16) :: blk b (.cells #[.slice pp10 R.length cc11] 43 (0, 0)) :: Im 1 (.slice pp10 R.length cc11) R.length (R.flatMap blc) :: (F.set i emp)) := Im.cut_l blc_len (2 * k + 1) H69 (i := 3) rfl (by omega)
            refine r_cons (s_nilCheck (.pointer (some ⟨b, 0, none⟩)) rfl ⟨_, rfl⟩ rfl ?_)
            refine r_cons (s_fieldAddr 43 0 0 0 23 rfl fi_43_0 rfl rfl ?_)
            refine r_cons (s_store H71 3 (.slice (cutAt pp10 (2 * k + 1) cc11 1) (R.length - (2 * k + 1)) (cc11 - (2 * k + 1))) rfl rfl rfl sz_23 rfl (Nat.le_of_ble_eq_true rfl) rfl (cs' := #[.slice (cutAt pp10 (2 * k + 1) cc11 1) (R.length - (2 * k + 1)) (cc11 - (2 * k + 1))]) rfl ?_); intro w72 H73
            refine r_nil ?_
            refine g_seq ?_
            refine g_seq ?_
            refine g_region ?_
            refine r_cons (s_move (.int .i64 (k : Int)) rfl rfl ?_)
            refine r_cons (s_eql false rfl rfl (dfalse (by omega)) rfl ?_)
            refine r_nil ?_
            refine g_false rfl ?_
            refine g_skip ?_
            refine g_seq ?_
            refine g_region ?_
            refine r_cons (s_move (.int .i64 (k : Int)) rfl rfl ?_)
            have hpw := pow_le63 (k := k) (by omega)
            have hq : 0 < 2 ^ k := Nat.pow_pos (by decide)
            refine r_cons (s_shl ((2 ^ k : Nat) : Int) rfl rfl (by omega) (shl_one rfl (by omega)) rfl ?_)
            refine r_cons (s_move (.int .u64 (valOf ((R.drop (k + 1)).take ((2 * k + 1) - (k + 1))) : Int)) rfl rfl ?_)
            refine r_cons (s_add ((2 ^ k + valOf ((R.drop (k + 1)).take (2 * k + 1 - (k + 1))) : Nat) : Int) rfl rfl ((wu64 (by generalize 2 ^ k = q at *; omega)).trans (by generalize 2 ^ k = q at *; omega)) rfl ?_)
            refine r_cons (s_sub ((2 ^ k + valOf ((R.drop (k + 1)).take (2 * k + 1 - (k + 1))) - 1 : Nat) : Int) rfl rfl ((wu64 (by generalize 2 ^ k = q at *; omega)).trans (by generalize 2 ^ k = q at *; omega)) rfl ?_)
            refine r_cons (s_assign (.int .u64 ((2 ^ k + valOf ((R.drop (k + 1)).take (2 * k + 1 - (k + 1))) - 1 : Nat) : Int)) rfl rfl ?_)
            refine r_cons (s_assign (.int .i64 0) rfl rfl ?_)
            refine r_nil ?_
            refine g_ret' [.int .u64 ((2 ^ k + valOf ((R.drop (k + 1)).take (2 * k + 1 - (k + 1))) - 1 : Nat) : Int), .int .i64 0] Try.func41 Try.results41 ⟨rfl, rfl, trivial⟩ ?_
            have H74 : St W w72 (blk b (.cells #[.slice (cutAt pp10 (2 * k + 1) cc11 1) (R.length - (2 * k + 1)) (cc11 - (2 * k + 1))] 43 (0, 0)) :: Im 1 (.slice (cutAt pp10 (2 * k + 1) cc11 1) (R.length - (2 * k + 1)) (cc11 - (2 * k + 1))) (R.length - (2 * k + 1)) ((R.drop (2 * k + 1)).flatMap blc) :: Im 1 (.slice (cutAt pp10 (k + 1) cc11 1) ((2 * k + 1) - (k + 1)) (cc11 - (k + 1))) ((2 * k + 1) - (k + 1)) (((R.drop (k + 1)).take ((2 * k + 1) - (k + 1))).flatMap blc) :: Im 1 (.slice pp10 R.length cc11) R.length (R.flatMap blc) :: (F.set i emp)) := (((((H73.move 4 rfl).move 2 rfl).move 2 rfl).move 4 rfl).drop 4 rfl)
            have H75 : St W w72 (blk b (.cells #[.slice (cutAt pp10 (2 * k + 1) cc11 1) (R.length - (2 * k + 1)) (cc11 - (2 * k + 1))] 43 (0, 0)) :: Im 1 (.slice (cutAt pp10 (2 * k + 1) cc11 1) (R.length - (2 * k + 1)) (cc11 - (2 * k + 1))) ((R.drop (2 * k + 1)).length) ((R.drop (2 * k + 1)).flatMap blc) :: Im 1 (.slice (cutAt pp10 (k + 1) cc11 1) ((2 * k + 1) - (k + 1)) (cc11 - (k + 1))) ((2 * k + 1) - (k + 1)) (((R.drop (k + 1)).take ((2 * k + 1) - (k + 1))).flatMap blc) :: Im 1 (.slice pp10 R.length cc11) R.length (R.flatMap blc) :: (F.set i emp)) := by rw [show (R.drop (2 * k + 1)).length = R.length - (2 * k + 1) from by simp only [List.length_drop, List.length_take]; (try omega)]; exact H74
            have H76 : St W w72 (RSrc b (R.drop (2 * k + 1)) :: Im 1 (.slice (cutAt pp10 (k + 1) cc11 1) ((2 * k + 1) - (k + 1)) (cc11 - (k + 1))) ((2 * k + 1) - (k + 1)) (((R.drop (k + 1)).take ((2 * k + 1) - (k + 1))).flatMap blc) :: Im 1 (.slice pp10 R.length cc11) R.length (R.flatMap blc) :: (F.set i emp)) := St.shut_ex (.slice (cutAt pp10 (2 * k + 1) cc11 1) (R.length - (2 * k + 1)) (cc11 - (2 * k + 1))) (St.shut_star (ls := [blk b (.cells #[.slice (cutAt pp10 (2 * k + 1) cc11 1) (R.length - (2 * k + 1)) (cc11 - (2 * k + 1))] 43 (0, 0)), Im 1 (.slice (cutAt pp10 (2 * k + 1) cc11 1) (R.length - (2 * k + 1)) (cc11 - (2 * k + 1))) ((R.drop (2 * k + 1)).length) ((R.drop (2 * k + 1)).flatMap blc)]) H75)
            have H77 : St W w72 (RSrc b (R.drop (2 * k + 1)) :: (F.set i emp)) := ((H76.drop 1 rfl).drop 1 rfl)
            have hE : natE R = 0 := natE_0 (by omega) (by omega) (by rw [← hlow]; omega)
            have hN : natN R = 2 * k + 1 := by rw [natN_0 hE]; omega
            have hv : (natU R : Int) = ((2 ^ k + valOf ((R.drop (k + 1)).take (2 * k + 1 - (k + 1))) - 1 : Nat) : Int) := by rw [natU_is hE (by omega), ← hlow, hzz]; congr 1; omega
            exact ⟨by rw [hE, hv]; rfl, by rw [hN]; exact St.back hi H77⟩
    · skip
      refine r_cons (s_lss false rfl rfl (dfalse hc23) rfl ?_)
      refine r_cons (s_move (.bool false) rfl rfl ?_)
      refine r_cons (r_pass rfl rfl rfl rfl rfl ?_)
      refine r_cons (r_pass rfl rfl rfl rfl rfl ?_)
      refine r_cons (s_pick_f (.bool false) rfl rfl rfl ?_)
      refine r_cons (s_move (.bool false) rfl rfl ?_)
      refine r_cons (r_pass rfl rfl rfl rfl rfl ?_)
      refine r_cons (r_pass rfl rfl rfl rfl rfl ?_)
      refine r_cons (r_pass rfl rfl rfl rfl rfl ?_)
      refine r_cons (r_pass rfl rfl rfl rfl rfl ?_)
      refine r_cons (r_pass rfl rfl rfl rfl rfl ?_)
      refine r_cons (r_pass rfl rfl rfl rfl rfl ?_)
      refine r_cons (r_pass rfl rfl rfl rfl rfl ?_)
      refine r_cons (r_pass rfl rfl rfl rfl rfl ?_)
      refine r_cons (s_pick_f (.bool false) rfl rfl rfl ?_)
      refine r_nil ?_
      refine g_false rfl ?_
      refine g_exit (by rfl) ?_
      refine g_seq ?_
      refine g_seq ?_
      refine g_region ?_
      refine r_cons (s_move (.int .i64 (k : Int)) rfl rfl ?_)
      have hzz : zeros R = k := zeros_is hk hkr hz (by first | (left; omega) | (right; left; omega) | (right; right; simpa using hz))
      clear hz
      by_cases hc78 : (k : Int) = 65
      · skip
        refine r_cons (s_eql true rfl rfl (dtrue hc78) rfl ?_)
        refine r_nil ?_
        refine g_true rfl ?_
        refine g_seq ?_
        refine g_region ?_
        refine r_cons (s_assign (.int .u64 0) rfl rfl ?_)
        refine r_cons (s_assign (.int .i64 11) rfl rfl ?_)
        refine r_nil ?_
        refine g_ret' [.int .u64 0, .int .i64 11] Try.func41 Try.results41 ⟨rfl, rfl, trivial⟩ ?_
        have H79 : St W w3 (blk b (.cells #[.slice pp10 R.length cc11] 43 (0, 0)) :: Im 1 (.slice pp10 R.length cc11) R.length (R.flatMap blc) :: (F.set i emp)) := (((H22.move 2 rfl).move 2 rfl).drop 2 rfl)
        have H80 : St W w3 (RSrc b R :: (F.set i emp)) := St.shut_ex (.slice pp10 R.length cc11) (St.shut_star (ls := [blk b (.cells #[.slice pp10 R.length cc11] 43 (0, 0)), Im 1 (.slice pp10 R.length cc11) R.length (R.flatMap blc)]) H79)
        have H81 : St W w3 (RSrc b R :: (F.set i emp)) := H80
        have hE : natE R = 11 := by first | exact natE_65 (by omega) | exact natE_11 (by omega) (by omega) (by rw [← hlow]; omega)
        have hE0 : ¬ natE R = 0 := by rw [hE]; decide
        exact ⟨by rw [natU_no hE0, hE]; rfl, by rw [natN_no hE0, List.drop_zero]; exact St.back hi H81⟩
      · skip
        refine r_cons (s_eql false rfl rfl (dfalse hc78) rfl ?_)
        refine r_nil ?_
        refine g_false rfl ?_
        refine g_skip ?_
        refine g_seq ?_
        refine g_seq ?_
        refine g_region ?_
        refine r_cons (s_move (.int .i64 (k : Int)) rfl rfl ?_)
        refine r_cons (s_mul ((2 * k : Nat) : Int) rfl rfl ((wi64 (by omega)).trans (by omega)) rfl ?_)
        refine r_cons (s_add (((2 * k : Nat) : Int) + 1) rfl rfl (wi64 (by omega)) rfl ?_)
        refine r_cons (s_move (.pointer (some ⟨b, 0, none⟩)) rfl rfl ?_)
        refine r_cons (s_nilCheck (.pointer (some ⟨b, 0, none⟩)) rfl ⟨_, rfl⟩ rfl ?_)
        refine r_cons (s_fieldAddr 43 0 0 0 23 rfl fi_43_0 rfl rfl ?_)
        refine r_cons (s_load (.slice pp10 R.length cc11) ag_23 rfl (H22.blk_at (i := 1) rfl) rfl rfl ?_)
        refine r_cons (s_len R.length rfl ⟨_, un_23⟩ rfl ?_)
        by_cases hc82 : (R.length : Int) < ((2 * k : Nat) : Int) + 1
        · skip
          refine r_cons (s_gtr true rfl rfl (dtrue hc82) rfl ?_)
          refine r_nil ?_
          refine g_true rfl ?_
          refine g_seq ?_
          refine g_region ?_
          refine r_cons (s_assign (.int .u64 0) rfl rfl ?_)
          refine r_cons (s_assign (.int .i64 10) rfl rfl ?_)
          refine r_nil ?_
          refine g_ret' [.int .u64 0, .int .i64 10] Try.func41 Try.results41 ⟨rfl, rfl, trivial⟩ ?_
          have H83 : St W w3 (blk b (.cells #[.slice pp10 R.length cc11] 43 (0, 0)) :: Im 1 (.slice pp10 R.length cc11) R.length (R.flatMap blc) :: (F.set i emp)) := (((H22.move 2 rfl).move 2 rfl).drop 2 rfl)
          have H84 : St W w3 (RSrc b R :: (F.set i emp)) := St.shut_ex (.slice pp10 R.length cc11) (St.shut_star (ls := [blk b (.cells #[.slice pp10 R.length cc11] 43 (0, 0)), Im 1 (.slice pp10 R.length cc11) R.length (R.flatMap blc)]) H83)
          have H85 : St W w3 (RSrc b R :: (F.set i emp)) := H84
          have hE : natE R = 10 := natE_10 (by omega) (by omega)
          have hE0 : ¬ natE R = 0 := by rw [hE]; decide
          exact ⟨by rw [natU_no hE0, hE]; rfl, by rw [natN_no hE0, List.drop_zero]; exact St.back hi H85⟩
        · skip
          refine r_cons (s_gtr false rfl rfl (dfalse hc82) rfl ?_)
          refine r_nil ?_
          refine g_false rfl ?_
          refine g_skip ?_
          refine g_seq ?_
          refine g_region ?_
          refine r_cons (s_move (.pointer (some ⟨b, 0, none⟩)) rfl rfl ?_)
          refine r_cons (s_nilCheck (.pointer (some ⟨b, 0, none⟩)) rfl ⟨_, rfl⟩ rfl ?_)
          refine r_cons (s_fieldAddr 43 0 0 0 23 rfl fi_43_0 rfl rfl ?_)
          refine r_cons (s_load (.slice pp10 R.length cc11) ag_23 rfl (H22.blk_at (i := 1) rfl) rfl rfl ?_)
          refine r_cons (s_move (.int .i64 (k : Int)) rfl rfl ?_)
          refine r_cons (s_add ((k : Int) + 1) rfl rfl (wi64 (by omega)) rfl ?_)
          refine r_cons (s_move (.int .i64 (k : Int)) rfl rfl ?_)
          refine r_cons (s_mul ((2 * k : Nat) : Int) rfl rfl ((wi64 (by omega)).trans (by omega)) rfl ?_)
          refine r_cons (s_add (((2 * k : Nat) : Int) + 1) rfl rfl (wi64 (by omega)) rfl ?_)
          have hc86 := Im.cap H22 (i := 2) rfl
          refine r_cons (s_slice pp10 ((k : Int) + 1) (((2 * k : Nat) : Int) + 1) 1 (.slice (cutAt pp10 (k + 1) cc11 1) ((2 * k + 1) - (k + 1)) (cc11 - (k + 1))) rfl rfl rfl el_23 (by omega) (by first | rfl | (congr 1; omega)) rfl ?_)
          have H87 : St W w3 (Im 1 (.slice (cutAt pp10 (k + 1) cc11 1) ((2 * k + 1) - (k + 1)) (cc11 - (k + 1))) ((2 * k + 1) - (k + 1)) (((R.drop (k + 1)).take ((2 * k + 1) - (k + 1))).flatMap blc) :: imi (0 < R.length) gA12 (.cells kA14 eA15 zA16) :: blk b (.cells #[.slice pp10 R.length cc11] 43 (0, 0)) :: Im 1 (.slice pp10 R.length cc11) R.length (R.flatMap blc) :: (F.set i emp)) := Im.cut blc_len (k + 1) (2 * k + 1) H22 (i := 2) rfl (by omega) (by omega)
          refine r_cons (s_call [.slice (cutAt pp10 (k + 1) cc11 1) ((2 * k + 1) - (k + 1)) (cc11 - (k + 1))] pl_52 rfl rfl (ref01_value _ _ ((R.drop (k + 1)).take ((2 * k + 1) - (k + 1))) (by first | rfl | (simp only [List.length_take, List.length_drop]; omega)) (by omega) (j := 0) rfl H87) ?_)
          rintro _ w88 ⟨rfl, H89⟩
          refine r_cons (s_assign (.int .u64 (valOf ((R.drop (k + 1)).take ((2 * k + 1) - (k + 1))) : Int)) rfl rfl ?_)
          refine r_nil ?_
          refine g_seq ?_
          refine g_seq ?_
          refine g_region ?_
          have hlow : valOf ((R.drop (k + 1)).take (2 * k + 1 - (k + 1))) = valOf ((R.drop (zeros R + 1)).take (zeros R)) := by rw [hzz]; congr 2; omega
          have hlt : valOf ((R.drop (k + 1)).take (2 * k + 1 - (k + 1))) < 2 ^ k := by rw [hlow, hzz]; exact valOf_take_lt _ _
          refine r_cons (s_move (.int .i64 (k : Int)) rfl rfl ?_)
          by_cases hc90 : (k : Int) = 64
          · skip
            refine r_cons (s_eql true rfl rfl (dtrue hc90) rfl ?_)
            refine r_cons (s_move (.bool true) rfl rfl ?_)
            refine r_cons (r_take rfl rfl ?_)
            refine s_move (.int .u64 (valOf ((R.drop (k + 1)).take ((2 * k + 1) - (k + 1))) : Int)) rfl rfl ?_
            refine r_cons (r_take rfl rfl ?_)
            by_cases hc91 : (0 : Int) < (valOf ((R.drop (k + 1)).take ((2 * k + 1) - (k + 1))) : Int)
            · skip
              refine s_gtr true rfl rfl (dtrue hc91) rfl ?_
              refine r_cons (s_pick_t (.bool true) rfl rfl rfl ?_)
              refine r_nil ?_
              refine g_true rfl ?_
              refine g_seq ?_
              refine g_region ?_
              refine r_cons (s_assign (.int .u64 0) rfl rfl ?_)
              refine r_cons (s_assign (.int .i64 11) rfl rfl ?_)
              refine r_nil ?_
              refine g_ret' [.int .u64 0, .int .i64 11] Try.func41 Try.results41 ⟨rfl, rfl, trivial⟩ ?_
              have H92 : St W w88 (blk b (.cells #[.slice pp10 R.length cc11] 43 (0, 0)) :: Im 1 (.slice pp10 R.length cc11) R.length (R.flatMap blc) :: Im 1 (.slice (cutAt pp10 (k + 1) cc11 1) ((2 * k + 1) - (k + 1)) (cc11 - (k + 1))) ((2 * k + 1) - (k + 1)) (((R.drop (k + 1)).take ((2 * k + 1) - (k + 1))).flatMap blc) :: (F.set i emp)) := (((H89.move 3 rfl).move 3 rfl).drop 3 rfl)
              have H93 : St W w88 (RSrc b R :: Im 1 (.slice (cutAt pp10 (k + 1) cc11 1) ((2 * k + 1) - (k + 1)) (cc11 - (k + 1))) ((2 * k + 1) - (k + 1)) (((R.drop (k + 1)).take ((2 * k + 1) - (k + 1))).flatMap blc) :: (F.set i emp)) := St.shut_ex (.slice pp10 R.length cc11) (St.shut_star (ls := [blk b (.cells #[.slice pp10 R.length cc11] 43 (0, 0)), Im 1 (.slice pp10 R.length cc11) R.length (R.flatMap blc)]) H92)
              have H94 : St W w88 (RSrc b R :: (F.set i emp)) := (H93.drop 1 rfl)
              have hE : natE R = 11 := by first | exact natE_65 (by omega) | exact natE_11 (by omega) (by omega) (by rw [← hlow]; omega)
              have hE0 : ¬ natE R = 0 := by rw [hE]; decide
              exact ⟨by rw [natU_no hE0, hE]; rfl, by rw [natN_no hE0, List.drop_zero]; exact St.back hi H94⟩
            · skip
              refine s_gtr false rfl rfl (dfalse hc91) rfl ?_
              refine r_cons (s_pick_t (.bool false) rfl rfl rfl ?_)
              refine r_nil ?_
              refine g_false rfl ?_
              refine g_skip ?_
              refine g_seq ?_
              refine g_region ?_
              refine r_cons (s_move (.pointer (some ⟨b, 0, none⟩)) rfl rfl ?_)
              refine r_cons (s_move (.pointer (some ⟨b, 0, none⟩)) rfl rfl ?_)
              refine r_cons (s_nilCheck (.pointer (some ⟨b, 0, none⟩)) rfl ⟨_, rfl⟩ rfl ?_)
              refine r_cons (s_fieldAddr 43 0 0 0 23 rfl fi_43_0 rfl rfl ?_)
              refine r_cons (s_load (.slice pp10 R.length cc11) ag_23 rfl (H89.blk_at (i := 2) rfl) rfl rfl ?_)
              refine r_cons (s_move (.int .i64 (k : Int)) rfl rfl ?_)
              refine r_cons (s_mul ((2 * k : Nat) : Int) rfl rfl ((wi64 (by omega)).trans (by omega)) rfl ?_)
              refine r_cons (s_add (((2 * k : Nat) : Int) + 1) rfl rfl (wi64 (by omega)) rfl ?_)
              have hc95 := Im.cap H89 (i := 3) rfl
              refine r_cons (s_slice_l pp10 (((2 * k : Nat) : Int) + 1) 1 (.slice (cutAt pp10 (2 * k + 1) cc11 1) (R.length - (2 * k + 1)) (cc11 - (2 * k + 1))) rfl rfl el_23 (by omega) (by first | rfl | (congr 1; omega)) rfl ?_)
              have H96 : St W w88 (Im 1 (.slice (cutAt pp10 (2 * k + 1) cc11 1) (R.length - (2 * k + 1)) (cc11 - (2 * k + 1))) (R.length - (2 * k + 1)) ((R.drop (2 * k + 1)).flatMap blc) :: Im 1 (.slice (cutAt pp10 (k + 1) cc11 1) ((2 * k + 1) - (k + 1)) (cc11 - (k + 1))) ((2 * k + 1) - (k + 1)) (((R.drop (k + 1)).take ((2 * k + 1) - (k + 1))).flatMap blc) :: imi (0 < R.length) gA12 (.cells kA14 eA15 zA16) :: blk b (.cells #[.slice pp10 R.length cc11] 43 (0, 0)) :: Im 1 (.slice pp10 R.length cc11) R.length (R.flatMap blc) :: (F.set i emp)) := Im.cut_l blc_len (2 * k + 1) H89 (i := 3) rfl (by omega)
              refine r_cons (s_nilCheck (.pointer (some ⟨b, 0, none⟩)) rfl ⟨_, rfl⟩ rfl ?_)
              refine r_cons (s_fieldAddr 43 0 0 0 23 rfl fi_43_0 rfl rfl ?_)
              refine r_cons (s_store H96 3 (.slice (cutAt pp10 (2 * k + 1) cc11 1) (R.length - (2 * k + 1)) (cc11 - (2 * k + 1))) rfl rfl rfl sz_23 rfl (Nat.le_of_ble_eq_true rfl) rfl (cs' := #[.slice (cutAt pp10 (2 * k + 1) cc11 1) (R.length - (2 * k + 1)) (cc11 - (2 * k + 1))]) rfl ?_); intro w97 H98
              refine r_nil ?_
              refine g_seq ?_
              refine g_seq ?_
              refine g_region ?_
              refine r_cons (s_move (.int .i64 (k : Int)) rfl rfl ?_)
              refine r_cons (s_eql true rfl rfl (dtrue (by omega)) rfl ?_)
              refine r_nil ?_
              refine g_true rfl ?_
              refine g_seq ?_
              refine g_region ?_
              refine r_cons (s_assign (.int .u64 18446744073709551615) rfl rfl ?_)
              refine r_cons (s_assign (.int .i64 0) rfl rfl ?_)
              refine r_nil ?_
              refine g_ret' [.int .u64 18446744073709551615, .int .i64 0] Try.func41 Try.results41 ⟨rfl, rfl, trivial⟩ ?_
              have H99 : St W w97 (blk b (.cells #[.slice (cutAt pp10 (2 * k + 1) cc11 1) (R.length - (2 * k + 1)) (cc11 - (2 * k + 1))] 43 (0, 0)) :: Im 1 (.slice (cutAt pp10 (2 * k + 1) cc11 1) (R.length - (2 * k + 1)) (cc11 - (2 * k + 1))) (R.length - (2 * k + 1)) ((R.drop (2 * k + 1)).flatMap blc) :: Im 1 (.slice (cutAt pp10 (k + 1) cc11 1) ((2 * k + 1) - (k + 1)) (cc11 - (k + 1))) ((2 * k + 1) - (k + 1)) (((R.drop (k + 1)).take ((2 * k + 1) - (k + 1))).flatMap blc) :: Im 1 (.slice pp10 R.length cc11) R.length (R.flatMap blc) :: (F.set i emp)) := (((((H98.move 4 rfl).move 2 rfl).move 2 rfl).move 4 rfl).drop 4 rfl)
              have H100 : St W w97 (blk b (.cells #[.slice (cutAt pp10 (2 * k + 1) cc11 1) (R.length - (2 * k + 1)) (cc11 - (2 * k + 1))] 43 (0, 0)) :: Im 1 (.slice (cutAt pp10 (2 * k + 1) cc11 1) (R.length - (2 * k + 1)) (cc11 - (2 * k + 1))) ((R.drop (2 * k + 1)).length) ((R.drop (2 * k + 1)).flatMap blc) :: Im 1 (.slice (cutAt pp10 (k + 1) cc11 1) ((2 * k + 1) - (k + 1)) (cc11 - (k + 1))) ((2 * k + 1) - (k + 1)) (((R.drop (k + 1)).take ((2 * k + 1) - (k + 1))).flatMap blc) :: Im 1 (.slice pp10 R.length cc11) R.length (R.flatMap blc) :: (F.set i emp)) := by rw [show (R.drop (2 * k + 1)).length = R.length - (2 * k + 1) from by simp only [List.length_drop, List.length_take]; (try omega)]; exact H99
              have H101 : St W w97 (RSrc b (R.drop (2 * k + 1)) :: Im 1 (.slice (cutAt pp10 (k + 1) cc11 1) ((2 * k + 1) - (k + 1)) (cc11 - (k + 1))) ((2 * k + 1) - (k + 1)) (((R.drop (k + 1)).take ((2 * k + 1) - (k + 1))).flatMap blc) :: Im 1 (.slice pp10 R.length cc11) R.length (R.flatMap blc) :: (F.set i emp)) := St.shut_ex (.slice (cutAt pp10 (2 * k + 1) cc11 1) (R.length - (2 * k + 1)) (cc11 - (2 * k + 1))) (St.shut_star (ls := [blk b (.cells #[.slice (cutAt pp10 (2 * k + 1) cc11 1) (R.length - (2 * k + 1)) (cc11 - (2 * k + 1))] 43 (0, 0)), Im 1 (.slice (cutAt pp10 (2 * k + 1) cc11 1) (R.length - (2 * k + 1)) (cc11 - (2 * k + 1))) ((R.drop (2 * k + 1)).length) ((R.drop (2 * k + 1)).flatMap blc)]) H100)
              have H102 : St W w97 (RSrc b (R.drop (2 * k + 1)) :: (F.set i emp)) := ((H101.drop 1 rfl).drop 1 rfl)
              have hE : natE R = 0 := natE_0 (by omega) (by omega) (by rw [← hlow]; omega)
              have hN : natN R = 2 * k + 1 := by rw [natN_0 hE]; omega
              have hv : (natU R : Int) = 18446744073709551615 := by rw [natU_64 hE (by omega)]; rfl
              exact ⟨by rw [hE, hv]; rfl, by rw [hN]; exact St.back hi H102⟩
          · skip
            refine r_cons (s_eql false rfl rfl (dfalse hc90) rfl ?_)
            refine r_cons (s_move (.bool false) rfl rfl ?_)
            refine r_cons (r_pass rfl rfl rfl rfl rfl ?_)
            refine r_cons (r_pass rfl rfl rfl rfl rfl ?_)
            refine r_cons (s_pick_f (.bool false) rfl rfl rfl ?_)
            refine r_nil ?_
            refine g_false rfl ?_
            refine g_skip ?_
            refine g_seq ?_
            refine g_region ?_
            refine r_cons (s_move (.pointer (some ⟨b, 0, none⟩)) rfl rfl ?_)
            refine r_cons (s_move (.pointer (some ⟨b, 0, none⟩)) rfl rfl ?_)
            refine r_cons (s_nilCheck (.pointer (some ⟨b, 0, none⟩)) rfl ⟨_, rfl⟩ rfl ?_)
            refine r_cons (s_fieldAddr 43 0 0 0 23 rfl fi_43_0 rfl rfl ?_)
            refine r_cons (s_load (.slice pp10 R.length cc11) ag_23 rfl (H89.blk_at (i := 2) rfl) rfl rfl ?_)
            refine r_cons (s_move (.int .i64 (k : Int)) rfl rfl ?_)
            refine r_cons (s_mul ((2 * k : Nat) : Int) rfl rfl ((wi64 (by omega)).trans (by omega)) rfl ?_)
            refine r_cons (s_add (((2 * k : Nat) : Int) + 1) rfl rfl (wi64 (by omega)) rfl ?_)
            have hc103 := Im.cap H89 (i := 3) rfl
            refine r_cons (s_slice_l pp10 (((2 * k : Nat) : Int) + 1) 1 (.slice (cutAt pp10 (2 * k + 1) cc11 1) (R.length - (2 * k + 1)) (cc11 - (2 * k + 1))) rfl rfl el_23 (by omega) (by first | rfl | (congr 1; omega)) rfl ?_)
            have H104 : St W w88 (Im 1 (.slice (cutAt pp10 (2 * k + 1) cc11 1) (R.length - (2 * k + 1)) (cc11 - (2 * k + 1))) (R.length - (2 * k + 1)) ((R.drop (2 * k + 1)).flatMap blc) :: Im 1 (.slice (cutAt pp10 (k + 1) cc11 1) ((2 * k + 1) - (k + 1)) (cc11 - (k + 1))) ((2 * k + 1) - (k + 1)) (((R.drop (k + 1)).take ((2 * k + 1) - (k + 1))).flatMap blc) :: imi (0 < R.length) gA12 (.cells kA14 eA15 zA16) :: blk b (.cells #[.slice pp10 R.length cc11] 43 (0, 0)) :: Im 1 (.slice pp10 R.length cc11) R.length (R.flatMap blc) :: (F.set i emp)) := Im.cut_l blc_len (2 * k + 1) H89 (i := 3) rfl (by omega)
            refine r_cons (s_nilCheck (.pointer (some ⟨b, 0, none⟩)) rfl ⟨_, rfl⟩ rfl ?_)
            refine r_cons (s_fieldAddr 43 0 0 0 23 rfl fi_43_0 rfl rfl ?_)
            refine r_cons (s_store H104 3 (.slice (cutAt pp10 (2 * k + 1) cc11 1) (R.length - (2 * k + 1)) (cc11 - (2 * k + 1))) rfl rfl rfl sz_23 rfl (Nat.le_of_ble_eq_true rfl) rfl (cs' := #[.slice (cutAt pp10 (2 * k + 1) cc11 1) (R.length - (2 * k + 1)) (cc11 - (2 * k + 1))]) rfl ?_); intro w105 H106
            refine r_nil ?_
            refine g_seq ?_
            refine g_seq ?_
            refine g_region ?_
            refine r_cons (s_move (.int .i64 (k : Int)) rfl rfl ?_)
            refine r_cons (s_eql false rfl rfl (dfalse (by omega)) rfl ?_)
            refine r_nil ?_
            refine g_false rfl ?_
            refine g_skip ?_
            refine g_seq ?_
            refine g_region ?_
            refine r_cons (s_move (.int .i64 (k : Int)) rfl rfl ?_)
            have hpw := pow_le63 (k := k) (by omega)
            have hq : 0 < 2 ^ k := Nat.pow_pos (by decide)
            refine r_cons (s_shl ((2 ^ k : Nat) : Int) rfl rfl (by omega) (shl_one rfl (by omega)) rfl ?_)
            refine r_cons (s_move (.int .u64 (valOf ((R.drop (k + 1)).take ((2 * k + 1) - (k + 1))) : Int)) rfl rfl ?_)
            refine r_cons (s_add ((2 ^ k + valOf ((R.drop (k + 1)).take (2 * k + 1 - (k + 1))) : Nat) : Int) rfl rfl ((wu64 (by generalize 2 ^ k = q at *; omega)).trans (by generalize 2 ^ k = q at *; omega)) rfl ?_)
            refine r_cons (s_sub ((2 ^ k + valOf ((R.drop (k + 1)).take (2 * k + 1 - (k + 1))) - 1 : Nat) : Int) rfl rfl ((wu64 (by generalize 2 ^ k = q at *; omega)).trans (by generalize 2 ^ k = q at *; omega)) rfl ?_)
            refine r_cons (s_assign (.int .u64 ((2 ^ k + valOf ((R.drop (k + 1)).take (2 * k + 1 - (k + 1))) - 1 : Nat) : Int)) rfl rfl ?_)
            refine r_cons (s_assign (.int .i64 0) rfl rfl ?_)
            refine r_nil ?_
            refine g_ret' [.int .u64 ((2 ^ k + valOf ((R.drop (k + 1)).take (2 * k + 1 - (k + 1))) - 1 : Nat) : Int), .int .i64 0] Try.func41 Try.results41 ⟨rfl, rfl, trivial⟩ ?_
            have H107 : St W w105 (blk b (.cells #[.slice (cutAt pp10 (2 * k + 1) cc11 1) (R.length - (2 * k + 1)) (cc11 - (2 * k + 1))] 43 (0, 0)) :: Im 1 (.slice (cutAt pp10 (2 * k + 1) cc11 1) (R.length - (2 * k + 1)) (cc11 - (2 * k + 1))) (R.length - (2 * k + 1)) ((R.drop (2 * k + 1)).flatMap blc) :: Im 1 (.slice (cutAt pp10 (k + 1) cc11 1) ((2 * k + 1) - (k + 1)) (cc11 - (k + 1))) ((2 * k + 1) - (k + 1)) (((R.drop (k + 1)).take ((2 * k + 1) - (k + 1))).flatMap blc) :: Im 1 (.slice pp10 R.length cc11) R.length (R.flatMap blc) :: (F.set i emp)) := (((((H106.move 4 rfl).move 2 rfl).move 2 rfl).move 4 rfl).drop 4 rfl)
            have H108 : St W w105 (blk b (.cells #[.slice (cutAt pp10 (2 * k + 1) cc11 1) (R.length - (2 * k + 1)) (cc11 - (2 * k + 1))] 43 (0, 0)) :: Im 1 (.slice (cutAt pp10 (2 * k + 1) cc11 1) (R.length - (2 * k + 1)) (cc11 - (2 * k + 1))) ((R.drop (2 * k + 1)).length) ((R.drop (2 * k + 1)).flatMap blc) :: Im 1 (.slice (cutAt pp10 (k + 1) cc11 1) ((2 * k + 1) - (k + 1)) (cc11 - (k + 1))) ((2 * k + 1) - (k + 1)) (((R.drop (k + 1)).take ((2 * k + 1) - (k + 1))).flatMap blc) :: Im 1 (.slice pp10 R.length cc11) R.length (R.flatMap blc) :: (F.set i emp)) := by rw [show (R.drop (2 * k + 1)).length = R.length - (2 * k + 1) from by simp only [List.length_drop, List.length_take]; (try omega)]; exact H107
            have H109 : St W w105 (RSrc b (R.drop (2 * k + 1)) :: Im 1 (.slice (cutAt pp10 (k + 1) cc11 1) ((2 * k + 1) - (k + 1)) (cc11 - (k + 1))) ((2 * k + 1) - (k + 1)) (((R.drop (k + 1)).take ((2 * k + 1) - (k + 1))).flatMap blc) :: Im 1 (.slice pp10 R.length cc11) R.length (R.flatMap blc) :: (F.set i emp)) := St.shut_ex (.slice (cutAt pp10 (2 * k + 1) cc11 1) (R.length - (2 * k + 1)) (cc11 - (2 * k + 1))) (St.shut_star (ls := [blk b (.cells #[.slice (cutAt pp10 (2 * k + 1) cc11 1) (R.length - (2 * k + 1)) (cc11 - (2 * k + 1))] 43 (0, 0)), Im 1 (.slice (cutAt pp10 (2 * k + 1) cc11 1) (R.length - (2 * k + 1)) (cc11 - (2 * k + 1))) ((R.drop (2 * k + 1)).length) ((R.drop (2 * k + 1)).flatMap blc)]) H108)
            have H110 : St W w105 (RSrc b (R.drop (2 * k + 1)) :: (F.set i emp)) := ((H109.drop 1 rfl).drop 1 rfl)
            have hE : natE R = 0 := natE_0 (by omega) (by omega) (by rw [← hlow]; omega)
            have hN : natN R = 2 * k + 1 := by rw [natN_0 hE]; omega
            have hv : (natU R : Int) = ((2 ^ k + valOf ((R.drop (k + 1)).take (2 * k + 1 - (k + 1))) - 1 : Nat) : Int) := by rw [natU_is hE (by omega), ← hlow, hzz]; congr 1; omega
            exact ⟨by rw [hE, hv]; rfl, by rw [hN]; exact St.back hi H110⟩
set_option maxHeartbeats 4000000 in
set_option maxRecDepth 100000 in
theorem RSrc_Num {W w : World} {F : List Atom} (b : Nat) (R : List Bool) {i : Nat} (hi : F[i]? = some (RSrc b R)) (H : St W w F) : Calls Try.prog 42 #[.pointer (some ⟨b, 0, none⟩)] w (Ret fun v w' => v = .tuple #[.int .i64 (zagN (natU R)), .int .i64 (natE R)] ∧ St W w' (F.set i (RSrc b (R.drop (natN R))))) := by
  have H0 := H.front hi
  refine calls_of_go (n := 25) Try.func42 rfl Try.ntmps42 rfl ?_
  refine g_seq ?_
  refine g_region ?_
  refine r_cons (s_assign (.int .i64 0) rfl rfl ?_)
  refine r_cons (s_assign (.int .i64 0) rfl rfl ?_)
  refine r_nil ?_
  refine g_seq ?_
  refine g_region ?_
  refine r_cons (s_move (.pointer (some ⟨b, 0, none⟩)) rfl rfl ?_)
  refine r_cons (s_call [.pointer (some ⟨b, 0, none⟩)] pl_41 rfl rfl (RSrc_Nat b R   (i := 0) rfl H0) ?_)
  rintro _ w1 ⟨rfl, H2⟩
  refine r_cons (s_move (.tuple #[.int .u64 (natU R : Int), .int .i64 (natE R)]) rfl rfl ?_)
  refine r_cons (s_extract (.int .u64 (natU R : Int)) #[.int .u64 (natU R : Int), .int .i64 (natE R)] rfl rfl rfl ?_)
  refine r_cons (s_extract (.int .i64 (natE R)) #[.int .u64 (natU R : Int), .int .i64 (natE R)] rfl rfl rfl ?_)
  refine r_cons (s_assign (.int .u64 (natU R : Int)) rfl rfl ?_)
  refine r_cons (s_assign (.int .i64 (natE R)) rfl rfl ?_)
  refine r_nil ?_
  refine g_seq ?_
  refine g_seq ?_
  refine g_region ?_
  refine r_cons (s_move (.int .i64 (natE R)) rfl rfl ?_)
  by_cases hc3 : natE R = 0
  · skip
    refine r_cons (s_neq false rfl rfl (ntrue hc3) rfl ?_)
    refine r_nil ?_
    refine g_false rfl ?_
    refine g_skip ?_
    refine g_seq ?_
    refine g_seq ?_
    refine g_region ?_
    refine r_cons (s_move (.int .u64 (natU R : Int)) rfl rfl ?_)
    have hlt := natU_lt R
    refine r_cons (s_rem ((natU R : Int) % 2) rfl rfl (by omega) (tmod_pos (by omega)) rfl ?_)
    by_cases hc4 : (natU R : Int) % 2 = 1
    · skip
      refine r_cons (s_eql true rfl rfl (dtrue hc4) rfl ?_)
      refine r_nil ?_
      refine g_true rfl ?_
      refine g_seq ?_
      refine g_region ?_
      refine r_cons (s_move (.int .u64 (natU R : Int)) rfl rfl ?_)
      refine r_cons (s_quo ((natU R : Int) / 2) rfl rfl (by omega) (by rw [tdiv_pos (by omega)]; exact wu64 (by omega)) rfl ?_)
      refine r_cons (s_conv ((natU R : Int) / 2) rfl us_22 ik_2 (wi64 (by omega)) rfl ?_)
      refine r_cons (s_neg (-((natU R : Int) / 2)) rfl (wi64 (by omega)) rfl ?_)
      refine r_cons (s_sub (-((natU R : Int) / 2) - 1) rfl rfl (wi64 (by omega)) rfl ?_)
      refine r_cons (s_assign (.int .i64 (-((natU R : Int) / 2) - 1)) rfl rfl ?_)
      refine r_cons (s_assign (.int .i64 0) rfl rfl ?_)
      refine r_nil ?_
      refine g_ret' [.int .i64 (-((natU R : Int) / 2) - 1), .int .i64 0] Try.func42 Try.results42 ⟨rfl, rfl, trivial⟩ ?_
      have H5 : St W w1 (RSrc b (R.drop (natN R)) :: (F.set i emp)) := H2
      have hz : zagN (natU R) = -((natU R : Int) / 2) - 1 := by unfold zagN; first | (rw [if_pos (by omega)]; done) | (rw [if_neg (by omega)]; done) | (rw [if_pos (by omega)]; omega) | (rw [if_neg (by omega)]; omega)
      have hE : natE R = 0 := by assumption
      exact ⟨by rw [hE, hz]; rfl, St.back hi H5⟩
    · skip
      refine r_cons (s_eql false rfl rfl (dfalse hc4) rfl ?_)
      refine r_nil ?_
      refine g_false rfl ?_
      refine g_skip ?_
      refine g_seq ?_
      refine g_region ?_
      refine r_cons (s_move (.int .u64 (natU R : Int)) rfl rfl ?_)
      refine r_cons (s_quo ((natU R : Int) / 2) rfl rfl (by omega) (by rw [tdiv_pos (by omega)]; exact wu64 (by omega)) rfl ?_)
      refine r_cons (s_conv ((natU R : Int) / 2) rfl us_22 ik_2 (wi64 (by omega)) rfl ?_)
      refine r_cons (s_assign (.int .i64 ((natU R : Int) / 2)) rfl rfl ?_)
      refine r_cons (s_assign (.int .i64 0) rfl rfl ?_)
      refine r_nil ?_
      refine g_ret' [.int .i64 ((natU R : Int) / 2), .int .i64 0] Try.func42 Try.results42 ⟨rfl, rfl, trivial⟩ ?_
      have H6 : St W w1 (RSrc b (R.drop (natN R)) :: (F.set i emp)) := H2
      have hz : zagN (natU R) = (natU R : Int) / 2 := by unfold zagN; first | (rw [if_pos (by omega)]; done) | (rw [if_neg (by omega)]; done) | (rw [if_pos (by omega)]; omega) | (rw [if_neg (by omega)]; omega)
      have hE : natE R = 0 := by assumption
      exact ⟨by rw [hE, hz]; rfl, St.back hi H6⟩
  · skip
    refine r_cons (s_neq true rfl rfl (nfalse hc3) rfl ?_)
    refine r_nil ?_
    refine g_true rfl ?_
    refine g_seq ?_
    refine g_region ?_
    refine r_cons (s_move (.int .i64 (natE R)) rfl rfl ?_)
    refine r_cons (s_assign (.int .i64 0) rfl rfl ?_)
    refine r_cons (s_assign (.int .i64 (natE R)) rfl rfl ?_)
    refine r_nil ?_
    refine g_ret' [.int .i64 0, .int .i64 (natE R)] Try.func42 Try.results42 ⟨rfl, rfl, trivial⟩ ?_
    have H7 : St W w1 (RSrc b (R.drop (natN R)) :: (F.set i emp)) := H2
    have hE : ¬ natE R = 0 := by assumption
    exact ⟨by rw [natU_no hE]; rfl, St.back hi H7⟩
set_option maxHeartbeats 4000000 in
set_option maxRecDepth 100000 in
theorem RSrc_Flag {W w : World} {F : List Atom} (b : Nat) (R : List Bool) {i : Nat} (hi : F[i]? = some (RSrc b R)) (H : St W w F) : Calls Try.prog 44 #[.pointer (some ⟨b, 0, none⟩)] w (Ret fun v w' => v = .tuple #[.bool (decide ((srcU R 1 : Int) = 1)), .int .i64 (srcE R 1)] ∧ St W w' (F.set i (RSrc b (R.drop (srcN R 1))))) := by
  have H0 := H.front hi
  refine calls_of_go (n := 14) Try.func44 rfl Try.ntmps44 rfl ?_
  refine g_seq ?_
  refine g_region ?_
  refine r_cons (s_assign (.bool false) rfl rfl ?_)
  refine r_cons (s_assign (.int .i64 0) rfl rfl ?_)
  refine r_nil ?_
  refine g_seq ?_
  refine g_region ?_
  refine r_cons (s_move (.pointer (some ⟨b, 0, none⟩)) rfl rfl ?_)
  refine r_cons (s_call [.pointer (some ⟨b, 0, none⟩), .int .i64 1] pl_40 rfl rfl (RSrc_Bits b R 1  (i := 0) rfl H0) ?_)
  rintro _ w1 ⟨rfl, H2⟩
  refine r_cons (s_move (.tuple #[.int .u64 (srcU R 1 : Int), .int .i64 (srcE R 1)]) rfl rfl ?_)
  refine r_cons (s_extract (.int .u64 (srcU R 1 : Int)) #[.int .u64 (srcU R 1 : Int), .int .i64 (srcE R 1)] rfl rfl rfl ?_)
  refine r_cons (s_extract (.int .i64 (srcE R 1)) #[.int .u64 (srcU R 1 : Int), .int .i64 (srcE R 1)] rfl rfl rfl ?_)
  refine r_cons (s_assign (.int .u64 (srcU R 1 : Int)) rfl rfl ?_)
  refine r_cons (s_assign (.int .i64 (srcE R 1)) rfl rfl ?_)
  refine r_nil ?_
  refine g_seq ?_
  refine g_region ?_
  refine r_cons (s_move (.int .u64 (srcU R 1 : Int)) rfl rfl ?_)
  refine r_cons (s_eql (decide ((srcU R 1 : Int) = 1)) rfl rfl rfl rfl ?_)
  refine r_cons (s_move (.int .i64 (srcE R 1)) rfl rfl ?_)
  refine r_cons (s_assign (.bool (decide ((srcU R 1 : Int) = 1))) rfl rfl ?_)
  refine r_cons (s_assign (.int .i64 (srcE R 1)) rfl rfl ?_)
  refine r_nil ?_
  refine g_ret' [.bool (decide ((srcU R 1 : Int) = 1)), .int .i64 (srcE R 1)] Try.func44 Try.results44 ⟨rfl, rfl, trivial⟩ ?_
  have H3 : St W w1 (RSrc b (R.drop (srcN R 1)) :: (F.set i emp)) := H2
  exact ⟨rfl, St.back hi H3⟩
set_option maxHeartbeats 4000000 in
set_option maxRecDepth 100000 in
theorem RSrc_Text {W w : World} {F : List Atom} (b : Nat) (R : List Bool) (hRl : R.length ≤ 1125899906842624) {i : Nat} (hi : F[i]? = some (RSrc b R)) (H : St W w F) : Calls Try.prog 43 #[.pointer (some ⟨b, 0, none⟩)] w (Ret fun v w' => v = .tuple #[.string (textS R), .int .i64 (textE R)] ∧ St W w' (F.set i (RSrc b (R.drop (textN R))))) := by
  have H0 := H.front hi
  refine calls_of_go (n := 53) Try.func43 rfl Try.ntmps43 rfl ?_
  refine g_seq ?_
  refine g_region ?_
  refine r_cons (s_assign (.string ByteArray.empty) rfl rfl ?_)
  refine r_cons (s_assign (.int .i64 0) rfl rfl ?_)
  refine r_nil ?_
  refine g_seq ?_
  refine g_region ?_
  refine r_cons (s_move (.pointer (some ⟨b, 0, none⟩)) rfl rfl ?_)
  refine r_cons (s_nilCheck (.pointer (some ⟨b, 0, none⟩)) rfl ⟨_, rfl⟩ rfl ?_)
  refine r_cons (s_fieldAddr 43 0 0 0 23 rfl fi_43_0 rfl rfl ?_)
  have H1 := H0.move 0 rfl
  obtain ⟨vv2, H3⟩ := St.open_ex H1
  have H4 := St.open_star H3
  obtain ⟨pp5, cc6, gA7, oA8, kA9, eA10, zA11, rfl, hn12, hp13, hx14, hs15, hml, H16⟩ := Im.open_ H4 (i := 1) rfl
  have H17 : St W w (imi (0 < R.length) gA7 (.cells kA9 eA10 zA11) :: blk b (.cells #[.slice pp5 R.length cc6] 43 (0, 0)) :: Im 1 (.slice pp5 R.length cc6) R.length (R.flatMap blc) :: (F.set i emp)) := H16
  refine r_cons (s_load (.slice pp5 R.length cc6) ag_23 rfl (H17.blk_at (i := 1) rfl) rfl rfl ?_)
  have H18 : St W w (Im 1 (.slice pp5 R.length cc6) R.length (R.flatMap blc) :: imi (0 < R.length) gA7 (.cells kA9 eA10 zA11) :: blk b (.cells #[.slice pp5 R.length cc6] 43 (0, 0)) :: Im 1 (.slice pp5 R.length cc6) R.length (R.flatMap blc) :: (F.set i emp)) := H17.dup (i := 2) rfl (Im_pers _ _ _ _)
  refine r_cons (s_assign (.slice pp5 R.length cc6) rfl rfl ?_)
  refine r_nil ?_
  refine g_seq ?_
  refine g_region ?_
  refine r_cons (s_move (.pointer (some ⟨b, 0, none⟩)) rfl rfl ?_)
  have H19 : St W w (blk b (.cells #[.slice pp5 R.length cc6] 43 (0, 0)) :: Im 1 (.slice pp5 R.length cc6) R.length (R.flatMap blc) :: Im 1 (.slice pp5 R.length cc6) R.length (R.flatMap blc) :: (F.set i emp)) := ((((H18.move 3 rfl).move 1 rfl).move 3 rfl).drop 3 rfl)
  have H20 : St W w (RSrc b R :: Im 1 (.slice pp5 R.length cc6) R.length (R.flatMap blc) :: (F.set i emp)) := St.shut_ex (.slice pp5 R.length cc6) (St.shut_star (ls := [blk b (.cells #[.slice pp5 R.length cc6] 43 (0, 0)), Im 1 (.slice pp5 R.length cc6) R.length (R.flatMap blc)]) H19)
  refine r_cons (s_call [.pointer (some ⟨b, 0, none⟩)] pl_41 rfl rfl (RSrc_Nat b R   (i := 0) rfl H20) ?_)
  rintro _ w21 ⟨rfl, H22⟩
  refine r_cons (s_move (.tuple #[.int .u64 (natU R : Int), .int .i64 (natE R)]) rfl rfl ?_)
  refine r_cons (s_extract (.int .u64 (natU R : Int)) #[.int .u64 (natU R : Int), .int .i64 (natE R)] rfl rfl rfl ?_)
  refine r_cons (s_extract (.int .i64 (natE R)) #[.int .u64 (natU R : Int), .int .i64 (natE R)] rfl rfl rfl ?_)
  refine r_cons (s_assign (.int .u64 (natU R : Int)) rfl rfl ?_)
  refine r_cons (s_assign (.int .i64 (natE R)) rfl rfl ?_)
  refine r_nil ?_
  refine g_seq ?_
  refine g_seq ?_
  refine g_region ?_
  refine r_cons (s_move (.int .i64 (natE R)) rfl rfl ?_)
  by_cases hc23 : natE R = 0
  · skip
    refine r_cons (s_neq false rfl rfl (ntrue hc23) rfl ?_)
    refine r_nil ?_
    refine g_false rfl ?_
    refine g_skip ?_
    refine g_seq ?_
    refine g_seq ?_
    refine g_region ?_
    refine r_cons (s_move (.int .u64 (natU R : Int)) rfl rfl ?_)
    refine r_cons (s_move (.pointer (some ⟨b, 0, none⟩)) rfl rfl ?_)
    refine r_cons (s_nilCheck (.pointer (some ⟨b, 0, none⟩)) rfl ⟨_, rfl⟩ rfl ?_)
    refine r_cons (s_fieldAddr 43 0 0 0 23 rfl fi_43_0 rfl rfl ?_)
    have H24 := H22.move 0 rfl
    obtain ⟨vv25, H26⟩ := St.open_ex H24
    have H27 := St.open_star H26
    obtain ⟨pp28, cc29, gA30, oA31, kA32, eA33, zA34, rfl, hn35, hp36, hx37, hs38, hml, H39⟩ := Im.open_ H27 (i := 1) rfl
    have H40 : St W w21 (imi (0 < (R.drop (natN R)).length) gA30 (.cells kA32 eA33 zA34) :: blk b (.cells #[.slice pp28 ((R.drop (natN R)).length) cc29] 43 (0, 0)) :: Im 1 (.slice pp28 ((R.drop (natN R)).length) cc29) ((R.drop (natN R)).length) ((R.drop (natN R)).flatMap blc) :: Im 1 (.slice pp5 R.length cc6) R.length (R.flatMap blc) :: (F.set i emp)) := H39
    refine r_cons (s_load (.slice pp28 ((R.drop (natN R)).length) cc29) ag_23 rfl (H40.blk_at (i := 1) rfl) rfl rfl ?_)
    have hL := List.length_drop (i := natN R) (l := R)
    refine r_cons (s_len ((R.drop (natN R)).length) rfl ⟨_, un_23⟩ rfl ?_)
    refine r_cons (s_quo ((((R.drop (natN R)).length) / 8 : Nat) : Int) rfl rfl (by omega) (by rw [tdiv_pos (by omega)]; exact wi64 (by omega)) rfl ?_)
    refine r_cons (s_conv ((((R.drop (natN R)).length) / 8 : Nat) : Int) rfl us_3 ik_22 (wu64 (by omega)) rfl ?_)
    by_cases hc41 : ((((R.drop (natN R)).length) / 8 : Nat) : Int) < (natU R : Int)
    · skip
      refine r_cons (s_gtr true rfl rfl (dtrue hc41) rfl ?_)
      refine r_nil ?_
      refine g_true rfl ?_
      refine g_seq ?_
      refine g_region ?_
      refine r_cons (s_move (.pointer (some ⟨b, 0, none⟩)) rfl rfl ?_)
      refine r_cons (s_move (.slice pp5 R.length cc6) rfl rfl ?_)
      refine r_cons (s_nilCheck (.pointer (some ⟨b, 0, none⟩)) rfl ⟨_, rfl⟩ rfl ?_)
      refine r_cons (s_fieldAddr 43 0 0 0 23 rfl fi_43_0 rfl rfl ?_)
      refine r_cons (s_store H40 1 (.slice pp5 R.length cc6) rfl rfl rfl sz_23 rfl (Nat.le_of_ble_eq_true rfl) rfl (cs' := #[.slice pp5 R.length cc6]) rfl ?_); intro w42 H43
      refine r_nil ?_
      refine g_seq ?_
      refine g_region ?_
      refine r_cons (s_assign (.string ByteArray.empty) rfl rfl ?_)
      refine r_cons (s_assign (.int .i64 10) rfl rfl ?_)
      refine r_nil ?_
      refine g_ret' [.string ByteArray.empty, .int .i64 10] Try.func43 Try.results43 ⟨rfl, rfl, trivial⟩ ?_
      have H44 : St W w42 (blk b (.cells #[.slice pp5 R.length cc6] 43 (0, 0)) :: Im 1 (.slice pp5 R.length cc6) R.length (R.flatMap blc) :: Im 1 (.slice pp28 ((R.drop (natN R)).length) cc29) ((R.drop (natN R)).length) ((R.drop (natN R)).flatMap blc) :: (F.set i emp)) := ((((H43.move 2 rfl).move 3 rfl).move 3 rfl).drop 3 rfl)
      have H45 : St W w42 (RSrc b R :: Im 1 (.slice pp28 ((R.drop (natN R)).length) cc29) ((R.drop (natN R)).length) ((R.drop (natN R)).flatMap blc) :: (F.set i emp)) := St.shut_ex (.slice pp5 R.length cc6) (St.shut_star (ls := [blk b (.cells #[.slice pp5 R.length cc6] 43 (0, 0)), Im 1 (.slice pp5 R.length cc6) R.length (R.flatMap blc)]) H44)
      have H46 : St W w42 (RSrc b R :: (F.set i emp)) := (H45.drop 1 rfl)
      have hT : textE R = 10 := textE_10 (by assumption) (by omega)
      have hT0 : ¬ textE R = 0 := by rw [hT]; first | assumption | decide
      exact ⟨by rw [textS_0 hT0, hT]; rfl, by rw [textN_no hT0, List.drop_zero]; exact St.back hi H46⟩
    · skip
      refine r_cons (s_gtr false rfl rfl (dfalse hc41) rfl ?_)
      refine r_nil ?_
      refine g_false rfl ?_
      refine g_skip ?_
      refine g_seq ?_
      refine g_region ?_
      refine r_cons (s_assign (.slice none 0 0) rfl rfl ?_)
      refine r_nil ?_
      refine g_seq ?_
      refine g_seq ?_
      refine g_region ?_
      refine r_cons (s_assign (.int .u64 0) rfl rfl ?_)
      refine r_nil ?_
      refine g_block ?_
      have H47 : St W w21 (blk b (.cells #[.slice pp28 ((R.drop (natN R)).length) cc29] 43 (0, 0)) :: Im 1 (.slice pp28 ((R.drop (natN R)).length) cc29) ((R.drop (natN R)).length) ((R.drop (natN R)).flatMap blc) :: Im 1 (.slice pp5 R.length cc6) R.length (R.flatMap blc) :: (F.set i emp)) := ((((H40.move 3 rfl).move 3 rfl).move 3 rfl).drop 3 rfl)
      have H48 : St W w21 (RSrc b (R.drop (natN R)) :: Im 1 (.slice pp5 R.length cc6) R.length (R.flatMap blc) :: (F.set i emp)) := St.shut_ex (.slice pp28 ((R.drop (natN R)).length) cc29) (St.shut_star (ls := [blk b (.cells #[.slice pp28 ((R.drop (natN R)).length) cc29] 43 (0, 0)), Im 1 (.slice pp28 ((R.drop (natN R)).length) cc29) ((R.drop (natN R)).length) ((R.drop (natN R)).flatMap blc)]) H47)
      have H49 := Row.nil_intro H48 5 1
      have H50 : St W w21 (Row 5 1 (.slice none 0 0) 0 [] :: RSrc b (R.drop (natN R + 8 * 0)) :: Im 1 (.slice pp5 R.length cc6) R.length (R.flatMap blc) :: (F.set i emp)) := H49
      have H51 : St W w21 (Row 5 1 (.slice none 0 0) 0 [] :: RSrc b (R.drop (natN R + 8 * 0)) :: (F.set i emp)) := (((H50.move 1 rfl).move 1 rfl).drop 2 rfl)
      refine g_loop_inv (fun (x : Nat × (Option Addr) × Nat) => match x with | (j, pq, cq) => [(0, .pointer (some ⟨b, 0, none⟩)), (2, .string ByteArray.empty), (3, .int .i64 0), (5, .int .u64 (natU R : Int)), (7, .slice pq j cq), (8, .int .u64 (j : Int))]) (fun (x : Nat × (Option Addr) × Nat) w => match x with | (j, pq, cq) => (j ≤ natU R) ∧ St W w (Row 5 1 (.slice pq j cq) j (((List.range j).map (byteT R)).flatMap u8c) :: RSrc b (R.drop (natN R + 8 * j)) :: (F.set i emp))) (fun (x : Nat × (Option Addr) × Nat) => match x with | (j, pq, cq) => natU R - j) (0, none, 0) ?_ ?_ ?_
      · exact ⟨by first | rfl | exact vint (by omega), by first | rfl | exact vint (by omega), by first | rfl | exact vint (by omega), by first | rfl | exact vint (by omega), by first | rfl | exact vint (by omega), by first | rfl | exact vint (by omega), trivial⟩
      · exact ⟨(by omega), H51⟩
      · rintro ⟨j, pq, cq⟩ ρ52 w53 ⟨hj, H54⟩ nx55
        change Ends _ _ (upds ρ52 [(0, .pointer (some ⟨b, 0, none⟩)), (2, .string ByteArray.empty), (3, .int .i64 0), (5, .int .u64 (natU R : Int)), (7, .slice pq j cq), (8, .int .u64 (j : Int))]) w53
        refine g_seq ?_
        refine g_seq ?_
        refine g_region ?_
        refine r_cons (s_move (.int .u64 (j : Int)) rfl rfl ?_)
        refine r_cons (s_move (.int .u64 (natU R : Int)) rfl rfl ?_)
        by_cases hc56 : (j : Int) < (natU R : Int)
        · skip
          refine r_cons (s_lss true rfl rfl (dtrue hc56) rfl ?_)
          refine r_nil ?_
          refine g_true rfl ?_
          refine g_skip ?_
          refine g_seq ?_
          refine g_block ?_
          refine g_seq ?_
          refine g_region ?_
          refine r_cons (s_move (.pointer (some ⟨b, 0, none⟩)) rfl rfl ?_)
          have hL3 := List.length_drop (i := natN R + 8 * j) (l := R)
          have hE8 : srcE (R.drop (natN R + 8 * j)) 8 = 0 := srcE_0 (by omega) (by omega)
          have hN8 : srcN (R.drop (natN R + 8 * j)) 8 = 8 := srcN_0 hE8
          have hU8 : srcU (R.drop (natN R + 8 * j)) 8 < 256 := srcU_lt_pow (k := 8)
          have hB8 : byteT R j = UInt8.ofNat (srcU (R.drop (natN R + 8 * j)) 8) := by unfold byteT; rw [srcU_0 hE8]; rfl
          refine r_cons (s_call [.pointer (some ⟨b, 0, none⟩), .int .i64 8] pl_40 rfl rfl (RSrc_Bits b (R.drop (natN R + 8 * j)) 8  (i := 1) rfl H54) ?_)
          rintro _ w57 ⟨rfl, H58⟩
          refine r_cons (s_move (.tuple #[.int .u64 (srcU (R.drop (natN R + 8 * j)) 8 : Int), .int .i64 (srcE (R.drop (natN R + 8 * j)) 8)]) rfl rfl ?_)
          refine r_cons (s_extract (.int .u64 (srcU (R.drop (natN R + 8 * j)) 8 : Int)) #[.int .u64 (srcU (R.drop (natN R + 8 * j)) 8 : Int), .int .i64 (srcE (R.drop (natN R + 8 * j)) 8)] rfl rfl rfl ?_)
          refine r_cons (s_extract (.int .i64 (srcE (R.drop (natN R + 8 * j)) 8)) #[.int .u64 (srcU (R.drop (natN R + 8 * j)) 8 : Int), .int .i64 (srcE (R.drop (natN R + 8 * j)) 8)] rfl rfl rfl ?_)
          refine r_cons (s_assign (.int .u64 (srcU (R.drop (natN R + 8 * j)) 8 : Int)) rfl rfl ?_)
          refine r_cons (s_assign (.int .i64 (srcE (R.drop (natN R + 8 * j)) 8)) rfl rfl ?_)
          refine r_nil ?_
          refine g_region ?_
          refine r_cons (s_move (.slice pq j cq) rfl rfl ?_)
          refine r_cons (s_move (.int .u64 (srcU (R.drop (natN R + 8 * j)) 8 : Int)) rfl rfl ?_)
          refine r_cons (s_conv (srcU (R.drop (natN R + 8 * j)) 8 : Int) rfl us_22 ik_5 (wu8 (by omega)) rfl ?_)
          refine r_cons (s_buildSlice H58 1 1 (cs := #[.int .u8 (srcU (R.drop (natN R + 8 * j)) 8 : Int)]) #[.int .u8 0] el_33 ze_5 (by decide) (by decide) (by kernel_rfl) rfl ?_); intro bk59 w60 H61
          refine r_cons (s_append H61 1 rfl rfl rfl (rd_blk (H61.blk_at (i := 0) rfl) rfl (Nat.le_of_ble_eq_true rfl) (by simp [Value.oneCell'])) ap_33 (by decide) (by unfold maxLen; omega) (by omega) (n' := j + 1) (xs' := ((List.range (j + 1)).map (byteT R)).flatMap u8c) (by omega) (by rw [List.range_succ, List.map_append, List.flatMap_append]; congr 1; show [Value.int .u8 (srcU (R.drop (natN R + 8 * j)) 8 : Int)] = [Value.int .u8 ((byteT R j).toNat : Int)]; rw [hB8, u8_nat hU8]) rfl ?_); intro vv62 w63 H64 hn65
          obtain ⟨pp66, cc67, rfl⟩ := Row.slice H64 (i := 1) rfl
          refine r_cons (s_assign (.slice pp66 (j + 1) cc67) rfl rfl ?_)
          refine r_nil ?_
          refine g_inBlock ?_
          refine g_region ?_
          refine r_cons (s_move (.int .u64 (j : Int)) rfl rfl ?_)
          refine r_cons (s_add ((j : Int) + 1) rfl rfl (wu64 (by omega)) rfl ?_)
          refine r_cons (s_assign (.int .u64 ((j : Int) + 1)) rfl rfl ?_)
          refine r_nil ?_
          have H68 : St W w63 (blk bk59 (.cells #[.int .u8 (srcU (R.drop (natN R + 8 * j)) 8 : Int)] 5 (0, 0)) :: Row 5 1 (.slice pp66 (j + 1) cc67) (j + 1) (((List.range (j + 1)).map (byteT R)).flatMap u8c) :: RSrc b (R.drop (natN R + 8 * (j + 1))) :: (F.set i emp)) := by rw [show R.drop (natN R + 8 * (j + 1)) = (R.drop (natN R + 8 * j)).drop (srcN (R.drop (natN R + 8 * j)) 8) from by rw [hN8, List.drop_drop]; congr 1 <;> omega]; exact H64
          have H69 : St W w63 (Row 5 1 (.slice pp66 (j + 1) cc67) (j + 1) (((List.range (j + 1)).map (byteT R)).flatMap u8c) :: RSrc b (R.drop (natN R + 8 * (j + 1))) :: (F.set i emp)) := (((H68.move 2 rfl).move 2 rfl).drop 2 rfl)
          exact nx55 (j + 1, pp66, cc67) _ _ ⟨(by omega), H69⟩ (by first | (dsimp only; omega) | omega) ⟨by first | rfl | exact vint (by omega), by first | rfl | exact vint (by omega), by first | rfl | exact vint (by omega), by first | rfl | exact vint (by omega), by first | rfl | exact vint (by omega), by first | rfl | exact vint (by omega), trivial⟩
        · skip
          refine r_cons (s_lss false rfl rfl (dfalse hc56) rfl ?_)
          refine r_nil ?_
          refine g_false rfl ?_
          refine g_exit (by rfl) ?_
          refine g_seq ?_
          refine g_region ?_
          refine r_cons (s_move (.slice pq j cq) rfl rfl ?_)
          refine r_cons (s_bytes_str (xs := ((List.range j).map (byteT R))) rfl (by rw [bytesV_flat]; exact (Row.rd H54 (i := 0) rfl)) un_33 un_5 un_9 rfl ?_)
          refine r_cons (s_assign (.string (⟨(((List.range j).map (byteT R))).toArray⟩)) rfl rfl ?_)
          refine r_cons (s_assign (.int .i64 0) rfl rfl ?_)
          refine r_nil ?_
          refine g_ret' [.string (⟨(((List.range j).map (byteT R))).toArray⟩), .int .i64 0] Try.func43 Try.results43 ⟨rfl, rfl, trivial⟩ ?_
          have H70 : St W w53 (RSrc b (R.drop (natN R + 8 * j)) :: (F.set i emp)) := ((H54.move 1 rfl).drop 1 rfl)
          have hT : textE R = 0 := textE_0 (by assumption) (by omega)
          obtain rfl : j = natU R := by omega
          exact ⟨by rw [hT, show textS R = ⟨((List.range (natU R)).map (byteT R)).toArray⟩ from by unfold textS textBytes; rw [if_pos hT]]; rfl, by rw [textN_0 hT]; exact St.back hi H70⟩
  · skip
    refine r_cons (s_neq true rfl rfl (nfalse hc23) rfl ?_)
    refine r_nil ?_
    refine g_true rfl ?_
    refine g_seq ?_
    refine g_region ?_
    refine r_cons (s_move (.int .i64 (natE R)) rfl rfl ?_)
    refine r_cons (s_assign (.string ByteArray.empty) rfl rfl ?_)
    refine r_cons (s_assign (.int .i64 (natE R)) rfl rfl ?_)
    refine r_nil ?_
    refine g_ret' [.string ByteArray.empty, .int .i64 (natE R)] Try.func43 Try.results43 ⟨rfl, rfl, trivial⟩ ?_
    have H71 : St W w21 (RSrc b (R.drop (natN R)) :: (F.set i emp)) := (H22.drop 1 rfl)
    have hT : textE R = natE R := textE_nat (by assumption)
    have hT0 : ¬ textE R = 0 := by rw [hT]; first | assumption | decide
    exact ⟨by rw [textS_0 hT0, hT]; rfl, by rw [textN_no hT0, List.drop_zero]; have hx := H71; rw [natN_no (by assumption), List.drop_zero] at hx; exact St.back hi hx⟩
set_option maxHeartbeats 4000000 in
set_option maxRecDepth 100000 in
theorem RSrc_New {W w : World} {F : List Atom} (bs : List UInt8) (v0 : Value) (hb : bs.length ≤ 17592186044416) {j : Nat} (hj : F[j]? = some (Im 1 v0 bs.length (bs.flatMap u8c))) (H : St W w F) : Calls Try.prog 15 #[v0] w (Ret fun v w' => ∃ k, v = .pointer (some ⟨k, 0, none⟩) ∧ St W w' (RSrc k (bitsOf bs) :: F)) := by
  obtain ⟨pA1, cA2, gA3, oA4, kA5, eA6, zA7, rfl, hn8, hp9, hx10, hs11, hml, H12⟩ := Im.open_ H hj
  refine calls_of_go (n := 28) Try.func15 rfl Try.ntmps15 rfl ?_
  refine g_seq ?_
  refine g_region ?_
  refine r_cons (s_assign (.pointer none) rfl rfl ?_)
  refine r_nil ?_
  refine g_seq ?_
  refine g_region ?_
  refine r_cons (s_build (cs := #[.slice none 0 0]) (by kernel_rfl) rfl ?_)
  refine r_cons (s_box H12 43 (.agg #[.slice none 0 0]) rfl (cs := #[.slice none 0 0]) rfl rfl ?_); intro bk13 w14 H15
  refine r_cons (s_assign (.pointer (some ⟨bk13, 0, none⟩)) rfl rfl ?_)
  refine r_nil ?_
  refine g_seq ?_
  refine g_seq ?_
  refine g_region ?_
  refine r_cons (s_assign (.int .i64 0) rfl rfl ?_)
  refine r_nil ?_
  refine g_block ?_
  have H16 : St W w14 (blk bk13 (.cells #[.slice none 0 0] 43 (0, 0)) :: imi (0 < bs.length) gA3 (.cells kA5 eA6 zA7) :: F) := ((H15.move 1 rfl).move 1 rfl)
  have H17 := Row.nil_intro H16 4 1
  refine g_loop_inv (fun (x : Nat × (Option Addr) × Nat) => match x with | (j, pq, cq) => [(0, .slice pA1 bs.length cA2), (2, .pointer none), (3, .pointer (some ⟨bk13, 0, none⟩)), (4, .int .i64 (j : Int))]) (fun (x : Nat × (Option Addr) × Nat) w => match x with | (j, pq, cq) => (j ≤ bs.length) ∧ St W w (Row 4 1 (.slice pq (8 * j) cq) (8 * j) ((bitsOf (bs.take j)).flatMap blc) :: blk bk13 (.cells #[.slice pq (8 * j) cq] 43 (0, 0)) :: imi (0 < bs.length) gA3 (.cells kA5 eA6 zA7) :: F)) (fun (x : Nat × (Option Addr) × Nat) => match x with | (j, pq, cq) => bs.length - j) (0, none, 0) ?_ ?_ ?_
  · exact ⟨by first | rfl | exact vint (by omega), by first | rfl | exact vint (by omega), by first | rfl | exact vint (by omega), by first | rfl | exact vint (by omega), trivial⟩
  · exact ⟨(by omega), H17⟩
  · rintro ⟨j, pq, cq⟩ ρ18 w19 ⟨hj, H20⟩ nx21
    change Ends _ _ (upds ρ18 [(0, .slice pA1 bs.length cA2), (2, .pointer none), (3, .pointer (some ⟨bk13, 0, none⟩)), (4, .int .i64 (j : Int))]) w19
    have hlt := (bs.getD j 0).toNat_lt
    refine g_seq ?_
    refine g_seq ?_
    refine g_region ?_
    refine r_cons (s_move (.int .i64 (j : Int)) rfl rfl ?_)
    refine r_cons (s_move (.slice pA1 bs.length cA2) rfl rfl ?_)
    refine r_cons (s_len bs.length rfl ⟨_, un_33⟩ rfl ?_)
    by_cases hc22 : (j : Int) < (bs.length : Int)
    · skip
      refine r_cons (s_lss true rfl rfl (dtrue hc22) rfl ?_)
      refine r_nil ?_
      refine g_true rfl ?_
      refine g_skip ?_
      refine g_seq ?_
      refine g_block ?_
      refine g_cut (fun (x : Option Addr × Nat × Option Addr × Nat) => match x with | (pp23, cc24, pp31, cc32) => [(0, .slice pA1 bs.length cA2), (2, .pointer none), (3, .pointer (some ⟨bk13, 0, none⟩)), (4, .int .i64 (j : Int)), (7, .int .i64 (j : Int)), (8, .slice pA1 bs.length cA2), (9, .int .i64 (bs.length : Int)), (10, .bool true), (13, .pointer (some ⟨bk13, 0, none⟩)), (14, .pointer (some ⟨bk13, 0, none⟩)), (15, .pointer (some ⟨bk13, 0, none⟩)), (16, .pointer (some ⟨bk13, 0, none⟩)), (17, .slice pq (8 * j) cq), (18, .slice pA1 bs.length cA2), (19, .int .i64 (j : Int)), (20, .pointer (some ⟨gA3, oA4 + j * 1, none⟩)), (21, .int .u8 ((bs.getD j 0).toNat : Int)), (22, .int .u64 ((bs.getD j 0).toNat : Int)), (23, .slice pp23 8 cc24), (24, .slice pp31 (8 * (j + 1)) cc32), (25, .pointer (some ⟨bk13, 0, none⟩)), (26, .pointer (some ⟨bk13, 0, none⟩))]) (fun (x : Option Addr × Nat × Option Addr × Nat) w => match x with | (pp23, cc24, pp31, cc32) => St W w (Row 4 1 (.slice pp23 8 cc24) 8 ((lowB ((bs.getD j 0).toNat) 8).flatMap blc) :: Row 4 1 (.slice pp31 (8 * (j + 1)) cc32) (8 * (j + 1)) ((bitsOf (bs.take (j + 1))).flatMap blc) :: blk bk13 (.cells #[.slice pp31 (8 * (j + 1)) cc32] 43 (0, 0)) :: imi (0 < bs.length) gA3 (.cells kA5 eA6 zA7) :: F)) ?_ ?_
      · rintro ⟨pp23, cc24, pp31, cc32⟩ ρ26 w24 H25
        change Ends _ _ (upds ρ26 [(0, .slice pA1 bs.length cA2), (2, .pointer none), (3, .pointer (some ⟨bk13, 0, none⟩)), (4, .int .i64 (j : Int)), (7, .int .i64 (j : Int)), (8, .slice pA1 bs.length cA2), (9, .int .i64 (bs.length : Int)), (10, .bool true), (13, .pointer (some ⟨bk13, 0, none⟩)), (14, .pointer (some ⟨bk13, 0, none⟩)), (15, .pointer (some ⟨bk13, 0, none⟩)), (16, .pointer (some ⟨bk13, 0, none⟩)), (17, .slice pq (8 * j) cq), (18, .slice pA1 bs.length cA2), (19, .int .i64 (j : Int)), (20, .pointer (some ⟨gA3, oA4 + j * 1, none⟩)), (21, .int .u8 ((bs.getD j 0).toNat : Int)), (22, .int .u64 ((bs.getD j 0).toNat : Int)), (23, .slice pp23 8 cc24), (24, .slice pp31 (8 * (j + 1)) cc32), (25, .pointer (some ⟨bk13, 0, none⟩)), (26, .pointer (some ⟨bk13, 0, none⟩))]) w24
        refine g_inBlock ?_
        refine g_region ?_
        refine r_cons (s_move (.int .i64 (j : Int)) rfl rfl ?_)
        refine r_cons (s_add ((j : Int) + 1) rfl rfl (wi64 (by omega)) rfl ?_)
        refine r_cons (s_assign (.int .i64 ((j : Int) + 1)) rfl rfl ?_)
        refine r_nil ?_
        have H27 : St W w24 (Row 4 1 (.slice pp31 (8 * (j + 1)) cc32) (8 * (j + 1)) ((bitsOf (bs.take (j + 1))).flatMap blc) :: blk bk13 (.cells #[.slice pp31 (8 * (j + 1)) cc32] 43 (0, 0)) :: imi (0 < bs.length) gA3 (.cells kA5 eA6 zA7) :: F) := ((((H25.move 3 rfl).move 3 rfl).move 3 rfl).drop 3 rfl)
        exact nx21 (j + 1, pp31, cc32) _ _ ⟨(by omega), H27⟩ (by first | (dsimp only; omega) | omega) ⟨by first | rfl | exact vint (by omega), by first | rfl | exact vint (by omega), by first | rfl | exact vint (by omega), by first | rfl | exact vint (by omega), trivial⟩
      · intro join23
        refine g_any mixed 15 rfl ?_
        intro w28 hw29
        have H30 := H20.drew
        rw [← hw29] at H30
        clear hw29
        refine a_take 0 (listed' := #[true, false, false, false, false, false, false, false, false, false, false, false, false, false, false]) rfl (by kernel_rfl) (by kernel_rfl) (by kernel_rfl) rfl rfl rfl rfl (fun w => x_move (.pointer (some ⟨bk13, 0, none⟩)) rfl w) ?_
        refine a_take 1 (listed' := #[true, true, false, false, false, false, false, false, false, false, false, false, false, false, false]) rfl (by kernel_rfl) (by kernel_rfl) (by kernel_rfl) rfl rfl rfl rfl (fun w => x_move (.pointer (some ⟨bk13, 0, none⟩)) rfl w) ?_
        refine a_take 2 (listed' := #[true, true, true, false, false, false, false, false, false, false, false, false, false, false, false]) rfl (by kernel_rfl) (by kernel_rfl) (by kernel_rfl) rfl rfl rfl rfl (fun w => x_nilCheck (.pointer (some ⟨bk13, 0, none⟩)) rfl ⟨_, rfl⟩ w) ?_
        refine a_take 3 (listed' := #[true, true, true, true, false, false, false, false, false, false, false, false, false, false, false]) rfl (by kernel_rfl) (by kernel_rfl) (by kernel_rfl) rfl rfl rfl rfl (fun w => x_fieldAddr 43 0 0 0 23 rfl fi_43_0 rfl w) ?_
        refine a_take 5 (listed' := #[true, true, true, true, false, true, false, false, false, false, false, false, false, false, false]) rfl (by kernel_rfl) (by kernel_rfl) (by kernel_rfl) rfl rfl rfl rfl (fun w => x_move (.slice pA1 bs.length cA2) rfl w) ?_
        refine a_take 6 (listed' := #[true, true, true, true, false, true, true, false, false, false, false, false, false, false, false]) rfl (by kernel_rfl) (by kernel_rfl) (by kernel_rfl) rfl rfl rfl rfl (fun w => x_move (.int .i64 (j : Int)) rfl w) ?_
        refine a_take 7 (listed' := #[true, true, true, true, false, true, true, true, false, false, false, false, false, false, false]) rfl (by kernel_rfl) (by kernel_rfl) (by kernel_rfl) rfl rfl rfl rfl (fun w => x_indexAddr gA3 (off := oA4) (j : Int) 1 (oA4 + j * 1) (by exact congrArg (fun z_ => Value.slice z_ bs.length cA2) (hp9 (by omega))) rfl el_33 (by omega) rfl w) ?_
        refine a_all (rs := [4, 8]) (by kernel_rfl) (by simp) ?_
        refine a_cons ⟨_, rfl, ?_⟩ (a_cons ⟨_, rfl, ?_⟩ (fun x hx => absurd hx (by simp)))
        · skip
          refine s_load (.slice pq (8 * j) cq) ag_23 rfl (H30.blk_at (i := 1) rfl) rfl rfl ?_
          change AnyG _ _ _ _ #[true, true, true, true, true, true, true, true, false, false, false, false, false, false, false] _ _
          refine a_all (rs := [8]) (by kernel_rfl) (by simp) ?_
          refine a_cons ⟨_, rfl, ?_⟩ (fun x hx => absurd hx (by simp))
          refine s_load (.int .u8 ((bs.getD j 0).toNat : Int)) ag_5 rfl (H30.imi_at (i := 2) rfl (by omega)) (elem_cell u8c_len (hx10 (by omega)) (by omega) 0 0 (by decide) _ rfl) rfl ?_
          change AnyG _ _ _ _ #[true, true, true, true, true, true, true, true, true, false, false, false, false, false, false] _ _
          refine a_take 9 (listed' := #[true, true, true, true, true, true, true, true, true, true, false, false, false, false, false]) rfl (by kernel_rfl) (by kernel_rfl) (by kernel_rfl) rfl rfl rfl rfl (fun w => x_conv ((bs.getD j 0).toNat : Int) rfl us_5 ik_22 (wu64 (by omega)) w) ?_
          refine a_all (rs := [10]) (by kernel_rfl) (by simp) ?_
          refine a_cons ⟨_, rfl, ?_⟩ (fun x hx => absurd hx (by simp))
          refine s_call [.int .u64 ((bs.getD j 0).toNat : Int), .int .i64 8] pl_35 rfl rfl (ref01_Low ((bs.getD j 0).toNat) 8 (by omega) (by omega) H30) ?_
          rintro _ w33 ⟨pp31, cc32, rfl, H34⟩
          change AnyG _ _ _ _ #[true, true, true, true, true, true, true, true, true, true, true, false, false, false, false] _ _
          refine a_all (rs := [11]) (by kernel_rfl) (by simp) ?_
          refine a_cons ⟨_, rfl, ?_⟩ (fun x hx => absurd hx (by simp))
          refine s_append H34 1 rfl rfl rfl (Row.rd H34 (i := 0) rfl) ap_23 (by decide) (by unfold maxLen; omega) (by omega) (n' := 8 * (j + 1)) (xs' := (bitsOf (bs.take (j + 1))).flatMap blc) (by omega) (by rw [bitsOf_take (by omega)]; exact List.flatMap_append.symm) rfl ?_; intro vv35 w36 H37 hn38
          obtain ⟨pp39, cc40, rfl⟩ := Row.slice H37 (i := 1) rfl
          change AnyG _ _ _ _ #[true, true, true, true, true, true, true, true, true, true, true, true, false, false, false] _ _
          refine a_take 12 (listed' := #[true, true, true, true, true, true, true, true, true, true, true, true, true, false, false]) rfl (by kernel_rfl) (by kernel_rfl) (by kernel_rfl) rfl rfl rfl rfl (fun w => x_nilCheck (.pointer (some ⟨bk13, 0, none⟩)) rfl ⟨_, rfl⟩ w) ?_
          refine a_take 13 (listed' := #[true, true, true, true, true, true, true, true, true, true, true, true, true, true, false]) rfl (by kernel_rfl) (by kernel_rfl) (by kernel_rfl) rfl rfl rfl rfl (fun w => x_fieldAddr 43 0 0 0 23 rfl fi_43_0 rfl w) ?_
          refine a_all (rs := [14]) (by kernel_rfl) (by simp) ?_
          refine a_cons ⟨_, rfl, ?_⟩ (fun x hx => absurd hx (by simp))
          refine s_store H37 2 (.slice pp39 (8 * (j + 1)) cc40) rfl rfl rfl sz_23 rfl (Nat.le_of_ble_eq_true rfl) rfl (cs' := #[.slice pp39 (8 * (j + 1)) cc40]) rfl ?_; intro w41 H42
          change AnyG _ _ _ _ #[true, true, true, true, true, true, true, true, true, true, true, true, true, true, true] _ _
          refine a_done (by kernel_rfl) ?_
          exact join23 (pp31, cc32, pp39, cc40) _ _ H42 ⟨rfl, rfl, rfl, rfl, rfl, rfl, rfl, rfl, rfl, rfl, rfl, rfl, rfl, rfl, rfl, rfl, rfl, rfl, rfl, rfl, rfl, rfl, trivial⟩
        · skip
          refine s_load (.int .u8 ((bs.getD j 0).toNat : Int)) ag_5 rfl (H30.imi_at (i := 2) rfl (by omega)) (elem_cell u8c_len (hx10 (by omega)) (by omega) 0 0 (by decide) _ rfl) rfl ?_
          change AnyG _ _ _ _ #[true, true, true, true, false, true, true, true, true, false, false, false, false, false, false] _ _
          refine a_take 9 (listed' := #[true, true, true, true, false, true, true, true, true, true, false, false, false, false, false]) rfl (by kernel_rfl) (by kernel_rfl) (by kernel_rfl) rfl rfl rfl rfl (fun w => x_conv ((bs.getD j 0).toNat : Int) rfl us_5 ik_22 (wu64 (by omega)) w) ?_
          refine a_all (rs := [4, 10]) (by kernel_rfl) (by simp) ?_
          refine a_cons ⟨_, rfl, ?_⟩ (a_cons ⟨_, rfl, ?_⟩ (fun x hx => absurd hx (by simp)))
          · skip
            refine s_load (.slice pq (8 * j) cq) ag_23 rfl (H30.blk_at (i := 1) rfl) rfl rfl ?_
            change AnyG _ _ _ _ #[true, true, true, true, true, true, true, true, true, true, false, false, false, false, false] _ _
            refine a_all (rs := [10]) (by kernel_rfl) (by simp) ?_
            refine a_cons ⟨_, rfl, ?_⟩ (fun x hx => absurd hx (by simp))
            refine s_call [.int .u64 ((bs.getD j 0).toNat : Int), .int .i64 8] pl_35 rfl rfl (ref01_Low ((bs.getD j 0).toNat) 8 (by omega) (by omega) H30) ?_
            rintro _ w45 ⟨pp43, cc44, rfl, H46⟩
            change AnyG _ _ _ _ #[true, true, true, true, true, true, true, true, true, true, true, false, false, false, false] _ _
            refine a_all (rs := [11]) (by kernel_rfl) (by simp) ?_
            refine a_cons ⟨_, rfl, ?_⟩ (fun x hx => absurd hx (by simp))
            refine s_append H46 1 rfl rfl rfl (Row.rd H46 (i := 0) rfl) ap_23 (by decide) (by unfold maxLen; omega) (by omega) (n' := 8 * (j + 1)) (xs' := (bitsOf (bs.take (j + 1))).flatMap blc) (by omega) (by rw [bitsOf_take (by omega)]; exact List.flatMap_append.symm) rfl ?_; intro vv47 w48 H49 hn50
            obtain ⟨pp51, cc52, rfl⟩ := Row.slice H49 (i := 1) rfl
            change AnyG _ _ _ _ #[true, true, true, true, true, true, true, true, true, true, true, true, false, false, false] _ _
            refine a_take 12 (listed' := #[true, true, true, true, true, true, true, true, true, true, true, true, true, false, false]) rfl (by kernel_rfl) (by kernel_rfl) (by kernel_rfl) rfl rfl rfl rfl (fun w => x_nilCheck (.pointer (some ⟨bk13, 0, none⟩)) rfl ⟨_, rfl⟩ w) ?_
            refine a_take 13 (listed' := #[true, true, true, true, true, true, true, true, true, true, true, true, true, true, false]) rfl (by kernel_rfl) (by kernel_rfl) (by kernel_rfl) rfl rfl rfl rfl (fun w => x_fieldAddr 43 0 0 0 23 rfl fi_43_0 rfl w) ?_
            refine a_all (rs := [14]) (by kernel_rfl) (by simp) ?_
            refine a_cons ⟨_, rfl, ?_⟩ (fun x hx => absurd hx (by simp))
            refine s_store H49 2 (.slice pp51 (8 * (j + 1)) cc52) rfl rfl rfl sz_23 rfl (Nat.le_of_ble_eq_true rfl) rfl (cs' := #[.slice pp51 (8 * (j + 1)) cc52]) rfl ?_; intro w53 H54
            change AnyG _ _ _ _ #[true, true, true, true, true, true, true, true, true, true, true, true, true, true, true] _ _
            refine a_done (by kernel_rfl) ?_
            exact join23 (pp43, cc44, pp51, cc52) _ _ H54 ⟨rfl, rfl, rfl, rfl, rfl, rfl, rfl, rfl, rfl, rfl, rfl, rfl, rfl, rfl, rfl, rfl, rfl, rfl, rfl, rfl, rfl, rfl, trivial⟩
          · skip
            refine s_call [.int .u64 ((bs.getD j 0).toNat : Int), .int .i64 8] pl_35 rfl rfl (ref01_Low ((bs.getD j 0).toNat) 8 (by omega) (by omega) H30) ?_
            rintro _ w57 ⟨pp55, cc56, rfl, H58⟩
            change AnyG _ _ _ _ #[true, true, true, true, false, true, true, true, true, true, true, false, false, false, false] _ _
            refine a_all (rs := [4]) (by kernel_rfl) (by simp) ?_
            refine a_cons ⟨_, rfl, ?_⟩ (fun x hx => absurd hx (by simp))
            refine s_load (.slice pq (8 * j) cq) ag_23 rfl (H58.blk_at (i := 2) rfl) rfl rfl ?_
            change AnyG _ _ _ _ #[true, true, true, true, true, true, true, true, true, true, true, false, false, false, false] _ _
            refine a_all (rs := [11]) (by kernel_rfl) (by simp) ?_
            refine a_cons ⟨_, rfl, ?_⟩ (fun x hx => absurd hx (by simp))
            refine s_append H58 1 rfl rfl rfl (Row.rd H58 (i := 0) rfl) ap_23 (by decide) (by unfold maxLen; omega) (by omega) (n' := 8 * (j + 1)) (xs' := (bitsOf (bs.take (j + 1))).flatMap blc) (by omega) (by rw [bitsOf_take (by omega)]; exact List.flatMap_append.symm) rfl ?_; intro vv59 w60 H61 hn62
            obtain ⟨pp63, cc64, rfl⟩ := Row.slice H61 (i := 1) rfl
            change AnyG _ _ _ _ #[true, true, true, true, true, true, true, true, true, true, true, true, false, false, false] _ _
            refine a_take 12 (listed' := #[true, true, true, true, true, true, true, true, true, true, true, true, true, false, false]) rfl (by kernel_rfl) (by kernel_rfl) (by kernel_rfl) rfl rfl rfl rfl (fun w => x_nilCheck (.pointer (some ⟨bk13, 0, none⟩)) rfl ⟨_, rfl⟩ w) ?_
            refine a_take 13 (listed' := #[true, true, true, true, true, true, true, true, true, true, true, true, true, true, false]) rfl (by kernel_rfl) (by kernel_rfl) (by kernel_rfl) rfl rfl rfl rfl (fun w => x_fieldAddr 43 0 0 0 23 rfl fi_43_0 rfl w) ?_
            refine a_all (rs := [14]) (by kernel_rfl) (by simp) ?_
            refine a_cons ⟨_, rfl, ?_⟩ (fun x hx => absurd hx (by simp))
            refine s_store H61 2 (.slice pp63 (8 * (j + 1)) cc64) rfl rfl rfl sz_23 rfl (Nat.le_of_ble_eq_true rfl) rfl (cs' := #[.slice pp63 (8 * (j + 1)) cc64]) rfl ?_; intro w65 H66
            change AnyG _ _ _ _ #[true, true, true, true, true, true, true, true, true, true, true, true, true, true, true] _ _
            refine a_done (by kernel_rfl) ?_
            exact join23 (pp55, cc56, pp63, cc64) _ _ H66 ⟨rfl, rfl, rfl, rfl, rfl, rfl, rfl, rfl, rfl, rfl, rfl, rfl, rfl, rfl, rfl, rfl, rfl, rfl, rfl, rfl, rfl, rfl, trivial⟩
    · skip
      refine r_cons (s_lss false rfl rfl (dfalse hc22) rfl ?_)
      refine r_nil ?_
      refine g_false rfl ?_
      refine g_exit (by rfl) ?_
      refine g_seq ?_
      refine g_region ?_
      refine r_cons (s_move (.pointer (some ⟨bk13, 0, none⟩)) rfl rfl ?_)
      refine r_cons (s_assign (.pointer (some ⟨bk13, 0, none⟩)) rfl rfl ?_)
      refine r_nil ?_
      refine g_ret' [.pointer (some ⟨bk13, 0, none⟩)] Try.func15 Try.results15 ⟨rfl, trivial⟩ ?_
      have H67 : St W w19 (blk bk13 (.cells #[.slice pq (8 * j) cq] 43 (0, 0)) :: Row 4 1 (.slice pq (8 * j) cq) (8 * j) ((bitsOf (bs.take j)).flatMap blc) :: F) := ((H20.move 1 rfl).drop 2 rfl)
      have H68 := Row.im H67 (i := 1) rfl
      obtain rfl : j = bs.length := by omega
      have H69 : St W w19 (blk bk13 (.cells #[.slice pq (8 * bs.length) cq] 43 (0, 0)) :: Im 1 (.slice pq (8 * bs.length) cq) (bitsOf (bs.take bs.length)).length ((bitsOf (bs.take bs.length)).flatMap blc) :: F) := by rw [show (bitsOf (bs.take bs.length)).length = 8 * bs.length from by rw [List.take_length, bitsOf_len]]; exact H68
      refine ⟨bk13, rfl, ?_⟩
      have hy : St W w19 (RSrc bk13 (bitsOf (bs.take bs.length)) :: F) := St.shut_ex (.slice pq (8 * bs.length) cq) (St.shut_star (ls := [blk bk13 (.cells #[.slice pq (8 * bs.length) cq] 43 (0, 0)), Im 1 (.slice pq (8 * bs.length) cq) (bitsOf (bs.take bs.length)).length ((bitsOf (bs.take bs.length)).flatMap blc)]) H69)
      rw [List.take_length] at hy
      exact hy
set_option maxHeartbeats 4000000 in
set_option maxRecDepth 100000 in
theorem take01 {W w : World} {F : List Atom} (b k : Nat) (bs : List UInt8) (q : Nat) (hq : q ≤ 8 * bs.length) (hb : bs.length ≤ 17592186044416) (p : PartV) (H : St W w (SrcA b bs q :: RSrc k (remB bs q) :: F)) : Calls Try.prog 16 #[.pointer (some ⟨b, 0, none⟩), .pointer (some ⟨k, 0, none⟩), .agg #[.int .i64 p.kind.v, .int .u64 (p.u.v : Int), .int .i64 p.n.v, .string p.s.v]] w (Ret fun v w' => v = .bool true ∧ ∃ q', q' ≤ 8 * bs.length ∧ St W w' (SrcA b bs q' :: RSrc k (remB bs q') :: F)) := by
  have hlq := remB_len bs q
  have hkl := p.kind.lo
  refine calls_of_go (n := 131) Try.func16 rfl Try.ntmps16 rfl ?_
  refine g_seq ?_
  refine g_region ?_
  refine r_cons (s_box H 40 (.agg #[.int .i64 p.kind.v, .int .u64 (p.u.v : Int), .int .i64 p.n.v, .string p.s.v]) rfl (cs := #[.int .i64 p.kind.v, .int .u64 (p.u.v : Int), .int .i64 p.n.v, .string p.s.v]) rfl rfl ?_); intro bk1 w2 H3
  refine r_cons (s_assign (.bool false) rfl rfl ?_)
  refine r_nil ?_
  refine g_seq ?_
  refine g_seq ?_
  refine g_region ?_
  refine r_cons (s_fieldAddr 40 0 0 0 3 rfl fi_40_0 rfl rfl ?_)
  refine r_cons (s_load (.int .i64 p.kind.v) ag_3 rfl (H3.blk_at (i := 0) rfl) rfl rfl ?_)
  refine r_nil ?_
  refine g_block ?_
  refine g_seq ?_
  refine g_region ?_
  by_cases hc4 : p.kind.v = 0
  · skip
    refine r_cons (s_eql true rfl rfl (dtrue hc4) rfl ?_)
    refine r_cons (s_assign (.bool true) rfl rfl ?_)
    refine r_nil ?_
    refine g_true rfl ?_
    refine g_seq ?_
    refine g_region ?_
    refine r_cons (s_move (.pointer (some ⟨b, 0, none⟩)) rfl rfl ?_)
    refine r_cons (s_fieldAddr 40 2 2 2 3 rfl fi_40_2 rfl rfl ?_)
    refine r_cons (s_load (.int .i64 p.n.v) ag_3 rfl (H3.blk_at (i := 0) rfl) rfl rfl ?_)
    refine r_cons (s_call [.pointer (some ⟨b, 0, none⟩), .int .i64 p.n.v] pl_24 rfl rfl (Src_Bits b bs q (by first | omega | decide +kernel | (repeat (first | assumption | exact Nat.zero_le _ | refine natN_pos ?_ | refine srcN_pos ?_ | refine textN_pos ?_))) (by first | omega | decide +kernel) p.n.v  (i := 1) rfl H3) ?_)
    rintro _ w5 ⟨rfl, H6⟩
    refine r_cons (s_move (.tuple #[.int .u64 (srcU (remB bs q) p.n.v : Int), .int .i64 (srcE (remB bs q) p.n.v)]) rfl rfl ?_)
    refine r_cons (s_extract (.int .u64 (srcU (remB bs q) p.n.v : Int)) #[.int .u64 (srcU (remB bs q) p.n.v : Int), .int .i64 (srcE (remB bs q) p.n.v)] rfl rfl rfl ?_)
    refine r_cons (s_extract (.int .i64 (srcE (remB bs q) p.n.v)) #[.int .u64 (srcU (remB bs q) p.n.v : Int), .int .i64 (srcE (remB bs q) p.n.v)] rfl rfl rfl ?_)
    refine r_cons (s_assign (.int .u64 (srcU (remB bs q) p.n.v : Int)) rfl rfl ?_)
    refine r_cons (s_assign (.int .i64 (srcE (remB bs q) p.n.v)) rfl rfl ?_)
    refine r_nil ?_
    refine g_seq ?_
    refine g_region ?_
    refine r_cons (s_move (.pointer (some ⟨k, 0, none⟩)) rfl rfl ?_)
    refine r_cons (s_fieldAddr 40 2 2 2 3 rfl fi_40_2 rfl rfl ?_)
    refine r_cons (s_load (.int .i64 p.n.v) ag_3 rfl (H6.blk_at (i := 0) rfl) rfl rfl ?_)
    refine r_cons (s_call [.pointer (some ⟨k, 0, none⟩), .int .i64 p.n.v] pl_40 rfl rfl (RSrc_Bits k (remB bs q) p.n.v  (i := 2) rfl H6) ?_)
    rintro _ w7 ⟨rfl, H8⟩
    refine r_cons (s_move (.tuple #[.int .u64 (srcU (remB bs q) p.n.v : Int), .int .i64 (srcE (remB bs q) p.n.v)]) rfl rfl ?_)
    refine r_cons (s_extract (.int .u64 (srcU (remB bs q) p.n.v : Int)) #[.int .u64 (srcU (remB bs q) p.n.v : Int), .int .i64 (srcE (remB bs q) p.n.v)] rfl rfl rfl ?_)
    refine r_cons (s_extract (.int .i64 (srcE (remB bs q) p.n.v)) #[.int .u64 (srcU (remB bs q) p.n.v : Int), .int .i64 (srcE (remB bs q) p.n.v)] rfl rfl rfl ?_)
    refine r_cons (s_assign (.int .u64 (srcU (remB bs q) p.n.v : Int)) rfl rfl ?_)
    refine r_cons (s_assign (.int .i64 (srcE (remB bs q) p.n.v)) rfl rfl ?_)
    refine r_nil ?_
    refine g_seq ?_
    refine g_region ?_
    refine r_cons (s_move (.int .u64 (srcU (remB bs q) p.n.v : Int)) rfl rfl ?_)
    refine r_cons (s_move (.int .u64 (srcU (remB bs q) p.n.v : Int)) rfl rfl ?_)
    refine r_cons (s_eql true rfl rfl (dtrue rfl) rfl ?_)
    refine r_cons (s_move (.bool true) rfl rfl ?_)
    refine r_cons (r_take rfl rfl ?_)
    refine s_move (.int .i64 (srcE (remB bs q) p.n.v)) rfl rfl ?_
    refine r_cons (r_take rfl rfl ?_)
    refine s_move (.int .i64 (srcE (remB bs q) p.n.v)) rfl rfl ?_
    refine r_cons (r_take rfl rfl ?_)
    refine s_eql true rfl rfl (dtrue rfl) rfl ?_
    refine r_cons (s_pick_t (.bool true) rfl rfl rfl ?_)
    refine r_cons (s_assign (.bool true) rfl rfl ?_)
    refine r_nil ?_
    refine g_ret' [.bool true] Try.func16 Try.results16 ⟨rfl, trivial⟩ ?_
    have H9 : St W w7 (SrcA b bs (q + srcN (remB bs q) p.n.v) :: RSrc k ((remB bs q).drop (srcN (remB bs q) p.n.v)) :: F) := (((H8.move 2 rfl).move 2 rfl).drop 2 rfl)
    exact ⟨rfl, q + srcN (remB bs q) p.n.v, srcN_pos hq, by rw [← remB_drop]; exact H9⟩
  · skip
    refine r_cons (s_eql false rfl rfl (dfalse hc4) rfl ?_)
    refine r_cons (s_assign (.bool false) rfl rfl ?_)
    refine r_nil ?_
    refine g_false rfl ?_
    refine g_seq ?_
    refine g_region ?_
    by_cases hc10 : p.kind.v = 1
    · skip
      refine r_cons (s_eql true rfl rfl (dtrue hc10) rfl ?_)
      refine r_cons (s_assign (.bool true) rfl rfl ?_)
      refine r_nil ?_
      refine g_true rfl ?_
      refine g_seq ?_
      refine g_region ?_
      refine r_cons (s_move (.pointer (some ⟨b, 0, none⟩)) rfl rfl ?_)
      refine r_cons (s_call [.pointer (some ⟨b, 0, none⟩)] pl_25 rfl rfl (Src_Nat b bs q (by first | omega | decide +kernel | (repeat (first | assumption | exact Nat.zero_le _ | refine natN_pos ?_ | refine srcN_pos ?_ | refine textN_pos ?_))) (by first | omega | decide +kernel)   (i := 1) rfl H3) ?_)
      rintro _ w11 ⟨rfl, H12⟩
      refine r_cons (s_move (.tuple #[.int .u64 (natU (remB bs q) : Int), .int .i64 (natE (remB bs q))]) rfl rfl ?_)
      refine r_cons (s_extract (.int .u64 (natU (remB bs q) : Int)) #[.int .u64 (natU (remB bs q) : Int), .int .i64 (natE (remB bs q))] rfl rfl rfl ?_)
      refine r_cons (s_extract (.int .i64 (natE (remB bs q))) #[.int .u64 (natU (remB bs q) : Int), .int .i64 (natE (remB bs q))] rfl rfl rfl ?_)
      refine r_cons (s_assign (.int .u64 (natU (remB bs q) : Int)) rfl rfl ?_)
      refine r_cons (s_assign (.int .i64 (natE (remB bs q))) rfl rfl ?_)
      refine r_nil ?_
      refine g_seq ?_
      refine g_region ?_
      refine r_cons (s_move (.pointer (some ⟨k, 0, none⟩)) rfl rfl ?_)
      refine r_cons (s_call [.pointer (some ⟨k, 0, none⟩)] pl_41 rfl rfl (RSrc_Nat k (remB bs q)   (i := 2) rfl H12) ?_)
      rintro _ w13 ⟨rfl, H14⟩
      refine r_cons (s_move (.tuple #[.int .u64 (natU (remB bs q) : Int), .int .i64 (natE (remB bs q))]) rfl rfl ?_)
      refine r_cons (s_extract (.int .u64 (natU (remB bs q) : Int)) #[.int .u64 (natU (remB bs q) : Int), .int .i64 (natE (remB bs q))] rfl rfl rfl ?_)
      refine r_cons (s_extract (.int .i64 (natE (remB bs q))) #[.int .u64 (natU (remB bs q) : Int), .int .i64 (natE (remB bs q))] rfl rfl rfl ?_)
      refine r_cons (s_assign (.int .u64 (natU (remB bs q) : Int)) rfl rfl ?_)
      refine r_cons (s_assign (.int .i64 (natE (remB bs q))) rfl rfl ?_)
      refine r_nil ?_
      refine g_seq ?_
      refine g_region ?_
      refine r_cons (s_move (.int .u64 (natU (remB bs q) : Int)) rfl rfl ?_)
      refine r_cons (s_move (.int .u64 (natU (remB bs q) : Int)) rfl rfl ?_)
      refine r_cons (s_eql true rfl rfl (dtrue rfl) rfl ?_)
      refine r_cons (s_move (.bool true) rfl rfl ?_)
      refine r_cons (r_take rfl rfl ?_)
      refine s_move (.int .i64 (natE (remB bs q))) rfl rfl ?_
      refine r_cons (r_take rfl rfl ?_)
      refine s_move (.int .i64 (natE (remB bs q))) rfl rfl ?_
      refine r_cons (r_take rfl rfl ?_)
      refine s_eql true rfl rfl (dtrue rfl) rfl ?_
      refine r_cons (s_pick_t (.bool true) rfl rfl rfl ?_)
      refine r_cons (s_assign (.bool true) rfl rfl ?_)
      refine r_nil ?_
      refine g_ret' [.bool true] Try.func16 Try.results16 ⟨rfl, trivial⟩ ?_
      have H15 : St W w13 (SrcA b bs (q + natN (remB bs q)) :: RSrc k ((remB bs q).drop (natN (remB bs q))) :: F) := (((H14.move 2 rfl).move 2 rfl).drop 2 rfl)
      exact ⟨rfl, q + natN (remB bs q), natN_pos hq, by rw [← remB_drop]; exact H15⟩
    · skip
      refine r_cons (s_eql false rfl rfl (dfalse hc10) rfl ?_)
      refine r_cons (s_assign (.bool false) rfl rfl ?_)
      refine r_nil ?_
      refine g_false rfl ?_
      refine g_seq ?_
      refine g_region ?_
      by_cases hc16 : p.kind.v = 2
      · skip
        refine r_cons (s_eql true rfl rfl (dtrue hc16) rfl ?_)
        refine r_cons (s_assign (.bool true) rfl rfl ?_)
        refine r_nil ?_
        refine g_true rfl ?_
        refine g_seq ?_
        refine g_region ?_
        refine r_cons (s_move (.pointer (some ⟨b, 0, none⟩)) rfl rfl ?_)
        refine r_cons (s_call [.pointer (some ⟨b, 0, none⟩)] pl_26 rfl rfl (Src_Num b bs q (by first | omega | decide +kernel | (repeat (first | assumption | exact Nat.zero_le _ | refine natN_pos ?_ | refine srcN_pos ?_ | refine textN_pos ?_))) (by first | omega | decide +kernel)   (i := 1) rfl H3) ?_)
        rintro _ w17 ⟨rfl, H18⟩
        refine r_cons (s_move (.tuple #[.int .i64 (zagN (natU (remB bs q))), .int .i64 (natE (remB bs q))]) rfl rfl ?_)
        refine r_cons (s_extract (.int .i64 (zagN (natU (remB bs q)))) #[.int .i64 (zagN (natU (remB bs q))), .int .i64 (natE (remB bs q))] rfl rfl rfl ?_)
        refine r_cons (s_extract (.int .i64 (natE (remB bs q))) #[.int .i64 (zagN (natU (remB bs q))), .int .i64 (natE (remB bs q))] rfl rfl rfl ?_)
        refine r_cons (s_assign (.int .i64 (zagN (natU (remB bs q)))) rfl rfl ?_)
        refine r_cons (s_assign (.int .i64 (natE (remB bs q))) rfl rfl ?_)
        refine r_nil ?_
        refine g_seq ?_
        refine g_region ?_
        refine r_cons (s_move (.pointer (some ⟨k, 0, none⟩)) rfl rfl ?_)
        refine r_cons (s_call [.pointer (some ⟨k, 0, none⟩)] pl_42 rfl rfl (RSrc_Num k (remB bs q)   (i := 2) rfl H18) ?_)
        rintro _ w19 ⟨rfl, H20⟩
        refine r_cons (s_move (.tuple #[.int .i64 (zagN (natU (remB bs q))), .int .i64 (natE (remB bs q))]) rfl rfl ?_)
        refine r_cons (s_extract (.int .i64 (zagN (natU (remB bs q)))) #[.int .i64 (zagN (natU (remB bs q))), .int .i64 (natE (remB bs q))] rfl rfl rfl ?_)
        refine r_cons (s_extract (.int .i64 (natE (remB bs q))) #[.int .i64 (zagN (natU (remB bs q))), .int .i64 (natE (remB bs q))] rfl rfl rfl ?_)
        refine r_cons (s_assign (.int .i64 (zagN (natU (remB bs q)))) rfl rfl ?_)
        refine r_cons (s_assign (.int .i64 (natE (remB bs q))) rfl rfl ?_)
        refine r_nil ?_
        refine g_seq ?_
        refine g_region ?_
        refine r_cons (s_move (.int .i64 (zagN (natU (remB bs q)))) rfl rfl ?_)
        refine r_cons (s_move (.int .i64 (zagN (natU (remB bs q)))) rfl rfl ?_)
        refine r_cons (s_eql true rfl rfl (dtrue rfl) rfl ?_)
        refine r_cons (s_move (.bool true) rfl rfl ?_)
        refine r_cons (r_take rfl rfl ?_)
        refine s_move (.int .i64 (natE (remB bs q))) rfl rfl ?_
        refine r_cons (r_take rfl rfl ?_)
        refine s_move (.int .i64 (natE (remB bs q))) rfl rfl ?_
        refine r_cons (r_take rfl rfl ?_)
        refine s_eql true rfl rfl (dtrue rfl) rfl ?_
        refine r_cons (s_pick_t (.bool true) rfl rfl rfl ?_)
        refine r_cons (s_assign (.bool true) rfl rfl ?_)
        refine r_nil ?_
        refine g_ret' [.bool true] Try.func16 Try.results16 ⟨rfl, trivial⟩ ?_
        have H21 : St W w19 (SrcA b bs (q + natN (remB bs q)) :: RSrc k ((remB bs q).drop (natN (remB bs q))) :: F) := (((H20.move 2 rfl).move 2 rfl).drop 2 rfl)
        exact ⟨rfl, q + natN (remB bs q), natN_pos hq, by rw [← remB_drop]; exact H21⟩
      · skip
        refine r_cons (s_eql false rfl rfl (dfalse hc16) rfl ?_)
        refine r_cons (s_assign (.bool false) rfl rfl ?_)
        refine r_nil ?_
        refine g_false rfl ?_
        refine g_seq ?_
        refine g_region ?_
        by_cases hc22 : p.kind.v = 3
        · skip
          refine r_cons (s_eql true rfl rfl (dtrue hc22) rfl ?_)
          refine r_cons (s_assign (.bool true) rfl rfl ?_)
          refine r_nil ?_
          refine g_true rfl ?_
          refine g_seq ?_
          refine g_region ?_
          refine r_cons (s_move (.pointer (some ⟨b, 0, none⟩)) rfl rfl ?_)
          refine r_cons (s_call [.pointer (some ⟨b, 0, none⟩)] pl_27 rfl rfl (Src_Text b bs q (by first | omega | decide +kernel | (repeat (first | assumption | exact Nat.zero_le _ | refine natN_pos ?_ | refine srcN_pos ?_ | refine textN_pos ?_))) (by first | omega | decide +kernel) (i := 1) rfl H3) ?_)
          rintro _ w23 ⟨rfl, H24⟩
          refine r_cons (s_move (.tuple #[.string (textS (remB bs q)), .int .i64 (textE (remB bs q))]) rfl rfl ?_)
          refine r_cons (s_extract (.string (textS (remB bs q))) #[.string (textS (remB bs q)), .int .i64 (textE (remB bs q))] rfl rfl rfl ?_)
          refine r_cons (s_extract (.int .i64 (textE (remB bs q))) #[.string (textS (remB bs q)), .int .i64 (textE (remB bs q))] rfl rfl rfl ?_)
          refine r_cons (s_assign (.string (textS (remB bs q))) rfl rfl ?_)
          refine r_cons (s_assign (.int .i64 (textE (remB bs q))) rfl rfl ?_)
          refine r_nil ?_
          refine g_seq ?_
          refine g_region ?_
          refine r_cons (s_move (.pointer (some ⟨k, 0, none⟩)) rfl rfl ?_)
          refine r_cons (s_call [.pointer (some ⟨k, 0, none⟩)] pl_43 rfl rfl (RSrc_Text k (remB bs q)  (by first | assumption | omega | (simp only [List.length_drop]; omega)) (i := 2) rfl H24) ?_)
          rintro _ w25 ⟨rfl, H26⟩
          refine r_cons (s_move (.tuple #[.string (textS (remB bs q)), .int .i64 (textE (remB bs q))]) rfl rfl ?_)
          refine r_cons (s_extract (.string (textS (remB bs q))) #[.string (textS (remB bs q)), .int .i64 (textE (remB bs q))] rfl rfl rfl ?_)
          refine r_cons (s_extract (.int .i64 (textE (remB bs q))) #[.string (textS (remB bs q)), .int .i64 (textE (remB bs q))] rfl rfl rfl ?_)
          refine r_cons (s_assign (.string (textS (remB bs q))) rfl rfl ?_)
          refine r_cons (s_assign (.int .i64 (textE (remB bs q))) rfl rfl ?_)
          refine r_nil ?_
          refine g_seq ?_
          refine g_region ?_
          refine r_cons (s_move (.string (textS (remB bs q))) rfl rfl ?_)
          refine r_cons (s_move (.string (textS (remB bs q))) rfl rfl ?_)
          refine r_cons (s_seql true rfl rfl (dtrue rfl) rfl ?_)
          refine r_cons (s_move (.bool true) rfl rfl ?_)
          refine r_cons (r_take rfl rfl ?_)
          refine s_move (.int .i64 (textE (remB bs q))) rfl rfl ?_
          refine r_cons (r_take rfl rfl ?_)
          refine s_move (.int .i64 (textE (remB bs q))) rfl rfl ?_
          refine r_cons (r_take rfl rfl ?_)
          refine s_eql true rfl rfl (dtrue rfl) rfl ?_
          refine r_cons (s_pick_t (.bool true) rfl rfl rfl ?_)
          refine r_cons (s_assign (.bool true) rfl rfl ?_)
          refine r_nil ?_
          refine g_ret' [.bool true] Try.func16 Try.results16 ⟨rfl, trivial⟩ ?_
          have H27 : St W w25 (SrcA b bs (q + textN (remB bs q)) :: RSrc k ((remB bs q).drop (textN (remB bs q))) :: F) := (((H26.move 2 rfl).move 2 rfl).drop 2 rfl)
          exact ⟨rfl, q + textN (remB bs q), textN_pos hq, by rw [← remB_drop]; exact H27⟩
        · skip
          refine r_cons (s_eql false rfl rfl (dfalse hc22) rfl ?_)
          refine r_cons (s_assign (.bool false) rfl rfl ?_)
          refine r_nil ?_
          refine g_false rfl ?_
          refine g_skip ?_
          refine g_inBlock ?_
          refine g_seq ?_
          refine g_region ?_
          refine r_cons (s_move (.pointer (some ⟨b, 0, none⟩)) rfl rfl ?_)
          refine r_cons (s_call [.pointer (some ⟨b, 0, none⟩)] pl_28 rfl rfl (Src_Flag b bs q (by first | omega | decide +kernel | (repeat (first | assumption | exact Nat.zero_le _ | refine natN_pos ?_ | refine srcN_pos ?_ | refine textN_pos ?_))) (by first | omega | decide +kernel)   (i := 1) rfl H3) ?_)
          rintro _ w28 ⟨rfl, H29⟩
          refine r_cons (s_move (.tuple #[.bool (decide ((srcU (remB bs q) 1 : Int) = 1)), .int .i64 (srcE (remB bs q) 1)]) rfl rfl ?_)
          refine r_cons (s_extract (.bool (decide ((srcU (remB bs q) 1 : Int) = 1))) #[.bool (decide ((srcU (remB bs q) 1 : Int) = 1)), .int .i64 (srcE (remB bs q) 1)] rfl rfl rfl ?_)
          refine r_cons (s_extract (.int .i64 (srcE (remB bs q) 1)) #[.bool (decide ((srcU (remB bs q) 1 : Int) = 1)), .int .i64 (srcE (remB bs q) 1)] rfl rfl rfl ?_)
          refine r_cons (s_assign (.bool (decide ((srcU (remB bs q) 1 : Int) = 1))) rfl rfl ?_)
          refine r_cons (s_assign (.int .i64 (srcE (remB bs q) 1)) rfl rfl ?_)
          refine r_nil ?_
          refine g_seq ?_
          refine g_region ?_
          refine r_cons (s_move (.pointer (some ⟨k, 0, none⟩)) rfl rfl ?_)
          refine r_cons (s_call [.pointer (some ⟨k, 0, none⟩)] pl_44 rfl rfl (RSrc_Flag k (remB bs q)   (i := 2) rfl H29) ?_)
          rintro _ w30 ⟨rfl, H31⟩
          refine r_cons (s_move (.tuple #[.bool (decide ((srcU (remB bs q) 1 : Int) = 1)), .int .i64 (srcE (remB bs q) 1)]) rfl rfl ?_)
          refine r_cons (s_extract (.bool (decide ((srcU (remB bs q) 1 : Int) = 1))) #[.bool (decide ((srcU (remB bs q) 1 : Int) = 1)), .int .i64 (srcE (remB bs q) 1)] rfl rfl rfl ?_)
          refine r_cons (s_extract (.int .i64 (srcE (remB bs q) 1)) #[.bool (decide ((srcU (remB bs q) 1 : Int) = 1)), .int .i64 (srcE (remB bs q) 1)] rfl rfl rfl ?_)
          refine r_cons (s_assign (.bool (decide ((srcU (remB bs q) 1 : Int) = 1))) rfl rfl ?_)
          refine r_cons (s_assign (.int .i64 (srcE (remB bs q) 1)) rfl rfl ?_)
          refine r_nil ?_
          refine g_seq ?_
          refine g_region ?_
          refine r_cons (s_move (.bool (decide ((srcU (remB bs q) 1 : Int) = 1))) rfl rfl ?_)
          refine r_cons (s_move (.bool (decide ((srcU (remB bs q) 1 : Int) = 1))) rfl rfl ?_)
          refine r_cons (s_beql true un_4 rfl rfl (dtrue rfl) rfl ?_)
          refine r_cons (s_move (.bool true) rfl rfl ?_)
          refine r_cons (r_take rfl rfl ?_)
          refine s_move (.int .i64 (srcE (remB bs q) 1)) rfl rfl ?_
          refine r_cons (r_take rfl rfl ?_)
          refine s_move (.int .i64 (srcE (remB bs q) 1)) rfl rfl ?_
          refine r_cons (r_take rfl rfl ?_)
          refine s_eql true rfl rfl (dtrue rfl) rfl ?_
          refine r_cons (s_pick_t (.bool true) rfl rfl rfl ?_)
          refine r_cons (s_assign (.bool true) rfl rfl ?_)
          refine r_nil ?_
          refine g_ret' [.bool true] Try.func16 Try.results16 ⟨rfl, trivial⟩ ?_
          have H32 : St W w30 (SrcA b bs (q + srcN (remB bs q) 1) :: RSrc k ((remB bs q).drop (srcN (remB bs q) 1)) :: F) := (((H31.move 2 rfl).move 2 rfl).drop 2 rfl)
          exact ⟨rfl, q + srcN (remB bs q) 1, srcN_pos hq, by rw [← remB_drop]; exact H32⟩
set_option maxHeartbeats 4000000 in
set_option maxRecDepth 100000 in
theorem nSink_room_nil {W w : World} {F : List Atom} (n : Int) (H : St W w F) : Calls Try.prog 37 #[.pointer none, .int .i64 n] w (Ret fun v w' => v = .int .i64 2 ∧ St W w' F) := by
  refine calls_of_go (n := 23) Try.func37 rfl Try.ntmps37 rfl ?_
  refine g_seq ?_
  refine g_region ?_
  refine r_cons (s_assign (.int .i64 0) rfl rfl ?_)
  refine r_nil ?_
  refine g_seq ?_
  refine g_block ?_
  refine g_seq ?_
  refine g_region ?_
  refine r_cons (s_move (.pointer none) rfl rfl ?_)
  refine r_cons (s_peql true un_27 rfl rfl rfl rfl ?_)
  refine r_cons (s_move (.bool true) rfl rfl ?_)
  refine r_cons (r_pass rfl rfl rfl rfl rfl ?_)
  refine r_cons (r_pass rfl rfl rfl rfl rfl ?_)
  refine r_cons (r_pass rfl rfl rfl rfl rfl ?_)
  refine r_cons (r_pass rfl rfl rfl rfl rfl ?_)
  refine r_cons (r_pass rfl rfl rfl rfl rfl ?_)
  refine r_cons (s_pick_t (.bool true) rfl rfl rfl ?_)
  refine r_cons (s_assign (.bool true) rfl rfl ?_)
  refine r_nil ?_
  refine g_true rfl ?_
  refine g_seq ?_
  refine g_region ?_
  refine r_cons (s_assign (.int .i64 2) rfl rfl ?_)
  refine r_nil ?_
  refine g_ret' [.int .i64 2] Try.func37 Try.results37 ⟨rfl, trivial⟩ ?_
  have H1 : St W w F := H
  exact ⟨rfl, H1⟩
set_option maxHeartbeats 4000000 in
set_option maxRecDepth 100000 in
theorem nSink_room_new {W w : World} {F : List Atom} (b : Nat) (n : Int) {i : Nat} (hi : F[i]? = some (blk b (.cells #[.bool false, .slice none 0 0, .int .i64 0] 62 (0, 0)))) (H : St W w F) : Calls Try.prog 37 #[.pointer (some ⟨b, 0, none⟩), .int .i64 n] w (Ret fun v w' => v = .int .i64 2 ∧ St W w' F) := by
  have H0 := H.front hi
  refine calls_of_go (n := 23) Try.func37 rfl Try.ntmps37 rfl ?_
  refine g_seq ?_
  refine g_region ?_
  refine r_cons (s_assign (.int .i64 0) rfl rfl ?_)
  refine r_nil ?_
  refine g_seq ?_
  refine g_block ?_
  refine g_seq ?_
  refine g_region ?_
  refine r_cons (s_move (.pointer (some ⟨b, 0, none⟩)) rfl rfl ?_)
  refine r_cons (s_peql false un_27 rfl rfl rfl rfl ?_)
  refine r_cons (s_move (.bool false) rfl rfl ?_)
  refine r_cons (r_take rfl rfl ?_)
  refine s_move (.pointer (some ⟨b, 0, none⟩)) rfl rfl ?_
  refine r_cons (r_take rfl rfl ?_)
  refine s_nilCheck (.pointer (some ⟨b, 0, none⟩)) rfl ⟨_, rfl⟩ rfl ?_
  refine r_cons (r_take rfl rfl ?_)
  refine s_fieldAddr 62 0 0 0 4 rfl fi_62_0 rfl rfl ?_
  refine r_cons (r_take rfl rfl ?_)
  refine s_load (.bool false) ag_4 rfl (H0.blk_at (i := 0) rfl) rfl rfl ?_
  refine r_cons (r_take rfl rfl ?_)
  refine s_not false rfl true rfl rfl ?_
  refine r_cons (s_pick_f (.bool true) rfl rfl rfl ?_)
  refine r_cons (s_assign (.bool true) rfl rfl ?_)
  refine r_nil ?_
  refine g_true rfl ?_
  refine g_seq ?_
  refine g_region ?_
  refine r_cons (s_assign (.int .i64 2) rfl rfl ?_)
  refine r_nil ?_
  refine g_ret' [.int .i64 2] Try.func37 Try.results37 ⟨rfl, trivial⟩ ?_
  have H1 : St W w (blk b (.cells #[.bool false, .slice none 0 0, .int .i64 0] 62 (0, 0)) :: (F.set i emp)) := H0
  exact ⟨rfl, St.back_same hi H1⟩
set_option maxHeartbeats 4000000 in
set_option maxRecDepth 100000 in
theorem nSink_Bits_nil {W w : World} {F : List Atom} (u : Nat) (n : Int) (H : St W w F) : Calls Try.prog 29 #[.pointer none, .int .u64 (u : Int), .int .i64 n] w (Ret fun v w' => v = .int .i64 2 ∧ St W w' F) := by
  refine calls_of_go (n := 43) Try.func29 rfl Try.ntmps29 rfl ?_
  refine g_seq ?_
  refine g_region ?_
  refine r_cons (s_assign (.int .i64 0) rfl rfl ?_)
  refine r_nil ?_
  refine g_seq ?_
  refine g_seq ?_
  refine g_region ?_
  refine r_cons (s_move (.pointer none) rfl rfl ?_)
  refine r_cons (s_peql true un_27 rfl rfl rfl rfl ?_)
  refine r_cons (s_move (.bool true) rfl rfl ?_)
  refine r_cons (r_pass rfl rfl rfl rfl rfl ?_)
  refine r_cons (r_pass rfl rfl rfl rfl rfl ?_)
  refine r_cons (r_pass rfl rfl rfl rfl rfl ?_)
  refine r_cons (r_pass rfl rfl rfl rfl rfl ?_)
  refine r_cons (r_pass rfl rfl rfl rfl rfl ?_)
  refine r_cons (s_pick_t (.bool true) rfl rfl rfl ?_)
  refine r_nil ?_
  refine g_true rfl ?_
  refine g_seq ?_
  refine g_region ?_
  refine r_cons (s_assign (.int .i64 2) rfl rfl ?_)
  refine r_nil ?_
  refine g_ret' [.int .i64 2] Try.func29 Try.results29 ⟨rfl, trivial⟩ ?_
  have H1 : St W w F := H
  exact ⟨rfl, H1⟩
set_option maxHeartbeats 4000000 in
set_option maxRecDepth 100000 in
theorem nSink_Bits_new {W w : World} {F : List Atom} (b : Nat) (u : Nat) (n : Int) {i : Nat} (hi : F[i]? = some (blk b (.cells #[.bool false, .slice none 0 0, .int .i64 0] 62 (0, 0)))) (H : St W w F) : Calls Try.prog 29 #[.pointer (some ⟨b, 0, none⟩), .int .u64 (u : Int), .int .i64 n] w (Ret fun v w' => v = .int .i64 2 ∧ St W w' F) := by
  have H0 := H.front hi
  refine calls_of_go (n := 43) Try.func29 rfl Try.ntmps29 rfl ?_
  refine g_seq ?_
  refine g_region ?_
  refine r_cons (s_assign (.int .i64 0) rfl rfl ?_)
  refine r_nil ?_
  refine g_seq ?_
  refine g_seq ?_
  refine g_region ?_
  refine r_cons (s_move (.pointer (some ⟨b, 0, none⟩)) rfl rfl ?_)
  refine r_cons (s_peql false un_27 rfl rfl rfl rfl ?_)
  refine r_cons (s_move (.bool false) rfl rfl ?_)
  refine r_cons (r_take rfl rfl ?_)
  refine s_move (.pointer (some ⟨b, 0, none⟩)) rfl rfl ?_
  refine r_cons (r_take rfl rfl ?_)
  refine s_nilCheck (.pointer (some ⟨b, 0, none⟩)) rfl ⟨_, rfl⟩ rfl ?_
  refine r_cons (r_take rfl rfl ?_)
  refine s_fieldAddr 62 0 0 0 4 rfl fi_62_0 rfl rfl ?_
  refine r_cons (r_take rfl rfl ?_)
  refine s_load (.bool false) ag_4 rfl (H0.blk_at (i := 0) rfl) rfl rfl ?_
  refine r_cons (r_take rfl rfl ?_)
  refine s_not false rfl true rfl rfl ?_
  refine r_cons (s_pick_f (.bool true) rfl rfl rfl ?_)
  refine r_nil ?_
  refine g_true rfl ?_
  refine g_seq ?_
  refine g_region ?_
  refine r_cons (s_assign (.int .i64 2) rfl rfl ?_)
  refine r_nil ?_
  refine g_ret' [.int .i64 2] Try.func29 Try.results29 ⟨rfl, trivial⟩ ?_
  have H1 : St W w (blk b (.cells #[.bool false, .slice none 0 0, .int .i64 0] 62 (0, 0)) :: (F.set i emp)) := H0
  exact ⟨rfl, St.back_same hi H1⟩
set_option maxHeartbeats 4000000 in
set_option maxRecDepth 100000 in
theorem nSink_Nat_nil {W w : World} {F : List Atom} (u : Nat) (hu : u < 18446744073709551616) (H : St W w F) : Calls Try.prog 12 #[.pointer none, .int .u64 (u : Int)] w (Ret fun v w' => v = .int .i64 2 ∧ St W w' F) := by
  refine calls_of_go (n := 16) Try.func12 rfl Try.ntmps12 rfl ?_
  refine g_seq ?_
  refine g_region ?_
  refine r_cons (s_assign (.int .i64 0) rfl rfl ?_)
  refine r_nil ?_
  refine g_seq ?_
  refine g_region ?_
  refine r_cons (s_move (.pointer none) rfl rfl ?_)
  refine r_cons (s_move (.int .u64 (u : Int)) rfl rfl ?_)
  refine r_cons (s_call [.int .u64 (u : Int)] pl_10 rfl rfl (Size (u) (by omega) H) ?_)
  rintro _ w1 ⟨rfl, H2⟩
  refine r_cons (s_call [.pointer none, .int .i64 (sizeU u : Int)] pl_37 rfl rfl (nSink_room_nil (sizeU u : Int)  H2) ?_)
  rintro _ w3 ⟨rfl, H4⟩
  refine r_cons (s_assign (.int .i64 2) rfl rfl ?_)
  refine r_nil ?_
  refine g_seq ?_
  refine g_seq ?_
  refine g_region ?_
  refine r_cons (s_move (.int .i64 2) rfl rfl ?_)
  refine r_cons (s_eql false rfl rfl (dfalse (by decide)) rfl ?_)
  refine r_nil ?_
  refine g_false rfl ?_
  refine g_skip ?_
  refine g_seq ?_
  refine g_region ?_
  refine r_cons (s_move (.int .i64 2) rfl rfl ?_)
  refine r_cons (s_assign (.int .i64 2) rfl rfl ?_)
  refine r_nil ?_
  refine g_ret' [.int .i64 2] Try.func12 Try.results12 ⟨rfl, trivial⟩ ?_
  have H5 : St W w3 F := H4
  exact ⟨rfl, H5⟩
set_option maxHeartbeats 4000000 in
set_option maxRecDepth 100000 in
theorem nSink_Nat_new {W w : World} {F : List Atom} (b : Nat) (u : Nat) (hu : u < 18446744073709551616) {i : Nat} (hi : F[i]? = some (blk b (.cells #[.bool false, .slice none 0 0, .int .i64 0] 62 (0, 0)))) (H : St W w F) : Calls Try.prog 12 #[.pointer (some ⟨b, 0, none⟩), .int .u64 (u : Int)] w (Ret fun v w' => v = .int .i64 2 ∧ St W w' F) := by
  have H0 := H.front hi
  refine calls_of_go (n := 16) Try.func12 rfl Try.ntmps12 rfl ?_
  refine g_seq ?_
  refine g_region ?_
  refine r_cons (s_assign (.int .i64 0) rfl rfl ?_)
  refine r_nil ?_
  refine g_seq ?_
  refine g_region ?_
  refine r_cons (s_move (.pointer (some ⟨b, 0, none⟩)) rfl rfl ?_)
  refine r_cons (s_move (.int .u64 (u : Int)) rfl rfl ?_)
  refine r_cons (s_call [.int .u64 (u : Int)] pl_10 rfl rfl (Size (u) (by omega) H0) ?_)
  rintro _ w1 ⟨rfl, H2⟩
  refine r_cons (s_call [.pointer (some ⟨b, 0, none⟩), .int .i64 (sizeU u : Int)] pl_37 rfl rfl (nSink_room_new b (sizeU u : Int)  (i := 0) rfl H2) ?_)
  rintro _ w3 ⟨rfl, H4⟩
  refine r_cons (s_assign (.int .i64 2) rfl rfl ?_)
  refine r_nil ?_
  refine g_seq ?_
  refine g_seq ?_
  refine g_region ?_
  refine r_cons (s_move (.int .i64 2) rfl rfl ?_)
  refine r_cons (s_eql false rfl rfl (dfalse (by decide)) rfl ?_)
  refine r_nil ?_
  refine g_false rfl ?_
  refine g_skip ?_
  refine g_seq ?_
  refine g_region ?_
  refine r_cons (s_move (.int .i64 2) rfl rfl ?_)
  refine r_cons (s_assign (.int .i64 2) rfl rfl ?_)
  refine r_nil ?_
  refine g_ret' [.int .i64 2] Try.func12 Try.results12 ⟨rfl, trivial⟩ ?_
  have H5 : St W w3 (blk b (.cells #[.bool false, .slice none 0 0, .int .i64 0] 62 (0, 0)) :: (F.set i emp)) := H4
  exact ⟨rfl, St.back_same hi H5⟩
set_option maxHeartbeats 4000000 in
set_option maxRecDepth 100000 in
theorem nSink_Text_nil {W w : World} {F : List Atom} (s : ByteArray) (H : St W w F) : Calls Try.prog 31 #[.pointer none, .string s] w (Ret fun v w' => v = .int .i64 2 ∧ St W w' F) := by
  refine calls_of_go (n := 50) Try.func31 rfl Try.ntmps31 rfl ?_
  refine g_seq ?_
  refine g_region ?_
  refine r_cons (s_assign (.int .i64 0) rfl rfl ?_)
  refine r_nil ?_
  refine g_seq ?_
  refine g_seq ?_
  refine g_region ?_
  refine r_cons (s_move (.pointer none) rfl rfl ?_)
  refine r_cons (s_peql true un_27 rfl rfl rfl rfl ?_)
  refine r_cons (s_move (.bool true) rfl rfl ?_)
  refine r_cons (r_pass rfl rfl rfl rfl rfl ?_)
  refine r_cons (r_pass rfl rfl rfl rfl rfl ?_)
  refine r_cons (r_pass rfl rfl rfl rfl rfl ?_)
  refine r_cons (r_pass rfl rfl rfl rfl rfl ?_)
  refine r_cons (r_pass rfl rfl rfl rfl rfl ?_)
  refine r_cons (s_pick_t (.bool true) rfl rfl rfl ?_)
  refine r_nil ?_
  refine g_true rfl ?_
  refine g_seq ?_
  refine g_region ?_
  refine r_cons (s_assign (.int .i64 2) rfl rfl ?_)
  refine r_nil ?_
  refine g_ret' [.int .i64 2] Try.func31 Try.results31 ⟨rfl, trivial⟩ ?_
  have H1 : St W w F := H
  exact ⟨rfl, H1⟩
set_option maxHeartbeats 4000000 in
set_option maxRecDepth 100000 in
theorem nSink_Text_new {W w : World} {F : List Atom} (b : Nat) (s : ByteArray) {i : Nat} (hi : F[i]? = some (blk b (.cells #[.bool false, .slice none 0 0, .int .i64 0] 62 (0, 0)))) (H : St W w F) : Calls Try.prog 31 #[.pointer (some ⟨b, 0, none⟩), .string s] w (Ret fun v w' => v = .int .i64 2 ∧ St W w' F) := by
  have H0 := H.front hi
  refine calls_of_go (n := 50) Try.func31 rfl Try.ntmps31 rfl ?_
  refine g_seq ?_
  refine g_region ?_
  refine r_cons (s_assign (.int .i64 0) rfl rfl ?_)
  refine r_nil ?_
  refine g_seq ?_
  refine g_seq ?_
  refine g_region ?_
  refine r_cons (s_move (.pointer (some ⟨b, 0, none⟩)) rfl rfl ?_)
  refine r_cons (s_peql false un_27 rfl rfl rfl rfl ?_)
  refine r_cons (s_move (.bool false) rfl rfl ?_)
  refine r_cons (r_take rfl rfl ?_)
  refine s_move (.pointer (some ⟨b, 0, none⟩)) rfl rfl ?_
  refine r_cons (r_take rfl rfl ?_)
  refine s_nilCheck (.pointer (some ⟨b, 0, none⟩)) rfl ⟨_, rfl⟩ rfl ?_
  refine r_cons (r_take rfl rfl ?_)
  refine s_fieldAddr 62 0 0 0 4 rfl fi_62_0 rfl rfl ?_
  refine r_cons (r_take rfl rfl ?_)
  refine s_load (.bool false) ag_4 rfl (H0.blk_at (i := 0) rfl) rfl rfl ?_
  refine r_cons (r_take rfl rfl ?_)
  refine s_not false rfl true rfl rfl ?_
  refine r_cons (s_pick_f (.bool true) rfl rfl rfl ?_)
  refine r_nil ?_
  refine g_true rfl ?_
  refine g_seq ?_
  refine g_region ?_
  refine r_cons (s_assign (.int .i64 2) rfl rfl ?_)
  refine r_nil ?_
  refine g_ret' [.int .i64 2] Try.func31 Try.results31 ⟨rfl, trivial⟩ ?_
  have H1 : St W w (blk b (.cells #[.bool false, .slice none 0 0, .int .i64 0] 62 (0, 0)) :: (F.set i emp)) := H0
  exact ⟨rfl, St.back_same hi H1⟩
set_option maxHeartbeats 4000000 in
set_option maxRecDepth 100000 in
theorem nSink_Flags_nil {W w : World} {F : List Atom} (fp : Option Addr) (fk fc : Nat) (H : St W w F) : Calls Try.prog 32 #[.pointer none, .slice fp fk fc] w (Ret fun v w' => v = .int .i64 2 ∧ St W w' F) := by
  refine calls_of_go (n := 25) Try.func32 rfl Try.ntmps32 rfl ?_
  refine g_seq ?_
  refine g_region ?_
  refine r_cons (s_assign (.int .i64 0) rfl rfl ?_)
  refine r_nil ?_
  refine g_seq ?_
  refine g_region ?_
  refine r_cons (s_move (.pointer none) rfl rfl ?_)
  refine r_cons (s_move (.slice fp fk fc) rfl rfl ?_)
  refine r_cons (s_len fk rfl ⟨_, un_23⟩ rfl ?_)
  refine r_cons (s_call [.pointer none, .int .i64 (fk : Int)] pl_37 rfl rfl (nSink_room_nil (fk : Int)  H) ?_)
  rintro _ w1 ⟨rfl, H2⟩
  refine r_cons (s_assign (.int .i64 2) rfl rfl ?_)
  refine r_nil ?_
  refine g_seq ?_
  refine g_seq ?_
  refine g_region ?_
  refine r_cons (s_move (.int .i64 2) rfl rfl ?_)
  refine r_cons (s_eql false rfl rfl (dfalse (by decide)) rfl ?_)
  refine r_nil ?_
  refine g_false rfl ?_
  refine g_skip ?_
  refine g_seq ?_
  refine g_region ?_
  refine r_cons (s_move (.int .i64 2) rfl rfl ?_)
  refine r_cons (s_assign (.int .i64 2) rfl rfl ?_)
  refine r_nil ?_
  refine g_ret' [.int .i64 2] Try.func32 Try.results32 ⟨rfl, trivial⟩ ?_
  have H3 : St W w1 F := H2
  exact ⟨rfl, H3⟩
set_option maxHeartbeats 4000000 in
set_option maxRecDepth 100000 in
theorem nSink_Flags_new {W w : World} {F : List Atom} (b : Nat) (fp : Option Addr) (fk fc : Nat) {i : Nat} (hi : F[i]? = some (blk b (.cells #[.bool false, .slice none 0 0, .int .i64 0] 62 (0, 0)))) (H : St W w F) : Calls Try.prog 32 #[.pointer (some ⟨b, 0, none⟩), .slice fp fk fc] w (Ret fun v w' => v = .int .i64 2 ∧ St W w' F) := by
  have H0 := H.front hi
  refine calls_of_go (n := 25) Try.func32 rfl Try.ntmps32 rfl ?_
  refine g_seq ?_
  refine g_region ?_
  refine r_cons (s_assign (.int .i64 0) rfl rfl ?_)
  refine r_nil ?_
  refine g_seq ?_
  refine g_region ?_
  refine r_cons (s_move (.pointer (some ⟨b, 0, none⟩)) rfl rfl ?_)
  refine r_cons (s_move (.slice fp fk fc) rfl rfl ?_)
  refine r_cons (s_len fk rfl ⟨_, un_23⟩ rfl ?_)
  refine r_cons (s_call [.pointer (some ⟨b, 0, none⟩), .int .i64 (fk : Int)] pl_37 rfl rfl (nSink_room_new b (fk : Int)  (i := 0) rfl H0) ?_)
  rintro _ w1 ⟨rfl, H2⟩
  refine r_cons (s_assign (.int .i64 2) rfl rfl ?_)
  refine r_nil ?_
  refine g_seq ?_
  refine g_seq ?_
  refine g_region ?_
  refine r_cons (s_move (.int .i64 2) rfl rfl ?_)
  refine r_cons (s_eql false rfl rfl (dfalse (by decide)) rfl ?_)
  refine r_nil ?_
  refine g_false rfl ?_
  refine g_skip ?_
  refine g_seq ?_
  refine g_region ?_
  refine r_cons (s_move (.int .i64 2) rfl rfl ?_)
  refine r_cons (s_assign (.int .i64 2) rfl rfl ?_)
  refine r_nil ?_
  refine g_ret' [.int .i64 2] Try.func32 Try.results32 ⟨rfl, trivial⟩ ?_
  have H3 : St W w1 (blk b (.cells #[.bool false, .slice none 0 0, .int .i64 0] 62 (0, 0)) :: (F.set i emp)) := H2
  exact ⟨rfl, St.back_same hi H3⟩
set_option maxHeartbeats 4000000 in
set_option maxRecDepth 100000 in
theorem nSink_Len_nil {W w : World} {F : List Atom}  (H : St W w F) : Calls Try.prog 13 #[.pointer none] w (Ret fun v w' => v = .int .i64 0 ∧ St W w' F) := by
  refine calls_of_go (n := 9) Try.func13 rfl Try.ntmps13 rfl ?_
  refine g_seq ?_
  refine g_region ?_
  refine r_cons (s_assign (.int .i64 0) rfl rfl ?_)
  refine r_nil ?_
  refine g_seq ?_
  refine g_seq ?_
  refine g_region ?_
  refine r_cons (s_move (.pointer none) rfl rfl ?_)
  refine r_cons (s_peql true un_27 rfl rfl rfl rfl ?_)
  refine r_nil ?_
  refine g_true rfl ?_
  refine g_seq ?_
  refine g_region ?_
  refine r_cons (s_assign (.int .i64 0) rfl rfl ?_)
  refine r_nil ?_
  refine g_ret' [.int .i64 0] Try.func13 Try.results13 ⟨rfl, trivial⟩ ?_
  have H1 : St W w F := H
  exact ⟨rfl, H1⟩
set_option maxHeartbeats 4000000 in
set_option maxRecDepth 100000 in
theorem nSink_Len_new {W w : World} {F : List Atom} (b : Nat)  {i : Nat} (hi : F[i]? = some (blk b (.cells #[.bool false, .slice none 0 0, .int .i64 0] 62 (0, 0)))) (H : St W w F) : Calls Try.prog 13 #[.pointer (some ⟨b, 0, none⟩)] w (Ret fun v w' => v = .int .i64 0 ∧ St W w' F) := by
  have H0 := H.front hi
  refine calls_of_go (n := 9) Try.func13 rfl Try.ntmps13 rfl ?_
  refine g_seq ?_
  refine g_region ?_
  refine r_cons (s_assign (.int .i64 0) rfl rfl ?_)
  refine r_nil ?_
  refine g_seq ?_
  refine g_seq ?_
  refine g_region ?_
  refine r_cons (s_move (.pointer (some ⟨b, 0, none⟩)) rfl rfl ?_)
  refine r_cons (s_peql false un_27 rfl rfl rfl rfl ?_)
  refine r_nil ?_
  refine g_false rfl ?_
  refine g_skip ?_
  refine g_seq ?_
  refine g_region ?_
  refine r_cons (s_move (.pointer (some ⟨b, 0, none⟩)) rfl rfl ?_)
  refine r_cons (s_nilCheck (.pointer (some ⟨b, 0, none⟩)) rfl ⟨_, rfl⟩ rfl ?_)
  refine r_cons (s_fieldAddr 62 2 2 2 3 rfl fi_62_2 rfl rfl ?_)
  refine r_cons (s_load (.int .i64 0) ag_3 rfl (H0.blk_at (i := 0) rfl) rfl rfl ?_)
  refine r_cons (s_assign (.int .i64 0) rfl rfl ?_)
  refine r_nil ?_
  refine g_ret' [.int .i64 0] Try.func13 Try.results13 ⟨rfl, trivial⟩ ?_
  have H1 : St W w (blk b (.cells #[.bool false, .slice none 0 0, .int .i64 0] 62 (0, 0)) :: (F.set i emp)) := H0
  exact ⟨rfl, St.back_same hi H1⟩
set_option maxHeartbeats 4000000 in
set_option maxRecDepth 100000 in
theorem nSink_Out_nil {W w : World} {F : List Atom}  (H : St W w F) : Calls Try.prog 22 #[.pointer none] w (Ret fun v w' => v = .slice none 0 0 ∧ St W w' F) := by
  refine calls_of_go (n := 10) Try.func22 rfl Try.ntmps22 rfl ?_
  refine g_seq ?_
  refine g_region ?_
  refine r_cons (s_assign (.slice none 0 0) rfl rfl ?_)
  refine r_nil ?_
  refine g_seq ?_
  refine g_seq ?_
  refine g_region ?_
  refine r_cons (s_move (.pointer none) rfl rfl ?_)
  refine r_cons (s_peql true un_27 rfl rfl rfl rfl ?_)
  refine r_nil ?_
  refine g_true rfl ?_
  refine g_seq ?_
  refine g_region ?_
  refine r_cons (s_assign (.slice none 0 0) rfl rfl ?_)
  refine r_nil ?_
  refine g_ret' [.slice none 0 0] Try.func22 Try.results22 ⟨rfl, trivial⟩ ?_
  have H1 : St W w F := H
  exact ⟨rfl, H1⟩
set_option maxHeartbeats 4000000 in
set_option maxRecDepth 100000 in
theorem nSink_Out_new {W w : World} {F : List Atom} (b : Nat) {i : Nat} (hi : F[i]? = some (blk b (.cells #[.bool false, .slice none 0 0, .int .i64 0] 62 (0, 0)))) (H : St W w F) : Calls Try.prog 22 #[.pointer (some ⟨b, 0, none⟩)] w (Ret fun v w' => ∃ p c, v = .slice p 0 c ∧ St W w' F) := by
  have H0 := H.front hi
  refine calls_of_go (n := 10) Try.func22 rfl Try.ntmps22 rfl ?_
  refine g_seq ?_
  refine g_region ?_
  refine r_cons (s_assign (.slice none 0 0) rfl rfl ?_)
  refine r_nil ?_
  refine g_seq ?_
  refine g_seq ?_
  refine g_region ?_
  refine r_cons (s_move (.pointer (some ⟨b, 0, none⟩)) rfl rfl ?_)
  refine r_cons (s_peql false un_27 rfl rfl rfl rfl ?_)
  refine r_nil ?_
  refine g_false rfl ?_
  refine g_skip ?_
  refine g_seq ?_
  refine g_region ?_
  refine r_cons (s_move (.pointer (some ⟨b, 0, none⟩)) rfl rfl ?_)
  refine r_cons (s_nilCheck (.pointer (some ⟨b, 0, none⟩)) rfl ⟨_, rfl⟩ rfl ?_)
  refine r_cons (s_fieldAddr 62 1 1 1 33 rfl fi_62_1 rfl rfl ?_)
  have H1 := Row.im (Row.nil_intro H0 5 1) (i := 0) rfl
  refine r_cons (s_load (.slice none 0 0) ag_33 rfl (H1.blk_at (i := 1) rfl) rfl rfl ?_)
  refine r_cons (s_call [.slice none 0 0] pl_39 rfl rfl (clone_bytes _ _ 0 (([] : List UInt8).flatMap u8c) RdA.im (by first | omega | (have hlp := Nat.le_refl 0; omega)) (j := 0) rfl H1) ?_)
  rintro _ w4 ⟨pp2, cc3, rfl, H5⟩
  refine r_cons (s_assign (.slice pp2 0 cc3) rfl rfl ?_)
  refine r_nil ?_
  refine g_ret' [.slice pp2 0 cc3] Try.func22 Try.results22 ⟨rfl, trivial⟩ ?_
  have H6 : St W w4 (blk b (.cells #[.bool false, .slice none 0 0, .int .i64 0] 62 (0, 0)) :: (F.set i emp)) := (((H5.move 2 rfl).drop 1 rfl).drop 1 rfl)
  exact ⟨_, _, rfl, St.back_same hi H6⟩
set_option maxHeartbeats 4000000 in
set_option maxRecDepth 100000 in
theorem nSink_Num_nil {W w : World} {F : List Atom}  (H : St W w F) : Calls Try.prog 30 #[.pointer none, .int .i64 5] w (Ret fun v w' => v = .int .i64 2 ∧ St W w' F) := by
  refine calls_of_go (n := 13) Try.func30 rfl Try.ntmps30 rfl ?_
  refine g_seq ?_
  refine g_region ?_
  refine r_cons (s_assign (.int .i64 0) rfl rfl ?_)
  refine r_nil ?_
  refine g_seq ?_
  refine g_region ?_
  refine r_cons (s_move (.pointer none) rfl rfl ?_)
  refine r_cons (s_move (.int .i64 5) rfl rfl ?_)
  refine r_cons (s_shl 10 rfl rfl (by omega) (by decide) rfl ?_)
  refine r_cons (s_move (.int .i64 5) rfl rfl ?_)
  refine r_cons (s_shr 0 rfl rfl (by omega) (by decide) rfl ?_)
  refine r_cons (s_xor 10 rfl rfl (by decide) rfl ?_)
  refine r_cons (s_conv 10 rfl us_2 ik_22 (wu64 (by omega)) rfl ?_)
  refine r_cons (s_call [.pointer none, .int .u64 10] pl_12 rfl rfl (nSink_Nat_nil 10 (by omega) H) ?_)
  rintro _ w1 ⟨rfl, H2⟩
  refine r_cons (s_assign (.int .i64 2) rfl rfl ?_)
  refine r_nil ?_
  refine g_ret' [.int .i64 2] Try.func30 Try.results30 ⟨rfl, trivial⟩ ?_
  have H3 : St W w1 F := H2
  exact ⟨rfl, H3⟩
set_option maxHeartbeats 4000000 in
set_option maxRecDepth 100000 in
theorem nSink_Num_new {W w : World} {F : List Atom} (b : Nat) {i : Nat} (hi : F[i]? = some (blk b (.cells #[.bool false, .slice none 0 0, .int .i64 0] 62 (0, 0)))) (H : St W w F) : Calls Try.prog 30 #[.pointer (some ⟨b, 0, none⟩), .int .i64 5] w (Ret fun v w' => v = .int .i64 2 ∧ St W w' F) := by
  have H0 := H.front hi
  refine calls_of_go (n := 13) Try.func30 rfl Try.ntmps30 rfl ?_
  refine g_seq ?_
  refine g_region ?_
  refine r_cons (s_assign (.int .i64 0) rfl rfl ?_)
  refine r_nil ?_
  refine g_seq ?_
  refine g_region ?_
  refine r_cons (s_move (.pointer (some ⟨b, 0, none⟩)) rfl rfl ?_)
  refine r_cons (s_move (.int .i64 5) rfl rfl ?_)
  refine r_cons (s_shl 10 rfl rfl (by omega) (by decide) rfl ?_)
  refine r_cons (s_move (.int .i64 5) rfl rfl ?_)
  refine r_cons (s_shr 0 rfl rfl (by omega) (by decide) rfl ?_)
  refine r_cons (s_xor 10 rfl rfl (by decide) rfl ?_)
  refine r_cons (s_conv 10 rfl us_2 ik_22 (wu64 (by omega)) rfl ?_)
  refine r_cons (s_call [.pointer (some ⟨b, 0, none⟩), .int .u64 10] pl_12 rfl rfl (nSink_Nat_new b 10 (by omega) (i := 0) rfl H0) ?_)
  rintro _ w1 ⟨rfl, H2⟩
  refine r_cons (s_assign (.int .i64 2) rfl rfl ?_)
  refine r_nil ?_
  refine g_ret' [.int .i64 2] Try.func30 Try.results30 ⟨rfl, trivial⟩ ?_
  have H3 : St W w1 (blk b (.cells #[.bool false, .slice none 0 0, .int .i64 0] 62 (0, 0)) :: (F.set i emp)) := H2
  exact ⟨rfl, St.back_same hi H3⟩
set_option maxHeartbeats 4000000 in
set_option maxRecDepth 100000 in
theorem nSrc_Bits_nil {W w : World} {F : List Atom} (n : Int) (H : St W w F) : Calls Try.prog 24 #[.pointer none, .int .i64 n] w (Ret fun v w' => v = .tuple #[.int .u64 0, .int .i64 2] ∧ St W w' F) := by
  refine calls_of_go (n := 50) Try.func24 rfl Try.ntmps24 rfl ?_
  refine g_seq ?_
  refine g_region ?_
  refine r_cons (s_assign (.int .u64 0) rfl rfl ?_)
  refine r_cons (s_assign (.int .i64 0) rfl rfl ?_)
  refine r_nil ?_
  refine g_seq ?_
  refine g_block ?_
  refine g_seq ?_
  refine g_region ?_
  refine r_cons (s_move (.pointer none) rfl rfl ?_)
  refine r_cons (s_peql true un_35 rfl rfl rfl rfl ?_)
  refine r_cons (s_move (.bool true) rfl rfl ?_)
  refine r_cons (r_pass rfl rfl rfl rfl rfl ?_)
  refine r_cons (r_pass rfl rfl rfl rfl rfl ?_)
  refine r_cons (r_pass rfl rfl rfl rfl rfl ?_)
  refine r_cons (r_pass rfl rfl rfl rfl rfl ?_)
  refine r_cons (r_pass rfl rfl rfl rfl rfl ?_)
  refine r_cons (s_pick_t (.bool true) rfl rfl rfl ?_)
  refine r_cons (s_assign (.bool true) rfl rfl ?_)
  refine r_nil ?_
  refine g_true rfl ?_
  refine g_seq ?_
  refine g_region ?_
  refine r_cons (s_assign (.int .u64 0) rfl rfl ?_)
  refine r_cons (s_assign (.int .i64 2) rfl rfl ?_)
  refine r_nil ?_
  refine g_ret' [.int .u64 0, .int .i64 2] Try.func24 Try.results24 ⟨rfl, rfl, trivial⟩ ?_
  have H1 : St W w F := H
  exact ⟨rfl, H1⟩
set_option maxHeartbeats 4000000 in
set_option maxRecDepth 100000 in
theorem nSrc_Bits_new {W w : World} {F : List Atom} (b : Nat) (n : Int) {i : Nat} (hi : F[i]? = some (blk b (.cells #[.bool false, .slice none 0 0, .int .i64 0] 69 (0, 0)))) (H : St W w F) : Calls Try.prog 24 #[.pointer (some ⟨b, 0, none⟩), .int .i64 n] w (Ret fun v w' => v = .tuple #[.int .u64 0, .int .i64 2] ∧ St W w' F) := by
  have H0 := H.front hi
  refine calls_of_go (n := 50) Try.func24 rfl Try.ntmps24 rfl ?_
  refine g_seq ?_
  refine g_region ?_
  refine r_cons (s_assign (.int .u64 0) rfl rfl ?_)
  refine r_cons (s_assign (.int .i64 0) rfl rfl ?_)
  refine r_nil ?_
  refine g_seq ?_
  refine g_block ?_
  refine g_seq ?_
  refine g_region ?_
  refine r_cons (s_move (.pointer (some ⟨b, 0, none⟩)) rfl rfl ?_)
  refine r_cons (s_peql false un_35 rfl rfl rfl rfl ?_)
  refine r_cons (s_move (.bool false) rfl rfl ?_)
  refine r_cons (r_take rfl rfl ?_)
  refine s_move (.pointer (some ⟨b, 0, none⟩)) rfl rfl ?_
  refine r_cons (r_take rfl rfl ?_)
  refine s_nilCheck (.pointer (some ⟨b, 0, none⟩)) rfl ⟨_, rfl⟩ rfl ?_
  refine r_cons (r_take rfl rfl ?_)
  refine s_fieldAddr 69 0 0 0 4 rfl fi_69_0 rfl rfl ?_
  refine r_cons (r_take rfl rfl ?_)
  refine s_load (.bool false) ag_4 rfl (H0.blk_at (i := 0) rfl) rfl rfl ?_
  refine r_cons (r_take rfl rfl ?_)
  refine s_not false rfl true rfl rfl ?_
  refine r_cons (s_pick_f (.bool true) rfl rfl rfl ?_)
  refine r_cons (s_assign (.bool true) rfl rfl ?_)
  refine r_nil ?_
  refine g_true rfl ?_
  refine g_seq ?_
  refine g_region ?_
  refine r_cons (s_assign (.int .u64 0) rfl rfl ?_)
  refine r_cons (s_assign (.int .i64 2) rfl rfl ?_)
  refine r_nil ?_
  refine g_ret' [.int .u64 0, .int .i64 2] Try.func24 Try.results24 ⟨rfl, rfl, trivial⟩ ?_
  have H1 : St W w (blk b (.cells #[.bool false, .slice none 0 0, .int .i64 0] 69 (0, 0)) :: (F.set i emp)) := H0
  exact ⟨rfl, St.back_same hi H1⟩
set_option maxHeartbeats 4000000 in
set_option maxRecDepth 100000 in
theorem nSrc_Nat_nil {W w : World} {F : List Atom}  (H : St W w F) : Calls Try.prog 25 #[.pointer none] w (Ret fun v w' => v = .tuple #[.int .u64 0, .int .i64 2] ∧ St W w' F) := by
  refine calls_of_go (n := 82) Try.func25 rfl Try.ntmps25 rfl ?_
  refine g_seq ?_
  refine g_region ?_
  refine r_cons (s_assign (.int .u64 0) rfl rfl ?_)
  refine r_cons (s_assign (.int .i64 0) rfl rfl ?_)
  refine r_nil ?_
  refine g_seq ?_
  refine g_seq ?_
  refine g_region ?_
  refine r_cons (s_move (.pointer none) rfl rfl ?_)
  refine r_cons (s_peql true un_35 rfl rfl rfl rfl ?_)
  refine r_cons (s_move (.bool true) rfl rfl ?_)
  refine r_cons (r_pass rfl rfl rfl rfl rfl ?_)
  refine r_cons (r_pass rfl rfl rfl rfl rfl ?_)
  refine r_cons (r_pass rfl rfl rfl rfl rfl ?_)
  refine r_cons (r_pass rfl rfl rfl rfl rfl ?_)
  refine r_cons (r_pass rfl rfl rfl rfl rfl ?_)
  refine r_cons (s_pick_t (.bool true) rfl rfl rfl ?_)
  refine r_nil ?_
  refine g_true rfl ?_
  refine g_seq ?_
  refine g_region ?_
  refine r_cons (s_assign (.int .u64 0) rfl rfl ?_)
  refine r_cons (s_assign (.int .i64 2) rfl rfl ?_)
  refine r_nil ?_
  refine g_ret' [.int .u64 0, .int .i64 2] Try.func25 Try.results25 ⟨rfl, rfl, trivial⟩ ?_
  have H1 : St W w F := H
  exact ⟨rfl, H1⟩
set_option maxHeartbeats 4000000 in
set_option maxRecDepth 100000 in
theorem nSrc_Nat_new {W w : World} {F : List Atom} (b : Nat)  {i : Nat} (hi : F[i]? = some (blk b (.cells #[.bool false, .slice none 0 0, .int .i64 0] 69 (0, 0)))) (H : St W w F) : Calls Try.prog 25 #[.pointer (some ⟨b, 0, none⟩)] w (Ret fun v w' => v = .tuple #[.int .u64 0, .int .i64 2] ∧ St W w' F) := by
  have H0 := H.front hi
  refine calls_of_go (n := 82) Try.func25 rfl Try.ntmps25 rfl ?_
  refine g_seq ?_
  refine g_region ?_
  refine r_cons (s_assign (.int .u64 0) rfl rfl ?_)
  refine r_cons (s_assign (.int .i64 0) rfl rfl ?_)
  refine r_nil ?_
  refine g_seq ?_
  refine g_seq ?_
  refine g_region ?_
  refine r_cons (s_move (.pointer (some ⟨b, 0, none⟩)) rfl rfl ?_)
  refine r_cons (s_peql false un_35 rfl rfl rfl rfl ?_)
  refine r_cons (s_move (.bool false) rfl rfl ?_)
  refine r_cons (r_take rfl rfl ?_)
  refine s_move (.pointer (some ⟨b, 0, none⟩)) rfl rfl ?_
  refine r_cons (r_take rfl rfl ?_)
  refine s_nilCheck (.pointer (some ⟨b, 0, none⟩)) rfl ⟨_, rfl⟩ rfl ?_
  refine r_cons (r_take rfl rfl ?_)
  refine s_fieldAddr 69 0 0 0 4 rfl fi_69_0 rfl rfl ?_
  refine r_cons (r_take rfl rfl ?_)
  refine s_load (.bool false) ag_4 rfl (H0.blk_at (i := 0) rfl) rfl rfl ?_
  refine r_cons (r_take rfl rfl ?_)
  refine s_not false rfl true rfl rfl ?_
  refine r_cons (s_pick_f (.bool true) rfl rfl rfl ?_)
  refine r_nil ?_
  refine g_true rfl ?_
  refine g_seq ?_
  refine g_region ?_
  refine r_cons (s_assign (.int .u64 0) rfl rfl ?_)
  refine r_cons (s_assign (.int .i64 2) rfl rfl ?_)
  refine r_nil ?_
  refine g_ret' [.int .u64 0, .int .i64 2] Try.func25 Try.results25 ⟨rfl, rfl, trivial⟩ ?_
  have H1 : St W w (blk b (.cells #[.bool false, .slice none 0 0, .int .i64 0] 69 (0, 0)) :: (F.set i emp)) := H0
  exact ⟨rfl, St.back_same hi H1⟩
set_option maxHeartbeats 4000000 in
set_option maxRecDepth 100000 in
theorem nSrc_Num_nil {W w : World} {F : List Atom}  (H : St W w F) : Calls Try.prog 26 #[.pointer none] w (Ret fun v w' => v = .tuple #[.int .i64 0, .int .i64 2] ∧ St W w' F) := by
  refine calls_of_go (n := 20) Try.func26 rfl Try.ntmps26 rfl ?_
  refine g_seq ?_
  refine g_region ?_
  refine r_cons (s_assign (.int .i64 0) rfl rfl ?_)
  refine r_cons (s_assign (.int .i64 0) rfl rfl ?_)
  refine r_nil ?_
  refine g_seq ?_
  refine g_region ?_
  refine r_cons (s_move (.pointer none) rfl rfl ?_)
  refine r_cons (s_call [.pointer none] pl_25 rfl rfl (nSrc_Nat_nil   H) ?_)
  rintro _ w1 ⟨rfl, H2⟩
  refine r_cons (s_move (.tuple #[.int .u64 0, .int .i64 2]) rfl rfl ?_)
  refine r_cons (s_extract (.int .u64 0) #[.int .u64 0, .int .i64 2] rfl rfl rfl ?_)
  refine r_cons (s_extract (.int .i64 2) #[.int .u64 0, .int .i64 2] rfl rfl rfl ?_)
  refine r_cons (s_assign (.int .u64 0) rfl rfl ?_)
  refine r_cons (s_assign (.int .i64 2) rfl rfl ?_)
  refine r_nil ?_
  refine g_seq ?_
  refine g_region ?_
  refine r_cons (s_move (.int .u64 0) rfl rfl ?_)
  refine r_cons (s_shr 0 rfl rfl (by omega) (by decide +kernel) rfl ?_)
  refine r_cons (s_conv 0 rfl us_22 ik_2 (wi64 (by omega)) rfl ?_)
  refine r_cons (s_move (.int .u64 0) rfl rfl ?_)
  refine r_cons (s_and 0 rfl rfl (by decide +kernel) rfl ?_)
  refine r_cons (s_conv 0 rfl us_22 ik_2 (wi64 (by omega)) rfl ?_)
  refine r_cons (s_neg 0 rfl (wi64 (by omega)) rfl ?_)
  refine r_cons (s_xor 0 rfl rfl (by decide +kernel) rfl ?_)
  refine r_cons (s_move (.int .i64 2) rfl rfl ?_)
  refine r_cons (s_assign (.int .i64 0) rfl rfl ?_)
  refine r_cons (s_assign (.int .i64 2) rfl rfl ?_)
  refine r_nil ?_
  refine g_ret' [.int .i64 0, .int .i64 2] Try.func26 Try.results26 ⟨rfl, rfl, trivial⟩ ?_
  have H3 : St W w1 F := H2
  exact ⟨rfl, H3⟩
set_option maxHeartbeats 4000000 in
set_option maxRecDepth 100000 in
theorem nSrc_Num_new {W w : World} {F : List Atom} (b : Nat)  {i : Nat} (hi : F[i]? = some (blk b (.cells #[.bool false, .slice none 0 0, .int .i64 0] 69 (0, 0)))) (H : St W w F) : Calls Try.prog 26 #[.pointer (some ⟨b, 0, none⟩)] w (Ret fun v w' => v = .tuple #[.int .i64 0, .int .i64 2] ∧ St W w' F) := by
  have H0 := H.front hi
  refine calls_of_go (n := 20) Try.func26 rfl Try.ntmps26 rfl ?_
  refine g_seq ?_
  refine g_region ?_
  refine r_cons (s_assign (.int .i64 0) rfl rfl ?_)
  refine r_cons (s_assign (.int .i64 0) rfl rfl ?_)
  refine r_nil ?_
  refine g_seq ?_
  refine g_region ?_
  refine r_cons (s_move (.pointer (some ⟨b, 0, none⟩)) rfl rfl ?_)
  refine r_cons (s_call [.pointer (some ⟨b, 0, none⟩)] pl_25 rfl rfl (nSrc_Nat_new b   (i := 0) rfl H0) ?_)
  rintro _ w1 ⟨rfl, H2⟩
  refine r_cons (s_move (.tuple #[.int .u64 0, .int .i64 2]) rfl rfl ?_)
  refine r_cons (s_extract (.int .u64 0) #[.int .u64 0, .int .i64 2] rfl rfl rfl ?_)
  refine r_cons (s_extract (.int .i64 2) #[.int .u64 0, .int .i64 2] rfl rfl rfl ?_)
  refine r_cons (s_assign (.int .u64 0) rfl rfl ?_)
  refine r_cons (s_assign (.int .i64 2) rfl rfl ?_)
  refine r_nil ?_
  refine g_seq ?_
  refine g_region ?_
  refine r_cons (s_move (.int .u64 0) rfl rfl ?_)
  refine r_cons (s_shr 0 rfl rfl (by omega) (by decide +kernel) rfl ?_)
  refine r_cons (s_conv 0 rfl us_22 ik_2 (wi64 (by omega)) rfl ?_)
  refine r_cons (s_move (.int .u64 0) rfl rfl ?_)
  refine r_cons (s_and 0 rfl rfl (by decide +kernel) rfl ?_)
  refine r_cons (s_conv 0 rfl us_22 ik_2 (wi64 (by omega)) rfl ?_)
  refine r_cons (s_neg 0 rfl (wi64 (by omega)) rfl ?_)
  refine r_cons (s_xor 0 rfl rfl (by decide +kernel) rfl ?_)
  refine r_cons (s_move (.int .i64 2) rfl rfl ?_)
  refine r_cons (s_assign (.int .i64 0) rfl rfl ?_)
  refine r_cons (s_assign (.int .i64 2) rfl rfl ?_)
  refine r_nil ?_
  refine g_ret' [.int .i64 0, .int .i64 2] Try.func26 Try.results26 ⟨rfl, rfl, trivial⟩ ?_
  have H3 : St W w1 (blk b (.cells #[.bool false, .slice none 0 0, .int .i64 0] 69 (0, 0)) :: (F.set i emp)) := H2
  exact ⟨rfl, St.back_same hi H3⟩
set_option maxHeartbeats 4000000 in
set_option maxRecDepth 100000 in
theorem nSrc_Text_nil {W w : World} {F : List Atom}  (H : St W w F) : Calls Try.prog 27 #[.pointer none] w (Ret fun v w' => v = .tuple #[.string ByteArray.empty, .int .i64 2] ∧ St W w' F) := by
  refine calls_of_go (n := 61) Try.func27 rfl Try.ntmps27 rfl ?_
  refine g_seq ?_
  refine g_region ?_
  refine r_cons (s_assign (.string ByteArray.empty) rfl rfl ?_)
  refine r_cons (s_assign (.int .i64 0) rfl rfl ?_)
  refine r_nil ?_
  refine g_seq ?_
  refine g_seq ?_
  refine g_region ?_
  refine r_cons (s_move (.pointer none) rfl rfl ?_)
  refine r_cons (s_peql true un_35 rfl rfl rfl rfl ?_)
  refine r_cons (s_move (.bool true) rfl rfl ?_)
  refine r_cons (r_pass rfl rfl rfl rfl rfl ?_)
  refine r_cons (r_pass rfl rfl rfl rfl rfl ?_)
  refine r_cons (r_pass rfl rfl rfl rfl rfl ?_)
  refine r_cons (r_pass rfl rfl rfl rfl rfl ?_)
  refine r_cons (r_pass rfl rfl rfl rfl rfl ?_)
  refine r_cons (s_pick_t (.bool true) rfl rfl rfl ?_)
  refine r_nil ?_
  refine g_true rfl ?_
  refine g_seq ?_
  refine g_region ?_
  refine r_cons (s_assign (.string ByteArray.empty) rfl rfl ?_)
  refine r_cons (s_assign (.int .i64 2) rfl rfl ?_)
  refine r_nil ?_
  refine g_ret' [.string ByteArray.empty, .int .i64 2] Try.func27 Try.results27 ⟨rfl, rfl, trivial⟩ ?_
  have H1 : St W w F := H
  exact ⟨rfl, H1⟩
set_option maxHeartbeats 4000000 in
set_option maxRecDepth 100000 in
theorem nSrc_Text_new {W w : World} {F : List Atom} (b : Nat)  {i : Nat} (hi : F[i]? = some (blk b (.cells #[.bool false, .slice none 0 0, .int .i64 0] 69 (0, 0)))) (H : St W w F) : Calls Try.prog 27 #[.pointer (some ⟨b, 0, none⟩)] w (Ret fun v w' => v = .tuple #[.string ByteArray.empty, .int .i64 2] ∧ St W w' F) := by
  have H0 := H.front hi
  refine calls_of_go (n := 61) Try.func27 rfl Try.ntmps27 rfl ?_
  refine g_seq ?_
  refine g_region ?_
  refine r_cons (s_assign (.string ByteArray.empty) rfl rfl ?_)
  refine r_cons (s_assign (.int .i64 0) rfl rfl ?_)
  refine r_nil ?_
  refine g_seq ?_
  refine g_seq ?_
  refine g_region ?_
  refine r_cons (s_move (.pointer (some ⟨b, 0, none⟩)) rfl rfl ?_)
  refine r_cons (s_peql false un_35 rfl rfl rfl rfl ?_)
  refine r_cons (s_move (.bool false) rfl rfl ?_)
  refine r_cons (r_take rfl rfl ?_)
  refine s_move (.pointer (some ⟨b, 0, none⟩)) rfl rfl ?_
  refine r_cons (r_take rfl rfl ?_)
  refine s_nilCheck (.pointer (some ⟨b, 0, none⟩)) rfl ⟨_, rfl⟩ rfl ?_
  refine r_cons (r_take rfl rfl ?_)
  refine s_fieldAddr 69 0 0 0 4 rfl fi_69_0 rfl rfl ?_
  refine r_cons (r_take rfl rfl ?_)
  refine s_load (.bool false) ag_4 rfl (H0.blk_at (i := 0) rfl) rfl rfl ?_
  refine r_cons (r_take rfl rfl ?_)
  refine s_not false rfl true rfl rfl ?_
  refine r_cons (s_pick_f (.bool true) rfl rfl rfl ?_)
  refine r_nil ?_
  refine g_true rfl ?_
  refine g_seq ?_
  refine g_region ?_
  refine r_cons (s_assign (.string ByteArray.empty) rfl rfl ?_)
  refine r_cons (s_assign (.int .i64 2) rfl rfl ?_)
  refine r_nil ?_
  refine g_ret' [.string ByteArray.empty, .int .i64 2] Try.func27 Try.results27 ⟨rfl, rfl, trivial⟩ ?_
  have H1 : St W w (blk b (.cells #[.bool false, .slice none 0 0, .int .i64 0] 69 (0, 0)) :: (F.set i emp)) := H0
  exact ⟨rfl, St.back_same hi H1⟩
set_option maxHeartbeats 4000000 in
set_option maxRecDepth 100000 in
theorem nSrc_Flag_nil {W w : World} {F : List Atom}  (H : St W w F) : Calls Try.prog 28 #[.pointer none] w (Ret fun v w' => v = .tuple #[.bool false, .int .i64 2] ∧ St W w' F) := by
  refine calls_of_go (n := 14) Try.func28 rfl Try.ntmps28 rfl ?_
  refine g_seq ?_
  refine g_region ?_
  refine r_cons (s_assign (.bool false) rfl rfl ?_)
  refine r_cons (s_assign (.int .i64 0) rfl rfl ?_)
  refine r_nil ?_
  refine g_seq ?_
  refine g_region ?_
  refine r_cons (s_move (.pointer none) rfl rfl ?_)
  refine r_cons (s_call [.pointer none, .int .i64 1] pl_24 rfl rfl (nSrc_Bits_nil 1  H) ?_)
  rintro _ w1 ⟨rfl, H2⟩
  refine r_cons (s_move (.tuple #[.int .u64 0, .int .i64 2]) rfl rfl ?_)
  refine r_cons (s_extract (.int .u64 0) #[.int .u64 0, .int .i64 2] rfl rfl rfl ?_)
  refine r_cons (s_extract (.int .i64 2) #[.int .u64 0, .int .i64 2] rfl rfl rfl ?_)
  refine r_cons (s_assign (.int .u64 0) rfl rfl ?_)
  refine r_cons (s_assign (.int .i64 2) rfl rfl ?_)
  refine r_nil ?_
  refine g_seq ?_
  refine g_region ?_
  refine r_cons (s_move (.int .u64 0) rfl rfl ?_)
  refine r_cons (s_eql false rfl rfl (dfalse (by decide)) rfl ?_)
  refine r_cons (s_move (.int .i64 2) rfl rfl ?_)
  refine r_cons (s_assign (.bool false) rfl rfl ?_)
  refine r_cons (s_assign (.int .i64 2) rfl rfl ?_)
  refine r_nil ?_
  refine g_ret' [.bool false, .int .i64 2] Try.func28 Try.results28 ⟨rfl, rfl, trivial⟩ ?_
  have H3 : St W w1 F := H2
  exact ⟨rfl, H3⟩
set_option maxHeartbeats 4000000 in
set_option maxRecDepth 100000 in
theorem nSrc_Flag_new {W w : World} {F : List Atom} (b : Nat)  {i : Nat} (hi : F[i]? = some (blk b (.cells #[.bool false, .slice none 0 0, .int .i64 0] 69 (0, 0)))) (H : St W w F) : Calls Try.prog 28 #[.pointer (some ⟨b, 0, none⟩)] w (Ret fun v w' => v = .tuple #[.bool false, .int .i64 2] ∧ St W w' F) := by
  have H0 := H.front hi
  refine calls_of_go (n := 14) Try.func28 rfl Try.ntmps28 rfl ?_
  refine g_seq ?_
  refine g_region ?_
  refine r_cons (s_assign (.bool false) rfl rfl ?_)
  refine r_cons (s_assign (.int .i64 0) rfl rfl ?_)
  refine r_nil ?_
  refine g_seq ?_
  refine g_region ?_
  refine r_cons (s_move (.pointer (some ⟨b, 0, none⟩)) rfl rfl ?_)
  refine r_cons (s_call [.pointer (some ⟨b, 0, none⟩), .int .i64 1] pl_24 rfl rfl (nSrc_Bits_new b 1  (i := 0) rfl H0) ?_)
  rintro _ w1 ⟨rfl, H2⟩
  refine r_cons (s_move (.tuple #[.int .u64 0, .int .i64 2]) rfl rfl ?_)
  refine r_cons (s_extract (.int .u64 0) #[.int .u64 0, .int .i64 2] rfl rfl rfl ?_)
  refine r_cons (s_extract (.int .i64 2) #[.int .u64 0, .int .i64 2] rfl rfl rfl ?_)
  refine r_cons (s_assign (.int .u64 0) rfl rfl ?_)
  refine r_cons (s_assign (.int .i64 2) rfl rfl ?_)
  refine r_nil ?_
  refine g_seq ?_
  refine g_region ?_
  refine r_cons (s_move (.int .u64 0) rfl rfl ?_)
  refine r_cons (s_eql false rfl rfl (dfalse (by decide)) rfl ?_)
  refine r_cons (s_move (.int .i64 2) rfl rfl ?_)
  refine r_cons (s_assign (.bool false) rfl rfl ?_)
  refine r_cons (s_assign (.int .i64 2) rfl rfl ?_)
  refine r_nil ?_
  refine g_ret' [.bool false, .int .i64 2] Try.func28 Try.results28 ⟨rfl, rfl, trivial⟩ ?_
  have H3 : St W w1 (blk b (.cells #[.bool false, .slice none 0 0, .int .i64 0] 69 (0, 0)) :: (F.set i emp)) := H2
  exact ⟨rfl, St.back_same hi H3⟩
set_option maxHeartbeats 4000000 in
set_option maxRecDepth 100000 in
theorem nSrc_Left_nil {W w : World} {F : List Atom}  (H : St W w F) : Calls Try.prog 17 #[.pointer none] w (Ret fun v w' => v = .int .i64 0 ∧ St W w' F) := by
  refine calls_of_go (n := 16) Try.func17 rfl Try.ntmps17 rfl ?_
  refine g_seq ?_
  refine g_region ?_
  refine r_cons (s_assign (.int .i64 0) rfl rfl ?_)
  refine r_nil ?_
  refine g_seq ?_
  refine g_seq ?_
  refine g_region ?_
  refine r_cons (s_move (.pointer none) rfl rfl ?_)
  refine r_cons (s_peql true un_35 rfl rfl rfl rfl ?_)
  refine r_nil ?_
  refine g_true rfl ?_
  refine g_seq ?_
  refine g_region ?_
  refine r_cons (s_assign (.int .i64 0) rfl rfl ?_)
  refine r_nil ?_
  refine g_ret' [.int .i64 0] Try.func17 Try.results17 ⟨rfl, trivial⟩ ?_
  have H1 : St W w F := H
  exact ⟨rfl, H1⟩
set_option maxHeartbeats 4000000 in
set_option maxRecDepth 100000 in
theorem nSrc_Left_new {W w : World} {F : List Atom} (b : Nat)  {i : Nat} (hi : F[i]? = some (blk b (.cells #[.bool false, .slice none 0 0, .int .i64 0] 69 (0, 0)))) (H : St W w F) : Calls Try.prog 17 #[.pointer (some ⟨b, 0, none⟩)] w (Ret fun v w' => v = .int .i64 0 ∧ St W w' F) := by
  have H0 := H.front hi
  refine calls_of_go (n := 16) Try.func17 rfl Try.ntmps17 rfl ?_
  refine g_seq ?_
  refine g_region ?_
  refine r_cons (s_assign (.int .i64 0) rfl rfl ?_)
  refine r_nil ?_
  refine g_seq ?_
  refine g_seq ?_
  refine g_region ?_
  refine r_cons (s_move (.pointer (some ⟨b, 0, none⟩)) rfl rfl ?_)
  refine r_cons (s_peql false un_35 rfl rfl rfl rfl ?_)
  refine r_nil ?_
  refine g_false rfl ?_
  refine g_skip ?_
  refine g_seq ?_
  refine g_quiet (fun w' => St W w' (blk b (.cells #[.bool false, .slice none 0 0, .int .i64 0] 69 (0, 0)) :: (F.set i emp))) mixed (by kernel_rfl) H0.drew ?_
  refine q_cons (q_val rfl rfl rfl (by intro w hw; exact x_move (.pointer (some ⟨b, 0, none⟩)) rfl w) ?_)
  refine q_cons (q_val rfl rfl rfl (by intro w hw; exact x_nilCheck (.pointer (some ⟨b, 0, none⟩)) rfl ⟨_, rfl⟩ w) ?_)
  refine q_cons (q_val rfl rfl rfl (by intro w hw; exact x_fieldAddr 69 1 1 1 33 rfl fi_69_1 rfl w) ?_)
  refine q_cons (q_val rfl rfl rfl (by intro w hw; exact x_load (.slice none 0 0) ag_33 rfl (hw.blk_at (i := 0) rfl) rfl) ?_)
  refine q_cons (q_val rfl rfl rfl (by intro w hw; exact x_len 0 rfl ⟨_, un_33⟩ w) ?_)
  refine q_cons (q_val rfl rfl rfl (by intro w hw; exact x_mul 0 rfl rfl (wi64 (by omega)) w) ?_)
  refine q_cons (q_val rfl rfl rfl (by intro w hw; exact x_move (.pointer (some ⟨b, 0, none⟩)) rfl w) ?_)
  refine q_cons (q_val rfl rfl rfl (by intro w hw; exact x_nilCheck (.pointer (some ⟨b, 0, none⟩)) rfl ⟨_, rfl⟩ w) ?_)
  refine q_cons (q_val rfl rfl rfl (by intro w hw; exact x_fieldAddr 69 2 2 2 3 rfl fi_69_2 rfl w) ?_)
  refine q_cons (q_val rfl rfl rfl (by intro w hw; exact x_load (.int .i64 0) ag_3 rfl (hw.blk_at (i := 0) rfl) rfl) ?_)
  refine q_cons (q_val rfl rfl rfl (by intro w hw; exact x_sub 0 rfl rfl (wi64 (by omega)) w) ?_)
  refine q_cons (q_val rfl rfl rfl (by intro w hw; exact x_assign (.int .i64 0) rfl w) ?_)
  refine q_nil ?_
  intro w1 H2
  refine g_ret' [.int .i64 0] Try.func17 Try.results17 ⟨rfl, trivial⟩ ?_
  have H3 : St W w1 (blk b (.cells #[.bool false, .slice none 0 0, .int .i64 0] 69 (0, 0)) :: (F.set i emp)) := H2
  exact ⟨rfl, St.back_same hi H3⟩
set_option maxHeartbeats 4000000 in
set_option maxRecDepth 100000 in
theorem nSrc_End_nil {W w : World} {F : List Atom}  (H : St W w F) : Calls Try.prog 18 #[.pointer none] w (Ret fun v w' => v = .int .i64 2 ∧ St W w' F) := by
  refine calls_of_go (n := 34) Try.func18 rfl Try.ntmps18 rfl ?_
  refine g_seq ?_
  refine g_region ?_
  refine r_cons (s_assign (.int .i64 0) rfl rfl ?_)
  refine r_nil ?_
  refine g_seq ?_
  refine g_seq ?_
  refine g_region ?_
  refine r_cons (s_move (.pointer none) rfl rfl ?_)
  refine r_cons (s_peql true un_35 rfl rfl rfl rfl ?_)
  refine r_cons (s_move (.bool true) rfl rfl ?_)
  refine r_cons (r_pass rfl rfl rfl rfl rfl ?_)
  refine r_cons (r_pass rfl rfl rfl rfl rfl ?_)
  refine r_cons (r_pass rfl rfl rfl rfl rfl ?_)
  refine r_cons (r_pass rfl rfl rfl rfl rfl ?_)
  refine r_cons (r_pass rfl rfl rfl rfl rfl ?_)
  refine r_cons (s_pick_t (.bool true) rfl rfl rfl ?_)
  refine r_nil ?_
  refine g_true rfl ?_
  refine g_seq ?_
  refine g_region ?_
  refine r_cons (s_assign (.int .i64 2) rfl rfl ?_)
  refine r_nil ?_
  refine g_ret' [.int .i64 2] Try.func18 Try.results18 ⟨rfl, trivial⟩ ?_
  have H1 : St W w F := H
  exact ⟨rfl, H1⟩
set_option maxHeartbeats 4000000 in
set_option maxRecDepth 100000 in
theorem nSrc_End_new {W w : World} {F : List Atom} (b : Nat)  {i : Nat} (hi : F[i]? = some (blk b (.cells #[.bool false, .slice none 0 0, .int .i64 0] 69 (0, 0)))) (H : St W w F) : Calls Try.prog 18 #[.pointer (some ⟨b, 0, none⟩)] w (Ret fun v w' => v = .int .i64 2 ∧ St W w' F) := by
  have H0 := H.front hi
  refine calls_of_go (n := 34) Try.func18 rfl Try.ntmps18 rfl ?_
  refine g_seq ?_
  refine g_region ?_
  refine r_cons (s_assign (.int .i64 0) rfl rfl ?_)
  refine r_nil ?_
  refine g_seq ?_
  refine g_seq ?_
  refine g_region ?_
  refine r_cons (s_move (.pointer (some ⟨b, 0, none⟩)) rfl rfl ?_)
  refine r_cons (s_peql false un_35 rfl rfl rfl rfl ?_)
  refine r_cons (s_move (.bool false) rfl rfl ?_)
  refine r_cons (r_take rfl rfl ?_)
  refine s_move (.pointer (some ⟨b, 0, none⟩)) rfl rfl ?_
  refine r_cons (r_take rfl rfl ?_)
  refine s_nilCheck (.pointer (some ⟨b, 0, none⟩)) rfl ⟨_, rfl⟩ rfl ?_
  refine r_cons (r_take rfl rfl ?_)
  refine s_fieldAddr 69 0 0 0 4 rfl fi_69_0 rfl rfl ?_
  refine r_cons (r_take rfl rfl ?_)
  refine s_load (.bool false) ag_4 rfl (H0.blk_at (i := 0) rfl) rfl rfl ?_
  refine r_cons (r_take rfl rfl ?_)
  refine s_not false rfl true rfl rfl ?_
  refine r_cons (s_pick_f (.bool true) rfl rfl rfl ?_)
  refine r_nil ?_
  refine g_true rfl ?_
  refine g_seq ?_
  refine g_region ?_
  refine r_cons (s_assign (.int .i64 2) rfl rfl ?_)
  refine r_nil ?_
  refine g_ret' [.int .i64 2] Try.func18 Try.results18 ⟨rfl, trivial⟩ ?_
  have H1 : St W w (blk b (.cells #[.bool false, .slice none 0 0, .int .i64 0] 69 (0, 0)) :: (F.set i emp)) := H0
  exact ⟨rfl, St.back_same hi H1⟩
set_option maxHeartbeats 4000000 in
set_option maxRecDepth 100000 in
theorem BitsNone_ {W w : World} {F : List Atom} (p : PartV) (hs : p.s.v.size ≤ 1099511627776) (bs : List UInt8) (bv : Value) (hb : bs.length ≤ 17592186044416) {j : Nat} (hj : F[j]? = some (Im 1 bv bs.length (bs.flatMap u8c))) (H : St W w F) : Calls Try.prog 7 #[.agg #[.int .i64 p.kind.v, .int .u64 (p.u.v : Int), .int .i64 p.n.v, .string p.s.v], bv] w (Ret fun v w' => v = .bool true ∧ St W w' F) := by
  have hml := (RdA.im _ _ _ j H hj).2
  obtain ⟨pp1, cc2, rfl, hn3⟩ := Rd.shape (RdA.im _ _ _ j H hj).1
  have hkl := p.u.lt
  refine calls_of_go (n := 202) Try.func7 rfl Try.ntmps7 rfl ?_
  refine g_seq ?_
  refine g_region ?_
  refine r_cons (s_box H 40 (.agg #[.int .i64 p.kind.v, .int .u64 (p.u.v : Int), .int .i64 p.n.v, .string p.s.v]) rfl (cs := #[.int .i64 p.kind.v, .int .u64 (p.u.v : Int), .int .i64 p.n.v, .string p.s.v]) rfl rfl ?_); intro bk4 w5 H6
  refine r_cons (s_assign (.bool false) rfl rfl ?_)
  refine r_nil ?_
  refine g_seq ?_
  refine g_seq ?_
  refine g_region ?_
  refine r_cons (s_build (cs := #[.bool false, .slice none 0 0, .int .i64 0]) (by kernel_rfl) rfl ?_)
  refine r_cons (s_box H6 62 (.agg #[.bool false, .slice none 0 0, .int .i64 0]) rfl (cs := #[.bool false, .slice none 0 0, .int .i64 0]) rfl rfl ?_); intro bk7 w8 H9
  refine r_cons (s_buildSlice H9 1 2 (cs := #[.pointer none, .pointer (some ⟨bk7, 0, none⟩)]) #[.pointer none] el_63 ze_27 (by decide) (by decide) (by kernel_rfl) rfl ?_); intro bk10 w11 H12
  refine r_cons (s_len 2 rfl ⟨_, un_63⟩ rfl ?_)
  refine r_cons (s_move (.int .i64 0) rfl rfl ?_)
  refine r_nil ?_
  refine g_block ?_
  refine g_loop ?_
  refine g_seq ?_
  refine g_region ?_
  refine r_cons (s_lss true rfl rfl (dtrue (by decide)) rfl ?_)
  refine r_nil ?_
  refine g_seq ?_
  refine g_true rfl ?_
  refine g_skip ?_
  refine g_seq ?_
  refine g_block ?_
  refine g_seq ?_
  refine g_region ?_
  refine r_cons (s_indexAddr bk10 0 1 0 rfl rfl el_63 (by omega) rfl rfl ?_)
  refine r_cons (s_load (.pointer none) ag_27 rfl (H12.blk_at (i := 0) rfl) rfl rfl ?_)
  refine r_cons (s_assign (.pointer none) rfl rfl ?_)
  refine r_nil ?_
  refine g_seq ?_
  refine g_region ?_
  refine r_cons (s_move (.pointer none) rfl rfl ?_)
  refine r_cons (s_fieldAddr 40 1 1 1 22 rfl fi_40_1 rfl rfl ?_)
  refine r_cons (s_load (.int .u64 (p.u.v : Int)) ag_22 rfl (H12.blk_at (i := 2) rfl) rfl rfl ?_)
  refine r_cons (s_fieldAddr 40 2 2 2 3 rfl fi_40_2 rfl rfl ?_)
  refine r_cons (s_load (.int .i64 p.n.v) ag_3 rfl (H12.blk_at (i := 2) rfl) rfl rfl ?_)
  refine r_cons (s_call [.pointer none, .int .u64 (p.u.v : Int), .int .i64 p.n.v] pl_29 rfl rfl (nSink_Bits_nil p.u.v p.n.v  H12) ?_)
  rintro _ w13 ⟨rfl, H14⟩
  refine r_cons (s_neq false rfl rfl (ntrue (by decide)) rfl ?_)
  refine r_cons (s_move (.bool false) rfl rfl ?_)
  refine r_cons (r_take rfl rfl ?_)
  refine s_move (.pointer none) rfl rfl ?_
  refine r_cons (r_take rfl rfl ?_)
  refine s_fieldAddr 40 1 1 1 22 rfl fi_40_1 rfl rfl ?_
  refine r_cons (r_take rfl rfl ?_)
  refine s_load (.int .u64 (p.u.v : Int)) ag_22 rfl (H14.blk_at (i := 2) rfl) rfl rfl ?_
  refine r_cons (r_take rfl rfl ?_)
  refine s_call [.pointer none, .int .u64 (p.u.v : Int)] pl_12 rfl rfl (nSink_Nat_nil p.u.v (by omega) H14) ?_
  rintro _ w15 ⟨rfl, H16⟩
  refine r_cons (r_take rfl rfl ?_)
  refine s_neq false rfl rfl (ntrue (by decide)) rfl ?_
  refine r_cons (s_pick_f (.bool false) rfl rfl rfl ?_)
  refine r_cons (s_move (.bool false) rfl rfl ?_)
  refine r_cons (r_take rfl rfl ?_)
  refine s_move (.pointer none) rfl rfl ?_
  refine r_cons (r_take rfl rfl ?_)
  refine s_call [.pointer none, .int .i64 5] pl_30 rfl rfl (nSink_Num_nil H16) ?_
  rintro _ w17 ⟨rfl, H18⟩
  refine r_cons (r_take rfl rfl ?_)
  refine s_neq false rfl rfl (ntrue (by decide)) rfl ?_
  refine r_cons (s_pick_f (.bool false) rfl rfl rfl ?_)
  refine r_cons (s_move (.bool false) rfl rfl ?_)
  refine r_cons (r_take rfl rfl ?_)
  refine s_move (.pointer none) rfl rfl ?_
  refine r_cons (r_take rfl rfl ?_)
  refine s_fieldAddr 40 3 3 3 9 rfl fi_40_3 rfl rfl ?_
  refine r_cons (r_take rfl rfl ?_)
  refine s_load (.string p.s.v) ag_9 rfl (H18.blk_at (i := 2) rfl) rfl rfl ?_
  refine r_cons (r_take rfl rfl ?_)
  refine s_call [.pointer none, .string p.s.v] pl_31 rfl rfl (nSink_Text_nil p.s.v  H18) ?_
  rintro _ w19 ⟨rfl, H20⟩
  refine r_cons (r_take rfl rfl ?_)
  refine s_neq false rfl rfl (ntrue (by decide)) rfl ?_
  refine r_cons (s_pick_f (.bool false) rfl rfl rfl ?_)
  refine r_cons (s_move (.bool false) rfl rfl ?_)
  refine r_cons (r_take rfl rfl ?_)
  refine s_move (.pointer none) rfl rfl ?_
  refine r_cons (r_take rfl rfl ?_)
  refine s_buildSlice H20 1 1 (cs := #[.bool true]) #[.bool false] el_23 ze_4 (by decide) (by decide) (by kernel_rfl) rfl ?_; intro bk21 w22 H23
  refine r_cons (r_take rfl rfl ?_)
  refine s_call [.pointer none, .slice (some ⟨bk21, 0, none⟩) 1 1] pl_32 rfl rfl (nSink_Flags_nil (some ⟨bk21, 0, none⟩) 1 1  H23) ?_
  rintro _ w24 ⟨rfl, H25⟩
  refine r_cons (r_take rfl rfl ?_)
  refine s_neq false rfl rfl (ntrue (by decide)) rfl ?_
  refine r_cons (s_pick_f (.bool false) rfl rfl rfl ?_)
  refine r_cons (s_move (.bool false) rfl rfl ?_)
  refine r_cons (r_take rfl rfl ?_)
  refine s_move (.pointer none) rfl rfl ?_
  refine r_cons (r_take rfl rfl ?_)
  refine s_call [.pointer none] pl_13 rfl rfl (nSink_Len_nil   H25) ?_
  rintro _ w26 ⟨rfl, H27⟩
  refine r_cons (r_take rfl rfl ?_)
  refine s_neq false rfl rfl (ntrue (by decide)) rfl ?_
  refine r_cons (s_pick_f (.bool false) rfl rfl rfl ?_)
  refine r_cons (s_move (.bool false) rfl rfl ?_)
  refine r_cons (r_take rfl rfl ?_)
  refine s_move (.pointer none) rfl rfl ?_
  refine r_cons (r_take rfl rfl ?_)
  refine s_call [.pointer none] pl_22 rfl rfl (nSink_Out_nil H27) ?_
  rintro _ w28 ⟨rfl, H29⟩
  refine r_cons (r_take rfl rfl ?_)
  refine s_len 0 rfl ⟨_, un_33⟩ rfl ?_
  refine r_cons (r_take rfl rfl ?_)
  refine s_neq false rfl rfl (ntrue (by decide)) rfl ?_
  refine r_cons (s_pick_f (.bool false) rfl rfl rfl ?_)
  refine r_nil ?_
  refine g_false rfl ?_
  refine g_skip ?_
  refine g_inBlock ?_
  refine g_region ?_
  refine r_cons (s_add 1 rfl rfl (wi64 (by omega)) rfl ?_)
  refine r_cons (s_move (.int .i64 1) rfl rfl ?_)
  refine r_nil ?_
  refine g_inLoop ?_
  refine g_seq ?_
  refine g_region ?_
  refine r_cons (s_lss true rfl rfl (dtrue (by decide)) rfl ?_)
  refine r_nil ?_
  refine g_seq ?_
  refine g_true rfl ?_
  refine g_skip ?_
  refine g_seq ?_
  refine g_block ?_
  refine g_seq ?_
  refine g_region ?_
  refine r_cons (s_indexAddr bk10 1 1 1 rfl rfl el_63 (by omega) rfl rfl ?_)
  refine r_cons (s_load (.pointer (some ⟨bk7, 0, none⟩)) ag_27 rfl (H29.blk_at (i := 1) rfl) rfl rfl ?_)
  refine r_cons (s_assign (.pointer (some ⟨bk7, 0, none⟩)) rfl rfl ?_)
  refine r_nil ?_
  refine g_seq ?_
  refine g_region ?_
  refine r_cons (s_move (.pointer (some ⟨bk7, 0, none⟩)) rfl rfl ?_)
  refine r_cons (s_fieldAddr 40 1 1 1 22 rfl fi_40_1 rfl rfl ?_)
  refine r_cons (s_load (.int .u64 (p.u.v : Int)) ag_22 rfl (H29.blk_at (i := 3) rfl) rfl rfl ?_)
  refine r_cons (s_fieldAddr 40 2 2 2 3 rfl fi_40_2 rfl rfl ?_)
  refine r_cons (s_load (.int .i64 p.n.v) ag_3 rfl (H29.blk_at (i := 3) rfl) rfl rfl ?_)
  refine r_cons (s_call [.pointer (some ⟨bk7, 0, none⟩), .int .u64 (p.u.v : Int), .int .i64 p.n.v] pl_29 rfl rfl (nSink_Bits_new bk7 p.u.v p.n.v  (i := 2) rfl H29) ?_)
  rintro _ w30 ⟨rfl, H31⟩
  refine r_cons (s_neq false rfl rfl (ntrue (by decide)) rfl ?_)
  refine r_cons (s_move (.bool false) rfl rfl ?_)
  refine r_cons (r_take rfl rfl ?_)
  refine s_move (.pointer (some ⟨bk7, 0, none⟩)) rfl rfl ?_
  refine r_cons (r_take rfl rfl ?_)
  refine s_fieldAddr 40 1 1 1 22 rfl fi_40_1 rfl rfl ?_
  refine r_cons (r_take rfl rfl ?_)
  refine s_load (.int .u64 (p.u.v : Int)) ag_22 rfl (H31.blk_at (i := 3) rfl) rfl rfl ?_
  refine r_cons (r_take rfl rfl ?_)
  refine s_call [.pointer (some ⟨bk7, 0, none⟩), .int .u64 (p.u.v : Int)] pl_12 rfl rfl (nSink_Nat_new bk7 p.u.v (by omega) (i := 2) rfl H31) ?_
  rintro _ w32 ⟨rfl, H33⟩
  refine r_cons (r_take rfl rfl ?_)
  refine s_neq false rfl rfl (ntrue (by decide)) rfl ?_
  refine r_cons (s_pick_f (.bool false) rfl rfl rfl ?_)
  refine r_cons (s_move (.bool false) rfl rfl ?_)
  refine r_cons (r_take rfl rfl ?_)
  refine s_move (.pointer (some ⟨bk7, 0, none⟩)) rfl rfl ?_
  refine r_cons (r_take rfl rfl ?_)
  refine s_call [.pointer (some ⟨bk7, 0, none⟩), .int .i64 5] pl_30 rfl rfl (nSink_Num_new bk7 (i := 2) rfl H33) ?_
  rintro _ w34 ⟨rfl, H35⟩
  refine r_cons (r_take rfl rfl ?_)
  refine s_neq false rfl rfl (ntrue (by decide)) rfl ?_
  refine r_cons (s_pick_f (.bool false) rfl rfl rfl ?_)
  refine r_cons (s_move (.bool false) rfl rfl ?_)
  refine r_cons (r_take rfl rfl ?_)
  refine s_move (.pointer (some ⟨bk7, 0, none⟩)) rfl rfl ?_
  refine r_cons (r_take rfl rfl ?_)
  refine s_fieldAddr 40 3 3 3 9 rfl fi_40_3 rfl rfl ?_
  refine r_cons (r_take rfl rfl ?_)
  refine s_load (.string p.s.v) ag_9 rfl (H35.blk_at (i := 3) rfl) rfl rfl ?_
  refine r_cons (r_take rfl rfl ?_)
  refine s_call [.pointer (some ⟨bk7, 0, none⟩), .string p.s.v] pl_31 rfl rfl (nSink_Text_new bk7 p.s.v  (i := 2) rfl H35) ?_
  rintro _ w36 ⟨rfl, H37⟩
  refine r_cons (r_take rfl rfl ?_)
  refine s_neq false rfl rfl (ntrue (by decide)) rfl ?_
  refine r_cons (s_pick_f (.bool false) rfl rfl rfl ?_)
  refine r_cons (s_move (.bool false) rfl rfl ?_)
  refine r_cons (r_take rfl rfl ?_)
  refine s_move (.pointer (some ⟨bk7, 0, none⟩)) rfl rfl ?_
  refine r_cons (r_take rfl rfl ?_)
  refine s_buildSlice H37 1 1 (cs := #[.bool true]) #[.bool false] el_23 ze_4 (by decide) (by decide) (by kernel_rfl) rfl ?_; intro bk38 w39 H40
  refine r_cons (r_take rfl rfl ?_)
  refine s_call [.pointer (some ⟨bk7, 0, none⟩), .slice (some ⟨bk38, 0, none⟩) 1 1] pl_32 rfl rfl (nSink_Flags_new bk7 (some ⟨bk38, 0, none⟩) 1 1  (i := 3) rfl H40) ?_
  rintro _ w41 ⟨rfl, H42⟩
  refine r_cons (r_take rfl rfl ?_)
  refine s_neq false rfl rfl (ntrue (by decide)) rfl ?_
  refine r_cons (s_pick_f (.bool false) rfl rfl rfl ?_)
  refine r_cons (s_move (.bool false) rfl rfl ?_)
  refine r_cons (r_take rfl rfl ?_)
  refine s_move (.pointer (some ⟨bk7, 0, none⟩)) rfl rfl ?_
  refine r_cons (r_take rfl rfl ?_)
  refine s_call [.pointer (some ⟨bk7, 0, none⟩)] pl_13 rfl rfl (nSink_Len_new bk7   (i := 3) rfl H42) ?_
  rintro _ w43 ⟨rfl, H44⟩
  refine r_cons (r_take rfl rfl ?_)
  refine s_neq false rfl rfl (ntrue (by decide)) rfl ?_
  refine r_cons (s_pick_f (.bool false) rfl rfl rfl ?_)
  refine r_cons (s_move (.bool false) rfl rfl ?_)
  refine r_cons (r_take rfl rfl ?_)
  refine s_move (.pointer (some ⟨bk7, 0, none⟩)) rfl rfl ?_
  refine r_cons (r_take rfl rfl ?_)
  refine s_call [.pointer (some ⟨bk7, 0, none⟩)] pl_22 rfl rfl (nSink_Out_new bk7 (i := 3) rfl H44) ?_
  rintro _ w47 ⟨pp45, cc46, rfl, H48⟩
  refine r_cons (r_take rfl rfl ?_)
  refine s_len 0 rfl ⟨_, un_33⟩ rfl ?_
  refine r_cons (r_take rfl rfl ?_)
  refine s_neq false rfl rfl (ntrue (by decide)) rfl ?_
  refine r_cons (s_pick_f (.bool false) rfl rfl rfl ?_)
  refine r_nil ?_
  refine g_false rfl ?_
  refine g_skip ?_
  refine g_inBlock ?_
  refine g_region ?_
  refine r_cons (s_add 2 rfl rfl (wi64 (by omega)) rfl ?_)
  refine r_cons (s_move (.int .i64 2) rfl rfl ?_)
  refine r_nil ?_
  refine g_inLoop ?_
  refine g_seq ?_
  refine g_region ?_
  refine r_cons (s_lss false rfl rfl (dfalse (by decide)) rfl ?_)
  refine r_nil ?_
  refine g_seq ?_
  refine g_false rfl ?_
  refine g_exit (by rfl) ?_
  refine g_seq ?_
  refine g_seq ?_
  refine g_region ?_
  refine r_cons (s_build (cs := #[.bool false, .slice none 0 0, .int .i64 0]) (by kernel_rfl) rfl ?_)
  refine r_cons (s_box H48 69 (.agg #[.bool false, .slice none 0 0, .int .i64 0]) rfl (cs := #[.bool false, .slice none 0 0, .int .i64 0]) rfl rfl ?_); intro bk49 w50 H51
  refine r_cons (s_buildSlice H51 1 2 (cs := #[.pointer none, .pointer (some ⟨bk49, 0, none⟩)]) #[.pointer none] el_70 ze_35 (by decide) (by decide) (by kernel_rfl) rfl ?_); intro bk52 w53 H54
  refine r_cons (s_len 2 rfl ⟨_, un_70⟩ rfl ?_)
  refine r_cons (s_move (.int .i64 0) rfl rfl ?_)
  refine r_nil ?_
  refine g_block ?_
  refine g_loop ?_
  refine g_seq ?_
  refine g_region ?_
  refine r_cons (s_lss true rfl rfl (dtrue (by decide)) rfl ?_)
  refine r_nil ?_
  refine g_seq ?_
  refine g_true rfl ?_
  refine g_skip ?_
  refine g_seq ?_
  refine g_block ?_
  refine g_seq ?_
  refine g_region ?_
  refine r_cons (s_indexAddr bk52 0 1 0 rfl rfl el_70 (by omega) rfl rfl ?_)
  refine r_cons (s_load (.pointer none) ag_35 rfl (H54.blk_at (i := 0) rfl) rfl rfl ?_)
  refine r_cons (s_assign (.pointer none) rfl rfl ?_)
  refine r_nil ?_
  refine g_seq ?_
  refine g_region ?_
  refine r_cons (s_move (.pointer none) rfl rfl ?_)
  refine r_cons (s_fieldAddr 40 2 2 2 3 rfl fi_40_2 rfl rfl ?_)
  refine r_cons (s_load (.int .i64 p.n.v) ag_3 rfl (H54.blk_at (i := 6) rfl) rfl rfl ?_)
  refine r_cons (s_call [.pointer none, .int .i64 p.n.v] pl_24 rfl rfl (nSrc_Bits_nil p.n.v  H54) ?_)
  rintro _ w55 ⟨rfl, H56⟩
  refine r_cons (s_move (.tuple #[.int .u64 0, .int .i64 2]) rfl rfl ?_)
  refine r_cons (s_extract (.int .u64 0) #[.int .u64 0, .int .i64 2] rfl rfl rfl ?_)
  refine r_cons (s_extract (.int .i64 2) #[.int .u64 0, .int .i64 2] rfl rfl rfl ?_)
  refine r_cons (s_assign (.int .u64 0) rfl rfl ?_)
  refine r_cons (s_assign (.int .i64 2) rfl rfl ?_)
  refine r_nil ?_
  refine g_seq ?_
  refine g_region ?_
  refine r_cons (s_move (.pointer none) rfl rfl ?_)
  refine r_cons (s_call [.pointer none] pl_25 rfl rfl (nSrc_Nat_nil   H56) ?_)
  rintro _ w57 ⟨rfl, H58⟩
  refine r_cons (s_move (.tuple #[.int .u64 0, .int .i64 2]) rfl rfl ?_)
  refine r_cons (s_extract (.int .u64 0) #[.int .u64 0, .int .i64 2] rfl rfl rfl ?_)
  refine r_cons (s_extract (.int .i64 2) #[.int .u64 0, .int .i64 2] rfl rfl rfl ?_)
  refine r_cons (s_assign (.int .u64 0) rfl rfl ?_)
  refine r_cons (s_assign (.int .i64 2) rfl rfl ?_)
  refine r_nil ?_
  refine g_seq ?_
  refine g_region ?_
  refine r_cons (s_move (.pointer none) rfl rfl ?_)
  refine r_cons (s_call [.pointer none] pl_26 rfl rfl (nSrc_Num_nil   H58) ?_)
  rintro _ w59 ⟨rfl, H60⟩
  refine r_cons (s_move (.tuple #[.int .i64 0, .int .i64 2]) rfl rfl ?_)
  refine r_cons (s_extract (.int .i64 0) #[.int .i64 0, .int .i64 2] rfl rfl rfl ?_)
  refine r_cons (s_extract (.int .i64 2) #[.int .i64 0, .int .i64 2] rfl rfl rfl ?_)
  refine r_cons (s_assign (.int .i64 0) rfl rfl ?_)
  refine r_cons (s_assign (.int .i64 2) rfl rfl ?_)
  refine r_nil ?_
  refine g_seq ?_
  refine g_region ?_
  refine r_cons (s_move (.pointer none) rfl rfl ?_)
  refine r_cons (s_call [.pointer none] pl_27 rfl rfl (nSrc_Text_nil   H60) ?_)
  rintro _ w61 ⟨rfl, H62⟩
  refine r_cons (s_move (.tuple #[.string ByteArray.empty, .int .i64 2]) rfl rfl ?_)
  refine r_cons (s_extract (.string ByteArray.empty) #[.string ByteArray.empty, .int .i64 2] rfl rfl rfl ?_)
  refine r_cons (s_extract (.int .i64 2) #[.string ByteArray.empty, .int .i64 2] rfl rfl rfl ?_)
  refine r_cons (s_assign (.string ByteArray.empty) rfl rfl ?_)
  refine r_cons (s_assign (.int .i64 2) rfl rfl ?_)
  refine r_nil ?_
  refine g_seq ?_
  refine g_region ?_
  refine r_cons (s_move (.pointer none) rfl rfl ?_)
  refine r_cons (s_call [.pointer none] pl_28 rfl rfl (nSrc_Flag_nil   H62) ?_)
  rintro _ w63 ⟨rfl, H64⟩
  refine r_cons (s_move (.tuple #[.bool false, .int .i64 2]) rfl rfl ?_)
  refine r_cons (s_extract (.bool false) #[.bool false, .int .i64 2] rfl rfl rfl ?_)
  refine r_cons (s_extract (.int .i64 2) #[.bool false, .int .i64 2] rfl rfl rfl ?_)
  refine r_cons (s_assign (.bool false) rfl rfl ?_)
  refine r_cons (s_assign (.int .i64 2) rfl rfl ?_)
  refine r_nil ?_
  refine g_seq ?_
  refine g_region ?_
  refine r_cons (s_move (.int .u64 0) rfl rfl ?_)
  refine r_cons (s_neq false rfl rfl (ntrue (by decide)) rfl ?_)
  refine r_cons (s_move (.bool false) rfl rfl ?_)
  refine r_cons (r_take rfl rfl ?_)
  refine s_move (.int .u64 0) rfl rfl ?_
  refine r_cons (r_take rfl rfl ?_)
  refine s_neq false rfl rfl (ntrue (by decide)) rfl ?_
  refine r_cons (s_pick_f (.bool false) rfl rfl rfl ?_)
  refine r_cons (s_move (.bool false) rfl rfl ?_)
  refine r_cons (r_take rfl rfl ?_)
  refine s_move (.int .i64 0) rfl rfl ?_
  refine r_cons (r_take rfl rfl ?_)
  refine s_neq false rfl rfl (ntrue (by decide)) rfl ?_
  refine r_cons (s_pick_f (.bool false) rfl rfl rfl ?_)
  refine r_cons (s_move (.bool false) rfl rfl ?_)
  refine r_cons (r_take rfl rfl ?_)
  refine s_move (.string ByteArray.empty) rfl rfl ?_
  refine r_cons (r_take rfl rfl ?_)
  refine s_sneq false rfl rfl (ntrue rfl) rfl ?_
  refine r_cons (s_pick_f (.bool false) rfl rfl rfl ?_)
  refine r_cons (s_move (.bool false) rfl rfl ?_)
  refine r_cons (r_take rfl rfl ?_)
  refine s_move (.bool false) rfl rfl ?_
  refine r_cons (s_pick_f (.bool false) rfl rfl rfl ?_)
  refine r_cons (s_move (.bool false) rfl rfl ?_)
  refine r_cons (r_take rfl rfl ?_)
  refine s_move (.int .i64 2) rfl rfl ?_
  refine r_cons (r_take rfl rfl ?_)
  refine s_neq false rfl rfl (ntrue (by decide)) rfl ?_
  refine r_cons (s_pick_f (.bool false) rfl rfl rfl ?_)
  refine r_cons (s_move (.bool false) rfl rfl ?_)
  refine r_cons (r_take rfl rfl ?_)
  refine s_move (.int .i64 2) rfl rfl ?_
  refine r_cons (r_take rfl rfl ?_)
  refine s_neq false rfl rfl (ntrue (by decide)) rfl ?_
  refine r_cons (s_pick_f (.bool false) rfl rfl rfl ?_)
  refine r_cons (s_move (.bool false) rfl rfl ?_)
  refine r_cons (r_take rfl rfl ?_)
  refine s_move (.int .i64 2) rfl rfl ?_
  refine r_cons (r_take rfl rfl ?_)
  refine s_neq false rfl rfl (ntrue (by decide)) rfl ?_
  refine r_cons (s_pick_f (.bool false) rfl rfl rfl ?_)
  refine r_cons (s_move (.bool false) rfl rfl ?_)
  refine r_cons (r_take rfl rfl ?_)
  refine s_move (.int .i64 2) rfl rfl ?_
  refine r_cons (r_take rfl rfl ?_)
  refine s_neq false rfl rfl (ntrue (by decide)) rfl ?_
  refine r_cons (s_pick_f (.bool false) rfl rfl rfl ?_)
  refine r_cons (s_move (.bool false) rfl rfl ?_)
  refine r_cons (r_take rfl rfl ?_)
  refine s_move (.int .i64 2) rfl rfl ?_
  refine r_cons (r_take rfl rfl ?_)
  refine s_neq false rfl rfl (ntrue (by decide)) rfl ?_
  refine r_cons (s_pick_f (.bool false) rfl rfl rfl ?_)
  refine r_cons (s_move (.bool false) rfl rfl ?_)
  refine r_cons (r_take rfl rfl ?_)
  refine s_move (.pointer none) rfl rfl ?_
  refine r_cons (r_take rfl rfl ?_)
  refine s_call [.pointer none] pl_17 rfl rfl (nSrc_Left_nil   H64) ?_
  rintro _ w65 ⟨rfl, H66⟩
  refine r_cons (r_take rfl rfl ?_)
  refine s_neq false rfl rfl (ntrue (by decide)) rfl ?_
  refine r_cons (s_pick_f (.bool false) rfl rfl rfl ?_)
  refine r_cons (s_move (.bool false) rfl rfl ?_)
  refine r_cons (r_take rfl rfl ?_)
  refine s_move (.pointer none) rfl rfl ?_
  refine r_cons (r_take rfl rfl ?_)
  refine s_call [.pointer none] pl_18 rfl rfl (nSrc_End_nil   H66) ?_
  rintro _ w67 ⟨rfl, H68⟩
  refine r_cons (r_take rfl rfl ?_)
  refine s_neq false rfl rfl (ntrue (by decide)) rfl ?_
  refine r_cons (s_pick_f (.bool false) rfl rfl rfl ?_)
  refine r_nil ?_
  refine g_false rfl ?_
  refine g_skip ?_
  refine g_inBlock ?_
  refine g_region ?_
  refine r_cons (s_add 1 rfl rfl (wi64 (by omega)) rfl ?_)
  refine r_cons (s_move (.int .i64 1) rfl rfl ?_)
  refine r_nil ?_
  refine g_inLoop ?_
  refine g_seq ?_
  refine g_region ?_
  refine r_cons (s_lss true rfl rfl (dtrue (by decide)) rfl ?_)
  refine r_nil ?_
  refine g_seq ?_
  refine g_true rfl ?_
  refine g_skip ?_
  refine g_seq ?_
  refine g_block ?_
  refine g_seq ?_
  refine g_region ?_
  refine r_cons (s_indexAddr bk52 1 1 1 rfl rfl el_70 (by omega) rfl rfl ?_)
  refine r_cons (s_load (.pointer (some ⟨bk49, 0, none⟩)) ag_35 rfl (H68.blk_at (i := 0) rfl) rfl rfl ?_)
  refine r_cons (s_assign (.pointer (some ⟨bk49, 0, none⟩)) rfl rfl ?_)
  refine r_nil ?_
  refine g_seq ?_
  refine g_region ?_
  refine r_cons (s_move (.pointer (some ⟨bk49, 0, none⟩)) rfl rfl ?_)
  refine r_cons (s_fieldAddr 40 2 2 2 3 rfl fi_40_2 rfl rfl ?_)
  refine r_cons (s_load (.int .i64 p.n.v) ag_3 rfl (H68.blk_at (i := 6) rfl) rfl rfl ?_)
  refine r_cons (s_call [.pointer (some ⟨bk49, 0, none⟩), .int .i64 p.n.v] pl_24 rfl rfl (nSrc_Bits_new bk49 p.n.v  (i := 1) rfl H68) ?_)
  rintro _ w69 ⟨rfl, H70⟩
  refine r_cons (s_move (.tuple #[.int .u64 0, .int .i64 2]) rfl rfl ?_)
  refine r_cons (s_extract (.int .u64 0) #[.int .u64 0, .int .i64 2] rfl rfl rfl ?_)
  refine r_cons (s_extract (.int .i64 2) #[.int .u64 0, .int .i64 2] rfl rfl rfl ?_)
  refine r_cons (s_assign (.int .u64 0) rfl rfl ?_)
  refine r_cons (s_assign (.int .i64 2) rfl rfl ?_)
  refine r_nil ?_
  refine g_seq ?_
  refine g_region ?_
  refine r_cons (s_move (.pointer (some ⟨bk49, 0, none⟩)) rfl rfl ?_)
  refine r_cons (s_call [.pointer (some ⟨bk49, 0, none⟩)] pl_25 rfl rfl (nSrc_Nat_new bk49   (i := 1) rfl H70) ?_)
  rintro _ w71 ⟨rfl, H72⟩
  refine r_cons (s_move (.tuple #[.int .u64 0, .int .i64 2]) rfl rfl ?_)
  refine r_cons (s_extract (.int .u64 0) #[.int .u64 0, .int .i64 2] rfl rfl rfl ?_)
  refine r_cons (s_extract (.int .i64 2) #[.int .u64 0, .int .i64 2] rfl rfl rfl ?_)
  refine r_cons (s_assign (.int .u64 0) rfl rfl ?_)
  refine r_cons (s_assign (.int .i64 2) rfl rfl ?_)
  refine r_nil ?_
  refine g_seq ?_
  refine g_region ?_
  refine r_cons (s_move (.pointer (some ⟨bk49, 0, none⟩)) rfl rfl ?_)
  refine r_cons (s_call [.pointer (some ⟨bk49, 0, none⟩)] pl_26 rfl rfl (nSrc_Num_new bk49   (i := 1) rfl H72) ?_)
  rintro _ w73 ⟨rfl, H74⟩
  refine r_cons (s_move (.tuple #[.int .i64 0, .int .i64 2]) rfl rfl ?_)
  refine r_cons (s_extract (.int .i64 0) #[.int .i64 0, .int .i64 2] rfl rfl rfl ?_)
  refine r_cons (s_extract (.int .i64 2) #[.int .i64 0, .int .i64 2] rfl rfl rfl ?_)
  refine r_cons (s_assign (.int .i64 0) rfl rfl ?_)
  refine r_cons (s_assign (.int .i64 2) rfl rfl ?_)
  refine r_nil ?_
  refine g_seq ?_
  refine g_region ?_
  refine r_cons (s_move (.pointer (some ⟨bk49, 0, none⟩)) rfl rfl ?_)
  refine r_cons (s_call [.pointer (some ⟨bk49, 0, none⟩)] pl_27 rfl rfl (nSrc_Text_new bk49   (i := 1) rfl H74) ?_)
  rintro _ w75 ⟨rfl, H76⟩
  refine r_cons (s_move (.tuple #[.string ByteArray.empty, .int .i64 2]) rfl rfl ?_)
  refine r_cons (s_extract (.string ByteArray.empty) #[.string ByteArray.empty, .int .i64 2] rfl rfl rfl ?_)
  refine r_cons (s_extract (.int .i64 2) #[.string ByteArray.empty, .int .i64 2] rfl rfl rfl ?_)
  refine r_cons (s_assign (.string ByteArray.empty) rfl rfl ?_)
  refine r_cons (s_assign (.int .i64 2) rfl rfl ?_)
  refine r_nil ?_
  refine g_seq ?_
  refine g_region ?_
  refine r_cons (s_move (.pointer (some ⟨bk49, 0, none⟩)) rfl rfl ?_)
  refine r_cons (s_call [.pointer (some ⟨bk49, 0, none⟩)] pl_28 rfl rfl (nSrc_Flag_new bk49   (i := 1) rfl H76) ?_)
  rintro _ w77 ⟨rfl, H78⟩
  refine r_cons (s_move (.tuple #[.bool false, .int .i64 2]) rfl rfl ?_)
  refine r_cons (s_extract (.bool false) #[.bool false, .int .i64 2] rfl rfl rfl ?_)
  refine r_cons (s_extract (.int .i64 2) #[.bool false, .int .i64 2] rfl rfl rfl ?_)
  refine r_cons (s_assign (.bool false) rfl rfl ?_)
  refine r_cons (s_assign (.int .i64 2) rfl rfl ?_)
  refine r_nil ?_
  refine g_seq ?_
  refine g_region ?_
  refine r_cons (s_move (.int .u64 0) rfl rfl ?_)
  refine r_cons (s_neq false rfl rfl (ntrue (by decide)) rfl ?_)
  refine r_cons (s_move (.bool false) rfl rfl ?_)
  refine r_cons (r_take rfl rfl ?_)
  refine s_move (.int .u64 0) rfl rfl ?_
  refine r_cons (r_take rfl rfl ?_)
  refine s_neq false rfl rfl (ntrue (by decide)) rfl ?_
  refine r_cons (s_pick_f (.bool false) rfl rfl rfl ?_)
  refine r_cons (s_move (.bool false) rfl rfl ?_)
  refine r_cons (r_take rfl rfl ?_)
  refine s_move (.int .i64 0) rfl rfl ?_
  refine r_cons (r_take rfl rfl ?_)
  refine s_neq false rfl rfl (ntrue (by decide)) rfl ?_
  refine r_cons (s_pick_f (.bool false) rfl rfl rfl ?_)
  refine r_cons (s_move (.bool false) rfl rfl ?_)
  refine r_cons (r_take rfl rfl ?_)
  refine s_move (.string ByteArray.empty) rfl rfl ?_
  refine r_cons (r_take rfl rfl ?_)
  refine s_sneq false rfl rfl (ntrue rfl) rfl ?_
  refine r_cons (s_pick_f (.bool false) rfl rfl rfl ?_)
  refine r_cons (s_move (.bool false) rfl rfl ?_)
  refine r_cons (r_take rfl rfl ?_)
  refine s_move (.bool false) rfl rfl ?_
  refine r_cons (s_pick_f (.bool false) rfl rfl rfl ?_)
  refine r_cons (s_move (.bool false) rfl rfl ?_)
  refine r_cons (r_take rfl rfl ?_)
  refine s_move (.int .i64 2) rfl rfl ?_
  refine r_cons (r_take rfl rfl ?_)
  refine s_neq false rfl rfl (ntrue (by decide)) rfl ?_
  refine r_cons (s_pick_f (.bool false) rfl rfl rfl ?_)
  refine r_cons (s_move (.bool false) rfl rfl ?_)
  refine r_cons (r_take rfl rfl ?_)
  refine s_move (.int .i64 2) rfl rfl ?_
  refine r_cons (r_take rfl rfl ?_)
  refine s_neq false rfl rfl (ntrue (by decide)) rfl ?_
  refine r_cons (s_pick_f (.bool false) rfl rfl rfl ?_)
  refine r_cons (s_move (.bool false) rfl rfl ?_)
  refine r_cons (r_take rfl rfl ?_)
  refine s_move (.int .i64 2) rfl rfl ?_
  refine r_cons (r_take rfl rfl ?_)
  refine s_neq false rfl rfl (ntrue (by decide)) rfl ?_
  refine r_cons (s_pick_f (.bool false) rfl rfl rfl ?_)
  refine r_cons (s_move (.bool false) rfl rfl ?_)
  refine r_cons (r_take rfl rfl ?_)
  refine s_move (.int .i64 2) rfl rfl ?_
  refine r_cons (r_take rfl rfl ?_)
  refine s_neq false rfl rfl (ntrue (by decide)) rfl ?_
  refine r_cons (s_pick_f (.bool false) rfl rfl rfl ?_)
  refine r_cons (s_move (.bool false) rfl rfl ?_)
  refine r_cons (r_take rfl rfl ?_)
  refine s_move (.int .i64 2) rfl rfl ?_
  refine r_cons (r_take rfl rfl ?_)
  refine s_neq false rfl rfl (ntrue (by decide)) rfl ?_
  refine r_cons (s_pick_f (.bool false) rfl rfl rfl ?_)
  refine r_cons (s_move (.bool false) rfl rfl ?_)
  refine r_cons (r_take rfl rfl ?_)
  refine s_move (.pointer (some ⟨bk49, 0, none⟩)) rfl rfl ?_
  refine r_cons (r_take rfl rfl ?_)
  refine s_call [.pointer (some ⟨bk49, 0, none⟩)] pl_17 rfl rfl (nSrc_Left_new bk49   (i := 1) rfl H78) ?_
  rintro _ w79 ⟨rfl, H80⟩
  refine r_cons (r_take rfl rfl ?_)
  refine s_neq false rfl rfl (ntrue (by decide)) rfl ?_
  refine r_cons (s_pick_f (.bool false) rfl rfl rfl ?_)
  refine r_cons (s_move (.bool false) rfl rfl ?_)
  refine r_cons (r_take rfl rfl ?_)
  refine s_move (.pointer (some ⟨bk49, 0, none⟩)) rfl rfl ?_
  refine r_cons (r_take rfl rfl ?_)
  refine s_call [.pointer (some ⟨bk49, 0, none⟩)] pl_18 rfl rfl (nSrc_End_new bk49   (i := 1) rfl H80) ?_
  rintro _ w81 ⟨rfl, H82⟩
  refine r_cons (r_take rfl rfl ?_)
  refine s_neq false rfl rfl (ntrue (by decide)) rfl ?_
  refine r_cons (s_pick_f (.bool false) rfl rfl rfl ?_)
  refine r_nil ?_
  refine g_false rfl ?_
  refine g_skip ?_
  refine g_inBlock ?_
  refine g_region ?_
  refine r_cons (s_add 2 rfl rfl (wi64 (by omega)) rfl ?_)
  refine r_cons (s_move (.int .i64 2) rfl rfl ?_)
  refine r_nil ?_
  refine g_inLoop ?_
  refine g_seq ?_
  refine g_region ?_
  refine r_cons (s_lss false rfl rfl (dfalse (by decide)) rfl ?_)
  refine r_nil ?_
  refine g_seq ?_
  refine g_false rfl ?_
  refine g_exit (by rfl) ?_
  refine g_seq ?_
  refine g_region ?_
  refine r_cons (s_move (.slice pp1 bs.length cc2) rfl rfl ?_)
  refine r_cons (s_call [.slice pp1 bs.length cc2] pl_33 rfl rfl (bytes_Clone _ _ bs.length (bs.flatMap u8c) RdA.im (by first | omega | (have hlp := Nat.le_refl 0; omega)) (j := j + 7) (by exact hj) H82) ?_)
  rintro _ w85 ⟨pp83, cc84, rfl, H86⟩
  refine r_cons (s_assign (.slice pp83 bs.length cc84) rfl rfl ?_)
  refine r_nil ?_
  refine g_seq ?_
  refine g_region ?_
  refine r_cons (s_move (.slice pp83 bs.length cc84) rfl rfl ?_)
  refine r_cons (s_call [.slice pp83 bs.length cc84] pl_14 rfl rfl (NewSource _ _ bs (RdA.row) (by first | omega | decide) (j := 0) rfl H86) ?_)
  rintro _ w88 ⟨bk87, rfl, H89⟩
  refine r_cons (s_assign (.pointer (some ⟨bk87, 0, none⟩)) rfl rfl ?_)
  refine r_nil ?_
  refine g_seq ?_
  refine g_seq ?_
  refine g_region ?_
  refine r_cons (s_move (.pointer (some ⟨bk87, 0, none⟩)) rfl rfl ?_)
  refine r_cons (s_peql false un_35 rfl rfl rfl rfl ?_)
  refine r_cons (s_move (.bool false) rfl rfl ?_)
  refine r_cons (r_take rfl rfl ?_)
  refine s_call [] pl_9 rfl rfl (live01 H89) ?_
  rintro _ w90 ⟨rfl, H91⟩
  refine r_cons (r_take rfl rfl ?_)
  refine s_not true rfl false rfl rfl ?_
  refine r_cons (s_pick_f (.bool false) rfl rfl rfl ?_)
  refine r_nil ?_
  refine g_false rfl ?_
  refine g_skip ?_
  refine g_seq ?_
  refine g_seq ?_
  refine g_region ?_
  refine r_cons (s_move (.slice pp83 bs.length cc84) rfl rfl ?_)
  refine r_cons (s_len bs.length rfl ⟨_, un_33⟩ rfl ?_)
  refine r_cons (s_move (.int .i64 0) rfl rfl ?_)
  refine r_nil ?_
  refine g_block ?_
  have H92 : St W w90 (Row 5 1 (.slice pp83 bs.length cc84) bs.length (bs.flatMap u8c) :: SrcA bk87 bs 0 :: F) := ((((((((H91.move 1 rfl).drop 2 rfl).drop 2 rfl).drop 2 rfl).drop 2 rfl).drop 2 rfl).drop 2 rfl).drop 2 rfl)
  refine g_loop_inv (fun (x : Nat × (List UInt8) × (Option Addr) × Nat) => match x with | (j2, ms, pq, cq) => [(1, .slice pp1 bs.length cc2), (4, .bool false), (19, .slice pq bs.length cq), (20, .pointer (some ⟨bk87, 0, none⟩)), (169, .int .i64 (bs.length : Int)), (170, .int .i64 (j2 : Int))]) (fun (x : Nat × (List UInt8) × (Option Addr) × Nat) w => match x with | (j2, ms, pq, cq) => (j2 ≤ bs.length) ∧ (ms.length = bs.length) ∧ St W w (Row 5 1 (.slice pq bs.length cq) bs.length (ms.flatMap u8c) :: SrcA bk87 bs 0 :: F)) (fun (x : Nat × (List UInt8) × (Option Addr) × Nat) => match x with | (j2, ms, pq, cq) => bs.length - j2) (0, bs, pp83, cc84) ?_ ?_ ?_
  · exact ⟨by first | rfl | exact vint (by omega), by first | rfl | exact vint (by omega), by first | rfl | exact vint (by omega), by first | rfl | exact vint (by omega), by first | rfl | exact vint (by omega), by first | rfl | exact vint (by omega), trivial⟩
  · exact ⟨(by omega), rfl, H92⟩
  · rintro ⟨j2, ms, pq, cq⟩ ρ93 w94 ⟨hj2, hms, H95⟩ nx96
    change Ends _ _ (upds ρ93 [(1, .slice pp1 bs.length cc2), (4, .bool false), (19, .slice pq bs.length cq), (20, .pointer (some ⟨bk87, 0, none⟩)), (169, .int .i64 (bs.length : Int)), (170, .int .i64 (j2 : Int))]) w94
    refine g_seq ?_
    refine g_region ?_
    by_cases hc97 : (j2 : Int) < (bs.length : Int)
    · skip
      refine r_cons (s_lss true rfl rfl (dtrue hc97) rfl ?_)
      refine r_nil ?_
      refine g_seq ?_
      refine g_true rfl ?_
      refine g_skip ?_
      refine g_seq ?_
      refine g_block ?_
      refine g_seq ?_
      refine g_region ?_
      refine r_cons (s_move (.int .i64 (j2 : Int)) rfl rfl ?_)
      refine r_cons (s_assign (.int .i64 (j2 : Int)) rfl rfl ?_)
      refine r_nil ?_
      refine g_region ?_
      obtain ⟨bk98, cur99, hp100, h101, h102, h103, h104, h105, H106⟩ := Row.open2 H95 (i := 0) rfl (by omega)
      have hx8 : ((ms.getD j2 0).toNat ^^^ 255) < 256 := Nat.xor_lt_two_pow (n := 8) (UInt8.toNat_lt _) (by decide)
      refine r_cons (s_move (.slice pq bs.length cq) rfl rfl ?_)
      refine r_cons (s_move (.int .i64 (j2 : Int)) rfl rfl ?_)
      refine r_cons (s_indexAddr bk98 (off := 0) (j2 : Int) 1 (0 + j2 * 1) (by exact congrArg (fun z_ => Value.slice z_ bs.length cq) ((fun (_ : 0 < 1) => hp100) (by omega))) rfl el_33 (by omega) rfl rfl ?_)
      refine r_cons (s_load (.int .u8 ((ms.getD j2 0).toNat : Int)) ag_5 rfl (H106.blk_at (i := 0) rfl) (elem_cell u8c_len (by rw [hms]; exact h104) (by have hh : ms.length = bs.length := hms; omega) 0 0 (by decide) _ rfl) rfl ?_)
      refine r_cons (s_xor ((((ms.getD j2 0).toNat ^^^ 255) : Nat) : Int) rfl rfl (by rw [show (255 : Int) = ((255 : Nat) : Int) from rfl, bit_xor (UInt8.toNat_lt _) (by decide)]; exact (wu8 (by omega)).trans (by omega)) rfl ?_)
      refine r_cons (s_indexAddr bk98 (off := 0) (j2 : Int) 1 (0 + j2 * 1) (by exact congrArg (fun z_ => Value.slice z_ bs.length cq) ((fun (_ : 0 < 1) => hp100) (by omega))) rfl el_33 (by omega) rfl rfl ?_)
      have hx109 := row_set1 (f := u8c) (L := ms) (cur := cur99) u8c_len (by rw [hms]; exact h104) (show ms.length * 1 ≤ cur99.size by rw [hms, h103]; exact Nat.mul_le_mul_right 1 h101) (j := j2) (by have hh := hms; omega) 0 (.int .u8 ((((ms.getD j2 0).toNat ^^^ 255) : Nat) : Int)) (UInt8.ofNat ((ms.getD j2 0).toNat ^^^ 255)) ((u8_set hx8))
      refine r_cons (s_store H106 0 (.int .u8 ((((ms.getD j2 0).toNat ^^^ 255) : Nat) : Int)) rfl rfl rfl sz_5 rfl (by have hh := hms; have hk := (show ms.length * 1 ≤ cur99.size by rw [hms, h103]; exact Nat.mul_le_mul_right 1 h101); omega) rfl (cs' := (cur99.setIfInBounds (0 + j2 * 1) (.int .u8 ((((ms.getD j2 0).toNat ^^^ 255) : Nat) : Int)))) rfl ?_); intro w107 H108
      refine r_nil ?_
      refine g_inBlock ?_
      refine g_region ?_
      refine r_cons (s_add ((j2 : Int) + 1) rfl rfl (wi64 (by omega)) rfl ?_)
      refine r_cons (s_move (.int .i64 ((j2 : Int) + 1)) rfl rfl ?_)
      refine r_nil ?_
      have H110 := Row.shut2 (p := pq) (n := bs.length) (c := cq) (size := 1) (xs := (ms.set j2 (UInt8.ofNat ((ms.getD j2 0).toNat ^^^ 255))).flatMap u8c) H108 (i := 0) rfl hp100 h101 h102 (by rw [Array.size_setIfInBounds]; exact h103) (by have hh : ((cur99.setIfInBounds (0 + j2 * 1) (.int .u8 ((((ms.getD j2 0).toNat ^^^ 255) : Nat) : Int))).toList.drop 0).take ((ms.set j2 (UInt8.ofNat ((ms.getD j2 0).toNat ^^^ 255))).length * 1) = (ms.set j2 (UInt8.ofNat ((ms.getD j2 0).toNat ^^^ 255))).flatMap u8c := hx109; have hk : (ms.set j2 (UInt8.ofNat ((ms.getD j2 0).toNat ^^^ 255))).length = bs.length := (by rw [List.length_set]; exact hms); rw [hk] at hh; exact hh) (one_u8 _)
      have H111 : St W w107 (Row 5 1 (.slice pq bs.length cq) bs.length ((ms.set j2 (UInt8.ofNat ((ms.getD j2 0).toNat ^^^ 255))).flatMap u8c) :: SrcA bk87 bs 0 :: F) := ((H110.move 1 rfl).move 1 rfl)
      exact nx96 (j2 + 1, ms.set j2 (UInt8.ofNat ((ms.getD j2 0).toNat ^^^ 255)), pq, cq) _ _ ⟨(by omega), (by rw [List.length_set]; exact hms), H111⟩ (by first | (dsimp only; omega) | omega) ⟨by first | rfl | exact vint (by omega), by first | rfl | exact vint (by omega), by first | rfl | exact vint (by omega), by first | rfl | exact vint (by omega), by first | rfl | exact vint (by omega), by first | rfl | exact vint (by omega), trivial⟩
    · skip
      refine r_cons (s_lss false rfl rfl (dfalse hc97) rfl ?_)
      refine r_nil ?_
      refine g_seq ?_
      refine g_false rfl ?_
      refine g_exit (by rfl) ?_
      refine g_seq ?_
      refine g_region ?_
      refine r_cons (s_move (.slice pp1 bs.length cc2) rfl rfl ?_)
      refine r_cons (s_call [.slice pp1 bs.length cc2] pl_15 rfl rfl (RSrc_New bs _ (by omega) (j := j + 2) (by exact hj) H95) ?_)
      rintro _ w113 ⟨bk112, rfl, H114⟩
      have H115 : St W w113 (RSrc bk112 (remB bs 0) :: Row 5 1 (.slice pq bs.length cq) bs.length (ms.flatMap u8c) :: SrcA bk87 bs 0 :: F) := H114
      refine r_cons (s_assign (.pointer (some ⟨bk112, 0, none⟩)) rfl rfl ?_)
      refine r_nil ?_
      refine g_seq ?_
      have H116 : St W w113 (Row 5 1 (.slice pq bs.length cq) bs.length (ms.flatMap u8c) :: RSrc bk112 (remB bs 0) :: SrcA bk87 bs 0 :: F) := (((H115.move 2 rfl).move 1 rfl).move 2 rfl)
      refine g_mix (fun t_ w => St W w (Row 5 1 (.slice pq bs.length cq) bs.length (ms.flatMap u8c) :: t_)) (RSrc bk112 (remB bs 0) :: SrcA bk87 bs 0 :: F) mixed 21 rfl H116.drew ?_
      refine f_first 0 (listed' := #[true, false, false, false, false, false, false, false, false, false, false, false, false, false, false, false, false, false, false, false, false]) rfl (by kernel_rfl) (by kernel_rfl) (by kernel_rfl) rfl ?_
      refine f_val rfl rfl rfl (by intro t_ w hw; exact x_move (.pointer (some ⟨bk87, 0, none⟩)) rfl w) ?_
      refine f_first 1 (listed' := #[true, true, false, false, false, false, false, false, false, false, false, false, false, false, false, false, false, false, false, false, false]) rfl (by kernel_rfl) (by kernel_rfl) (by kernel_rfl) rfl ?_
      refine f_val rfl rfl rfl (by intro t_ w hw; exact x_move (.pointer (some ⟨bk112, 0, none⟩)) rfl w) ?_
      refine f_first 2 (listed' := #[true, true, true, false, false, false, false, false, false, false, false, false, false, false, false, false, false, false, false, false, false]) rfl (by kernel_rfl) (by kernel_rfl) (by kernel_rfl) rfl ?_
      refine f_val rfl rfl rfl (by intro t_ w hw; exact x_build (cs := #[.int .i64 1, .int .u64 0, .int .i64 0, .string ByteArray.empty]) (by kernel_rfl) w) ?_
      refine f_all (rs := [3]) (by kernel_rfl) (by simp) ?_
      refine a_cons ⟨_, rfl, ?_⟩ (fun x hx => absurd hx (by simp))
      intro w117 H118
      try dsimp only at H118
      have H119 : St W w117 (SrcA bk87 bs 0 :: RSrc bk112 (remB bs 0) :: Row 5 1 (.slice pq bs.length cq) bs.length (ms.flatMap u8c) :: F) := ((H118.move 1 rfl).move 2 rfl)
      refine s_call [.pointer (some ⟨bk87, 0, none⟩), .pointer (some ⟨bk112, 0, none⟩), .agg #[.int .i64 1, .int .u64 0, .int .i64 0, .string ByteArray.empty]] pl_16 rfl rfl (take01 bk87 bk112 bs 0 (by first | omega | decide +kernel | (repeat (first | assumption | exact Nat.zero_le _ | refine natN_pos ?_ | refine srcN_pos ?_ | refine textN_pos ?_))) (by omega) (partK 1 (by decide)) H119) ?_
      rintro _ w122 ⟨rfl, q120, hq121, H123⟩
      have H124 : St W w122 (Row 5 1 (.slice pq bs.length cq) bs.length (ms.flatMap u8c) :: SrcA bk87 bs q120 :: RSrc bk112 (remB bs q120) :: F) := (((H123.move 1 rfl).move 1 rfl).move 2 rfl)
      refine ⟨SrcA bk87 bs q120 :: RSrc bk112 (remB bs q120) :: F, ?_, H124⟩
      change FReg _ _ _ _ _ #[true, true, true, true, false, false, false, false, false, false, false, false, false, false, false, false, false, false, false, false, false] _ _
      refine f_first 4 (listed' := #[true, true, true, true, true, false, false, false, false, false, false, false, false, false, false, false, false, false, false, false, false]) rfl (by kernel_rfl) (by kernel_rfl) (by kernel_rfl) rfl ?_
      refine f_val rfl rfl rfl (by intro t_ w hw; exact x_move (.bool true) rfl w) ?_
      refine f_first 5 (listed' := #[true, true, true, true, true, true, false, false, false, false, false, false, false, false, false, false, false, false, false, false, false]) rfl (by kernel_rfl) (by kernel_rfl) (by kernel_rfl) rfl ?_
      refine f_take rfl rfl ?_
      refine f_val rfl rfl rfl (by intro t_ w hw; exact x_move (.pointer (some ⟨bk87, 0, none⟩)) rfl w) ?_
      refine f_first 6 (listed' := #[true, true, true, true, true, true, true, false, false, false, false, false, false, false, false, false, false, false, false, false, false]) rfl (by kernel_rfl) (by kernel_rfl) (by kernel_rfl) rfl ?_
      refine f_take rfl rfl ?_
      refine f_val rfl rfl rfl (by intro t_ w hw; exact x_move (.pointer (some ⟨bk112, 0, none⟩)) rfl w) ?_
      refine f_first 7 (listed' := #[true, true, true, true, true, true, true, true, false, false, false, false, false, false, false, false, false, false, false, false, false]) rfl (by kernel_rfl) (by kernel_rfl) (by kernel_rfl) rfl ?_
      refine f_take rfl rfl ?_
      refine f_val rfl rfl rfl (by intro t_ w hw; exact x_build (cs := #[.int .i64 3, .int .u64 0, .int .i64 0, .string ByteArray.empty]) (by kernel_rfl) w) ?_
      refine f_all (rs := [8]) (by kernel_rfl) (by simp) ?_
      refine a_cons ⟨_, rfl, ?_⟩ (fun x hx => absurd hx (by simp))
      intro w125 H126
      try dsimp only at H126
      refine r_take rfl rfl ?_
      have H127 : St W w125 (SrcA bk87 bs q120 :: RSrc bk112 (remB bs q120) :: Row 5 1 (.slice pq bs.length cq) bs.length (ms.flatMap u8c) :: F) := ((H126.move 2 rfl).move 2 rfl)
      refine s_call [.pointer (some ⟨bk87, 0, none⟩), .pointer (some ⟨bk112, 0, none⟩), .agg #[.int .i64 3, .int .u64 0, .int .i64 0, .string ByteArray.empty]] pl_16 rfl rfl (take01 bk87 bk112 bs q120 (by first | omega | decide +kernel | (repeat (first | assumption | exact Nat.zero_le _ | refine natN_pos ?_ | refine srcN_pos ?_ | refine textN_pos ?_))) (by omega) (partK 3 (by decide)) H127) ?_
      rintro _ w130 ⟨rfl, q128, hq129, H131⟩
      have H132 : St W w130 (Row 5 1 (.slice pq bs.length cq) bs.length (ms.flatMap u8c) :: SrcA bk87 bs q128 :: RSrc bk112 (remB bs q128) :: F) := (((H131.move 1 rfl).move 1 rfl).move 2 rfl)
      refine ⟨SrcA bk87 bs q128 :: RSrc bk112 (remB bs q128) :: F, ?_, H132⟩
      change FReg _ _ _ _ _ #[true, true, true, true, true, true, true, true, true, false, false, false, false, false, false, false, false, false, false, false, false] _ _
      refine f_first 9 (listed' := #[true, true, true, true, true, true, true, true, true, true, false, false, false, false, false, false, false, false, false, false, false]) rfl (by kernel_rfl) (by kernel_rfl) (by kernel_rfl) rfl ?_
      refine f_val rfl rfl rfl (by intro t_ w hw; exact x_pick_t (.bool true) rfl rfl w) ?_
      refine f_first 10 (listed' := #[true, true, true, true, true, true, true, true, true, true, true, false, false, false, false, false, false, false, false, false, false]) rfl (by kernel_rfl) (by kernel_rfl) (by kernel_rfl) rfl ?_
      refine f_val rfl rfl rfl (by intro t_ w hw; exact x_move (.bool true) rfl w) ?_
      refine f_first 11 (listed' := #[true, true, true, true, true, true, true, true, true, true, true, true, false, false, false, false, false, false, false, false, false]) rfl (by kernel_rfl) (by kernel_rfl) (by kernel_rfl) rfl ?_
      refine f_take rfl rfl ?_
      refine f_val rfl rfl rfl (by intro t_ w hw; exact x_move (.pointer (some ⟨bk87, 0, none⟩)) rfl w) ?_
      refine f_first 13 (listed' := #[true, true, true, true, true, true, true, true, true, true, true, true, false, true, false, false, false, false, false, false, false]) rfl (by kernel_rfl) (by kernel_rfl) (by kernel_rfl) rfl ?_
      refine f_take rfl rfl ?_
      refine f_val rfl rfl rfl (by intro t_ w hw; exact x_move (.pointer (some ⟨bk112, 0, none⟩)) rfl w) ?_
      refine f_first 14 (listed' := #[true, true, true, true, true, true, true, true, true, true, true, true, false, true, true, false, false, false, false, false, false]) rfl (by kernel_rfl) (by kernel_rfl) (by kernel_rfl) rfl ?_
      refine f_take rfl rfl ?_
      refine f_val rfl rfl rfl (by intro t_ w hw; exact x_nilCheck (.pointer (some ⟨bk112, 0, none⟩)) rfl ⟨_, rfl⟩ w) ?_
      refine f_first 15 (listed' := #[true, true, true, true, true, true, true, true, true, true, true, true, false, true, true, true, false, false, false, false, false]) rfl (by kernel_rfl) (by kernel_rfl) (by kernel_rfl) rfl ?_
      refine f_take rfl rfl ?_
      refine f_val rfl rfl rfl (by intro t_ w hw; exact x_fieldAddr 43 0 0 0 23 rfl fi_43_0 rfl w) ?_
      refine f_all (rs := [12, 16]) (by kernel_rfl) (by simp) ?_
      refine a_cons ⟨_, rfl, ?_⟩ (a_cons ⟨_, rfl, ?_⟩ (fun x hx => absurd hx (by simp)))
      · skip
        intro w133 H134
        try dsimp only at H134
        refine r_take rfl rfl ?_
        refine s_call [.pointer (some ⟨bk87, 0, none⟩)] pl_17 rfl rfl (Src_Left bk87 bs q128 (by first | omega | decide +kernel | (repeat (first | assumption | exact Nat.zero_le _ | refine natN_pos ?_ | refine srcN_pos ?_ | refine textN_pos ?_))) (by first | omega | decide +kernel)   (i := 1) rfl H134) ?_
        rintro _ w135 ⟨rfl, H136⟩
        refine ⟨SrcA bk87 bs q128 :: RSrc bk112 (remB bs q128) :: F, ?_, H136⟩
        change FReg _ _ _ _ _ #[true, true, true, true, true, true, true, true, true, true, true, true, true, true, true, true, false, false, false, false, false] _ _
        refine f_all (rs := [16]) (by kernel_rfl) (by simp) ?_
        refine a_cons ⟨_, rfl, ?_⟩ (fun x hx => absurd hx (by simp))
        intro w137 H138
        try dsimp only at H138
        refine r_take rfl rfl ?_
        have H139 := H138.move 2 rfl
        obtain ⟨vv140, H141⟩ := St.open_ex H139
        have H142 := St.open_star H141
        obtain ⟨pp143, cc144, gA145, oA146, kA147, eA148, zA149, rfl, hn150, hp151, hx152, hs153, hml, H154⟩ := Im.open_ H142 (i := 1) rfl
        have H155 : St W w137 (imi (0 < (remB bs q128).length) gA145 (.cells kA147 eA148 zA149) :: blk bk112 (.cells #[.slice pp143 ((remB bs q128).length) cc144] 43 (0, 0)) :: Im 1 (.slice pp143 ((remB bs q128).length) cc144) ((remB bs q128).length) ((remB bs q128).flatMap blc) :: Row 5 1 (.slice pq bs.length cq) bs.length (ms.flatMap u8c) :: SrcA bk87 bs q128 :: F) := H154
        refine s_load (.slice pp143 ((remB bs q128).length) cc144) ag_23 rfl (H155.blk_at (i := 1) rfl) rfl rfl ?_
        have H156 : St W w137 (blk bk112 (.cells #[.slice pp143 ((remB bs q128).length) cc144] 43 (0, 0)) :: Im 1 (.slice pp143 ((remB bs q128).length) cc144) ((remB bs q128).length) ((remB bs q128).flatMap blc) :: Row 5 1 (.slice pq bs.length cq) bs.length (ms.flatMap u8c) :: SrcA bk87 bs q128 :: F) := (((((H155.move 4 rfl).move 4 rfl).move 4 rfl).move 4 rfl).drop 4 rfl)
        have H157 : St W w137 (RSrc bk112 (remB bs q128) :: Row 5 1 (.slice pq bs.length cq) bs.length (ms.flatMap u8c) :: SrcA bk87 bs q128 :: F) := St.shut_ex (.slice pp143 ((remB bs q128).length) cc144) (St.shut_star (ls := [blk bk112 (.cells #[.slice pp143 ((remB bs q128).length) cc144] 43 (0, 0)), Im 1 (.slice pp143 ((remB bs q128).length) cc144) ((remB bs q128).length) ((remB bs q128).flatMap blc)]) H156)
        have H158 : St W w137 (Row 5 1 (.slice pq bs.length cq) bs.length (ms.flatMap u8c) :: RSrc bk112 (remB bs q128) :: SrcA bk87 bs q128 :: F) := (((H157.move 2 rfl).move 1 rfl).move 2 rfl)
        refine ⟨RSrc bk112 (remB bs q128) :: SrcA bk87 bs q128 :: F, ?_, H158⟩
        change FReg _ _ _ _ _ #[true, true, true, true, true, true, true, true, true, true, true, true, true, true, true, true, true, false, false, false, false] _ _
        refine f_first 17 (listed' := #[true, true, true, true, true, true, true, true, true, true, true, true, true, true, true, true, true, true, false, false, false]) rfl (by kernel_rfl) (by kernel_rfl) (by kernel_rfl) rfl ?_
        refine f_take rfl rfl ?_
        refine f_val rfl rfl rfl (by intro t_ w hw; exact x_len ((remB bs q128).length) rfl ⟨_, un_23⟩ w) ?_
        refine f_first 18 (listed' := #[true, true, true, true, true, true, true, true, true, true, true, true, true, true, true, true, true, true, true, false, false]) rfl (by kernel_rfl) (by kernel_rfl) (by kernel_rfl) rfl ?_
        refine f_take rfl rfl ?_
        refine f_val rfl rfl rfl (by intro t_ w hw; exact x_eql true rfl rfl (dtrue rfl) w) ?_
        refine f_first 19 (listed' := #[true, true, true, true, true, true, true, true, true, true, true, true, true, true, true, true, true, true, true, true, false]) rfl (by kernel_rfl) (by kernel_rfl) (by kernel_rfl) rfl ?_
        refine f_val rfl rfl rfl (by intro t_ w hw; exact x_pick_t (.bool true) rfl rfl w) ?_
        refine f_first 20 (listed' := #[true, true, true, true, true, true, true, true, true, true, true, true, true, true, true, true, true, true, true, true, true]) rfl (by kernel_rfl) (by kernel_rfl) (by kernel_rfl) rfl ?_
        refine f_val rfl rfl rfl (by intro t_ w hw; exact x_assign (.bool true) rfl w) ?_
        refine f_done (by kernel_rfl) ?_
        intro w159 H160
        refine g_ret' [.bool true] Try.func7 Try.results7 ⟨rfl, trivial⟩ ?_
        have H161 : St W w159 F := (((H160.drop 0 rfl).drop 0 rfl).drop 0 rfl)
        exact ⟨rfl, H161⟩
      · skip
        intro w162 H163
        try dsimp only at H163
        refine r_take rfl rfl ?_
        have H164 := H163.move 2 rfl
        obtain ⟨vv165, H166⟩ := St.open_ex H164
        have H167 := St.open_star H166
        obtain ⟨pp168, cc169, gA170, oA171, kA172, eA173, zA174, rfl, hn175, hp176, hx177, hs178, hml, H179⟩ := Im.open_ H167 (i := 1) rfl
        have H180 : St W w162 (imi (0 < (remB bs q128).length) gA170 (.cells kA172 eA173 zA174) :: blk bk112 (.cells #[.slice pp168 ((remB bs q128).length) cc169] 43 (0, 0)) :: Im 1 (.slice pp168 ((remB bs q128).length) cc169) ((remB bs q128).length) ((remB bs q128).flatMap blc) :: Row 5 1 (.slice pq bs.length cq) bs.length (ms.flatMap u8c) :: SrcA bk87 bs q128 :: F) := H179
        refine s_load (.slice pp168 ((remB bs q128).length) cc169) ag_23 rfl (H180.blk_at (i := 1) rfl) rfl rfl ?_
        have H181 : St W w162 (blk bk112 (.cells #[.slice pp168 ((remB bs q128).length) cc169] 43 (0, 0)) :: Im 1 (.slice pp168 ((remB bs q128).length) cc169) ((remB bs q128).length) ((remB bs q128).flatMap blc) :: Row 5 1 (.slice pq bs.length cq) bs.length (ms.flatMap u8c) :: SrcA bk87 bs q128 :: F) := (((((H180.move 4 rfl).move 4 rfl).move 4 rfl).move 4 rfl).drop 4 rfl)
        have H182 : St W w162 (RSrc bk112 (remB bs q128) :: Row 5 1 (.slice pq bs.length cq) bs.length (ms.flatMap u8c) :: SrcA bk87 bs q128 :: F) := St.shut_ex (.slice pp168 ((remB bs q128).length) cc169) (St.shut_star (ls := [blk bk112 (.cells #[.slice pp168 ((remB bs q128).length) cc169] 43 (0, 0)), Im 1 (.slice pp168 ((remB bs q128).length) cc169) ((remB bs q128).length) ((remB bs q128).flatMap blc)]) H181)
        have H183 : St W w162 (Row 5 1 (.slice pq bs.length cq) bs.length (ms.flatMap u8c) :: RSrc bk112 (remB bs q128) :: SrcA bk87 bs q128 :: F) := (((H182.move 2 rfl).move 1 rfl).move 2 rfl)
        refine ⟨RSrc bk112 (remB bs q128) :: SrcA bk87 bs q128 :: F, ?_, H183⟩
        change FReg _ _ _ _ _ #[true, true, true, true, true, true, true, true, true, true, true, true, false, true, true, true, true, false, false, false, false] _ _
        refine f_first 17 (listed' := #[true, true, true, true, true, true, true, true, true, true, true, true, false, true, true, true, true, true, false, false, false]) rfl (by kernel_rfl) (by kernel_rfl) (by kernel_rfl) rfl ?_
        refine f_take rfl rfl ?_
        refine f_val rfl rfl rfl (by intro t_ w hw; exact x_len ((remB bs q128).length) rfl ⟨_, un_23⟩ w) ?_
        refine f_all (rs := [12]) (by kernel_rfl) (by simp) ?_
        refine a_cons ⟨_, rfl, ?_⟩ (fun x hx => absurd hx (by simp))
        intro w184 H185
        try dsimp only at H185
        refine r_take rfl rfl ?_
        refine s_call [.pointer (some ⟨bk87, 0, none⟩)] pl_17 rfl rfl (Src_Left bk87 bs q128 (by first | omega | decide +kernel | (repeat (first | assumption | exact Nat.zero_le _ | refine natN_pos ?_ | refine srcN_pos ?_ | refine textN_pos ?_))) (by first | omega | decide +kernel)   (i := 2) rfl H185) ?_
        rintro _ w186 ⟨rfl, H187⟩
        refine ⟨RSrc bk112 (remB bs q128) :: SrcA bk87 bs q128 :: F, ?_, H187⟩
        change FReg _ _ _ _ _ #[true, true, true, true, true, true, true, true, true, true, true, true, true, true, true, true, true, true, false, false, false] _ _
        refine f_first 18 (listed' := #[true, true, true, true, true, true, true, true, true, true, true, true, true, true, true, true, true, true, true, false, false]) rfl (by kernel_rfl) (by kernel_rfl) (by kernel_rfl) rfl ?_
        refine f_take rfl rfl ?_
        refine f_val rfl rfl rfl (by intro t_ w hw; exact x_eql true rfl rfl (dtrue rfl) w) ?_
        refine f_first 19 (listed' := #[true, true, true, true, true, true, true, true, true, true, true, true, true, true, true, true, true, true, true, true, false]) rfl (by kernel_rfl) (by kernel_rfl) (by kernel_rfl) rfl ?_
        refine f_val rfl rfl rfl (by intro t_ w hw; exact x_pick_t (.bool true) rfl rfl w) ?_
        refine f_first 20 (listed' := #[true, true, true, true, true, true, true, true, true, true, true, true, true, true, true, true, true, true, true, true, true]) rfl (by kernel_rfl) (by kernel_rfl) (by kernel_rfl) rfl ?_
        refine f_val rfl rfl rfl (by intro t_ w hw; exact x_assign (.bool true) rfl w) ?_
        refine f_done (by kernel_rfl) ?_
        intro w188 H189
        refine g_ret' [.bool true] Try.func7 Try.results7 ⟨rfl, trivial⟩ ?_
        have H190 : St W w188 F := (((H189.drop 0 rfl).drop 0 rfl).drop 0 rfl)
        exact ⟨rfl, H190⟩
end Sl
