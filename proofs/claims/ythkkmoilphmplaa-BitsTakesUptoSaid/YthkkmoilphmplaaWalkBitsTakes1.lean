/- Walks of the program's functions. Printed by a program of this claim's author. No condition. -/
import Derived.Test.YthkkmoilphmplaaSlQ
import Derived.Test.YthkkmoilphmplaaSlK
import Derived.Test.YthkkmoilphmplaaSlP
import Derived.Test.YthkkmoilphmplaaProg
import Derived.Test.YthkkmoilphmplaaWalkBitsTakes0
namespace Sl
open _root_.Go _root_.Go.RowKit _root_.Go.Proofs
set_option linter.all false
set_option maxHeartbeats 4000000 in
set_option maxRecDepth 100000 in
theorem RSrc_Nat {W w : World} {F : List Atom} (b : Nat) (R : List Bool) {i : Nat} (hi : F[i]? = some (RSrc b R)) (H : St W w F) : Calls Try.prog 41 #[.pointer (some ⟨b, 0, none⟩)] w (Ret fun v w' => v = .tuple #[.int .u64 (natU R : Int), .int .i64 (natE R)] ∧ St W w' (F.set i (RSrc b (R.drop (natN R))))) := by
  have H0 := H.front hi
  refine calls_of_go (n := 75) Try.func41 rfl Try.ntmps41 rfl ?_
  refine g_seq ?_
  refine g_region ?_
  refine r_cons (s_assign (.int .u64 0) rfl rfl ?_)
  refine r_cons (s_assign (.int .i64 0) rfl rfl ?_)
  refine r_nil ?_
  refine g_seq ?_
  refine g_region ?_
  refine r_cons (s_assign (.int .i64 0) rfl rfl ?_)
  refine r_nil ?_
  refine g_seq ?_
  refine g_block ?_
  have H1 : St W w (RSrc b R :: (F.set i emp)) := H0
  refine g_loop_inv (fun (x : Nat) => match x with | k => [(0, .pointer (some ⟨b, 0, none⟩)), (2, .int .u64 0), (3, .int .i64 0), (4, .int .i64 (k : Int))]) (fun (x : Nat) w => match x with | k => (k ≤ 65) ∧ (k ≤ R.length) ∧ (∀ j, j < k → R.getD j false = false) ∧ St W w (RSrc b R :: (F.set i emp))) (fun (x : Nat) => match x with | k => 65 - k) (0) ?_ ?_ ?_
  · exact ⟨by first | rfl | exact vint (by omega), by first | rfl | exact vint (by omega), by first | rfl | exact vint (by omega), by first | rfl | exact vint (by omega), trivial⟩
  · exact ⟨(by omega), (by omega), (fun j hj => by omega), H1⟩
  · rintro k ρ2 w3 ⟨hk, hkr, hz, H4⟩ nx5
    change Ends _ _ (upds ρ2 [(0, .pointer (some ⟨b, 0, none⟩)), (2, .int .u64 0), (3, .int .i64 0), (4, .int .i64 (k : Int))]) w3
    refine g_seq ?_
    refine g_seq ?_
    refine g_region ?_
    refine r_cons (s_move (.int .i64 (k : Int)) rfl rfl ?_)
    refine r_cons (s_move (.pointer (some ⟨b, 0, none⟩)) rfl rfl ?_)
    refine r_cons (s_nilCheck (.pointer (some ⟨b, 0, none⟩)) rfl ⟨_, rfl⟩ rfl ?_)
    refine r_cons (s_fieldAddr 43 0 0 0 23 rfl fi_43_0 rfl rfl ?_)
    have H6 := H4.move 0 rfl
    obtain ⟨vv7, H8⟩ := St.open_ex H6
    have H9 := St.open_star H8
    obtain ⟨pp10, cc11, gA12, oA13, kA14, eA15, zA16, rfl, hn17, hp18, hx19, hs20, hml, H21⟩ := Im.open_ H9 (i := 1) rfl
    have H22 : St W w3 (imi (0 < R.length) gA12 (.cells kA14 eA15 zA16) :: blk b (.cells #[.slice pp10 R.length cc11] 43 (0, 0)) :: Im 1 (.slice pp10 R.length cc11) R.length (R.flatMap blc) :: (F.set i emp)) := H21
    refine r_cons (s_load (.slice pp10 R.length cc11) ag_23 rfl (H22.blk_at (i := 1) rfl) rfl rfl ?_)
    refine r_cons (s_len R.length rfl ⟨_, un_23⟩ rfl ?_)
    by_cases hc23 : (k : Int) < (R.length : Int)
    · skip
      refine r_cons (s_lss true rfl rfl (dtrue hc23) rfl ?_)
      refine r_cons (s_move (.bool true) rfl rfl ?_)
      refine r_cons (r_take rfl rfl ?_)
      refine s_move (.int .i64 (k : Int)) rfl rfl ?_
      refine r_cons (r_take rfl rfl ?_)
      by_cases hc24 : (k : Int) < 65
      · skip
        refine s_lss true rfl rfl (dtrue hc24) rfl ?_
        refine r_cons (s_pick_t (.bool true) rfl rfl rfl ?_)
        refine r_cons (s_move (.bool true) rfl rfl ?_)
        refine r_cons (r_take rfl rfl ?_)
        refine s_move (.pointer (some ⟨b, 0, none⟩)) rfl rfl ?_
        refine r_cons (r_take rfl rfl ?_)
        refine s_nilCheck (.pointer (some ⟨b, 0, none⟩)) rfl ⟨_, rfl⟩ rfl ?_
        refine r_cons (r_take rfl rfl ?_)
        refine s_fieldAddr 43 0 0 0 23 rfl fi_43_0 rfl rfl ?_
        refine r_cons (r_take rfl rfl ?_)
        refine s_load (.slice pp10 R.length cc11) ag_23 rfl (H22.blk_at (i := 1) rfl) rfl rfl ?_
        refine r_cons (r_take rfl rfl ?_)
        refine s_move (.int .i64 (k : Int)) rfl rfl ?_
        refine r_cons (r_take rfl rfl ?_)
        refine s_indexAddr gA12 (off := oA13) (k : Int) 1 (oA13 + k * 1) (by exact congrArg (fun z_ => Value.slice z_ R.length cc11) (hp18 (by omega))) rfl el_23 (by omega) rfl rfl ?_
        refine r_cons (r_take rfl rfl ?_)
        refine s_load (.bool (R.getD k false)) ag_4 rfl (H22.imi_at (i := 0) rfl (by omega)) (elem_cell blc_len (hx19 (by omega)) (by omega) false 0 (by decide) _ rfl) rfl ?_
        refine r_cons (r_take rfl rfl ?_)
        refine s_not (R.getD k false) rfl (!(R.getD k false)) rfl rfl ?_
        refine r_cons (s_pick_t (.bool (!(R.getD k false))) rfl rfl rfl ?_)
        refine r_nil ?_
        by_cases hb25 : (!(R.getD k false)) = true
        · skip
          refine g_true (congrArg Value.bool hb25) ?_
          refine g_skip ?_
          refine g_block ?_
          refine g_region ?_
          refine r_cons (s_move (.int .i64 (k : Int)) rfl rfl ?_)
          refine r_cons (s_add ((k : Int) + 1) rfl rfl (wi64 (by omega)) rfl ?_)
          refine r_cons (s_assign (.int .i64 ((k : Int) + 1)) rfl rfl ?_)
          refine r_nil ?_
          refine g_inBlock ?_
          have H26 : St W w3 (blk b (.cells #[.slice pp10 R.length cc11] 43 (0, 0)) :: Im 1 (.slice pp10 R.length cc11) R.length (R.flatMap blc) :: (F.set i emp)) := (((H22.move 2 rfl).move 2 rfl).drop 2 rfl)
          have H27 : St W w3 (RSrc b R :: (F.set i emp)) := St.shut_ex (.slice pp10 R.length cc11) (St.shut_star (ls := [blk b (.cells #[.slice pp10 R.length cc11] 43 (0, 0)), Im 1 (.slice pp10 R.length cc11) R.length (R.flatMap blc)]) H26)
          have H28 : St W w3 (RSrc b R :: (F.set i emp)) := H27
          exact nx5 (k + 1) _ _ ⟨(by omega), (by omega), (fun j hj => (Nat.lt_or_ge j k).elim (hz j) (fun h => by rw [show j = k from by omega]; simpa using hb25)), H28⟩ (by first | (dsimp only; omega) | omega) ⟨by first | rfl | exact vint (by omega), by first | rfl | exact vint (by omega), by first | rfl | exact vint (by omega), by first | rfl | exact vint (by omega), trivial⟩
        · have hb25 := eq_false_of_ne_true hb25
          refine g_false (congrArg Value.bool hb25) ?_
          refine g_exit (by rfl) ?_
          refine g_seq ?_
          refine g_seq ?_
          refine g_region ?_
          refine r_cons (s_move (.int .i64 (k : Int)) rfl rfl ?_)
          have hzz : zeros R = k := zeros_is hk hkr hz (by first | (left; omega) | (right; left; omega) | (right; right; simpa using hb25))
          clear hz
          refine r_cons (s_eql false rfl rfl (dfalse (by omega)) rfl ?_)
          refine r_nil ?_
          refine g_false rfl ?_
          refine g_skip ?_
          refine g_seq ?_
          refine g_seq ?_
          refine g_region ?_
          refine r_cons (s_move (.int .i64 (k : Int)) rfl rfl ?_)
          refine r_cons (s_mul ((2 * k : Nat) : Int) rfl rfl ((wi64 (by omega)).trans (by omega)) rfl ?_)
          refine r_cons (s_add (((2 * k : Nat) : Int) + 1) rfl rfl (wi64 (by omega)) rfl ?_)
          refine r_cons (s_move (.pointer (some ⟨b, 0, none⟩)) rfl rfl ?_)
          refine r_cons (s_nilCheck (.pointer (some ⟨b, 0, none⟩)) rfl ⟨_, rfl⟩ rfl ?_)
          refine r_cons (s_fieldAddr 43 0 0 0 23 rfl fi_43_0 rfl rfl ?_)
          refine r_cons (s_load (.slice pp10 R.length cc11) ag_23 rfl (H22.blk_at (i := 1) rfl) rfl rfl ?_)
          refine r_cons (s_len R.length rfl ⟨_, un_23⟩ rfl ?_)
          by_cases hc29 : (R.length : Int) < ((2 * k : Nat) : Int) + 1
          · skip
            refine r_cons (s_gtr true rfl rfl (dtrue hc29) rfl ?_)
            refine r_nil ?_
            refine g_true rfl ?_
            refine g_seq ?_
            refine g_region ?_
            refine r_cons (s_assign (.int .u64 0) rfl rfl ?_)
            refine r_cons (s_assign (.int .i64 10) rfl rfl ?_)
            refine r_nil ?_
            refine g_ret' [.int .u64 0, .int .i64 10] Try.func41 Try.results41 ⟨rfl, rfl, trivial⟩ ?_
            have H30 : St W w3 (blk b (.cells #[.slice pp10 R.length cc11] 43 (0, 0)) :: Im 1 (.slice pp10 R.length cc11) R.length (R.flatMap blc) :: (F.set i emp)) := (((H22.move 2 rfl).move 2 rfl).drop 2 rfl)
            have H31 : St W w3 (RSrc b R :: (F.set i emp)) := St.shut_ex (.slice pp10 R.length cc11) (St.shut_star (ls := [blk b (.cells #[.slice pp10 R.length cc11] 43 (0, 0)), Im 1 (.slice pp10 R.length cc11) R.length (R.flatMap blc)]) H30)
            have H32 : St W w3 (RSrc b R :: (F.set i emp)) := H31
            have hE : natE R = 10 := natE_10 (by omega) (by omega)
            have hE0 : ¬ natE R = 0 := by rw [hE]; decide
            exact ⟨by rw [natU_no hE0, hE]; rfl, by rw [natN_no hE0, List.drop_zero]; exact St.back hi H32⟩
          · skip
            refine r_cons (s_gtr false rfl rfl (dfalse hc29) rfl ?_)
            refine r_nil ?_
            refine g_false rfl ?_
            refine g_skip ?_
            refine g_seq ?_
            refine g_region ?_
            refine r_cons (s_move (.pointer (some ⟨b, 0, none⟩)) rfl rfl ?_)
            refine r_cons (s_nilCheck (.pointer (some ⟨b, 0, none⟩)) rfl ⟨_, rfl⟩ rfl ?_)
            refine r_cons (s_fieldAddr 43 0 0 0 23 rfl fi_43_0 rfl rfl ?_)
            refine r_cons (s_load (.slice pp10 R.length cc11) ag_23 rfl (H22.blk_at (i := 1) rfl) rfl rfl ?_)
            refine r_cons (s_move (.int .i64 (k : Int)) rfl rfl ?_)
            refine r_cons (s_add ((k : Int) + 1) rfl rfl (wi64 (by omega)) rfl ?_)
            refine r_cons (s_move (.int .i64 (k : Int)) rfl rfl ?_)
            refine r_cons (s_mul ((2 * k : Nat) : Int) rfl rfl ((wi64 (by omega)).trans (by omega)) rfl ?_)
            refine r_cons (s_add (((2 * k : Nat) : Int) + 1) rfl rfl (wi64 (by omega)) rfl ?_)
            have hc33 := Im.cap H22 (i := 2) rfl
            refine r_cons (s_slice pp10 ((k : Int) + 1) (((2 * k : Nat) : Int) + 1) 1 (.slice (cutAt pp10 (k + 1) cc11 1) ((2 * k + 1) - (k + 1)) (cc11 - (k + 1))) rfl rfl rfl el_23 (by omega) (by first | rfl | (congr 1; omega)) rfl ?_)
            have H34 : St W w3 (Im 1 (.slice (cutAt pp10 (k + 1) cc11 1) ((2 * k + 1) - (k + 1)) (cc11 - (k + 1))) ((2 * k + 1) - (k + 1)) (((R.drop (k + 1)).take ((2 * k + 1) - (k + 1))).flatMap blc) :: imi (0 < R.length) gA12 (.cells kA14 eA15 zA16) :: blk b (.cells #[.slice pp10 R.length cc11] 43 (0, 0)) :: Im 1 (.slice pp10 R.length cc11) R.length (R.flatMap blc) :: (F.set i emp)) := Im.cut blc_len (k + 1) (2 * k + 1) H22 (i := 2) rfl (by omega) (by omega)
            refine r_cons (s_call [.slice (cutAt pp10 (k + 1) cc11 1) ((2 * k + 1) - (k + 1)) (cc11 - (k + 1))] pl_52 rfl rfl (ref01_value _ _ ((R.drop (k + 1)).take ((2 * k + 1) - (k + 1))) (by first | rfl | (simp only [List.length_take, List.length_drop]; omega)) (by omega) (j := 0) rfl H34) ?_)
            rintro _ w35 ⟨rfl, H36⟩
            refine r_cons (s_assign (.int .u64 (valOf ((R.drop (k + 1)).take ((2 * k + 1) - (k + 1))) : Int)) rfl rfl ?_)
            refine r_nil ?_
            refine g_seq ?_
            refine g_seq ?_
            refine g_region ?_
            have hlow : valOf ((R.drop (k + 1)).take (2 * k + 1 - (k + 1))) = valOf ((R.drop (zeros R + 1)).take (zeros R)) := by rw [hzz]; congr 2; omega
            have hlt : valOf ((R.drop (k + 1)).take (2 * k + 1 - (k + 1))) < 2 ^ k := by rw [hlow, hzz]; exact valOf_take_lt _ _
            refine r_cons (s_move (.int .i64 (k : Int)) rfl rfl ?_)
            by_cases hc37 : (k : Int) = 64
            · skip
              refine r_cons (s_eql true rfl rfl (dtrue hc37) rfl ?_)
              refine r_cons (s_move (.bool true) rfl rfl ?_)
              refine r_cons (r_take rfl rfl ?_)
              refine s_move (.int .u64 (valOf ((R.drop (k + 1)).take ((2 * k + 1) - (k + 1))) : Int)) rfl rfl ?_
              refine r_cons (r_take rfl rfl ?_)
              by_cases hc38 : (0 : Int) < (valOf ((R.drop (k + 1)).take ((2 * k + 1) - (k + 1))) : Int)
              · skip
                refine s_gtr true rfl rfl (dtrue hc38) rfl ?_
                refine r_cons (s_pick_t (.bool true) rfl rfl rfl ?_)
                refine r_nil ?_
                refine g_true rfl ?_
                refine g_seq ?_
                refine g_region ?_
                refine r_cons (s_assign (.int .u64 0) rfl rfl ?_)
                refine r_cons (s_assign (.int .i64 11) rfl rfl ?_)
                refine r_nil ?_
                refine g_ret' [.int .u64 0, .int .i64 11] Try.func41 Try.results41 ⟨rfl, rfl, trivial⟩ ?_
                have H39 : St W w35 (blk b (.cells #[.slice pp10 R.length cc11] 43 (0, 0)) :: Im 1 (.slice pp10 R.length cc11) R.length (R.flatMap blc) :: Im 1 (.slice (cutAt pp10 (k + 1) cc11 1) ((2 * k + 1) - (k + 1)) (cc11 - (k + 1))) ((2 * k + 1) - (k + 1)) (((R.drop (k + 1)).take ((2 * k + 1) - (k + 1))).flatMap blc) :: (F.set i emp)) := (((H36.move 3 rfl).move 3 rfl).drop 3 rfl)
                have H40 : St W w35 (RSrc b R :: Im 1 (.slice (cutAt pp10 (k + 1) cc11 1) ((2 * k + 1) - (k + 1)) (cc11 - (k + 1))) ((2 * k + 1) - (k + 1)) (((R.drop (k + 1)).take ((2 * k + 1) - (k + 1))).flatMap blc) :: (F.set i emp)) := St.shut_ex (.slice pp10 R.length cc11) (St.shut_star (ls := [blk b (.cells #[.slice pp10 R.length cc11] 43 (0, 0)), Im 1 (.slice pp10 R.length cc11) R.length (R.flatMap blc)]) H39)
                have H41 : St W w35 (RSrc b R :: (F.set i emp)) := (H40.drop 1 rfl)
                have hE : natE R = 11 := by first | exact natE_65 (by omega) | exact natE_11 (by omega) (by omega) (by rw [← hlow]; omega)
                have hE0 : ¬ natE R = 0 := by rw [hE]; decide
                exact ⟨by rw [natU_no hE0, hE]; rfl, by rw [natN_no hE0, List.drop_zero]; exact St.back hi H41⟩
              · skip
                refine s_gtr false rfl rfl (dfalse hc38) rfl ?_
                refine r_cons (s_pick_t (.bool false) rfl rfl rfl ?_)
                refine r_nil ?_
                refine g_false rfl ?_
                refine g_skip ?_
                refine g_seq ?_
                refine g_region ?_
                refine r_cons (s_move (.pointer (some ⟨b, 0, none⟩)) rfl rfl ?_)
                refine r_cons (s_move (.pointer (some ⟨b, 0, none⟩)) rfl rfl ?_)
                refine r_cons (s_nilCheck (.pointer (some ⟨b, 0, none⟩)) rfl ⟨_, rfl⟩ rfl ?_)
                refine r_cons (s_fieldAddr 43 0 0 0 23 rfl fi_43_0 rfl rfl ?_)
                refine r_cons (s_load (.slice pp10 R.length cc11) ag_23 rfl (H36.blk_at (i := 2) rfl) rfl rfl ?_)
                refine r_cons (s_move (.int .i64 (k : Int)) rfl rfl ?_)
                refine r_cons (s_mul ((2 * k : Nat) : Int) rfl rfl ((wi64 (by omega)).trans (by omega)) rfl ?_)
                refine r_cons (s_add (((2 * k : Nat) : Int) + 1) rfl rfl (wi64 (by omega)) rfl ?_)
                have hc42 := Im.cap H36 (i := 3) rfl
                refine r_cons (s_slice_l pp10 (((2 * k : Nat) : Int) + 1) 1 (.slice (cutAt pp10 (2 * k + 1) cc11 1) (R.length - (2 * k + 1)) (cc11 - (2 * k + 1))) rfl rfl el_23 (by omega) (by first | rfl | (congr 1; omega)) rfl ?_)
                have H43 : St W w35 (Im 1 (.slice (cutAt pp10 (2 * k + 1) cc11 1) (R.length - (2 * k + 1)) (cc11 - (2 * k + 1))) (R.length - (2 * k + 1)) ((R.drop (2 * k + 1)).flatMap blc) :: Im 1 (.slice (cutAt pp10 (k + 1) cc11 1) ((2 * k + 1) - (k + 1)) (cc11 - (k + 1))) ((2 * k + 1) - (k + 1)) (((R.drop (k + 1)).take ((2 * k + 1) - (k + 1))).flatMap blc) :: imi (0 < R.length) gA12 (.cells kA14 eA15 zA16) :: blk b (.cells #[.slice pp10 R.length cc11] 43 (0, 0)) :: Im 1 (.slice pp10 R.length cc11) R.length (R.flatMap blc) :: (F.set i emp)) := Im.cut_l blc_len (2 * k + 1) H36 (i := 3) rfl (by omega)
                refine r_cons (s_nilCheck (.pointer (some ⟨b, 0, none⟩)) rfl ⟨_, rfl⟩ rfl ?_)
                refine r_cons (s_fieldAddr 43 0 0 0 23 rfl fi_43_0 rfl rfl ?_)
                refine r_cons (s_store H43 3 (.slice (cutAt pp10 (2 * k + 1) cc11 1) (R.length - (2 * k + 1)) (cc11 - (2 * k + 1))) rfl rfl rfl sz_23 rfl (Nat.le_of_ble_eq_true rfl) rfl (cs' := #[.slice (cutAt pp10 (2 * k + 1) cc11 1) (R.length - (2 * k + 1)) (cc11 - (2 * k + 1))]) rfl ?_); intro w44 H45
                refine r_nil ?_
                refine g_seq ?_
                refine g_seq ?_
                refine g_region ?_
                refine r_cons (s_move (.int .i64 (k : Int)) rfl rfl ?_)
                refine r_cons (s_eql true rfl rfl (dtrue (by omega)) rfl ?_)
                refine r_nil ?_
                refine g_true rfl ?_
                refine g_seq ?_
                refine g_region ?_
                refine r_cons (s_assign (.int .u64 18446744073709551615) rfl rfl ?_)
                refine r_cons (s_assign (.int .i64 0) rfl rfl ?_)
                refine r_nil ?_
                refine g_ret' [.int .u64 18446744073709551615, .int .i64 0] Try.func41 Try.results41 ⟨rfl, rfl, trivial⟩ ?_
                have H46 : St W w44 (blk b (.cells #[.slice (cutAt pp10 (2 * k + 1) cc11 1) (R.length - (2 * k + 1)) (cc11 - (2 * k + 1))] 43 (0, 0)) :: Im 1 (.slice (cutAt pp10 (2 * k + 1) cc11 1) (R.length - (2 * k + 1)) (cc11 - (2 * k + 1))) (R.length - (2 * k + 1)) ((R.drop (2 * k + 1)).flatMap blc) :: Im 1 (.slice (cutAt pp10 (k + 1) cc11 1) ((2 * k + 1) - (k + 1)) (cc11 - (k + 1))) ((2 * k + 1) - (k + 1)) (((R.drop (k + 1)).take ((2 * k + 1) - (k + 1))).flatMap blc) :: Im 1 (.slice pp10 R.length cc11) R.length (R.flatMap blc) :: (F.set i emp)) := (((((H45.move 4 rfl).move 2 rfl).move 2 rfl).move 4 rfl).drop 4 rfl)
                have H47 : St W w44 (blk b (.cells #[.slice (cutAt pp10 (2 * k + 1) cc11 1) (R.length - (2 * k + 1)) (cc11 - (2 * k + 1))] 43 (0, 0)) :: Im 1 (.slice (cutAt pp10 (2 * k + 1) cc11 1) (R.length - (2 * k + 1)) (cc11 - (2 * k + 1))) ((R.drop (2 * k + 1)).length) ((R.drop (2 * k + 1)).flatMap blc) :: Im 1 (.slice (cutAt pp10 (k + 1) cc11 1) ((2 * k + 1) - (k + 1)) (cc11 - (k + 1))) ((2 * k + 1) - (k + 1)) (((R.drop (k + 1)).take ((2 * k + 1) - (k + 1))).flatMap blc) :: Im 1 (.slice pp10 R.length cc11) R.length (R.flatMap blc) :: (F.set i emp)) := by rw [show (R.drop (2 * k + 1)).length = R.length - (2 * k + 1) from by simp only [List.length_drop, List.length_take]; (try omega)]; exact H46
                have H48 : St W w44 (RSrc b (R.drop (2 * k + 1)) :: Im 1 (.slice (cutAt pp10 (k + 1) cc11 1) ((2 * k + 1) - (k + 1)) (cc11 - (k + 1))) ((2 * k + 1) - (k + 1)) (((R.drop (k + 1)).take ((2 * k + 1) - (k + 1))).flatMap blc) :: Im 1 (.slice pp10 R.length cc11) R.length (R.flatMap blc) :: (F.set i emp)) := St.shut_ex (.slice (cutAt pp10 (2 * k + 1) cc11 1) (R.length - (2 * k + 1)) (cc11 - (2 * k + 1))) (St.shut_star (ls := [blk b (.cells #[.slice (cutAt pp10 (2 * k + 1) cc11 1) (R.length - (2 * k + 1)) (cc11 - (2 * k + 1))] 43 (0, 0)), Im 1 (.slice (cutAt pp10 (2 * k + 1) cc11 1) (R.length - (2 * k + 1)) (cc11 - (2 * k + 1))) ((R.drop (2 * k + 1)).length) ((R.drop (2 * k + 1)).flatMap blc)]) H47)
                have H49 : St W w44 (RSrc b (R.drop (2 * k + 1)) :: (F.set i emp)) := ((H48.drop 1 rfl).drop 1 rfl)
                have hE : natE R = 0 := natE_0 (by omega) (by omega) (by rw [← hlow]; omega)
                have hN : natN R = 2 * k + 1 := by rw [natN_0 hE]; omega
                have hv : (natU R : Int) = 18446744073709551615 := by rw [natU_64 hE (by omega)]; rfl
                exact ⟨by rw [hE, hv]; rfl, by rw [hN]; exact St.back hi H49⟩
            · skip
              refine r_cons (s_eql false rfl rfl (dfalse hc37) rfl ?_)
              refine r_cons (s_move (.bool false) rfl rfl ?_)
              refine r_cons (r_pass rfl rfl rfl rfl rfl ?_)
              refine r_cons (r_pass rfl rfl rfl rfl rfl ?_)
              refine r_cons (s_pick_f (.bool false) rfl rfl rfl ?_)
              refine r_nil ?_
              refine g_false rfl ?_
              refine g_skip ?_
              refine g_seq ?_
              refine g_region ?_
              refine r_cons (s_move (.pointer (some ⟨b, 0, none⟩)) rfl rfl ?_)
              refine r_cons (s_move (.pointer (some ⟨b, 0, none⟩)) rfl rfl ?_)
              refine r_cons (s_nilCheck (.pointer (some ⟨b, 0, none⟩)) rfl ⟨_, rfl⟩ rfl ?_)
              refine r_cons (s_fieldAddr 43 0 0 0 23 rfl fi_43_0 rfl rfl ?_)
              refine r_cons (s_load (.slice pp10 R.length cc11) ag_23 rfl (H36.blk_at (i := 2) rfl) rfl rfl ?_)
              refine r_cons (s_move (.int .i64 (k : Int)) rfl rfl ?_)
              refine r_cons (s_mul ((2 * k : Nat) : Int) rfl rfl ((wi64 (by omega)).trans (by omega)) rfl ?_)
              refine r_cons (s_add (((2 * k : Nat) : Int) + 1) rfl rfl (wi64 (by omega)) rfl ?_)
              have hc50 := Im.cap H36 (i := 3) rfl
              refine r_cons (s_slice_l pp10 (((2 * k : Nat) : Int) + 1) 1 (.slice (cutAt pp10 (2 * k + 1) cc11 1) (R.length - (2 * k + 1)) (cc11 - (2 * k + 1))) rfl rfl el_23 (by omega) (by first | rfl | (congr 1; omega)) rfl ?_)
              have H51 : St W w35 (Im 1 (.slice (cutAt pp10 (2 * k + 1) cc11 1) (R.length - (2 * k + 1)) (cc11 - (2 * k + 1))) (R.length - (2 * k + 1)) ((R.drop (2 * k + 1)).flatMap blc) :: Im 1 (.slice (cutAt pp10 (k + 1) cc11 1) ((2 * k + 1) - (k + 1)) (cc11 - (k + 1))) ((2 * k + 1) - (k + 1)) (((R.drop (k + 1)).take ((2 * k + 1) - (k + 1))).flatMap blc) :: imi (0 < R.length) gA12 (.cells kA14 eA15 zA16) :: blk b (.cells #[.slice pp10 R.length cc11] 43 (0, 0)) :: Im 1 (.slice pp10 R.length cc11) R.length (R.flatMap blc) :: (F.set i emp)) := Im.cut_l blc_len (2 * k + 1) H36 (i := 3) rfl (by omega)
              refine r_cons (s_nilCheck (.pointer (some ⟨b, 0, none⟩)) rfl ⟨_, rfl⟩ rfl ?_)
              refine r_cons (s_fieldAddr 43 0 0 0 23 rfl fi_43_0 rfl rfl ?_)
              refine r_cons (s_store H51 3 (.slice (cutAt pp10 (2 * k + 1) cc11 1) (R.length - (2 * k + 1)) (cc11 - (2 * k + 1))) rfl rfl rfl sz_23 rfl (Nat.le_of_ble_eq_true rfl) rfl (cs' := #[.slice (cutAt pp10 (2 * k + 1) cc11 1) (R.length - (2 * k + 1)) (cc11 - (2 * k + 1))]) rfl ?_); intro w52 H53
              refine r_nil ?_
              refine g_seq ?_
              refine g_seq ?_
              refine g_region ?_
              refine r_cons (s_move (.int .i64 (k : Int)) rfl rfl ?_)
              refine r_cons (s_eql false rfl rfl (dfalse (by omega)) rfl ?_)
              refine r_nil ?_
              refine g_false rfl ?_
              refine g_skip ?_
              refine g_seq ?_
              refine g_region ?_
              refine r_cons (s_move (.int .i64 (k : Int)) rfl rfl ?_)
              have hpw := pow_le63 (k := k) (by omega)
              have hq : 0 < 2 ^ k := Nat.pow_pos (by decide)
              refine r_cons (s_shl ((2 ^ k : Nat) : Int) rfl rfl (by omega) (shl_one rfl (by omega)) rfl ?_)
              refine r_cons (s_move (.int .u64 (valOf ((R.drop (k + 1)).take ((2 * k + 1) - (k + 1))) : Int)) rfl rfl ?_)
              refine r_cons (s_add ((2 ^ k + valOf ((R.drop (k + 1)).take (2 * k + 1 - (k + 1))) : Nat) : Int) rfl rfl ((wu64 (by generalize 2 ^ k = q at *; omega)).trans (by generalize 2 ^ k = q at *; omega)) rfl ?_)
              refine r_cons (s_sub ((2 ^ k + valOf ((R.drop (k + 1)).take (2 * k + 1 - (k + 1))) - 1 : Nat) : Int) rfl rfl ((wu64 (by generalize 2 ^ k = q at *; omega)).trans (by generalize 2 ^ k = q at *; omega)) rfl ?_)
              refine r_cons (s_assign (.int .u64 ((2 ^ k + valOf ((R.drop (k + 1)).take (2 * k + 1 - (k + 1))) - 1 : Nat) : Int)) rfl rfl ?_)
              refine r_cons (s_assign (.int .i64 0) rfl rfl ?_)
              refine r_nil ?_
              refine g_ret' [.int .u64 ((2 ^ k + valOf ((R.drop (k + 1)).take (2 * k + 1 - (k + 1))) - 1 : Nat) : Int), .int .i64 0] Try.func41 Try.results41 ⟨rfl, rfl, trivial⟩ ?_
              have H54 : St W w52 (blk b (.cells #[.slice (cutAt pp10 (2 * k + 1) cc11 1) (R.length - (2 * k + 1)) (cc11 - (2 * k + 1))] 43 (0, 0)) :: Im 1 (.slice (cutAt pp10 (2 * k + 1) cc11 1) (R.length - (2 * k + 1)) (cc11 - (2 * k + 1))) (R.length - (2 * k + 1)) ((R.drop (2 * k + 1)).flatMap blc) :: Im 1 (.slice (cutAt pp10 (k + 1) cc11 1) ((2 * k + 1) - (k + 1)) (cc11 - (k + 1))) ((2 * k + 1) - (k + 1)) (((R.drop (k + 1)).take ((2 * k + 1) - (k + 1))).flatMap blc) :: Im 1 (.slice pp10 R.length cc11) R.length (R.flatMap blc) :: (F.set i emp)) := (((((H53.move 4 rfl).move 2 rfl).move 2 rfl).move 4 rfl).drop 4 rfl)
              have H55 : St W w52 (blk b (.cells #[.slice (cutAt pp10 (2 * k + 1) cc11 1) (R.length - (2 * k + 1)) (cc11 - (2 * k + 1))] 43 (0, 0)) :: Im 1 (.slice (cutAt pp10 (2 * k + 1) cc11 1) (R.length - (2 * k + 1)) (cc11 - (2 * k + 1))) ((R.drop (2 * k + 1)).length) ((R.drop (2 * k + 1)).flatMap blc) :: Im 1 (.slice (cutAt pp10 (k + 1) cc11 1) ((2 * k + 1) - (k + 1)) (cc11 - (k + 1))) ((2 * k + 1) - (k + 1)) (((R.drop (k + 1)).take ((2 * k + 1) - (k + 1))).flatMap blc) :: Im 1 (.slice pp10 R.length cc11) R.length (R.flatMap blc) :: (F.set i emp)) := by rw [show (R.drop (2 * k + 1)).length = R.length - (2 * k + 1) from by simp only [List.length_drop, List.length_take]; (try omega)]; exact H54
              have H56 : St W w52 (RSrc b (R.drop (2 * k + 1)) :: Im 1 (.slice (cutAt pp10 (k + 1) cc11 1) ((2 * k + 1) - (k + 1)) (cc11 - (k + 1))) ((2 * k + 1) - (k + 1)) (((R.drop (k + 1)).take ((2 * k + 1) - (k + 1))).flatMap blc) :: Im 1 (.slice pp10 R.length cc11) R.length (R.flatMap blc) :: (F.set i emp)) := St.shut_ex (.slice (cutAt pp10 (2 * k + 1) cc11 1) (R.length - (2 * k + 1)) (cc11 - (2 * k + 1))) (St.shut_star (ls := [blk b (.cells #[.slice (cutAt pp10 (2 * k + 1) cc11 1) (R.length - (2 * k + 1)) (cc11 - (2 * k + 1))] 43 (0, 0)), Im 1 (.slice (cutAt pp10 (2 * k + 1) cc11 1) (R.length - (2 * k + 1)) (cc11 - (2 * k + 1))) ((R.drop (2 * k + 1)).length) ((R.drop (2 * k + 1)).flatMap blc)]) H55)
              have H57 : St W w52 (RSrc b (R.drop (2 * k + 1)) :: (F.set i emp)) := ((H56.drop 1 rfl).drop 1 rfl)
              have hE : natE R = 0 := natE_0 (by omega) (by omega) (by rw [← hlow]; omega)
              have hN : natN R = 2 * k + 1 := by rw [natN_0 hE]; omega
              have hv : (natU R : Int) = ((2 ^ k + valOf ((R.drop (k + 1)).take (2 * k + 1 - (k + 1))) - 1 : Nat) : Int) := by rw [natU_is hE (by omega), ← hlow, hzz]; congr 1; omega
              exact ⟨by rw [hE, hv]; rfl, by rw [hN]; exact St.back hi H57⟩
      · skip
        refine s_lss false rfl rfl (dfalse hc24) rfl ?_
        refine r_cons (s_pick_t (.bool false) rfl rfl rfl ?_)
        refine r_cons (s_move (.bool false) rfl rfl ?_)
        refine r_cons (r_pass rfl rfl rfl rfl rfl ?_)
        refine r_cons (r_pass rfl rfl rfl rfl rfl ?_)
        refine r_cons (r_pass rfl rfl rfl rfl rfl ?_)
        refine r_cons (r_pass rfl rfl rfl rfl rfl ?_)
        refine r_cons (r_pass rfl rfl rfl rfl rfl ?_)
        refine r_cons (r_pass rfl rfl rfl rfl rfl ?_)
        refine r_cons (r_pass rfl rfl rfl rfl rfl ?_)
        refine r_cons (r_pass rfl rfl rfl rfl rfl ?_)
        refine r_cons (s_pick_f (.bool false) rfl rfl rfl ?_)
        refine r_nil ?_
        refine g_false rfl ?_
        refine g_exit (by rfl) ?_
        refine g_seq ?_
        refine g_seq ?_
        refine g_region ?_
        refine r_cons (s_move (.int .i64 (k : Int)) rfl rfl ?_)
        have hzz : zeros R = k := zeros_is hk hkr hz (by first | (left; omega) | (right; left; omega) | (right; right; simpa using hz))
        clear hz
        by_cases hc58 : (k : Int) = 65
        · skip
          refine r_cons (s_eql true rfl rfl (dtrue hc58) rfl ?_)
          refine r_nil ?_
          refine g_true rfl ?_
          refine g_seq ?_
          refine g_region ?_
          refine r_cons (s_assign (.int .u64 0) rfl rfl ?_)
          refine r_cons (s_assign (.int .i64 11) rfl rfl ?_)
          refine r_nil ?_
          refine g_ret' [.int .u64 0, .int .i64 11] Try.func41 Try.results41 ⟨rfl, rfl, trivial⟩ ?_
          have H59 : St W w3 (blk b (.cells #[.slice pp10 R.length cc11] 43 (0, 0)) :: Im 1 (.slice pp10 R.length cc11) R.length (R.flatMap blc) :: (F.set i emp)) := (((H22.move 2 rfl).move 2 rfl).drop 2 rfl)
          have H60 : St W w3 (RSrc b R :: (F.set i emp)) := St.shut_ex (.slice pp10 R.length cc11) (St.shut_star (ls := [blk b (.cells #[.slice pp10 R.length cc11] 43 (0, 0)), Im 1 (.slice pp10 R.length cc11) R.length (R.flatMap blc)]) H59)
          have H61 : St W w3 (RSrc b R :: (F.set i emp)) := H60
          have hE : natE R = 11 := by first | exact natE_65 (by omega) | exact natE_11 (by omega) (by omega) (by rw [← hlow]; omega)
          have hE0 : ¬ natE R = 0 := by rw [hE]; decide
          exact ⟨by rw [natU_no hE0, hE]; rfl, by rw [natN_no hE0, List.drop_zero]; exact St.back hi H61⟩
        · skip
          refine r_cons (s_eql false rfl rfl (dfalse hc58) rfl ?_)
          refine r_nil ?_
          refine g_false rfl ?_
          refine g_skip ?_
          refine g_seq ?_
          refine g_seq ?_
          refine g_region ?_
          refine r_cons (s_move (.int .i64 (k : Int)) rfl rfl ?_)
          refine r_cons (s_mul ((2 * k : Nat) : Int) rfl rfl ((wi64 (by omega)).trans (by omega)) rfl ?_)
          refine r_cons (s_add (((2 * k : Nat) : Int) + 1) rfl rfl (wi64 (by omega)) rfl ?_)
          refine r_cons (s_move (.pointer (some ⟨b, 0, none⟩)) rfl rfl ?_)
          refine r_cons (s_nilCheck (.pointer (some ⟨b, 0, none⟩)) rfl ⟨_, rfl⟩ rfl ?_)
          refine r_cons (s_fieldAddr 43 0 0 0 23 rfl fi_43_0 rfl rfl ?_)
          refine r_cons (s_load (.slice pp10 R.length cc11) ag_23 rfl (H22.blk_at (i := 1) rfl) rfl rfl ?_)
          refine r_cons (s_len R.length rfl ⟨_, un_23⟩ rfl ?_)
          by_cases hc62 : (R.length : Int) < ((2 * k : Nat) : Int) + 1
          · skip
            refine r_cons (s_gtr true rfl rfl (dtrue hc62) rfl ?_)
            refine r_nil ?_
            refine g_true rfl ?_
            refine g_seq ?_
            refine g_region ?_
            refine r_cons (s_assign (.int .u64 0) rfl rfl ?_)
            refine r_cons (s_assign (.int .i64 10) rfl rfl ?_)
            refine r_nil ?_
            refine g_ret' [.int .u64 0, .int .i64 10] Try.func41 Try.results41 ⟨rfl, rfl, trivial⟩ ?_
            have H63 : St W w3 (blk b (.cells #[.slice pp10 R.length cc11] 43 (0, 0)) :: Im 1 (.slice pp10 R.length cc11) R.length (R.flatMap blc) :: (F.set i emp)) := (((H22.move 2 rfl).move 2 rfl).drop 2 rfl)
            have H64 : St W w3 (RSrc b R :: (F.set i emp)) := St.shut_ex (.slice pp10 R.length cc11) (St.shut_star (ls := [blk b (.cells #[.slice pp10 R.length cc11] 43 (0, 0)), Im 1 (.slice pp10 R.length cc11) R.length (R.flatMap blc)]) H63)
            have H65 : St W w3 (RSrc b R :: (F.set i emp)) := H64
            have hE : natE R = 10 := natE_10 (by omega) (by omega)
            have hE0 : ¬ natE R = 0 := by rw [hE]; decide
            exact ⟨by rw [natU_no hE0, hE]; rfl, by rw [natN_no hE0, List.drop_zero]; exact St.back hi H65⟩
          · skip
            refine r_cons (s_gtr false rfl rfl (dfalse hc62) rfl ?_)
            refine r_nil ?_
            refine g_false rfl ?_
            refine g_skip ?_
            refine g_seq ?_
            refine g_region ?_
            refine r_cons (s_move (.pointer (some ⟨b, 0, none⟩)) rfl rfl ?_)
            refine r_cons (s_nilCheck (.pointer (some ⟨b, 0, none⟩)) rfl ⟨_, rfl⟩ rfl ?_)
            refine r_cons (s_fieldAddr 43 0 0 0 23 rfl fi_43_0 rfl rfl ?_)
            refine r_cons (s_load (.slice pp10 R.length cc11) ag_23 rfl (H22.blk_at (i := 1) rfl) rfl rfl ?_)
            refine r_cons (s_move (.int .i64 (k : Int)) rfl rfl ?_)
            refine r_cons (s_add ((k : Int) + 1) rfl rfl (wi64 (by omega)) rfl ?_)
            refine r_cons (s_move (.int .i64 (k : Int)) rfl rfl ?_)
            refine r_cons (s_mul ((2 * k : Nat) : Int) rfl rfl ((wi64 (by omega)).trans (by omega)) rfl ?_)
            refine r_cons (s_add (((2 * k : Nat) : Int) + 1) rfl rfl (wi64 (by omega)) rfl ?_)
            have hc66 := Im.cap H22 (i := 2) rfl
            refine r_cons (s_slice pp10 ((k : Int) + 1) (((2 * k : Nat) : Int) + 1) 1 (.slice (cutAt pp10 (k + 1) cc11 1) ((2 * k + 1) - (k + 1)) (cc11 - (k + 1))) rfl rfl rfl el_23 (by omega) (by first | rfl | (congr 1; omega)) rfl ?_)
            have H67 : St W w3 (Im 1 (.slice (cutAt pp10 (k + 1) cc11 1) ((2 * k + 1) - (k + 1)) (cc11 - (k + 1))) ((2 * k + 1) - (k + 1)) (((R.drop (k + 1)).take ((2 * k + 1) - (k + 1))).flatMap blc) :: imi (0 < R.length) gA12 (.cells kA14 eA15 zA16) :: blk b (.cells #[.slice pp10 R.length cc11] 43 (0, 0)) :: Im 1 (.slice pp10 R.length cc11) R.length (R.flatMap blc) :: (F.set i emp)) := Im.cut blc_len (k + 1) (2 * k + 1) H22 (i := 2) rfl (by omega) (by omega)
            refine r_cons (s_call [.slice (cutAt pp10 (k + 1) cc11 1) ((2 * k + 1) - (k + 1)) (cc11 - (k + 1))] pl_52 rfl rfl (ref01_value _ _ ((R.drop (k + 1)).take ((2 * k + 1) - (k + 1))) (by first | rfl | (simp only [List.length_take, List.length_drop]; omega)) (by omega) (j := 0) rfl H67) ?_)
            rintro _ w68 ⟨rfl, H69⟩
            refine r_cons (s_assign (.int .u64 (valOf ((R.drop (k + 1)).take ((2 * k + 1) - (k + 1))) : Int)) rfl rfl ?_)
            refine r_nil ?_
            refine g_seq ?_
            refine g_seq ?_
            refine g_region ?_
            have hlow : valOf ((R.drop (k + 1)).take (2 * k + 1 - (k + 1))) = valOf ((R.drop (zeros R + 1)).take (zeros R)) := by rw [hzz]; congr 2; omega
            have hlt : valOf ((R.drop (k + 1)).take (2 * k + 1 - (k + 1))) < 2 ^ k := by rw [hlow, hzz]; exact valOf_take_lt _ _
            refine r_cons (s_move (.int .i64 (k : Int)) rfl rfl ?_)
            refine r_cons (s_eql false rfl rfl (dfalse (by omega)) rfl ?_)
            refine r_cons (s_move (.bool false) rfl rfl ?_)
            refine r_cons (r_pass rfl rfl rfl rfl rfl ?_)
            refine r_cons (r_pass rfl rfl rfl rfl rfl ?_)
            refine r_cons (s_pick_f (.bool false) rfl rfl rfl ?_)
            refine r_nil ?_
            refine g_false rfl ?_
            refine g_skip ?_
            refine g_seq ?_
            refine g_region ?_
            refine r_cons (s_move (.pointer (some ⟨b, 0, none⟩)) rfl rfl ?_)
            refine r_cons (s_move (.pointer (some ⟨b, 0, none⟩)) rfl rfl ?_)
            refine r_cons (s_nilCheck (.pointer (some ⟨b, 0, none⟩)) rfl ⟨_, rfl⟩ rfl ?_)
            refine r_cons (s_fieldAddr 43 0 0 0 23 rfl fi_43_0 rfl rfl ?_)
            refine r_cons (s_load (.slice pp10 R.length cc11) ag_23 rfl (H69.blk_at (i := 2) rfl) rfl rfl ?_)
            refine r_cons (s_move (.int .i64 (k : Int)) rfl rfl ?_)
            refine r_cons (s_mul ((2 * k : Nat) : Int) rfl rfl ((wi64 (by omega)).trans (by omega)) rfl ?_)
            refine r_cons (s_add (((2 * k : Nat) : Int) + 1) rfl rfl (wi64 (by omega)) rfl ?_)
            have hc70 := Im.cap H69 (i := 3) rfl
            refine r_cons (s_slice_l pp10 (((2 * k : Nat) : Int) + 1) 1 (.slice (cutAt pp10 (2 * k + 1) cc11 1) (R.length - (2 * k + 1)) (cc11 - (2 * k + 1))) rfl rfl el_23 (by omega) (by first | rfl | (congr 1; omega)) rfl ?_)
            have H71 : St W w68 (Im 1 (.slice (cutAt pp10 (2 * k + 1) cc11 1) (R.length - (2 * k + 1)) (cc11 - (2 * k + 1))) (R.length - (2 * k + 1)) ((R.drop (2 * k + 1)).flatMap blc) :: Im 1 (.slice (cutAt pp10 (k + 1) cc11 1) ((2 * k + 1) - (k + 1)) (cc11 - (k + 1))) ((2 * k + 1) - (k + 1)) (((R.drop (k + 1)).take ((2 * k + 1) - (k + 1))).flatMap blc) :: imi (0 < R.length) gA12 (.cells kA14 eA15 zA16) :: blk b (.cells #[.slice pp10 R.length cc11] 43 (0, 0)) :: Im 1 (.slice pp10 R.length cc11) R.length (R.flatMap blc) :: (F.set i emp)) := Im.cut_l blc_len (2 * k + 1) H69 (i := 3) rfl (by omega)
            refine r_cons (s_nilCheck (.pointer (some ⟨b, 0, none⟩)) rfl ⟨_, rfl⟩ rfl ?_)
            refine r_cons (s_fieldAddr 43 0 0 0 23 rfl fi_43_0 rfl rfl ?_)
            refine r_cons (s_store H71 3 (.slice (cutAt pp10 (2 * k + 1) cc11 1) (R.length - (2 * k + 1)) (cc11 - (2 * k + 1))) rfl rfl rfl sz_23 rfl (Nat.le_of_ble_eq_true rfl) rfl (cs' := #[.slice (cutAt pp10 (2 * k + 1) cc11 1) (R.length - (2 * k + 1)) (cc11 - (2 * k + 1))]) rfl ?_); intro w72 H73
            refine r_nil ?_
            refine g_seq ?_
            refine g_seq ?_
            refine g_region ?_
            refine r_cons (s_move (.int .i64 (k : Int)) rfl rfl ?_)
            refine r_cons (s_eql false rfl rfl (dfalse (by omega)) rfl ?_)
            refine r_nil ?_
            refine g_false rfl ?_
            refine g_skip ?_
            refine g_seq ?_
            refine g_region ?_
            refine r_cons (s_move (.int .i64 (k : Int)) rfl rfl ?_)
            have hpw := pow_le63 (k := k) (by omega)
            have hq : 0 < 2 ^ k := Nat.pow_pos (by decide)
            refine r_cons (s_shl ((2 ^ k : Nat) : Int) rfl rfl (by omega) (shl_one rfl (by omega)) rfl ?_)
            refine r_cons (s_move (.int .u64 (valOf ((R.drop (k + 1)).take ((2 * k + 1) - (k + 1))) : Int)) rfl rfl ?_)
            refine r_cons (s_add ((2 ^ k + valOf ((R.drop (k + 1)).take (2 * k + 1 - (k + 1))) : Nat) : Int) rfl rfl ((wu64 (by generalize 2 ^ k = q at *; omega)).trans (by generalize 2 ^ k = q at *; omega)) rfl ?_)
            refine r_cons (s_sub ((2 ^ k + valOf ((R.drop (k + 1)).take (2 * k + 1 - (k + 1))) - 1 : Nat) : Int) rfl rfl ((wu64 (by generalize 2 ^ k = q at *; omega)).trans (by generalize 2 ^ k = q at *; omega)) rfl ?_)
            refine r_cons (s_assign (.int .u64 ((2 ^ k + valOf ((R.drop (k + 1)).take (2 * k + 1 - (k + 1))) - 1 : Nat) : Int)) rfl rfl ?_)
            refine r_cons (s_assign (.int .i64 0) rfl rfl ?_)
            refine r_nil ?_
            refine g_ret' [.int .u64 ((2 ^ k + valOf ((R.drop (k + 1)).take (2 * k + 1 - (k + 1))) - 1 : Nat) : Int), .int .i64 0] Try.func41 Try.results41 ⟨rfl, rfl, trivial⟩ ?_
            have H74 : St W w72 (blk b (.cells #[.slice (cutAt pp10 (2 * k + 1) cc11 1) (R.length - (2 * k + 1)) (cc11 - (2 * k + 1))] 43 (0, 0)) :: Im 1 (.slice (cutAt pp10 (2 * k + 1) cc11 1) (R.length - (2 * k + 1)) (cc11 - (2 * k + 1))) (R.length - (2 * k + 1)) ((R.drop (2 * k + 1)).flatMap blc) :: Im 1 (.slice (cutAt pp10 (k + 1) cc11 1) ((2 * k + 1) - (k + 1)) (cc11 - (k + 1))) ((2 * k + 1) - (k + 1)) (((R.drop (k + 1)).take ((2 * k + 1) - (k + 1))).flatMap blc) :: Im 1 (.slice pp10 R.length cc11) R.length (R.flatMap blc) :: (F.set i emp)) := (((((H73.move 4 rfl).move 2 rfl).move 2 rfl).move 4 rfl).drop 4 rfl)
            have H75 : St W w72 (blk b (.cells #[.slice (cutAt pp10 (2 * k + 1) cc11 1) (R.length - (2 * k + 1)) (cc11 - (2 * k + 1))] 43 (0, 0)) :: Im 1 (.slice (cutAt pp10 (2 * k + 1) cc11 1) (R.length - (2 * k + 1)) (cc11 - (2 * k + 1))) ((R.drop (2 * k + 1)).length) ((R.drop (2 * k + 1)).flatMap blc) :: Im 1 (.slice (cutAt pp10 (k + 1) cc11 1) ((2 * k + 1) - (k + 1)) (cc11 - (k + 1))) ((2 * k + 1) - (k + 1)) (((R.drop (k + 1)).take ((2 * k + 1) - (k + 1))).flatMap blc) :: Im 1 (.slice pp10 R.length cc11) R.length (R.flatMap blc) :: (F.set i emp)) := by rw [show (R.drop (2 * k + 1)).length = R.length - (2 * k + 1) from by simp only [List.length_drop, List.length_take]; (try omega)]; exact H74
            have H76 : St W w72 (RSrc b (R.drop (2 * k + 1)) :: Im 1 (.slice (cutAt pp10 (k + 1) cc11 1) ((2 * k + 1) - (k + 1)) (cc11 - (k + 1))) ((2 * k + 1) - (k + 1)) (((R.drop (k + 1)).take ((2 * k + 1) - (k + 1))).flatMap blc) :: Im 1 (.slice pp10 R.length cc11) R.length (R.flatMap blc) :: (F.set i emp)) := St.shut_ex (.slice (cutAt pp10 (2 * k + 1) cc11 1) (R.length - (2 * k + 1)) (cc11 - (2 * k + 1))) (St.shut_star (ls := [blk b (.cells #[.slice (cutAt pp10 (2 * k + 1) cc11 1) (R.length - (2 * k + 1)) (cc11 - (2 * k + 1))] 43 (0, 0)), Im 1 (.slice (cutAt pp10 (2 * k + 1) cc11 1) (R.length - (2 * k + 1)) (cc11 - (2 * k + 1))) ((R.drop (2 * k + 1)).length) ((R.drop (2 * k + 1)).flatMap blc)]) H75)
            have H77 : St W w72 (RSrc b (R.drop (2 * k + 1)) :: (F.set i emp)) := ((H76.drop 1 rfl).drop 1 rfl)
            have hE : natE R = 0 := natE_0 (by omega) (by omega) (by rw [← hlow]; omega)
            have hN : natN R = 2 * k + 1 := by rw [natN_0 hE]; omega
            have hv : (natU R : Int) = ((2 ^ k + valOf ((R.drop (k + 1)).take (2 * k + 1 - (k + 1))) - 1 : Nat) : Int) := by rw [natU_is hE (by omega), ← hlow, hzz]; congr 1; omega
            exact ⟨by rw [hE, hv]; rfl, by rw [hN]; exact St.back hi H77⟩
    · skip
      refine r_cons (s_lss false rfl rfl (dfalse hc23) rfl ?_)
      refine r_cons (s_move (.bool false) rfl rfl ?_)
      refine r_cons (r_pass rfl rfl rfl rfl rfl ?_)
      refine r_cons (r_pass rfl rfl rfl rfl rfl ?_)
      refine r_cons (s_pick_f (.bool false) rfl rfl rfl ?_)
      refine r_cons (s_move (.bool false) rfl rfl ?_)
      refine r_cons (r_pass rfl rfl rfl rfl rfl ?_)
      refine r_cons (r_pass rfl rfl rfl rfl rfl ?_)
      refine r_cons (r_pass rfl rfl rfl rfl rfl ?_)
      refine r_cons (r_pass rfl rfl rfl rfl rfl ?_)
      refine r_cons (r_pass rfl rfl rfl rfl rfl ?_)
      refine r_cons (r_pass rfl rfl rfl rfl rfl ?_)
      refine r_cons (r_pass rfl rfl rfl rfl rfl ?_)
      refine r_cons (r_pass rfl rfl rfl rfl rfl ?_)
      refine r_cons (s_pick_f (.bool false) rfl rfl rfl ?_)
      refine r_nil ?_
      refine g_false rfl ?_
      refine g_exit (by rfl) ?_
      refine g_seq ?_
      refine g_seq ?_
      refine g_region ?_
      refine r_cons (s_move (.int .i64 (k : Int)) rfl rfl ?_)
      have hzz : zeros R = k := zeros_is hk hkr hz (by first | (left; omega) | (right; left; omega) | (right; right; simpa using hz))
      clear hz
      by_cases hc78 : (k : Int) = 65
      · skip
        refine r_cons (s_eql true rfl rfl (dtrue hc78) rfl ?_)
        refine r_nil ?_
        refine g_true rfl ?_
        refine g_seq ?_
        refine g_region ?_
        refine r_cons (s_assign (.int .u64 0) rfl rfl ?_)
        refine r_cons (s_assign (.int .i64 11) rfl rfl ?_)
        refine r_nil ?_
        refine g_ret' [.int .u64 0, .int .i64 11] Try.func41 Try.results41 ⟨rfl, rfl, trivial⟩ ?_
        have H79 : St W w3 (blk b (.cells #[.slice pp10 R.length cc11] 43 (0, 0)) :: Im 1 (.slice pp10 R.length cc11) R.length (R.flatMap blc) :: (F.set i emp)) := (((H22.move 2 rfl).move 2 rfl).drop 2 rfl)
        have H80 : St W w3 (RSrc b R :: (F.set i emp)) := St.shut_ex (.slice pp10 R.length cc11) (St.shut_star (ls := [blk b (.cells #[.slice pp10 R.length cc11] 43 (0, 0)), Im 1 (.slice pp10 R.length cc11) R.length (R.flatMap blc)]) H79)
        have H81 : St W w3 (RSrc b R :: (F.set i emp)) := H80
        have hE : natE R = 11 := by first | exact natE_65 (by omega) | exact natE_11 (by omega) (by omega) (by rw [← hlow]; omega)
        have hE0 : ¬ natE R = 0 := by rw [hE]; decide
        exact ⟨by rw [natU_no hE0, hE]; rfl, by rw [natN_no hE0, List.drop_zero]; exact St.back hi H81⟩
      · skip
        refine r_cons (s_eql false rfl rfl (dfalse hc78) rfl ?_)
        refine r_nil ?_
        refine g_false rfl ?_
        refine g_skip ?_
        refine g_seq ?_
        refine g_seq ?_
        refine g_region ?_
        refine r_cons (s_move (.int .i64 (k : Int)) rfl rfl ?_)
        refine r_cons (s_mul ((2 * k : Nat) : Int) rfl rfl ((wi64 (by omega)).trans (by omega)) rfl ?_)
        refine r_cons (s_add (((2 * k : Nat) : Int) + 1) rfl rfl (wi64 (by omega)) rfl ?_)
        refine r_cons (s_move (.pointer (some ⟨b, 0, none⟩)) rfl rfl ?_)
        refine r_cons (s_nilCheck (.pointer (some ⟨b, 0, none⟩)) rfl ⟨_, rfl⟩ rfl ?_)
        refine r_cons (s_fieldAddr 43 0 0 0 23 rfl fi_43_0 rfl rfl ?_)
        refine r_cons (s_load (.slice pp10 R.length cc11) ag_23 rfl (H22.blk_at (i := 1) rfl) rfl rfl ?_)
        refine r_cons (s_len R.length rfl ⟨_, un_23⟩ rfl ?_)
        by_cases hc82 : (R.length : Int) < ((2 * k : Nat) : Int) + 1
        · skip
          refine r_cons (s_gtr true rfl rfl (dtrue hc82) rfl ?_)
          refine r_nil ?_
          refine g_true rfl ?_
          refine g_seq ?_
          refine g_region ?_
          refine r_cons (s_assign (.int .u64 0) rfl rfl ?_)
          refine r_cons (s_assign (.int .i64 10) rfl rfl ?_)
          refine r_nil ?_
          refine g_ret' [.int .u64 0, .int .i64 10] Try.func41 Try.results41 ⟨rfl, rfl, trivial⟩ ?_
          have H83 : St W w3 (blk b (.cells #[.slice pp10 R.length cc11] 43 (0, 0)) :: Im 1 (.slice pp10 R.length cc11) R.length (R.flatMap blc) :: (F.set i emp)) := (((H22.move 2 rfl).move 2 rfl).drop 2 rfl)
          have H84 : St W w3 (RSrc b R :: (F.set i emp)) := St.shut_ex (.slice pp10 R.length cc11) (St.shut_star (ls := [blk b (.cells #[.slice pp10 R.length cc11] 43 (0, 0)), Im 1 (.slice pp10 R.length cc11) R.length (R.flatMap blc)]) H83)
          have H85 : St W w3 (RSrc b R :: (F.set i emp)) := H84
          have hE : natE R = 10 := natE_10 (by omega) (by omega)
          have hE0 : ¬ natE R = 0 := by rw [hE]; decide
          exact ⟨by rw [natU_no hE0, hE]; rfl, by rw [natN_no hE0, List.drop_zero]; exact St.back hi H85⟩
        · skip
          refine r_cons (s_gtr false rfl rfl (dfalse hc82) rfl ?_)
          refine r_nil ?_
          refine g_false rfl ?_
          refine g_skip ?_
          refine g_seq ?_
          refine g_region ?_
          refine r_cons (s_move (.pointer (some ⟨b, 0, none⟩)) rfl rfl ?_)
          refine r_cons (s_nilCheck (.pointer (some ⟨b, 0, none⟩)) rfl ⟨_, rfl⟩ rfl ?_)
          refine r_cons (s_fieldAddr 43 0 0 0 23 rfl fi_43_0 rfl rfl ?_)
          refine r_cons (s_load (.slice pp10 R.length cc11) ag_23 rfl (H22.blk_at (i := 1) rfl) rfl rfl ?_)
          refine r_cons (s_move (.int .i64 (k : Int)) rfl rfl ?_)
          refine r_cons (s_add ((k : Int) + 1) rfl rfl (wi64 (by omega)) rfl ?_)
          refine r_cons (s_move (.int .i64 (k : Int)) rfl rfl ?_)
          refine r_cons (s_mul ((2 * k : Nat) : Int) rfl rfl ((wi64 (by omega)).trans (by omega)) rfl ?_)
          refine r_cons (s_add (((2 * k : Nat) : Int) + 1) rfl rfl (wi64 (by omega)) rfl ?_)
          have hc86 := Im.cap H22 (i := 2) rfl
          refine r_cons (s_slice pp10 ((k : Int) + 1) (((2 * k : Nat) : Int) + 1) 1 (.slice (cutAt pp10 (k + 1) cc11 1) ((2 * k + 1) - (k + 1)) (cc11 - (k + 1))) rfl rfl rfl el_23 (by omega) (by first | rfl | (congr 1; omega)) rfl ?_)
          have H87 : St W w3 (Im 1 (.slice (cutAt pp10 (k + 1) cc11 1) ((2 * k + 1) - (k + 1)) (cc11 - (k + 1))) ((2 * k + 1) - (k + 1)) (((R.drop (k + 1)).take ((2 * k + 1) - (k + 1))).flatMap blc) :: imi (0 < R.length) gA12 (.cells kA14 eA15 zA16) :: blk b (.cells #[.slice pp10 R.length cc11] 43 (0, 0)) :: Im 1 (.slice pp10 R.length cc11) R.length (R.flatMap blc) :: (F.set i emp)) := Im.cut blc_len (k + 1) (2 * k + 1) H22 (i := 2) rfl (by omega) (by omega)
          refine r_cons (s_call [.slice (cutAt pp10 (k + 1) cc11 1) ((2 * k + 1) - (k + 1)) (cc11 - (k + 1))] pl_52 rfl rfl (ref01_value _ _ ((R.drop (k + 1)).take ((2 * k + 1) - (k + 1))) (by first | rfl | (simp only [List.length_take, List.length_drop]; omega)) (by omega) (j := 0) rfl H87) ?_)
          rintro _ w88 ⟨rfl, H89⟩
          refine r_cons (s_assign (.int .u64 (valOf ((R.drop (k + 1)).take ((2 * k + 1) - (k + 1))) : Int)) rfl rfl ?_)
          refine r_nil ?_
          refine g_seq ?_
          refine g_seq ?_
          refine g_region ?_
          have hlow : valOf ((R.drop (k + 1)).take (2 * k + 1 - (k + 1))) = valOf ((R.drop (zeros R + 1)).take (zeros R)) := by rw [hzz]; congr 2; omega
          have hlt : valOf ((R.drop (k + 1)).take (2 * k + 1 - (k + 1))) < 2 ^ k := by rw [hlow, hzz]; exact valOf_take_lt _ _
          refine r_cons (s_move (.int .i64 (k : Int)) rfl rfl ?_)
          by_cases hc90 : (k : Int) = 64
          · skip
            refine r_cons (s_eql true rfl rfl (dtrue hc90) rfl ?_)
            refine r_cons (s_move (.bool true) rfl rfl ?_)
            refine r_cons (r_take rfl rfl ?_)
            refine s_move (.int .u64 (valOf ((R.drop (k + 1)).take ((2 * k + 1) - (k + 1))) : Int)) rfl rfl ?_
            refine r_cons (r_take rfl rfl ?_)
            by_cases hc91 : (0 : Int) < (valOf ((R.drop (k + 1)).take ((2 * k + 1) - (k + 1))) : Int)
            · skip
              refine s_gtr true rfl rfl (dtrue hc91) rfl ?_
              refine r_cons (s_pick_t (.bool true) rfl rfl rfl ?_)
              refine r_nil ?_
              refine g_true rfl ?_
              refine g_seq ?_
              refine g_region ?_
              refine r_cons (s_assign (.int .u64 0) rfl rfl ?_)
              refine r_cons (s_assign (.int .i64 11) rfl rfl ?_)
              refine r_nil ?_
              refine g_ret' [.int .u64 0, .int .i64 11] Try.func41 Try.results41 ⟨rfl, rfl, trivial⟩ ?_
              have H92 : St W w88 (blk b (.cells #[.slice pp10 R.length cc11] 43 (0, 0)) :: Im 1 (.slice pp10 R.length cc11) R.length (R.flatMap blc) :: Im 1 (.slice (cutAt pp10 (k + 1) cc11 1) ((2 * k + 1) - (k + 1)) (cc11 - (k + 1))) ((2 * k + 1) - (k + 1)) (((R.drop (k + 1)).take ((2 * k + 1) - (k + 1))).flatMap blc) :: (F.set i emp)) := (((H89.move 3 rfl).move 3 rfl).drop 3 rfl)
              have H93 : St W w88 (RSrc b R :: Im 1 (.slice (cutAt pp10 (k + 1) cc11 1) ((2 * k + 1) - (k + 1)) (cc11 - (k + 1))) ((2 * k + 1) - (k + 1)) (((R.drop (k + 1)).take ((2 * k + 1) - (k + 1))).flatMap blc) :: (F.set i emp)) := St.shut_ex (.slice pp10 R.length cc11) (St.shut_star (ls := [blk b (.cells #[.slice pp10 R.length cc11] 43 (0, 0)), Im 1 (.slice pp10 R.length cc11) R.length (R.flatMap blc)]) H92)
              have H94 : St W w88 (RSrc b R :: (F.set i emp)) := (H93.drop 1 rfl)
              have hE : natE R = 11 := by first | exact natE_65 (by omega) | exact natE_11 (by omega) (by omega) (by rw [← hlow]; omega)
              have hE0 : ¬ natE R = 0 := by rw [hE]; decide
              exact ⟨by rw [natU_no hE0, hE]; rfl, by rw [natN_no hE0, List.drop_zero]; exact St.back hi H94⟩
            · skip
              refine s_gtr false rfl rfl (dfalse hc91) rfl ?_
              refine r_cons (s_pick_t (.bool false) rfl rfl rfl ?_)
              refine r_nil ?_
              refine g_false rfl ?_
              refine g_skip ?_
              refine g_seq ?_
              refine g_region ?_
              refine r_cons (s_move (.pointer (some ⟨b, 0, none⟩)) rfl rfl ?_)
              refine r_cons (s_move (.pointer (some ⟨b, 0, none⟩)) rfl rfl ?_)
              refine r_cons (s_nilCheck (.pointer (some ⟨b, 0, none⟩)) rfl ⟨_, rfl⟩ rfl ?_)
              refine r_cons (s_fieldAddr 43 0 0 0 23 rfl fi_43_0 rfl rfl ?_)
              refine r_cons (s_load (.slice pp10 R.length cc11) ag_23 rfl (H89.blk_at (i := 2) rfl) rfl rfl ?_)
              refine r_cons (s_move (.int .i64 (k : Int)) rfl rfl ?_)
              refine r_cons (s_mul ((2 * k : Nat) : Int) rfl rfl ((wi64 (by omega)).trans (by omega)) rfl ?_)
              refine r_cons (s_add (((2 * k : Nat) : Int) + 1) rfl rfl (wi64 (by omega)) rfl ?_)
              have hc95 := Im.cap H89 (i := 3) rfl
              refine r_cons (s_slice_l pp10 (((2 * k : Nat) : Int) + 1) 1 (.slice (cutAt pp10 (2 * k + 1) cc11 1) (R.length - (2 * k + 1)) (cc11 - (2 * k + 1))) rfl rfl el_23 (by omega) (by first | rfl | (congr 1; omega)) rfl ?_)
              have H96 : St W w88 (Im 1 (.slice (cutAt pp10 (2 * k + 1) cc11 1) (R.length - (2 * k + 1)) (cc11 - (2 * k + 1))) (R.length - (2 * k + 1)) ((R.drop (2 * k + 1)).flatMap blc) :: Im 1 (.slice (cutAt pp10 (k + 1) cc11 1) ((2 * k + 1) - (k + 1)) (cc11 - (k + 1))) ((2 * k + 1) - (k + 1)) (((R.drop (k + 1)).take ((2 * k + 1) - (k + 1))).flatMap blc) :: imi (0 < R.length) gA12 (.cells kA14 eA15 zA16) :: blk b (.cells #[.slice pp10 R.length cc11] 43 (0, 0)) :: Im 1 (.slice pp10 R.length cc11) R.length (R.flatMap blc) :: (F.set i emp)) := Im.cut_l blc_len (2 * k + 1) H89 (i := 3) rfl (by omega)
              refine r_cons (s_nilCheck (.pointer (some ⟨b, 0, none⟩)) rfl ⟨_, rfl⟩ rfl ?_)
              refine r_cons (s_fieldAddr 43 0 0 0 23 rfl fi_43_0 rfl rfl ?_)
              refine r_cons (s_store H96 3 (.slice (cutAt pp10 (2 * k + 1) cc11 1) (R.length - (2 * k + 1)) (cc11 - (2 * k + 1))) rfl rfl rfl sz_23 rfl (Nat.le_of_ble_eq_true rfl) rfl (cs' := #[.slice (cutAt pp10 (2 * k + 1) cc11 1) (R.length - (2 * k + 1)) (cc11 - (2 * k + 1))]) rfl ?_); intro w97 H98
              refine r_nil ?_
              refine g_seq ?_
              refine g_seq ?_
              refine g_region ?_
              refine r_cons (s_move (.int .i64 (k : Int)) rfl rfl ?_)
              refine r_cons (s_eql true rfl rfl (dtrue (by omega)) rfl ?_)
              refine r_nil ?_
              refine g_true rfl ?_
              refine g_seq ?_
              refine g_region ?_
              refine r_cons (s_assign (.int .u64 18446744073709551615) rfl rfl ?_)
              refine r_cons (s_assign (.int .i64 0) rfl rfl ?_)
              refine r_nil ?_
              refine g_ret' [.int .u64 18446744073709551615, .int .i64 0] Try.func41 Try.results41 ⟨rfl, rfl, trivial⟩ ?_
              have H99 : St W w97 (blk b (.cells #[.slice (cutAt pp10 (2 * k + 1) cc11 1) (R.length - (2 * k + 1)) (cc11 - (2 * k + 1))] 43 (0, 0)) :: Im 1 (.slice (cutAt pp10 (2 * k + 1) cc11 1) (R.length - (2 * k + 1)) (cc11 - (2 * k + 1))) (R.length - (2 * k + 1)) ((R.drop (2 * k + 1)).flatMap blc) :: Im 1 (.slice (cutAt pp10 (k + 1) cc11 1) ((2 * k + 1) - (k + 1)) (cc11 - (k + 1))) ((2 * k + 1) - (k + 1)) (((R.drop (k + 1)).take ((2 * k + 1) - (k + 1))).flatMap blc) :: Im 1 (.slice pp10 R.length cc11) R.length (R.flatMap blc) :: (F.set i emp)) := (((((H98.move 4 rfl).move 2 rfl).move 2 rfl).move 4 rfl).drop 4 rfl)
              have H100 : St W w97 (blk b (.cells #[.slice (cutAt pp10 (2 * k + 1) cc11 1) (R.length - (2 * k + 1)) (cc11 - (2 * k + 1))] 43 (0, 0)) :: Im 1 (.slice (cutAt pp10 (2 * k + 1) cc11 1) (R.length - (2 * k + 1)) (cc11 - (2 * k + 1))) ((R.drop (2 * k + 1)).length) ((R.drop (2 * k + 1)).flatMap blc) :: Im 1 (.slice (cutAt pp10 (k + 1) cc11 1) ((2 * k + 1) - (k + 1)) (cc11 - (k + 1))) ((2 * k + 1) - (k + 1)) (((R.drop (k + 1)).take ((2 * k + 1) - (k + 1))).flatMap blc) :: Im 1 (.slice pp10 R.length cc11) R.length (R.flatMap blc) :: (F.set i emp)) := by rw [show (R.drop (2 * k + 1)).length = R.length - (2 * k + 1) from by simp only [List.length_drop, List.length_take]; (try omega)]; exact H99
              have H101 : St W w97 (RSrc b (R.drop (2 * k + 1)) :: Im 1 (.slice (cutAt pp10 (k + 1) cc11 1) ((2 * k + 1) - (k + 1)) (cc11 - (k + 1))) ((2 * k + 1) - (k + 1)) (((R.drop (k + 1)).take ((2 * k + 1) - (k + 1))).flatMap blc) :: Im 1 (.slice pp10 R.length cc11) R.length (R.flatMap blc) :: (F.set i emp)) := St.shut_ex (.slice (cutAt pp10 (2 * k + 1) cc11 1) (R.length - (2 * k + 1)) (cc11 - (2 * k + 1))) (St.shut_star (ls := [blk b (.cells #[.slice (cutAt pp10 (2 * k + 1) cc11 1) (R.length - (2 * k + 1)) (cc11 - (2 * k + 1))] 43 (0, 0)), Im 1 (.slice (cutAt pp10 (2 * k + 1) cc11 1) (R.length - (2 * k + 1)) (cc11 - (2 * k + 1))) ((R.drop (2 * k + 1)).length) ((R.drop (2 * k + 1)).flatMap blc)]) H100)
              have H102 : St W w97 (RSrc b (R.drop (2 * k + 1)) :: (F.set i emp)) := ((H101.drop 1 rfl).drop 1 rfl)
              have hE : natE R = 0 := natE_0 (by omega) (by omega) (by rw [← hlow]; omega)
              have hN : natN R = 2 * k + 1 := by rw [natN_0 hE]; omega
              have hv : (natU R : Int) = 18446744073709551615 := by rw [natU_64 hE (by omega)]; rfl
              exact ⟨by rw [hE, hv]; rfl, by rw [hN]; exact St.back hi H102⟩
          · skip
            refine r_cons (s_eql false rfl rfl (dfalse hc90) rfl ?_)
            refine r_cons (s_move (.bool false) rfl rfl ?_)
            refine r_cons (r_pass rfl rfl rfl rfl rfl ?_)
            refine r_cons (r_pass rfl rfl rfl rfl rfl ?_)
            refine r_cons (s_pick_f (.bool false) rfl rfl rfl ?_)
            refine r_nil ?_
            refine g_false rfl ?_
            refine g_skip ?_
            refine g_seq ?_
            refine g_region ?_
            refine r_cons (s_move (.pointer (some ⟨b, 0, none⟩)) rfl rfl ?_)
            refine r_cons (s_move (.pointer (some ⟨b, 0, none⟩)) rfl rfl ?_)
            refine r_cons (s_nilCheck (.pointer (some ⟨b, 0, none⟩)) rfl ⟨_, rfl⟩ rfl ?_)
            refine r_cons (s_fieldAddr 43 0 0 0 23 rfl fi_43_0 rfl rfl ?_)
            refine r_cons (s_load (.slice pp10 R.length cc11) ag_23 rfl (H89.blk_at (i := 2) rfl) rfl rfl ?_)
            refine r_cons (s_move (.int .i64 (k : Int)) rfl rfl ?_)
            refine r_cons (s_mul ((2 * k : Nat) : Int) rfl rfl ((wi64 (by omega)).trans (by omega)) rfl ?_)
            refine r_cons (s_add (((2 * k : Nat) : Int) + 1) rfl rfl (wi64 (by omega)) rfl ?_)
            have hc103 := Im.cap H89 (i := 3) rfl
            refine r_cons (s_slice_l pp10 (((2 * k : Nat) : Int) + 1) 1 (.slice (cutAt pp10 (2 * k + 1) cc11 1) (R.length - (2 * k + 1)) (cc11 - (2 * k + 1))) rfl rfl el_23 (by omega) (by first | rfl | (congr 1; omega)) rfl ?_)
            have H104 : St W w88 (Im 1 (.slice (cutAt pp10 (2 * k + 1) cc11 1) (R.length - (2 * k + 1)) (cc11 - (2 * k + 1))) (R.length - (2 * k + 1)) ((R.drop (2 * k + 1)).flatMap blc) :: Im 1 (.slice (cutAt pp10 (k + 1) cc11 1) ((2 * k + 1) - (k + 1)) (cc11 - (k + 1))) ((2 * k + 1) - (k + 1)) (((R.drop (k + 1)).take ((2 * k + 1) - (k + 1))).flatMap blc) :: imi (0 < R.length) gA12 (.cells kA14 eA15 zA16) :: blk b (.cells #[.slice pp10 R.length cc11] 43 (0, 0)) :: Im 1 (.slice pp10 R.length cc11) R.length (R.flatMap blc) :: (F.set i emp)) := Im.cut_l blc_len (2 * k + 1) H89 (i := 3) rfl (by omega)
            refine r_cons (s_nilCheck (.pointer (some ⟨b, 0, none⟩)) rfl ⟨_, rfl⟩ rfl ?_)
            refine r_cons (s_fieldAddr 43 0 0 0 23 rfl fi_43_0 rfl rfl ?_)
            refine r_cons (s_store H104 3 (.slice (cutAt pp10 (2 * k + 1) cc11 1) (R.length - (2 * k + 1)) (cc11 - (2 * k + 1))) rfl rfl rfl sz_23 rfl (Nat.le_of_ble_eq_true rfl) rfl (cs' := #[.slice (cutAt pp10 (2 * k + 1) cc11 1) (R.length - (2 * k + 1)) (cc11 - (2 * k + 1))]) rfl ?_); intro w105 H106
            refine r_nil ?_
            refine g_seq ?_
            refine g_seq ?_
            refine g_region ?_
            refine r_cons (s_move (.int .i64 (k : Int)) rfl rfl ?_)
            refine r_cons (s_eql false rfl rfl (dfalse (by omega)) rfl ?_)
            refine r_nil ?_
            refine g_false rfl ?_
            refine g_skip ?_
            refine g_seq ?_
            refine g_region ?_
            refine r_cons (s_move (.int .i64 (k : Int)) rfl rfl ?_)
            have hpw := pow_le63 (k := k) (by omega)
            have hq : 0 < 2 ^ k := Nat.pow_pos (by decide)
            refine r_cons (s_shl ((2 ^ k : Nat) : Int) rfl rfl (by omega) (shl_one rfl (by omega)) rfl ?_)
            refine r_cons (s_move (.int .u64 (valOf ((R.drop (k + 1)).take ((2 * k + 1) - (k + 1))) : Int)) rfl rfl ?_)
            refine r_cons (s_add ((2 ^ k + valOf ((R.drop (k + 1)).take (2 * k + 1 - (k + 1))) : Nat) : Int) rfl rfl ((wu64 (by generalize 2 ^ k = q at *; omega)).trans (by generalize 2 ^ k = q at *; omega)) rfl ?_)
            refine r_cons (s_sub ((2 ^ k + valOf ((R.drop (k + 1)).take (2 * k + 1 - (k + 1))) - 1 : Nat) : Int) rfl rfl ((wu64 (by generalize 2 ^ k = q at *; omega)).trans (by generalize 2 ^ k = q at *; omega)) rfl ?_)
            refine r_cons (s_assign (.int .u64 ((2 ^ k + valOf ((R.drop (k + 1)).take (2 * k + 1 - (k + 1))) - 1 : Nat) : Int)) rfl rfl ?_)
            refine r_cons (s_assign (.int .i64 0) rfl rfl ?_)
            refine r_nil ?_
            refine g_ret' [.int .u64 ((2 ^ k + valOf ((R.drop (k + 1)).take (2 * k + 1 - (k + 1))) - 1 : Nat) : Int), .int .i64 0] Try.func41 Try.results41 ⟨rfl, rfl, trivial⟩ ?_
            have H107 : St W w105 (blk b (.cells #[.slice (cutAt pp10 (2 * k + 1) cc11 1) (R.length - (2 * k + 1)) (cc11 - (2 * k + 1))] 43 (0, 0)) :: Im 1 (.slice (cutAt pp10 (2 * k + 1) cc11 1) (R.length - (2 * k + 1)) (cc11 - (2 * k + 1))) (R.length - (2 * k + 1)) ((R.drop (2 * k + 1)).flatMap blc) :: Im 1 (.slice (cutAt pp10 (k + 1) cc11 1) ((2 * k + 1) - (k + 1)) (cc11 - (k + 1))) ((2 * k + 1) - (k + 1)) (((R.drop (k + 1)).take ((2 * k + 1) - (k + 1))).flatMap blc) :: Im 1 (.slice pp10 R.length cc11) R.length (R.flatMap blc) :: (F.set i emp)) := (((((H106.move 4 rfl).move 2 rfl).move 2 rfl).move 4 rfl).drop 4 rfl)
            have H108 : St W w105 (blk b (.cells #[.slice (cutAt pp10 (2 * k + 1) cc11 1) (R.length - (2 * k + 1)) (cc11 - (2 * k + 1))] 43 (0, 0)) :: Im 1 (.slice (cutAt pp10 (2 * k + 1) cc11 1) (R.length - (2 * k + 1)) (cc11 - (2 * k + 1))) ((R.drop (2 * k + 1)).length) ((R.drop (2 * k + 1)).flatMap blc) :: Im 1 (.slice (cutAt pp10 (k + 1) cc11 1) ((2 * k + 1) - (k + 1)) (cc11 - (k + 1))) ((2 * k + 1) - (k + 1)) (((R.drop (k + 1)).take ((2 * k + 1) - (k + 1))).flatMap blc) :: Im 1 (.slice pp10 R.length cc11) R.length (R.flatMap blc) :: (F.set i emp)) := by rw [show (R.drop (2 * k + 1)).length = R.length - (2 * k + 1) from by simp only [List.length_drop, List.length_take]; (try omega)]; exact H107
            have H109 : St W w105 (RSrc b (R.drop (2 * k + 1)) :: Im 1 (.slice (cutAt pp10 (k + 1) cc11 1) ((2 * k + 1) - (k + 1)) (cc11 - (k + 1))) ((2 * k + 1) - (k + 1)) (((R.drop (k + 1)).take ((2 * k + 1) - (k + 1))).flatMap blc) :: Im 1 (.slice pp10 R.length cc11) R.length (R.flatMap blc) :: (F.set i emp)) := St.shut_ex (.slice (cutAt pp10 (2 * k + 1) cc11 1) (R.length - (2 * k + 1)) (cc11 - (2 * k + 1))) (St.shut_star (ls := [blk b (.cells #[.slice (cutAt pp10 (2 * k + 1) cc11 1) (R.length - (2 * k + 1)) (cc11 - (2 * k + 1))] 43 (0, 0)), Im 1 (.slice (cutAt pp10 (2 * k + 1) cc11 1) (R.length - (2 * k + 1)) (cc11 - (2 * k + 1))) ((R.drop (2 * k + 1)).length) ((R.drop (2 * k + 1)).flatMap blc)]) H108)
            have H110 : St W w105 (RSrc b (R.drop (2 * k + 1)) :: (F.set i emp)) := ((H109.drop 1 rfl).drop 1 rfl)
            have hE : natE R = 0 := natE_0 (by omega) (by omega) (by rw [← hlow]; omega)
            have hN : natN R = 2 * k + 1 := by rw [natN_0 hE]; omega
            have hv : (natU R : Int) = ((2 ^ k + valOf ((R.drop (k + 1)).take (2 * k + 1 - (k + 1))) - 1 : Nat) : Int) := by rw [natU_is hE (by omega), ← hlow, hzz]; congr 1; omega
            exact ⟨by rw [hE, hv]; rfl, by rw [hN]; exact St.back hi H110⟩
set_option maxHeartbeats 4000000 in
set_option maxRecDepth 100000 in
theorem RSrc_Num {W w : World} {F : List Atom} (b : Nat) (R : List Bool) {i : Nat} (hi : F[i]? = some (RSrc b R)) (H : St W w F) : Calls Try.prog 42 #[.pointer (some ⟨b, 0, none⟩)] w (Ret fun v w' => v = .tuple #[.int .i64 (zagN (natU R)), .int .i64 (natE R)] ∧ St W w' (F.set i (RSrc b (R.drop (natN R))))) := by
  have H0 := H.front hi
  refine calls_of_go (n := 25) Try.func42 rfl Try.ntmps42 rfl ?_
  refine g_seq ?_
  refine g_region ?_
  refine r_cons (s_assign (.int .i64 0) rfl rfl ?_)
  refine r_cons (s_assign (.int .i64 0) rfl rfl ?_)
  refine r_nil ?_
  refine g_seq ?_
  refine g_region ?_
  refine r_cons (s_move (.pointer (some ⟨b, 0, none⟩)) rfl rfl ?_)
  refine r_cons (s_call [.pointer (some ⟨b, 0, none⟩)] pl_41 rfl rfl (RSrc_Nat b R   (i := 0) rfl H0) ?_)
  rintro _ w1 ⟨rfl, H2⟩
  refine r_cons (s_move (.tuple #[.int .u64 (natU R : Int), .int .i64 (natE R)]) rfl rfl ?_)
  refine r_cons (s_extract (.int .u64 (natU R : Int)) #[.int .u64 (natU R : Int), .int .i64 (natE R)] rfl rfl rfl ?_)
  refine r_cons (s_extract (.int .i64 (natE R)) #[.int .u64 (natU R : Int), .int .i64 (natE R)] rfl rfl rfl ?_)
  refine r_cons (s_assign (.int .u64 (natU R : Int)) rfl rfl ?_)
  refine r_cons (s_assign (.int .i64 (natE R)) rfl rfl ?_)
  refine r_nil ?_
  refine g_seq ?_
  refine g_seq ?_
  refine g_region ?_
  refine r_cons (s_move (.int .i64 (natE R)) rfl rfl ?_)
  by_cases hc3 : natE R = 0
  · skip
    refine r_cons (s_neq false rfl rfl (ntrue hc3) rfl ?_)
    refine r_nil ?_
    refine g_false rfl ?_
    refine g_skip ?_
    refine g_seq ?_
    refine g_seq ?_
    refine g_region ?_
    refine r_cons (s_move (.int .u64 (natU R : Int)) rfl rfl ?_)
    have hlt := natU_lt R
    refine r_cons (s_rem ((natU R : Int) % 2) rfl rfl (by omega) (tmod_pos (by omega)) rfl ?_)
    by_cases hc4 : (natU R : Int) % 2 = 1
    · skip
      refine r_cons (s_eql true rfl rfl (dtrue hc4) rfl ?_)
      refine r_nil ?_
      refine g_true rfl ?_
      refine g_seq ?_
      refine g_region ?_
      refine r_cons (s_move (.int .u64 (natU R : Int)) rfl rfl ?_)
      refine r_cons (s_quo ((natU R : Int) / 2) rfl rfl (by omega) (by rw [tdiv_pos (by omega)]; exact wu64 (by omega)) rfl ?_)
      refine r_cons (s_conv ((natU R : Int) / 2) rfl us_22 ik_2 (wi64 (by omega)) rfl ?_)
      refine r_cons (s_neg (-((natU R : Int) / 2)) rfl (wi64 (by omega)) rfl ?_)
      refine r_cons (s_sub (-((natU R : Int) / 2) - 1) rfl rfl (wi64 (by omega)) rfl ?_)
      refine r_cons (s_assign (.int .i64 (-((natU R : Int) / 2) - 1)) rfl rfl ?_)
      refine r_cons (s_assign (.int .i64 0) rfl rfl ?_)
      refine r_nil ?_
      refine g_ret' [.int .i64 (-((natU R : Int) / 2) - 1), .int .i64 0] Try.func42 Try.results42 ⟨rfl, rfl, trivial⟩ ?_
      have H5 : St W w1 (RSrc b (R.drop (natN R)) :: (F.set i emp)) := H2
      have hz : zagN (natU R) = -((natU R : Int) / 2) - 1 := by unfold zagN; first | (rw [if_pos (by omega)]; done) | (rw [if_neg (by omega)]; done) | (rw [if_pos (by omega)]; omega) | (rw [if_neg (by omega)]; omega)
      have hE : natE R = 0 := by assumption
      exact ⟨by rw [hE, hz]; rfl, St.back hi H5⟩
    · skip
      refine r_cons (s_eql false rfl rfl (dfalse hc4) rfl ?_)
      refine r_nil ?_
      refine g_false rfl ?_
      refine g_skip ?_
      refine g_seq ?_
      refine g_region ?_
      refine r_cons (s_move (.int .u64 (natU R : Int)) rfl rfl ?_)
      refine r_cons (s_quo ((natU R : Int) / 2) rfl rfl (by omega) (by rw [tdiv_pos (by omega)]; exact wu64 (by omega)) rfl ?_)
      refine r_cons (s_conv ((natU R : Int) / 2) rfl us_22 ik_2 (wi64 (by omega)) rfl ?_)
      refine r_cons (s_assign (.int .i64 ((natU R : Int) / 2)) rfl rfl ?_)
      refine r_cons (s_assign (.int .i64 0) rfl rfl ?_)
      refine r_nil ?_
      refine g_ret' [.int .i64 ((natU R : Int) / 2), .int .i64 0] Try.func42 Try.results42 ⟨rfl, rfl, trivial⟩ ?_
      have H6 : St W w1 (RSrc b (R.drop (natN R)) :: (F.set i emp)) := H2
      have hz : zagN (natU R) = (natU R : Int) / 2 := by unfold zagN; first | (rw [if_pos (by omega)]; done) | (rw [if_neg (by omega)]; done) | (rw [if_pos (by omega)]; omega) | (rw [if_neg (by omega)]; omega)
      have hE : natE R = 0 := by assumption
      exact ⟨by rw [hE, hz]; rfl, St.back hi H6⟩
  · skip
    refine r_cons (s_neq true rfl rfl (nfalse hc3) rfl ?_)
    refine r_nil ?_
    refine g_true rfl ?_
    refine g_seq ?_
    refine g_region ?_
    refine r_cons (s_move (.int .i64 (natE R)) rfl rfl ?_)
    refine r_cons (s_assign (.int .i64 0) rfl rfl ?_)
    refine r_cons (s_assign (.int .i64 (natE R)) rfl rfl ?_)
    refine r_nil ?_
    refine g_ret' [.int .i64 0, .int .i64 (natE R)] Try.func42 Try.results42 ⟨rfl, rfl, trivial⟩ ?_
    have H7 : St W w1 (RSrc b (R.drop (natN R)) :: (F.set i emp)) := H2
    have hE : ¬ natE R = 0 := by assumption
    exact ⟨by rw [natU_no hE]; rfl, St.back hi H7⟩
set_option maxHeartbeats 4000000 in
set_option maxRecDepth 100000 in
theorem RSrc_Flag {W w : World} {F : List Atom} (b : Nat) (R : List Bool) {i : Nat} (hi : F[i]? = some (RSrc b R)) (H : St W w F) : Calls Try.prog 44 #[.pointer (some ⟨b, 0, none⟩)] w (Ret fun v w' => v = .tuple #[.bool (decide ((srcU R 1 : Int) = 1)), .int .i64 (srcE R 1)] ∧ St W w' (F.set i (RSrc b (R.drop (srcN R 1))))) := by
  have H0 := H.front hi
  refine calls_of_go (n := 14) Try.func44 rfl Try.ntmps44 rfl ?_
  refine g_seq ?_
  refine g_region ?_
  refine r_cons (s_assign (.bool false) rfl rfl ?_)
  refine r_cons (s_assign (.int .i64 0) rfl rfl ?_)
  refine r_nil ?_
  refine g_seq ?_
  refine g_region ?_
  refine r_cons (s_move (.pointer (some ⟨b, 0, none⟩)) rfl rfl ?_)
  refine r_cons (s_call [.pointer (some ⟨b, 0, none⟩), .int .i64 1] pl_40 rfl rfl (RSrc_Bits b R 1  (i := 0) rfl H0) ?_)
  rintro _ w1 ⟨rfl, H2⟩
  refine r_cons (s_move (.tuple #[.int .u64 (srcU R 1 : Int), .int .i64 (srcE R 1)]) rfl rfl ?_)
  refine r_cons (s_extract (.int .u64 (srcU R 1 : Int)) #[.int .u64 (srcU R 1 : Int), .int .i64 (srcE R 1)] rfl rfl rfl ?_)
  refine r_cons (s_extract (.int .i64 (srcE R 1)) #[.int .u64 (srcU R 1 : Int), .int .i64 (srcE R 1)] rfl rfl rfl ?_)
  refine r_cons (s_assign (.int .u64 (srcU R 1 : Int)) rfl rfl ?_)
  refine r_cons (s_assign (.int .i64 (srcE R 1)) rfl rfl ?_)
  refine r_nil ?_
  refine g_seq ?_
  refine g_region ?_
  refine r_cons (s_move (.int .u64 (srcU R 1 : Int)) rfl rfl ?_)
  refine r_cons (s_eql (decide ((srcU R 1 : Int) = 1)) rfl rfl rfl rfl ?_)
  refine r_cons (s_move (.int .i64 (srcE R 1)) rfl rfl ?_)
  refine r_cons (s_assign (.bool (decide ((srcU R 1 : Int) = 1))) rfl rfl ?_)
  refine r_cons (s_assign (.int .i64 (srcE R 1)) rfl rfl ?_)
  refine r_nil ?_
  refine g_ret' [.bool (decide ((srcU R 1 : Int) = 1)), .int .i64 (srcE R 1)] Try.func44 Try.results44 ⟨rfl, rfl, trivial⟩ ?_
  have H3 : St W w1 (RSrc b (R.drop (srcN R 1)) :: (F.set i emp)) := H2
  exact ⟨rfl, St.back hi H3⟩
set_option maxHeartbeats 4000000 in
set_option maxRecDepth 100000 in
theorem RSrc_End {W w : World} {F : List Atom} (b : Nat) (R : List Bool) {i : Nat} (hi : F[i]? = some (RSrc b R)) (H : St W w F) : Calls Try.prog 19 #[.pointer (some ⟨b, 0, none⟩)] w (Ret fun v w' => v = .int .i64 (endE R) ∧ St W w' F) := by
  have H0 := H.front hi
  refine calls_of_go (n := 26) Try.func19 rfl Try.ntmps19 rfl ?_
  refine g_seq ?_
  refine g_region ?_
  refine r_cons (s_assign (.int .i64 0) rfl rfl ?_)
  refine r_nil ?_
  refine g_seq ?_
  refine g_seq ?_
  refine g_region ?_
  refine r_cons (s_move (.pointer (some ⟨b, 0, none⟩)) rfl rfl ?_)
  refine r_cons (s_nilCheck (.pointer (some ⟨b, 0, none⟩)) rfl ⟨_, rfl⟩ rfl ?_)
  refine r_cons (s_fieldAddr 43 0 0 0 23 rfl fi_43_0 rfl rfl ?_)
  have H1 := H0.move 0 rfl
  obtain ⟨vv2, H3⟩ := St.open_ex H1
  have H4 := St.open_star H3
  obtain ⟨pp5, cc6, gA7, oA8, kA9, eA10, zA11, rfl, hn12, hp13, hx14, hs15, hml, H16⟩ := Im.open_ H4 (i := 1) rfl
  have H17 : St W w (imi (0 < R.length) gA7 (.cells kA9 eA10 zA11) :: blk b (.cells #[.slice pp5 R.length cc6] 43 (0, 0)) :: Im 1 (.slice pp5 R.length cc6) R.length (R.flatMap blc) :: (F.set i emp)) := H16
  refine r_cons (s_load (.slice pp5 R.length cc6) ag_23 rfl (H17.blk_at (i := 1) rfl) rfl rfl ?_)
  refine r_cons (s_len R.length rfl ⟨_, un_23⟩ rfl ?_)
  by_cases hc18 : (7 : Int) < (R.length : Int)
  · skip
    refine r_cons (s_gtr true rfl rfl (dtrue hc18) rfl ?_)
    refine r_nil ?_
    refine g_true rfl ?_
    refine g_seq ?_
    refine g_region ?_
    refine r_cons (s_assign (.int .i64 12) rfl rfl ?_)
    refine r_nil ?_
    refine g_ret' [.int .i64 12] Try.func19 Try.results19 ⟨rfl, trivial⟩ ?_
    have H19 : St W w (blk b (.cells #[.slice pp5 R.length cc6] 43 (0, 0)) :: Im 1 (.slice pp5 R.length cc6) R.length (R.flatMap blc) :: (F.set i emp)) := (((H17.move 2 rfl).move 2 rfl).drop 2 rfl)
    have H20 : St W w (RSrc b R :: (F.set i emp)) := St.shut_ex (.slice pp5 R.length cc6) (St.shut_star (ls := [blk b (.cells #[.slice pp5 R.length cc6] 43 (0, 0)), Im 1 (.slice pp5 R.length cc6) R.length (R.flatMap blc)]) H19)
    have H21 : St W w (RSrc b R :: (F.set i emp)) := H20
    exact ⟨vint (by first | exact (endE_long (by omega)).symm | exact (endE_bit (j := k) (by omega) (by assumption)).symm | exact (endE_0 (by omega) (fun j hj => hz j (by omega))).symm), St.back_same hi H21⟩
  · skip
    refine r_cons (s_gtr false rfl rfl (dfalse hc18) rfl ?_)
    refine r_nil ?_
    refine g_false rfl ?_
    refine g_skip ?_
    refine g_seq ?_
    refine g_seq ?_
    refine g_region ?_
    refine r_cons (s_assign (.int .i64 0) rfl rfl ?_)
    refine r_nil ?_
    refine g_block ?_
    have H22 : St W w (blk b (.cells #[.slice pp5 R.length cc6] 43 (0, 0)) :: Im 1 (.slice pp5 R.length cc6) R.length (R.flatMap blc) :: (F.set i emp)) := (((H17.move 2 rfl).move 2 rfl).drop 2 rfl)
    have H23 : St W w (RSrc b R :: (F.set i emp)) := St.shut_ex (.slice pp5 R.length cc6) (St.shut_star (ls := [blk b (.cells #[.slice pp5 R.length cc6] 43 (0, 0)), Im 1 (.slice pp5 R.length cc6) R.length (R.flatMap blc)]) H22)
    have H24 : St W w (RSrc b R :: (F.set i emp)) := H23
    refine g_loop_inv (fun (x : Nat) => match x with | k => [(0, .pointer (some ⟨b, 0, none⟩)), (2, .int .i64 0), (3, .int .i64 (k : Int))]) (fun (x : Nat) w => match x with | k => (k ≤ R.length) ∧ (∀ j, j < k → R.getD j false = false) ∧ St W w (RSrc b R :: (F.set i emp))) (fun (x : Nat) => match x with | k => R.length - k) (0) ?_ ?_ ?_
    · exact ⟨by first | rfl | exact vint (by omega), by first | rfl | exact vint (by omega), by first | rfl | exact vint (by omega), trivial⟩
    · exact ⟨(by omega), (fun j hj => by omega), H24⟩
    · rintro k ρ25 w26 ⟨hk, hz, H27⟩ nx28
      change Ends _ _ (upds ρ25 [(0, .pointer (some ⟨b, 0, none⟩)), (2, .int .i64 0), (3, .int .i64 (k : Int))]) w26
      refine g_seq ?_
      refine g_seq ?_
      refine g_region ?_
      refine r_cons (s_move (.int .i64 (k : Int)) rfl rfl ?_)
      refine r_cons (s_move (.pointer (some ⟨b, 0, none⟩)) rfl rfl ?_)
      refine r_cons (s_nilCheck (.pointer (some ⟨b, 0, none⟩)) rfl ⟨_, rfl⟩ rfl ?_)
      refine r_cons (s_fieldAddr 43 0 0 0 23 rfl fi_43_0 rfl rfl ?_)
      have H29 := H27.move 0 rfl
      obtain ⟨vv30, H31⟩ := St.open_ex H29
      have H32 := St.open_star H31
      obtain ⟨pp33, cc34, gA35, oA36, kA37, eA38, zA39, rfl, hn40, hp41, hx42, hs43, hml, H44⟩ := Im.open_ H32 (i := 1) rfl
      have H45 : St W w26 (imi (0 < R.length) gA35 (.cells kA37 eA38 zA39) :: blk b (.cells #[.slice pp33 R.length cc34] 43 (0, 0)) :: Im 1 (.slice pp33 R.length cc34) R.length (R.flatMap blc) :: (F.set i emp)) := H44
      refine r_cons (s_load (.slice pp33 R.length cc34) ag_23 rfl (H45.blk_at (i := 1) rfl) rfl rfl ?_)
      refine r_cons (s_len R.length rfl ⟨_, un_23⟩ rfl ?_)
      by_cases hc46 : (k : Int) < (R.length : Int)
      · skip
        refine r_cons (s_lss true rfl rfl (dtrue hc46) rfl ?_)
        refine r_nil ?_
        refine g_true rfl ?_
        refine g_skip ?_
        refine g_seq ?_
        refine g_block ?_
        refine g_seq ?_
        refine g_region ?_
        refine r_cons (s_move (.pointer (some ⟨b, 0, none⟩)) rfl rfl ?_)
        refine r_cons (s_nilCheck (.pointer (some ⟨b, 0, none⟩)) rfl ⟨_, rfl⟩ rfl ?_)
        refine r_cons (s_fieldAddr 43 0 0 0 23 rfl fi_43_0 rfl rfl ?_)
        refine r_cons (s_load (.slice pp33 R.length cc34) ag_23 rfl (H45.blk_at (i := 1) rfl) rfl rfl ?_)
        refine r_cons (s_move (.int .i64 (k : Int)) rfl rfl ?_)
        refine r_cons (s_indexAddr gA35 (off := oA36) (k : Int) 1 (oA36 + k * 1) (by exact congrArg (fun z_ => Value.slice z_ R.length cc34) (hp41 (by omega))) rfl el_23 (by omega) rfl rfl ?_)
        refine r_cons (s_load (.bool (R.getD k false)) ag_4 rfl (H45.imi_at (i := 0) rfl (by omega)) (elem_cell blc_len (hx42 (by omega)) (by omega) false 0 (by decide) _ rfl) rfl ?_)
        refine r_nil ?_
        by_cases hb47 : (R.getD k false) = true
        · skip
          refine g_true (congrArg Value.bool hb47) ?_
          refine g_seq ?_
          refine g_region ?_
          refine r_cons (s_assign (.int .i64 12) rfl rfl ?_)
          refine r_nil ?_
          refine g_ret' [.int .i64 12] Try.func19 Try.results19 ⟨rfl, trivial⟩ ?_
          have H48 : St W w26 (blk b (.cells #[.slice pp33 R.length cc34] 43 (0, 0)) :: Im 1 (.slice pp33 R.length cc34) R.length (R.flatMap blc) :: (F.set i emp)) := (((H45.move 2 rfl).move 2 rfl).drop 2 rfl)
          have H49 : St W w26 (RSrc b R :: (F.set i emp)) := St.shut_ex (.slice pp33 R.length cc34) (St.shut_star (ls := [blk b (.cells #[.slice pp33 R.length cc34] 43 (0, 0)), Im 1 (.slice pp33 R.length cc34) R.length (R.flatMap blc)]) H48)
          have H50 : St W w26 (RSrc b R :: (F.set i emp)) := H49
          exact ⟨vint (by first | exact (endE_long (by omega)).symm | exact (endE_bit (j := k) (by omega) (by assumption)).symm | exact (endE_0 (by omega) (fun j hj => hz j (by omega))).symm), St.back_same hi H50⟩
        · have hb47 := eq_false_of_ne_true hb47
          refine g_false (congrArg Value.bool hb47) ?_
          refine g_skip ?_
          refine g_inBlock ?_
          refine g_region ?_
          refine r_cons (s_move (.int .i64 (k : Int)) rfl rfl ?_)
          refine r_cons (s_add ((k : Int) + 1) rfl rfl (wi64 (by omega)) rfl ?_)
          refine r_cons (s_assign (.int .i64 ((k : Int) + 1)) rfl rfl ?_)
          refine r_nil ?_
          have H51 : St W w26 (blk b (.cells #[.slice pp33 R.length cc34] 43 (0, 0)) :: Im 1 (.slice pp33 R.length cc34) R.length (R.flatMap blc) :: (F.set i emp)) := (((H45.move 2 rfl).move 2 rfl).drop 2 rfl)
          have H52 : St W w26 (RSrc b R :: (F.set i emp)) := St.shut_ex (.slice pp33 R.length cc34) (St.shut_star (ls := [blk b (.cells #[.slice pp33 R.length cc34] 43 (0, 0)), Im 1 (.slice pp33 R.length cc34) R.length (R.flatMap blc)]) H51)
          have H53 : St W w26 (RSrc b R :: (F.set i emp)) := H52
          exact nx28 (k + 1) _ _ ⟨(by omega), (fun j hj => (Nat.lt_or_ge j k).elim (hz j) (fun h => by rw [show j = k from by omega]; exact hb47)), H53⟩ (by first | (dsimp only; omega) | omega) ⟨by first | rfl | exact vint (by omega), by first | rfl | exact vint (by omega), by first | rfl | exact vint (by omega), trivial⟩
      · skip
        refine r_cons (s_lss false rfl rfl (dfalse hc46) rfl ?_)
        refine r_nil ?_
        refine g_false rfl ?_
        refine g_exit (by rfl) ?_
        refine g_seq ?_
        refine g_region ?_
        refine r_cons (s_assign (.int .i64 0) rfl rfl ?_)
        refine r_nil ?_
        refine g_ret' [.int .i64 0] Try.func19 Try.results19 ⟨rfl, trivial⟩ ?_
        have H54 : St W w26 (blk b (.cells #[.slice pp33 R.length cc34] 43 (0, 0)) :: Im 1 (.slice pp33 R.length cc34) R.length (R.flatMap blc) :: (F.set i emp)) := (((H45.move 2 rfl).move 2 rfl).drop 2 rfl)
        have H55 : St W w26 (RSrc b R :: (F.set i emp)) := St.shut_ex (.slice pp33 R.length cc34) (St.shut_star (ls := [blk b (.cells #[.slice pp33 R.length cc34] 43 (0, 0)), Im 1 (.slice pp33 R.length cc34) R.length (R.flatMap blc)]) H54)
        have H56 : St W w26 (RSrc b R :: (F.set i emp)) := H55
        exact ⟨vint (by first | exact (endE_long (by omega)).symm | exact (endE_bit (j := k) (by omega) (by assumption)).symm | exact (endE_0 (by omega) (fun j hj => hz j (by omega))).symm), St.back_same hi H56⟩
set_option maxHeartbeats 4000000 in
set_option maxRecDepth 100000 in
theorem RSrc_Text {W w : World} {F : List Atom} (b : Nat) (R : List Bool) (hRl : R.length ≤ 1125899906842624) {i : Nat} (hi : F[i]? = some (RSrc b R)) (H : St W w F) : Calls Try.prog 43 #[.pointer (some ⟨b, 0, none⟩)] w (Ret fun v w' => v = .tuple #[.string (textS R), .int .i64 (textE R)] ∧ St W w' (F.set i (RSrc b (R.drop (textN R))))) := by
  have H0 := H.front hi
  refine calls_of_go (n := 53) Try.func43 rfl Try.ntmps43 rfl ?_
  refine g_seq ?_
  refine g_region ?_
  refine r_cons (s_assign (.string ByteArray.empty) rfl rfl ?_)
  refine r_cons (s_assign (.int .i64 0) rfl rfl ?_)
  refine r_nil ?_
  refine g_seq ?_
  refine g_region ?_
  refine r_cons (s_move (.pointer (some ⟨b, 0, none⟩)) rfl rfl ?_)
  refine r_cons (s_nilCheck (.pointer (some ⟨b, 0, none⟩)) rfl ⟨_, rfl⟩ rfl ?_)
  refine r_cons (s_fieldAddr 43 0 0 0 23 rfl fi_43_0 rfl rfl ?_)
  have H1 := H0.move 0 rfl
  obtain ⟨vv2, H3⟩ := St.open_ex H1
  have H4 := St.open_star H3
  obtain ⟨pp5, cc6, gA7, oA8, kA9, eA10, zA11, rfl, hn12, hp13, hx14, hs15, hml, H16⟩ := Im.open_ H4 (i := 1) rfl
  have H17 : St W w (imi (0 < R.length) gA7 (.cells kA9 eA10 zA11) :: blk b (.cells #[.slice pp5 R.length cc6] 43 (0, 0)) :: Im 1 (.slice pp5 R.length cc6) R.length (R.flatMap blc) :: (F.set i emp)) := H16
  refine r_cons (s_load (.slice pp5 R.length cc6) ag_23 rfl (H17.blk_at (i := 1) rfl) rfl rfl ?_)
  have H18 : St W w (Im 1 (.slice pp5 R.length cc6) R.length (R.flatMap blc) :: imi (0 < R.length) gA7 (.cells kA9 eA10 zA11) :: blk b (.cells #[.slice pp5 R.length cc6] 43 (0, 0)) :: Im 1 (.slice pp5 R.length cc6) R.length (R.flatMap blc) :: (F.set i emp)) := H17.dup (i := 2) rfl (Im_pers _ _ _ _)
  refine r_cons (s_assign (.slice pp5 R.length cc6) rfl rfl ?_)
  refine r_nil ?_
  refine g_seq ?_
  refine g_region ?_
  refine r_cons (s_move (.pointer (some ⟨b, 0, none⟩)) rfl rfl ?_)
  have H19 : St W w (blk b (.cells #[.slice pp5 R.length cc6] 43 (0, 0)) :: Im 1 (.slice pp5 R.length cc6) R.length (R.flatMap blc) :: Im 1 (.slice pp5 R.length cc6) R.length (R.flatMap blc) :: (F.set i emp)) := ((((H18.move 3 rfl).move 1 rfl).move 3 rfl).drop 3 rfl)
  have H20 : St W w (RSrc b R :: Im 1 (.slice pp5 R.length cc6) R.length (R.flatMap blc) :: (F.set i emp)) := St.shut_ex (.slice pp5 R.length cc6) (St.shut_star (ls := [blk b (.cells #[.slice pp5 R.length cc6] 43 (0, 0)), Im 1 (.slice pp5 R.length cc6) R.length (R.flatMap blc)]) H19)
  refine r_cons (s_call [.pointer (some ⟨b, 0, none⟩)] pl_41 rfl rfl (RSrc_Nat b R   (i := 0) rfl H20) ?_)
  rintro _ w21 ⟨rfl, H22⟩
  refine r_cons (s_move (.tuple #[.int .u64 (natU R : Int), .int .i64 (natE R)]) rfl rfl ?_)
  refine r_cons (s_extract (.int .u64 (natU R : Int)) #[.int .u64 (natU R : Int), .int .i64 (natE R)] rfl rfl rfl ?_)
  refine r_cons (s_extract (.int .i64 (natE R)) #[.int .u64 (natU R : Int), .int .i64 (natE R)] rfl rfl rfl ?_)
  refine r_cons (s_assign (.int .u64 (natU R : Int)) rfl rfl ?_)
  refine r_cons (s_assign (.int .i64 (natE R)) rfl rfl ?_)
  refine r_nil ?_
  refine g_seq ?_
  refine g_seq ?_
  refine g_region ?_
  refine r_cons (s_move (.int .i64 (natE R)) rfl rfl ?_)
  by_cases hc23 : natE R = 0
  · skip
    refine r_cons (s_neq false rfl rfl (ntrue hc23) rfl ?_)
    refine r_nil ?_
    refine g_false rfl ?_
    refine g_skip ?_
    refine g_seq ?_
    refine g_seq ?_
    refine g_region ?_
    refine r_cons (s_move (.int .u64 (natU R : Int)) rfl rfl ?_)
    refine r_cons (s_move (.pointer (some ⟨b, 0, none⟩)) rfl rfl ?_)
    refine r_cons (s_nilCheck (.pointer (some ⟨b, 0, none⟩)) rfl ⟨_, rfl⟩ rfl ?_)
    refine r_cons (s_fieldAddr 43 0 0 0 23 rfl fi_43_0 rfl rfl ?_)
    have H24 := H22.move 0 rfl
    obtain ⟨vv25, H26⟩ := St.open_ex H24
    have H27 := St.open_star H26
    obtain ⟨pp28, cc29, gA30, oA31, kA32, eA33, zA34, rfl, hn35, hp36, hx37, hs38, hml, H39⟩ := Im.open_ H27 (i := 1) rfl
    have H40 : St W w21 (imi (0 < (R.drop (natN R)).length) gA30 (.cells kA32 eA33 zA34) :: blk b (.cells #[.slice pp28 ((R.drop (natN R)).length) cc29] 43 (0, 0)) :: Im 1 (.slice pp28 ((R.drop (natN R)).length) cc29) ((R.drop (natN R)).length) ((R.drop (natN R)).flatMap blc) :: Im 1 (.slice pp5 R.length cc6) R.length (R.flatMap blc) :: (F.set i emp)) := H39
    refine r_cons (s_load (.slice pp28 ((R.drop (natN R)).length) cc29) ag_23 rfl (H40.blk_at (i := 1) rfl) rfl rfl ?_)
    have hL := List.length_drop (i := natN R) (l := R)
    refine r_cons (s_len ((R.drop (natN R)).length) rfl ⟨_, un_23⟩ rfl ?_)
    refine r_cons (s_quo ((((R.drop (natN R)).length) / 8 : Nat) : Int) rfl rfl (by omega) (by rw [tdiv_pos (by omega)]; exact wi64 (by omega)) rfl ?_)
    refine r_cons (s_conv ((((R.drop (natN R)).length) / 8 : Nat) : Int) rfl us_3 ik_22 (wu64 (by omega)) rfl ?_)
    by_cases hc41 : ((((R.drop (natN R)).length) / 8 : Nat) : Int) < (natU R : Int)
    · skip
      refine r_cons (s_gtr true rfl rfl (dtrue hc41) rfl ?_)
      refine r_nil ?_
      refine g_true rfl ?_
      refine g_seq ?_
      refine g_region ?_
      refine r_cons (s_move (.pointer (some ⟨b, 0, none⟩)) rfl rfl ?_)
      refine r_cons (s_move (.slice pp5 R.length cc6) rfl rfl ?_)
      refine r_cons (s_nilCheck (.pointer (some ⟨b, 0, none⟩)) rfl ⟨_, rfl⟩ rfl ?_)
      refine r_cons (s_fieldAddr 43 0 0 0 23 rfl fi_43_0 rfl rfl ?_)
      refine r_cons (s_store H40 1 (.slice pp5 R.length cc6) rfl rfl rfl sz_23 rfl (Nat.le_of_ble_eq_true rfl) rfl (cs' := #[.slice pp5 R.length cc6]) rfl ?_); intro w42 H43
      refine r_nil ?_
      refine g_seq ?_
      refine g_region ?_
      refine r_cons (s_assign (.string ByteArray.empty) rfl rfl ?_)
      refine r_cons (s_assign (.int .i64 10) rfl rfl ?_)
      refine r_nil ?_
      refine g_ret' [.string ByteArray.empty, .int .i64 10] Try.func43 Try.results43 ⟨rfl, rfl, trivial⟩ ?_
      have H44 : St W w42 (blk b (.cells #[.slice pp5 R.length cc6] 43 (0, 0)) :: Im 1 (.slice pp5 R.length cc6) R.length (R.flatMap blc) :: Im 1 (.slice pp28 ((R.drop (natN R)).length) cc29) ((R.drop (natN R)).length) ((R.drop (natN R)).flatMap blc) :: (F.set i emp)) := ((((H43.move 2 rfl).move 3 rfl).move 3 rfl).drop 3 rfl)
      have H45 : St W w42 (RSrc b R :: Im 1 (.slice pp28 ((R.drop (natN R)).length) cc29) ((R.drop (natN R)).length) ((R.drop (natN R)).flatMap blc) :: (F.set i emp)) := St.shut_ex (.slice pp5 R.length cc6) (St.shut_star (ls := [blk b (.cells #[.slice pp5 R.length cc6] 43 (0, 0)), Im 1 (.slice pp5 R.length cc6) R.length (R.flatMap blc)]) H44)
      have H46 : St W w42 (RSrc b R :: (F.set i emp)) := (H45.drop 1 rfl)
      have hT : textE R = 10 := textE_10 (by assumption) (by omega)
      have hT0 : ¬ textE R = 0 := by rw [hT]; first | assumption | decide
      exact ⟨by rw [textS_0 hT0, hT]; rfl, by rw [textN_no hT0, List.drop_zero]; exact St.back hi H46⟩
    · skip
      refine r_cons (s_gtr false rfl rfl (dfalse hc41) rfl ?_)
      refine r_nil ?_
      refine g_false rfl ?_
      refine g_skip ?_
      refine g_seq ?_
      refine g_region ?_
      refine r_cons (s_assign (.slice none 0 0) rfl rfl ?_)
      refine r_nil ?_
      refine g_seq ?_
      refine g_seq ?_
      refine g_region ?_
      refine r_cons (s_assign (.int .u64 0) rfl rfl ?_)
      refine r_nil ?_
      refine g_block ?_
      have H47 : St W w21 (blk b (.cells #[.slice pp28 ((R.drop (natN R)).length) cc29] 43 (0, 0)) :: Im 1 (.slice pp28 ((R.drop (natN R)).length) cc29) ((R.drop (natN R)).length) ((R.drop (natN R)).flatMap blc) :: Im 1 (.slice pp5 R.length cc6) R.length (R.flatMap blc) :: (F.set i emp)) := ((((H40.move 3 rfl).move 3 rfl).move 3 rfl).drop 3 rfl)
      have H48 : St W w21 (RSrc b (R.drop (natN R)) :: Im 1 (.slice pp5 R.length cc6) R.length (R.flatMap blc) :: (F.set i emp)) := St.shut_ex (.slice pp28 ((R.drop (natN R)).length) cc29) (St.shut_star (ls := [blk b (.cells #[.slice pp28 ((R.drop (natN R)).length) cc29] 43 (0, 0)), Im 1 (.slice pp28 ((R.drop (natN R)).length) cc29) ((R.drop (natN R)).length) ((R.drop (natN R)).flatMap blc)]) H47)
      have H49 := Row.nil_intro H48 5 1
      have H50 : St W w21 (Row 5 1 (.slice none 0 0) 0 [] :: RSrc b (R.drop (natN R + 8 * 0)) :: Im 1 (.slice pp5 R.length cc6) R.length (R.flatMap blc) :: (F.set i emp)) := H49
      have H51 : St W w21 (Row 5 1 (.slice none 0 0) 0 [] :: RSrc b (R.drop (natN R + 8 * 0)) :: (F.set i emp)) := (((H50.move 1 rfl).move 1 rfl).drop 2 rfl)
      refine g_loop_inv (fun (x : Nat × (Option Addr) × Nat) => match x with | (j, pq, cq) => [(0, .pointer (some ⟨b, 0, none⟩)), (2, .string ByteArray.empty), (3, .int .i64 0), (5, .int .u64 (natU R : Int)), (7, .slice pq j cq), (8, .int .u64 (j : Int))]) (fun (x : Nat × (Option Addr) × Nat) w => match x with | (j, pq, cq) => (j ≤ natU R) ∧ St W w (Row 5 1 (.slice pq j cq) j (((List.range j).map (byteT R)).flatMap u8c) :: RSrc b (R.drop (natN R + 8 * j)) :: (F.set i emp))) (fun (x : Nat × (Option Addr) × Nat) => match x with | (j, pq, cq) => natU R - j) (0, none, 0) ?_ ?_ ?_
      · exact ⟨by first | rfl | exact vint (by omega), by first | rfl | exact vint (by omega), by first | rfl | exact vint (by omega), by first | rfl | exact vint (by omega), by first | rfl | exact vint (by omega), by first | rfl | exact vint (by omega), trivial⟩
      · exact ⟨(by omega), H51⟩
      · rintro ⟨j, pq, cq⟩ ρ52 w53 ⟨hj, H54⟩ nx55
        change Ends _ _ (upds ρ52 [(0, .pointer (some ⟨b, 0, none⟩)), (2, .string ByteArray.empty), (3, .int .i64 0), (5, .int .u64 (natU R : Int)), (7, .slice pq j cq), (8, .int .u64 (j : Int))]) w53
        refine g_seq ?_
        refine g_seq ?_
        refine g_region ?_
        refine r_cons (s_move (.int .u64 (j : Int)) rfl rfl ?_)
        refine r_cons (s_move (.int .u64 (natU R : Int)) rfl rfl ?_)
        by_cases hc56 : (j : Int) < (natU R : Int)
        · skip
          refine r_cons (s_lss true rfl rfl (dtrue hc56) rfl ?_)
          refine r_nil ?_
          refine g_true rfl ?_
          refine g_skip ?_
          refine g_seq ?_
          refine g_block ?_
          refine g_seq ?_
          refine g_region ?_
          refine r_cons (s_move (.pointer (some ⟨b, 0, none⟩)) rfl rfl ?_)
          have hL3 := List.length_drop (i := natN R + 8 * j) (l := R)
          have hE8 : srcE (R.drop (natN R + 8 * j)) 8 = 0 := srcE_0 (by omega) (by omega)
          have hN8 : srcN (R.drop (natN R + 8 * j)) 8 = 8 := srcN_0 hE8
          have hU8 : srcU (R.drop (natN R + 8 * j)) 8 < 256 := srcU_lt_pow (k := 8)
          have hB8 : byteT R j = UInt8.ofNat (srcU (R.drop (natN R + 8 * j)) 8) := by unfold byteT; rw [srcU_0 hE8]; rfl
          refine r_cons (s_call [.pointer (some ⟨b, 0, none⟩), .int .i64 8] pl_40 rfl rfl (RSrc_Bits b (R.drop (natN R + 8 * j)) 8  (i := 1) rfl H54) ?_)
          rintro _ w57 ⟨rfl, H58⟩
          refine r_cons (s_move (.tuple #[.int .u64 (srcU (R.drop (natN R + 8 * j)) 8 : Int), .int .i64 (srcE (R.drop (natN R + 8 * j)) 8)]) rfl rfl ?_)
          refine r_cons (s_extract (.int .u64 (srcU (R.drop (natN R + 8 * j)) 8 : Int)) #[.int .u64 (srcU (R.drop (natN R + 8 * j)) 8 : Int), .int .i64 (srcE (R.drop (natN R + 8 * j)) 8)] rfl rfl rfl ?_)
          refine r_cons (s_extract (.int .i64 (srcE (R.drop (natN R + 8 * j)) 8)) #[.int .u64 (srcU (R.drop (natN R + 8 * j)) 8 : Int), .int .i64 (srcE (R.drop (natN R + 8 * j)) 8)] rfl rfl rfl ?_)
          refine r_cons (s_assign (.int .u64 (srcU (R.drop (natN R + 8 * j)) 8 : Int)) rfl rfl ?_)
          refine r_cons (s_assign (.int .i64 (srcE (R.drop (natN R + 8 * j)) 8)) rfl rfl ?_)
          refine r_nil ?_
          refine g_region ?_
          refine r_cons (s_move (.slice pq j cq) rfl rfl ?_)
          refine r_cons (s_move (.int .u64 (srcU (R.drop (natN R + 8 * j)) 8 : Int)) rfl rfl ?_)
          refine r_cons (s_conv (srcU (R.drop (natN R + 8 * j)) 8 : Int) rfl us_22 ik_5 (wu8 (by omega)) rfl ?_)
          refine r_cons (s_buildSlice H58 1 1 (cs := #[.int .u8 (srcU (R.drop (natN R + 8 * j)) 8 : Int)]) #[.int .u8 0] el_33 ze_5 (by decide) (by decide) (by kernel_rfl) rfl ?_); intro bk59 w60 H61
          refine r_cons (s_append H61 1 rfl rfl rfl (rd_blk (H61.blk_at (i := 0) rfl) rfl (Nat.le_of_ble_eq_true rfl) (by simp [Value.oneCell'])) ap_33 (by decide) (by unfold maxLen; omega) (by omega) (n' := j + 1) (xs' := ((List.range (j + 1)).map (byteT R)).flatMap u8c) (by omega) (by rw [List.range_succ, List.map_append, List.flatMap_append]; congr 1; show [Value.int .u8 (srcU (R.drop (natN R + 8 * j)) 8 : Int)] = [Value.int .u8 ((byteT R j).toNat : Int)]; rw [hB8, u8_nat hU8]) rfl ?_); intro vv62 w63 H64 hn65
          obtain ⟨pp66, cc67, rfl⟩ := Row.slice H64 (i := 1) rfl
          refine r_cons (s_assign (.slice pp66 (j + 1) cc67) rfl rfl ?_)
          refine r_nil ?_
          refine g_inBlock ?_
          refine g_region ?_
          refine r_cons (s_move (.int .u64 (j : Int)) rfl rfl ?_)
          refine r_cons (s_add ((j : Int) + 1) rfl rfl (wu64 (by omega)) rfl ?_)
          refine r_cons (s_assign (.int .u64 ((j : Int) + 1)) rfl rfl ?_)
          refine r_nil ?_
          have H68 : St W w63 (blk bk59 (.cells #[.int .u8 (srcU (R.drop (natN R + 8 * j)) 8 : Int)] 5 (0, 0)) :: Row 5 1 (.slice pp66 (j + 1) cc67) (j + 1) (((List.range (j + 1)).map (byteT R)).flatMap u8c) :: RSrc b (R.drop (natN R + 8 * (j + 1))) :: (F.set i emp)) := by rw [show R.drop (natN R + 8 * (j + 1)) = (R.drop (natN R + 8 * j)).drop (srcN (R.drop (natN R + 8 * j)) 8) from by rw [hN8, List.drop_drop]; congr 1 <;> omega]; exact H64
          have H69 : St W w63 (Row 5 1 (.slice pp66 (j + 1) cc67) (j + 1) (((List.range (j + 1)).map (byteT R)).flatMap u8c) :: RSrc b (R.drop (natN R + 8 * (j + 1))) :: (F.set i emp)) := (((H68.move 2 rfl).move 2 rfl).drop 2 rfl)
          exact nx55 (j + 1, pp66, cc67) _ _ ⟨(by omega), H69⟩ (by first | (dsimp only; omega) | omega) ⟨by first | rfl | exact vint (by omega), by first | rfl | exact vint (by omega), by first | rfl | exact vint (by omega), by first | rfl | exact vint (by omega), by first | rfl | exact vint (by omega), by first | rfl | exact vint (by omega), trivial⟩
        · skip
          refine r_cons (s_lss false rfl rfl (dfalse hc56) rfl ?_)
          refine r_nil ?_
          refine g_false rfl ?_
          refine g_exit (by rfl) ?_
          refine g_seq ?_
          refine g_region ?_
          refine r_cons (s_move (.slice pq j cq) rfl rfl ?_)
          refine r_cons (s_bytes_str (xs := ((List.range j).map (byteT R))) rfl (by rw [bytesV_flat]; exact (Row.rd H54 (i := 0) rfl)) un_33 un_5 un_9 rfl ?_)
          refine r_cons (s_assign (.string (⟨(((List.range j).map (byteT R))).toArray⟩)) rfl rfl ?_)
          refine r_cons (s_assign (.int .i64 0) rfl rfl ?_)
          refine r_nil ?_
          refine g_ret' [.string (⟨(((List.range j).map (byteT R))).toArray⟩), .int .i64 0] Try.func43 Try.results43 ⟨rfl, rfl, trivial⟩ ?_
          have H70 : St W w53 (RSrc b (R.drop (natN R + 8 * j)) :: (F.set i emp)) := ((H54.move 1 rfl).drop 1 rfl)
          have hT : textE R = 0 := textE_0 (by assumption) (by omega)
          obtain rfl : j = natU R := by omega
          exact ⟨by rw [hT, show textS R = ⟨((List.range (natU R)).map (byteT R)).toArray⟩ from by unfold textS textBytes; rw [if_pos hT]]; rfl, by rw [textN_0 hT]; exact St.back hi H70⟩
  · skip
    refine r_cons (s_neq true rfl rfl (nfalse hc23) rfl ?_)
    refine r_nil ?_
    refine g_true rfl ?_
    refine g_seq ?_
    refine g_region ?_
    refine r_cons (s_move (.int .i64 (natE R)) rfl rfl ?_)
    refine r_cons (s_assign (.string ByteArray.empty) rfl rfl ?_)
    refine r_cons (s_assign (.int .i64 (natE R)) rfl rfl ?_)
    refine r_nil ?_
    refine g_ret' [.string ByteArray.empty, .int .i64 (natE R)] Try.func43 Try.results43 ⟨rfl, rfl, trivial⟩ ?_
    have H71 : St W w21 (RSrc b (R.drop (natN R)) :: (F.set i emp)) := (H22.drop 1 rfl)
    have hT : textE R = natE R := textE_nat (by assumption)
    have hT0 : ¬ textE R = 0 := by rw [hT]; first | assumption | decide
    exact ⟨by rw [textS_0 hT0, hT]; rfl, by rw [textN_no hT0, List.drop_zero]; have hx := H71; rw [natN_no (by assumption), List.drop_zero] at hx; exact St.back hi hx⟩
set_option maxHeartbeats 4000000 in
set_option maxRecDepth 100000 in
theorem RSrc_New {W w : World} {F : List Atom} (bs : List UInt8) (v0 : Value) (hb : bs.length ≤ 17592186044416) {j : Nat} (hj : F[j]? = some (Im 1 v0 bs.length (bs.flatMap u8c))) (H : St W w F) : Calls Try.prog 15 #[v0] w (Ret fun v w' => ∃ k, v = .pointer (some ⟨k, 0, none⟩) ∧ St W w' (RSrc k (bitsOf bs) :: F)) := by
  obtain ⟨pA1, cA2, gA3, oA4, kA5, eA6, zA7, rfl, hn8, hp9, hx10, hs11, hml, H12⟩ := Im.open_ H hj
  refine calls_of_go (n := 28) Try.func15 rfl Try.ntmps15 rfl ?_
  refine g_seq ?_
  refine g_region ?_
  refine r_cons (s_assign (.pointer none) rfl rfl ?_)
  refine r_nil ?_
  refine g_seq ?_
  refine g_region ?_
  refine r_cons (s_build (cs := #[.slice none 0 0]) (by kernel_rfl) rfl ?_)
  refine r_cons (s_box H12 43 (.agg #[.slice none 0 0]) rfl (cs := #[.slice none 0 0]) rfl rfl ?_); intro bk13 w14 H15
  refine r_cons (s_assign (.pointer (some ⟨bk13, 0, none⟩)) rfl rfl ?_)
  refine r_nil ?_
  refine g_seq ?_
  refine g_seq ?_
  refine g_region ?_
  refine r_cons (s_assign (.int .i64 0) rfl rfl ?_)
  refine r_nil ?_
  refine g_block ?_
  have H16 : St W w14 (blk bk13 (.cells #[.slice none 0 0] 43 (0, 0)) :: imi (0 < bs.length) gA3 (.cells kA5 eA6 zA7) :: F) := ((H15.move 1 rfl).move 1 rfl)
  have H17 := Row.nil_intro H16 4 1
  refine g_loop_inv (fun (x : Nat × (Option Addr) × Nat) => match x with | (j, pq, cq) => [(0, .slice pA1 bs.length cA2), (2, .pointer none), (3, .pointer (some ⟨bk13, 0, none⟩)), (4, .int .i64 (j : Int))]) (fun (x : Nat × (Option Addr) × Nat) w => match x with | (j, pq, cq) => (j ≤ bs.length) ∧ St W w (Row 4 1 (.slice pq (8 * j) cq) (8 * j) ((bitsOf (bs.take j)).flatMap blc) :: blk bk13 (.cells #[.slice pq (8 * j) cq] 43 (0, 0)) :: imi (0 < bs.length) gA3 (.cells kA5 eA6 zA7) :: F)) (fun (x : Nat × (Option Addr) × Nat) => match x with | (j, pq, cq) => bs.length - j) (0, none, 0) ?_ ?_ ?_
  · exact ⟨by first | rfl | exact vint (by omega), by first | rfl | exact vint (by omega), by first | rfl | exact vint (by omega), by first | rfl | exact vint (by omega), trivial⟩
  · exact ⟨(by omega), H17⟩
  · rintro ⟨j, pq, cq⟩ ρ18 w19 ⟨hj, H20⟩ nx21
    change Ends _ _ (upds ρ18 [(0, .slice pA1 bs.length cA2), (2, .pointer none), (3, .pointer (some ⟨bk13, 0, none⟩)), (4, .int .i64 (j : Int))]) w19
    have hlt := (bs.getD j 0).toNat_lt
    refine g_seq ?_
    refine g_seq ?_
    refine g_region ?_
    refine r_cons (s_move (.int .i64 (j : Int)) rfl rfl ?_)
    refine r_cons (s_move (.slice pA1 bs.length cA2) rfl rfl ?_)
    refine r_cons (s_len bs.length rfl ⟨_, un_33⟩ rfl ?_)
    by_cases hc22 : (j : Int) < (bs.length : Int)
    · skip
      refine r_cons (s_lss true rfl rfl (dtrue hc22) rfl ?_)
      refine r_nil ?_
      refine g_true rfl ?_
      refine g_skip ?_
      refine g_seq ?_
      refine g_block ?_
      refine g_cut (fun (x : Option Addr × Nat × Option Addr × Nat) => match x with | (pp23, cc24, pp31, cc32) => [(0, .slice pA1 bs.length cA2), (2, .pointer none), (3, .pointer (some ⟨bk13, 0, none⟩)), (4, .int .i64 (j : Int)), (7, .int .i64 (j : Int)), (8, .slice pA1 bs.length cA2), (9, .int .i64 (bs.length : Int)), (10, .bool true), (13, .pointer (some ⟨bk13, 0, none⟩)), (14, .pointer (some ⟨bk13, 0, none⟩)), (15, .pointer (some ⟨bk13, 0, none⟩)), (16, .pointer (some ⟨bk13, 0, none⟩)), (17, .slice pq (8 * j) cq), (18, .slice pA1 bs.length cA2), (19, .int .i64 (j : Int)), (20, .pointer (some ⟨gA3, oA4 + j * 1, none⟩)), (21, .int .u8 ((bs.getD j 0).toNat : Int)), (22, .int .u64 ((bs.getD j 0).toNat : Int)), (23, .slice pp23 8 cc24), (24, .slice pp31 (8 * (j + 1)) cc32), (25, .pointer (some ⟨bk13, 0, none⟩)), (26, .pointer (some ⟨bk13, 0, none⟩))]) (fun (x : Option Addr × Nat × Option Addr × Nat) w => match x with | (pp23, cc24, pp31, cc32) => St W w (Row 4 1 (.slice pp23 8 cc24) 8 ((lowB ((bs.getD j 0).toNat) 8).flatMap blc) :: Row 4 1 (.slice pp31 (8 * (j + 1)) cc32) (8 * (j + 1)) ((bitsOf (bs.take (j + 1))).flatMap blc) :: blk bk13 (.cells #[.slice pp31 (8 * (j + 1)) cc32] 43 (0, 0)) :: imi (0 < bs.length) gA3 (.cells kA5 eA6 zA7) :: F)) ?_ ?_
      · rintro ⟨pp23, cc24, pp31, cc32⟩ ρ26 w24 H25
        change Ends _ _ (upds ρ26 [(0, .slice pA1 bs.length cA2), (2, .pointer none), (3, .pointer (some ⟨bk13, 0, none⟩)), (4, .int .i64 (j : Int)), (7, .int .i64 (j : Int)), (8, .slice pA1 bs.length cA2), (9, .int .i64 (bs.length : Int)), (10, .bool true), (13, .pointer (some ⟨bk13, 0, none⟩)), (14, .pointer (some ⟨bk13, 0, none⟩)), (15, .pointer (some ⟨bk13, 0, none⟩)), (16, .pointer (some ⟨bk13, 0, none⟩)), (17, .slice pq (8 * j) cq), (18, .slice pA1 bs.length cA2), (19, .int .i64 (j : Int)), (20, .pointer (some ⟨gA3, oA4 + j * 1, none⟩)), (21, .int .u8 ((bs.getD j 0).toNat : Int)), (22, .int .u64 ((bs.getD j 0).toNat : Int)), (23, .slice pp23 8 cc24), (24, .slice pp31 (8 * (j + 1)) cc32), (25, .pointer (some ⟨bk13, 0, none⟩)), (26, .pointer (some ⟨bk13, 0, none⟩))]) w24
        refine g_inBlock ?_
        refine g_region ?_
        refine r_cons (s_move (.int .i64 (j : Int)) rfl rfl ?_)
        refine r_cons (s_add ((j : Int) + 1) rfl rfl (wi64 (by omega)) rfl ?_)
        refine r_cons (s_assign (.int .i64 ((j : Int) + 1)) rfl rfl ?_)
        refine r_nil ?_
        have H27 : St W w24 (Row 4 1 (.slice pp31 (8 * (j + 1)) cc32) (8 * (j + 1)) ((bitsOf (bs.take (j + 1))).flatMap blc) :: blk bk13 (.cells #[.slice pp31 (8 * (j + 1)) cc32] 43 (0, 0)) :: imi (0 < bs.length) gA3 (.cells kA5 eA6 zA7) :: F) := ((((H25.move 3 rfl).move 3 rfl).move 3 rfl).drop 3 rfl)
        exact nx21 (j + 1, pp31, cc32) _ _ ⟨(by omega), H27⟩ (by first | (dsimp only; omega) | omega) ⟨by first | rfl | exact vint (by omega), by first | rfl | exact vint (by omega), by first | rfl | exact vint (by omega), by first | rfl | exact vint (by omega), trivial⟩
      · intro join23
        refine g_any mixed 15 rfl ?_
        intro w28 hw29
        have H30 := H20.drew
        rw [← hw29] at H30
        clear hw29
        refine a_take 0 (listed' := #[true, false, false, false, false, false, false, false, false, false, false, false, false, false, false]) rfl (by kernel_rfl) (by kernel_rfl) (by kernel_rfl) rfl rfl rfl rfl (fun w => x_move (.pointer (some ⟨bk13, 0, none⟩)) rfl w) ?_
        refine a_take 1 (listed' := #[true, true, false, false, false, false, false, false, false, false, false, false, false, false, false]) rfl (by kernel_rfl) (by kernel_rfl) (by kernel_rfl) rfl rfl rfl rfl (fun w => x_move (.pointer (some ⟨bk13, 0, none⟩)) rfl w) ?_
        refine a_take 2 (listed' := #[true, true, true, false, false, false, false, false, false, false, false, false, false, false, false]) rfl (by kernel_rfl) (by kernel_rfl) (by kernel_rfl) rfl rfl rfl rfl (fun w => x_nilCheck (.pointer (some ⟨bk13, 0, none⟩)) rfl ⟨_, rfl⟩ w) ?_
        refine a_take 3 (listed' := #[true, true, true, true, false, false, false, false, false, false, false, false, false, false, false]) rfl (by kernel_rfl) (by kernel_rfl) (by kernel_rfl) rfl rfl rfl rfl (fun w => x_fieldAddr 43 0 0 0 23 rfl fi_43_0 rfl w) ?_
        refine a_take 5 (listed' := #[true, true, true, true, false, true, false, false, false, false, false, false, false, false, false]) rfl (by kernel_rfl) (by kernel_rfl) (by kernel_rfl) rfl rfl rfl rfl (fun w => x_move (.slice pA1 bs.length cA2) rfl w) ?_
        refine a_take 6 (listed' := #[true, true, true, true, false, true, true, false, false, false, false, false, false, false, false]) rfl (by kernel_rfl) (by kernel_rfl) (by kernel_rfl) rfl rfl rfl rfl (fun w => x_move (.int .i64 (j : Int)) rfl w) ?_
        refine a_take 7 (listed' := #[true, true, true, true, false, true, true, true, false, false, false, false, false, false, false]) rfl (by kernel_rfl) (by kernel_rfl) (by kernel_rfl) rfl rfl rfl rfl (fun w => x_indexAddr gA3 (off := oA4) (j : Int) 1 (oA4 + j * 1) (by exact congrArg (fun z_ => Value.slice z_ bs.length cA2) (hp9 (by omega))) rfl el_33 (by omega) rfl w) ?_
        refine a_all (rs := [4, 8]) (by kernel_rfl) (by simp) ?_
        refine a_cons ⟨_, rfl, ?_⟩ (a_cons ⟨_, rfl, ?_⟩ (fun x hx => absurd hx (by simp)))
        · skip
          refine s_load (.slice pq (8 * j) cq) ag_23 rfl (H30.blk_at (i := 1) rfl) rfl rfl ?_
          change AnyG _ _ _ _ #[true, true, true, true, true, true, true, true, false, false, false, false, false, false, false] _ _
          refine a_all (rs := [8]) (by kernel_rfl) (by simp) ?_
          refine a_cons ⟨_, rfl, ?_⟩ (fun x hx => absurd hx (by simp))
          refine s_load (.int .u8 ((bs.getD j 0).toNat : Int)) ag_5 rfl (H30.imi_at (i := 2) rfl (by omega)) (elem_cell u8c_len (hx10 (by omega)) (by omega) 0 0 (by decide) _ rfl) rfl ?_
          change AnyG _ _ _ _ #[true, true, true, true, true, true, true, true, true, false, false, false, false, false, false] _ _
          refine a_take 9 (listed' := #[true, true, true, true, true, true, true, true, true, true, false, false, false, false, false]) rfl (by kernel_rfl) (by kernel_rfl) (by kernel_rfl) rfl rfl rfl rfl (fun w => x_conv ((bs.getD j 0).toNat : Int) rfl us_5 ik_22 (wu64 (by omega)) w) ?_
          refine a_all (rs := [10]) (by kernel_rfl) (by simp) ?_
          refine a_cons ⟨_, rfl, ?_⟩ (fun x hx => absurd hx (by simp))
          refine s_call [.int .u64 ((bs.getD j 0).toNat : Int), .int .i64 8] pl_35 rfl rfl (ref01_Low ((bs.getD j 0).toNat) 8 (by omega) (by omega) H30) ?_
          rintro _ w33 ⟨pp31, cc32, rfl, H34⟩
          change AnyG _ _ _ _ #[true, true, true, true, true, true, true, true, true, true, true, false, false, false, false] _ _
          refine a_all (rs := [11]) (by kernel_rfl) (by simp) ?_
          refine a_cons ⟨_, rfl, ?_⟩ (fun x hx => absurd hx (by simp))
          refine s_append H34 1 rfl rfl rfl (Row.rd H34 (i := 0) rfl) ap_23 (by decide) (by unfold maxLen; omega) (by omega) (n' := 8 * (j + 1)) (xs' := (bitsOf (bs.take (j + 1))).flatMap blc) (by omega) (by rw [bitsOf_take (by omega)]; exact List.flatMap_append.symm) rfl ?_; intro vv35 w36 H37 hn38
          obtain ⟨pp39, cc40, rfl⟩ := Row.slice H37 (i := 1) rfl
          change AnyG _ _ _ _ #[true, true, true, true, true, true, true, true, true, true, true, true, false, false, false] _ _
          refine a_take 12 (listed' := #[true, true, true, true, true, true, true, true, true, true, true, true, true, false, false]) rfl (by kernel_rfl) (by kernel_rfl) (by kernel_rfl) rfl rfl rfl rfl (fun w => x_nilCheck (.pointer (some ⟨bk13, 0, none⟩)) rfl ⟨_, rfl⟩ w) ?_
          refine a_take 13 (listed' := #[true, true, true, true, true, true, true, true, true, true, true, true, true, true, false]) rfl (by kernel_rfl) (by kernel_rfl) (by kernel_rfl) rfl rfl rfl rfl (fun w => x_fieldAddr 43 0 0 0 23 rfl fi_43_0 rfl w) ?_
          refine a_all (rs := [14]) (by kernel_rfl) (by simp) ?_
          refine a_cons ⟨_, rfl, ?_⟩ (fun x hx => absurd hx (by simp))
          refine s_store H37 2 (.slice pp39 (8 * (j + 1)) cc40) rfl rfl rfl sz_23 rfl (Nat.le_of_ble_eq_true rfl) rfl (cs' := #[.slice pp39 (8 * (j + 1)) cc40]) rfl ?_; intro w41 H42
          change AnyG _ _ _ _ #[true, true, true, true, true, true, true, true, true, true, true, true, true, true, true] _ _
          refine a_done (by kernel_rfl) ?_
          exact join23 (pp31, cc32, pp39, cc40) _ _ H42 ⟨rfl, rfl, rfl, rfl, rfl, rfl, rfl, rfl, rfl, rfl, rfl, rfl, rfl, rfl, rfl, rfl, rfl, rfl, rfl, rfl, rfl, rfl, trivial⟩
        · skip
          refine s_load (.int .u8 ((bs.getD j 0).toNat : Int)) ag_5 rfl (H30.imi_at (i := 2) rfl (by omega)) (elem_cell u8c_len (hx10 (by omega)) (by omega) 0 0 (by decide) _ rfl) rfl ?_
          change AnyG _ _ _ _ #[true, true, true, true, false, true, true, true, true, false, false, false, false, false, false] _ _
          refine a_take 9 (listed' := #[true, true, true, true, false, true, true, true, true, true, false, false, false, false, false]) rfl (by kernel_rfl) (by kernel_rfl) (by kernel_rfl) rfl rfl rfl rfl (fun w => x_conv ((bs.getD j 0).toNat : Int) rfl us_5 ik_22 (wu64 (by omega)) w) ?_
          refine a_all (rs := [4, 10]) (by kernel_rfl) (by simp) ?_
          refine a_cons ⟨_, rfl, ?_⟩ (a_cons ⟨_, rfl, ?_⟩ (fun x hx => absurd hx (by simp)))
          · skip
            refine s_load (.slice pq (8 * j) cq) ag_23 rfl (H30.blk_at (i := 1) rfl) rfl rfl ?_
            change AnyG _ _ _ _ #[true, true, true, true, true, true, true, true, true, true, false, false, false, false, false] _ _
            refine a_all (rs := [10]) (by kernel_rfl) (by simp) ?_
            refine a_cons ⟨_, rfl, ?_⟩ (fun x hx => absurd hx (by simp))
            refine s_call [.int .u64 ((bs.getD j 0).toNat : Int), .int .i64 8] pl_35 rfl rfl (ref01_Low ((bs.getD j 0).toNat) 8 (by omega) (by omega) H30) ?_
            rintro _ w45 ⟨pp43, cc44, rfl, H46⟩
            change AnyG _ _ _ _ #[true, true, true, true, true, true, true, true, true, true, true, false, false, false, false] _ _
            refine a_all (rs := [11]) (by kernel_rfl) (by simp) ?_
            refine a_cons ⟨_, rfl, ?_⟩ (fun x hx => absurd hx (by simp))
            refine s_append H46 1 rfl rfl rfl (Row.rd H46 (i := 0) rfl) ap_23 (by decide) (by unfold maxLen; omega) (by omega) (n' := 8 * (j + 1)) (xs' := (bitsOf (bs.take (j + 1))).flatMap blc) (by omega) (by rw [bitsOf_take (by omega)]; exact List.flatMap_append.symm) rfl ?_; intro vv47 w48 H49 hn50
            obtain ⟨pp51, cc52, rfl⟩ := Row.slice H49 (i := 1) rfl
            change AnyG _ _ _ _ #[true, true, true, true, true, true, true, true, true, true, true, true, false, false, false] _ _
            refine a_take 12 (listed' := #[true, true, true, true, true, true, true, true, true, true, true, true, true, false, false]) rfl (by kernel_rfl) (by kernel_rfl) (by kernel_rfl) rfl rfl rfl rfl (fun w => x_nilCheck (.pointer (some ⟨bk13, 0, none⟩)) rfl ⟨_, rfl⟩ w) ?_
            refine a_take 13 (listed' := #[true, true, true, true, true, true, true, true, true, true, true, true, true, true, false]) rfl (by kernel_rfl) (by kernel_rfl) (by kernel_rfl) rfl rfl rfl rfl (fun w => x_fieldAddr 43 0 0 0 23 rfl fi_43_0 rfl w) ?_
            refine a_all (rs := [14]) (by kernel_rfl) (by simp) ?_
            refine a_cons ⟨_, rfl, ?_⟩ (fun x hx => absurd hx (by simp))
            refine s_store H49 2 (.slice pp51 (8 * (j + 1)) cc52) rfl rfl rfl sz_23 rfl (Nat.le_of_ble_eq_true rfl) rfl (cs' := #[.slice pp51 (8 * (j + 1)) cc52]) rfl ?_; intro w53 H54
            change AnyG _ _ _ _ #[true, true, true, true, true, true, true, true, true, true, true, true, true, true, true] _ _
            refine a_done (by kernel_rfl) ?_
            exact join23 (pp43, cc44, pp51, cc52) _ _ H54 ⟨rfl, rfl, rfl, rfl, rfl, rfl, rfl, rfl, rfl, rfl, rfl, rfl, rfl, rfl, rfl, rfl, rfl, rfl, rfl, rfl, rfl, rfl, trivial⟩
          · skip
            refine s_call [.int .u64 ((bs.getD j 0).toNat : Int), .int .i64 8] pl_35 rfl rfl (ref01_Low ((bs.getD j 0).toNat) 8 (by omega) (by omega) H30) ?_
            rintro _ w57 ⟨pp55, cc56, rfl, H58⟩
            change AnyG _ _ _ _ #[true, true, true, true, false, true, true, true, true, true, true, false, false, false, false] _ _
            refine a_all (rs := [4]) (by kernel_rfl) (by simp) ?_
            refine a_cons ⟨_, rfl, ?_⟩ (fun x hx => absurd hx (by simp))
            refine s_load (.slice pq (8 * j) cq) ag_23 rfl (H58.blk_at (i := 2) rfl) rfl rfl ?_
            change AnyG _ _ _ _ #[true, true, true, true, true, true, true, true, true, true, true, false, false, false, false] _ _
            refine a_all (rs := [11]) (by kernel_rfl) (by simp) ?_
            refine a_cons ⟨_, rfl, ?_⟩ (fun x hx => absurd hx (by simp))
            refine s_append H58 1 rfl rfl rfl (Row.rd H58 (i := 0) rfl) ap_23 (by decide) (by unfold maxLen; omega) (by omega) (n' := 8 * (j + 1)) (xs' := (bitsOf (bs.take (j + 1))).flatMap blc) (by omega) (by rw [bitsOf_take (by omega)]; exact List.flatMap_append.symm) rfl ?_; intro vv59 w60 H61 hn62
            obtain ⟨pp63, cc64, rfl⟩ := Row.slice H61 (i := 1) rfl
            change AnyG _ _ _ _ #[true, true, true, true, true, true, true, true, true, true, true, true, false, false, false] _ _
            refine a_take 12 (listed' := #[true, true, true, true, true, true, true, true, true, true, true, true, true, false, false]) rfl (by kernel_rfl) (by kernel_rfl) (by kernel_rfl) rfl rfl rfl rfl (fun w => x_nilCheck (.pointer (some ⟨bk13, 0, none⟩)) rfl ⟨_, rfl⟩ w) ?_
            refine a_take 13 (listed' := #[true, true, true, true, true, true, true, true, true, true, true, true, true, true, false]) rfl (by kernel_rfl) (by kernel_rfl) (by kernel_rfl) rfl rfl rfl rfl (fun w => x_fieldAddr 43 0 0 0 23 rfl fi_43_0 rfl w) ?_
            refine a_all (rs := [14]) (by kernel_rfl) (by simp) ?_
            refine a_cons ⟨_, rfl, ?_⟩ (fun x hx => absurd hx (by simp))
            refine s_store H61 2 (.slice pp63 (8 * (j + 1)) cc64) rfl rfl rfl sz_23 rfl (Nat.le_of_ble_eq_true rfl) rfl (cs' := #[.slice pp63 (8 * (j + 1)) cc64]) rfl ?_; intro w65 H66
            change AnyG _ _ _ _ #[true, true, true, true, true, true, true, true, true, true, true, true, true, true, true] _ _
            refine a_done (by kernel_rfl) ?_
            exact join23 (pp55, cc56, pp63, cc64) _ _ H66 ⟨rfl, rfl, rfl, rfl, rfl, rfl, rfl, rfl, rfl, rfl, rfl, rfl, rfl, rfl, rfl, rfl, rfl, rfl, rfl, rfl, rfl, rfl, trivial⟩
    · skip
      refine r_cons (s_lss false rfl rfl (dfalse hc22) rfl ?_)
      refine r_nil ?_
      refine g_false rfl ?_
      refine g_exit (by rfl) ?_
      refine g_seq ?_
      refine g_region ?_
      refine r_cons (s_move (.pointer (some ⟨bk13, 0, none⟩)) rfl rfl ?_)
      refine r_cons (s_assign (.pointer (some ⟨bk13, 0, none⟩)) rfl rfl ?_)
      refine r_nil ?_
      refine g_ret' [.pointer (some ⟨bk13, 0, none⟩)] Try.func15 Try.results15 ⟨rfl, trivial⟩ ?_
      have H67 : St W w19 (blk bk13 (.cells #[.slice pq (8 * j) cq] 43 (0, 0)) :: Row 4 1 (.slice pq (8 * j) cq) (8 * j) ((bitsOf (bs.take j)).flatMap blc) :: F) := ((H20.move 1 rfl).drop 2 rfl)
      have H68 := Row.im H67 (i := 1) rfl
      obtain rfl : j = bs.length := by omega
      have H69 : St W w19 (blk bk13 (.cells #[.slice pq (8 * bs.length) cq] 43 (0, 0)) :: Im 1 (.slice pq (8 * bs.length) cq) (bitsOf (bs.take bs.length)).length ((bitsOf (bs.take bs.length)).flatMap blc) :: F) := by rw [show (bitsOf (bs.take bs.length)).length = 8 * bs.length from by rw [List.take_length, bitsOf_len]]; exact H68
      refine ⟨bk13, rfl, ?_⟩
      have hy : St W w19 (RSrc bk13 (bitsOf (bs.take bs.length)) :: F) := St.shut_ex (.slice pq (8 * bs.length) cq) (St.shut_star (ls := [blk bk13 (.cells #[.slice pq (8 * bs.length) cq] 43 (0, 0)), Im 1 (.slice pq (8 * bs.length) cq) (bitsOf (bs.take bs.length)).length ((bitsOf (bs.take bs.length)).flatMap blc)]) H69)
      rw [List.take_length] at hy
      exact hy
set_option maxHeartbeats 4000000 in
set_option maxRecDepth 100000 in
theorem take01 {W w : World} {F : List Atom} (b k : Nat) (bs : List UInt8) (q : Nat) (hq : q ≤ 8 * bs.length) (hb : bs.length ≤ 17592186044416) (p : PartV) (H : St W w (SrcA b bs q :: RSrc k (remB bs q) :: F)) : Calls Try.prog 16 #[.pointer (some ⟨b, 0, none⟩), .pointer (some ⟨k, 0, none⟩), .agg #[.int .i64 p.kind.v, .int .u64 (p.u.v : Int), .int .i64 p.n.v, .string p.s.v]] w (Ret fun v w' => v = .bool true ∧ ∃ q', q' ≤ 8 * bs.length ∧ St W w' (SrcA b bs q' :: RSrc k (remB bs q') :: F)) := by
  have hlq := remB_len bs q
  have hkl := p.kind.lo
  refine calls_of_go (n := 131) Try.func16 rfl Try.ntmps16 rfl ?_
  refine g_seq ?_
  refine g_region ?_
  refine r_cons (s_box H 40 (.agg #[.int .i64 p.kind.v, .int .u64 (p.u.v : Int), .int .i64 p.n.v, .string p.s.v]) rfl (cs := #[.int .i64 p.kind.v, .int .u64 (p.u.v : Int), .int .i64 p.n.v, .string p.s.v]) rfl rfl ?_); intro bk1 w2 H3
  refine r_cons (s_assign (.bool false) rfl rfl ?_)
  refine r_nil ?_
  refine g_seq ?_
  refine g_seq ?_
  refine g_region ?_
  refine r_cons (s_fieldAddr 40 0 0 0 3 rfl fi_40_0 rfl rfl ?_)
  refine r_cons (s_load (.int .i64 p.kind.v) ag_3 rfl (H3.blk_at (i := 0) rfl) rfl rfl ?_)
  refine r_nil ?_
  refine g_block ?_
  refine g_seq ?_
  refine g_region ?_
  by_cases hc4 : p.kind.v = 0
  · skip
    refine r_cons (s_eql true rfl rfl (dtrue hc4) rfl ?_)
    refine r_cons (s_assign (.bool true) rfl rfl ?_)
    refine r_nil ?_
    refine g_true rfl ?_
    refine g_seq ?_
    refine g_region ?_
    refine r_cons (s_move (.pointer (some ⟨b, 0, none⟩)) rfl rfl ?_)
    refine r_cons (s_fieldAddr 40 2 2 2 3 rfl fi_40_2 rfl rfl ?_)
    refine r_cons (s_load (.int .i64 p.n.v) ag_3 rfl (H3.blk_at (i := 0) rfl) rfl rfl ?_)
    refine r_cons (s_call [.pointer (some ⟨b, 0, none⟩), .int .i64 p.n.v] pl_24 rfl rfl (Src_Bits b bs q (by first | omega | decide +kernel | (repeat (first | assumption | exact Nat.zero_le _ | refine natN_pos ?_ | refine srcN_pos ?_ | refine textN_pos ?_))) (by first | omega | decide +kernel) p.n.v  (i := 1) rfl H3) ?_)
    rintro _ w5 ⟨rfl, H6⟩
    refine r_cons (s_move (.tuple #[.int .u64 (srcU (remB bs q) p.n.v : Int), .int .i64 (srcE (remB bs q) p.n.v)]) rfl rfl ?_)
    refine r_cons (s_extract (.int .u64 (srcU (remB bs q) p.n.v : Int)) #[.int .u64 (srcU (remB bs q) p.n.v : Int), .int .i64 (srcE (remB bs q) p.n.v)] rfl rfl rfl ?_)
    refine r_cons (s_extract (.int .i64 (srcE (remB bs q) p.n.v)) #[.int .u64 (srcU (remB bs q) p.n.v : Int), .int .i64 (srcE (remB bs q) p.n.v)] rfl rfl rfl ?_)
    refine r_cons (s_assign (.int .u64 (srcU (remB bs q) p.n.v : Int)) rfl rfl ?_)
    refine r_cons (s_assign (.int .i64 (srcE (remB bs q) p.n.v)) rfl rfl ?_)
    refine r_nil ?_
    refine g_seq ?_
    refine g_region ?_
    refine r_cons (s_move (.pointer (some ⟨k, 0, none⟩)) rfl rfl ?_)
    refine r_cons (s_fieldAddr 40 2 2 2 3 rfl fi_40_2 rfl rfl ?_)
    refine r_cons (s_load (.int .i64 p.n.v) ag_3 rfl (H6.blk_at (i := 0) rfl) rfl rfl ?_)
    refine r_cons (s_call [.pointer (some ⟨k, 0, none⟩), .int .i64 p.n.v] pl_40 rfl rfl (RSrc_Bits k (remB bs q) p.n.v  (i := 2) rfl H6) ?_)
    rintro _ w7 ⟨rfl, H8⟩
    refine r_cons (s_move (.tuple #[.int .u64 (srcU (remB bs q) p.n.v : Int), .int .i64 (srcE (remB bs q) p.n.v)]) rfl rfl ?_)
    refine r_cons (s_extract (.int .u64 (srcU (remB bs q) p.n.v : Int)) #[.int .u64 (srcU (remB bs q) p.n.v : Int), .int .i64 (srcE (remB bs q) p.n.v)] rfl rfl rfl ?_)
    refine r_cons (s_extract (.int .i64 (srcE (remB bs q) p.n.v)) #[.int .u64 (srcU (remB bs q) p.n.v : Int), .int .i64 (srcE (remB bs q) p.n.v)] rfl rfl rfl ?_)
    refine r_cons (s_assign (.int .u64 (srcU (remB bs q) p.n.v : Int)) rfl rfl ?_)
    refine r_cons (s_assign (.int .i64 (srcE (remB bs q) p.n.v)) rfl rfl ?_)
    refine r_nil ?_
    refine g_seq ?_
    refine g_region ?_
    refine r_cons (s_move (.int .u64 (srcU (remB bs q) p.n.v : Int)) rfl rfl ?_)
    refine r_cons (s_move (.int .u64 (srcU (remB bs q) p.n.v : Int)) rfl rfl ?_)
    refine r_cons (s_eql true rfl rfl (dtrue rfl) rfl ?_)
    refine r_cons (s_move (.bool true) rfl rfl ?_)
    refine r_cons (r_take rfl rfl ?_)
    refine s_move (.int .i64 (srcE (remB bs q) p.n.v)) rfl rfl ?_
    refine r_cons (r_take rfl rfl ?_)
    refine s_move (.int .i64 (srcE (remB bs q) p.n.v)) rfl rfl ?_
    refine r_cons (r_take rfl rfl ?_)
    refine s_eql true rfl rfl (dtrue rfl) rfl ?_
    refine r_cons (s_pick_t (.bool true) rfl rfl rfl ?_)
    refine r_cons (s_assign (.bool true) rfl rfl ?_)
    refine r_nil ?_
    refine g_ret' [.bool true] Try.func16 Try.results16 ⟨rfl, trivial⟩ ?_
    have H9 : St W w7 (SrcA b bs (q + srcN (remB bs q) p.n.v) :: RSrc k ((remB bs q).drop (srcN (remB bs q) p.n.v)) :: F) := (((H8.move 2 rfl).move 2 rfl).drop 2 rfl)
    exact ⟨rfl, q + srcN (remB bs q) p.n.v, srcN_pos hq, by rw [← remB_drop]; exact H9⟩
  · skip
    refine r_cons (s_eql false rfl rfl (dfalse hc4) rfl ?_)
    refine r_cons (s_assign (.bool false) rfl rfl ?_)
    refine r_nil ?_
    refine g_false rfl ?_
    refine g_seq ?_
    refine g_region ?_
    by_cases hc10 : p.kind.v = 1
    · skip
      refine r_cons (s_eql true rfl rfl (dtrue hc10) rfl ?_)
      refine r_cons (s_assign (.bool true) rfl rfl ?_)
      refine r_nil ?_
      refine g_true rfl ?_
      refine g_seq ?_
      refine g_region ?_
      refine r_cons (s_move (.pointer (some ⟨b, 0, none⟩)) rfl rfl ?_)
      refine r_cons (s_call [.pointer (some ⟨b, 0, none⟩)] pl_25 rfl rfl (Src_Nat b bs q (by first | omega | decide +kernel | (repeat (first | assumption | exact Nat.zero_le _ | refine natN_pos ?_ | refine srcN_pos ?_ | refine textN_pos ?_))) (by first | omega | decide +kernel)   (i := 1) rfl H3) ?_)
      rintro _ w11 ⟨rfl, H12⟩
      refine r_cons (s_move (.tuple #[.int .u64 (natU (remB bs q) : Int), .int .i64 (natE (remB bs q))]) rfl rfl ?_)
      refine r_cons (s_extract (.int .u64 (natU (remB bs q) : Int)) #[.int .u64 (natU (remB bs q) : Int), .int .i64 (natE (remB bs q))] rfl rfl rfl ?_)
      refine r_cons (s_extract (.int .i64 (natE (remB bs q))) #[.int .u64 (natU (remB bs q) : Int), .int .i64 (natE (remB bs q))] rfl rfl rfl ?_)
      refine r_cons (s_assign (.int .u64 (natU (remB bs q) : Int)) rfl rfl ?_)
      refine r_cons (s_assign (.int .i64 (natE (remB bs q))) rfl rfl ?_)
      refine r_nil ?_
      refine g_seq ?_
      refine g_region ?_
      refine r_cons (s_move (.pointer (some ⟨k, 0, none⟩)) rfl rfl ?_)
      refine r_cons (s_call [.pointer (some ⟨k, 0, none⟩)] pl_41 rfl rfl (RSrc_Nat k (remB bs q)   (i := 2) rfl H12) ?_)
      rintro _ w13 ⟨rfl, H14⟩
      refine r_cons (s_move (.tuple #[.int .u64 (natU (remB bs q) : Int), .int .i64 (natE (remB bs q))]) rfl rfl ?_)
      refine r_cons (s_extract (.int .u64 (natU (remB bs q) : Int)) #[.int .u64 (natU (remB bs q) : Int), .int .i64 (natE (remB bs q))] rfl rfl rfl ?_)
      refine r_cons (s_extract (.int .i64 (natE (remB bs q))) #[.int .u64 (natU (remB bs q) : Int), .int .i64 (natE (remB bs q))] rfl rfl rfl ?_)
      refine r_cons (s_assign (.int .u64 (natU (remB bs q) : Int)) rfl rfl ?_)
      refine r_cons (s_assign (.int .i64 (natE (remB bs q))) rfl rfl ?_)
      refine r_nil ?_
      refine g_seq ?_
      refine g_region ?_
      refine r_cons (s_move (.int .u64 (natU (remB bs q) : Int)) rfl rfl ?_)
      refine r_cons (s_move (.int .u64 (natU (remB bs q) : Int)) rfl rfl ?_)
      refine r_cons (s_eql true rfl rfl (dtrue rfl) rfl ?_)
      refine r_cons (s_move (.bool true) rfl rfl ?_)
      refine r_cons (r_take rfl rfl ?_)
      refine s_move (.int .i64 (natE (remB bs q))) rfl rfl ?_
      refine r_cons (r_take rfl rfl ?_)
      refine s_move (.int .i64 (natE (remB bs q))) rfl rfl ?_
      refine r_cons (r_take rfl rfl ?_)
      refine s_eql true rfl rfl (dtrue rfl) rfl ?_
      refine r_cons (s_pick_t (.bool true) rfl rfl rfl ?_)
      refine r_cons (s_assign (.bool true) rfl rfl ?_)
      refine r_nil ?_
      refine g_ret' [.bool true] Try.func16 Try.results16 ⟨rfl, trivial⟩ ?_
      have H15 : St W w13 (SrcA b bs (q + natN (remB bs q)) :: RSrc k ((remB bs q).drop (natN (remB bs q))) :: F) := (((H14.move 2 rfl).move 2 rfl).drop 2 rfl)
      exact ⟨rfl, q + natN (remB bs q), natN_pos hq, by rw [← remB_drop]; exact H15⟩
    · skip
      refine r_cons (s_eql false rfl rfl (dfalse hc10) rfl ?_)
      refine r_cons (s_assign (.bool false) rfl rfl ?_)
      refine r_nil ?_
      refine g_false rfl ?_
      refine g_seq ?_
      refine g_region ?_
      by_cases hc16 : p.kind.v = 2
      · skip
        refine r_cons (s_eql true rfl rfl (dtrue hc16) rfl ?_)
        refine r_cons (s_assign (.bool true) rfl rfl ?_)
        refine r_nil ?_
        refine g_true rfl ?_
        refine g_seq ?_
        refine g_region ?_
        refine r_cons (s_move (.pointer (some ⟨b, 0, none⟩)) rfl rfl ?_)
        refine r_cons (s_call [.pointer (some ⟨b, 0, none⟩)] pl_26 rfl rfl (Src_Num b bs q (by first | omega | decide +kernel | (repeat (first | assumption | exact Nat.zero_le _ | refine natN_pos ?_ | refine srcN_pos ?_ | refine textN_pos ?_))) (by first | omega | decide +kernel)   (i := 1) rfl H3) ?_)
        rintro _ w17 ⟨rfl, H18⟩
        refine r_cons (s_move (.tuple #[.int .i64 (zagN (natU (remB bs q))), .int .i64 (natE (remB bs q))]) rfl rfl ?_)
        refine r_cons (s_extract (.int .i64 (zagN (natU (remB bs q)))) #[.int .i64 (zagN (natU (remB bs q))), .int .i64 (natE (remB bs q))] rfl rfl rfl ?_)
        refine r_cons (s_extract (.int .i64 (natE (remB bs q))) #[.int .i64 (zagN (natU (remB bs q))), .int .i64 (natE (remB bs q))] rfl rfl rfl ?_)
        refine r_cons (s_assign (.int .i64 (zagN (natU (remB bs q)))) rfl rfl ?_)
        refine r_cons (s_assign (.int .i64 (natE (remB bs q))) rfl rfl ?_)
        refine r_nil ?_
        refine g_seq ?_
        refine g_region ?_
        refine r_cons (s_move (.pointer (some ⟨k, 0, none⟩)) rfl rfl ?_)
        refine r_cons (s_call [.pointer (some ⟨k, 0, none⟩)] pl_42 rfl rfl (RSrc_Num k (remB bs q)   (i := 2) rfl H18) ?_)
        rintro _ w19 ⟨rfl, H20⟩
        refine r_cons (s_move (.tuple #[.int .i64 (zagN (natU (remB bs q))), .int .i64 (natE (remB bs q))]) rfl rfl ?_)
        refine r_cons (s_extract (.int .i64 (zagN (natU (remB bs q)))) #[.int .i64 (zagN (natU (remB bs q))), .int .i64 (natE (remB bs q))] rfl rfl rfl ?_)
        refine r_cons (s_extract (.int .i64 (natE (remB bs q))) #[.int .i64 (zagN (natU (remB bs q))), .int .i64 (natE (remB bs q))] rfl rfl rfl ?_)
        refine r_cons (s_assign (.int .i64 (zagN (natU (remB bs q)))) rfl rfl ?_)
        refine r_cons (s_assign (.int .i64 (natE (remB bs q))) rfl rfl ?_)
        refine r_nil ?_
        refine g_seq ?_
        refine g_region ?_
        refine r_cons (s_move (.int .i64 (zagN (natU (remB bs q)))) rfl rfl ?_)
        refine r_cons (s_move (.int .i64 (zagN (natU (remB bs q)))) rfl rfl ?_)
        refine r_cons (s_eql true rfl rfl (dtrue rfl) rfl ?_)
        refine r_cons (s_move (.bool true) rfl rfl ?_)
        refine r_cons (r_take rfl rfl ?_)
        refine s_move (.int .i64 (natE (remB bs q))) rfl rfl ?_
        refine r_cons (r_take rfl rfl ?_)
        refine s_move (.int .i64 (natE (remB bs q))) rfl rfl ?_
        refine r_cons (r_take rfl rfl ?_)
        refine s_eql true rfl rfl (dtrue rfl) rfl ?_
        refine r_cons (s_pick_t (.bool true) rfl rfl rfl ?_)
        refine r_cons (s_assign (.bool true) rfl rfl ?_)
        refine r_nil ?_
        refine g_ret' [.bool true] Try.func16 Try.results16 ⟨rfl, trivial⟩ ?_
        have H21 : St W w19 (SrcA b bs (q + natN (remB bs q)) :: RSrc k ((remB bs q).drop (natN (remB bs q))) :: F) := (((H20.move 2 rfl).move 2 rfl).drop 2 rfl)
        exact ⟨rfl, q + natN (remB bs q), natN_pos hq, by rw [← remB_drop]; exact H21⟩
      · skip
        refine r_cons (s_eql false rfl rfl (dfalse hc16) rfl ?_)
        refine r_cons (s_assign (.bool false) rfl rfl ?_)
        refine r_nil ?_
        refine g_false rfl ?_
        refine g_seq ?_
        refine g_region ?_
        by_cases hc22 : p.kind.v = 3
        · skip
          refine r_cons (s_eql true rfl rfl (dtrue hc22) rfl ?_)
          refine r_cons (s_assign (.bool true) rfl rfl ?_)
          refine r_nil ?_
          refine g_true rfl ?_
          refine g_seq ?_
          refine g_region ?_
          refine r_cons (s_move (.pointer (some ⟨b, 0, none⟩)) rfl rfl ?_)
          refine r_cons (s_call [.pointer (some ⟨b, 0, none⟩)] pl_27 rfl rfl (Src_Text b bs q (by first | omega | decide +kernel | (repeat (first | assumption | exact Nat.zero_le _ | refine natN_pos ?_ | refine srcN_pos ?_ | refine textN_pos ?_))) (by first | omega | decide +kernel) (i := 1) rfl H3) ?_)
          rintro _ w23 ⟨rfl, H24⟩
          refine r_cons (s_move (.tuple #[.string (textS (remB bs q)), .int .i64 (textE (remB bs q))]) rfl rfl ?_)
          refine r_cons (s_extract (.string (textS (remB bs q))) #[.string (textS (remB bs q)), .int .i64 (textE (remB bs q))] rfl rfl rfl ?_)
          refine r_cons (s_extract (.int .i64 (textE (remB bs q))) #[.string (textS (remB bs q)), .int .i64 (textE (remB bs q))] rfl rfl rfl ?_)
          refine r_cons (s_assign (.string (textS (remB bs q))) rfl rfl ?_)
          refine r_cons (s_assign (.int .i64 (textE (remB bs q))) rfl rfl ?_)
          refine r_nil ?_
          refine g_seq ?_
          refine g_region ?_
          refine r_cons (s_move (.pointer (some ⟨k, 0, none⟩)) rfl rfl ?_)
          refine r_cons (s_call [.pointer (some ⟨k, 0, none⟩)] pl_43 rfl rfl (RSrc_Text k (remB bs q)  (by first | assumption | omega | (simp only [List.length_drop]; omega)) (i := 2) rfl H24) ?_)
          rintro _ w25 ⟨rfl, H26⟩
          refine r_cons (s_move (.tuple #[.string (textS (remB bs q)), .int .i64 (textE (remB bs q))]) rfl rfl ?_)
          refine r_cons (s_extract (.string (textS (remB bs q))) #[.string (textS (remB bs q)), .int .i64 (textE (remB bs q))] rfl rfl rfl ?_)
          refine r_cons (s_extract (.int .i64 (textE (remB bs q))) #[.string (textS (remB bs q)), .int .i64 (textE (remB bs q))] rfl rfl rfl ?_)
          refine r_cons (s_assign (.string (textS (remB bs q))) rfl rfl ?_)
          refine r_cons (s_assign (.int .i64 (textE (remB bs q))) rfl rfl ?_)
          refine r_nil ?_
          refine g_seq ?_
          refine g_region ?_
          refine r_cons (s_move (.string (textS (remB bs q))) rfl rfl ?_)
          refine r_cons (s_move (.string (textS (remB bs q))) rfl rfl ?_)
          refine r_cons (s_seql true rfl rfl (dtrue rfl) rfl ?_)
          refine r_cons (s_move (.bool true) rfl rfl ?_)
          refine r_cons (r_take rfl rfl ?_)
          refine s_move (.int .i64 (textE (remB bs q))) rfl rfl ?_
          refine r_cons (r_take rfl rfl ?_)
          refine s_move (.int .i64 (textE (remB bs q))) rfl rfl ?_
          refine r_cons (r_take rfl rfl ?_)
          refine s_eql true rfl rfl (dtrue rfl) rfl ?_
          refine r_cons (s_pick_t (.bool true) rfl rfl rfl ?_)
          refine r_cons (s_assign (.bool true) rfl rfl ?_)
          refine r_nil ?_
          refine g_ret' [.bool true] Try.func16 Try.results16 ⟨rfl, trivial⟩ ?_
          have H27 : St W w25 (SrcA b bs (q + textN (remB bs q)) :: RSrc k ((remB bs q).drop (textN (remB bs q))) :: F) := (((H26.move 2 rfl).move 2 rfl).drop 2 rfl)
          exact ⟨rfl, q + textN (remB bs q), textN_pos hq, by rw [← remB_drop]; exact H27⟩
        · skip
          refine r_cons (s_eql false rfl rfl (dfalse hc22) rfl ?_)
          refine r_cons (s_assign (.bool false) rfl rfl ?_)
          refine r_nil ?_
          refine g_false rfl ?_
          refine g_skip ?_
          refine g_inBlock ?_
          refine g_seq ?_
          refine g_region ?_
          refine r_cons (s_move (.pointer (some ⟨b, 0, none⟩)) rfl rfl ?_)
          refine r_cons (s_call [.pointer (some ⟨b, 0, none⟩)] pl_28 rfl rfl (Src_Flag b bs q (by first | omega | decide +kernel | (repeat (first | assumption | exact Nat.zero_le _ | refine natN_pos ?_ | refine srcN_pos ?_ | refine textN_pos ?_))) (by first | omega | decide +kernel)   (i := 1) rfl H3) ?_)
          rintro _ w28 ⟨rfl, H29⟩
          refine r_cons (s_move (.tuple #[.bool (decide ((srcU (remB bs q) 1 : Int) = 1)), .int .i64 (srcE (remB bs q) 1)]) rfl rfl ?_)
          refine r_cons (s_extract (.bool (decide ((srcU (remB bs q) 1 : Int) = 1))) #[.bool (decide ((srcU (remB bs q) 1 : Int) = 1)), .int .i64 (srcE (remB bs q) 1)] rfl rfl rfl ?_)
          refine r_cons (s_extract (.int .i64 (srcE (remB bs q) 1)) #[.bool (decide ((srcU (remB bs q) 1 : Int) = 1)), .int .i64 (srcE (remB bs q) 1)] rfl rfl rfl ?_)
          refine r_cons (s_assign (.bool (decide ((srcU (remB bs q) 1 : Int) = 1))) rfl rfl ?_)
          refine r_cons (s_assign (.int .i64 (srcE (remB bs q) 1)) rfl rfl ?_)
          refine r_nil ?_
          refine g_seq ?_
          refine g_region ?_
          refine r_cons (s_move (.pointer (some ⟨k, 0, none⟩)) rfl rfl ?_)
          refine r_cons (s_call [.pointer (some ⟨k, 0, none⟩)] pl_44 rfl rfl (RSrc_Flag k (remB bs q)   (i := 2) rfl H29) ?_)
          rintro _ w30 ⟨rfl, H31⟩
          refine r_cons (s_move (.tuple #[.bool (decide ((srcU (remB bs q) 1 : Int) = 1)), .int .i64 (srcE (remB bs q) 1)]) rfl rfl ?_)
          refine r_cons (s_extract (.bool (decide ((srcU (remB bs q) 1 : Int) = 1))) #[.bool (decide ((srcU (remB bs q) 1 : Int) = 1)), .int .i64 (srcE (remB bs q) 1)] rfl rfl rfl ?_)
          refine r_cons (s_extract (.int .i64 (srcE (remB bs q) 1)) #[.bool (decide ((srcU (remB bs q) 1 : Int) = 1)), .int .i64 (srcE (remB bs q) 1)] rfl rfl rfl ?_)
          refine r_cons (s_assign (.bool (decide ((srcU (remB bs q) 1 : Int) = 1))) rfl rfl ?_)
          refine r_cons (s_assign (.int .i64 (srcE (remB bs q) 1)) rfl rfl ?_)
          refine r_nil ?_
          refine g_seq ?_
          refine g_region ?_
          refine r_cons (s_move (.bool (decide ((srcU (remB bs q) 1 : Int) = 1))) rfl rfl ?_)
          refine r_cons (s_move (.bool (decide ((srcU (remB bs q) 1 : Int) = 1))) rfl rfl ?_)
          refine r_cons (s_beql true un_4 rfl rfl (dtrue rfl) rfl ?_)
          refine r_cons (s_move (.bool true) rfl rfl ?_)
          refine r_cons (r_take rfl rfl ?_)
          refine s_move (.int .i64 (srcE (remB bs q) 1)) rfl rfl ?_
          refine r_cons (r_take rfl rfl ?_)
          refine s_move (.int .i64 (srcE (remB bs q) 1)) rfl rfl ?_
          refine r_cons (r_take rfl rfl ?_)
          refine s_eql true rfl rfl (dtrue rfl) rfl ?_
          refine r_cons (s_pick_t (.bool true) rfl rfl rfl ?_)
          refine r_cons (s_assign (.bool true) rfl rfl ?_)
          refine r_nil ?_
          refine g_ret' [.bool true] Try.func16 Try.results16 ⟨rfl, trivial⟩ ?_
          have H32 : St W w30 (SrcA b bs (q + srcN (remB bs q) 1) :: RSrc k ((remB bs q).drop (srcN (remB bs q) 1)) :: F) := (((H31.move 2 rfl).move 2 rfl).drop 2 rfl)
          exact ⟨rfl, q + srcN (remB bs q) 1, srcN_pos hq, by rw [← remB_drop]; exact H32⟩
set_option maxHeartbeats 4000000 in
set_option maxRecDepth 100000 in
theorem BitsTakes_ {W w : World} {F : List Atom} (bs : List UInt8) (l : List PartV) (bv lv : Value) (hb : bs.length ≤ 17592186044416) {j k : Nat} (hj : F[j]? = some (Im 1 bv bs.length (bs.flatMap u8c))) (hk : F[k]? = some (Im 4 lv l.length (l.flatMap partCell))) (H : St W w F) : Calls Try.prog 4 #[bv, lv] w (Ret fun v w' => v = .bool true ∧ St W w' F) := by
  have hml := (RdA.im _ _ _ j H hj).2
  obtain ⟨pp1, cc2, rfl, hn3⟩ := Rd.shape (RdA.im _ _ _ j H hj).1
  obtain ⟨pA4, cA5, gA6, oA7, kA8, eA9, zA10, rfl, hn11, hp12, hx13, hs14, hml, H15⟩ := Im.open_ H hk
  refine calls_of_go (n := 48) Try.func4 rfl Try.ntmps4 rfl ?_
  refine g_seq ?_
  refine g_region ?_
  refine r_cons (s_assign (.bool false) rfl rfl ?_)
  refine r_nil ?_
  refine g_seq ?_
  refine g_region ?_
  refine r_cons (s_move (.slice pp1 bs.length cc2) rfl rfl ?_)
  refine r_cons (s_call [.slice pp1 bs.length cc2] pl_14 rfl rfl (NewSource _ _ bs (RdA.im) (by first | omega | decide) (j := j + 1) (by exact hj) H15) ?_)
  rintro _ w17 ⟨bk16, rfl, H18⟩
  refine r_cons (s_move (.slice pp1 bs.length cc2) rfl rfl ?_)
  refine r_cons (s_call [.slice pp1 bs.length cc2] pl_15 rfl rfl (RSrc_New bs _ (by omega) (j := j + 2) (by exact hj) H18) ?_)
  rintro _ w20 ⟨bk19, rfl, H21⟩
  refine r_cons (s_assign (.pointer (some ⟨bk16, 0, none⟩)) rfl rfl ?_)
  refine r_cons (s_assign (.pointer (some ⟨bk19, 0, none⟩)) rfl rfl ?_)
  refine r_nil ?_
  refine g_seq ?_
  refine g_seq ?_
  refine g_region ?_
  refine r_cons (s_move (.pointer (some ⟨bk16, 0, none⟩)) rfl rfl ?_)
  refine r_cons (s_peql false un_35 rfl rfl rfl rfl ?_)
  refine r_cons (s_move (.bool false) rfl rfl ?_)
  refine r_cons (r_take rfl rfl ?_)
  refine s_call [] pl_9 rfl rfl (live01 H21) ?_
  rintro _ w22 ⟨rfl, H23⟩
  refine r_cons (r_take rfl rfl ?_)
  refine s_not true rfl false rfl rfl ?_
  refine r_cons (s_pick_f (.bool false) rfl rfl rfl ?_)
  refine r_nil ?_
  refine g_false rfl ?_
  refine g_skip ?_
  refine g_seq ?_
  refine g_seq ?_
  refine g_region ?_
  refine r_cons (s_move (.slice pA4 l.length cA5) rfl rfl ?_)
  refine r_cons (s_len l.length rfl ⟨_, un_34⟩ rfl ?_)
  refine r_cons (s_move (.int .i64 0) rfl rfl ?_)
  refine r_nil ?_
  refine g_block ?_
  have H24 : St W w22 (SrcA bk16 bs 0 :: RSrc bk19 (bitsOf bs) :: imi (0 < l.length) gA6 (.cells kA8 eA9 zA10) :: F) := (((H23.move 2 rfl).move 1 rfl).move 2 rfl)
  refine g_loop_inv (fun (x : Nat × Nat) => match x with | (i, q) => [(4, .bool false), (5, .pointer (some ⟨bk16, 0, none⟩)), (6, .pointer (some ⟨bk19, 0, none⟩)), (19, .slice pA4 l.length cA5), (20, .int .i64 (l.length : Int)), (21, .int .i64 (i : Int))]) (fun (x : Nat × Nat) w => match x with | (i, q) => (i ≤ l.length) ∧ (q ≤ 8 * bs.length) ∧ St W w (SrcA bk16 bs q :: RSrc bk19 (remB bs q) :: imi (0 < l.length) gA6 (.cells kA8 eA9 zA10) :: F)) (fun (x : Nat × Nat) => match x with | (i, q) => l.length - i) (0, 0) ?_ ?_ ?_
  · exact ⟨by first | rfl | exact vint (by omega), by first | rfl | exact vint (by omega), by first | rfl | exact vint (by omega), by first | rfl | exact vint (by omega), by first | rfl | exact vint (by omega), by first | rfl | exact vint (by omega), trivial⟩
  · exact ⟨(by omega), (by omega), H24⟩
  · rintro ⟨i, q⟩ ρ25 w26 ⟨hi, hq, H27⟩ nx28
    change Ends _ _ (upds ρ25 [(4, .bool false), (5, .pointer (some ⟨bk16, 0, none⟩)), (6, .pointer (some ⟨bk19, 0, none⟩)), (19, .slice pA4 l.length cA5), (20, .int .i64 (l.length : Int)), (21, .int .i64 (i : Int))]) w26
    refine g_seq ?_
    refine g_region ?_
    by_cases hc29 : (i : Int) < (l.length : Int)
    · skip
      refine r_cons (s_lss true rfl rfl (dtrue hc29) rfl ?_)
      refine r_nil ?_
      refine g_seq ?_
      refine g_true rfl ?_
      refine g_skip ?_
      refine g_seq ?_
      refine g_block ?_
      refine g_seq ?_
      refine g_region ?_
      refine r_cons (s_indexAddr gA6 (off := oA7) (i : Int) 4 (oA7 + i * 4) (by exact congrArg (fun z_ => Value.slice z_ l.length cA5) (hp12 (by omega))) rfl el_34 (by omega) rfl rfl ?_)
      refine r_cons (s_loadAgg [.int .i64 ((l.getD i default).kind.v), .int .u64 ((l.getD i default).u.v : Int), .int .i64 ((l.getD i default).n.v), .string ((l.getD i default).s.v)] 4 ag_40 rfl (H27.imi_at (i := 2) rfl (by omega)) (by have := elem_size (i := i) (s := 4) (hs14 (by omega)) (by omega); omega) (elem_take partCell_len (hx13 (by omega)) (by omega) default) rfl ?_)
      refine r_cons (s_alloc H27 40 ze_40 rfl ?_); intro bk30 w31 H32
      refine r_cons (s_storeAgg H32 0 #[.int .i64 ((l.getD i default).kind.v), .int .u64 ((l.getD i default).u.v : Int), .int .i64 ((l.getD i default).n.v), .string ((l.getD i default).s.v)] 4 rfl rfl rfl sz_40 rfl (by simp [Value.oneCell']) (Nat.le_of_ble_eq_true rfl) (fun o h1 h2 => by first | (simp; done) | (simp; omega)) (cs' := #[.int .i64 ((l.getD i default).kind.v), .int .u64 ((l.getD i default).u.v : Int), .int .i64 ((l.getD i default).n.v), .string ((l.getD i default).s.v)]) rfl ?_); intro w33 H34
      refine r_nil ?_
      refine g_seq ?_
      have H35 : St W w33 (blk bk30 (.cells #[.int .i64 ((l.getD i default).kind.v), .int .u64 ((l.getD i default).u.v : Int), .int .i64 ((l.getD i default).n.v), .string ((l.getD i default).s.v)] 40 (0, 0)) :: imi (0 < l.length) gA6 (.cells kA8 eA9 zA10) :: SrcA bk16 bs q :: RSrc bk19 (remB bs q) :: F) := ((((H34.move 2 rfl).move 2 rfl).move 3 rfl).move 3 rfl)
      refine g_mix (fun t_ w => St W w (blk bk30 (.cells #[.int .i64 ((l.getD i default).kind.v), .int .u64 ((l.getD i default).u.v : Int), .int .i64 ((l.getD i default).n.v), .string ((l.getD i default).s.v)] 40 (0, 0)) :: imi (0 < l.length) gA6 (.cells kA8 eA9 zA10) :: t_)) (SrcA bk16 bs q :: RSrc bk19 (remB bs q) :: F) mixed 22 rfl H35.drew ?_
      refine f_first 0 (listed' := #[true, false, false, false, false, false, false, false, false, false, false, false, false, false, false, false, false, false, false, false, false, false]) rfl (by kernel_rfl) (by kernel_rfl) (by kernel_rfl) rfl ?_
      refine f_val rfl rfl rfl (by intro t_ w hw; exact x_move (.pointer (some ⟨bk16, 0, none⟩)) rfl w) ?_
      refine f_first 1 (listed' := #[true, true, false, false, false, false, false, false, false, false, false, false, false, false, false, false, false, false, false, false, false, false]) rfl (by kernel_rfl) (by kernel_rfl) (by kernel_rfl) rfl ?_
      refine f_val rfl rfl rfl (by intro t_ w hw; exact x_move (.pointer (some ⟨bk19, 0, none⟩)) rfl w) ?_
      refine f_first 2 (listed' := #[true, true, true, false, false, false, false, false, false, false, false, false, false, false, false, false, false, false, false, false, false, false]) rfl (by kernel_rfl) (by kernel_rfl) (by kernel_rfl) rfl ?_
      refine f_val rfl rfl rfl (by intro t_ w hw; exact x_loadAgg [.int .i64 ((l.getD i default).kind.v), .int .u64 ((l.getD i default).u.v : Int), .int .i64 ((l.getD i default).n.v), .string ((l.getD i default).s.v)] 4 ag_40 rfl (hw.blk_at (i := 0) rfl) (Nat.le_of_ble_eq_true rfl) rfl) ?_
      refine f_all (rs := [3]) (by kernel_rfl) (by simp) ?_
      refine a_cons ⟨_, rfl, ?_⟩ (fun x hx => absurd hx (by simp))
      intro w36 H37
      try dsimp only at H37
      have H38 : St W w36 (SrcA bk16 bs q :: RSrc bk19 (remB bs q) :: blk bk30 (.cells #[.int .i64 ((l.getD i default).kind.v), .int .u64 ((l.getD i default).u.v : Int), .int .i64 ((l.getD i default).n.v), .string ((l.getD i default).s.v)] 40 (0, 0)) :: imi (0 < l.length) gA6 (.cells kA8 eA9 zA10) :: F) := ((((H37.move 1 rfl).move 1 rfl).move 3 rfl).move 3 rfl)
      refine s_call [.pointer (some ⟨bk16, 0, none⟩), .pointer (some ⟨bk19, 0, none⟩), .agg #[.int .i64 ((l.getD i default).kind.v), .int .u64 ((l.getD i default).u.v : Int), .int .i64 ((l.getD i default).n.v), .string ((l.getD i default).s.v)]] pl_16 rfl rfl (take01 bk16 bk19 bs q (by first | omega | decide +kernel | (repeat (first | assumption | exact Nat.zero_le _ | refine natN_pos ?_ | refine srcN_pos ?_ | refine textN_pos ?_))) (by omega) (l.getD i default) H38) ?_
      rintro _ w41 ⟨rfl, q39, hq40, H42⟩
      have H43 : St W w41 (blk bk30 (.cells #[.int .i64 ((l.getD i default).kind.v), .int .u64 ((l.getD i default).u.v : Int), .int .i64 ((l.getD i default).n.v), .string ((l.getD i default).s.v)] 40 (0, 0)) :: imi (0 < l.length) gA6 (.cells kA8 eA9 zA10) :: SrcA bk16 bs q39 :: RSrc bk19 (remB bs q39) :: F) := ((((H42.move 1 rfl).move 1 rfl).move 3 rfl).move 3 rfl)
      refine ⟨SrcA bk16 bs q39 :: RSrc bk19 (remB bs q39) :: F, ?_, H43⟩
      change FReg _ _ _ _ _ #[true, true, true, true, false, false, false, false, false, false, false, false, false, false, false, false, false, false, false, false, false, false] _ _
      refine f_first 4 (listed' := #[true, true, true, true, true, false, false, false, false, false, false, false, false, false, false, false, false, false, false, false, false, false]) rfl (by kernel_rfl) (by kernel_rfl) (by kernel_rfl) rfl ?_
      refine f_val rfl rfl rfl (by intro t_ w hw; exact x_not true rfl false rfl w) ?_
      refine f_first 5 (listed' := #[true, true, true, true, true, true, false, false, false, false, false, false, false, false, false, false, false, false, false, false, false, false]) rfl (by kernel_rfl) (by kernel_rfl) (by kernel_rfl) rfl ?_
      refine f_val rfl rfl rfl (by intro t_ w hw; exact x_move (.bool false) rfl w) ?_
      refine f_first 6 (listed' := #[true, true, true, true, true, true, true, false, false, false, false, false, false, false, false, false, false, false, false, false, false, false]) rfl (by kernel_rfl) (by kernel_rfl) (by kernel_rfl) rfl ?_
      refine f_take rfl rfl ?_
      refine f_val rfl rfl rfl (by intro t_ w hw; exact x_move (.pointer (some ⟨bk16, 0, none⟩)) rfl w) ?_
      refine f_first 8 (listed' := #[true, true, true, true, true, true, true, false, true, false, false, false, false, false, false, false, false, false, false, false, false, false]) rfl (by kernel_rfl) (by kernel_rfl) (by kernel_rfl) rfl ?_
      refine f_take rfl rfl ?_
      refine f_val rfl rfl rfl (by intro t_ w hw; exact x_move (.pointer (some ⟨bk19, 0, none⟩)) rfl w) ?_
      refine f_first 9 (listed' := #[true, true, true, true, true, true, true, false, true, true, false, false, false, false, false, false, false, false, false, false, false, false]) rfl (by kernel_rfl) (by kernel_rfl) (by kernel_rfl) rfl ?_
      refine f_take rfl rfl ?_
      refine f_val rfl rfl rfl (by intro t_ w hw; exact x_nilCheck (.pointer (some ⟨bk19, 0, none⟩)) rfl ⟨_, rfl⟩ w) ?_
      refine f_first 10 (listed' := #[true, true, true, true, true, true, true, false, true, true, true, false, false, false, false, false, false, false, false, false, false, false]) rfl (by kernel_rfl) (by kernel_rfl) (by kernel_rfl) rfl ?_
      refine f_take rfl rfl ?_
      refine f_val rfl rfl rfl (by intro t_ w hw; exact x_fieldAddr 43 0 0 0 23 rfl fi_43_0 rfl w) ?_
      refine f_all (rs := [7, 11]) (by kernel_rfl) (by simp) ?_
      refine a_cons ⟨_, rfl, ?_⟩ (a_cons ⟨_, rfl, ?_⟩ (fun x hx => absurd hx (by simp)))
      · skip
        intro w44 H45
        try dsimp only at H45
        refine r_take rfl rfl ?_
        refine s_call [.pointer (some ⟨bk16, 0, none⟩)] pl_17 rfl rfl (Src_Left bk16 bs q39 (by first | omega | decide +kernel | (repeat (first | assumption | exact Nat.zero_le _ | refine natN_pos ?_ | refine srcN_pos ?_ | refine textN_pos ?_))) (by first | omega | decide +kernel)   (i := 2) rfl H45) ?_
        rintro _ w46 ⟨rfl, H47⟩
        refine ⟨SrcA bk16 bs q39 :: RSrc bk19 (remB bs q39) :: F, ?_, H47⟩
        change FReg _ _ _ _ _ #[true, true, true, true, true, true, true, true, true, true, true, false, false, false, false, false, false, false, false, false, false, false] _ _
        refine f_all (rs := [11]) (by kernel_rfl) (by simp) ?_
        refine a_cons ⟨_, rfl, ?_⟩ (fun x hx => absurd hx (by simp))
        intro w48 H49
        try dsimp only at H49
        refine r_take rfl rfl ?_
        have H50 := H49.move 3 rfl
        obtain ⟨vv51, H52⟩ := St.open_ex H50
        have H53 := St.open_star H52
        obtain ⟨pp54, cc55, gA56, oA57, kA58, eA59, zA60, rfl, hn61, hp62, hx63, hs64, hml, H65⟩ := Im.open_ H53 (i := 1) rfl
        have H66 : St W w48 (imi (0 < (remB bs q39).length) gA56 (.cells kA58 eA59 zA60) :: blk bk19 (.cells #[.slice pp54 ((remB bs q39).length) cc55] 43 (0, 0)) :: Im 1 (.slice pp54 ((remB bs q39).length) cc55) ((remB bs q39).length) ((remB bs q39).flatMap blc) :: blk bk30 (.cells #[.int .i64 ((l.getD i default).kind.v), .int .u64 ((l.getD i default).u.v : Int), .int .i64 ((l.getD i default).n.v), .string ((l.getD i default).s.v)] 40 (0, 0)) :: imi (0 < l.length) gA6 (.cells kA8 eA9 zA10) :: SrcA bk16 bs q39 :: F) := H65
        refine s_load (.slice pp54 ((remB bs q39).length) cc55) ag_23 rfl (H66.blk_at (i := 1) rfl) rfl rfl ?_
        have H67 : St W w48 (blk bk19 (.cells #[.slice pp54 ((remB bs q39).length) cc55] 43 (0, 0)) :: Im 1 (.slice pp54 ((remB bs q39).length) cc55) ((remB bs q39).length) ((remB bs q39).flatMap blc) :: blk bk30 (.cells #[.int .i64 ((l.getD i default).kind.v), .int .u64 ((l.getD i default).u.v : Int), .int .i64 ((l.getD i default).n.v), .string ((l.getD i default).s.v)] 40 (0, 0)) :: imi (0 < l.length) gA6 (.cells kA8 eA9 zA10) :: SrcA bk16 bs q39 :: F) := ((((((H66.move 5 rfl).move 5 rfl).move 5 rfl).move 5 rfl).move 5 rfl).drop 5 rfl)
        have H68 : St W w48 (RSrc bk19 (remB bs q39) :: blk bk30 (.cells #[.int .i64 ((l.getD i default).kind.v), .int .u64 ((l.getD i default).u.v : Int), .int .i64 ((l.getD i default).n.v), .string ((l.getD i default).s.v)] 40 (0, 0)) :: imi (0 < l.length) gA6 (.cells kA8 eA9 zA10) :: SrcA bk16 bs q39 :: F) := St.shut_ex (.slice pp54 ((remB bs q39).length) cc55) (St.shut_star (ls := [blk bk19 (.cells #[.slice pp54 ((remB bs q39).length) cc55] 43 (0, 0)), Im 1 (.slice pp54 ((remB bs q39).length) cc55) ((remB bs q39).length) ((remB bs q39).flatMap blc)]) H67)
        have H69 : St W w48 (blk bk30 (.cells #[.int .i64 ((l.getD i default).kind.v), .int .u64 ((l.getD i default).u.v : Int), .int .i64 ((l.getD i default).n.v), .string ((l.getD i default).s.v)] 40 (0, 0)) :: imi (0 < l.length) gA6 (.cells kA8 eA9 zA10) :: RSrc bk19 (remB bs q39) :: SrcA bk16 bs q39 :: F) := ((((H68.move 3 rfl).move 1 rfl).move 3 rfl).move 3 rfl)
        refine ⟨RSrc bk19 (remB bs q39) :: SrcA bk16 bs q39 :: F, ?_, H69⟩
        change FReg _ _ _ _ _ #[true, true, true, true, true, true, true, true, true, true, true, true, false, false, false, false, false, false, false, false, false, false] _ _
        refine f_first 12 (listed' := #[true, true, true, true, true, true, true, true, true, true, true, true, true, false, false, false, false, false, false, false, false, false]) rfl (by kernel_rfl) (by kernel_rfl) (by kernel_rfl) rfl ?_
        refine f_take rfl rfl ?_
        refine f_val rfl rfl rfl (by intro t_ w hw; exact x_len ((remB bs q39).length) rfl ⟨_, un_23⟩ w) ?_
        refine f_first 13 (listed' := #[true, true, true, true, true, true, true, true, true, true, true, true, true, true, false, false, false, false, false, false, false, false]) rfl (by kernel_rfl) (by kernel_rfl) (by kernel_rfl) rfl ?_
        refine f_take rfl rfl ?_
        refine f_val rfl rfl rfl (by intro t_ w hw; exact x_neq false rfl rfl (ntrue rfl) w) ?_
        refine f_first 14 (listed' := #[true, true, true, true, true, true, true, true, true, true, true, true, true, true, true, false, false, false, false, false, false, false]) rfl (by kernel_rfl) (by kernel_rfl) (by kernel_rfl) rfl ?_
        refine f_val rfl rfl rfl (by intro t_ w hw; exact x_pick_f (.bool false) rfl rfl w) ?_
        refine f_first 15 (listed' := #[true, true, true, true, true, true, true, true, true, true, true, true, true, true, true, true, false, false, false, false, false, false]) rfl (by kernel_rfl) (by kernel_rfl) (by kernel_rfl) rfl ?_
        refine f_val rfl rfl rfl (by intro t_ w hw; exact x_move (.bool false) rfl w) ?_
        refine f_first 16 (listed' := #[true, true, true, true, true, true, true, true, true, true, true, true, true, true, true, true, true, false, false, false, false, false]) rfl (by kernel_rfl) (by kernel_rfl) (by kernel_rfl) rfl ?_
        refine f_take rfl rfl ?_
        refine f_val rfl rfl rfl (by intro t_ w hw; exact x_move (.pointer (some ⟨bk16, 0, none⟩)) rfl w) ?_
        refine f_first 18 (listed' := #[true, true, true, true, true, true, true, true, true, true, true, true, true, true, true, true, true, false, true, false, false, false]) rfl (by kernel_rfl) (by kernel_rfl) (by kernel_rfl) rfl ?_
        refine f_take rfl rfl ?_
        refine f_val rfl rfl rfl (by intro t_ w hw; exact x_move (.pointer (some ⟨bk19, 0, none⟩)) rfl w) ?_
        refine f_all (rs := [17]) (by kernel_rfl) (by simp) ?_
        refine a_cons ⟨_, rfl, ?_⟩ (fun x hx => absurd hx (by simp))
        intro w70 H71
        try dsimp only at H71
        refine r_take rfl rfl ?_
        refine s_call [.pointer (some ⟨bk16, 0, none⟩)] pl_18 rfl rfl (Src_End bk16 bs q39 (by first | omega | decide +kernel | (repeat (first | assumption | exact Nat.zero_le _ | refine natN_pos ?_ | refine srcN_pos ?_ | refine textN_pos ?_))) (by first | omega | decide +kernel)   (i := 3) rfl H71) ?_
        rintro _ w72 ⟨rfl, H73⟩
        refine ⟨RSrc bk19 (remB bs q39) :: SrcA bk16 bs q39 :: F, ?_, H73⟩
        change FReg _ _ _ _ _ #[true, true, true, true, true, true, true, true, true, true, true, true, true, true, true, true, true, true, true, false, false, false] _ _
        refine f_all (rs := [19]) (by kernel_rfl) (by simp) ?_
        refine a_cons ⟨_, rfl, ?_⟩ (fun x hx => absurd hx (by simp))
        intro w74 H75
        try dsimp only at H75
        refine r_take rfl rfl ?_
        refine s_call [.pointer (some ⟨bk19, 0, none⟩)] pl_19 rfl rfl (RSrc_End bk19 (remB bs q39)   (i := 2) rfl H75) ?_
        rintro _ w76 ⟨rfl, H77⟩
        refine ⟨RSrc bk19 (remB bs q39) :: SrcA bk16 bs q39 :: F, ?_, H77⟩
        change FReg _ _ _ _ _ #[true, true, true, true, true, true, true, true, true, true, true, true, true, true, true, true, true, true, true, true, false, false] _ _
        refine f_first 20 (listed' := #[true, true, true, true, true, true, true, true, true, true, true, true, true, true, true, true, true, true, true, true, true, false]) rfl (by kernel_rfl) (by kernel_rfl) (by kernel_rfl) rfl ?_
        refine f_take rfl rfl ?_
        refine f_val rfl rfl rfl (by intro t_ w hw; exact x_neq false rfl rfl (ntrue rfl) w) ?_
        refine f_first 21 (listed' := #[true, true, true, true, true, true, true, true, true, true, true, true, true, true, true, true, true, true, true, true, true, true]) rfl (by kernel_rfl) (by kernel_rfl) (by kernel_rfl) rfl ?_
        refine f_val rfl rfl rfl (by intro t_ w hw; exact x_pick_f (.bool false) rfl rfl w) ?_
        refine f_done (by kernel_rfl) ?_
        intro w78 H79
        refine g_false rfl ?_
        refine g_skip ?_
        refine g_inBlock ?_
        refine g_region ?_
        refine r_cons (s_add ((i : Int) + 1) rfl rfl (wi64 (by omega)) rfl ?_)
        refine r_cons (s_move (.int .i64 ((i : Int) + 1)) rfl rfl ?_)
        refine r_nil ?_
        have H80 : St W w78 (SrcA bk16 bs q39 :: RSrc bk19 (remB bs q39) :: imi (0 < l.length) gA6 (.cells kA8 eA9 zA10) :: F) := ((((H79.move 1 rfl).move 2 rfl).move 3 rfl).drop 3 rfl)
        exact nx28 (i + 1, q39) _ _ ⟨(by omega), (by omega), H80⟩ (by first | (dsimp only; omega) | omega) ⟨by first | rfl | exact vint (by omega), by first | rfl | exact vint (by omega), by first | rfl | exact vint (by omega), by first | rfl | exact vint (by omega), by first | rfl | exact vint (by omega), by first | rfl | exact vint (by omega), trivial⟩
      · skip
        intro w81 H82
        try dsimp only at H82
        refine r_take rfl rfl ?_
        have H83 := H82.move 3 rfl
        obtain ⟨vv84, H85⟩ := St.open_ex H83
        have H86 := St.open_star H85
        obtain ⟨pp87, cc88, gA89, oA90, kA91, eA92, zA93, rfl, hn94, hp95, hx96, hs97, hml, H98⟩ := Im.open_ H86 (i := 1) rfl
        have H99 : St W w81 (imi (0 < (remB bs q39).length) gA89 (.cells kA91 eA92 zA93) :: blk bk19 (.cells #[.slice pp87 ((remB bs q39).length) cc88] 43 (0, 0)) :: Im 1 (.slice pp87 ((remB bs q39).length) cc88) ((remB bs q39).length) ((remB bs q39).flatMap blc) :: blk bk30 (.cells #[.int .i64 ((l.getD i default).kind.v), .int .u64 ((l.getD i default).u.v : Int), .int .i64 ((l.getD i default).n.v), .string ((l.getD i default).s.v)] 40 (0, 0)) :: imi (0 < l.length) gA6 (.cells kA8 eA9 zA10) :: SrcA bk16 bs q39 :: F) := H98
        refine s_load (.slice pp87 ((remB bs q39).length) cc88) ag_23 rfl (H99.blk_at (i := 1) rfl) rfl rfl ?_
        have H100 : St W w81 (blk bk19 (.cells #[.slice pp87 ((remB bs q39).length) cc88] 43 (0, 0)) :: Im 1 (.slice pp87 ((remB bs q39).length) cc88) ((remB bs q39).length) ((remB bs q39).flatMap blc) :: blk bk30 (.cells #[.int .i64 ((l.getD i default).kind.v), .int .u64 ((l.getD i default).u.v : Int), .int .i64 ((l.getD i default).n.v), .string ((l.getD i default).s.v)] 40 (0, 0)) :: imi (0 < l.length) gA6 (.cells kA8 eA9 zA10) :: SrcA bk16 bs q39 :: F) := ((((((H99.move 5 rfl).move 5 rfl).move 5 rfl).move 5 rfl).move 5 rfl).drop 5 rfl)
        have H101 : St W w81 (RSrc bk19 (remB bs q39) :: blk bk30 (.cells #[.int .i64 ((l.getD i default).kind.v), .int .u64 ((l.getD i default).u.v : Int), .int .i64 ((l.getD i default).n.v), .string ((l.getD i default).s.v)] 40 (0, 0)) :: imi (0 < l.length) gA6 (.cells kA8 eA9 zA10) :: SrcA bk16 bs q39 :: F) := St.shut_ex (.slice pp87 ((remB bs q39).length) cc88) (St.shut_star (ls := [blk bk19 (.cells #[.slice pp87 ((remB bs q39).length) cc88] 43 (0, 0)), Im 1 (.slice pp87 ((remB bs q39).length) cc88) ((remB bs q39).length) ((remB bs q39).flatMap blc)]) H100)
        have H102 : St W w81 (blk bk30 (.cells #[.int .i64 ((l.getD i default).kind.v), .int .u64 ((l.getD i default).u.v : Int), .int .i64 ((l.getD i default).n.v), .string ((l.getD i default).s.v)] 40 (0, 0)) :: imi (0 < l.length) gA6 (.cells kA8 eA9 zA10) :: RSrc bk19 (remB bs q39) :: SrcA bk16 bs q39 :: F) := ((((H101.move 3 rfl).move 1 rfl).move 3 rfl).move 3 rfl)
        refine ⟨RSrc bk19 (remB bs q39) :: SrcA bk16 bs q39 :: F, ?_, H102⟩
        change FReg _ _ _ _ _ #[true, true, true, true, true, true, true, false, true, true, true, true, false, false, false, false, false, false, false, false, false, false] _ _
        refine f_first 12 (listed' := #[true, true, true, true, true, true, true, false, true, true, true, true, true, false, false, false, false, false, false, false, false, false]) rfl (by kernel_rfl) (by kernel_rfl) (by kernel_rfl) rfl ?_
        refine f_take rfl rfl ?_
        refine f_val rfl rfl rfl (by intro t_ w hw; exact x_len ((remB bs q39).length) rfl ⟨_, un_23⟩ w) ?_
        refine f_all (rs := [7]) (by kernel_rfl) (by simp) ?_
        refine a_cons ⟨_, rfl, ?_⟩ (fun x hx => absurd hx (by simp))
        intro w103 H104
        try dsimp only at H104
        refine r_take rfl rfl ?_
        refine s_call [.pointer (some ⟨bk16, 0, none⟩)] pl_17 rfl rfl (Src_Left bk16 bs q39 (by first | omega | decide +kernel | (repeat (first | assumption | exact Nat.zero_le _ | refine natN_pos ?_ | refine srcN_pos ?_ | refine textN_pos ?_))) (by first | omega | decide +kernel)   (i := 3) rfl H104) ?_
        rintro _ w105 ⟨rfl, H106⟩
        refine ⟨RSrc bk19 (remB bs q39) :: SrcA bk16 bs q39 :: F, ?_, H106⟩
        change FReg _ _ _ _ _ #[true, true, true, true, true, true, true, true, true, true, true, true, true, false, false, false, false, false, false, false, false, false] _ _
        refine f_first 13 (listed' := #[true, true, true, true, true, true, true, true, true, true, true, true, true, true, false, false, false, false, false, false, false, false]) rfl (by kernel_rfl) (by kernel_rfl) (by kernel_rfl) rfl ?_
        refine f_take rfl rfl ?_
        refine f_val rfl rfl rfl (by intro t_ w hw; exact x_neq false rfl rfl (ntrue rfl) w) ?_
        refine f_first 14 (listed' := #[true, true, true, true, true, true, true, true, true, true, true, true, true, true, true, false, false, false, false, false, false, false]) rfl (by kernel_rfl) (by kernel_rfl) (by kernel_rfl) rfl ?_
        refine f_val rfl rfl rfl (by intro t_ w hw; exact x_pick_f (.bool false) rfl rfl w) ?_
        refine f_first 15 (listed' := #[true, true, true, true, true, true, true, true, true, true, true, true, true, true, true, true, false, false, false, false, false, false]) rfl (by kernel_rfl) (by kernel_rfl) (by kernel_rfl) rfl ?_
        refine f_val rfl rfl rfl (by intro t_ w hw; exact x_move (.bool false) rfl w) ?_
        refine f_first 16 (listed' := #[true, true, true, true, true, true, true, true, true, true, true, true, true, true, true, true, true, false, false, false, false, false]) rfl (by kernel_rfl) (by kernel_rfl) (by kernel_rfl) rfl ?_
        refine f_take rfl rfl ?_
        refine f_val rfl rfl rfl (by intro t_ w hw; exact x_move (.pointer (some ⟨bk16, 0, none⟩)) rfl w) ?_
        refine f_first 18 (listed' := #[true, true, true, true, true, true, true, true, true, true, true, true, true, true, true, true, true, false, true, false, false, false]) rfl (by kernel_rfl) (by kernel_rfl) (by kernel_rfl) rfl ?_
        refine f_take rfl rfl ?_
        refine f_val rfl rfl rfl (by intro t_ w hw; exact x_move (.pointer (some ⟨bk19, 0, none⟩)) rfl w) ?_
        refine f_all (rs := [17]) (by kernel_rfl) (by simp) ?_
        refine a_cons ⟨_, rfl, ?_⟩ (fun x hx => absurd hx (by simp))
        intro w107 H108
        try dsimp only at H108
        refine r_take rfl rfl ?_
        refine s_call [.pointer (some ⟨bk16, 0, none⟩)] pl_18 rfl rfl (Src_End bk16 bs q39 (by first | omega | decide +kernel | (repeat (first | assumption | exact Nat.zero_le _ | refine natN_pos ?_ | refine srcN_pos ?_ | refine textN_pos ?_))) (by first | omega | decide +kernel)   (i := 3) rfl H108) ?_
        rintro _ w109 ⟨rfl, H110⟩
        refine ⟨RSrc bk19 (remB bs q39) :: SrcA bk16 bs q39 :: F, ?_, H110⟩
        change FReg _ _ _ _ _ #[true, true, true, true, true, true, true, true, true, true, true, true, true, true, true, true, true, true, true, false, false, false] _ _
        refine f_all (rs := [19]) (by kernel_rfl) (by simp) ?_
        refine a_cons ⟨_, rfl, ?_⟩ (fun x hx => absurd hx (by simp))
        intro w111 H112
        try dsimp only at H112
        refine r_take rfl rfl ?_
        refine s_call [.pointer (some ⟨bk19, 0, none⟩)] pl_19 rfl rfl (RSrc_End bk19 (remB bs q39)   (i := 2) rfl H112) ?_
        rintro _ w113 ⟨rfl, H114⟩
        refine ⟨RSrc bk19 (remB bs q39) :: SrcA bk16 bs q39 :: F, ?_, H114⟩
        change FReg _ _ _ _ _ #[true, true, true, true, true, true, true, true, true, true, true, true, true, true, true, true, true, true, true, true, false, false] _ _
        refine f_first 20 (listed' := #[true, true, true, true, true, true, true, true, true, true, true, true, true, true, true, true, true, true, true, true, true, false]) rfl (by kernel_rfl) (by kernel_rfl) (by kernel_rfl) rfl ?_
        refine f_take rfl rfl ?_
        refine f_val rfl rfl rfl (by intro t_ w hw; exact x_neq false rfl rfl (ntrue rfl) w) ?_
        refine f_first 21 (listed' := #[true, true, true, true, true, true, true, true, true, true, true, true, true, true, true, true, true, true, true, true, true, true]) rfl (by kernel_rfl) (by kernel_rfl) (by kernel_rfl) rfl ?_
        refine f_val rfl rfl rfl (by intro t_ w hw; exact x_pick_f (.bool false) rfl rfl w) ?_
        refine f_done (by kernel_rfl) ?_
        intro w115 H116
        refine g_false rfl ?_
        refine g_skip ?_
        refine g_inBlock ?_
        refine g_region ?_
        refine r_cons (s_add ((i : Int) + 1) rfl rfl (wi64 (by omega)) rfl ?_)
        refine r_cons (s_move (.int .i64 ((i : Int) + 1)) rfl rfl ?_)
        refine r_nil ?_
        have H117 : St W w115 (SrcA bk16 bs q39 :: RSrc bk19 (remB bs q39) :: imi (0 < l.length) gA6 (.cells kA8 eA9 zA10) :: F) := ((((H116.move 1 rfl).move 2 rfl).move 3 rfl).drop 3 rfl)
        exact nx28 (i + 1, q39) _ _ ⟨(by omega), (by omega), H117⟩ (by first | (dsimp only; omega) | omega) ⟨by first | rfl | exact vint (by omega), by first | rfl | exact vint (by omega), by first | rfl | exact vint (by omega), by first | rfl | exact vint (by omega), by first | rfl | exact vint (by omega), by first | rfl | exact vint (by omega), trivial⟩
    · skip
      refine r_cons (s_lss false rfl rfl (dfalse hc29) rfl ?_)
      refine r_nil ?_
      refine g_seq ?_
      refine g_false rfl ?_
      refine g_exit (by rfl) ?_
      refine g_seq ?_
      refine g_region ?_
      refine r_cons (s_assign (.bool true) rfl rfl ?_)
      refine r_nil ?_
      refine g_ret' [.bool true] Try.func4 Try.results4 ⟨rfl, trivial⟩ ?_
      have H118 : St W w26 F := (((H27.drop 0 rfl).drop 0 rfl).drop 0 rfl)
      exact ⟨rfl, H118⟩
end Sl
