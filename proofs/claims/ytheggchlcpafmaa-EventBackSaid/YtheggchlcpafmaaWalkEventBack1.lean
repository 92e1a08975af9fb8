/- Walks of the program's functions. Printed by a program of this claim's author. No condition. -/
import Derived.Test.YtheggchlcpafmaaSlQ
import Derived.Test.YtheggchlcpafmaaSlI
import Derived.Test.YtheggchlcpafmaaSlP
import Derived.Test.YtheggchlcpafmaaSlAF
import Derived.Test.YtheggchlcpafmaaSlAG
import Derived.Test.YtheggchlcpafmaaProg
import Derived.Test.YtheggchlcpafmaaWalkEventBack0
namespace Sl
open _root_.Go _root_.Go.RowKit _root_.Go.Proofs
set_option linter.all false
set_option maxHeartbeats 4000000 in
set_option maxRecDepth 100000 in
theorem Sink_nat {W w : World} {F : List Atom} (b : Nat) (L : List Bool) (u : Nat) (hu : u < 18446744073709551616) (hb : L.length ≤ 1048576) {i : Nat} (hi : F[i]? = some (SinkA b L)) (H : St W w F) : Calls Try.prog 109 #[.pointer (some ⟨b, 0, none⟩), .int .u64 (u : Int)] w (Ret fun v w' => v = .tuple #[] ∧ St W w' (F.set i (SinkA b (L ++ natB u)))) := by
  have H0 := H.front hi
  refine calls_of_go (n := 23) Try.func109 rfl Try.ntmps109 rfl ?_
  refine g_seq ?_
  refine g_region ?_
  refine r_cons (s_move (.int .u64 (u : Int)) rfl rfl ?_)
  refine r_cons (s_call [.int .u64 (u : Int)] pl_108 rfl rfl (Size (u) (by omega) H0) ?_)
  rintro _ w1 ⟨rfl, H2⟩
  have hsz := sizeU_le hu
  refine r_cons (s_quo ((sizeU u / 2 : Nat) : Int) rfl rfl (by omega) (by rw [tdiv_pos (by omega)]; exact (wi64 (by omega)).trans (by omega)) rfl ?_)
  refine r_cons (s_assign (.int .i64 ((sizeU u / 2 : Nat) : Int)) rfl rfl ?_)
  refine r_nil ?_
  refine g_seq ?_
  refine g_region ?_
  refine r_cons (s_move (.pointer (some ⟨b, 0, none⟩)) rfl rfl ?_)
  refine r_cons (s_move (.int .i64 ((sizeU u / 2 : Nat) : Int)) rfl rfl ?_)
  refine r_cons (s_call [.pointer (some ⟨b, 0, none⟩), .int .u64 0, .int .i64 ((sizeU u / 2 : Nat) : Int)] pl_74 rfl rfl (Sink_all b L (0) (sizeU u / 2) (by omega) (by omega) (by (try simp only [List.length_append, List.length_cons, List.length_nil, lowB_len]); omega) (i := 0) rfl H2) ?_)
  rintro _ w3 ⟨rfl, H4⟩
  refine r_nil ?_
  refine g_seq ?_
  refine g_seq ?_
  refine g_region ?_
  refine r_cons (s_move (.int .i64 ((sizeU u / 2 : Nat) : Int)) rfl rfl ?_)
  by_cases hc5 : ((sizeU u / 2 : Nat) : Int) = 64
  · skip
    refine r_cons (s_eql true rfl rfl (dtrue hc5) rfl ?_)
    refine r_nil ?_
    refine g_true rfl ?_
    refine g_seq ?_
    refine g_region ?_
    refine r_cons (s_move (.pointer (some ⟨b, 0, none⟩)) rfl rfl ?_)
    refine r_cons (s_call [.pointer (some ⟨b, 0, none⟩), .bool true] pl_92 rfl rfl (Sink_put b (L ++ lowB 0 (sizeU u / 2)) true (by (try simp only [List.length_append, List.length_cons, List.length_nil, lowK_len, lowB_len]); omega) (i := 0) rfl H4) ?_)
    rintro _ w6 ⟨rfl, H7⟩
    refine r_nil ?_
    refine g_seq ?_
    refine g_region ?_
    refine r_cons (s_move (.pointer (some ⟨b, 0, none⟩)) rfl rfl ?_)
    refine r_cons (s_call [.pointer (some ⟨b, 0, none⟩), .int .u64 0, .int .i64 64] pl_74 rfl rfl (Sink_all b ((L ++ lowB 0 (sizeU u / 2)) ++ [true]) (0) (64) (by omega) (by omega) (by (try simp only [List.length_append, List.length_cons, List.length_nil, lowB_len]); omega) (i := 0) rfl H7) ?_)
    rintro _ w8 ⟨rfl, H9⟩
    refine r_nil ?_
    refine g_ret' [] Try.func109 Try.results109 trivial ?_
    have H10 : St W w8 (SinkA b ((L ++ lowB 0 (sizeU u / 2)) ++ [true] ++ lowB 0 64) :: (F.set i emp)) := H9
    have hL : L ++ natB u = (L ++ lowB 0 (sizeU u / 2)) ++ [true] ++ lowB 0 64 := by rw [natB_max ((sizeU_64 hu).1 (by omega))]; simp only [List.append_assoc]
    exact ⟨rfl, by rw [hL]; exact St.back hi H10⟩
  · skip
    refine r_cons (s_eql false rfl rfl (dfalse hc5) rfl ?_)
    refine r_nil ?_
    refine g_false rfl ?_
    refine g_skip ?_
    refine g_region ?_
    have hne : u + 1 < 18446744073709551616 := by have := (sizeU_64 hu); omega
    refine r_cons (s_move (.pointer (some ⟨b, 0, none⟩)) rfl rfl ?_)
    refine r_cons (s_move (.int .u64 (u : Int)) rfl rfl ?_)
    refine r_cons (s_add ((u + 1 : Nat) : Int) rfl rfl ((wu64 (by omega)).trans (by omega)) rfl ?_)
    refine r_cons (s_move (.int .i64 ((sizeU u / 2 : Nat) : Int)) rfl rfl ?_)
    refine r_cons (s_add ((sizeU u / 2 + 1 : Nat) : Int) rfl rfl ((wi64 (by omega)).trans (by omega)) rfl ?_)
    refine r_cons (s_call [.pointer (some ⟨b, 0, none⟩), .int .u64 ((u + 1 : Nat) : Int), .int .i64 ((sizeU u / 2 + 1 : Nat) : Int)] pl_74 rfl rfl (Sink_all b (L ++ lowB 0 (sizeU u / 2)) (u + 1) (sizeU u / 2 + 1) (by omega) (by omega) (by (try simp only [List.length_append, List.length_cons, List.length_nil, lowB_len]); omega) (i := 0) rfl H4) ?_)
    rintro _ w11 ⟨rfl, H12⟩
    refine r_nil ?_
    refine g_end' [] Try.func109 Try.results109 trivial ?_
    have H13 : St W w11 (SinkA b (L ++ lowB 0 (sizeU u / 2) ++ lowB (u + 1) (sizeU u / 2 + 1)) :: (F.set i emp)) := H12
    have hL : L ++ natB u = L ++ lowB 0 (sizeU u / 2) ++ lowB (u + 1) (sizeU u / 2 + 1) := by rw [natB_is (fun h => by have := (sizeU_64 hu).2 h; omega)]; simp only [List.append_assoc]
    exact ⟨rfl, by rw [hL]; exact St.back hi H13⟩
set_option maxHeartbeats 4000000 in
set_option maxRecDepth 100000 in
theorem Sink_Nat {W w : World} {F : List Atom} (b : Nat) (L : List Bool) (u : Nat) (hu : u < 18446744073709551616) (hb : L.length ≤ 1048576) {i : Nat} (hi : F[i]? = some (SinkA b L)) (H : St W w F) : Calls Try.prog 94 #[.pointer (some ⟨b, 0, none⟩), .int .u64 (u : Int)] w (Ret fun v w' => v = .int .i64 (putE L (sizeU u : Int)) ∧ St W w' (F.set i (SinkA b (putL L (natB u))))) := by
  have H0 := H.front hi
  refine calls_of_go (n := 16) Try.func94 rfl Try.ntmps94 rfl ?_
  refine g_seq ?_
  refine g_region ?_
  refine r_cons (s_assign (.int .i64 0) rfl rfl ?_)
  refine r_nil ?_
  refine g_seq ?_
  refine g_region ?_
  refine r_cons (s_move (.pointer (some ⟨b, 0, none⟩)) rfl rfl ?_)
  refine r_cons (s_move (.int .u64 (u : Int)) rfl rfl ?_)
  refine r_cons (s_call [.int .u64 (u : Int)] pl_108 rfl rfl (Size (u) (by omega) H0) ?_)
  rintro _ w1 ⟨rfl, H2⟩
  refine r_cons (s_call [.pointer (some ⟨b, 0, none⟩), .int .i64 (sizeU u : Int)] pl_73 rfl rfl (Sink_room b L (sizeU u : Int) (by first | omega | (simp only [List.length_append, List.length_nil, lowB_len, natB_len]; omega) | (repeat (first | exact Nat.zero_le _ | assumption | refine putL_le ?_ | refine bitsL_le ?_ | refine evPutL_le ?_ | (simp only [List.length_append, List.length_nil, lowB_len, natB_len]; omega)))) (i := 0) rfl H2) ?_)
  rintro _ w3 ⟨rfl, H4⟩
  refine r_cons (s_assign (.int .i64 (putE L (sizeU u : Int))) rfl rfl ?_)
  refine r_nil ?_
  refine g_seq ?_
  refine g_seq ?_
  refine g_region ?_
  refine r_cons (s_move (.int .i64 (putE L (sizeU u : Int))) rfl rfl ?_)
  by_cases hc5 : putE L (sizeU u : Int) = 0
  · skip
    refine r_cons (s_eql true rfl rfl (dtrue hc5) rfl ?_)
    refine r_nil ?_
    refine g_true rfl ?_
    refine g_region ?_
    refine r_cons (s_move (.pointer (some ⟨b, 0, none⟩)) rfl rfl ?_)
    refine r_cons (s_move (.int .u64 (u : Int)) rfl rfl ?_)
    refine r_cons (s_call [.pointer (some ⟨b, 0, none⟩), .int .u64 (u : Int)] pl_109 rfl rfl (Sink_nat b L (u) (by omega) (by first | omega | (simp only [List.length_append, List.length_nil, lowB_len, natB_len]; omega) | (repeat (first | exact Nat.zero_le _ | assumption | refine putL_le ?_ | refine bitsL_le ?_ | refine evPutL_le ?_ | (simp only [List.length_append, List.length_nil, lowB_len, natB_len]; omega)))) (i := 0) rfl H4) ?_)
    rintro _ w6 ⟨rfl, H7⟩
    refine r_nil ?_
    refine g_seq ?_
    refine g_region ?_
    refine r_cons (s_move (.int .i64 (putE L (sizeU u : Int))) rfl rfl ?_)
    refine r_cons (s_assign (.int .i64 (putE L (sizeU u : Int))) rfl rfl ?_)
    refine r_nil ?_
    refine g_ret' [.int .i64 (putE L (sizeU u : Int))] Try.func94 Try.results94 ⟨rfl, trivial⟩ ?_
    have H8 : St W w6 (SinkA b (L ++ natB u) :: (F.set i emp)) := H7
    exact ⟨rfl, by rw [putL_0 (M := natB u) (n := (sizeU u : Int)) (by rw [natB_len]) ‹_›]; exact St.back hi H8⟩
  · skip
    refine r_cons (s_eql false rfl rfl (dfalse hc5) rfl ?_)
    refine r_nil ?_
    refine g_false rfl ?_
    refine g_skip ?_
    refine g_seq ?_
    refine g_region ?_
    refine r_cons (s_move (.int .i64 (putE L (sizeU u : Int))) rfl rfl ?_)
    refine r_cons (s_assign (.int .i64 (putE L (sizeU u : Int))) rfl rfl ?_)
    refine r_nil ?_
    refine g_ret' [.int .i64 (putE L (sizeU u : Int))] Try.func94 Try.results94 ⟨rfl, trivial⟩ ?_
    have H9 : St W w3 (SinkA b L :: (F.set i emp)) := H4
    exact ⟨rfl, by rw [putL_no (M := natB u) (n := (sizeU u : Int)) (by rw [natB_len]) ‹_›]; exact St.back hi H9⟩
set_option maxHeartbeats 4000000 in
set_option maxRecDepth 100000 in
theorem Sink_Num {W w : World} {F : List Atom} (b : Nat) (L : List Bool) (n : Int) (h1 : -9223372036854775808 ≤ n) (h2 : n ≤ 9223372036854775807) (hb : L.length ≤ 1048576) {i : Nat} (hi : F[i]? = some (SinkA b L)) (H : St W w F) : Calls Try.prog 96 #[.pointer (some ⟨b, 0, none⟩), .int .i64 n] w (Ret fun v w' => v = .int .i64 (putE L (sizeU (zigN n) : Int)) ∧ St W w' (F.set i (SinkA b (putL L (natB (zigN n)))))) := by
  have H0 := H.front hi
  refine calls_of_go (n := 13) Try.func96 rfl Try.ntmps96 rfl ?_
  refine g_seq ?_
  refine g_region ?_
  refine r_cons (s_assign (.int .i64 0) rfl rfl ?_)
  refine r_nil ?_
  refine g_seq ?_
  refine g_region ?_
  refine r_cons (s_move (.pointer (some ⟨b, 0, none⟩)) rfl rfl ?_)
  refine r_cons (s_move (.int .i64 n) rfl rfl ?_)
  refine r_cons (s_shl (IntKind.i64.wrap (n * 2 ^ (min (1 : Int).toNat 64))) rfl rfl (by omega) rfl rfl ?_)
  refine r_cons (s_move (.int .i64 n) rfl rfl ?_)
  refine r_cons (s_shr (n.fdiv (2 ^ (min (63 : Int).toNat 64))) rfl rfl (by omega) rfl rfl ?_)
  refine r_cons (s_xor (bitOp .xor .i64 (IntKind.i64.wrap (n * 2 ^ (min (1 : Int).toNat 64))) (n.fdiv (2 ^ (min (63 : Int).toNat 64)))) rfl rfl rfl rfl ?_)
  refine r_cons (s_conv ((zigN n : Nat) : Int) rfl us_2 ik_62 (zig_bits h1 h2) rfl ?_)
  have hz := zigN_lt h1 h2
  refine r_cons (s_call [.pointer (some ⟨b, 0, none⟩), .int .u64 ((zigN n : Nat) : Int)] pl_94 rfl rfl (Sink_Nat b L (zigN n) (by omega) (by first | omega | (simp only [List.length_append, List.length_nil, lowB_len, natB_len]; omega) | (repeat (first | exact Nat.zero_le _ | assumption | refine putL_le ?_ | refine bitsL_le ?_ | refine evPutL_le ?_ | (simp only [List.length_append, List.length_nil, lowB_len, natB_len]; omega)))) (i := 0) rfl H0) ?_)
  rintro _ w1 ⟨rfl, H2⟩
  refine r_cons (s_assign (.int .i64 (putE L (sizeU (zigN n) : Int))) rfl rfl ?_)
  refine r_nil ?_
  refine g_ret' [.int .i64 (putE L (sizeU (zigN n) : Int))] Try.func96 Try.results96 ⟨rfl, trivial⟩ ?_
  have H3 : St W w1 (SinkA b (putL L (natB (zigN n))) :: (F.set i emp)) := H2
  exact ⟨rfl, St.back hi H3⟩
set_option maxHeartbeats 4000000 in
set_option maxRecDepth 100000 in
theorem Sink_Bits {W w : World} {F : List Atom} (b : Nat) (L : List Bool) (u : Nat) (n : Int) (hu : u < 18446744073709551616) (hb : L.length ≤ 1048576) {i : Nat} (hi : F[i]? = some (SinkA b L)) (H : St W w F) : Calls Try.prog 38 #[.pointer (some ⟨b, 0, none⟩), .int .u64 (u : Int), .int .i64 n] w (Ret fun v w' => v = .int .i64 (bitsE L u n) ∧ St W w' (F.set i (SinkA b (bitsL L u n)))) := by
  have H0 := H.front hi
  refine calls_of_go (n := 43) Try.func38 rfl Try.ntmps38 rfl ?_
  refine g_seq ?_
  refine g_region ?_
  refine r_cons (s_assign (.int .i64 0) rfl rfl ?_)
  refine r_nil ?_
  refine g_seq ?_
  refine g_seq ?_
  refine g_region ?_
  refine r_cons (s_move (.pointer (some ⟨b, 0, none⟩)) rfl rfl ?_)
  refine r_cons (s_peql false un_59 rfl rfl rfl rfl ?_)
  refine r_cons (s_move (.bool false) rfl rfl ?_)
  refine r_cons (r_take rfl rfl ?_)
  refine s_move (.pointer (some ⟨b, 0, none⟩)) rfl rfl ?_
  refine r_cons (r_take rfl rfl ?_)
  refine s_nilCheck (.pointer (some ⟨b, 0, none⟩)) rfl ⟨_, rfl⟩ rfl ?_
  refine r_cons (r_take rfl rfl ?_)
  refine s_fieldAddr 111 0 0 0 4 rfl fi_111_0 rfl rfl ?_
  refine r_cons (r_take rfl rfl ?_)
  have H1 := H0.move 0 rfl
  obtain ⟨vv2, H3⟩ := St.open_ex H1
  have H4 := St.open_star H3
  obtain ⟨pp5, cc6, rfl⟩ := Row.slice (i := 1) H4 rfl
  have H7 : St W w (blk b (.cells #[.bool true, .slice pp5 ((L.length + 7) / 8) cc6, .int .i64 (L.length : Int)] 111 (0, 0)) :: Row 5 1 (.slice pp5 ((L.length + 7) / 8) cc6) ((L.length + 7) / 8) ((pk L).flatMap u8c) :: (F.set i emp)) := H4
  refine s_load (.bool true) ag_4 rfl (H7.blk_at (i := 0) rfl) rfl rfl ?_
  refine r_cons (r_take rfl rfl ?_)
  refine s_not true rfl false rfl rfl ?_
  refine r_cons (s_pick_f (.bool false) rfl rfl rfl ?_)
  refine r_nil ?_
  refine g_false rfl ?_
  refine g_skip ?_
  refine g_seq ?_
  refine g_seq ?_
  refine g_region ?_
  refine r_cons (s_move (.int .i64 n) rfl rfl ?_)
  by_cases hc8 : n < 0
  · skip
    refine r_cons (s_lss true rfl rfl (dtrue hc8) rfl ?_)
    refine r_cons (s_move (.bool true) rfl rfl ?_)
    refine r_cons (r_pass rfl rfl rfl rfl rfl ?_)
    refine r_cons (r_pass rfl rfl rfl rfl rfl ?_)
    refine r_cons (s_pick_t (.bool true) rfl rfl rfl ?_)
    refine r_cons (s_move (.bool true) rfl rfl ?_)
    refine r_cons (r_pass rfl rfl rfl rfl rfl ?_)
    refine r_cons (r_pass rfl rfl rfl rfl rfl ?_)
    refine r_cons (r_pass rfl rfl rfl rfl rfl ?_)
    refine r_cons (r_passN rfl rfl rfl rfl ?_)
    refine r_cons (r_passN rfl rfl rfl rfl ?_)
    refine r_cons (r_passN rfl rfl rfl rfl ?_)
    refine r_cons (r_passN rfl rfl rfl rfl ?_)
    refine r_cons (r_pass rfl rfl rfl rfl rfl ?_)
    refine r_cons (s_pick_t (.bool true) rfl rfl rfl ?_)
    refine r_nil ?_
    refine g_true rfl ?_
    refine g_seq ?_
    refine g_region ?_
    refine r_cons (s_assign (.int .i64 1) rfl rfl ?_)
    refine r_nil ?_
    refine g_ret' [.int .i64 1] Try.func38 Try.results38 ⟨rfl, trivial⟩ ?_
    have H9 : St W w (SinkA b L :: (F.set i emp)) := St.shut_ex (.slice pp5 ((L.length + 7) / 8) cc6) (St.shut_star (ls := [blk b (.cells #[.bool true, .slice pp5 ((L.length + 7) / 8) cc6, .int .i64 (L.length : Int)] 111 (0, 0)), Row 5 1 (.slice pp5 ((L.length + 7) / 8) cc6) ((L.length + 7) / 8) ((pk L).flatMap u8c)]) H7)
    have H10 : St W w (SinkA b L :: (F.set i emp)) := H9
    have hf : fitsB u n = false := by first | exact fits_not1 (by omega) | exact fits_not2 ‹_›
    exact ⟨vint (by unfold bitsE; rw [if_neg (by rw [hf]; simp)]), by rw [show bitsL L u n = L from if_neg (by rw [hf]; simp)]; exact St.back hi H10⟩
  · skip
    refine r_cons (s_lss false rfl rfl (dfalse hc8) rfl ?_)
    refine r_cons (s_move (.bool false) rfl rfl ?_)
    refine r_cons (r_take rfl rfl ?_)
    refine s_move (.int .i64 n) rfl rfl ?_
    refine r_cons (r_take rfl rfl ?_)
    by_cases hc11 : (64 : Int) < n
    · skip
      refine s_gtr true rfl rfl (dtrue hc11) rfl ?_
      refine r_cons (s_pick_f (.bool true) rfl rfl rfl ?_)
      refine r_cons (s_move (.bool true) rfl rfl ?_)
      refine r_cons (r_pass rfl rfl rfl rfl rfl ?_)
      refine r_cons (r_pass rfl rfl rfl rfl rfl ?_)
      refine r_cons (r_pass rfl rfl rfl rfl rfl ?_)
      refine r_cons (r_passN rfl rfl rfl rfl ?_)
      refine r_cons (r_passN rfl rfl rfl rfl ?_)
      refine r_cons (r_passN rfl rfl rfl rfl ?_)
      refine r_cons (r_passN rfl rfl rfl rfl ?_)
      refine r_cons (r_pass rfl rfl rfl rfl rfl ?_)
      refine r_cons (s_pick_t (.bool true) rfl rfl rfl ?_)
      refine r_nil ?_
      refine g_true rfl ?_
      refine g_seq ?_
      refine g_region ?_
      refine r_cons (s_assign (.int .i64 1) rfl rfl ?_)
      refine r_nil ?_
      refine g_ret' [.int .i64 1] Try.func38 Try.results38 ⟨rfl, trivial⟩ ?_
      have H12 : St W w (SinkA b L :: (F.set i emp)) := St.shut_ex (.slice pp5 ((L.length + 7) / 8) cc6) (St.shut_star (ls := [blk b (.cells #[.bool true, .slice pp5 ((L.length + 7) / 8) cc6, .int .i64 (L.length : Int)] 111 (0, 0)), Row 5 1 (.slice pp5 ((L.length + 7) / 8) cc6) ((L.length + 7) / 8) ((pk L).flatMap u8c)]) H7)
      have H13 : St W w (SinkA b L :: (F.set i emp)) := H12
      have hf : fitsB u n = false := by first | exact fits_not1 (by omega) | exact fits_not2 ‹_›
      exact ⟨vint (by unfold bitsE; rw [if_neg (by rw [hf]; simp)]), by rw [show bitsL L u n = L from if_neg (by rw [hf]; simp)]; exact St.back hi H13⟩
    · skip
      refine s_gtr false rfl rfl (dfalse hc11) rfl ?_
      refine r_cons (s_pick_f (.bool false) rfl rfl rfl ?_)
      refine r_cons (s_move (.bool false) rfl rfl ?_)
      refine r_cons (r_take rfl rfl ?_)
      refine s_move (.int .i64 n) rfl rfl ?_
      refine r_cons (r_take rfl rfl ?_)
      by_cases hc14 : n < 64
      · skip
        refine s_lss true rfl rfl (dtrue hc14) rfl ?_
        refine r_cons (r_take rfl rfl ?_)
        refine s_move (.bool true) rfl rfl ?_
        refine r_cons (r_take rfl rfl ?_)
        refine s_move (.int .u64 (u : Int)) rfl rfl ?_
        refine r_cons (r_take rfl rfl ?_)
        refine s_move (.int .i64 n) rfl rfl ?_
        refine r_cons (r_take rfl rfl ?_)
        refine s_shr ((u / 2 ^ n.toNat : Nat) : Int) rfl rfl (by omega) (shr_nat (k := n.toNat) (by omega) (by show _ ≤ 64; omega)) rfl ?_
        refine r_cons (r_take rfl rfl ?_)
        by_cases hc15 : ((u / 2 ^ n.toNat : Nat) : Int) = 0
        · skip
          refine s_neq false rfl rfl (ntrue hc15) rfl ?_
          refine r_cons (r_take rfl rfl ?_)
          refine s_pick_t (.bool false) rfl rfl rfl ?_
          refine r_cons (s_pick_f (.bool false) rfl rfl rfl ?_)
          refine r_nil ?_
          refine g_false rfl ?_
          refine g_skip ?_
          refine g_seq ?_
          refine g_region ?_
          have hf : fitsB u n = true := by first | exact fits_64 hu (by omega) | exact fits_yes (by omega) (by omega) ‹_›
          have hnn : n = (n.toNat : Int) := by omega
          refine r_cons (s_move (.pointer (some ⟨b, 0, none⟩)) rfl rfl ?_)
          refine r_cons (s_move (.int .i64 n) rfl rfl ?_)
          have H16 : St W w (SinkA b L :: (F.set i emp)) := St.shut_ex (.slice pp5 ((L.length + 7) / 8) cc6) (St.shut_star (ls := [blk b (.cells #[.bool true, .slice pp5 ((L.length + 7) / 8) cc6, .int .i64 (L.length : Int)] 111 (0, 0)), Row 5 1 (.slice pp5 ((L.length + 7) / 8) cc6) ((L.length + 7) / 8) ((pk L).flatMap u8c)]) H7)
          refine r_cons (s_call [.pointer (some ⟨b, 0, none⟩), .int .i64 n] pl_73 rfl rfl (Sink_room b L n (by first | omega | (simp only [List.length_append, List.length_nil, lowB_len, natB_len]; omega) | (repeat (first | exact Nat.zero_le _ | assumption | refine putL_le ?_ | refine bitsL_le ?_ | refine evPutL_le ?_ | (simp only [List.length_append, List.length_nil, lowB_len, natB_len]; omega)))) (i := 0) rfl H16) ?_)
          rintro _ w17 ⟨rfl, H18⟩
          refine r_cons (s_assign (.int .i64 (putE L n)) rfl rfl ?_)
          refine r_nil ?_
          refine g_seq ?_
          refine g_seq ?_
          refine g_region ?_
          refine r_cons (s_move (.int .i64 (putE L n)) rfl rfl ?_)
          by_cases hc19 : putE L n = 0
          · skip
            refine r_cons (s_eql true rfl rfl (dtrue hc19) rfl ?_)
            refine r_nil ?_
            refine g_true rfl ?_
            refine g_region ?_
            refine r_cons (s_move (.pointer (some ⟨b, 0, none⟩)) rfl rfl ?_)
            refine r_cons (s_move (.int .u64 (u : Int)) rfl rfl ?_)
            refine r_cons (s_move (.int .i64 n) rfl rfl ?_)
            refine r_cons (s_call [.pointer (some ⟨b, 0, none⟩), .int .u64 (u : Int), .int .i64 ((n.toNat : Nat) : Int)] pl_74 (by rw [← hnn]; rfl) rfl (Sink_all b L u n.toNat (by omega) (by omega) (by omega) (i := 0) rfl H18) ?_)
            rintro _ w20 ⟨rfl, H21⟩
            refine r_nil ?_
            refine g_seq ?_
            refine g_region ?_
            refine r_cons (s_move (.int .i64 (putE L n)) rfl rfl ?_)
            refine r_cons (s_assign (.int .i64 (putE L n)) rfl rfl ?_)
            refine r_nil ?_
            refine g_ret' [.int .i64 (putE L n)] Try.func38 Try.results38 ⟨rfl, trivial⟩ ?_
            have H22 : St W w20 (SinkA b (L ++ lowB u n.toNat) :: (F.set i emp)) := H21
            exact ⟨vint (by unfold bitsE; rw [if_pos hf]), by rw [show bitsL L u n = putL L (lowB u n.toNat) from if_pos hf, putL_0 (M := lowB u n.toNat) (n := n) (by rw [lowB_len]; omega) ‹_›]; exact St.back hi H22⟩
          · skip
            refine r_cons (s_eql false rfl rfl (dfalse hc19) rfl ?_)
            refine r_nil ?_
            refine g_false rfl ?_
            refine g_skip ?_
            refine g_seq ?_
            refine g_region ?_
            refine r_cons (s_move (.int .i64 (putE L n)) rfl rfl ?_)
            refine r_cons (s_assign (.int .i64 (putE L n)) rfl rfl ?_)
            refine r_nil ?_
            refine g_ret' [.int .i64 (putE L n)] Try.func38 Try.results38 ⟨rfl, trivial⟩ ?_
            have H23 : St W w17 (SinkA b L :: (F.set i emp)) := H18
            exact ⟨vint (by unfold bitsE; rw [if_pos hf]), by rw [show bitsL L u n = putL L (lowB u n.toNat) from if_pos hf, putL_no (M := lowB u n.toNat) (n := n) (by rw [lowB_len]; omega) ‹_›]; exact St.back hi H23⟩
        · skip
          refine s_neq true rfl rfl (nfalse hc15) rfl ?_
          refine r_cons (r_take rfl rfl ?_)
          refine s_pick_t (.bool true) rfl rfl rfl ?_
          refine r_cons (s_pick_f (.bool true) rfl rfl rfl ?_)
          refine r_nil ?_
          refine g_true rfl ?_
          refine g_seq ?_
          refine g_region ?_
          refine r_cons (s_assign (.int .i64 1) rfl rfl ?_)
          refine r_nil ?_
          refine g_ret' [.int .i64 1] Try.func38 Try.results38 ⟨rfl, trivial⟩ ?_
          have H24 : St W w (SinkA b L :: (F.set i emp)) := St.shut_ex (.slice pp5 ((L.length + 7) / 8) cc6) (St.shut_star (ls := [blk b (.cells #[.bool true, .slice pp5 ((L.length + 7) / 8) cc6, .int .i64 (L.length : Int)] 111 (0, 0)), Row 5 1 (.slice pp5 ((L.length + 7) / 8) cc6) ((L.length + 7) / 8) ((pk L).flatMap u8c)]) H7)
          have H25 : St W w (SinkA b L :: (F.set i emp)) := H24
          have hf : fitsB u n = false := by first | exact fits_not1 (by omega) | exact fits_not2 ‹_›
          exact ⟨vint (by unfold bitsE; rw [if_neg (by rw [hf]; simp)]), by rw [show bitsL L u n = L from if_neg (by rw [hf]; simp)]; exact St.back hi H25⟩
      · skip
        refine s_lss false rfl rfl (dfalse hc14) rfl ?_
        refine r_cons (r_take rfl rfl ?_)
        refine s_move (.bool false) rfl rfl ?_
        refine r_cons (r_pass rfl rfl rfl rfl rfl ?_)
        refine r_cons (r_pass rfl rfl rfl rfl rfl ?_)
        refine r_cons (r_pass rfl rfl rfl rfl rfl ?_)
        refine r_cons (r_pass rfl rfl rfl rfl rfl ?_)
        refine r_cons (r_take rfl rfl ?_)
        refine s_pick_f (.bool false) rfl rfl rfl ?_
        refine r_cons (s_pick_f (.bool false) rfl rfl rfl ?_)
        refine r_nil ?_
        refine g_false rfl ?_
        refine g_skip ?_
        refine g_seq ?_
        refine g_region ?_
        have hf : fitsB u n = true := by first | exact fits_64 hu (by omega) | exact fits_yes (by omega) (by omega) ‹_›
        have hnn : n = (n.toNat : Int) := by omega
        refine r_cons (s_move (.pointer (some ⟨b, 0, none⟩)) rfl rfl ?_)
        refine r_cons (s_move (.int .i64 n) rfl rfl ?_)
        have H26 : St W w (SinkA b L :: (F.set i emp)) := St.shut_ex (.slice pp5 ((L.length + 7) / 8) cc6) (St.shut_star (ls := [blk b (.cells #[.bool true, .slice pp5 ((L.length + 7) / 8) cc6, .int .i64 (L.length : Int)] 111 (0, 0)), Row 5 1 (.slice pp5 ((L.length + 7) / 8) cc6) ((L.length + 7) / 8) ((pk L).flatMap u8c)]) H7)
        refine r_cons (s_call [.pointer (some ⟨b, 0, none⟩), .int .i64 n] pl_73 rfl rfl (Sink_room b L n (by first | omega | (simp only [List.length_append, List.length_nil, lowB_len, natB_len]; omega) | (repeat (first | exact Nat.zero_le _ | assumption | refine putL_le ?_ | refine bitsL_le ?_ | refine evPutL_le ?_ | (simp only [List.length_append, List.length_nil, lowB_len, natB_len]; omega)))) (i := 0) rfl H26) ?_)
        rintro _ w27 ⟨rfl, H28⟩
        refine r_cons (s_assign (.int .i64 (putE L n)) rfl rfl ?_)
        refine r_nil ?_
        refine g_seq ?_
        refine g_seq ?_
        refine g_region ?_
        refine r_cons (s_move (.int .i64 (putE L n)) rfl rfl ?_)
        by_cases hc29 : putE L n = 0
        · skip
          refine r_cons (s_eql true rfl rfl (dtrue hc29) rfl ?_)
          refine r_nil ?_
          refine g_true rfl ?_
          refine g_region ?_
          refine r_cons (s_move (.pointer (some ⟨b, 0, none⟩)) rfl rfl ?_)
          refine r_cons (s_move (.int .u64 (u : Int)) rfl rfl ?_)
          refine r_cons (s_move (.int .i64 n) rfl rfl ?_)
          refine r_cons (s_call [.pointer (some ⟨b, 0, none⟩), .int .u64 (u : Int), .int .i64 ((n.toNat : Nat) : Int)] pl_74 (by rw [← hnn]; rfl) rfl (Sink_all b L u n.toNat (by omega) (by omega) (by omega) (i := 0) rfl H28) ?_)
          rintro _ w30 ⟨rfl, H31⟩
          refine r_nil ?_
          refine g_seq ?_
          refine g_region ?_
          refine r_cons (s_move (.int .i64 (putE L n)) rfl rfl ?_)
          refine r_cons (s_assign (.int .i64 (putE L n)) rfl rfl ?_)
          refine r_nil ?_
          refine g_ret' [.int .i64 (putE L n)] Try.func38 Try.results38 ⟨rfl, trivial⟩ ?_
          have H32 : St W w30 (SinkA b (L ++ lowB u n.toNat) :: (F.set i emp)) := H31
          exact ⟨vint (by unfold bitsE; rw [if_pos hf]), by rw [show bitsL L u n = putL L (lowB u n.toNat) from if_pos hf, putL_0 (M := lowB u n.toNat) (n := n) (by rw [lowB_len]; omega) ‹_›]; exact St.back hi H32⟩
        · skip
          refine r_cons (s_eql false rfl rfl (dfalse hc29) rfl ?_)
          refine r_nil ?_
          refine g_false rfl ?_
          refine g_skip ?_
          refine g_seq ?_
          refine g_region ?_
          refine r_cons (s_move (.int .i64 (putE L n)) rfl rfl ?_)
          refine r_cons (s_assign (.int .i64 (putE L n)) rfl rfl ?_)
          refine r_nil ?_
          refine g_ret' [.int .i64 (putE L n)] Try.func38 Try.results38 ⟨rfl, trivial⟩ ?_
          have H33 : St W w27 (SinkA b L :: (F.set i emp)) := H28
          exact ⟨vint (by unfold bitsE; rw [if_pos hf]), by rw [show bitsL L u n = putL L (lowB u n.toNat) from if_pos hf, putL_no (M := lowB u n.toNat) (n := n) (by rw [lowB_len]; omega) ‹_›]; exact St.back hi H33⟩
set_option maxHeartbeats 4000000 in
set_option maxRecDepth 100000 in
theorem Sink_Text {W w : World} {F : List Atom} (b : Nat) (L : List Bool) (s : ByteArray) (hs : s.size ≤ 140737488355328) (hb : L.length ≤ 1048576) {i : Nat} (hi : F[i]? = some (SinkA b L)) (H : St W w F) : Calls Try.prog 95 #[.pointer (some ⟨b, 0, none⟩), .string s] w (Ret fun v w' => v = .int .i64 (putE L ((textB s).length : Int)) ∧ St W w' (F.set i (SinkA b (putL L (textB s))))) := by
  have H0 := H.front hi
  refine calls_of_go (n := 50) Try.func95 rfl Try.ntmps95 rfl ?_
  refine g_seq ?_
  refine g_region ?_
  refine r_cons (s_assign (.int .i64 0) rfl rfl ?_)
  refine r_nil ?_
  refine g_seq ?_
  refine g_seq ?_
  refine g_region ?_
  refine r_cons (s_move (.pointer (some ⟨b, 0, none⟩)) rfl rfl ?_)
  refine r_cons (s_peql false un_59 rfl rfl rfl rfl ?_)
  refine r_cons (s_move (.bool false) rfl rfl ?_)
  refine r_cons (r_take rfl rfl ?_)
  refine s_move (.pointer (some ⟨b, 0, none⟩)) rfl rfl ?_
  refine r_cons (r_take rfl rfl ?_)
  refine s_nilCheck (.pointer (some ⟨b, 0, none⟩)) rfl ⟨_, rfl⟩ rfl ?_
  refine r_cons (r_take rfl rfl ?_)
  refine s_fieldAddr 111 0 0 0 4 rfl fi_111_0 rfl rfl ?_
  refine r_cons (r_take rfl rfl ?_)
  have H1 := H0.move 0 rfl
  obtain ⟨vv2, H3⟩ := St.open_ex H1
  have H4 := St.open_star H3
  obtain ⟨pp5, cc6, rfl⟩ := Row.slice (i := 1) H4 rfl
  have H7 : St W w (blk b (.cells #[.bool true, .slice pp5 ((L.length + 7) / 8) cc6, .int .i64 (L.length : Int)] 111 (0, 0)) :: Row 5 1 (.slice pp5 ((L.length + 7) / 8) cc6) ((L.length + 7) / 8) ((pk L).flatMap u8c) :: (F.set i emp)) := H4
  refine s_load (.bool true) ag_4 rfl (H7.blk_at (i := 0) rfl) rfl rfl ?_
  refine r_cons (r_take rfl rfl ?_)
  refine s_not true rfl false rfl rfl ?_
  refine r_cons (s_pick_f (.bool false) rfl rfl rfl ?_)
  refine r_nil ?_
  refine g_false rfl ?_
  refine g_skip ?_
  refine g_seq ?_
  refine g_seq ?_
  refine g_region ?_
  refine r_cons (s_move (.string s) rfl rfl ?_)
  refine r_cons (s_len_str (s).size rfl st_9 rfl rfl ?_)
  by_cases hc8 : (1048576 : Int) < (s.size : Int)
  · skip
    refine r_cons (s_gtr true rfl rfl (dtrue hc8) rfl ?_)
    refine r_nil ?_
    refine g_true rfl ?_
    refine g_seq ?_
    refine g_region ?_
    refine r_cons (s_assign (.int .i64 3) rfl rfl ?_)
    refine r_nil ?_
    refine g_ret' [.int .i64 3] Try.func95 Try.results95 ⟨rfl, trivial⟩ ?_
    have H9 : St W w (SinkA b L :: (F.set i emp)) := St.shut_ex (.slice pp5 ((L.length + 7) / 8) cc6) (St.shut_star (ls := [blk b (.cells #[.bool true, .slice pp5 ((L.length + 7) / 8) cc6, .int .i64 (L.length : Int)] 111 (0, 0)), Row 5 1 (.slice pp5 ((L.length + 7) / 8) cc6) ((L.length + 7) / 8) ((pk L).flatMap u8c)]) H7)
    have H10 : St W w (SinkA b L :: (F.set i emp)) := H9
    have he : putE L ((textB s).length : Int) = 3 := putE_3 (by rw [textB_len]; push_cast; omega)
    exact ⟨vint he.symm, by rw [putL_no rfl (by rw [he]; decide)]; exact St.back hi H10⟩
  · skip
    refine r_cons (s_gtr false rfl rfl (dfalse hc8) rfl ?_)
    refine r_nil ?_
    refine g_false rfl ?_
    refine g_skip ?_
    refine g_seq ?_
    refine g_region ?_
    refine r_cons (s_move (.pointer (some ⟨b, 0, none⟩)) rfl rfl ?_)
    refine r_cons (s_move (.string s) rfl rfl ?_)
    refine r_cons (s_len_str (s).size rfl st_9 rfl rfl ?_)
    refine r_cons (s_conv (s.size : Int) rfl us_3 ik_62 (wu64 (by omega)) rfl ?_)
    refine r_cons (s_call [.int .u64 (s.size : Int)] pl_108 rfl rfl (Size (s.size) (by omega) H7) ?_)
    rintro _ w11 ⟨rfl, H12⟩
    refine r_cons (s_move (.string s) rfl rfl ?_)
    refine r_cons (s_len_str (s).size rfl st_9 rfl rfl ?_)
    have hsz := sizeU_le (u := s.size) (by omega)
    refine r_cons (s_mul (8 * (s.size : Int)) rfl rfl (wi64 (by omega)) rfl ?_)
    refine r_cons (s_add ((sizeU s.size : Int) + (8 * (s.size : Int))) rfl rfl (wi64 (by omega)) rfl ?_)
    have H13 : St W w11 (SinkA b L :: (F.set i emp)) := St.shut_ex (.slice pp5 ((L.length + 7) / 8) cc6) (St.shut_star (ls := [blk b (.cells #[.bool true, .slice pp5 ((L.length + 7) / 8) cc6, .int .i64 (L.length : Int)] 111 (0, 0)), Row 5 1 (.slice pp5 ((L.length + 7) / 8) cc6) ((L.length + 7) / 8) ((pk L).flatMap u8c)]) H12)
    refine r_cons (s_call [.pointer (some ⟨b, 0, none⟩), .int .i64 ((sizeU s.size : Int) + (8 * (s.size : Int)))] pl_73 rfl rfl (Sink_room b L ((sizeU s.size : Int) + (8 * (s.size : Int))) (by first | omega | (simp only [List.length_append, List.length_nil, lowB_len, natB_len]; omega) | (repeat (first | exact Nat.zero_le _ | assumption | refine putL_le ?_ | refine bitsL_le ?_ | refine evPutL_le ?_ | (simp only [List.length_append, List.length_nil, lowB_len, natB_len]; omega)))) (i := 0) rfl H13) ?_)
    rintro _ w14 ⟨rfl, H15⟩
    refine r_cons (s_assign (.int .i64 (putE L ((sizeU s.size : Int) + (8 * (s.size : Int))))) rfl rfl ?_)
    refine r_nil ?_
    refine g_seq ?_
    refine g_seq ?_
    refine g_region ?_
    refine r_cons (s_move (.int .i64 (putE L ((sizeU s.size : Int) + (8 * (s.size : Int))))) rfl rfl ?_)
    by_cases hc16 : putE L ((sizeU s.size : Int) + (8 * (s.size : Int))) = 0
    · skip
      refine r_cons (s_eql true rfl rfl (dtrue hc16) rfl ?_)
      refine r_nil ?_
      refine g_true rfl ?_
      refine g_seq ?_
      refine g_region ?_
      have hr := putE_room ‹putE L ((sizeU s.size : Int) + 8 * (s.size : Int)) = 0›
      have hnl := natB_len s.size
      refine r_cons (s_move (.pointer (some ⟨b, 0, none⟩)) rfl rfl ?_)
      refine r_cons (s_move (.string s) rfl rfl ?_)
      refine r_cons (s_len_str (s).size rfl st_9 rfl rfl ?_)
      refine r_cons (s_conv (s.size : Int) rfl us_3 ik_62 (wu64 (by omega)) rfl ?_)
      refine r_cons (s_call [.pointer (some ⟨b, 0, none⟩), .int .u64 (s.size : Int)] pl_109 rfl rfl (Sink_nat b L (s.size) (by omega) (by first | omega | (simp only [List.length_append, List.length_nil, lowB_len, natB_len]; omega) | (repeat (first | exact Nat.zero_le _ | assumption | refine putL_le ?_ | refine bitsL_le ?_ | refine evPutL_le ?_ | (simp only [List.length_append, List.length_nil, lowB_len, natB_len]; omega)))) (i := 0) rfl H15) ?_)
      rintro _ w17 ⟨rfl, H18⟩
      refine r_nil ?_
      refine g_seq ?_
      refine g_region ?_
      refine r_cons (s_move (.string s) rfl rfl ?_)
      refine r_cons (s_str_bytes H18 s rfl us_9 un_66 un_5 rfl ?_); intro bk19 w20 cap22 N23 tl24 hN23 hcap22 htl24 H21
      refine r_cons (s_len s.size rfl ⟨_, un_66⟩ rfl ?_)
      refine r_cons (s_move (.int .i64 0) rfl rfl ?_)
      refine r_nil ?_
      refine g_block ?_
      have H25 : St W w20 (SinkA b (L ++ natB s.size) :: blk bk19 (.cells ((bytesV s.data.toList ++ tl24).toArray) 5 (N23, N23 + 1)) :: (F.set i emp)) := (H21.move 1 rfl)
      have H26 : St W w20 (SinkA b (L ++ natB s.size ++ textK s 0) :: blk bk19 (.cells ((bytesV s.data.toList ++ tl24).toArray) 5 (N23, N23 + 1)) :: (F.set i emp)) := by rw [show L ++ natB s.size ++ textK s 0 = L ++ natB s.size from List.append_nil _]; exact H25
      refine g_loop_inv (fun (x_ : Nat) => match x_ with | j => [(0, .pointer (some ⟨b, 0, none⟩)), (4, .int .i64 0), (5, .int .i64 (putE L ((sizeU s.size : Int) + (8 * (s.size : Int))))), (38, .slice (some ⟨bk19, 0, none⟩) s.size cap22), (39, .int .i64 (s.size : Int)), (40, .int .i64 (j : Int))]) (fun (x_ : Nat) w => match x_ with | j => (j ≤ s.size) ∧ St W w (SinkA b (L ++ natB s.size ++ textK s j) :: blk bk19 (.cells ((bytesV s.data.toList ++ tl24).toArray) 5 (N23, N23 + 1)) :: (F.set i emp))) (fun (x_ : Nat) => match x_ with | j => s.size - j) (0) ?_ ?_ ?_
      · exact ⟨by first | rfl | exact vint (by omega), by first | rfl | exact vint (by omega), by first | rfl | exact vint (by omega), by first | rfl | exact vint (by omega), by first | rfl | exact vint (by omega), by first | rfl | exact vint (by omega), trivial⟩
      · exact ⟨(by omega), H26⟩
      · rintro j ρ27 w28 ⟨hj, H29⟩ nx30
        change Ends _ _ (upds ρ27 [(0, .pointer (some ⟨b, 0, none⟩)), (4, .int .i64 0), (5, .int .i64 (putE L ((sizeU s.size : Int) + (8 * (s.size : Int))))), (38, .slice (some ⟨bk19, 0, none⟩) s.size cap22), (39, .int .i64 (s.size : Int)), (40, .int .i64 (j : Int))]) w28
        refine g_seq ?_
        refine g_region ?_
        by_cases hc31 : (j : Int) < (s.size : Int)
        · skip
          refine r_cons (s_lss true rfl rfl (dtrue hc31) rfl ?_)
          refine r_nil ?_
          refine g_seq ?_
          refine g_true rfl ?_
          refine g_skip ?_
          refine g_seq ?_
          refine g_block ?_
          refine g_seq ?_
          refine g_region ?_
          refine r_cons (s_indexAddr bk19 (j : Int) 1 (0 + j * 1) rfl rfl el_66 (by omega) rfl rfl ?_)
          refine r_cons (s_load (.int .u8 ((s.data.toList.getD j 0).toNat : Int)) ag_5 rfl (H29.blk_at (i := 1) rfl) (by have hh := bytes_get s tl24 j (by omega); rw [show 0 + j * 1 = j from by omega]; exact hh) rfl ?_)
          refine r_cons (s_assign (.int .u8 ((s.data.toList.getD j 0).toNat : Int)) rfl rfl ?_)
          refine r_nil ?_
          refine g_region ?_
          have htl := textK_len s j
          have hlt := byteAt_lt s j
          refine r_cons (s_move (.pointer (some ⟨b, 0, none⟩)) rfl rfl ?_)
          refine r_cons (s_move (.int .u8 ((s.data.toList.getD j 0).toNat : Int)) rfl rfl ?_)
          refine r_cons (s_conv ((s.data.toList.getD j 0).toNat : Int) rfl us_5 ik_62 (wu64 (by omega)) rfl ?_)
          refine r_cons (s_call [.pointer (some ⟨b, 0, none⟩), .int .u64 ((s.data.toList.getD j 0).toNat : Int), .int .i64 8] pl_74 rfl rfl (Sink_all b (L ++ natB s.size ++ textK s j) ((s.data.toList.getD j 0).toNat) (8) (by omega) (by omega) (by (try simp only [List.length_append, List.length_cons, List.length_nil, lowB_len]); omega) (i := 0) rfl H29) ?_)
          rintro _ w32 ⟨rfl, H33⟩
          refine r_nil ?_
          refine g_inBlock ?_
          refine g_region ?_
          refine r_cons (s_add ((j : Int) + 1) rfl rfl (wi64 (by omega)) rfl ?_)
          refine r_cons (s_move (.int .i64 ((j : Int) + 1)) rfl rfl ?_)
          refine r_nil ?_
          have H34 : St W w32 (SinkA b (L ++ natB s.size ++ textK s j ++ lowB ((s.data.toList.getD j 0).toNat) 8) :: blk bk19 (.cells ((bytesV s.data.toList ++ tl24).toArray) 5 (N23, N23 + 1)) :: (F.set i emp)) := ((H33.move 1 rfl).move 1 rfl)
          have H35 : St W w32 (SinkA b (L ++ natB s.size ++ textK s (j + 1)) :: blk bk19 (.cells ((bytesV s.data.toList ++ tl24).toArray) 5 (N23, N23 + 1)) :: (F.set i emp)) := by rw [textK_succ (by omega), ← List.append_assoc]; exact H34
          exact nx30 (j + 1) _ _ ⟨(by omega), H35⟩ (by first | (dsimp only; omega) | omega) ⟨by first | rfl | exact vint (by omega), by first | rfl | exact vint (by omega), by first | rfl | exact vint (by omega), by first | rfl | exact vint (by omega), by first | rfl | exact vint (by omega), by first | rfl | exact vint (by omega), trivial⟩
        · skip
          refine r_cons (s_lss false rfl rfl (dfalse hc31) rfl ?_)
          refine r_nil ?_
          refine g_seq ?_
          refine g_false rfl ?_
          refine g_exit (by rfl) ?_
          refine g_seq ?_
          refine g_region ?_
          refine r_cons (s_move (.int .i64 (putE L ((sizeU s.size : Int) + (8 * (s.size : Int))))) rfl rfl ?_)
          refine r_cons (s_assign (.int .i64 (putE L ((sizeU s.size : Int) + (8 * (s.size : Int))))) rfl rfl ?_)
          refine r_nil ?_
          refine g_ret' [.int .i64 (putE L ((sizeU s.size : Int) + (8 * (s.size : Int))))] Try.func95 Try.results95 ⟨rfl, trivial⟩ ?_
          have H36 : St W w28 (SinkA b (L ++ natB s.size ++ textK s j) :: (F.set i emp)) := (H29.drop 1 rfl)
          obtain rfl : j = s.size := by omega
          have hL : L ++ textB s = L ++ natB s.size ++ textK s s.size := by rw [textK_all, List.append_assoc]
          have he : putE L ((textB s).length : Int) = 0 := by rw [textB_len]; push_cast; assumption
          exact ⟨vint (by rw [he]; assumption), by rw [putL_0 rfl he, hL]; exact St.back hi H36⟩
    · skip
      refine r_cons (s_eql false rfl rfl (dfalse hc16) rfl ?_)
      refine r_nil ?_
      refine g_false rfl ?_
      refine g_skip ?_
      refine g_seq ?_
      refine g_region ?_
      refine r_cons (s_move (.int .i64 (putE L ((sizeU s.size : Int) + (8 * (s.size : Int))))) rfl rfl ?_)
      refine r_cons (s_assign (.int .i64 (putE L ((sizeU s.size : Int) + (8 * (s.size : Int))))) rfl rfl ?_)
      refine r_nil ?_
      refine g_ret' [.int .i64 (putE L ((sizeU s.size : Int) + (8 * (s.size : Int))))] Try.func95 Try.results95 ⟨rfl, trivial⟩ ?_
      have H37 : St W w14 (SinkA b L :: (F.set i emp)) := H15
      have he : putE L ((textB s).length : Int) = putE L ((sizeU s.size : Int) + 8 * (s.size : Int)) := by rw [textB_len]; push_cast; rfl
      exact ⟨vint he.symm, by rw [putL_no rfl (by rw [he]; assumption)]; exact St.back hi H37⟩
set_option maxHeartbeats 4000000 in
set_option maxRecDepth 100000 in
theorem Sink_Flags {W w : World} {F : List Atom} (b : Nat) (L : List Bool) (M : List Bool) (mv : Value) (hb : L.length ≤ 1048576) {j : Nat} (hj : F[j]? = some (Im 1 mv M.length (M.flatMap blc))) {i : Nat} (hi : F[i]? = some (SinkA b L)) (H : St W w F) : Calls Try.prog 75 #[.pointer (some ⟨b, 0, none⟩), mv] w (Ret fun v w' => v = .int .i64 (putE L (M.length : Int)) ∧ St W w' (F.set i (SinkA b (putL L M)))) := by
  obtain ⟨pA1, cA2, gA3, oA4, kA5, eA6, zA7, rfl, hn8, hp9, hx10, hs11, hml, H12⟩ := Im.open_ H hj
  have H0 := H12.front (i := i + 1) (by exact hi)
  refine calls_of_go (n := 25) Try.func75 rfl Try.ntmps75 rfl ?_
  refine g_seq ?_
  refine g_region ?_
  refine r_cons (s_assign (.int .i64 0) rfl rfl ?_)
  refine r_nil ?_
  refine g_seq ?_
  refine g_region ?_
  refine r_cons (s_move (.pointer (some ⟨b, 0, none⟩)) rfl rfl ?_)
  refine r_cons (s_move (.slice pA1 M.length cA2) rfl rfl ?_)
  refine r_cons (s_len M.length rfl ⟨_, un_50⟩ rfl ?_)
  refine r_cons (s_call [.pointer (some ⟨b, 0, none⟩), .int .i64 (M.length : Int)] pl_73 rfl rfl (Sink_room b L (M.length : Int) (by first | omega | (simp only [List.length_append, List.length_nil, lowB_len, natB_len]; omega) | (repeat (first | exact Nat.zero_le _ | assumption | refine putL_le ?_ | refine bitsL_le ?_ | refine evPutL_le ?_ | (simp only [List.length_append, List.length_nil, lowB_len, natB_len]; omega)))) (i := 0) rfl H0) ?_)
  rintro _ w13 ⟨rfl, H14⟩
  refine r_cons (s_assign (.int .i64 (putE L (M.length : Int))) rfl rfl ?_)
  refine r_nil ?_
  refine g_seq ?_
  refine g_seq ?_
  refine g_region ?_
  refine r_cons (s_move (.int .i64 (putE L (M.length : Int))) rfl rfl ?_)
  by_cases hc15 : putE L (M.length : Int) = 0
  · skip
    refine r_cons (s_eql true rfl rfl (dtrue hc15) rfl ?_)
    refine r_nil ?_
    refine g_true rfl ?_
    refine g_seq ?_
    refine g_region ?_
    have hr := putE_room ‹putE L (M.length : Int) = 0›
    refine r_cons (s_move (.slice pA1 M.length cA2) rfl rfl ?_)
    refine r_cons (s_len M.length rfl ⟨_, un_50⟩ rfl ?_)
    refine r_cons (s_move (.int .i64 0) rfl rfl ?_)
    refine r_nil ?_
    refine g_block ?_
    have H16 : St W w13 (SinkA b L :: imi (0 < M.length) gA3 (.cells kA5 eA6 zA7) :: (F.set i emp)) := ((H14.move 1 rfl).move 1 rfl)
    have H17 : St W w13 (SinkA b (L ++ M.take 0) :: imi (0 < M.length) gA3 (.cells kA5 eA6 zA7) :: (F.set i emp)) := by rw [show L ++ M.take 0 = L from List.append_nil _]; exact H16
    refine g_loop_inv (fun (x_ : Nat) => match x_ with | j => [(0, .pointer (some ⟨b, 0, none⟩)), (4, .int .i64 0), (5, .int .i64 (putE L (M.length : Int))), (14, .slice pA1 M.length cA2), (15, .int .i64 (M.length : Int)), (16, .int .i64 (j : Int))]) (fun (x_ : Nat) w => match x_ with | j => (j ≤ M.length) ∧ St W w (SinkA b (L ++ M.take j) :: imi (0 < M.length) gA3 (.cells kA5 eA6 zA7) :: (F.set i emp))) (fun (x_ : Nat) => match x_ with | j => M.length - j) (0) ?_ ?_ ?_
    · exact ⟨by first | rfl | exact vint (by omega), by first | rfl | exact vint (by omega), by first | rfl | exact vint (by omega), by first | rfl | exact vint (by omega), by first | rfl | exact vint (by omega), by first | rfl | exact vint (by omega), trivial⟩
    · exact ⟨(by omega), H17⟩
    · rintro j ρ18 w19 ⟨hj, H20⟩ nx21
      change Ends _ _ (upds ρ18 [(0, .pointer (some ⟨b, 0, none⟩)), (4, .int .i64 0), (5, .int .i64 (putE L (M.length : Int))), (14, .slice pA1 M.length cA2), (15, .int .i64 (M.length : Int)), (16, .int .i64 (j : Int))]) w19
      refine g_seq ?_
      refine g_region ?_
      by_cases hc22 : (j : Int) < (M.length : Int)
      · skip
        refine r_cons (s_lss true rfl rfl (dtrue hc22) rfl ?_)
        refine r_nil ?_
        refine g_seq ?_
        refine g_true rfl ?_
        refine g_skip ?_
        refine g_seq ?_
        refine g_block ?_
        refine g_seq ?_
        refine g_region ?_
        refine r_cons (s_indexAddr gA3 (off := oA4) (j : Int) 1 (oA4 + j * 1) (by exact congrArg (fun z_ => Value.slice z_ M.length cA2) (hp9 (by omega))) rfl el_50 (by omega) rfl rfl ?_)
        refine r_cons (s_load (.bool (M.getD j false)) ag_4 rfl (H20.imi_at (i := 1) rfl (by omega)) (elem_cell (L := M) (i := j) blc_len (hx10 (by omega)) (by omega) false 0 (by decide) _ rfl) rfl ?_)
        refine r_cons (s_assign (.bool (M.getD j false)) rfl rfl ?_)
        refine r_nil ?_
        refine g_region ?_
        have htl := List.length_take_le j M
        refine r_cons (s_move (.pointer (some ⟨b, 0, none⟩)) rfl rfl ?_)
        refine r_cons (s_move (.bool (M.getD j false)) rfl rfl ?_)
        refine r_cons (s_call [.pointer (some ⟨b, 0, none⟩), .bool (M.getD j false)] pl_92 rfl rfl (Sink_put b (L ++ M.take j) (M.getD j false) (by (try simp only [List.length_append, List.length_cons, List.length_nil, lowK_len, lowB_len]); omega) (i := 0) rfl H20) ?_)
        rintro _ w23 ⟨rfl, H24⟩
        refine r_nil ?_
        refine g_inBlock ?_
        refine g_region ?_
        refine r_cons (s_add ((j : Int) + 1) rfl rfl (wi64 (by omega)) rfl ?_)
        refine r_cons (s_move (.int .i64 ((j : Int) + 1)) rfl rfl ?_)
        refine r_nil ?_
        have H25 : St W w23 (SinkA b ((L ++ M.take j) ++ [M.getD j false]) :: imi (0 < M.length) gA3 (.cells kA5 eA6 zA7) :: (F.set i emp)) := ((H24.move 1 rfl).move 1 rfl)
        have H26 : St W w23 (SinkA b (L ++ M.take (j + 1)) :: imi (0 < M.length) gA3 (.cells kA5 eA6 zA7) :: (F.set i emp)) := by rw [take_snoc (by omega), ← List.append_assoc]; exact H25
        exact nx21 (j + 1) _ _ ⟨(by omega), H26⟩ (by first | (dsimp only; omega) | omega) ⟨by first | rfl | exact vint (by omega), by first | rfl | exact vint (by omega), by first | rfl | exact vint (by omega), by first | rfl | exact vint (by omega), by first | rfl | exact vint (by omega), by first | rfl | exact vint (by omega), trivial⟩
      · skip
        refine r_cons (s_lss false rfl rfl (dfalse hc22) rfl ?_)
        refine r_nil ?_
        refine g_seq ?_
        refine g_false rfl ?_
        refine g_exit (by rfl) ?_
        refine g_seq ?_
        refine g_region ?_
        refine r_cons (s_move (.int .i64 (putE L (M.length : Int))) rfl rfl ?_)
        refine r_cons (s_assign (.int .i64 (putE L (M.length : Int))) rfl rfl ?_)
        refine r_nil ?_
        refine g_ret' [.int .i64 (putE L (M.length : Int))] Try.func75 Try.results75 ⟨rfl, trivial⟩ ?_
        have H27 : St W w19 (SinkA b (L ++ M.take j) :: (F.set i emp)) := (H20.drop 1 rfl)
        obtain rfl : j = M.length := by omega
        exact ⟨rfl, by rw [putL_0 rfl ‹_›, show L ++ M = L ++ M.take M.length from by rw [List.take_length]]; exact St.back hi H27⟩
  · skip
    refine r_cons (s_eql false rfl rfl (dfalse hc15) rfl ?_)
    refine r_nil ?_
    refine g_false rfl ?_
    refine g_skip ?_
    refine g_seq ?_
    refine g_region ?_
    refine r_cons (s_move (.int .i64 (putE L (M.length : Int))) rfl rfl ?_)
    refine r_cons (s_assign (.int .i64 (putE L (M.length : Int))) rfl rfl ?_)
    refine r_nil ?_
    refine g_ret' [.int .i64 (putE L (M.length : Int))] Try.func75 Try.results75 ⟨rfl, trivial⟩ ?_
    have H28 : St W w13 (SinkA b L :: (F.set i emp)) := (H14.drop 1 rfl)
    exact ⟨rfl, by rw [putL_no rfl ‹_›]; exact St.back hi H28⟩
set_option maxHeartbeats 4000000 in
set_option maxRecDepth 100000 in
theorem Sink_Out {W w : World} {F : List Atom} (b : Nat) (L : List Bool) (hb : L.length ≤ 1048576) {i : Nat} (hi : F[i]? = some (SinkA b L)) (H : St W w F) : Calls Try.prog 45 #[.pointer (some ⟨b, 0, none⟩)] w (Ret fun v w' => ∃ p c, v = .slice p ((L.length + 7) / 8) c ∧ St W w' (Row 5 1 (.slice p ((L.length + 7) / 8) c) ((L.length + 7) / 8) ((pk L).flatMap u8c) :: F)) := by
  have H0 := H.front hi
  refine calls_of_go (n := 10) Try.func45 rfl Try.ntmps45 rfl ?_
  refine g_seq ?_
  refine g_region ?_
  refine r_cons (s_assign (.slice none 0 0) rfl rfl ?_)
  refine r_nil ?_
  refine g_seq ?_
  refine g_seq ?_
  refine g_region ?_
  refine r_cons (s_move (.pointer (some ⟨b, 0, none⟩)) rfl rfl ?_)
  refine r_cons (s_peql false un_59 rfl rfl rfl rfl ?_)
  refine r_nil ?_
  refine g_false rfl ?_
  refine g_skip ?_
  refine g_seq ?_
  refine g_region ?_
  refine r_cons (s_move (.pointer (some ⟨b, 0, none⟩)) rfl rfl ?_)
  refine r_cons (s_nilCheck (.pointer (some ⟨b, 0, none⟩)) rfl ⟨_, rfl⟩ rfl ?_)
  refine r_cons (s_fieldAddr 111 1 1 1 66 rfl fi_111_1 rfl rfl ?_)
  have H1 := H0.move 0 rfl
  obtain ⟨vv2, H3⟩ := St.open_ex H1
  have H4 := St.open_star H3
  obtain ⟨pp5, cc6, rfl⟩ := Row.slice (i := 1) H4 rfl
  have H7 : St W w (blk b (.cells #[.bool true, .slice pp5 ((L.length + 7) / 8) cc6, .int .i64 (L.length : Int)] 111 (0, 0)) :: Row 5 1 (.slice pp5 ((L.length + 7) / 8) cc6) ((L.length + 7) / 8) ((pk L).flatMap u8c) :: (F.set i emp)) := H4
  refine r_cons (s_load (.slice pp5 ((L.length + 7) / 8) cc6) ag_66 rfl (H7.blk_at (i := 0) rfl) rfl rfl ?_)
  refine r_cons (s_call [.slice pp5 ((L.length + 7) / 8) cc6] pl_80 rfl rfl (clone_bytes _ _ ((L.length + 7) / 8) ((pk L).flatMap u8c) RdA.row (by first | omega | (have hlp := Nat.le_refl 0; omega)) (j := 1) rfl H7) ?_)
  rintro _ w10 ⟨pp8, cc9, rfl, H11⟩
  refine r_cons (s_assign (.slice pp8 ((L.length + 7) / 8) cc9) rfl rfl ?_)
  refine r_nil ?_
  refine g_ret' [.slice pp8 ((L.length + 7) / 8) cc9] Try.func45 Try.results45 ⟨rfl, trivial⟩ ?_
  have H12 : St W w10 (blk b (.cells #[.bool true, .slice pp5 ((L.length + 7) / 8) cc6, .int .i64 (L.length : Int)] 111 (0, 0)) :: Row 5 1 (.slice pp5 ((L.length + 7) / 8) cc6) ((L.length + 7) / 8) ((pk L).flatMap u8c) :: Row 5 1 (.slice pp8 ((L.length + 7) / 8) cc9) ((L.length + 7) / 8) ((pk L).flatMap u8c) :: (F.set i emp)) := ((H11.move 2 rfl).move 2 rfl)
  have H13 : St W w10 (SinkA b L :: Row 5 1 (.slice pp8 ((L.length + 7) / 8) cc9) ((L.length + 7) / 8) ((pk L).flatMap u8c) :: (F.set i emp)) := St.shut_ex (.slice pp5 ((L.length + 7) / 8) cc6) (St.shut_star (ls := [blk b (.cells #[.bool true, .slice pp5 ((L.length + 7) / 8) cc6, .int .i64 (L.length : Int)] 111 (0, 0)), Row 5 1 (.slice pp5 ((L.length + 7) / 8) cc6) ((L.length + 7) / 8) ((pk L).flatMap u8c)]) H12)
  have H14 : St W w10 (SinkA b L :: Row 5 1 (.slice pp8 ((L.length + 7) / 8) cc9) ((L.length + 7) / 8) ((pk L).flatMap u8c) :: (F.set i emp)) := ((H13.move 1 rfl).move 1 rfl)
  have H15 : St W w10 (SinkA b L :: (Row 5 1 (.slice pp8 ((L.length + 7) / 8) cc9) ((L.length + 7) / 8) ((pk L).flatMap u8c) :: F).set (i + 1) emp) := H14
  exact ⟨_, _, rfl, St.back_same (i := i + 1) (by exact hi) H15⟩
/-- Bytes of which bits are taken. -/
def SrcA (b : Nat) (bs : List UInt8) (p : Nat) : Atom := ex fun v : Value => star [blk b (.cells #[.bool true, v, .int .i64 ((p : Nat) : Int)] 121 (0, 0)), Im 1 v bs.length (bs.flatMap u8c)]
set_option maxHeartbeats 4000000 in
set_option maxRecDepth 100000 in
theorem NewSource {W w : World} {F : List Atom} (A : Atom) (v0 : Value) (bs : List UInt8) (hA : RdA A 1 v0 bs.length (bs.flatMap u8c)) (hb : bs.length ≤ 140737488355328) {j : Nat} (hj : F[j]? = some A) (H : St W w F) : Calls Try.prog 49 #[v0] w (Ret fun v w' => ∃ k, v = .pointer (some ⟨k, 0, none⟩) ∧ St W w' (SrcA k bs 0 :: F)) := by
  have hml := (hA _ _ _ j H hj).2
  obtain ⟨pp1, cc2, rfl, hn3⟩ := Rd.shape (hA _ _ _ j H hj).1
  refine calls_of_go (n := 7) Try.func49 rfl Try.ntmps49 rfl ?_
  refine g_seq ?_
  refine g_region ?_
  refine r_cons (s_assign (.pointer none) rfl rfl ?_)
  refine r_nil ?_
  refine g_seq ?_
  refine g_region ?_
  refine r_cons (s_move (.slice pp1 bs.length cc2) rfl rfl ?_)
  refine r_cons (s_call [.slice pp1 bs.length cc2] pl_80 rfl rfl (clone_bytes _ _ bs.length (bs.flatMap u8c) hA (by first | omega | (have hlp := Nat.le_refl 0; omega)) (j := j + 0) (by exact hj) H) ?_)
  rintro _ w6 ⟨pp4, cc5, rfl, H7⟩
  refine r_cons (s_build (cs := #[.bool true, .slice pp4 bs.length cc5, .int .i64 0]) (by kernel_rfl) rfl ?_)
  refine r_cons (s_box H7 121 (.agg #[.bool true, .slice pp4 bs.length cc5, .int .i64 0]) rfl (cs := #[.bool true, .slice pp4 bs.length cc5, .int .i64 0]) rfl rfl ?_); intro bk8 w9 H10
  refine r_cons (s_assign (.pointer (some ⟨bk8, 0, none⟩)) rfl rfl ?_)
  refine r_nil ?_
  refine g_ret' [.pointer (some ⟨bk8, 0, none⟩)] Try.func49 Try.results49 ⟨rfl, trivial⟩ ?_
  have H11 : St W w9 (blk bk8 (.cells #[.bool true, .slice pp4 bs.length cc5, .int .i64 0] 121 (0, 0)) :: Row 5 1 (.slice pp4 bs.length cc5) bs.length (bs.flatMap u8c) :: F) := ((H10.move 1 rfl).move 1 rfl)
  have H12 := Row.im H11 (i := 1) rfl
  exact ⟨bk8, rfl, St.shut_ex (.slice pp4 bs.length cc5) (St.shut_star (ls := [blk bk8 (.cells #[.bool true, .slice pp4 bs.length cc5, .int .i64 0] 121 (0, 0)), Im 1 (.slice pp4 bs.length cc5) bs.length (bs.flatMap u8c)]) H12)⟩
set_option maxHeartbeats 4000000 in
set_option maxRecDepth 100000 in
theorem Src_Left {W w : World} {F : List Atom} (b : Nat) (bs : List UInt8) (p : Nat) (hp : p ≤ 8 * bs.length) (hb : bs.length ≤ 140737488355328) {i : Nat} (hi : F[i]? = some (SrcA b bs p)) (H : St W w F) : Calls Try.prog 54 #[.pointer (some ⟨b, 0, none⟩)] w (Ret fun v w' => v = .int .i64 ((remB bs p).length : Int) ∧ St W w' F) := by
  have H0 := H.front hi
  refine calls_of_go (n := 16) Try.func54 rfl Try.ntmps54 rfl ?_
  refine g_seq ?_
  refine g_region ?_
  refine r_cons (s_assign (.int .i64 0) rfl rfl ?_)
  refine r_nil ?_
  refine g_seq ?_
  refine g_seq ?_
  refine g_region ?_
  refine r_cons (s_move (.pointer (some ⟨b, 0, none⟩)) rfl rfl ?_)
  refine r_cons (s_peql false un_76 rfl rfl rfl rfl ?_)
  refine r_nil ?_
  refine g_false rfl ?_
  refine g_skip ?_
  refine g_seq ?_
  have H1 := H0.move 0 rfl
  obtain ⟨vv2, H3⟩ := St.open_ex H1
  have H4 := St.open_star H3
  obtain ⟨pp5, cc6, gA7, oA8, kA9, eA10, zA11, rfl, hn12, hp13, hx14, hs15, hml, H16⟩ := Im.open_ H4 (i := 1) rfl
  have H17 : St W w (imi (0 < bs.length) gA7 (.cells kA9 eA10 zA11) :: blk b (.cells #[.bool true, .slice pp5 bs.length cc6, .int .i64 ((p : Nat) : Int)] 121 (0, 0)) :: Im 1 (.slice pp5 bs.length cc6) bs.length (bs.flatMap u8c) :: (F.set i emp)) := H16
  refine g_quiet (fun w' => St W w' (imi (0 < bs.length) gA7 (.cells kA9 eA10 zA11) :: blk b (.cells #[.bool true, .slice pp5 bs.length cc6, .int .i64 ((p : Nat) : Int)] 121 (0, 0)) :: Im 1 (.slice pp5 bs.length cc6) bs.length (bs.flatMap u8c) :: (F.set i emp))) mixed (by kernel_rfl) H17.drew ?_
  refine q_cons (q_val rfl rfl rfl (by intro w hw; exact x_move (.pointer (some ⟨b, 0, none⟩)) rfl w) ?_)
  refine q_cons (q_val rfl rfl rfl (by intro w hw; exact x_nilCheck (.pointer (some ⟨b, 0, none⟩)) rfl ⟨_, rfl⟩ w) ?_)
  refine q_cons (q_val rfl rfl rfl (by intro w hw; exact x_fieldAddr 121 1 1 1 66 rfl fi_121_1 rfl w) ?_)
  refine q_cons (q_val rfl rfl rfl (by intro w hw; exact x_load (.slice pp5 bs.length cc6) ag_66 rfl (hw.blk_at (i := 1) rfl) rfl) ?_)
  refine q_cons (q_val rfl rfl rfl (by intro w hw; exact x_len bs.length rfl ⟨_, un_66⟩ w) ?_)
  refine q_cons (q_val rfl rfl rfl (by intro w hw; exact x_mul (8 * (bs.length : Int)) rfl rfl (wi64 (by omega)) w) ?_)
  refine q_cons (q_val rfl rfl rfl (by intro w hw; exact x_move (.pointer (some ⟨b, 0, none⟩)) rfl w) ?_)
  refine q_cons (q_val rfl rfl rfl (by intro w hw; exact x_nilCheck (.pointer (some ⟨b, 0, none⟩)) rfl ⟨_, rfl⟩ w) ?_)
  refine q_cons (q_val rfl rfl rfl (by intro w hw; exact x_fieldAddr 121 2 2 2 3 rfl fi_121_2 rfl w) ?_)
  refine q_cons (q_val rfl rfl rfl (by intro w hw; exact x_load (.int .i64 ((p : Nat) : Int)) ag_3 rfl (hw.blk_at (i := 1) rfl) rfl) ?_)
  refine q_cons (q_val rfl rfl rfl (by intro w hw; exact x_sub (8 * (bs.length : Int) - ((p : Nat) : Int)) rfl rfl (wi64 (by omega)) w) ?_)
  refine q_cons (q_val rfl rfl rfl (by intro w hw; exact x_assign (.int .i64 (8 * (bs.length : Int) - ((p : Nat) : Int))) rfl w) ?_)
  refine q_nil ?_
  intro w18 H19
  refine g_ret' [.int .i64 (8 * (bs.length : Int) - ((p : Nat) : Int))] Try.func54 Try.results54 ⟨rfl, trivial⟩ ?_
  have H20 : St W w18 (blk b (.cells #[.bool true, .slice pp5 bs.length cc6, .int .i64 ((p : Nat) : Int)] 121 (0, 0)) :: Im 1 (.slice pp5 bs.length cc6) bs.length (bs.flatMap u8c) :: (F.set i emp)) := (((H19.move 2 rfl).move 2 rfl).drop 2 rfl)
  have H21 : St W w18 (SrcA b bs p :: (F.set i emp)) := St.shut_ex (.slice pp5 bs.length cc6) (St.shut_star (ls := [blk b (.cells #[.bool true, .slice pp5 bs.length cc6, .int .i64 ((p : Nat) : Int)] 121 (0, 0)), Im 1 (.slice pp5 bs.length cc6) bs.length (bs.flatMap u8c)]) H20)
  have H22 : St W w18 (SrcA b bs p :: (F.set i emp)) := H21
  exact ⟨vint (by rw [remB_len]; omega), St.back_same hi H22⟩
set_option maxHeartbeats 4000000 in
set_option maxRecDepth 100000 in
theorem Src_bit {W w : World} {F : List Atom} (b : Nat) (bs : List UInt8) (p : Nat) (hp : p ≤ 8 * bs.length) (hb : bs.length ≤ 140737488355328) (k : Nat) (hk : k < 8 * bs.length) {i : Nat} (hi : F[i]? = some (SrcA b bs p)) (H : St W w F) : Calls Try.prog 83 #[.pointer (some ⟨b, 0, none⟩), .int .i64 (k : Int)] w (Ret fun v w' => v = .int .u64 ((bitAt bs k).toNat : Int) ∧ St W w' F) := by
  have H0 := H.front hi
  refine calls_of_go (n := 19) Try.func83 rfl Try.ntmps83 rfl ?_
  refine g_seq ?_
  refine g_region ?_
  refine r_cons (s_assign (.int .u64 0) rfl rfl ?_)
  refine r_nil ?_
  refine g_seq ?_
  refine g_region ?_
  refine r_cons (s_move (.pointer (some ⟨b, 0, none⟩)) rfl rfl ?_)
  refine r_cons (s_nilCheck (.pointer (some ⟨b, 0, none⟩)) rfl ⟨_, rfl⟩ rfl ?_)
  refine r_cons (s_fieldAddr 121 1 1 1 66 rfl fi_121_1 rfl rfl ?_)
  have H1 := H0.move 0 rfl
  obtain ⟨vv2, H3⟩ := St.open_ex H1
  have H4 := St.open_star H3
  obtain ⟨pp5, cc6, gA7, oA8, kA9, eA10, zA11, rfl, hn12, hp13, hx14, hs15, hml, H16⟩ := Im.open_ H4 (i := 1) rfl
  have H17 : St W w (imi (0 < bs.length) gA7 (.cells kA9 eA10 zA11) :: blk b (.cells #[.bool true, .slice pp5 bs.length cc6, .int .i64 ((p : Nat) : Int)] 121 (0, 0)) :: Im 1 (.slice pp5 bs.length cc6) bs.length (bs.flatMap u8c) :: (F.set i emp)) := H16
  refine r_cons (s_load (.slice pp5 bs.length cc6) ag_66 rfl (H17.blk_at (i := 1) rfl) rfl rfl ?_)
  refine r_cons (s_move (.int .i64 (k : Int)) rfl rfl ?_)
  refine r_cons (s_quo ((k : Int) / 8) rfl rfl (by omega) (by rw [tdiv_pos (by omega)]; exact wi64 (by omega)) rfl ?_)
  refine r_cons (s_indexAddr gA7 (off := oA8) ((k : Int) / 8) 1 (oA8 + (k / 8) * 1) (by exact congrArg (fun z_ => Value.slice z_ bs.length cc6) (hp13 (by omega))) rfl el_66 (by omega) (by rw [show ((k : Int) / 8 : Int).toNat = k / 8 from by omega]) rfl ?_)
  refine r_cons (s_load (.int .u8 ((bs.getD (k / 8) 0).toNat : Int)) ag_5 rfl (H17.imi_at (i := 0) rfl (by omega)) (elem_cell (L := bs) (i := k / 8) u8c_len (hx14 (by omega)) (by omega) 0 0 (by decide) _ rfl) rfl ?_)
  refine r_cons (s_move (.int .i64 (k : Int)) rfl rfl ?_)
  refine r_cons (s_rem ((k : Int) % 8) rfl rfl (by omega) (tmod_pos (by omega)) rfl ?_)
  refine r_cons (s_sub (7 - ((k : Int) % 8)) rfl rfl (wi64 (by omega)) rfl ?_)
  refine r_cons (s_shr (((bs.getD (k / 8) 0).toNat / 2 ^ (7 - k % 8) : Nat) : Int) rfl rfl (by omega) (shr_nat (k := 7 - k % 8) (by omega) (by show _ ≤ 8; omega)) rfl ?_)
  refine r_cons (s_and (((bs.getD (k / 8) 0).toNat / 2 ^ (7 - k % 8) % 2 : Nat) : Int) rfl rfl (and_one8 _ (Nat.lt_of_le_of_lt (Nat.div_le_self _ _) (UInt8.toNat_lt _))) rfl ?_)
  refine r_cons (s_conv ((bitAt bs k).toNat : Int) rfl us_5 ik_62 ((by rw [bit_nat]; exact wu64 (by have := Bool.toNat_le (bitAt bs k); unfold bitAt at this; omega))) rfl ?_)
  refine r_cons (s_assign (.int .u64 ((bitAt bs k).toNat : Int)) rfl rfl ?_)
  refine r_nil ?_
  refine g_ret' [.int .u64 ((bitAt bs k).toNat : Int)] Try.func83 Try.results83 ⟨rfl, trivial⟩ ?_
  have H18 : St W w (blk b (.cells #[.bool true, .slice pp5 bs.length cc6, .int .i64 ((p : Nat) : Int)] 121 (0, 0)) :: Im 1 (.slice pp5 bs.length cc6) bs.length (bs.flatMap u8c) :: (F.set i emp)) := (((H17.move 2 rfl).move 2 rfl).drop 2 rfl)
  have H19 : St W w (SrcA b bs p :: (F.set i emp)) := St.shut_ex (.slice pp5 bs.length cc6) (St.shut_star (ls := [blk b (.cells #[.bool true, .slice pp5 bs.length cc6, .int .i64 ((p : Nat) : Int)] 121 (0, 0)), Im 1 (.slice pp5 bs.length cc6) bs.length (bs.flatMap u8c)]) H18)
  have H20 : St W w (SrcA b bs p :: (F.set i emp)) := H19
  exact ⟨rfl, St.back_same hi H20⟩
set_option maxHeartbeats 4000000 in
set_option maxRecDepth 100000 in
theorem Src_Bits {W w : World} {F : List Atom} (b : Nat) (bs : List UInt8) (p : Nat) (hp : p ≤ 8 * bs.length) (hb : bs.length ≤ 140737488355328) (n : Int) {i : Nat} (hi : F[i]? = some (SrcA b bs p)) (H : St W w F) : Calls Try.prog 51 #[.pointer (some ⟨b, 0, none⟩), .int .i64 n] w (Ret fun v w' => v = .tuple #[.int .u64 (srcU (remB bs p) n : Int), .int .i64 (srcE (remB bs p) n)] ∧ St W w' (F.set i (SrcA b bs (p + srcN (remB bs p) n)))) := by
  have H0 := H.front hi
  refine calls_of_go (n := 50) Try.func51 rfl Try.ntmps51 rfl ?_
  refine g_seq ?_
  refine g_region ?_
  refine r_cons (s_assign (.int .u64 0) rfl rfl ?_)
  refine r_cons (s_assign (.int .i64 0) rfl rfl ?_)
  refine r_nil ?_
  refine g_seq ?_
  refine g_block ?_
  refine g_seq ?_
  refine g_region ?_
  refine r_cons (s_move (.pointer (some ⟨b, 0, none⟩)) rfl rfl ?_)
  refine r_cons (s_peql false un_76 rfl rfl rfl rfl ?_)
  refine r_cons (s_move (.bool false) rfl rfl ?_)
  refine r_cons (r_take rfl rfl ?_)
  refine s_move (.pointer (some ⟨b, 0, none⟩)) rfl rfl ?_
  refine r_cons (r_take rfl rfl ?_)
  refine s_nilCheck (.pointer (some ⟨b, 0, none⟩)) rfl ⟨_, rfl⟩ rfl ?_
  refine r_cons (r_take rfl rfl ?_)
  refine s_fieldAddr 121 0 0 0 4 rfl fi_121_0 rfl rfl ?_
  refine r_cons (r_take rfl rfl ?_)
  have H1 := H0.move 0 rfl
  obtain ⟨vv2, H3⟩ := St.open_ex H1
  have H4 := St.open_star H3
  obtain ⟨pp5, cc6, gA7, oA8, kA9, eA10, zA11, rfl, hn12, hp13, hx14, hs15, hml, H16⟩ := Im.open_ H4 (i := 1) rfl
  have H17 : St W w (imi (0 < bs.length) gA7 (.cells kA9 eA10 zA11) :: blk b (.cells #[.bool true, .slice pp5 bs.length cc6, .int .i64 ((p : Nat) : Int)] 121 (0, 0)) :: Im 1 (.slice pp5 bs.length cc6) bs.length (bs.flatMap u8c) :: (F.set i emp)) := H16
  refine s_load (.bool true) ag_4 rfl (H17.blk_at (i := 1) rfl) rfl rfl ?_
  refine r_cons (r_take rfl rfl ?_)
  refine s_not true rfl false rfl rfl ?_
  refine r_cons (s_pick_f (.bool false) rfl rfl rfl ?_)
  refine r_cons (s_assign (.bool false) rfl rfl ?_)
  refine r_nil ?_
  refine g_false rfl ?_
  refine g_seq ?_
  refine g_region ?_
  refine r_cons (s_move (.int .i64 n) rfl rfl ?_)
  by_cases hc18 : n < 0
  · skip
    refine r_cons (s_lss true rfl rfl (dtrue hc18) rfl ?_)
    refine r_cons (s_move (.bool true) rfl rfl ?_)
    refine r_cons (r_pass rfl rfl rfl rfl rfl ?_)
    refine r_cons (r_pass rfl rfl rfl rfl rfl ?_)
    refine r_cons (s_pick_t (.bool true) rfl rfl rfl ?_)
    refine r_cons (s_assign (.bool true) rfl rfl ?_)
    refine r_nil ?_
    refine g_true rfl ?_
    refine g_seq ?_
    refine g_region ?_
    refine r_cons (s_assign (.int .u64 0) rfl rfl ?_)
    refine r_cons (s_assign (.int .i64 1) rfl rfl ?_)
    refine r_nil ?_
    refine g_ret' [.int .u64 0, .int .i64 1] Try.func51 Try.results51 ⟨rfl, rfl, trivial⟩ ?_
    have H19 : St W w (blk b (.cells #[.bool true, .slice pp5 bs.length cc6, .int .i64 ((p : Nat) : Int)] 121 (0, 0)) :: Im 1 (.slice pp5 bs.length cc6) bs.length (bs.flatMap u8c) :: (F.set i emp)) := (((H17.move 2 rfl).move 2 rfl).drop 2 rfl)
    have H20 : St W w (SrcA b bs p :: (F.set i emp)) := St.shut_ex (.slice pp5 bs.length cc6) (St.shut_star (ls := [blk b (.cells #[.bool true, .slice pp5 bs.length cc6, .int .i64 ((p : Nat) : Int)] 121 (0, 0)), Im 1 (.slice pp5 bs.length cc6) bs.length (bs.flatMap u8c)]) H19)
    have H21 : St W w (SrcA b bs p :: (F.set i emp)) := H20
    have hE : srcE (remB bs p) n = 1 := by first | exact srcE_1 (by omega) | exact srcE_10 (by omega) (by omega)
    have hE0 : ¬ srcE (remB bs p) n = 0 := by rw [hE]; decide
    exact ⟨by rw [srcU_no hE0, hE]; rfl, by rw [srcN_no hE0]; exact St.back hi H21⟩
  · skip
    refine r_cons (s_lss false rfl rfl (dfalse hc18) rfl ?_)
    refine r_cons (s_move (.bool false) rfl rfl ?_)
    refine r_cons (r_take rfl rfl ?_)
    refine s_move (.int .i64 n) rfl rfl ?_
    refine r_cons (r_take rfl rfl ?_)
    by_cases hc22 : (64 : Int) < n
    · skip
      refine s_gtr true rfl rfl (dtrue hc22) rfl ?_
      refine r_cons (s_pick_f (.bool true) rfl rfl rfl ?_)
      refine r_cons (s_assign (.bool true) rfl rfl ?_)
      refine r_nil ?_
      refine g_true rfl ?_
      refine g_seq ?_
      refine g_region ?_
      refine r_cons (s_assign (.int .u64 0) rfl rfl ?_)
      refine r_cons (s_assign (.int .i64 1) rfl rfl ?_)
      refine r_nil ?_
      refine g_ret' [.int .u64 0, .int .i64 1] Try.func51 Try.results51 ⟨rfl, rfl, trivial⟩ ?_
      have H23 : St W w (blk b (.cells #[.bool true, .slice pp5 bs.length cc6, .int .i64 ((p : Nat) : Int)] 121 (0, 0)) :: Im 1 (.slice pp5 bs.length cc6) bs.length (bs.flatMap u8c) :: (F.set i emp)) := (((H17.move 2 rfl).move 2 rfl).drop 2 rfl)
      have H24 : St W w (SrcA b bs p :: (F.set i emp)) := St.shut_ex (.slice pp5 bs.length cc6) (St.shut_star (ls := [blk b (.cells #[.bool true, .slice pp5 bs.length cc6, .int .i64 ((p : Nat) : Int)] 121 (0, 0)), Im 1 (.slice pp5 bs.length cc6) bs.length (bs.flatMap u8c)]) H23)
      have H25 : St W w (SrcA b bs p :: (F.set i emp)) := H24
      have hE : srcE (remB bs p) n = 1 := by first | exact srcE_1 (by omega) | exact srcE_10 (by omega) (by omega)
      have hE0 : ¬ srcE (remB bs p) n = 0 := by rw [hE]; decide
      exact ⟨by rw [srcU_no hE0, hE]; rfl, by rw [srcN_no hE0]; exact St.back hi H25⟩
    · skip
      refine s_gtr false rfl rfl (dfalse hc22) rfl ?_
      refine r_cons (s_pick_f (.bool false) rfl rfl rfl ?_)
      refine r_cons (s_assign (.bool false) rfl rfl ?_)
      refine r_nil ?_
      refine g_false rfl ?_
      refine g_seq ?_
      refine g_region ?_
      refine r_cons (s_move (.int .i64 n) rfl rfl ?_)
      refine r_cons (s_move (.pointer (some ⟨b, 0, none⟩)) rfl rfl ?_)
      have H26 : St W w (blk b (.cells #[.bool true, .slice pp5 bs.length cc6, .int .i64 ((p : Nat) : Int)] 121 (0, 0)) :: Im 1 (.slice pp5 bs.length cc6) bs.length (bs.flatMap u8c) :: (F.set i emp)) := (((H17.move 2 rfl).move 2 rfl).drop 2 rfl)
      have H27 : St W w (SrcA b bs p :: (F.set i emp)) := St.shut_ex (.slice pp5 bs.length cc6) (St.shut_star (ls := [blk b (.cells #[.bool true, .slice pp5 bs.length cc6, .int .i64 ((p : Nat) : Int)] 121 (0, 0)), Im 1 (.slice pp5 bs.length cc6) bs.length (bs.flatMap u8c)]) H26)
      refine r_cons (s_call [.pointer (some ⟨b, 0, none⟩)] pl_54 rfl rfl (Src_Left b bs p (by first | omega | decide +kernel | (repeat (first | assumption | exact Nat.zero_le _ | refine natN_pos ?_ | refine srcN_pos ?_ | refine textN_pos ?_))) (by first | omega | decide +kernel)   (i := 0) rfl H27) ?_)
      rintro _ w28 ⟨rfl, H29⟩
      by_cases hc30 : ((remB bs p).length : Int) < n
      · skip
        refine r_cons (s_gtr true rfl rfl (dtrue hc30) rfl ?_)
        refine r_cons (s_assign (.bool true) rfl rfl ?_)
        refine r_nil ?_
        refine g_true rfl ?_
        refine g_seq ?_
        refine g_region ?_
        refine r_cons (s_assign (.int .u64 0) rfl rfl ?_)
        refine r_cons (s_assign (.int .i64 10) rfl rfl ?_)
        refine r_nil ?_
        refine g_ret' [.int .u64 0, .int .i64 10] Try.func51 Try.results51 ⟨rfl, rfl, trivial⟩ ?_
        have H31 : St W w28 (SrcA b bs p :: (F.set i emp)) := H29
        have hE : srcE (remB bs p) n = 10 := by first | exact srcE_1 (by omega) | exact srcE_10 (by omega) (by omega)
        have hE0 : ¬ srcE (remB bs p) n = 0 := by rw [hE]; decide
        exact ⟨by rw [srcU_no hE0, hE]; rfl, by rw [srcN_no hE0]; exact St.back hi H31⟩
      · skip
        refine r_cons (s_gtr false rfl rfl (dfalse hc30) rfl ?_)
        refine r_cons (s_assign (.bool false) rfl rfl ?_)
        refine r_nil ?_
        refine g_false rfl ?_
        refine g_skip ?_
        refine g_inBlock ?_
        refine g_seq ?_
        refine g_region ?_
        refine r_cons (s_assign (.int .u64 0) rfl rfl ?_)
        refine r_nil ?_
        refine g_seq ?_
        refine g_seq ?_
        refine g_region ?_
        refine r_cons (s_move (.int .i64 n) rfl rfl ?_)
        refine r_cons (s_move (.int .i64 0) rfl rfl ?_)
        refine r_nil ?_
        refine g_block ?_
        have H32 : St W w28 (SrcA b bs p :: (F.set i emp)) := H29
        have hE := srcE_0 (R := remB bs p) (n := n) (by omega) (by omega)
        have hL := remB_len bs p
        have hI := srcE_is hE
        have H33 : St W w28 (SrcA b bs (p + 0) :: (F.set i emp)) := H32
        refine g_loop_inv (fun (x_ : Nat) => match x_ with | j => [(0, .pointer (some ⟨b, 0, none⟩)), (4, .int .u64 0), (5, .int .i64 0), (6, .int .u64 (valOf ((remB bs p).take j) : Int)), (29, .int .i64 n), (30, .int .i64 (j : Int))]) (fun (x_ : Nat) w => match x_ with | j => ((j : Int) ≤ n) ∧ St W w (SrcA b bs (p + j) :: (F.set i emp))) (fun (x_ : Nat) => match x_ with | j => n.toNat - j) (0) ?_ ?_ ?_
        · exact ⟨by first | rfl | exact vint (by omega), by first | rfl | exact vint (by omega), by first | rfl | exact vint (by omega), by first | rfl | exact vint (by omega), by first | rfl | exact vint (by omega), by first | rfl | exact vint (by omega), trivial⟩
        · exact ⟨(by omega), H33⟩
        · rintro j ρ34 w35 ⟨hj, H36⟩ nx37
          change Ends _ _ (upds ρ34 [(0, .pointer (some ⟨b, 0, none⟩)), (4, .int .u64 0), (5, .int .i64 0), (6, .int .u64 (valOf ((remB bs p).take j) : Int)), (29, .int .i64 n), (30, .int .i64 (j : Int))]) w35
          have hfin : ¬ (j : Int) < n → (j = n.toNat) := fun h => by omega
          refine g_seq ?_
          refine g_region ?_
          by_cases hc38 : (j : Int) < n
          · skip
            refine r_cons (s_lss true rfl rfl (dtrue hc38) rfl ?_)
            refine r_nil ?_
            refine g_seq ?_
            refine g_true rfl ?_
            refine g_skip ?_
            refine g_seq ?_
            refine g_block ?_
            refine g_seq ?_
            refine g_region ?_
            have hv := val_take_lt63 (remB bs p) (j := j) (by omega)
            have hv2 := valOf_take_rem (bs := bs) (p := p) (j := j) (by omega)
            have hbb := Bool.toNat_le (bitAt bs (p + j))
            refine r_cons (s_move (.int .u64 (valOf ((remB bs p).take j) : Int)) rfl rfl ?_)
            refine r_cons (s_shl ((2 * valOf ((remB bs p).take j) : Nat) : Int) rfl rfl (by omega) (shl1 hv) rfl ?_)
            refine r_cons (s_move (.pointer (some ⟨b, 0, none⟩)) rfl rfl ?_)
            refine r_cons (s_move (.pointer (some ⟨b, 0, none⟩)) rfl rfl ?_)
            refine r_cons (s_nilCheck (.pointer (some ⟨b, 0, none⟩)) rfl ⟨_, rfl⟩ rfl ?_)
            refine r_cons (s_fieldAddr 121 2 2 2 3 rfl fi_121_2 rfl rfl ?_)
            have H39 := H36.move 0 rfl
            obtain ⟨vv40, H41⟩ := St.open_ex H39
            have H42 := St.open_star H41
            obtain ⟨pp43, cc44, gA45, oA46, kA47, eA48, zA49, rfl, hn50, hp51, hx52, hs53, hml, H54⟩ := Im.open_ H42 (i := 1) rfl
            have H55 : St W w35 (imi (0 < bs.length) gA45 (.cells kA47 eA48 zA49) :: blk b (.cells #[.bool true, .slice pp43 bs.length cc44, .int .i64 ((p + j : Nat) : Int)] 121 (0, 0)) :: Im 1 (.slice pp43 bs.length cc44) bs.length (bs.flatMap u8c) :: (F.set i emp)) := H54
            refine r_cons (s_load (.int .i64 ((p + j : Nat) : Int)) ag_3 rfl (H55.blk_at (i := 1) rfl) rfl rfl ?_)
            have H56 : St W w35 (blk b (.cells #[.bool true, .slice pp43 bs.length cc44, .int .i64 ((p + j : Nat) : Int)] 121 (0, 0)) :: Im 1 (.slice pp43 bs.length cc44) bs.length (bs.flatMap u8c) :: (F.set i emp)) := (((H55.move 2 rfl).move 2 rfl).drop 2 rfl)
            have H57 : St W w35 (SrcA b bs (p + j) :: (F.set i emp)) := St.shut_ex (.slice pp43 bs.length cc44) (St.shut_star (ls := [blk b (.cells #[.bool true, .slice pp43 bs.length cc44, .int .i64 ((p + j : Nat) : Int)] 121 (0, 0)), Im 1 (.slice pp43 bs.length cc44) bs.length (bs.flatMap u8c)]) H56)
            refine r_cons (s_call [.pointer (some ⟨b, 0, none⟩), .int .i64 ((p + j : Nat) : Int)] pl_83 rfl rfl (Src_bit b bs (p + j) (by first | omega | decide +kernel | (repeat (first | assumption | exact Nat.zero_le _ | refine natN_pos ?_ | refine srcN_pos ?_ | refine textN_pos ?_))) (by first | omega | decide +kernel) (p + j) (by omega) (i := 0) rfl H57) ?_)
            rintro _ w58 ⟨rfl, H59⟩
            refine r_cons (s_or ((2 * valOf ((remB bs p).take j) + (bitAt bs (p + j)).toNat : Nat) : Int) rfl rfl (or_low _ _ hv hbb) rfl ?_)
            refine r_cons (s_assign (.int .u64 ((2 * valOf ((remB bs p).take j) + (bitAt bs (p + j)).toNat : Nat) : Int)) rfl rfl ?_)
            refine r_nil ?_
            refine g_region ?_
            refine r_cons (s_move (.pointer (some ⟨b, 0, none⟩)) rfl rfl ?_)
            refine r_cons (s_nilCheck (.pointer (some ⟨b, 0, none⟩)) rfl ⟨_, rfl⟩ rfl ?_)
            refine r_cons (s_fieldAddr 121 2 2 2 3 rfl fi_121_2 rfl rfl ?_)
            have H60 := H59.move 0 rfl
            obtain ⟨vv61, H62⟩ := St.open_ex H60
            have H63 := St.open_star H62
            obtain ⟨pp64, cc65, gA66, oA67, kA68, eA69, zA70, rfl, hn71, hp72, hx73, hs74, hml, H75⟩ := Im.open_ H63 (i := 1) rfl
            have H76 : St W w58 (imi (0 < bs.length) gA66 (.cells kA68 eA69 zA70) :: blk b (.cells #[.bool true, .slice pp64 bs.length cc65, .int .i64 ((p + j : Nat) : Int)] 121 (0, 0)) :: Im 1 (.slice pp64 bs.length cc65) bs.length (bs.flatMap u8c) :: (F.set i emp)) := H75
            refine r_cons (s_load (.int .i64 ((p + j : Nat) : Int)) ag_3 rfl (H76.blk_at (i := 1) rfl) rfl rfl ?_)
            refine r_cons (s_add (((p + j : Nat) : Int) + 1) rfl rfl (wi64 (by omega)) rfl ?_)
            refine r_cons (s_nilCheck (.pointer (some ⟨b, 0, none⟩)) rfl ⟨_, rfl⟩ rfl ?_)
            refine r_cons (s_fieldAddr 121 2 2 2 3 rfl fi_121_2 rfl rfl ?_)
            refine r_cons (s_store H76 1 (.int .i64 (((p + j : Nat) : Int) + 1)) rfl rfl rfl sz_3 rfl (Nat.le_of_ble_eq_true rfl) rfl (cs' := #[.bool true, .slice pp64 bs.length cc65, .int .i64 (((p + j : Nat) : Int) + 1)]) rfl ?_); intro w77 H78
            refine r_nil ?_
            refine g_inBlock ?_
            refine g_region ?_
            refine r_cons (s_add ((j : Int) + 1) rfl rfl (wi64 (by omega)) rfl ?_)
            refine r_cons (s_move (.int .i64 ((j : Int) + 1)) rfl rfl ?_)
            refine r_nil ?_
            have H79 : St W w77 (blk b (.cells #[.bool true, .slice pp64 bs.length cc65, .int .i64 (((p + j : Nat) : Int) + 1)] 121 (0, 0)) :: Im 1 (.slice pp64 bs.length cc65) bs.length (bs.flatMap u8c) :: (F.set i emp)) := (((H78.move 2 rfl).move 2 rfl).drop 2 rfl)
            have H80 : St W w77 (blk b (.cells #[.bool true, .slice pp64 bs.length cc65, .int .i64 ((p + (j + 1) : Nat) : Int)] 121 (0, 0)) :: Im 1 (.slice pp64 bs.length cc65) bs.length (bs.flatMap u8c) :: (F.set i emp)) := by rw [show ((p + (j + 1) : Nat) : Int) = ((p + j : Nat) : Int) + 1 from by omega]; exact H79
            have H81 : St W w77 (SrcA b bs (p + (j + 1)) :: (F.set i emp)) := St.shut_ex (.slice pp64 bs.length cc65) (St.shut_star (ls := [blk b (.cells #[.bool true, .slice pp64 bs.length cc65, .int .i64 ((p + (j + 1) : Nat) : Int)] 121 (0, 0)), Im 1 (.slice pp64 bs.length cc65) bs.length (bs.flatMap u8c)]) H80)
            have H82 : St W w77 (SrcA b bs (p + (j + 1)) :: (F.set i emp)) := H81
            exact nx37 (j + 1) _ _ ⟨(by omega), H82⟩ (by first | (dsimp only; omega) | omega) ⟨by first | rfl | exact vint (by omega), by first | rfl | exact vint (by omega), by first | rfl | exact vint (by omega), by first | rfl | exact vint (by omega), by first | rfl | exact vint (by omega), by first | rfl | exact vint (by omega), trivial⟩
          · skip
            refine r_cons (s_lss false rfl rfl (dfalse hc38) rfl ?_)
            refine r_nil ?_
            refine g_seq ?_
            refine g_false rfl ?_
            refine g_exit (by rfl) ?_
            refine g_seq ?_
            refine g_region ?_
            refine r_cons (s_move (.int .u64 (valOf ((remB bs p).take j) : Int)) rfl rfl ?_)
            refine r_cons (s_assign (.int .u64 (valOf ((remB bs p).take j) : Int)) rfl rfl ?_)
            refine r_cons (s_assign (.int .i64 0) rfl rfl ?_)
            refine r_nil ?_
            refine g_ret' [.int .u64 (valOf ((remB bs p).take j) : Int), .int .i64 0] Try.func51 Try.results51 ⟨rfl, rfl, trivial⟩ ?_
            have H83 : St W w35 (SrcA b bs (p + j) :: (F.set i emp)) := H36
            obtain rfl : j = n.toNat := by omega
            exact ⟨by rw [hE, srcU_0 hE]; rfl, by rw [srcN_0 hE]; exact St.back hi H83⟩
set_option maxHeartbeats 4000000 in
set_option maxRecDepth 100000 in
theorem Src_back_ok {W w : World} {F : List Atom} (b : Nat) (bs : List UInt8) (p : Nat) (q : Int) (e : Int) (he : e = 0) {i : Nat} (hi : F[i]? = some (SrcA b bs p)) (H : St W w F) : Calls Try.prog 116 #[.pointer (some ⟨b, 0, none⟩), .int .i64 q, .int .i64 e] w (Ret fun v w' => v = .int .i64 e ∧ St W w' F) := by
  have H0 := H.front hi
  refine calls_of_go (n := 14) Try.func116 rfl Try.ntmps116 rfl ?_
  refine g_seq ?_
  refine g_region ?_
  refine r_cons (s_assign (.int .i64 0) rfl rfl ?_)
  refine r_nil ?_
  refine g_seq ?_
  refine g_seq ?_
  refine g_region ?_
  refine r_cons (s_move (.int .i64 e) rfl rfl ?_)
  refine r_cons (s_neq false rfl rfl (ntrue he) rfl ?_)
  refine r_nil ?_
  refine g_false rfl ?_
  refine g_skip ?_
  refine g_seq ?_
  refine g_region ?_
  refine r_cons (s_move (.int .i64 e) rfl rfl ?_)
  refine r_cons (s_assign (.int .i64 e) rfl rfl ?_)
  refine r_nil ?_
  refine g_ret' [.int .i64 e] Try.func116 Try.results116 ⟨rfl, trivial⟩ ?_
  have H1 : St W w (SrcA b bs p :: (F.set i emp)) := H0
  exact ⟨rfl, St.back_same hi H1⟩
set_option maxHeartbeats 4000000 in
set_option maxRecDepth 100000 in
theorem Src_back_no {W w : World} {F : List Atom} (b : Nat) (bs : List UInt8) (p : Nat) (q : Nat) (e : Int) (he : ¬ e = 0) {i : Nat} (hi : F[i]? = some (SrcA b bs p)) (H : St W w F) : Calls Try.prog 116 #[.pointer (some ⟨b, 0, none⟩), .int .i64 ((q : Nat) : Int), .int .i64 e] w (Ret fun v w' => v = .int .i64 e ∧ St W w' (F.set i (SrcA b bs q))) := by
  have H0 := H.front hi
  refine calls_of_go (n := 14) Try.func116 rfl Try.ntmps116 rfl ?_
  refine g_seq ?_
  refine g_region ?_
  refine r_cons (s_assign (.int .i64 0) rfl rfl ?_)
  refine r_nil ?_
  refine g_seq ?_
  refine g_seq ?_
  refine g_region ?_
  refine r_cons (s_move (.int .i64 e) rfl rfl ?_)
  refine r_cons (s_neq true rfl rfl (nfalse he) rfl ?_)
  refine r_nil ?_
  refine g_true rfl ?_
  refine g_region ?_
  refine r_cons (s_move (.pointer (some ⟨b, 0, none⟩)) rfl rfl ?_)
  refine r_cons (s_move (.int .i64 ((q : Nat) : Int)) rfl rfl ?_)
  refine r_cons (s_nilCheck (.pointer (some ⟨b, 0, none⟩)) rfl ⟨_, rfl⟩ rfl ?_)
  refine r_cons (s_fieldAddr 121 2 2 2 3 rfl fi_121_2 rfl rfl ?_)
  have H1 := H0.move 0 rfl
  obtain ⟨vv2, H3⟩ := St.open_ex H1
  have H4 := St.open_star H3
  obtain ⟨pp5, cc6, gA7, oA8, kA9, eA10, zA11, rfl, hn12, hp13, hx14, hs15, hml, H16⟩ := Im.open_ H4 (i := 1) rfl
  have H17 : St W w (imi (0 < bs.length) gA7 (.cells kA9 eA10 zA11) :: blk b (.cells #[.bool true, .slice pp5 bs.length cc6, .int .i64 ((p : Nat) : Int)] 121 (0, 0)) :: Im 1 (.slice pp5 bs.length cc6) bs.length (bs.flatMap u8c) :: (F.set i emp)) := H16
  refine r_cons (s_store H17 1 (.int .i64 ((q : Nat) : Int)) rfl rfl rfl sz_3 rfl (Nat.le_of_ble_eq_true rfl) rfl (cs' := #[.bool true, .slice pp5 bs.length cc6, .int .i64 ((q : Nat) : Int)]) rfl ?_); intro w18 H19
  refine r_nil ?_
  refine g_seq ?_
  refine g_region ?_
  refine r_cons (s_move (.int .i64 e) rfl rfl ?_)
  refine r_cons (s_assign (.int .i64 e) rfl rfl ?_)
  refine r_nil ?_
  refine g_ret' [.int .i64 e] Try.func116 Try.results116 ⟨rfl, trivial⟩ ?_
  have H20 : St W w18 (blk b (.cells #[.bool true, .slice pp5 bs.length cc6, .int .i64 ((q : Nat) : Int)] 121 (0, 0)) :: Im 1 (.slice pp5 bs.length cc6) bs.length (bs.flatMap u8c) :: (F.set i emp)) := (((H19.move 2 rfl).move 2 rfl).drop 2 rfl)
  have H21 : St W w18 (SrcA b bs q :: (F.set i emp)) := St.shut_ex (.slice pp5 bs.length cc6) (St.shut_star (ls := [blk b (.cells #[.bool true, .slice pp5 bs.length cc6, .int .i64 ((q : Nat) : Int)] 121 (0, 0)), Im 1 (.slice pp5 bs.length cc6) bs.length (bs.flatMap u8c)]) H20)
  have H22 : St W w18 (SrcA b bs q :: (F.set i emp)) := H21
  exact ⟨rfl, St.back hi H22⟩
set_option maxHeartbeats 4000000 in
set_option maxRecDepth 100000 in
theorem Src_Nat {W w : World} {F : List Atom} (b : Nat) (bs : List UInt8) (p : Nat) (hp : p ≤ 8 * bs.length) (hb : bs.length ≤ 140737488355328) {i : Nat} (hi : F[i]? = some (SrcA b bs p)) (H : St W w F) : Calls Try.prog 110 #[.pointer (some ⟨b, 0, none⟩)] w (Ret fun v w' => v = .tuple #[.int .u64 (natU (remB bs p) : Int), .int .i64 (natE (remB bs p))] ∧ St W w' (F.set i (SrcA b bs (p + natN (remB bs p))))) := by
  have H0 := H.front hi
  refine calls_of_go (n := 82) Try.func110 rfl Try.ntmps110 rfl ?_
  refine g_seq ?_
  refine g_region ?_
  refine r_cons (s_assign (.int .u64 0) rfl rfl ?_)
  refine r_cons (s_assign (.int .i64 0) rfl rfl ?_)
  refine r_nil ?_
  refine g_seq ?_
  refine g_seq ?_
  refine g_region ?_
  refine r_cons (s_move (.pointer (some ⟨b, 0, none⟩)) rfl rfl ?_)
  refine r_cons (s_peql false un_76 rfl rfl rfl rfl ?_)
  refine r_cons (s_move (.bool false) rfl rfl ?_)
  refine r_cons (r_take rfl rfl ?_)
  refine s_move (.pointer (some ⟨b, 0, none⟩)) rfl rfl ?_
  refine r_cons (r_take rfl rfl ?_)
  refine s_nilCheck (.pointer (some ⟨b, 0, none⟩)) rfl ⟨_, rfl⟩ rfl ?_
  refine r_cons (r_take rfl rfl ?_)
  refine s_fieldAddr 121 0 0 0 4 rfl fi_121_0 rfl rfl ?_
  refine r_cons (r_take rfl rfl ?_)
  have H1 := H0.move 0 rfl
  obtain ⟨vv2, H3⟩ := St.open_ex H1
  have H4 := St.open_star H3
  obtain ⟨pp5, cc6, gA7, oA8, kA9, eA10, zA11, rfl, hn12, hp13, hx14, hs15, hml, H16⟩ := Im.open_ H4 (i := 1) rfl
  have H17 : St W w (imi (0 < bs.length) gA7 (.cells kA9 eA10 zA11) :: blk b (.cells #[.bool true, .slice pp5 bs.length cc6, .int .i64 ((p : Nat) : Int)] 121 (0, 0)) :: Im 1 (.slice pp5 bs.length cc6) bs.length (bs.flatMap u8c) :: (F.set i emp)) := H16
  refine s_load (.bool true) ag_4 rfl (H17.blk_at (i := 1) rfl) rfl rfl ?_
  refine r_cons (r_take rfl rfl ?_)
  refine s_not true rfl false rfl rfl ?_
  refine r_cons (s_pick_f (.bool false) rfl rfl rfl ?_)
  refine r_nil ?_
  refine g_false rfl ?_
  refine g_skip ?_
  refine g_seq ?_
  refine g_region ?_
  refine r_cons (s_move (.pointer (some ⟨b, 0, none⟩)) rfl rfl ?_)
  refine r_cons (s_nilCheck (.pointer (some ⟨b, 0, none⟩)) rfl ⟨_, rfl⟩ rfl ?_)
  refine r_cons (s_fieldAddr 121 2 2 2 3 rfl fi_121_2 rfl rfl ?_)
  refine r_cons (s_load (.int .i64 ((p : Nat) : Int)) ag_3 rfl (H17.blk_at (i := 1) rfl) rfl rfl ?_)
  refine r_cons (s_assign (.int .i64 ((p : Nat) : Int)) rfl rfl ?_)
  refine r_nil ?_
  refine g_seq ?_
  refine g_region ?_
  refine r_cons (s_assign (.int .i64 0) rfl rfl ?_)
  refine r_nil ?_
  refine g_seq ?_
  refine g_block ?_
  have H18 : St W w (blk b (.cells #[.bool true, .slice pp5 bs.length cc6, .int .i64 ((p : Nat) : Int)] 121 (0, 0)) :: Im 1 (.slice pp5 bs.length cc6) bs.length (bs.flatMap u8c) :: (F.set i emp)) := (((H17.move 2 rfl).move 2 rfl).drop 2 rfl)
  have H19 : St W w (SrcA b bs p :: (F.set i emp)) := St.shut_ex (.slice pp5 bs.length cc6) (St.shut_star (ls := [blk b (.cells #[.bool true, .slice pp5 bs.length cc6, .int .i64 ((p : Nat) : Int)] 121 (0, 0)), Im 1 (.slice pp5 bs.length cc6) bs.length (bs.flatMap u8c)]) H18)
  have H20 : St W w (SrcA b bs p :: (F.set i emp)) := H19
  have hL := remB_len bs p
  refine g_loop_inv (fun (x_ : Nat) => match x_ with | k => [(0, .pointer (some ⟨b, 0, none⟩)), (2, .int .u64 0), (3, .int .i64 0), (4, .int .i64 ((p : Nat) : Int)), (5, .int .i64 (k : Int))]) (fun (x_ : Nat) w => match x_ with | k => (k ≤ 65) ∧ (k ≤ (remB bs p).length) ∧ (∀ j, j < k → (remB bs p).getD j false = false) ∧ St W w (SrcA b bs p :: (F.set i emp))) (fun (x_ : Nat) => match x_ with | k => 65 - k) (0) ?_ ?_ ?_
  · exact ⟨by first | rfl | exact vint (by omega), by first | rfl | exact vint (by omega), by first | rfl | exact vint (by omega), by first | rfl | exact vint (by omega), by first | rfl | exact vint (by omega), trivial⟩
  · exact ⟨(by omega), (by omega), (fun j hj => by omega), H20⟩
  · rintro k ρ21 w22 ⟨hk, hkr, hz, H23⟩ nx24
    change Ends _ _ (upds ρ21 [(0, .pointer (some ⟨b, 0, none⟩)), (2, .int .u64 0), (3, .int .i64 0), (4, .int .i64 ((p : Nat) : Int)), (5, .int .i64 (k : Int))]) w22
    refine g_seq ?_
    refine g_seq ?_
    refine g_region ?_
    refine r_cons (s_move (.int .i64 (k : Int)) rfl rfl ?_)
    by_cases hc25 : (k : Int) < 65
    · skip
      refine r_cons (s_lss true rfl rfl (dtrue hc25) rfl ?_)
      refine r_cons (s_move (.bool true) rfl rfl ?_)
      refine r_cons (r_take rfl rfl ?_)
      refine s_move (.int .i64 (k : Int)) rfl rfl ?_
      refine r_cons (r_take rfl rfl ?_)
      refine s_move (.pointer (some ⟨b, 0, none⟩)) rfl rfl ?_
      refine r_cons (r_take rfl rfl ?_)
      refine s_call [.pointer (some ⟨b, 0, none⟩)] pl_54 rfl rfl (Src_Left b bs p (by first | omega | decide +kernel | (repeat (first | assumption | exact Nat.zero_le _ | refine natN_pos ?_ | refine srcN_pos ?_ | refine textN_pos ?_))) (by first | omega | decide +kernel)   (i := 0) rfl H23) ?_
      rintro _ w26 ⟨rfl, H27⟩
      refine r_cons (r_take rfl rfl ?_)
      by_cases hc28 : (k : Int) < ((remB bs p).length : Int)
      · skip
        refine s_lss true rfl rfl (dtrue hc28) rfl ?_
        refine r_cons (s_pick_t (.bool true) rfl rfl rfl ?_)
        refine r_cons (s_move (.bool true) rfl rfl ?_)
        refine r_cons (r_take rfl rfl ?_)
        refine s_move (.pointer (some ⟨b, 0, none⟩)) rfl rfl ?_
        refine r_cons (r_take rfl rfl ?_)
        refine s_move (.int .i64 ((p : Nat) : Int)) rfl rfl ?_
        refine r_cons (r_take rfl rfl ?_)
        refine s_move (.int .i64 (k : Int)) rfl rfl ?_
        refine r_cons (r_take rfl rfl ?_)
        refine s_add (((p : Nat) : Int) + (k : Int)) rfl rfl (wi64 (by omega)) rfl ?_
        refine r_cons (r_take rfl rfl ?_)
        refine s_call [.pointer (some ⟨b, 0, none⟩), .int .i64 (((p : Nat) : Int) + (k : Int))] pl_83 rfl rfl (Src_bit b bs p (by first | omega | decide +kernel | (repeat (first | assumption | exact Nat.zero_le _ | refine natN_pos ?_ | refine srcN_pos ?_ | refine textN_pos ?_))) (by first | omega | decide +kernel) (p + k) (by omega) (i := 0) rfl H27) ?_
        rintro _ w29 ⟨rfl, H30⟩
        refine r_cons (r_take rfl rfl ?_)
        by_cases hc31 : ((bitAt bs (p + k)).toNat : Int) = 0
        · skip
          refine s_eql true rfl rfl (dtrue hc31) rfl ?_
          refine r_cons (s_pick_t (.bool true) rfl rfl rfl ?_)
          refine r_nil ?_
          refine g_true rfl ?_
          refine g_skip ?_
          refine g_block ?_
          refine g_region ?_
          refine r_cons (s_move (.int .i64 (k : Int)) rfl rfl ?_)
          refine r_cons (s_add ((k : Int) + 1) rfl rfl (wi64 (by omega)) rfl ?_)
          refine r_cons (s_assign (.int .i64 ((k : Int) + 1)) rfl rfl ?_)
          refine r_nil ?_
          refine g_inBlock ?_
          have H32 : St W w29 (SrcA b bs p :: (F.set i emp)) := H30
          have hbit : bitAt bs (p + k) = false := toNat_1.1 ‹_›
          exact nx24 (k + 1) _ _ ⟨(by omega), (by omega), (fun j hj => (Nat.lt_or_ge j k).elim (hz j) (fun h => by rw [show j = k from by omega, remB_getD (by omega)]; exact hbit)), H32⟩ (by first | (dsimp only; omega) | omega) ⟨by first | rfl | exact vint (by omega), by first | rfl | exact vint (by omega), by first | rfl | exact vint (by omega), by first | rfl | exact vint (by omega), by first | rfl | exact vint (by omega), trivial⟩
        · skip
          refine s_eql false rfl rfl (dfalse hc31) rfl ?_
          refine r_cons (s_pick_t (.bool false) rfl rfl rfl ?_)
          refine r_nil ?_
          refine g_false rfl ?_
          refine g_exit (by rfl) ?_
          refine g_seq ?_
          refine g_block ?_
          refine g_seq ?_
          refine g_region ?_
          have hzz : zeros (remB bs p) = k := zeros_is hk hkr hz (by first | (left; omega) | (right; left; omega) | (right; right; rw [remB_getD (by omega)]; exact Bool.of_not_eq_false fun h => absurd (toNat_1.2 h) ‹_›))
          clear hz
          refine r_cons (s_move (.int .i64 (k : Int)) rfl rfl ?_)
          refine r_cons (s_eql false rfl rfl (dfalse (by omega)) rfl ?_)
          refine r_cons (s_assign (.bool false) rfl rfl ?_)
          refine r_nil ?_
          refine g_false rfl ?_
          refine g_seq ?_
          refine g_region ?_
          refine r_cons (s_move (.pointer (some ⟨b, 0, none⟩)) rfl rfl ?_)
          refine r_cons (s_call [.pointer (some ⟨b, 0, none⟩)] pl_54 rfl rfl (Src_Left b bs p (by first | omega | decide +kernel | (repeat (first | assumption | exact Nat.zero_le _ | refine natN_pos ?_ | refine srcN_pos ?_ | refine textN_pos ?_))) (by first | omega | decide +kernel)   (i := 0) rfl H30) ?_)
          rintro _ w33 ⟨rfl, H34⟩
          refine r_cons (s_move (.int .i64 (k : Int)) rfl rfl ?_)
          refine r_cons (s_mul (2 * (k : Int)) rfl rfl (wi64 (by omega)) rfl ?_)
          refine r_cons (s_add (2 * (k : Int) + 1) rfl rfl (wi64 (by omega)) rfl ?_)
          by_cases hc35 : ((remB bs p).length : Int) < 2 * (k : Int) + 1
          · skip
            refine r_cons (s_lss true rfl rfl (dtrue hc35) rfl ?_)
            refine r_cons (s_assign (.bool true) rfl rfl ?_)
            refine r_nil ?_
            refine g_true rfl ?_
            refine g_seq ?_
            refine g_region ?_
            refine r_cons (s_assign (.int .u64 0) rfl rfl ?_)
            refine r_cons (s_assign (.int .i64 10) rfl rfl ?_)
            refine r_nil ?_
            refine g_ret' [.int .u64 0, .int .i64 10] Try.func110 Try.results110 ⟨rfl, rfl, trivial⟩ ?_
            have H36 : St W w33 (SrcA b bs p :: (F.set i emp)) := H34
            have hE : natE (remB bs p) = 10 := natE_10 (by omega) (by omega)
            have hE0 : ¬ natE (remB bs p) = 0 := by rw [hE]; decide
            exact ⟨by rw [natU_no hE0, hE]; rfl, by rw [natN_no hE0]; exact St.back hi H36⟩
          · skip
            refine r_cons (s_lss false rfl rfl (dfalse hc35) rfl ?_)
            refine r_cons (s_assign (.bool false) rfl rfl ?_)
            refine r_nil ?_
            refine g_false rfl ?_
            refine g_skip ?_
            refine g_inBlock ?_
            refine g_seq ?_
            refine g_region ?_
            refine r_cons (s_move (.pointer (some ⟨b, 0, none⟩)) rfl rfl ?_)
            refine r_cons (s_nilCheck (.pointer (some ⟨b, 0, none⟩)) rfl ⟨_, rfl⟩ rfl ?_)
            refine r_cons (s_fieldAddr 121 2 2 2 3 rfl fi_121_2 rfl rfl ?_)
            have H37 := H34.move 0 rfl
            obtain ⟨vv38, H39⟩ := St.open_ex H37
            have H40 := St.open_star H39
            obtain ⟨pp41, cc42, gA43, oA44, kA45, eA46, zA47, rfl, hn48, hp49, hx50, hs51, hml, H52⟩ := Im.open_ H40 (i := 1) rfl
            have H53 : St W w33 (imi (0 < bs.length) gA43 (.cells kA45 eA46 zA47) :: blk b (.cells #[.bool true, .slice pp41 bs.length cc42, .int .i64 ((p : Nat) : Int)] 121 (0, 0)) :: Im 1 (.slice pp41 bs.length cc42) bs.length (bs.flatMap u8c) :: (F.set i emp)) := H52
            refine r_cons (s_load (.int .i64 ((p : Nat) : Int)) ag_3 rfl (H53.blk_at (i := 1) rfl) rfl rfl ?_)
            refine r_cons (s_move (.int .i64 (k : Int)) rfl rfl ?_)
            refine r_cons (s_add ((k : Int) + 1) rfl rfl (wi64 (by omega)) rfl ?_)
            refine r_cons (s_add (((p : Nat) : Int) + ((k : Int) + 1)) rfl rfl (wi64 (by omega)) rfl ?_)
            refine r_cons (s_nilCheck (.pointer (some ⟨b, 0, none⟩)) rfl ⟨_, rfl⟩ rfl ?_)
            refine r_cons (s_fieldAddr 121 2 2 2 3 rfl fi_121_2 rfl rfl ?_)
            refine r_cons (s_store H53 1 (.int .i64 (((p : Nat) : Int) + ((k : Int) + 1))) rfl rfl rfl sz_3 rfl (Nat.le_of_ble_eq_true rfl) rfl (cs' := #[.bool true, .slice pp41 bs.length cc42, .int .i64 (((p : Nat) : Int) + ((k : Int) + 1))]) rfl ?_); intro w54 H55
            refine r_nil ?_
            refine g_seq ?_
            refine g_region ?_
            have hL1 := remB_len bs (p + k + 1)
            have he : srcE (remB bs (p + k + 1)) (k : Int) = 0 := srcE_0 (by omega) (by omega)
            have hu1 : srcU (remB bs (p + k + 1)) (k : Int) = valOf (((remB bs p).drop (zeros (remB bs p) + 1)).take (zeros (remB bs p))) := by rw [srcU_0 he, hzz, Int.toNat_natCast, remB_drop, Nat.add_assoc]
            have hu2 := srcU_lt_pow (R := remB bs (p + k + 1)) (k := k)
            have hN1 : srcN (remB bs (p + k + 1)) (k : Int) = k := by rw [srcN_0 he]; exact Int.toNat_natCast k
            refine r_cons (s_move (.pointer (some ⟨b, 0, none⟩)) rfl rfl ?_)
            refine r_cons (s_move (.int .i64 (k : Int)) rfl rfl ?_)
            have H56 : St W w54 (blk b (.cells #[.bool true, .slice pp41 bs.length cc42, .int .i64 (((p : Nat) : Int) + ((k : Int) + 1))] 121 (0, 0)) :: Im 1 (.slice pp41 bs.length cc42) bs.length (bs.flatMap u8c) :: (F.set i emp)) := (((H55.move 2 rfl).move 2 rfl).drop 2 rfl)
            have H57 : St W w54 (blk b (.cells #[.bool true, .slice pp41 bs.length cc42, .int .i64 ((p + k + 1 : Nat) : Int)] 121 (0, 0)) :: Im 1 (.slice pp41 bs.length cc42) bs.length (bs.flatMap u8c) :: (F.set i emp)) := by rw [show ((p + k + 1 : Nat) : Int) = ((p : Nat) : Int) + ((k : Int) + 1) from by omega]; exact H56
            have H58 : St W w54 (SrcA b bs (p + k + 1) :: (F.set i emp)) := St.shut_ex (.slice pp41 bs.length cc42) (St.shut_star (ls := [blk b (.cells #[.bool true, .slice pp41 bs.length cc42, .int .i64 ((p + k + 1 : Nat) : Int)] 121 (0, 0)), Im 1 (.slice pp41 bs.length cc42) bs.length (bs.flatMap u8c)]) H57)
            refine r_cons (s_call [.pointer (some ⟨b, 0, none⟩), .int .i64 (k : Int)] pl_51 rfl rfl (Src_Bits b bs (p + k + 1) (by first | omega | decide +kernel | (repeat (first | assumption | exact Nat.zero_le _ | refine natN_pos ?_ | refine srcN_pos ?_ | refine textN_pos ?_))) (by first | omega | decide +kernel) (k : Int)  (i := 0) rfl H58) ?_)
            rintro _ w59 ⟨rfl, H60⟩
            refine r_cons (s_move (.tuple #[.int .u64 (srcU (remB bs (p + k + 1)) (k : Int) : Int), .int .i64 (srcE (remB bs (p + k + 1)) (k : Int))]) rfl rfl ?_)
            refine r_cons (s_extract (.int .u64 (srcU (remB bs (p + k + 1)) (k : Int) : Int)) #[.int .u64 (srcU (remB bs (p + k + 1)) (k : Int) : Int), .int .i64 (srcE (remB bs (p + k + 1)) (k : Int))] rfl rfl rfl ?_)
            refine r_cons (s_extract (.int .i64 (srcE (remB bs (p + k + 1)) (k : Int))) #[.int .u64 (srcU (remB bs (p + k + 1)) (k : Int) : Int), .int .i64 (srcE (remB bs (p + k + 1)) (k : Int))] rfl rfl rfl ?_)
            refine r_cons (s_assign (.int .u64 (srcU (remB bs (p + k + 1)) (k : Int) : Int)) rfl rfl ?_)
            refine r_cons (s_assign (.int .i64 (srcE (remB bs (p + k + 1)) (k : Int))) rfl rfl ?_)
            refine r_nil ?_
            refine g_seq ?_
            refine g_seq ?_
            refine g_region ?_
            refine r_cons (s_move (.pointer (some ⟨b, 0, none⟩)) rfl rfl ?_)
            refine r_cons (s_move (.int .i64 ((p : Nat) : Int)) rfl rfl ?_)
            refine r_cons (s_move (.int .i64 (srcE (remB bs (p + k + 1)) (k : Int))) rfl rfl ?_)
            refine r_cons (s_call [.pointer (some ⟨b, 0, none⟩), .int .i64 ((p : Nat) : Int), .int .i64 (srcE (remB bs (p + k + 1)) (k : Int))] pl_116 rfl rfl (Src_back_ok b bs (p + k + 1 + srcN (remB bs (p + k + 1)) (k : Int)) ((p : Nat) : Int) (srcE (remB bs (p + k + 1)) (k : Int)) he (i := 0) rfl H60) ?_)
            rintro _ w61 ⟨rfl, H62⟩
            refine r_cons (s_neq false rfl rfl (ntrue he) rfl ?_)
            refine r_nil ?_
            refine g_false rfl ?_
            refine g_skip ?_
            refine g_seq ?_
            refine g_seq ?_
            refine g_region ?_
            refine r_cons (s_move (.int .i64 (k : Int)) rfl rfl ?_)
            by_cases hc63 : (k : Int) = 64
            · skip
              refine r_cons (s_eql true rfl rfl (dtrue hc63) rfl ?_)
              refine r_nil ?_
              refine g_true rfl ?_
              refine g_seq ?_
              refine g_seq ?_
              refine g_region ?_
              refine r_cons (s_move (.int .u64 (srcU (remB bs (p + k + 1)) (k : Int) : Int)) rfl rfl ?_)
              by_cases hc64 : (srcU (remB bs (p + k + 1)) (k : Int) : Int) = 0
              · skip
                refine r_cons (s_neq false rfl rfl (ntrue hc64) rfl ?_)
                refine r_nil ?_
                refine g_false rfl ?_
                refine g_skip ?_
                refine g_seq ?_
                refine g_region ?_
                refine r_cons (s_assign (.int .u64 18446744073709551615) rfl rfl ?_)
                refine r_cons (s_assign (.int .i64 0) rfl rfl ?_)
                refine r_nil ?_
                refine g_ret' [.int .u64 18446744073709551615, .int .i64 0] Try.func110 Try.results110 ⟨rfl, rfl, trivial⟩ ?_
                have H65 : St W w61 (SrcA b bs (p + k + 1 + srcN (remB bs (p + k + 1)) (k : Int)) :: (F.set i emp)) := H62
                have hE : natE (remB bs p) = 0 := natE_0 (by omega) (by omega) (by rw [← hu1]; omega)
                have hN : natN (remB bs p) = k + 1 + k := by rw [natN_0 hE]; omega
                have hU : natU (remB bs p) = 18446744073709551615 := by exact natU_64 hE (by omega)
                have hP : p + natN (remB bs p) = p + k + 1 + srcN (remB bs (p + k + 1)) (k : Int) := by rw [hN, hN1]; omega
                have hv : (natU (remB bs p) : Int) = 18446744073709551615 := by rw [hU]; rfl
                exact ⟨by rw [hE, hv]; rfl, by rw [hP]; exact St.back hi H65⟩
              · skip
                refine r_cons (s_neq true rfl rfl (nfalse hc64) rfl ?_)
                refine r_nil ?_
                refine g_true rfl ?_
                refine g_seq ?_
                refine g_region ?_
                refine r_cons (s_move (.pointer (some ⟨b, 0, none⟩)) rfl rfl ?_)
                refine r_cons (s_move (.int .i64 ((p : Nat) : Int)) rfl rfl ?_)
                refine r_cons (s_call [.pointer (some ⟨b, 0, none⟩), .int .i64 ((p : Nat) : Int), .int .i64 11] pl_116 rfl rfl (Src_back_no b bs (p + k + 1 + srcN (remB bs (p + k + 1)) (k : Int)) (p) 11 (by decide) (i := 0) rfl H62) ?_)
                rintro _ w66 ⟨rfl, H67⟩
                refine r_cons (s_assign (.int .u64 0) rfl rfl ?_)
                refine r_cons (s_assign (.int .i64 11) rfl rfl ?_)
                refine r_nil ?_
                refine g_ret' [.int .u64 0, .int .i64 11] Try.func110 Try.results110 ⟨rfl, rfl, trivial⟩ ?_
                have H68 : St W w66 (SrcA b bs p :: (F.set i emp)) := H67
                have hE : natE (remB bs p) = 11 := by first | exact natE_65 (by omega) | exact natE_11 (by omega) (by omega) (by rw [← hu1]; omega)
                have hE0 : ¬ natE (remB bs p) = 0 := by rw [hE]; decide
                exact ⟨by rw [natU_no hE0, hE]; rfl, by rw [natN_no hE0]; exact St.back hi H68⟩
            · skip
              refine r_cons (s_eql false rfl rfl (dfalse hc63) rfl ?_)
              refine r_nil ?_
              refine g_false rfl ?_
              refine g_skip ?_
              refine g_seq ?_
              refine g_region ?_
              have hpw := pow_le63 (k := k) (by omega)
              refine r_cons (s_move (.int .u64 (srcU (remB bs (p + k + 1)) (k : Int) : Int)) rfl rfl ?_)
              refine r_cons (s_move (.int .i64 (k : Int)) rfl rfl ?_)
              refine r_cons (s_shl ((2 ^ k : Nat) : Int) rfl rfl (by omega) (shl_one rfl (by omega)) rfl ?_)
              have hq : 0 < 2 ^ k := Nat.pow_pos (by decide)
              refine r_cons (s_add ((srcU (remB bs (p + k + 1)) (k : Int) + 2 ^ k : Nat) : Int) rfl rfl ((wu64 (by generalize 2 ^ k = q at *; omega)).trans (by generalize 2 ^ k = q at *; omega)) rfl ?_)
              refine r_cons (s_sub ((srcU (remB bs (p + k + 1)) (k : Int) + 2 ^ k - 1 : Nat) : Int) rfl rfl ((wu64 (by generalize 2 ^ k = q at *; omega)).trans (by generalize 2 ^ k = q at *; omega)) rfl ?_)
              refine r_cons (s_assign (.int .u64 ((srcU (remB bs (p + k + 1)) (k : Int) + 2 ^ k - 1 : Nat) : Int)) rfl rfl ?_)
              refine r_cons (s_assign (.int .i64 0) rfl rfl ?_)
              refine r_nil ?_
              refine g_ret' [.int .u64 ((srcU (remB bs (p + k + 1)) (k : Int) + 2 ^ k - 1 : Nat) : Int), .int .i64 0] Try.func110 Try.results110 ⟨rfl, rfl, trivial⟩ ?_
              have H69 : St W w61 (SrcA b bs (p + k + 1 + srcN (remB bs (p + k + 1)) (k : Int)) :: (F.set i emp)) := H62
              have hE : natE (remB bs p) = 0 := natE_0 (by omega) (by omega) (by rw [← hu1]; omega)
              have hN : natN (remB bs p) = k + 1 + k := by rw [natN_0 hE]; omega
              have hU : natU (remB bs p) = valOf (((remB bs p).drop (zeros (remB bs p) + 1)).take (zeros (remB bs p))) + 2 ^ k - 1 := by rw [natU_is hE (by omega), hzz]
              have hP : p + natN (remB bs p) = p + k + 1 + srcN (remB bs (p + k + 1)) (k : Int) := by rw [hN, hN1]; omega
              have hv : (natU (remB bs p) : Int) = ((srcU (remB bs (p + k + 1)) (k : Int) + 2 ^ k - 1 : Nat) : Int) := by rw [hU, ← hu1]; skip
              exact ⟨by rw [hE, hv]; rfl, by rw [hP]; exact St.back hi H69⟩
      · skip
        refine s_lss false rfl rfl (dfalse hc28) rfl ?_
        refine r_cons (s_pick_t (.bool false) rfl rfl rfl ?_)
        refine r_cons (s_move (.bool false) rfl rfl ?_)
        refine r_cons (r_pass rfl rfl rfl rfl rfl ?_)
        refine r_cons (r_pass rfl rfl rfl rfl rfl ?_)
        refine r_cons (r_pass rfl rfl rfl rfl rfl ?_)
        refine r_cons (r_pass rfl rfl rfl rfl rfl ?_)
        refine r_cons (r_pass rfl rfl rfl rfl rfl ?_)
        refine r_cons (r_pass rfl rfl rfl rfl rfl ?_)
        refine r_cons (s_pick_f (.bool false) rfl rfl rfl ?_)
        refine r_nil ?_
        refine g_false rfl ?_
        refine g_exit (by rfl) ?_
        refine g_seq ?_
        refine g_block ?_
        refine g_seq ?_
        refine g_region ?_
        have hzz : zeros (remB bs p) = k := zeros_is hk hkr hz (by first | (left; omega) | (right; left; omega) | (right; right; rw [remB_getD (by omega)]; exact Bool.of_not_eq_false fun h => absurd (toNat_1.2 h) ‹_›))
        clear hz
        refine r_cons (s_move (.int .i64 (k : Int)) rfl rfl ?_)
        refine r_cons (s_eql false rfl rfl (dfalse (by omega)) rfl ?_)
        refine r_cons (s_assign (.bool false) rfl rfl ?_)
        refine r_nil ?_
        refine g_false rfl ?_
        refine g_seq ?_
        refine g_region ?_
        refine r_cons (s_move (.pointer (some ⟨b, 0, none⟩)) rfl rfl ?_)
        refine r_cons (s_call [.pointer (some ⟨b, 0, none⟩)] pl_54 rfl rfl (Src_Left b bs p (by first | omega | decide +kernel | (repeat (first | assumption | exact Nat.zero_le _ | refine natN_pos ?_ | refine srcN_pos ?_ | refine textN_pos ?_))) (by first | omega | decide +kernel)   (i := 0) rfl H27) ?_)
        rintro _ w70 ⟨rfl, H71⟩
        refine r_cons (s_move (.int .i64 (k : Int)) rfl rfl ?_)
        refine r_cons (s_mul (2 * (k : Int)) rfl rfl (wi64 (by omega)) rfl ?_)
        refine r_cons (s_add (2 * (k : Int) + 1) rfl rfl (wi64 (by omega)) rfl ?_)
        by_cases hc72 : ((remB bs p).length : Int) < 2 * (k : Int) + 1
        · skip
          refine r_cons (s_lss true rfl rfl (dtrue hc72) rfl ?_)
          refine r_cons (s_assign (.bool true) rfl rfl ?_)
          refine r_nil ?_
          refine g_true rfl ?_
          refine g_seq ?_
          refine g_region ?_
          refine r_cons (s_assign (.int .u64 0) rfl rfl ?_)
          refine r_cons (s_assign (.int .i64 10) rfl rfl ?_)
          refine r_nil ?_
          refine g_ret' [.int .u64 0, .int .i64 10] Try.func110 Try.results110 ⟨rfl, rfl, trivial⟩ ?_
          have H73 : St W w70 (SrcA b bs p :: (F.set i emp)) := H71
          have hE : natE (remB bs p) = 10 := natE_10 (by omega) (by omega)
          have hE0 : ¬ natE (remB bs p) = 0 := by rw [hE]; decide
          exact ⟨by rw [natU_no hE0, hE]; rfl, by rw [natN_no hE0]; exact St.back hi H73⟩
        · skip
          refine r_cons (s_lss false rfl rfl (dfalse hc72) rfl ?_)
          refine r_cons (s_assign (.bool false) rfl rfl ?_)
          refine r_nil ?_
          refine g_false rfl ?_
          refine g_skip ?_
          refine g_inBlock ?_
          refine g_seq ?_
          refine g_region ?_
          refine r_cons (s_move (.pointer (some ⟨b, 0, none⟩)) rfl rfl ?_)
          refine r_cons (s_nilCheck (.pointer (some ⟨b, 0, none⟩)) rfl ⟨_, rfl⟩ rfl ?_)
          refine r_cons (s_fieldAddr 121 2 2 2 3 rfl fi_121_2 rfl rfl ?_)
          have H74 := H71.move 0 rfl
          obtain ⟨vv75, H76⟩ := St.open_ex H74
          have H77 := St.open_star H76
          obtain ⟨pp78, cc79, gA80, oA81, kA82, eA83, zA84, rfl, hn85, hp86, hx87, hs88, hml, H89⟩ := Im.open_ H77 (i := 1) rfl
          have H90 : St W w70 (imi (0 < bs.length) gA80 (.cells kA82 eA83 zA84) :: blk b (.cells #[.bool true, .slice pp78 bs.length cc79, .int .i64 ((p : Nat) : Int)] 121 (0, 0)) :: Im 1 (.slice pp78 bs.length cc79) bs.length (bs.flatMap u8c) :: (F.set i emp)) := H89
          refine r_cons (s_load (.int .i64 ((p : Nat) : Int)) ag_3 rfl (H90.blk_at (i := 1) rfl) rfl rfl ?_)
          refine r_cons (s_move (.int .i64 (k : Int)) rfl rfl ?_)
          refine r_cons (s_add ((k : Int) + 1) rfl rfl (wi64 (by omega)) rfl ?_)
          refine r_cons (s_add (((p : Nat) : Int) + ((k : Int) + 1)) rfl rfl (wi64 (by omega)) rfl ?_)
          refine r_cons (s_nilCheck (.pointer (some ⟨b, 0, none⟩)) rfl ⟨_, rfl⟩ rfl ?_)
          refine r_cons (s_fieldAddr 121 2 2 2 3 rfl fi_121_2 rfl rfl ?_)
          refine r_cons (s_store H90 1 (.int .i64 (((p : Nat) : Int) + ((k : Int) + 1))) rfl rfl rfl sz_3 rfl (Nat.le_of_ble_eq_true rfl) rfl (cs' := #[.bool true, .slice pp78 bs.length cc79, .int .i64 (((p : Nat) : Int) + ((k : Int) + 1))]) rfl ?_); intro w91 H92
          refine r_nil ?_
          refine g_seq ?_
          refine g_region ?_
          have hL1 := remB_len bs (p + k + 1)
          have he : srcE (remB bs (p + k + 1)) (k : Int) = 0 := srcE_0 (by omega) (by omega)
          have hu1 : srcU (remB bs (p + k + 1)) (k : Int) = valOf (((remB bs p).drop (zeros (remB bs p) + 1)).take (zeros (remB bs p))) := by rw [srcU_0 he, hzz, Int.toNat_natCast, remB_drop, Nat.add_assoc]
          have hu2 := srcU_lt_pow (R := remB bs (p + k + 1)) (k := k)
          have hN1 : srcN (remB bs (p + k + 1)) (k : Int) = k := by rw [srcN_0 he]; exact Int.toNat_natCast k
          refine r_cons (s_move (.pointer (some ⟨b, 0, none⟩)) rfl rfl ?_)
          refine r_cons (s_move (.int .i64 (k : Int)) rfl rfl ?_)
          have H93 : St W w91 (blk b (.cells #[.bool true, .slice pp78 bs.length cc79, .int .i64 (((p : Nat) : Int) + ((k : Int) + 1))] 121 (0, 0)) :: Im 1 (.slice pp78 bs.length cc79) bs.length (bs.flatMap u8c) :: (F.set i emp)) := (((H92.move 2 rfl).move 2 rfl).drop 2 rfl)
          have H94 : St W w91 (blk b (.cells #[.bool true, .slice pp78 bs.length cc79, .int .i64 ((p + k + 1 : Nat) : Int)] 121 (0, 0)) :: Im 1 (.slice pp78 bs.length cc79) bs.length (bs.flatMap u8c) :: (F.set i emp)) := by rw [show ((p + k + 1 : Nat) : Int) = ((p : Nat) : Int) + ((k : Int) + 1) from by omega]; exact H93
          have H95 : St W w91 (SrcA b bs (p + k + 1) :: (F.set i emp)) := St.shut_ex (.slice pp78 bs.length cc79) (St.shut_star (ls := [blk b (.cells #[.bool true, .slice pp78 bs.length cc79, .int .i64 ((p + k + 1 : Nat) : Int)] 121 (0, 0)), Im 1 (.slice pp78 bs.length cc79) bs.length (bs.flatMap u8c)]) H94)
          refine r_cons (s_call [.pointer (some ⟨b, 0, none⟩), .int .i64 (k : Int)] pl_51 rfl rfl (Src_Bits b bs (p + k + 1) (by first | omega | decide +kernel | (repeat (first | assumption | exact Nat.zero_le _ | refine natN_pos ?_ | refine srcN_pos ?_ | refine textN_pos ?_))) (by first | omega | decide +kernel) (k : Int)  (i := 0) rfl H95) ?_)
          rintro _ w96 ⟨rfl, H97⟩
          refine r_cons (s_move (.tuple #[.int .u64 (srcU (remB bs (p + k + 1)) (k : Int) : Int), .int .i64 (srcE (remB bs (p + k + 1)) (k : Int))]) rfl rfl ?_)
          refine r_cons (s_extract (.int .u64 (srcU (remB bs (p + k + 1)) (k : Int) : Int)) #[.int .u64 (srcU (remB bs (p + k + 1)) (k : Int) : Int), .int .i64 (srcE (remB bs (p + k + 1)) (k : Int))] rfl rfl rfl ?_)
          refine r_cons (s_extract (.int .i64 (srcE (remB bs (p + k + 1)) (k : Int))) #[.int .u64 (srcU (remB bs (p + k + 1)) (k : Int) : Int), .int .i64 (srcE (remB bs (p + k + 1)) (k : Int))] rfl rfl rfl ?_)
          refine r_cons (s_assign (.int .u64 (srcU (remB bs (p + k + 1)) (k : Int) : Int)) rfl rfl ?_)
          refine r_cons (s_assign (.int .i64 (srcE (remB bs (p + k + 1)) (k : Int))) rfl rfl ?_)
          refine r_nil ?_
          refine g_seq ?_
          refine g_seq ?_
          refine g_region ?_
          refine r_cons (s_move (.pointer (some ⟨b, 0, none⟩)) rfl rfl ?_)
          refine r_cons (s_move (.int .i64 ((p : Nat) : Int)) rfl rfl ?_)
          refine r_cons (s_move (.int .i64 (srcE (remB bs (p + k + 1)) (k : Int))) rfl rfl ?_)
          refine r_cons (s_call [.pointer (some ⟨b, 0, none⟩), .int .i64 ((p : Nat) : Int), .int .i64 (srcE (remB bs (p + k + 1)) (k : Int))] pl_116 rfl rfl (Src_back_ok b bs (p + k + 1 + srcN (remB bs (p + k + 1)) (k : Int)) ((p : Nat) : Int) (srcE (remB bs (p + k + 1)) (k : Int)) he (i := 0) rfl H97) ?_)
          rintro _ w98 ⟨rfl, H99⟩
          refine r_cons (s_neq false rfl rfl (ntrue he) rfl ?_)
          refine r_nil ?_
          refine g_false rfl ?_
          refine g_skip ?_
          refine g_seq ?_
          refine g_seq ?_
          refine g_region ?_
          refine r_cons (s_move (.int .i64 (k : Int)) rfl rfl ?_)
          by_cases hc100 : (k : Int) = 64
          · skip
            refine r_cons (s_eql true rfl rfl (dtrue hc100) rfl ?_)
            refine r_nil ?_
            refine g_true rfl ?_
            refine g_seq ?_
            refine g_seq ?_
            refine g_region ?_
            refine r_cons (s_move (.int .u64 (srcU (remB bs (p + k + 1)) (k : Int) : Int)) rfl rfl ?_)
            by_cases hc101 : (srcU (remB bs (p + k + 1)) (k : Int) : Int) = 0
            · skip
              refine r_cons (s_neq false rfl rfl (ntrue hc101) rfl ?_)
              refine r_nil ?_
              refine g_false rfl ?_
              refine g_skip ?_
              refine g_seq ?_
              refine g_region ?_
              refine r_cons (s_assign (.int .u64 18446744073709551615) rfl rfl ?_)
              refine r_cons (s_assign (.int .i64 0) rfl rfl ?_)
              refine r_nil ?_
              refine g_ret' [.int .u64 18446744073709551615, .int .i64 0] Try.func110 Try.results110 ⟨rfl, rfl, trivial⟩ ?_
              have H102 : St W w98 (SrcA b bs (p + k + 1 + srcN (remB bs (p + k + 1)) (k : Int)) :: (F.set i emp)) := H99
              have hE : natE (remB bs p) = 0 := natE_0 (by omega) (by omega) (by rw [← hu1]; omega)
              have hN : natN (remB bs p) = k + 1 + k := by rw [natN_0 hE]; omega
              have hU : natU (remB bs p) = 18446744073709551615 := by exact natU_64 hE (by omega)
              have hP : p + natN (remB bs p) = p + k + 1 + srcN (remB bs (p + k + 1)) (k : Int) := by rw [hN, hN1]; omega
              have hv : (natU (remB bs p) : Int) = 18446744073709551615 := by rw [hU]; rfl
              exact ⟨by rw [hE, hv]; rfl, by rw [hP]; exact St.back hi H102⟩
            · skip
              refine r_cons (s_neq true rfl rfl (nfalse hc101) rfl ?_)
              refine r_nil ?_
              refine g_true rfl ?_
              refine g_seq ?_
              refine g_region ?_
              refine r_cons (s_move (.pointer (some ⟨b, 0, none⟩)) rfl rfl ?_)
              refine r_cons (s_move (.int .i64 ((p : Nat) : Int)) rfl rfl ?_)
              refine r_cons (s_call [.pointer (some ⟨b, 0, none⟩), .int .i64 ((p : Nat) : Int), .int .i64 11] pl_116 rfl rfl (Src_back_no b bs (p + k + 1 + srcN (remB bs (p + k + 1)) (k : Int)) (p) 11 (by decide) (i := 0) rfl H99) ?_)
              rintro _ w103 ⟨rfl, H104⟩
              refine r_cons (s_assign (.int .u64 0) rfl rfl ?_)
              refine r_cons (s_assign (.int .i64 11) rfl rfl ?_)
              refine r_nil ?_
              refine g_ret' [.int .u64 0, .int .i64 11] Try.func110 Try.results110 ⟨rfl, rfl, trivial⟩ ?_
              have H105 : St W w103 (SrcA b bs p :: (F.set i emp)) := H104
              have hE : natE (remB bs p) = 11 := by first | exact natE_65 (by omega) | exact natE_11 (by omega) (by omega) (by rw [← hu1]; omega)
              have hE0 : ¬ natE (remB bs p) = 0 := by rw [hE]; decide
              exact ⟨by rw [natU_no hE0, hE]; rfl, by rw [natN_no hE0]; exact St.back hi H105⟩
          · skip
            refine r_cons (s_eql false rfl rfl (dfalse hc100) rfl ?_)
            refine r_nil ?_
            refine g_false rfl ?_
            refine g_skip ?_
            refine g_seq ?_
            refine g_region ?_
            have hpw := pow_le63 (k := k) (by omega)
            refine r_cons (s_move (.int .u64 (srcU (remB bs (p + k + 1)) (k : Int) : Int)) rfl rfl ?_)
            refine r_cons (s_move (.int .i64 (k : Int)) rfl rfl ?_)
            refine r_cons (s_shl ((2 ^ k : Nat) : Int) rfl rfl (by omega) (shl_one rfl (by omega)) rfl ?_)
            have hq : 0 < 2 ^ k := Nat.pow_pos (by decide)
            refine r_cons (s_add ((srcU (remB bs (p + k + 1)) (k : Int) + 2 ^ k : Nat) : Int) rfl rfl ((wu64 (by generalize 2 ^ k = q at *; omega)).trans (by generalize 2 ^ k = q at *; omega)) rfl ?_)
            refine r_cons (s_sub ((srcU (remB bs (p + k + 1)) (k : Int) + 2 ^ k - 1 : Nat) : Int) rfl rfl ((wu64 (by generalize 2 ^ k = q at *; omega)).trans (by generalize 2 ^ k = q at *; omega)) rfl ?_)
            refine r_cons (s_assign (.int .u64 ((srcU (remB bs (p + k + 1)) (k : Int) + 2 ^ k - 1 : Nat) : Int)) rfl rfl ?_)
            refine r_cons (s_assign (.int .i64 0) rfl rfl ?_)
            refine r_nil ?_
            refine g_ret' [.int .u64 ((srcU (remB bs (p + k + 1)) (k : Int) + 2 ^ k - 1 : Nat) : Int), .int .i64 0] Try.func110 Try.results110 ⟨rfl, rfl, trivial⟩ ?_
            have H106 : St W w98 (SrcA b bs (p + k + 1 + srcN (remB bs (p + k + 1)) (k : Int)) :: (F.set i emp)) := H99
            have hE : natE (remB bs p) = 0 := natE_0 (by omega) (by omega) (by rw [← hu1]; omega)
            have hN : natN (remB bs p) = k + 1 + k := by rw [natN_0 hE]; omega
            have hU : natU (remB bs p) = valOf (((remB bs p).drop (zeros (remB bs p) + 1)).take (zeros (remB bs p))) + 2 ^ k - 1 := by rw [natU_is hE (by omega), hzz]
            have hP : p + natN (remB bs p) = p + k + 1 + srcN (remB bs (p + k + 1)) (k : Int) := by rw [hN, hN1]; omega
            have hv : (natU (remB bs p) : Int) = ((srcU (remB bs (p + k + 1)) (k : Int) + 2 ^ k - 1 : Nat) : Int) := by rw [hU, ← hu1]; skip
            exact ⟨by rw [hE, hv]; rfl, by rw [hP]; exact St.back hi H106⟩
    · skip
      refine r_cons (s_lss false rfl rfl (dfalse hc25) rfl ?_)
      refine r_cons (s_move (.bool false) rfl rfl ?_)
      refine r_cons (r_pass rfl rfl rfl rfl rfl ?_)
      refine r_cons (r_pass rfl rfl rfl rfl rfl ?_)
      refine r_cons (r_pass rfl rfl rfl rfl rfl ?_)
      refine r_cons (r_pass rfl rfl rfl rfl rfl ?_)
      refine r_cons (s_pick_f (.bool false) rfl rfl rfl ?_)
      refine r_cons (s_move (.bool false) rfl rfl ?_)
      refine r_cons (r_pass rfl rfl rfl rfl rfl ?_)
      refine r_cons (r_pass rfl rfl rfl rfl rfl ?_)
      refine r_cons (r_pass rfl rfl rfl rfl rfl ?_)
      refine r_cons (r_pass rfl rfl rfl rfl rfl ?_)
      refine r_cons (r_pass rfl rfl rfl rfl rfl ?_)
      refine r_cons (r_pass rfl rfl rfl rfl rfl ?_)
      refine r_cons (s_pick_f (.bool false) rfl rfl rfl ?_)
      refine r_nil ?_
      refine g_false rfl ?_
      refine g_exit (by rfl) ?_
      refine g_seq ?_
      refine g_block ?_
      refine g_seq ?_
      refine g_region ?_
      have hzz : zeros (remB bs p) = k := zeros_is hk hkr hz (by first | (left; omega) | (right; left; omega) | (right; right; rw [remB_getD (by omega)]; exact Bool.of_not_eq_false fun h => absurd (toNat_1.2 h) ‹_›))
      clear hz
      refine r_cons (s_move (.int .i64 (k : Int)) rfl rfl ?_)
      by_cases hc107 : (k : Int) = 65
      · skip
        refine r_cons (s_eql true rfl rfl (dtrue hc107) rfl ?_)
        refine r_cons (s_assign (.bool true) rfl rfl ?_)
        refine r_nil ?_
        refine g_true rfl ?_
        refine g_seq ?_
        refine g_region ?_
        refine r_cons (s_assign (.int .u64 0) rfl rfl ?_)
        refine r_cons (s_assign (.int .i64 11) rfl rfl ?_)
        refine r_nil ?_
        refine g_ret' [.int .u64 0, .int .i64 11] Try.func110 Try.results110 ⟨rfl, rfl, trivial⟩ ?_
        have H108 : St W w22 (SrcA b bs p :: (F.set i emp)) := H23
        have hE : natE (remB bs p) = 11 := by first | exact natE_65 (by omega) | exact natE_11 (by omega) (by omega) (by rw [← hu1]; omega)
        have hE0 : ¬ natE (remB bs p) = 0 := by rw [hE]; decide
        exact ⟨by rw [natU_no hE0, hE]; rfl, by rw [natN_no hE0]; exact St.back hi H108⟩
      · skip
        refine r_cons (s_eql false rfl rfl (dfalse hc107) rfl ?_)
        refine r_cons (s_assign (.bool false) rfl rfl ?_)
        refine r_nil ?_
        refine g_false rfl ?_
        refine g_seq ?_
        refine g_region ?_
        refine r_cons (s_move (.pointer (some ⟨b, 0, none⟩)) rfl rfl ?_)
        refine r_cons (s_call [.pointer (some ⟨b, 0, none⟩)] pl_54 rfl rfl (Src_Left b bs p (by first | omega | decide +kernel | (repeat (first | assumption | exact Nat.zero_le _ | refine natN_pos ?_ | refine srcN_pos ?_ | refine textN_pos ?_))) (by first | omega | decide +kernel)   (i := 0) rfl H23) ?_)
        rintro _ w109 ⟨rfl, H110⟩
        refine r_cons (s_move (.int .i64 (k : Int)) rfl rfl ?_)
        refine r_cons (s_mul (2 * (k : Int)) rfl rfl (wi64 (by omega)) rfl ?_)
        refine r_cons (s_add (2 * (k : Int) + 1) rfl rfl (wi64 (by omega)) rfl ?_)
        by_cases hc111 : ((remB bs p).length : Int) < 2 * (k : Int) + 1
        · skip
          refine r_cons (s_lss true rfl rfl (dtrue hc111) rfl ?_)
          refine r_cons (s_assign (.bool true) rfl rfl ?_)
          refine r_nil ?_
          refine g_true rfl ?_
          refine g_seq ?_
          refine g_region ?_
          refine r_cons (s_assign (.int .u64 0) rfl rfl ?_)
          refine r_cons (s_assign (.int .i64 10) rfl rfl ?_)
          refine r_nil ?_
          refine g_ret' [.int .u64 0, .int .i64 10] Try.func110 Try.results110 ⟨rfl, rfl, trivial⟩ ?_
          have H112 : St W w109 (SrcA b bs p :: (F.set i emp)) := H110
          have hE : natE (remB bs p) = 10 := natE_10 (by omega) (by omega)
          have hE0 : ¬ natE (remB bs p) = 0 := by rw [hE]; decide
          exact ⟨by rw [natU_no hE0, hE]; rfl, by rw [natN_no hE0]; exact St.back hi H112⟩
        · skip
          refine r_cons (s_lss false rfl rfl (dfalse hc111) rfl ?_)
          refine r_cons (s_assign (.bool false) rfl rfl ?_)
          refine r_nil ?_
          refine g_false rfl ?_
          refine g_skip ?_
          refine g_inBlock ?_
          refine g_seq ?_
          refine g_region ?_
          refine r_cons (s_move (.pointer (some ⟨b, 0, none⟩)) rfl rfl ?_)
          refine r_cons (s_nilCheck (.pointer (some ⟨b, 0, none⟩)) rfl ⟨_, rfl⟩ rfl ?_)
          refine r_cons (s_fieldAddr 121 2 2 2 3 rfl fi_121_2 rfl rfl ?_)
          have H113 := H110.move 0 rfl
          obtain ⟨vv114, H115⟩ := St.open_ex H113
          have H116 := St.open_star H115
          obtain ⟨pp117, cc118, gA119, oA120, kA121, eA122, zA123, rfl, hn124, hp125, hx126, hs127, hml, H128⟩ := Im.open_ H116 (i := 1) rfl
          have H129 : St W w109 (imi (0 < bs.length) gA119 (.cells kA121 eA122 zA123) :: blk b (.cells #[.bool true, .slice pp117 bs.length cc118, .int .i64 ((p : Nat) : Int)] 121 (0, 0)) :: Im 1 (.slice pp117 bs.length cc118) bs.length (bs.flatMap u8c) :: (F.set i emp)) := H128
          refine r_cons (s_load (.int .i64 ((p : Nat) : Int)) ag_3 rfl (H129.blk_at (i := 1) rfl) rfl rfl ?_)
          refine r_cons (s_move (.int .i64 (k : Int)) rfl rfl ?_)
          refine r_cons (s_add ((k : Int) + 1) rfl rfl (wi64 (by omega)) rfl ?_)
          refine r_cons (s_add (((p : Nat) : Int) + ((k : Int) + 1)) rfl rfl (wi64 (by omega)) rfl ?_)
          refine r_cons (s_nilCheck (.pointer (some ⟨b, 0, none⟩)) rfl ⟨_, rfl⟩ rfl ?_)
          refine r_cons (s_fieldAddr 121 2 2 2 3 rfl fi_121_2 rfl rfl ?_)
          refine r_cons (s_store H129 1 (.int .i64 (((p : Nat) : Int) + ((k : Int) + 1))) rfl rfl rfl sz_3 rfl (Nat.le_of_ble_eq_true rfl) rfl (cs' := #[.bool true, .slice pp117 bs.length cc118, .int .i64 (((p : Nat) : Int) + ((k : Int) + 1))]) rfl ?_); intro w130 H131
          refine r_nil ?_
          refine g_seq ?_
          refine g_region ?_
          have hL1 := remB_len bs (p + k + 1)
          have he : srcE (remB bs (p + k + 1)) (k : Int) = 0 := srcE_0 (by omega) (by omega)
          have hu1 : srcU (remB bs (p + k + 1)) (k : Int) = valOf (((remB bs p).drop (zeros (remB bs p) + 1)).take (zeros (remB bs p))) := by rw [srcU_0 he, hzz, Int.toNat_natCast, remB_drop, Nat.add_assoc]
          have hu2 := srcU_lt_pow (R := remB bs (p + k + 1)) (k := k)
          have hN1 : srcN (remB bs (p + k + 1)) (k : Int) = k := by rw [srcN_0 he]; exact Int.toNat_natCast k
          refine r_cons (s_move (.pointer (some ⟨b, 0, none⟩)) rfl rfl ?_)
          refine r_cons (s_move (.int .i64 (k : Int)) rfl rfl ?_)
          have H132 : St W w130 (blk b (.cells #[.bool true, .slice pp117 bs.length cc118, .int .i64 (((p : Nat) : Int) + ((k : Int) + 1))] 121 (0, 0)) :: Im 1 (.slice pp117 bs.length cc118) bs.length (bs.flatMap u8c) :: (F.set i emp)) := (((H131.move 2 rfl).move 2 rfl).drop 2 rfl)
          have H133 : St W w130 (blk b (.cells #[.bool true, .slice pp117 bs.length cc118, .int .i64 ((p + k + 1 : Nat) : Int)] 121 (0, 0)) :: Im 1 (.slice pp117 bs.length cc118) bs.length (bs.flatMap u8c) :: (F.set i emp)) := by rw [show ((p + k + 1 : Nat) : Int) = ((p : Nat) : Int) + ((k : Int) + 1) from by omega]; exact H132
          have H134 : St W w130 (SrcA b bs (p + k + 1) :: (F.set i emp)) := St.shut_ex (.slice pp117 bs.length cc118) (St.shut_star (ls := [blk b (.cells #[.bool true, .slice pp117 bs.length cc118, .int .i64 ((p + k + 1 : Nat) : Int)] 121 (0, 0)), Im 1 (.slice pp117 bs.length cc118) bs.length (bs.flatMap u8c)]) H133)
          refine r_cons (s_call [.pointer (some ⟨b, 0, none⟩), .int .i64 (k : Int)] pl_51 rfl rfl (Src_Bits b bs (p + k + 1) (by first | omega | decide +kernel | (repeat (first | assumption | exact Nat.zero_le _ | refine natN_pos ?_ | refine srcN_pos ?_ | refine textN_pos ?_))) (by first | omega | decide +kernel) (k : Int)  (i := 0) rfl H134) ?_)
          rintro _ w135 ⟨rfl, H136⟩
          refine r_cons (s_move (.tuple #[.int .u64 (srcU (remB bs (p + k + 1)) (k : Int) : Int), .int .i64 (srcE (remB bs (p + k + 1)) (k : Int))]) rfl rfl ?_)
          refine r_cons (s_extract (.int .u64 (srcU (remB bs (p + k + 1)) (k : Int) : Int)) #[.int .u64 (srcU (remB bs (p + k + 1)) (k : Int) : Int), .int .i64 (srcE (remB bs (p + k + 1)) (k : Int))] rfl rfl rfl ?_)
          refine r_cons (s_extract (.int .i64 (srcE (remB bs (p + k + 1)) (k : Int))) #[.int .u64 (srcU (remB bs (p + k + 1)) (k : Int) : Int), .int .i64 (srcE (remB bs (p + k + 1)) (k : Int))] rfl rfl rfl ?_)
          refine r_cons (s_assign (.int .u64 (srcU (remB bs (p + k + 1)) (k : Int) : Int)) rfl rfl ?_)
          refine r_cons (s_assign (.int .i64 (srcE (remB bs (p + k + 1)) (k : Int))) rfl rfl ?_)
          refine r_nil ?_
          refine g_seq ?_
          refine g_seq ?_
          refine g_region ?_
          refine r_cons (s_move (.pointer (some ⟨b, 0, none⟩)) rfl rfl ?_)
          refine r_cons (s_move (.int .i64 ((p : Nat) : Int)) rfl rfl ?_)
          refine r_cons (s_move (.int .i64 (srcE (remB bs (p + k + 1)) (k : Int))) rfl rfl ?_)
          refine r_cons (s_call [.pointer (some ⟨b, 0, none⟩), .int .i64 ((p : Nat) : Int), .int .i64 (srcE (remB bs (p + k + 1)) (k : Int))] pl_116 rfl rfl (Src_back_ok b bs (p + k + 1 + srcN (remB bs (p + k + 1)) (k : Int)) ((p : Nat) : Int) (srcE (remB bs (p + k + 1)) (k : Int)) he (i := 0) rfl H136) ?_)
          rintro _ w137 ⟨rfl, H138⟩
          refine r_cons (s_neq false rfl rfl (ntrue he) rfl ?_)
          refine r_nil ?_
          refine g_false rfl ?_
          refine g_skip ?_
          refine g_seq ?_
          refine g_seq ?_
          refine g_region ?_
          refine r_cons (s_move (.int .i64 (k : Int)) rfl rfl ?_)
          refine r_cons (s_eql false rfl rfl (dfalse (by omega)) rfl ?_)
          refine r_nil ?_
          refine g_false rfl ?_
          refine g_skip ?_
          refine g_seq ?_
          refine g_region ?_
          have hpw := pow_le63 (k := k) (by omega)
          refine r_cons (s_move (.int .u64 (srcU (remB bs (p + k + 1)) (k : Int) : Int)) rfl rfl ?_)
          refine r_cons (s_move (.int .i64 (k : Int)) rfl rfl ?_)
          refine r_cons (s_shl ((2 ^ k : Nat) : Int) rfl rfl (by omega) (shl_one rfl (by omega)) rfl ?_)
          have hq : 0 < 2 ^ k := Nat.pow_pos (by decide)
          refine r_cons (s_add ((srcU (remB bs (p + k + 1)) (k : Int) + 2 ^ k : Nat) : Int) rfl rfl ((wu64 (by generalize 2 ^ k = q at *; omega)).trans (by generalize 2 ^ k = q at *; omega)) rfl ?_)
          refine r_cons (s_sub ((srcU (remB bs (p + k + 1)) (k : Int) + 2 ^ k - 1 : Nat) : Int) rfl rfl ((wu64 (by generalize 2 ^ k = q at *; omega)).trans (by generalize 2 ^ k = q at *; omega)) rfl ?_)
          refine r_cons (s_assign (.int .u64 ((srcU (remB bs (p + k + 1)) (k : Int) + 2 ^ k - 1 : Nat) : Int)) rfl rfl ?_)
          refine r_cons (s_assign (.int .i64 0) rfl rfl ?_)
          refine r_nil ?_
          refine g_ret' [.int .u64 ((srcU (remB bs (p + k + 1)) (k : Int) + 2 ^ k - 1 : Nat) : Int), .int .i64 0] Try.func110 Try.results110 ⟨rfl, rfl, trivial⟩ ?_
          have H139 : St W w137 (SrcA b bs (p + k + 1 + srcN (remB bs (p + k + 1)) (k : Int)) :: (F.set i emp)) := H138
          have hE : natE (remB bs p) = 0 := natE_0 (by omega) (by omega) (by rw [← hu1]; omega)
          have hN : natN (remB bs p) = k + 1 + k := by rw [natN_0 hE]; omega
          have hU : natU (remB bs p) = valOf (((remB bs p).drop (zeros (remB bs p) + 1)).take (zeros (remB bs p))) + 2 ^ k - 1 := by rw [natU_is hE (by omega), hzz]
          have hP : p + natN (remB bs p) = p + k + 1 + srcN (remB bs (p + k + 1)) (k : Int) := by rw [hN, hN1]; omega
          have hv : (natU (remB bs p) : Int) = ((srcU (remB bs (p + k + 1)) (k : Int) + 2 ^ k - 1 : Nat) : Int) := by rw [hU, ← hu1]; skip
          exact ⟨by rw [hE, hv]; rfl, by rw [hP]; exact St.back hi H139⟩
set_option maxHeartbeats 4000000 in
set_option maxRecDepth 100000 in
theorem Src_Num {W w : World} {F : List Atom} (b : Nat) (bs : List UInt8) (p : Nat) (hp : p ≤ 8 * bs.length) (hb : bs.length ≤ 140737488355328) {i : Nat} (hi : F[i]? = some (SrcA b bs p)) (H : St W w F) : Calls Try.prog 117 #[.pointer (some ⟨b, 0, none⟩)] w (Ret fun v w' => v = .tuple #[.int .i64 (zagN (natU (remB bs p))), .int .i64 (natE (remB bs p))] ∧ St W w' (F.set i (SrcA b bs (p + natN (remB bs p))))) := by
  have H0 := H.front hi
  refine calls_of_go (n := 20) Try.func117 rfl Try.ntmps117 rfl ?_
  refine g_seq ?_
  refine g_region ?_
  refine r_cons (s_assign (.int .i64 0) rfl rfl ?_)
  refine r_cons (s_assign (.int .i64 0) rfl rfl ?_)
  refine r_nil ?_
  refine g_seq ?_
  refine g_region ?_
  refine r_cons (s_move (.pointer (some ⟨b, 0, none⟩)) rfl rfl ?_)
  refine r_cons (s_call [.pointer (some ⟨b, 0, none⟩)] pl_110 rfl rfl (Src_Nat b bs p (by first | omega | decide +kernel | (repeat (first | assumption | exact Nat.zero_le _ | refine natN_pos ?_ | refine srcN_pos ?_ | refine textN_pos ?_))) (by first | omega | decide +kernel)   (i := 0) rfl H0) ?_)
  rintro _ w1 ⟨rfl, H2⟩
  refine r_cons (s_move (.tuple #[.int .u64 (natU (remB bs p) : Int), .int .i64 (natE (remB bs p))]) rfl rfl ?_)
  refine r_cons (s_extract (.int .u64 (natU (remB bs p) : Int)) #[.int .u64 (natU (remB bs p) : Int), .int .i64 (natE (remB bs p))] rfl rfl rfl ?_)
  refine r_cons (s_extract (.int .i64 (natE (remB bs p))) #[.int .u64 (natU (remB bs p) : Int), .int .i64 (natE (remB bs p))] rfl rfl rfl ?_)
  refine r_cons (s_assign (.int .u64 (natU (remB bs p) : Int)) rfl rfl ?_)
  refine r_cons (s_assign (.int .i64 (natE (remB bs p))) rfl rfl ?_)
  refine r_nil ?_
  refine g_seq ?_
  refine g_region ?_
  refine r_cons (s_move (.int .u64 (natU (remB bs p) : Int)) rfl rfl ?_)
  have hlt := natU_lt (remB bs p)
  refine r_cons (s_shr (((natU (remB bs p)) / 2 ^ 1 : Nat) : Int) rfl rfl (by omega) (shr_nat (k := 1) rfl (by decide)) rfl ?_)
  refine r_cons (s_conv (((natU (remB bs p)) / 2 ^ 1 : Nat) : Int) rfl us_62 ik_2 (wi64 (by omega)) rfl ?_)
  refine r_cons (s_move (.int .u64 (natU (remB bs p) : Int)) rfl rfl ?_)
  refine r_cons (s_and (((natU (remB bs p)) % 2 : Nat) : Int) rfl rfl (and_one _ (by omega)) rfl ?_)
  refine r_cons (s_conv (((natU (remB bs p)) % 2 : Nat) : Int) rfl us_62 ik_2 (wi64 (by omega)) rfl ?_)
  refine r_cons (s_neg (-(((natU (remB bs p)) % 2 : Nat) : Int)) rfl (wi64 (by omega)) rfl ?_)
  refine r_cons (s_xor (zagN (natU (remB bs p))) rfl rfl (zag_bits _ hlt) rfl ?_)
  refine r_cons (s_move (.int .i64 (natE (remB bs p))) rfl rfl ?_)
  refine r_cons (s_assign (.int .i64 (zagN (natU (remB bs p)))) rfl rfl ?_)
  refine r_cons (s_assign (.int .i64 (natE (remB bs p))) rfl rfl ?_)
  refine r_nil ?_
  refine g_ret' [.int .i64 (zagN (natU (remB bs p))), .int .i64 (natE (remB bs p))] Try.func117 Try.results117 ⟨rfl, rfl, trivial⟩ ?_
  have H3 : St W w1 (SrcA b bs (p + natN (remB bs p)) :: (F.set i emp)) := H2
  exact ⟨rfl, St.back hi H3⟩
set_option maxHeartbeats 4000000 in
set_option maxRecDepth 100000 in
theorem Src_End {W w : World} {F : List Atom} (b : Nat) (bs : List UInt8) (p : Nat) (hp : p ≤ 8 * bs.length) (hb : bs.length ≤ 140737488355328) {i : Nat} (hi : F[i]? = some (SrcA b bs p)) (H : St W w F) : Calls Try.prog 81 #[.pointer (some ⟨b, 0, none⟩)] w (Ret fun v w' => v = .int .i64 (endE (remB bs p)) ∧ St W w' F) := by
  have H0 := H.front hi
  refine calls_of_go (n := 34) Try.func81 rfl Try.ntmps81 rfl ?_
  refine g_seq ?_
  refine g_region ?_
  refine r_cons (s_assign (.int .i64 0) rfl rfl ?_)
  refine r_nil ?_
  refine g_seq ?_
  refine g_seq ?_
  refine g_region ?_
  refine r_cons (s_move (.pointer (some ⟨b, 0, none⟩)) rfl rfl ?_)
  refine r_cons (s_peql false un_76 rfl rfl rfl rfl ?_)
  refine r_cons (s_move (.bool false) rfl rfl ?_)
  refine r_cons (r_take rfl rfl ?_)
  refine s_move (.pointer (some ⟨b, 0, none⟩)) rfl rfl ?_
  refine r_cons (r_take rfl rfl ?_)
  refine s_nilCheck (.pointer (some ⟨b, 0, none⟩)) rfl ⟨_, rfl⟩ rfl ?_
  refine r_cons (r_take rfl rfl ?_)
  refine s_fieldAddr 121 0 0 0 4 rfl fi_121_0 rfl rfl ?_
  refine r_cons (r_take rfl rfl ?_)
  have H1 := H0.move 0 rfl
  obtain ⟨vv2, H3⟩ := St.open_ex H1
  have H4 := St.open_star H3
  obtain ⟨pp5, cc6, gA7, oA8, kA9, eA10, zA11, rfl, hn12, hp13, hx14, hs15, hml, H16⟩ := Im.open_ H4 (i := 1) rfl
  have H17 : St W w (imi (0 < bs.length) gA7 (.cells kA9 eA10 zA11) :: blk b (.cells #[.bool true, .slice pp5 bs.length cc6, .int .i64 ((p : Nat) : Int)] 121 (0, 0)) :: Im 1 (.slice pp5 bs.length cc6) bs.length (bs.flatMap u8c) :: (F.set i emp)) := H16
  refine s_load (.bool true) ag_4 rfl (H17.blk_at (i := 1) rfl) rfl rfl ?_
  refine r_cons (r_take rfl rfl ?_)
  refine s_not true rfl false rfl rfl ?_
  refine r_cons (s_pick_f (.bool false) rfl rfl rfl ?_)
  refine r_nil ?_
  refine g_false rfl ?_
  refine g_skip ?_
  refine g_seq ?_
  refine g_seq ?_
  refine g_region ?_
  refine r_cons (s_move (.pointer (some ⟨b, 0, none⟩)) rfl rfl ?_)
  have H18 : St W w (blk b (.cells #[.bool true, .slice pp5 bs.length cc6, .int .i64 ((p : Nat) : Int)] 121 (0, 0)) :: Im 1 (.slice pp5 bs.length cc6) bs.length (bs.flatMap u8c) :: (F.set i emp)) := (((H17.move 2 rfl).move 2 rfl).drop 2 rfl)
  have H19 : St W w (SrcA b bs p :: (F.set i emp)) := St.shut_ex (.slice pp5 bs.length cc6) (St.shut_star (ls := [blk b (.cells #[.bool true, .slice pp5 bs.length cc6, .int .i64 ((p : Nat) : Int)] 121 (0, 0)), Im 1 (.slice pp5 bs.length cc6) bs.length (bs.flatMap u8c)]) H18)
  refine r_cons (s_call [.pointer (some ⟨b, 0, none⟩)] pl_54 rfl rfl (Src_Left b bs p (by first | omega | decide +kernel | (repeat (first | assumption | exact Nat.zero_le _ | refine natN_pos ?_ | refine srcN_pos ?_ | refine textN_pos ?_))) (by first | omega | decide +kernel)   (i := 0) rfl H19) ?_)
  rintro _ w20 ⟨rfl, H21⟩
  by_cases hc22 : (8 : Int) ≤ ((remB bs p).length : Int)
  · skip
    refine r_cons (s_geq true rfl rfl (dtrue hc22) rfl ?_)
    refine r_nil ?_
    refine g_true rfl ?_
    refine g_seq ?_
    refine g_region ?_
    refine r_cons (s_assign (.int .i64 12) rfl rfl ?_)
    refine r_nil ?_
    refine g_ret' [.int .i64 12] Try.func81 Try.results81 ⟨rfl, trivial⟩ ?_
    have H23 : St W w20 (SrcA b bs p :: (F.set i emp)) := H21
    exact ⟨vint (by have hL2 := remB_len bs p; first | exact (endE_long (by omega)).symm | exact (endE_bit (j := k) (by omega) (by rw [remB_getD (by omega)]; cases hh : bitAt bs (p + k) with | true => rfl | false => (have h1 : (((bitAt bs (p + k)).toNat : Nat) : Int) = 1 := ‹_›; rw [hh] at h1; cases h1))).symm | exact (endE_0 (by omega) (fun j hj => hz j (by omega))).symm), St.back_same hi H23⟩
  · skip
    refine r_cons (s_geq false rfl rfl (dfalse hc22) rfl ?_)
    refine r_nil ?_
    refine g_false rfl ?_
    refine g_skip ?_
    refine g_seq ?_
    refine g_seq ?_
    refine g_region ?_
    refine r_cons (s_move (.pointer (some ⟨b, 0, none⟩)) rfl rfl ?_)
    refine r_cons (s_nilCheck (.pointer (some ⟨b, 0, none⟩)) rfl ⟨_, rfl⟩ rfl ?_)
    refine r_cons (s_fieldAddr 121 2 2 2 3 rfl fi_121_2 rfl rfl ?_)
    have H24 := H21.move 0 rfl
    obtain ⟨vv25, H26⟩ := St.open_ex H24
    have H27 := St.open_star H26
    obtain ⟨pp28, cc29, gA30, oA31, kA32, eA33, zA34, rfl, hn35, hp36, hx37, hs38, hml, H39⟩ := Im.open_ H27 (i := 1) rfl
    have H40 : St W w20 (imi (0 < bs.length) gA30 (.cells kA32 eA33 zA34) :: blk b (.cells #[.bool true, .slice pp28 bs.length cc29, .int .i64 ((p : Nat) : Int)] 121 (0, 0)) :: Im 1 (.slice pp28 bs.length cc29) bs.length (bs.flatMap u8c) :: (F.set i emp)) := H39
    refine r_cons (s_load (.int .i64 ((p : Nat) : Int)) ag_3 rfl (H40.blk_at (i := 1) rfl) rfl rfl ?_)
    refine r_cons (s_assign (.int .i64 ((p : Nat) : Int)) rfl rfl ?_)
    refine r_nil ?_
    refine g_block ?_
    have H41 : St W w20 (blk b (.cells #[.bool true, .slice pp28 bs.length cc29, .int .i64 ((p : Nat) : Int)] 121 (0, 0)) :: Im 1 (.slice pp28 bs.length cc29) bs.length (bs.flatMap u8c) :: (F.set i emp)) := (((H40.move 2 rfl).move 2 rfl).drop 2 rfl)
    have H42 : St W w20 (SrcA b bs p :: (F.set i emp)) := St.shut_ex (.slice pp28 bs.length cc29) (St.shut_star (ls := [blk b (.cells #[.bool true, .slice pp28 bs.length cc29, .int .i64 ((p : Nat) : Int)] 121 (0, 0)), Im 1 (.slice pp28 bs.length cc29) bs.length (bs.flatMap u8c)]) H41)
    have H43 : St W w20 (SrcA b bs p :: (F.set i emp)) := H42
    have hL := remB_len bs p
    refine g_loop_inv (fun (x_ : Nat) => match x_ with | k => [(0, .pointer (some ⟨b, 0, none⟩)), (2, .int .i64 0), (3, .int .i64 ((p + k : Nat) : Int))]) (fun (x_ : Nat) w => match x_ with | k => (p + k ≤ 8 * bs.length) ∧ (∀ j, j < k → (remB bs p).getD j false = false) ∧ St W w (SrcA b bs p :: (F.set i emp))) (fun (x_ : Nat) => match x_ with | k => 8 * bs.length - (p + k)) (0) ?_ ?_ ?_
    · exact ⟨by first | rfl | exact vint (by omega), by first | rfl | exact vint (by omega), by first | rfl | exact vint (by omega), trivial⟩
    · exact ⟨(by omega), (fun j hj => by omega), H43⟩
    · rintro k ρ44 w45 ⟨hk, hz, H46⟩ nx47
      change Ends _ _ (upds ρ44 [(0, .pointer (some ⟨b, 0, none⟩)), (2, .int .i64 0), (3, .int .i64 ((p + k : Nat) : Int))]) w45
      refine g_seq ?_
      refine g_seq ?_
      refine g_region ?_
      refine r_cons (s_move (.int .i64 ((p + k : Nat) : Int)) rfl rfl ?_)
      refine r_cons (s_move (.pointer (some ⟨b, 0, none⟩)) rfl rfl ?_)
      refine r_cons (s_nilCheck (.pointer (some ⟨b, 0, none⟩)) rfl ⟨_, rfl⟩ rfl ?_)
      refine r_cons (s_fieldAddr 121 1 1 1 66 rfl fi_121_1 rfl rfl ?_)
      have H48 := H46.move 0 rfl
      obtain ⟨vv49, H50⟩ := St.open_ex H48
      have H51 := St.open_star H50
      obtain ⟨pp52, cc53, gA54, oA55, kA56, eA57, zA58, rfl, hn59, hp60, hx61, hs62, hml, H63⟩ := Im.open_ H51 (i := 1) rfl
      have H64 : St W w45 (imi (0 < bs.length) gA54 (.cells kA56 eA57 zA58) :: blk b (.cells #[.bool true, .slice pp52 bs.length cc53, .int .i64 ((p : Nat) : Int)] 121 (0, 0)) :: Im 1 (.slice pp52 bs.length cc53) bs.length (bs.flatMap u8c) :: (F.set i emp)) := H63
      refine r_cons (s_load (.slice pp52 bs.length cc53) ag_66 rfl (H64.blk_at (i := 1) rfl) rfl rfl ?_)
      refine r_cons (s_len bs.length rfl ⟨_, un_66⟩ rfl ?_)
      refine r_cons (s_mul (8 * (bs.length : Int)) rfl rfl (wi64 (by omega)) rfl ?_)
      by_cases hc65 : ((p + k : Nat) : Int) < 8 * (bs.length : Int)
      · skip
        refine r_cons (s_lss true rfl rfl (dtrue hc65) rfl ?_)
        refine r_nil ?_
        refine g_true rfl ?_
        refine g_skip ?_
        refine g_seq ?_
        refine g_block ?_
        refine g_seq ?_
        refine g_region ?_
        refine r_cons (s_move (.pointer (some ⟨b, 0, none⟩)) rfl rfl ?_)
        refine r_cons (s_move (.int .i64 ((p + k : Nat) : Int)) rfl rfl ?_)
        have H66 : St W w45 (blk b (.cells #[.bool true, .slice pp52 bs.length cc53, .int .i64 ((p : Nat) : Int)] 121 (0, 0)) :: Im 1 (.slice pp52 bs.length cc53) bs.length (bs.flatMap u8c) :: (F.set i emp)) := (((H64.move 2 rfl).move 2 rfl).drop 2 rfl)
        have H67 : St W w45 (SrcA b bs p :: (F.set i emp)) := St.shut_ex (.slice pp52 bs.length cc53) (St.shut_star (ls := [blk b (.cells #[.bool true, .slice pp52 bs.length cc53, .int .i64 ((p : Nat) : Int)] 121 (0, 0)), Im 1 (.slice pp52 bs.length cc53) bs.length (bs.flatMap u8c)]) H66)
        refine r_cons (s_call [.pointer (some ⟨b, 0, none⟩), .int .i64 ((p + k : Nat) : Int)] pl_83 rfl rfl (Src_bit b bs p (by first | omega | decide +kernel | (repeat (first | assumption | exact Nat.zero_le _ | refine natN_pos ?_ | refine srcN_pos ?_ | refine textN_pos ?_))) (by first | omega | decide +kernel) (p + k) (by omega) (i := 0) rfl H67) ?_)
        rintro _ w68 ⟨rfl, H69⟩
        by_cases hc70 : ((bitAt bs (p + k)).toNat : Int) = 1
        · skip
          refine r_cons (s_eql true rfl rfl (dtrue hc70) rfl ?_)
          refine r_nil ?_
          refine g_true rfl ?_
          refine g_seq ?_
          refine g_region ?_
          refine r_cons (s_assign (.int .i64 12) rfl rfl ?_)
          refine r_nil ?_
          refine g_ret' [.int .i64 12] Try.func81 Try.results81 ⟨rfl, trivial⟩ ?_
          have H71 : St W w68 (SrcA b bs p :: (F.set i emp)) := H69
          exact ⟨vint (by have hL2 := remB_len bs p; first | exact (endE_long (by omega)).symm | exact (endE_bit (j := k) (by omega) (by rw [remB_getD (by omega)]; cases hh : bitAt bs (p + k) with | true => rfl | false => (have h1 : (((bitAt bs (p + k)).toNat : Nat) : Int) = 1 := ‹_›; rw [hh] at h1; cases h1))).symm | exact (endE_0 (by omega) (fun j hj => hz j (by omega))).symm), St.back_same hi H71⟩
        · skip
          refine r_cons (s_eql false rfl rfl (dfalse hc70) rfl ?_)
          refine r_nil ?_
          refine g_false rfl ?_
          refine g_skip ?_
          refine g_inBlock ?_
          refine g_region ?_
          refine r_cons (s_move (.int .i64 ((p + k : Nat) : Int)) rfl rfl ?_)
          refine r_cons (s_add (((p + k : Nat) : Int) + 1) rfl rfl (wi64 (by omega)) rfl ?_)
          refine r_cons (s_assign (.int .i64 (((p + k : Nat) : Int) + 1)) rfl rfl ?_)
          refine r_nil ?_
          have H72 : St W w68 (SrcA b bs p :: (F.set i emp)) := H69
          have hbit : bitAt bs (p + k) = false := by cases hh : bitAt bs (p + k) with | false => rfl | true => exact absurd (show (((bitAt bs (p + k)).toNat : Nat) : Int) = 1 by rw [hh]; rfl) ‹_›
          exact nx47 (k + 1) _ _ ⟨(by omega), (fun j hj => (Nat.lt_or_ge j k).elim (hz j) (fun h => by rw [show j = k from by omega, remB_getD (by omega)]; exact hbit)), H72⟩ (by first | (dsimp only; omega) | omega) ⟨by first | rfl | exact vint (by omega), by first | rfl | exact vint (by omega), by first | rfl | exact vint (by omega), trivial⟩
      · skip
        refine r_cons (s_lss false rfl rfl (dfalse hc65) rfl ?_)
        refine r_nil ?_
        refine g_false rfl ?_
        refine g_exit (by rfl) ?_
        refine g_seq ?_
        refine g_region ?_
        refine r_cons (s_assign (.int .i64 0) rfl rfl ?_)
        refine r_nil ?_
        refine g_ret' [.int .i64 0] Try.func81 Try.results81 ⟨rfl, trivial⟩ ?_
        have H73 : St W w45 (blk b (.cells #[.bool true, .slice pp52 bs.length cc53, .int .i64 ((p : Nat) : Int)] 121 (0, 0)) :: Im 1 (.slice pp52 bs.length cc53) bs.length (bs.flatMap u8c) :: (F.set i emp)) := (((H64.move 2 rfl).move 2 rfl).drop 2 rfl)
        have H74 : St W w45 (SrcA b bs p :: (F.set i emp)) := St.shut_ex (.slice pp52 bs.length cc53) (St.shut_star (ls := [blk b (.cells #[.bool true, .slice pp52 bs.length cc53, .int .i64 ((p : Nat) : Int)] 121 (0, 0)), Im 1 (.slice pp52 bs.length cc53) bs.length (bs.flatMap u8c)]) H73)
        have H75 : St W w45 (SrcA b bs p :: (F.set i emp)) := H74
        exact ⟨vint (by have hL2 := remB_len bs p; first | exact (endE_long (by omega)).symm | exact (endE_bit (j := k) (by omega) (by rw [remB_getD (by omega)]; cases hh : bitAt bs (p + k) with | true => rfl | false => (have h1 : (((bitAt bs (p + k)).toNat : Nat) : Int) = 1 := ‹_›; rw [hh] at h1; cases h1))).symm | exact (endE_0 (by omega) (fun j hj => hz j (by omega))).symm), St.back_same hi H75⟩
set_option maxHeartbeats 4000000 in
set_option maxRecDepth 100000 in
theorem bytes_Equal {W w : World} {F : List Atom} (A B : Atom) (u v : Value) (m n : Nat) (xs ys : List UInt8) (hA : RdA A 1 u m (xs.flatMap u8c)) (hB : RdA B 1 v n (ys.flatMap u8c)) {j k : Nat} (hj : F[j]? = some A) (hk : F[k]? = some B) (H : St W w F) : Calls Try.prog 44 #[u, v] w (Ret fun v w' => v = .bool (decide (xs = ys)) ∧ St W w' F) := by
  have hml := (hA _ _ _ j H hj).2
  obtain ⟨pp1, cc2, rfl, hn3⟩ := Rd.shape (hA _ _ _ j H hj).1
  have hml := (hB _ _ _ k H hk).2
  obtain ⟨pp4, cc5, rfl, hn6⟩ := Rd.shape (hB _ _ _ k H hk).1
  refine calls_of_go (n := 10) Try.func44 rfl Try.ntmps44 rfl ?_
  refine g_seq ?_
  refine g_region ?_
  refine r_cons (s_assign (.bool false) rfl rfl ?_)
  refine r_nil ?_
  refine g_seq ?_
  refine g_region ?_
  refine r_cons (s_move (.slice pp1 m cc2) rfl rfl ?_)
  refine r_cons (s_bytes_str (xs := xs) rfl (by rw [bytesV_flat]; exact (hA _ _ _ (j + 0) H (by exact hj)).1) un_66 un_5 un_9 rfl ?_)
  refine r_cons (s_move (.slice pp4 n cc5) rfl rfl ?_)
  refine r_cons (s_bytes_str (xs := ys) rfl (by rw [bytesV_flat]; exact (hB _ _ _ (k + 0) H (by exact hk)).1) un_66 un_5 un_9 rfl ?_)
  refine r_cons (s_seql (decide ((⟨(xs).toArray⟩ : ByteArray) = ⟨(ys).toArray⟩)) rfl rfl rfl rfl ?_)
  refine r_cons (s_assign (.bool (decide ((⟨(xs).toArray⟩ : ByteArray) = ⟨(ys).toArray⟩))) rfl rfl ?_)
  refine r_nil ?_
  refine g_ret' [.bool (decide ((⟨(xs).toArray⟩ : ByteArray) = ⟨(ys).toArray⟩))] Try.func44 Try.results44 ⟨rfl, trivial⟩ ?_
  have H7 : St W w F := H
  exact ⟨congrArg Value.bool lit_bytes, H7⟩
set_option maxHeartbeats 4000000 in
set_option maxRecDepth 100000 in
theorem Src_Text {W w : World} {F : List Atom} (b : Nat) (bs : List UInt8) (p : Nat) (hp : p ≤ 8 * bs.length) (hb : bs.length ≤ 140737488355328) {i : Nat} (hi : F[i]? = some (SrcA b bs p)) (H : St W w F) : Calls Try.prog 111 #[.pointer (some ⟨b, 0, none⟩)] w (Ret fun v w' => v = .tuple #[.string (textS (remB bs p)), .int .i64 (textE (remB bs p))] ∧ St W w' (F.set i (SrcA b bs (p + textN (remB bs p))))) := by
  have H0 := H.front hi
  refine calls_of_go (n := 61) Try.func111 rfl Try.ntmps111 rfl ?_
  refine g_seq ?_
  refine g_region ?_
  refine r_cons (s_assign (.string ByteArray.empty) rfl rfl ?_)
  refine r_cons (s_assign (.int .i64 0) rfl rfl ?_)
  refine r_nil ?_
  refine g_seq ?_
  refine g_seq ?_
  refine g_region ?_
  refine r_cons (s_move (.pointer (some ⟨b, 0, none⟩)) rfl rfl ?_)
  refine r_cons (s_peql false un_76 rfl rfl rfl rfl ?_)
  refine r_cons (s_move (.bool false) rfl rfl ?_)
  refine r_cons (r_take rfl rfl ?_)
  refine s_move (.pointer (some ⟨b, 0, none⟩)) rfl rfl ?_
  refine r_cons (r_take rfl rfl ?_)
  refine s_nilCheck (.pointer (some ⟨b, 0, none⟩)) rfl ⟨_, rfl⟩ rfl ?_
  refine r_cons (r_take rfl rfl ?_)
  refine s_fieldAddr 121 0 0 0 4 rfl fi_121_0 rfl rfl ?_
  refine r_cons (r_take rfl rfl ?_)
  have H1 := H0.move 0 rfl
  obtain ⟨vv2, H3⟩ := St.open_ex H1
  have H4 := St.open_star H3
  obtain ⟨pp5, cc6, gA7, oA8, kA9, eA10, zA11, rfl, hn12, hp13, hx14, hs15, hml, H16⟩ := Im.open_ H4 (i := 1) rfl
  have H17 : St W w (imi (0 < bs.length) gA7 (.cells kA9 eA10 zA11) :: blk b (.cells #[.bool true, .slice pp5 bs.length cc6, .int .i64 ((p : Nat) : Int)] 121 (0, 0)) :: Im 1 (.slice pp5 bs.length cc6) bs.length (bs.flatMap u8c) :: (F.set i emp)) := H16
  refine s_load (.bool true) ag_4 rfl (H17.blk_at (i := 1) rfl) rfl rfl ?_
  refine r_cons (r_take rfl rfl ?_)
  refine s_not true rfl false rfl rfl ?_
  refine r_cons (s_pick_f (.bool false) rfl rfl rfl ?_)
  refine r_nil ?_
  refine g_false rfl ?_
  refine g_skip ?_
  refine g_seq ?_
  refine g_region ?_
  refine r_cons (s_move (.pointer (some ⟨b, 0, none⟩)) rfl rfl ?_)
  refine r_cons (s_nilCheck (.pointer (some ⟨b, 0, none⟩)) rfl ⟨_, rfl⟩ rfl ?_)
  refine r_cons (s_fieldAddr 121 2 2 2 3 rfl fi_121_2 rfl rfl ?_)
  refine r_cons (s_load (.int .i64 ((p : Nat) : Int)) ag_3 rfl (H17.blk_at (i := 1) rfl) rfl rfl ?_)
  refine r_cons (s_assign (.int .i64 ((p : Nat) : Int)) rfl rfl ?_)
  refine r_nil ?_
  refine g_seq ?_
  refine g_region ?_
  refine r_cons (s_move (.pointer (some ⟨b, 0, none⟩)) rfl rfl ?_)
  have H18 : St W w (blk b (.cells #[.bool true, .slice pp5 bs.length cc6, .int .i64 ((p : Nat) : Int)] 121 (0, 0)) :: Im 1 (.slice pp5 bs.length cc6) bs.length (bs.flatMap u8c) :: (F.set i emp)) := (((H17.move 2 rfl).move 2 rfl).drop 2 rfl)
  have H19 : St W w (SrcA b bs p :: (F.set i emp)) := St.shut_ex (.slice pp5 bs.length cc6) (St.shut_star (ls := [blk b (.cells #[.bool true, .slice pp5 bs.length cc6, .int .i64 ((p : Nat) : Int)] 121 (0, 0)), Im 1 (.slice pp5 bs.length cc6) bs.length (bs.flatMap u8c)]) H18)
  refine r_cons (s_call [.pointer (some ⟨b, 0, none⟩)] pl_110 rfl rfl (Src_Nat b bs p (by first | omega | decide +kernel | (repeat (first | assumption | exact Nat.zero_le _ | refine natN_pos ?_ | refine srcN_pos ?_ | refine textN_pos ?_))) (by first | omega | decide +kernel)   (i := 0) rfl H19) ?_)
  rintro _ w20 ⟨rfl, H21⟩
  refine r_cons (s_move (.tuple #[.int .u64 (natU (remB bs p) : Int), .int .i64 (natE (remB bs p))]) rfl rfl ?_)
  refine r_cons (s_extract (.int .u64 (natU (remB bs p) : Int)) #[.int .u64 (natU (remB bs p) : Int), .int .i64 (natE (remB bs p))] rfl rfl rfl ?_)
  refine r_cons (s_extract (.int .i64 (natE (remB bs p))) #[.int .u64 (natU (remB bs p) : Int), .int .i64 (natE (remB bs p))] rfl rfl rfl ?_)
  refine r_cons (s_assign (.int .u64 (natU (remB bs p) : Int)) rfl rfl ?_)
  refine r_cons (s_assign (.int .i64 (natE (remB bs p))) rfl rfl ?_)
  refine r_nil ?_
  refine g_seq ?_
  refine g_seq ?_
  refine g_region ?_
  refine r_cons (s_move (.int .i64 (natE (remB bs p))) rfl rfl ?_)
  by_cases hc22 : natE (remB bs p) = 0
  · skip
    refine r_cons (s_neq false rfl rfl (ntrue hc22) rfl ?_)
    refine r_nil ?_
    refine g_false rfl ?_
    refine g_skip ?_
    refine g_seq ?_
    refine g_seq ?_
    refine g_region ?_
    refine r_cons (s_move (.int .u64 (natU (remB bs p) : Int)) rfl rfl ?_)
    refine r_cons (s_move (.pointer (some ⟨b, 0, none⟩)) rfl rfl ?_)
    have hL := remB_len bs p
    have hL2 := remB_len bs (p + natN (remB bs p))
    refine r_cons (s_call [.pointer (some ⟨b, 0, none⟩)] pl_54 rfl rfl (Src_Left b bs (p + natN (remB bs p)) (by first | omega | decide +kernel | (repeat (first | assumption | exact Nat.zero_le _ | refine natN_pos ?_ | refine srcN_pos ?_ | refine textN_pos ?_))) (by first | omega | decide +kernel)   (i := 0) rfl H21) ?_)
    rintro _ w23 ⟨rfl, H24⟩
    refine r_cons (s_quo ((((remB bs (p + natN (remB bs p))).length) / 8 : Nat) : Int) rfl rfl (by omega) (by rw [tdiv_pos (by omega)]; exact wi64 (by omega)) rfl ?_)
    refine r_cons (s_conv ((((remB bs (p + natN (remB bs p))).length) / 8 : Nat) : Int) rfl us_3 ik_62 (wu64 (by omega)) rfl ?_)
    by_cases hc25 : ((((remB bs (p + natN (remB bs p))).length) / 8 : Nat) : Int) < (natU (remB bs p) : Int)
    · skip
      refine r_cons (s_gtr true rfl rfl (dtrue hc25) rfl ?_)
      refine r_nil ?_
      refine g_true rfl ?_
      refine g_seq ?_
      refine g_region ?_
      refine r_cons (s_move (.pointer (some ⟨b, 0, none⟩)) rfl rfl ?_)
      refine r_cons (s_move (.int .i64 ((p : Nat) : Int)) rfl rfl ?_)
      refine r_cons (s_call [.pointer (some ⟨b, 0, none⟩), .int .i64 ((p : Nat) : Int), .int .i64 10] pl_116 rfl rfl (Src_back_no b bs (p + natN (remB bs p)) (p) 10 (by decide) (i := 0) rfl H24) ?_)
      rintro _ w26 ⟨rfl, H27⟩
      refine r_cons (s_assign (.string ByteArray.empty) rfl rfl ?_)
      refine r_cons (s_assign (.int .i64 10) rfl rfl ?_)
      refine r_nil ?_
      refine g_ret' [.string ByteArray.empty, .int .i64 10] Try.func111 Try.results111 ⟨rfl, rfl, trivial⟩ ?_
      have H28 : St W w26 (SrcA b bs p :: (F.set i emp)) := H27
      have hT : textE (remB bs p) = 10 := textE_10 (by assumption) (by omega)
      have hT0 : ¬ textE (remB bs p) = 0 := by rw [hT]; first | assumption | decide
      exact ⟨by rw [textS_0 hT0, hT]; rfl, by rw [textN_no hT0]; exact St.back hi H28⟩
    · skip
      refine r_cons (s_gtr false rfl rfl (dfalse hc25) rfl ?_)
      refine r_nil ?_
      refine g_false rfl ?_
      refine g_skip ?_
      refine g_seq ?_
      refine g_region ?_
      refine r_cons (s_move (.int .u64 (natU (remB bs p) : Int)) rfl rfl ?_)
      refine r_cons (s_make H24 (natU (remB bs p) : Int) 1 1 rfl rfl un_66 in_5 (by omega) (by omega) (by omega) (by exact made_bytes (natU (remB bs p))) rfl ?_); intro bk29 w30 H31
      have H32 : St W w30 (Row 5 1 (.slice (some ⟨bk29, 0, none⟩) (natU (remB bs p)) (natU (remB bs p))) (natU (remB bs p)) ((List.replicate (natU (remB bs p)) (0 : UInt8)).flatMap u8c) :: SrcA b bs (p + natN (remB bs p)) :: (F.set i emp)) := Row.of_list (xs := (List.replicate (natU (remB bs p)) (0 : UInt8)).flatMap u8c) (n := natU (remB bs p)) H31 (i := 0) rfl (by unfold maxLen; omega) (by simp [flat1, u8c_len, blc_len]) (by intro x hx; first | exact one_u8 _ x hx | exact one_bl _ x hx)
      have H33 : St W w30 (Row 5 1 (.slice (some ⟨bk29, 0, none⟩) (natU (remB bs p)) (natU (remB bs p))) (natU (remB bs p)) ((textP (remB bs p) 0).flatMap u8c) :: SrcA b bs (p + natN (remB bs p)) :: (F.set i emp)) := by rw [textP_0]; exact H32
      refine r_cons (s_assign (.slice (some ⟨bk29, 0, none⟩) (natU (remB bs p)) (natU (remB bs p))) rfl rfl ?_)
      refine r_nil ?_
      refine g_seq ?_
      refine g_seq ?_
      refine g_region ?_
      refine r_cons (s_move (.slice (some ⟨bk29, 0, none⟩) (natU (remB bs p)) (natU (remB bs p))) rfl rfl ?_)
      refine r_cons (s_len (natU (remB bs p)) rfl ⟨_, un_66⟩ rfl ?_)
      refine r_cons (s_move (.int .i64 0) rfl rfl ?_)
      refine r_nil ?_
      refine g_block ?_
      have H34 : St W w30 (Row 5 1 (.slice (some ⟨bk29, 0, none⟩) (natU (remB bs p)) (natU (remB bs p))) (natU (remB bs p)) ((textP (remB bs p) 0).flatMap u8c) :: SrcA b bs (p + natN (remB bs p) + 8 * 0) :: (F.set i emp)) := H33
      have H35 : St W w30 (Row 5 1 (.slice (some ⟨bk29, 0, none⟩) (natU (remB bs p)) (natU (remB bs p))) (natU (remB bs p)) ((textP (remB bs p) 0).flatMap u8c) :: SrcA b bs (p + natN (remB bs p) + 8 * 0) :: (F.set i emp)) := ((H34.move 1 rfl).move 1 rfl)
      refine g_loop_inv (fun (x_ : Nat × (Option Addr) × Nat) => match x_ with | (j, pq, cq) => [(0, .pointer (some ⟨b, 0, none⟩)), (2, .string ByteArray.empty), (3, .int .i64 0), (7, .slice pq (natU (remB bs p)) cq), (44, .int .i64 (natU (remB bs p) : Int)), (45, .int .i64 (j : Int))]) (fun (x_ : Nat × (Option Addr) × Nat) w => match x_ with | (j, pq, cq) => (j ≤ natU (remB bs p)) ∧ St W w (Row 5 1 (.slice pq (natU (remB bs p)) cq) (natU (remB bs p)) ((textP (remB bs p) j).flatMap u8c) :: SrcA b bs (p + natN (remB bs p) + 8 * j) :: (F.set i emp))) (fun (x_ : Nat × (Option Addr) × Nat) => match x_ with | (j, pq, cq) => natU (remB bs p) - j) (0, (some ⟨bk29, 0, none⟩), natU (remB bs p)) ?_ ?_ ?_
      · exact ⟨by first | rfl | exact vint (by omega), by first | rfl | exact vint (by omega), by first | rfl | exact vint (by omega), by first | rfl | exact vint (by omega), by first | rfl | exact vint (by omega), by first | rfl | exact vint (by omega), trivial⟩
      · exact ⟨(by omega), H35⟩
      · rintro ⟨j, pq, cq⟩ ρ36 w37 ⟨hj, H38⟩ nx39
        change Ends _ _ (upds ρ36 [(0, .pointer (some ⟨b, 0, none⟩)), (2, .string ByteArray.empty), (3, .int .i64 0), (7, .slice pq (natU (remB bs p)) cq), (44, .int .i64 (natU (remB bs p) : Int)), (45, .int .i64 (j : Int))]) w37
        refine g_seq ?_
        refine g_region ?_
        by_cases hc40 : (j : Int) < (natU (remB bs p) : Int)
        · skip
          refine r_cons (s_lss true rfl rfl (dtrue hc40) rfl ?_)
          refine r_nil ?_
          refine g_seq ?_
          refine g_true rfl ?_
          refine g_skip ?_
          refine g_seq ?_
          refine g_block ?_
          refine g_seq ?_
          refine g_region ?_
          refine r_cons (s_move (.int .i64 (j : Int)) rfl rfl ?_)
          refine r_cons (s_assign (.int .i64 (j : Int)) rfl rfl ?_)
          refine r_nil ?_
          refine g_seq ?_
          refine g_region ?_
          refine r_cons (s_move (.pointer (some ⟨b, 0, none⟩)) rfl rfl ?_)
          have hL3 := remB_len bs (p + natN (remB bs p) + 8 * j)
          have hE8 : srcE (remB bs (p + natN (remB bs p) + 8 * j)) 8 = 0 := srcE_0 (by omega) (by omega)
          have hN8 : srcN (remB bs (p + natN (remB bs p) + 8 * j)) 8 = 8 := srcN_0 hE8
          have hU8 : srcU (remB bs (p + natN (remB bs p) + 8 * j)) 8 < 256 := srcU_lt_pow (k := 8)
          have hB8 : byteT (remB bs p) j = UInt8.ofNat (srcU (remB bs (p + natN (remB bs p) + 8 * j)) 8) := by unfold byteT; rw [srcU_0 hE8, remB_drop, ← Nat.add_assoc]; rfl
          refine r_cons (s_call [.pointer (some ⟨b, 0, none⟩), .int .i64 8] pl_51 rfl rfl (Src_Bits b bs (p + natN (remB bs p) + 8 * j) (by first | omega | decide +kernel | (repeat (first | assumption | exact Nat.zero_le _ | refine natN_pos ?_ | refine srcN_pos ?_ | refine textN_pos ?_))) (by first | omega | decide +kernel) 8  (i := 1) rfl H38) ?_)
          rintro _ w41 ⟨rfl, H42⟩
          refine r_cons (s_move (.tuple #[.int .u64 (srcU (remB bs (p + natN (remB bs p) + 8 * j)) 8 : Int), .int .i64 (srcE (remB bs (p + natN (remB bs p) + 8 * j)) 8)]) rfl rfl ?_)
          refine r_cons (s_extract (.int .u64 (srcU (remB bs (p + natN (remB bs p) + 8 * j)) 8 : Int)) #[.int .u64 (srcU (remB bs (p + natN (remB bs p) + 8 * j)) 8 : Int), .int .i64 (srcE (remB bs (p + natN (remB bs p) + 8 * j)) 8)] rfl rfl rfl ?_)
          refine r_cons (s_extract (.int .i64 (srcE (remB bs (p + natN (remB bs p) + 8 * j)) 8)) #[.int .u64 (srcU (remB bs (p + natN (remB bs p) + 8 * j)) 8 : Int), .int .i64 (srcE (remB bs (p + natN (remB bs p) + 8 * j)) 8)] rfl rfl rfl ?_)
          refine r_cons (s_assign (.int .u64 (srcU (remB bs (p + natN (remB bs p) + 8 * j)) 8 : Int)) rfl rfl ?_)
          refine r_cons (s_assign (.int .i64 (srcE (remB bs (p + natN (remB bs p) + 8 * j)) 8)) rfl rfl ?_)
          refine r_nil ?_
          refine g_region ?_
          refine r_cons (s_move (.slice pq (natU (remB bs p)) cq) rfl rfl ?_)
          refine r_cons (s_move (.int .i64 (j : Int)) rfl rfl ?_)
          refine r_cons (s_move (.int .u64 (srcU (remB bs (p + natN (remB bs p) + 8 * j)) 8 : Int)) rfl rfl ?_)
          refine r_cons (s_conv (srcU (remB bs (p + natN (remB bs p) + 8 * j)) 8 : Int) rfl us_62 ik_5 (wu8 (by omega)) rfl ?_)
          obtain ⟨bk43, cur44, hp45, h46, h47, h48, h49, h50, H51⟩ := Row.open2 H42 (i := 0) rfl (by omega)
          refine r_cons (s_indexAddr bk43 (off := 0) (j : Int) 1 (0 + j * 1) (by exact congrArg (fun z_ => Value.slice z_ (natU (remB bs p)) cq) ((fun (_ : 0 < 1) => hp45) (by omega))) rfl el_66 (by omega) rfl rfl ?_)
          have hx54 := row_set1 (f := u8c) (L := textP (remB bs p) j) (cur := cur44) u8c_len (by rw [(textP_len (remB bs p) j)]; exact h49) (show (textP (remB bs p) j).length * 1 ≤ cur44.size by rw [(textP_len (remB bs p) j), h48]; exact Nat.mul_le_mul_right 1 h46) (j := j) (by have hh := (textP_len (remB bs p) j); omega) 0 (.int .u8 (srcU (remB bs (p + natN (remB bs p) + 8 * j)) 8 : Int)) (byteT (remB bs p) j) ((by rw [hB8]; exact u8_set hU8))
          refine r_cons (s_store H51 0 (.int .u8 (srcU (remB bs (p + natN (remB bs p) + 8 * j)) 8 : Int)) rfl rfl rfl sz_5 rfl (by have hh := (textP_len (remB bs p) j); have hk := (show (textP (remB bs p) j).length * 1 ≤ cur44.size by rw [(textP_len (remB bs p) j), h48]; exact Nat.mul_le_mul_right 1 h46); omega) rfl (cs' := (cur44.setIfInBounds (0 + j * 1) (.int .u8 (srcU (remB bs (p + natN (remB bs p) + 8 * j)) 8 : Int)))) rfl ?_); intro w52 H53
          refine r_nil ?_
          refine g_inBlock ?_
          refine g_region ?_
          refine r_cons (s_add ((j : Int) + 1) rfl rfl (wi64 (by omega)) rfl ?_)
          refine r_cons (s_move (.int .i64 ((j : Int) + 1)) rfl rfl ?_)
          refine r_nil ?_
          have H55 := Row.shut2 (p := pq) (n := natU (remB bs p)) (c := cq) (size := 1) (xs := (textP (remB bs p) (j + 1)).flatMap u8c) H53 (i := 0) rfl hp45 h46 h47 (by rw [Array.size_setIfInBounds]; exact h48) (by have hh : ((cur44.setIfInBounds (0 + j * 1) (.int .u8 (srcU (remB bs (p + natN (remB bs p) + 8 * j)) 8 : Int))).toList.drop 0).take (((textP (remB bs p) j).set j (byteT (remB bs p) j)).length * 1) = ((textP (remB bs p) j).set j (byteT (remB bs p) j)).flatMap u8c := hx54; have hk : ((textP (remB bs p) j).set j (byteT (remB bs p) j)).length = natU (remB bs p) := (by rw [List.length_set]; exact (textP_len (remB bs p) j)); rw [hk] at hh; rw [(textP_succ (by omega)).symm] at hh; exact hh) (one_u8 _)
          have H56 : St W w52 (Row 5 1 (.slice pq (natU (remB bs p)) cq) (natU (remB bs p)) ((textP (remB bs p) (j + 1)).flatMap u8c) :: SrcA b bs (p + natN (remB bs p) + 8 * (j + 1)) :: (F.set i emp)) := by rw [show p + natN (remB bs p) + 8 * (j + 1) = p + natN (remB bs p) + 8 * j + srcN (remB bs (p + natN (remB bs p) + 8 * j)) 8 from by rw [hN8]; omega]; exact H55
          have H57 : St W w52 (Row 5 1 (.slice pq (natU (remB bs p)) cq) (natU (remB bs p)) ((textP (remB bs p) (j + 1)).flatMap u8c) :: SrcA b bs (p + natN (remB bs p) + 8 * (j + 1)) :: (F.set i emp)) := ((H56.move 1 rfl).move 1 rfl)
          exact nx39 (j + 1, pq, cq) _ _ ⟨(by omega), H57⟩ (by first | (dsimp only; omega) | omega) ⟨by first | rfl | exact vint (by omega), by first | rfl | exact vint (by omega), by first | rfl | exact vint (by omega), by first | rfl | exact vint (by omega), by first | rfl | exact vint (by omega), by first | rfl | exact vint (by omega), trivial⟩
        · skip
          refine r_cons (s_lss false rfl rfl (dfalse hc40) rfl ?_)
          refine r_nil ?_
          refine g_seq ?_
          refine g_false rfl ?_
          refine g_exit (by rfl) ?_
          refine g_seq ?_
          refine g_region ?_
          refine r_cons (s_move (.slice pq (natU (remB bs p)) cq) rfl rfl ?_)
          refine r_cons (s_bytes_str (xs := (textP (remB bs p) j)) rfl (by rw [bytesV_flat]; exact (Row.rd H38 (i := 0) rfl)) un_66 un_5 un_9 rfl ?_)
          refine r_cons (s_assign (.string (⟨((textP (remB bs p) j)).toArray⟩)) rfl rfl ?_)
          refine r_cons (s_assign (.int .i64 0) rfl rfl ?_)
          refine r_nil ?_
          refine g_ret' [.string (⟨((textP (remB bs p) j)).toArray⟩), .int .i64 0] Try.func111 Try.results111 ⟨rfl, rfl, trivial⟩ ?_
          have H58 : St W w37 (SrcA b bs (p + natN (remB bs p) + 8 * j) :: (F.set i emp)) := ((H38.move 1 rfl).drop 1 rfl)
          have hT : textE (remB bs p) = 0 := textE_0 (by assumption) (by omega)
          obtain rfl : j = natU (remB bs p) := by omega
          exact ⟨by rw [hT, textP_all hT]; rfl, by rw [textN_0 hT, ← Nat.add_assoc]; exact St.back hi H58⟩
  · skip
    refine r_cons (s_neq true rfl rfl (nfalse hc22) rfl ?_)
    refine r_nil ?_
    refine g_true rfl ?_
    refine g_seq ?_
    refine g_region ?_
    refine r_cons (s_move (.int .i64 (natE (remB bs p))) rfl rfl ?_)
    refine r_cons (s_assign (.string ByteArray.empty) rfl rfl ?_)
    refine r_cons (s_assign (.int .i64 (natE (remB bs p))) rfl rfl ?_)
    refine r_nil ?_
    refine g_ret' [.string ByteArray.empty, .int .i64 (natE (remB bs p))] Try.func111 Try.results111 ⟨rfl, rfl, trivial⟩ ?_
    have H59 : St W w20 (SrcA b bs (p + natN (remB bs p)) :: (F.set i emp)) := H21
    have hT : textE (remB bs p) = natE (remB bs p) := textE_nat (by assumption)
    have hT0 : ¬ textE (remB bs p) = 0 := by rw [hT]; first | assumption | decide
    exact ⟨by rw [textS_0 hT0, hT]; rfl, by rw [textN_no hT0]; have hx := H59; rw [natN_no (by assumption)] at hx; exact St.back hi hx⟩
set_option maxHeartbeats 4000000 in
set_option maxRecDepth 100000 in
theorem form_put {W w : World} {F : List Atom} (b : Nat) (e : Int) (he : e = 0) {i : Nat} (hi : F[i]? = some (blk b (.cells #[.bool true] 4 (0, 0)))) (H : St W w F) : Calls Try.prog 93 #[.int .i64 e, .pointer (some ⟨b, 0, none⟩)] w (Ret fun v w' => v = .tuple #[] ∧ St W w' F) := by
  have H0 := H.front hi
  refine calls_of_go (n := 8) Try.func93 rfl Try.ntmps93 rfl ?_
  refine g_region ?_
  refine r_cons (s_load (.bool true) ag_4 rfl (H0.blk_at (i := 0) rfl) rfl rfl ?_)
  refine r_cons (s_move (.bool true) rfl rfl ?_)
  refine r_cons (r_take rfl rfl ?_)
  refine s_move (.int .i64 e) rfl rfl ?_
  refine r_cons (r_take rfl rfl ?_)
  refine s_eql true rfl rfl (dtrue he) rfl ?_
  refine r_cons (s_pick_t (.bool true) rfl rfl rfl ?_)
  refine r_cons (s_store H0 0 (.bool true) rfl rfl rfl sz_4 rfl (Nat.le_of_ble_eq_true rfl) rfl (cs' := #[.bool true]) rfl ?_); intro w1 H2
  refine r_nil ?_
  refine g_end' [] Try.func93 Try.results93 trivial ?_
  have H3 : St W w1 (blk b (.cells #[.bool true] 4 (0, 0)) :: (F.set i emp)) := H2
  exact ⟨rfl, St.back_same hi H3⟩
set_option maxHeartbeats 4000000 in
set_option maxRecDepth 100000 in
theorem event_form {W w : World} {F : List Atom} (b : Nat) (L : List Bool) (e : EvM) (av : Value) (hev : evE e = 0) (hroom : L.length + (formB e).length ≤ 1048576) {j : Nat} (hj : F[j]? = some (Attrs av e.attrs)) {i : Nat} (hi : F[i]? = some (SinkA b L)) (H : St W w F) : Calls Try.prog 76 #[.pointer (some ⟨b, 0, none⟩), .agg #[.int .i64 e.src.v, .int .i64 e.seq.v, .int .i64 e.time.v, .string e.typ.v, av]] w (Ret fun v w' => v = .bool true ∧ St W w' (F.set i (SinkA b (L ++ formB e)))) := by
  obtain ⟨pA1, cA2, gA3, oA4, kA5, eA6, zA7, rfl, hn8, hp9, hx10, hs11, hml, H12⟩ := Im.open_ H hj
  have H13 := H12.dup (i := j + 1) (by exact hj) (Attrs_pers _ _)
  have H14 : St W w (SinkA b L :: Attrs (.slice pA1 e.attrs.length cA2) e.attrs :: imi (0 < e.attrs.length) gA3 (.cells kA5 eA6 zA7) :: F.set i emp) := H13.front (i := i + 2) (by exact hi)
  obtain ⟨hr1, hr2, hr3, hr4, hr5, hr6⟩ := evE_range hev
  have ht1 := timeB_range hr3
  have ht2 := timeB_range hr4
  have ha8 := attrsE_len hr6
  have hn5 := nameB_len hr5
  have hF : (formB e).length = (headB e).length + (e.attrs.flatMap attrB).length := List.length_append
  have hH : (headB e).length = 4 + sizeU e.seq.v.toNat + sizeU e.time.v.toNat + (textB e.typ.v).length + 4 := by unfold headB; simp only [List.length_append, lowB_len, natB_len]
  have hz1 := sizeU_le (u := e.seq.v.toNat) (by omega)
  have hz2 := sizeU_le (u := e.time.v.toNat) (by omega)
  refine calls_of_go (n := 88) Try.func76 rfl Try.ntmps76 rfl ?_
  refine g_seq ?_
  refine g_region ?_
  refine r_cons (s_box H14 33 (.agg #[.int .i64 e.src.v, .int .i64 e.seq.v, .int .i64 e.time.v, .string e.typ.v, .slice pA1 e.attrs.length cA2]) rfl (cs := #[.int .i64 e.src.v, .int .i64 e.seq.v, .int .i64 e.time.v, .string e.typ.v, .slice pA1 e.attrs.length cA2]) rfl rfl ?_); intro bk15 w16 H17
  refine r_cons (s_assign (.bool false) rfl rfl ?_)
  refine r_nil ?_
  refine g_seq ?_
  refine g_region ?_
  refine r_cons (s_alloc H17 4 ze_4 rfl ?_); intro bk18 w19 H20
  refine r_cons (s_store H20 0 (.bool true) rfl rfl rfl sz_4 rfl (Nat.le_of_ble_eq_true rfl) rfl (cs' := #[.bool true]) rfl ?_); intro w21 H22
  refine r_nil ?_
  refine g_seq ?_
  refine g_region ?_
  refine r_cons (s_makeFunc (.func (.func 93) #[] #[.pointer (some ⟨bk18, 0, none⟩)]) rfl rfl ?_)
  refine r_cons (s_assign (.func (.func 93) #[] #[.pointer (some ⟨bk18, 0, none⟩)]) rfl rfl ?_)
  refine r_nil ?_
  refine g_seq ?_
  refine g_region ?_
  refine r_cons (s_move (.func (.func 93) #[] #[.pointer (some ⟨bk18, 0, none⟩)]) rfl rfl ?_)
  refine r_cons (s_move (.pointer (some ⟨b, 0, none⟩)) rfl rfl ?_)
  refine r_cons (s_fieldAddr 33 0 0 0 30 rfl fi_33_0 rfl rfl ?_)
  refine r_cons (s_fieldAddr 30 0 0 0 3 rfl fi_30_0 rfl rfl ?_)
  refine r_cons (s_load (.int .i64 e.src.v) ag_3 rfl (H22.blk_at (i := 1) rfl) rfl rfl ?_)
  refine r_cons (s_conv ((e.src.v.toNat : Nat) : Int) rfl us_3 ik_62 ((wu64 (by omega)).trans (by omega)) rfl ?_)
  refine r_cons (s_call [.pointer (some ⟨b, 0, none⟩), .int .u64 ((e.src.v.toNat : Nat) : Int), .int .i64 4] pl_38 rfl rfl (Sink_Bits b L e.src.v.toNat 4 (by omega) (by first | omega | (simp only [List.length_append, List.length_nil, lowB_len, natB_len]; omega) | (repeat (first | exact Nat.zero_le _ | assumption | refine putL_le ?_ | refine bitsL_le ?_ | refine evPutL_le ?_ | (simp only [List.length_append, List.length_nil, lowB_len, natB_len]; omega)))) (i := 2) rfl H22) ?_)
  rintro _ w23 ⟨rfl, H24⟩
  have hk25 : bitsE L e.src.v.toNat 4 = 0 ∧ bitsL L e.src.v.toNat 4 = L ++ lowB e.src.v.toNat 4 := (by have hh := bits_ok (L := L) (u := e.src.v.toNat) (n := 4) (fits_small (k := 4) rfl (by decide) (by omega)) (by (try simp only [List.length_append, lowB_len, natB_len]); omega); exact hh)
  have H27 : St W w23 (blk bk18 (.cells #[.bool true] 4 (0, 0)) :: blk bk15 (.cells #[.int .i64 e.src.v, .int .i64 e.seq.v, .int .i64 e.time.v, .string e.typ.v, .slice pA1 e.attrs.length cA2] 33 (0, 0)) :: SinkA b (L ++ lowB e.src.v.toNat 4) :: Attrs (.slice pA1 e.attrs.length cA2) e.attrs :: imi (0 < e.attrs.length) gA3 (.cells kA5 eA6 zA7) :: (F.set i emp)) := by rw [← hk25.2]; exact H24
  refine r_cons (s_callv [.pointer (some ⟨bk18, 0, none⟩)] [.int .i64 (bitsE L e.src.v.toNat 4), .pointer (some ⟨bk18, 0, none⟩)] rfl pl_93 rfl rfl (form_put bk18 (bitsE L e.src.v.toNat 4) hk25.1 (i := 0) rfl H27) ?_)
  rintro _ w28 ⟨rfl, H29⟩
  refine r_nil ?_
  refine g_seq ?_
  refine g_region ?_
  refine r_cons (s_move (.func (.func 93) #[] #[.pointer (some ⟨bk18, 0, none⟩)]) rfl rfl ?_)
  refine r_cons (s_move (.pointer (some ⟨b, 0, none⟩)) rfl rfl ?_)
  refine r_cons (s_fieldAddr 33 0 0 0 30 rfl fi_33_0 rfl rfl ?_)
  refine r_cons (s_fieldAddr 30 1 1 1 2 rfl fi_30_1 rfl rfl ?_)
  refine r_cons (s_load (.int .i64 e.seq.v) ag_2 rfl (H29.blk_at (i := 1) rfl) rfl rfl ?_)
  refine r_cons (s_conv ((e.seq.v.toNat : Nat) : Int) rfl us_2 ik_62 ((wu64 (by omega)).trans (by omega)) rfl ?_)
  refine r_cons (s_call [.pointer (some ⟨b, 0, none⟩), .int .u64 ((e.seq.v.toNat : Nat) : Int)] pl_94 rfl rfl (Sink_Nat b (L ++ lowB e.src.v.toNat 4) e.seq.v.toNat (by omega) (by first | omega | (simp only [List.length_append, List.length_nil, lowB_len, natB_len]; omega) | (repeat (first | exact Nat.zero_le _ | assumption | refine putL_le ?_ | refine bitsL_le ?_ | refine evPutL_le ?_ | (simp only [List.length_append, List.length_nil, lowB_len, natB_len]; omega)))) (i := 2) rfl H29) ?_)
  rintro _ w30 ⟨rfl, H31⟩
  have hk32 : putE (L ++ lowB e.src.v.toNat 4) (sizeU e.seq.v.toNat : Int) = 0 ∧ putL (L ++ lowB e.src.v.toNat 4) (natB e.seq.v.toNat) = L ++ lowB e.src.v.toNat 4 ++ natB e.seq.v.toNat := put_ok (L := L ++ lowB e.src.v.toNat 4) (by rw [natB_len]) (by (try simp only [List.length_append, lowB_len, natB_len]); omega)
  have H34 : St W w30 (blk bk18 (.cells #[.bool true] 4 (0, 0)) :: blk bk15 (.cells #[.int .i64 e.src.v, .int .i64 e.seq.v, .int .i64 e.time.v, .string e.typ.v, .slice pA1 e.attrs.length cA2] 33 (0, 0)) :: SinkA b (L ++ lowB e.src.v.toNat 4 ++ natB e.seq.v.toNat) :: Attrs (.slice pA1 e.attrs.length cA2) e.attrs :: imi (0 < e.attrs.length) gA3 (.cells kA5 eA6 zA7) :: (F.set i emp)) := by rw [← hk32.2]; exact H31
  refine r_cons (s_callv [.pointer (some ⟨bk18, 0, none⟩)] [.int .i64 (putE (L ++ lowB e.src.v.toNat 4) (sizeU e.seq.v.toNat : Int)), .pointer (some ⟨bk18, 0, none⟩)] rfl pl_93 rfl rfl (form_put bk18 (putE (L ++ lowB e.src.v.toNat 4) (sizeU e.seq.v.toNat : Int)) hk32.1 (i := 0) rfl H34) ?_)
  rintro _ w35 ⟨rfl, H36⟩
  refine r_nil ?_
  refine g_seq ?_
  refine g_region ?_
  refine r_cons (s_move (.func (.func 93) #[] #[.pointer (some ⟨bk18, 0, none⟩)]) rfl rfl ?_)
  refine r_cons (s_move (.pointer (some ⟨b, 0, none⟩)) rfl rfl ?_)
  refine r_cons (s_fieldAddr 33 1 2 2 2 rfl fi_33_1 rfl rfl ?_)
  refine r_cons (s_load (.int .i64 e.time.v) ag_2 rfl (H36.blk_at (i := 1) rfl) rfl rfl ?_)
  refine r_cons (s_conv ((e.time.v.toNat : Nat) : Int) rfl us_2 ik_62 ((wu64 (by omega)).trans (by omega)) rfl ?_)
  refine r_cons (s_call [.pointer (some ⟨b, 0, none⟩), .int .u64 ((e.time.v.toNat : Nat) : Int)] pl_94 rfl rfl (Sink_Nat b (L ++ lowB e.src.v.toNat 4 ++ natB e.seq.v.toNat) e.time.v.toNat (by omega) (by first | omega | (simp only [List.length_append, List.length_nil, lowB_len, natB_len]; omega) | (repeat (first | exact Nat.zero_le _ | assumption | refine putL_le ?_ | refine bitsL_le ?_ | refine evPutL_le ?_ | (simp only [List.length_append, List.length_nil, lowB_len, natB_len]; omega)))) (i := 2) rfl H36) ?_)
  rintro _ w37 ⟨rfl, H38⟩
  have hk39 : putE (L ++ lowB e.src.v.toNat 4 ++ natB e.seq.v.toNat) (sizeU e.time.v.toNat : Int) = 0 ∧ putL (L ++ lowB e.src.v.toNat 4 ++ natB e.seq.v.toNat) (natB e.time.v.toNat) = L ++ lowB e.src.v.toNat 4 ++ natB e.seq.v.toNat ++ natB e.time.v.toNat := put_ok (L := L ++ lowB e.src.v.toNat 4 ++ natB e.seq.v.toNat) (by rw [natB_len]) (by (try simp only [List.length_append, lowB_len, natB_len]); omega)
  have H41 : St W w37 (blk bk18 (.cells #[.bool true] 4 (0, 0)) :: blk bk15 (.cells #[.int .i64 e.src.v, .int .i64 e.seq.v, .int .i64 e.time.v, .string e.typ.v, .slice pA1 e.attrs.length cA2] 33 (0, 0)) :: SinkA b (L ++ lowB e.src.v.toNat 4 ++ natB e.seq.v.toNat ++ natB e.time.v.toNat) :: Attrs (.slice pA1 e.attrs.length cA2) e.attrs :: imi (0 < e.attrs.length) gA3 (.cells kA5 eA6 zA7) :: (F.set i emp)) := by rw [← hk39.2]; exact H38
  refine r_cons (s_callv [.pointer (some ⟨bk18, 0, none⟩)] [.int .i64 (putE (L ++ lowB e.src.v.toNat 4 ++ natB e.seq.v.toNat) (sizeU e.time.v.toNat : Int)), .pointer (some ⟨bk18, 0, none⟩)] rfl pl_93 rfl rfl (form_put bk18 (putE (L ++ lowB e.src.v.toNat 4 ++ natB e.seq.v.toNat) (sizeU e.time.v.toNat : Int)) hk39.1 (i := 0) rfl H41) ?_)
  rintro _ w42 ⟨rfl, H43⟩
  refine r_nil ?_
  refine g_seq ?_
  refine g_region ?_
  refine r_cons (s_move (.func (.func 93) #[] #[.pointer (some ⟨bk18, 0, none⟩)]) rfl rfl ?_)
  refine r_cons (s_move (.pointer (some ⟨b, 0, none⟩)) rfl rfl ?_)
  refine r_cons (s_fieldAddr 33 2 3 3 9 rfl fi_33_2 rfl rfl ?_)
  refine r_cons (s_load (.string e.typ.v) ag_9 rfl (H43.blk_at (i := 1) rfl) rfl rfl ?_)
  refine r_cons (s_call [.pointer (some ⟨b, 0, none⟩), .string e.typ.v] pl_95 rfl rfl (Sink_Text b (L ++ lowB e.src.v.toNat 4 ++ natB e.seq.v.toNat ++ natB e.time.v.toNat) e.typ.v e.typ.ok (by first | omega | (simp only [List.length_append, List.length_nil, lowB_len, natB_len]; omega) | (repeat (first | exact Nat.zero_le _ | assumption | refine putL_le ?_ | refine bitsL_le ?_ | refine evPutL_le ?_ | (simp only [List.length_append, List.length_nil, lowB_len, natB_len]; omega)))) (i := 2) rfl H43) ?_)
  rintro _ w44 ⟨rfl, H45⟩
  have hk46 : putE (L ++ lowB e.src.v.toNat 4 ++ natB e.seq.v.toNat ++ natB e.time.v.toNat) ((textB e.typ.v).length : Int) = 0 ∧ putL (L ++ lowB e.src.v.toNat 4 ++ natB e.seq.v.toNat ++ natB e.time.v.toNat) (textB e.typ.v) = L ++ lowB e.src.v.toNat 4 ++ natB e.seq.v.toNat ++ natB e.time.v.toNat ++ textB e.typ.v := put_ok (L := L ++ lowB e.src.v.toNat 4 ++ natB e.seq.v.toNat ++ natB e.time.v.toNat) rfl (by (try simp only [List.length_append, lowB_len, natB_len]); omega)
  have H48 : St W w44 (blk bk18 (.cells #[.bool true] 4 (0, 0)) :: blk bk15 (.cells #[.int .i64 e.src.v, .int .i64 e.seq.v, .int .i64 e.time.v, .string e.typ.v, .slice pA1 e.attrs.length cA2] 33 (0, 0)) :: SinkA b (L ++ lowB e.src.v.toNat 4 ++ natB e.seq.v.toNat ++ natB e.time.v.toNat ++ textB e.typ.v) :: Attrs (.slice pA1 e.attrs.length cA2) e.attrs :: imi (0 < e.attrs.length) gA3 (.cells kA5 eA6 zA7) :: (F.set i emp)) := by rw [← hk46.2]; exact H45
  refine r_cons (s_callv [.pointer (some ⟨bk18, 0, none⟩)] [.int .i64 (putE (L ++ lowB e.src.v.toNat 4 ++ natB e.seq.v.toNat ++ natB e.time.v.toNat) ((textB e.typ.v).length : Int)), .pointer (some ⟨bk18, 0, none⟩)] rfl pl_93 rfl rfl (form_put bk18 (putE (L ++ lowB e.src.v.toNat 4 ++ natB e.seq.v.toNat ++ natB e.time.v.toNat) ((textB e.typ.v).length : Int)) hk46.1 (i := 0) rfl H48) ?_)
  rintro _ w49 ⟨rfl, H50⟩
  refine r_nil ?_
  refine g_seq ?_
  refine g_region ?_
  refine r_cons (s_move (.func (.func 93) #[] #[.pointer (some ⟨bk18, 0, none⟩)]) rfl rfl ?_)
  refine r_cons (s_move (.pointer (some ⟨b, 0, none⟩)) rfl rfl ?_)
  refine r_cons (s_fieldAddr 33 3 4 4 31 rfl fi_33_3 rfl rfl ?_)
  refine r_cons (s_load (.slice pA1 e.attrs.length cA2) ag_31 rfl (H50.blk_at (i := 1) rfl) rfl rfl ?_)
  refine r_cons (s_len e.attrs.length rfl ⟨_, un_31⟩ rfl ?_)
  refine r_cons (s_conv ((e.attrs.length : Nat) : Int) rfl us_3 ik_62 (wu64 (by omega)) rfl ?_)
  refine r_cons (s_call [.pointer (some ⟨b, 0, none⟩), .int .u64 ((e.attrs.length : Nat) : Int), .int .i64 4] pl_38 rfl rfl (Sink_Bits b (L ++ lowB e.src.v.toNat 4 ++ natB e.seq.v.toNat ++ natB e.time.v.toNat ++ textB e.typ.v) e.attrs.length 4 (by omega) (by first | omega | (simp only [List.length_append, List.length_nil, lowB_len, natB_len]; omega) | (repeat (first | exact Nat.zero_le _ | assumption | refine putL_le ?_ | refine bitsL_le ?_ | refine evPutL_le ?_ | (simp only [List.length_append, List.length_nil, lowB_len, natB_len]; omega)))) (i := 2) rfl H50) ?_)
  rintro _ w51 ⟨rfl, H52⟩
  have hk53 : bitsE (L ++ lowB e.src.v.toNat 4 ++ natB e.seq.v.toNat ++ natB e.time.v.toNat ++ textB e.typ.v) e.attrs.length 4 = 0 ∧ bitsL (L ++ lowB e.src.v.toNat 4 ++ natB e.seq.v.toNat ++ natB e.time.v.toNat ++ textB e.typ.v) e.attrs.length 4 = L ++ lowB e.src.v.toNat 4 ++ natB e.seq.v.toNat ++ natB e.time.v.toNat ++ textB e.typ.v ++ lowB e.attrs.length 4 := (by have hh := bits_ok (L := L ++ lowB e.src.v.toNat 4 ++ natB e.seq.v.toNat ++ natB e.time.v.toNat ++ textB e.typ.v) (u := e.attrs.length) (n := 4) (fits_small (k := 4) rfl (by decide) (by omega)) (by (try simp only [List.length_append, lowB_len, natB_len]); omega); exact hh)
  have H55 : St W w51 (blk bk18 (.cells #[.bool true] 4 (0, 0)) :: blk bk15 (.cells #[.int .i64 e.src.v, .int .i64 e.seq.v, .int .i64 e.time.v, .string e.typ.v, .slice pA1 e.attrs.length cA2] 33 (0, 0)) :: SinkA b (L ++ lowB e.src.v.toNat 4 ++ natB e.seq.v.toNat ++ natB e.time.v.toNat ++ textB e.typ.v ++ lowB e.attrs.length 4) :: Attrs (.slice pA1 e.attrs.length cA2) e.attrs :: imi (0 < e.attrs.length) gA3 (.cells kA5 eA6 zA7) :: (F.set i emp)) := by rw [← hk53.2]; exact H52
  refine r_cons (s_callv [.pointer (some ⟨bk18, 0, none⟩)] [.int .i64 (bitsE (L ++ lowB e.src.v.toNat 4 ++ natB e.seq.v.toNat ++ natB e.time.v.toNat ++ textB e.typ.v) e.attrs.length 4), .pointer (some ⟨bk18, 0, none⟩)] rfl pl_93 rfl rfl (form_put bk18 (bitsE (L ++ lowB e.src.v.toNat 4 ++ natB e.seq.v.toNat ++ natB e.time.v.toNat ++ textB e.typ.v) e.attrs.length 4) hk53.1 (i := 0) rfl H55) ?_)
  rintro _ w56 ⟨rfl, H57⟩
  refine r_nil ?_
  refine g_seq ?_
  refine g_seq ?_
  refine g_region ?_
  refine r_cons (s_fieldAddr 33 3 4 4 31 rfl fi_33_3 rfl rfl ?_)
  refine r_cons (s_load (.slice pA1 e.attrs.length cA2) ag_31 rfl (H57.blk_at (i := 1) rfl) rfl rfl ?_)
  refine r_cons (s_len e.attrs.length rfl ⟨_, un_31⟩ rfl ?_)
  refine r_cons (s_move (.int .i64 0) rfl rfl ?_)
  refine r_nil ?_
  refine g_block ?_
  have H58 : St W w56 (blk bk18 (.cells #[.bool true] 4 (0, 0)) :: blk bk15 (.cells #[.int .i64 e.src.v, .int .i64 e.seq.v, .int .i64 e.time.v, .string e.typ.v, .slice pA1 e.attrs.length cA2] 33 (0, 0)) :: SinkA b (L ++ headB e ++ (e.attrs.take 0).flatMap attrB) :: Attrs (.slice pA1 e.attrs.length cA2) e.attrs :: imi (0 < e.attrs.length) gA3 (.cells kA5 eA6 zA7) :: (F.set i emp)) := by rw [List.take_zero, List.flatMap_nil, List.append_nil]; unfold headB; simp only [List.append_assoc] at H57 ⊢; exact H57
  refine g_loop_inv (fun (x_ : Nat) => match x_ with | j2 => [(0, .pointer (some ⟨b, 0, none⟩)), (4, .bool false), (5, .pointer (some ⟨bk18, 0, none⟩)), (6, .func (.func 93) #[] #[.pointer (some ⟨bk18, 0, none⟩)]), (48, .slice pA1 e.attrs.length cA2), (49, .int .i64 (e.attrs.length : Int)), (50, .int .i64 (j2 : Int))]) (fun (x_ : Nat) w => match x_ with | j2 => (j2 ≤ e.attrs.length) ∧ St W w (blk bk18 (.cells #[.bool true] 4 (0, 0)) :: blk bk15 (.cells #[.int .i64 e.src.v, .int .i64 e.seq.v, .int .i64 e.time.v, .string e.typ.v, .slice pA1 e.attrs.length cA2] 33 (0, 0)) :: SinkA b (L ++ headB e ++ (e.attrs.take j2).flatMap attrB) :: Attrs (.slice pA1 e.attrs.length cA2) e.attrs :: imi (0 < e.attrs.length) gA3 (.cells kA5 eA6 zA7) :: (F.set i emp))) (fun (x_ : Nat) => match x_ with | j2 => e.attrs.length - j2) (0) ?_ ?_ ?_
  · exact ⟨by first | rfl | exact vint (by omega), by first | rfl | exact vint (by omega), by first | rfl | exact vint (by omega), by first | rfl | exact vint (by omega), by first | rfl | exact vint (by omega), by first | rfl | exact vint (by omega), by first | rfl | exact vint (by omega), trivial⟩
  · exact ⟨(by omega), H58⟩
  · rintro j2 ρ59 w60 ⟨hj2, H61⟩ nx62
    change Ends _ _ (upds ρ59 [(0, .pointer (some ⟨b, 0, none⟩)), (4, .bool false), (5, .pointer (some ⟨bk18, 0, none⟩)), (6, .func (.func 93) #[] #[.pointer (some ⟨bk18, 0, none⟩)]), (48, .slice pA1 e.attrs.length cA2), (49, .int .i64 (e.attrs.length : Int)), (50, .int .i64 (j2 : Int))]) w60
    refine g_seq ?_
    refine g_region ?_
    by_cases hc63 : (j2 : Int) < (e.attrs.length : Int)
    · skip
      refine r_cons (s_lss true rfl rfl (dtrue hc63) rfl ?_)
      refine r_nil ?_
      refine g_seq ?_
      refine g_true rfl ?_
      refine g_skip ?_
      refine g_seq ?_
      refine g_block ?_
      refine g_seq ?_
      refine g_region ?_
      refine r_cons (s_indexAddr gA3 (off := oA4) (j2 : Int) 4 (oA4 + j2 * 4) (by exact congrArg (fun z_ => Value.slice z_ e.attrs.length cA2) (hp9 (by omega))) rfl el_31 (by omega) rfl rfl ?_)
      refine r_cons (s_loadAgg [.string ((e.attrs.getD j2 default).name.v), .int .i64 ((e.attrs.getD j2 default).kind.v), .int .i64 ((e.attrs.getD j2 default).n.v), .string ((e.attrs.getD j2 default).s.v)] 4 ag_91 rfl (H61.imi_at (i := 4) rfl (by omega)) (by have := elem_size (i := j2) (s := 4) (hs11 (by omega)) (by omega); omega) (elem_take attrCell_len (hx10 (by omega)) (by omega) default) rfl ?_)
      refine r_cons (s_alloc H61 91 ze_91 rfl ?_); intro bk64 w65 H66
      refine r_cons (s_storeAgg H66 0 #[.string ((e.attrs.getD j2 default).name.v), .int .i64 ((e.attrs.getD j2 default).kind.v), .int .i64 ((e.attrs.getD j2 default).n.v), .string ((e.attrs.getD j2 default).s.v)] 4 rfl rfl rfl sz_91 rfl (by simp [Value.oneCell']) (Nat.le_of_ble_eq_true rfl) (fun o h1 h2 => by first | (simp; done) | (simp; omega)) (cs' := #[.string ((e.attrs.getD j2 default).name.v), .int .i64 ((e.attrs.getD j2 default).kind.v), .int .i64 ((e.attrs.getD j2 default).n.v), .string ((e.attrs.getD j2 default).s.v)]) rfl ?_); intro w67 H68
      refine r_nil ?_
      refine g_seq ?_
      refine g_region ?_
      obtain ⟨ha1, ha2, ha3, ha4⟩ := attr_ok hr6 (j := j2) (by omega)
      have hAr := attrs_room (al := e.attrs) (j := j2) (by omega)
      have hnlo := (e.attrs.getD j2 default).n.lo
      have hnhi := (e.attrs.getD j2 default).n.hi
      have hAm : (textB (e.attrs.getD j2 default).name.v).length + 2 ≤ (attrB (e.attrs.getD j2 default)).length := by unfold attrB; simp only [List.length_append, lowB_len]; omega
      refine r_cons (s_move (.func (.func 93) #[] #[.pointer (some ⟨bk18, 0, none⟩)]) rfl rfl ?_)
      refine r_cons (s_move (.pointer (some ⟨b, 0, none⟩)) rfl rfl ?_)
      refine r_cons (s_fieldAddr 91 0 0 0 9 rfl fi_91_0 rfl rfl ?_)
      refine r_cons (s_load (.string ((e.attrs.getD j2 default).name.v)) ag_9 rfl (H68.blk_at (i := 0) rfl) rfl rfl ?_)
      refine r_cons (s_call [.pointer (some ⟨b, 0, none⟩), .string ((e.attrs.getD j2 default).name.v)] pl_95 rfl rfl (Sink_Text b (L ++ headB e ++ (e.attrs.take j2).flatMap attrB) ((e.attrs.getD j2 default).name.v) (e.attrs.getD j2 default).name.ok (by first | omega | (simp only [List.length_append, List.length_nil, lowB_len, natB_len]; omega) | (repeat (first | exact Nat.zero_le _ | assumption | refine putL_le ?_ | refine bitsL_le ?_ | refine evPutL_le ?_ | (simp only [List.length_append, List.length_nil, lowB_len, natB_len]; omega)))) (i := 3) rfl H68) ?_)
      rintro _ w69 ⟨rfl, H70⟩
      have hk71 : putE (L ++ headB e ++ (e.attrs.take j2).flatMap attrB) ((textB ((e.attrs.getD j2 default).name.v)).length : Int) = 0 ∧ putL (L ++ headB e ++ (e.attrs.take j2).flatMap attrB) (textB ((e.attrs.getD j2 default).name.v)) = L ++ headB e ++ (e.attrs.take j2).flatMap attrB ++ textB (e.attrs.getD j2 default).name.v := put_ok (L := L ++ headB e ++ (e.attrs.take j2).flatMap attrB) rfl (by (try simp only [List.length_append, lowB_len, natB_len]); omega)
      have H73 : St W w69 (blk bk64 (.cells #[.string ((e.attrs.getD j2 default).name.v), .int .i64 ((e.attrs.getD j2 default).kind.v), .int .i64 ((e.attrs.getD j2 default).n.v), .string ((e.attrs.getD j2 default).s.v)] 91 (0, 0)) :: blk bk18 (.cells #[.bool true] 4 (0, 0)) :: blk bk15 (.cells #[.int .i64 e.src.v, .int .i64 e.seq.v, .int .i64 e.time.v, .string e.typ.v, .slice pA1 e.attrs.length cA2] 33 (0, 0)) :: SinkA b (L ++ headB e ++ (e.attrs.take j2).flatMap attrB ++ textB (e.attrs.getD j2 default).name.v) :: Attrs (.slice pA1 e.attrs.length cA2) e.attrs :: imi (0 < e.attrs.length) gA3 (.cells kA5 eA6 zA7) :: (F.set i emp)) := by rw [← hk71.2]; exact H70
      refine r_cons (s_callv [.pointer (some ⟨bk18, 0, none⟩)] [.int .i64 (putE (L ++ headB e ++ (e.attrs.take j2).flatMap attrB) ((textB ((e.attrs.getD j2 default).name.v)).length : Int)), .pointer (some ⟨bk18, 0, none⟩)] rfl pl_93 rfl rfl (form_put bk18 (putE (L ++ headB e ++ (e.attrs.take j2).flatMap attrB) ((textB ((e.attrs.getD j2 default).name.v)).length : Int)) hk71.1 (i := 1) rfl H73) ?_)
      rintro _ w74 ⟨rfl, H75⟩
      refine r_nil ?_
      refine g_seq ?_
      refine g_region ?_
      refine r_cons (s_move (.func (.func 93) #[] #[.pointer (some ⟨bk18, 0, none⟩)]) rfl rfl ?_)
      refine r_cons (s_move (.pointer (some ⟨b, 0, none⟩)) rfl rfl ?_)
      refine r_cons (s_fieldAddr 91 1 1 1 89 rfl fi_91_1 rfl rfl ?_)
      refine r_cons (s_fieldAddr 89 0 0 1 3 rfl fi_89_0 rfl rfl ?_)
      refine r_cons (s_load (.int .i64 ((e.attrs.getD j2 default).kind.v)) ag_3 rfl (H75.blk_at (i := 0) rfl) rfl rfl ?_)
      refine r_cons (s_conv (((e.attrs.getD j2 default).kind.v.toNat : Nat) : Int) rfl us_3 ik_62 ((wu64 (by omega)).trans (by omega)) rfl ?_)
      refine r_cons (s_call [.pointer (some ⟨b, 0, none⟩), .int .u64 (((e.attrs.getD j2 default).kind.v.toNat : Nat) : Int), .int .i64 2] pl_38 rfl rfl (Sink_Bits b (L ++ headB e ++ (e.attrs.take j2).flatMap attrB ++ textB (e.attrs.getD j2 default).name.v) ((e.attrs.getD j2 default).kind.v.toNat) 2 (by omega) (by first | omega | (simp only [List.length_append, List.length_nil, lowB_len, natB_len]; omega) | (repeat (first | exact Nat.zero_le _ | assumption | refine putL_le ?_ | refine bitsL_le ?_ | refine evPutL_le ?_ | (simp only [List.length_append, List.length_nil, lowB_len, natB_len]; omega)))) (i := 3) rfl H75) ?_)
      rintro _ w76 ⟨rfl, H77⟩
      have hk78 : bitsE (L ++ headB e ++ (e.attrs.take j2).flatMap attrB ++ textB (e.attrs.getD j2 default).name.v) ((e.attrs.getD j2 default).kind.v.toNat) 2 = 0 ∧ bitsL (L ++ headB e ++ (e.attrs.take j2).flatMap attrB ++ textB (e.attrs.getD j2 default).name.v) ((e.attrs.getD j2 default).kind.v.toNat) 2 = L ++ headB e ++ (e.attrs.take j2).flatMap attrB ++ textB (e.attrs.getD j2 default).name.v ++ lowB (e.attrs.getD j2 default).kind.v.toNat 2 := (by have hh := bits_ok (L := L ++ headB e ++ (e.attrs.take j2).flatMap attrB ++ textB (e.attrs.getD j2 default).name.v) (u := (e.attrs.getD j2 default).kind.v.toNat) (n := 2) (fits_small (k := 2) rfl (by decide) (by omega)) (by (try simp only [List.length_append, lowB_len, natB_len]); omega); exact hh)
      have H80 : St W w76 (blk bk64 (.cells #[.string ((e.attrs.getD j2 default).name.v), .int .i64 ((e.attrs.getD j2 default).kind.v), .int .i64 ((e.attrs.getD j2 default).n.v), .string ((e.attrs.getD j2 default).s.v)] 91 (0, 0)) :: blk bk18 (.cells #[.bool true] 4 (0, 0)) :: blk bk15 (.cells #[.int .i64 e.src.v, .int .i64 e.seq.v, .int .i64 e.time.v, .string e.typ.v, .slice pA1 e.attrs.length cA2] 33 (0, 0)) :: SinkA b (L ++ headB e ++ (e.attrs.take j2).flatMap attrB ++ textB (e.attrs.getD j2 default).name.v ++ lowB (e.attrs.getD j2 default).kind.v.toNat 2) :: Attrs (.slice pA1 e.attrs.length cA2) e.attrs :: imi (0 < e.attrs.length) gA3 (.cells kA5 eA6 zA7) :: (F.set i emp)) := by rw [← hk78.2]; exact H77
      refine r_cons (s_callv [.pointer (some ⟨bk18, 0, none⟩)] [.int .i64 (bitsE (L ++ headB e ++ (e.attrs.take j2).flatMap attrB ++ textB (e.attrs.getD j2 default).name.v) ((e.attrs.getD j2 default).kind.v.toNat) 2), .pointer (some ⟨bk18, 0, none⟩)] rfl pl_93 rfl rfl (form_put bk18 (bitsE (L ++ headB e ++ (e.attrs.take j2).flatMap attrB ++ textB (e.attrs.getD j2 default).name.v) ((e.attrs.getD j2 default).kind.v.toNat) 2) hk78.1 (i := 1) rfl H80) ?_)
      rintro _ w81 ⟨rfl, H82⟩
      refine r_nil ?_
      refine g_seq ?_
      refine g_region ?_
      refine r_cons (s_fieldAddr 91 1 1 1 89 rfl fi_91_1 rfl rfl ?_)
      refine r_cons (s_fieldAddr 89 0 0 1 3 rfl fi_89_0 rfl rfl ?_)
      refine r_cons (s_load (.int .i64 ((e.attrs.getD j2 default).kind.v)) ag_3 rfl (H82.blk_at (i := 0) rfl) rfl rfl ?_)
      by_cases hc83 : (e.attrs.getD j2 default).kind.v = 1
      · skip
        refine r_cons (s_eql true rfl rfl (dtrue hc83) rfl ?_)
        refine r_nil ?_
        refine g_true rfl ?_
        refine g_region ?_
        have hAB : attrB (e.attrs.getD j2 default) = textB (e.attrs.getD j2 default).name.v ++ lowB (e.attrs.getD j2 default).kind.v.toNat 2 ++ natB (zigN (e.attrs.getD j2 default).n.v) := by unfold attrB; rw [if_pos (by assumption)]
        have hABl : (attrB (e.attrs.getD j2 default)).length = (textB (e.attrs.getD j2 default).name.v).length + 2 + sizeU (zigN (e.attrs.getD j2 default).n.v) := by rw [hAB]; simp only [List.length_append, lowB_len, natB_len]
        refine r_cons (s_move (.func (.func 93) #[] #[.pointer (some ⟨bk18, 0, none⟩)]) rfl rfl ?_)
        refine r_cons (s_move (.pointer (some ⟨b, 0, none⟩)) rfl rfl ?_)
        refine r_cons (s_fieldAddr 91 1 1 1 89 rfl fi_91_1 rfl rfl ?_)
        refine r_cons (s_fieldAddr 89 1 1 2 2 rfl fi_89_1 rfl rfl ?_)
        refine r_cons (s_load (.int .i64 ((e.attrs.getD j2 default).n.v)) ag_2 rfl (H82.blk_at (i := 0) rfl) rfl rfl ?_)
        refine r_cons (s_call [.pointer (some ⟨b, 0, none⟩), .int .i64 ((e.attrs.getD j2 default).n.v)] pl_96 rfl rfl (Sink_Num b (L ++ headB e ++ (e.attrs.take j2).flatMap attrB ++ textB (e.attrs.getD j2 default).name.v ++ lowB (e.attrs.getD j2 default).kind.v.toNat 2) ((e.attrs.getD j2 default).n.v) (by omega) (by omega) (by first | omega | (simp only [List.length_append, List.length_nil, lowB_len, natB_len]; omega) | (repeat (first | exact Nat.zero_le _ | assumption | refine putL_le ?_ | refine bitsL_le ?_ | refine evPutL_le ?_ | (simp only [List.length_append, List.length_nil, lowB_len, natB_len]; omega)))) (i := 3) rfl H82) ?_)
        rintro _ w84 ⟨rfl, H85⟩
        have hk86 : putE (L ++ headB e ++ (e.attrs.take j2).flatMap attrB ++ textB (e.attrs.getD j2 default).name.v ++ lowB (e.attrs.getD j2 default).kind.v.toNat 2) (sizeU (zigN ((e.attrs.getD j2 default).n.v)) : Int) = 0 ∧ putL (L ++ headB e ++ (e.attrs.take j2).flatMap attrB ++ textB (e.attrs.getD j2 default).name.v ++ lowB (e.attrs.getD j2 default).kind.v.toNat 2) (natB (zigN ((e.attrs.getD j2 default).n.v))) = L ++ headB e ++ (e.attrs.take j2).flatMap attrB ++ textB (e.attrs.getD j2 default).name.v ++ lowB (e.attrs.getD j2 default).kind.v.toNat 2 ++ natB (zigN (e.attrs.getD j2 default).n.v) := put_ok (L := L ++ headB e ++ (e.attrs.take j2).flatMap attrB ++ textB (e.attrs.getD j2 default).name.v ++ lowB (e.attrs.getD j2 default).kind.v.toNat 2) (by rw [natB_len]) (by (try simp only [List.length_append, lowB_len, natB_len]); omega)
        have H88 : St W w84 (blk bk64 (.cells #[.string ((e.attrs.getD j2 default).name.v), .int .i64 ((e.attrs.getD j2 default).kind.v), .int .i64 ((e.attrs.getD j2 default).n.v), .string ((e.attrs.getD j2 default).s.v)] 91 (0, 0)) :: blk bk18 (.cells #[.bool true] 4 (0, 0)) :: blk bk15 (.cells #[.int .i64 e.src.v, .int .i64 e.seq.v, .int .i64 e.time.v, .string e.typ.v, .slice pA1 e.attrs.length cA2] 33 (0, 0)) :: SinkA b (L ++ headB e ++ (e.attrs.take j2).flatMap attrB ++ textB (e.attrs.getD j2 default).name.v ++ lowB (e.attrs.getD j2 default).kind.v.toNat 2 ++ natB (zigN (e.attrs.getD j2 default).n.v)) :: Attrs (.slice pA1 e.attrs.length cA2) e.attrs :: imi (0 < e.attrs.length) gA3 (.cells kA5 eA6 zA7) :: (F.set i emp)) := by rw [← hk86.2]; exact H85
        refine r_cons (s_callv [.pointer (some ⟨bk18, 0, none⟩)] [.int .i64 (putE (L ++ headB e ++ (e.attrs.take j2).flatMap attrB ++ textB (e.attrs.getD j2 default).name.v ++ lowB (e.attrs.getD j2 default).kind.v.toNat 2) (sizeU (zigN ((e.attrs.getD j2 default).n.v)) : Int)), .pointer (some ⟨bk18, 0, none⟩)] rfl pl_93 rfl rfl (form_put bk18 (putE (L ++ headB e ++ (e.attrs.take j2).flatMap attrB ++ textB (e.attrs.getD j2 default).name.v ++ lowB (e.attrs.getD j2 default).kind.v.toNat 2) (sizeU (zigN ((e.attrs.getD j2 default).n.v)) : Int)) hk86.1 (i := 1) rfl H88) ?_)
        rintro _ w89 ⟨rfl, H90⟩
        refine r_nil ?_
        refine g_inBlock ?_
        refine g_region ?_
        refine r_cons (s_add ((j2 : Int) + 1) rfl rfl (wi64 (by omega)) rfl ?_)
        refine r_cons (s_move (.int .i64 ((j2 : Int) + 1)) rfl rfl ?_)
        refine r_nil ?_
        have H91 : St W w89 (blk bk18 (.cells #[.bool true] 4 (0, 0)) :: blk bk15 (.cells #[.int .i64 e.src.v, .int .i64 e.seq.v, .int .i64 e.time.v, .string e.typ.v, .slice pA1 e.attrs.length cA2] 33 (0, 0)) :: SinkA b (L ++ headB e ++ (e.attrs.take j2).flatMap attrB ++ textB (e.attrs.getD j2 default).name.v ++ lowB (e.attrs.getD j2 default).kind.v.toNat 2 ++ natB (zigN (e.attrs.getD j2 default).n.v)) :: Attrs (.slice pA1 e.attrs.length cA2) e.attrs :: imi (0 < e.attrs.length) gA3 (.cells kA5 eA6 zA7) :: (F.set i emp)) := ((((((H90.move 5 rfl).move 5 rfl).move 5 rfl).move 5 rfl).move 5 rfl).drop 5 rfl)
        have H92 : St W w89 (blk bk18 (.cells #[.bool true] 4 (0, 0)) :: blk bk15 (.cells #[.int .i64 e.src.v, .int .i64 e.seq.v, .int .i64 e.time.v, .string e.typ.v, .slice pA1 e.attrs.length cA2] 33 (0, 0)) :: SinkA b (L ++ headB e ++ (e.attrs.take (j2 + 1)).flatMap attrB) :: Attrs (.slice pA1 e.attrs.length cA2) e.attrs :: imi (0 < e.attrs.length) gA3 (.cells kA5 eA6 zA7) :: (F.set i emp)) := by rw [attrs_take (by omega), hAB]; simp only [List.append_assoc] at H91 ⊢; exact H91
        exact nx62 (j2 + 1) _ _ ⟨(by omega), H92⟩ (by first | (dsimp only; omega) | omega) ⟨by first | rfl | exact vint (by omega), by first | rfl | exact vint (by omega), by first | rfl | exact vint (by omega), by first | rfl | exact vint (by omega), by first | rfl | exact vint (by omega), by first | rfl | exact vint (by omega), by first | rfl | exact vint (by omega), trivial⟩
      · skip
        refine r_cons (s_eql false rfl rfl (dfalse hc83) rfl ?_)
        refine r_nil ?_
        refine g_false rfl ?_
        refine g_region ?_
        have hAB : attrB (e.attrs.getD j2 default) = textB (e.attrs.getD j2 default).name.v ++ lowB (e.attrs.getD j2 default).kind.v.toNat 2 ++ textB (e.attrs.getD j2 default).s.v := by unfold attrB; rw [if_neg (by assumption)]
        have hABl : (attrB (e.attrs.getD j2 default)).length = (textB (e.attrs.getD j2 default).name.v).length + 2 + (textB (e.attrs.getD j2 default).s.v).length := by rw [hAB]; simp only [List.length_append, lowB_len, natB_len]
        refine r_cons (s_move (.func (.func 93) #[] #[.pointer (some ⟨bk18, 0, none⟩)]) rfl rfl ?_)
        refine r_cons (s_move (.pointer (some ⟨b, 0, none⟩)) rfl rfl ?_)
        refine r_cons (s_fieldAddr 91 1 1 1 89 rfl fi_91_1 rfl rfl ?_)
        refine r_cons (s_fieldAddr 89 2 2 3 9 rfl fi_89_2 rfl rfl ?_)
        refine r_cons (s_load (.string ((e.attrs.getD j2 default).s.v)) ag_9 rfl (H82.blk_at (i := 0) rfl) rfl rfl ?_)
        refine r_cons (s_call [.pointer (some ⟨b, 0, none⟩), .string ((e.attrs.getD j2 default).s.v)] pl_95 rfl rfl (Sink_Text b (L ++ headB e ++ (e.attrs.take j2).flatMap attrB ++ textB (e.attrs.getD j2 default).name.v ++ lowB (e.attrs.getD j2 default).kind.v.toNat 2) ((e.attrs.getD j2 default).s.v) (e.attrs.getD j2 default).s.ok (by first | omega | (simp only [List.length_append, List.length_nil, lowB_len, natB_len]; omega) | (repeat (first | exact Nat.zero_le _ | assumption | refine putL_le ?_ | refine bitsL_le ?_ | refine evPutL_le ?_ | (simp only [List.length_append, List.length_nil, lowB_len, natB_len]; omega)))) (i := 3) rfl H82) ?_)
        rintro _ w93 ⟨rfl, H94⟩
        have hk95 : putE (L ++ headB e ++ (e.attrs.take j2).flatMap attrB ++ textB (e.attrs.getD j2 default).name.v ++ lowB (e.attrs.getD j2 default).kind.v.toNat 2) ((textB ((e.attrs.getD j2 default).s.v)).length : Int) = 0 ∧ putL (L ++ headB e ++ (e.attrs.take j2).flatMap attrB ++ textB (e.attrs.getD j2 default).name.v ++ lowB (e.attrs.getD j2 default).kind.v.toNat 2) (textB ((e.attrs.getD j2 default).s.v)) = L ++ headB e ++ (e.attrs.take j2).flatMap attrB ++ textB (e.attrs.getD j2 default).name.v ++ lowB (e.attrs.getD j2 default).kind.v.toNat 2 ++ textB (e.attrs.getD j2 default).s.v := put_ok (L := L ++ headB e ++ (e.attrs.take j2).flatMap attrB ++ textB (e.attrs.getD j2 default).name.v ++ lowB (e.attrs.getD j2 default).kind.v.toNat 2) rfl (by (try simp only [List.length_append, lowB_len, natB_len]); omega)
        have H97 : St W w93 (blk bk64 (.cells #[.string ((e.attrs.getD j2 default).name.v), .int .i64 ((e.attrs.getD j2 default).kind.v), .int .i64 ((e.attrs.getD j2 default).n.v), .string ((e.attrs.getD j2 default).s.v)] 91 (0, 0)) :: blk bk18 (.cells #[.bool true] 4 (0, 0)) :: blk bk15 (.cells #[.int .i64 e.src.v, .int .i64 e.seq.v, .int .i64 e.time.v, .string e.typ.v, .slice pA1 e.attrs.length cA2] 33 (0, 0)) :: SinkA b (L ++ headB e ++ (e.attrs.take j2).flatMap attrB ++ textB (e.attrs.getD j2 default).name.v ++ lowB (e.attrs.getD j2 default).kind.v.toNat 2 ++ textB (e.attrs.getD j2 default).s.v) :: Attrs (.slice pA1 e.attrs.length cA2) e.attrs :: imi (0 < e.attrs.length) gA3 (.cells kA5 eA6 zA7) :: (F.set i emp)) := by rw [← hk95.2]; exact H94
        refine r_cons (s_callv [.pointer (some ⟨bk18, 0, none⟩)] [.int .i64 (putE (L ++ headB e ++ (e.attrs.take j2).flatMap attrB ++ textB (e.attrs.getD j2 default).name.v ++ lowB (e.attrs.getD j2 default).kind.v.toNat 2) ((textB ((e.attrs.getD j2 default).s.v)).length : Int)), .pointer (some ⟨bk18, 0, none⟩)] rfl pl_93 rfl rfl (form_put bk18 (putE (L ++ headB e ++ (e.attrs.take j2).flatMap attrB ++ textB (e.attrs.getD j2 default).name.v ++ lowB (e.attrs.getD j2 default).kind.v.toNat 2) ((textB ((e.attrs.getD j2 default).s.v)).length : Int)) hk95.1 (i := 1) rfl H97) ?_)
        rintro _ w98 ⟨rfl, H99⟩
        refine r_nil ?_
        refine g_inBlock ?_
        refine g_region ?_
        refine r_cons (s_add ((j2 : Int) + 1) rfl rfl (wi64 (by omega)) rfl ?_)
        refine r_cons (s_move (.int .i64 ((j2 : Int) + 1)) rfl rfl ?_)
        refine r_nil ?_
        have H100 : St W w98 (blk bk18 (.cells #[.bool true] 4 (0, 0)) :: blk bk15 (.cells #[.int .i64 e.src.v, .int .i64 e.seq.v, .int .i64 e.time.v, .string e.typ.v, .slice pA1 e.attrs.length cA2] 33 (0, 0)) :: SinkA b (L ++ headB e ++ (e.attrs.take j2).flatMap attrB ++ textB (e.attrs.getD j2 default).name.v ++ lowB (e.attrs.getD j2 default).kind.v.toNat 2 ++ textB (e.attrs.getD j2 default).s.v) :: Attrs (.slice pA1 e.attrs.length cA2) e.attrs :: imi (0 < e.attrs.length) gA3 (.cells kA5 eA6 zA7) :: (F.set i emp)) := ((((((H99.move 5 rfl).move 5 rfl).move 5 rfl).move 5 rfl).move 5 rfl).drop 5 rfl)
        have H101 : St W w98 (blk bk18 (.cells #[.bool true] 4 (0, 0)) :: blk bk15 (.cells #[.int .i64 e.src.v, .int .i64 e.seq.v, .int .i64 e.time.v, .string e.typ.v, .slice pA1 e.attrs.length cA2] 33 (0, 0)) :: SinkA b (L ++ headB e ++ (e.attrs.take (j2 + 1)).flatMap attrB) :: Attrs (.slice pA1 e.attrs.length cA2) e.attrs :: imi (0 < e.attrs.length) gA3 (.cells kA5 eA6 zA7) :: (F.set i emp)) := by rw [attrs_take (by omega), hAB]; simp only [List.append_assoc] at H100 ⊢; exact H100
        exact nx62 (j2 + 1) _ _ ⟨(by omega), H101⟩ (by first | (dsimp only; omega) | omega) ⟨by first | rfl | exact vint (by omega), by first | rfl | exact vint (by omega), by first | rfl | exact vint (by omega), by first | rfl | exact vint (by omega), by first | rfl | exact vint (by omega), by first | rfl | exact vint (by omega), by first | rfl | exact vint (by omega), trivial⟩
    · skip
      refine r_cons (s_lss false rfl rfl (dfalse hc63) rfl ?_)
      refine r_nil ?_
      refine g_seq ?_
      refine g_false rfl ?_
      refine g_exit (by rfl) ?_
      refine g_seq ?_
      refine g_region ?_
      refine r_cons (s_load (.bool true) ag_4 rfl (H61.blk_at (i := 0) rfl) rfl rfl ?_)
      refine r_cons (s_assign (.bool true) rfl rfl ?_)
      refine r_nil ?_
      refine g_ret' [.bool true] Try.func76 Try.results76 ⟨rfl, trivial⟩ ?_
      have H102 : St W w60 (SinkA b (L ++ headB e ++ (e.attrs.take j2).flatMap attrB) :: (F.set i emp)) := (((((H61.move 2 rfl).drop 1 rfl).drop 1 rfl).drop 1 rfl).drop 1 rfl)
      obtain rfl : j2 = e.attrs.length := by omega
      exact ⟨rfl, by rw [show L ++ formB e = L ++ headB e ++ (e.attrs.take e.attrs.length).flatMap attrB from by rw [List.take_length]; unfold formB; rw [List.append_assoc]]; exact St.back hi H102⟩
set_option maxHeartbeats 4000000 in
set_option maxRecDepth 100000 in
theorem event_Put {W w : World} {F : List Atom} (b : Nat) (L : List Bool) (e : EvM) (av : Value) (hb : L.length ≤ 1048576) {j : Nat} (hj : F[j]? = some (Attrs av e.attrs)) {i : Nat} (hi : F[i]? = some (SinkA b L)) (H : St W w F) : Calls Try.prog 39 #[.pointer (some ⟨b, 0, none⟩), .agg #[.int .i64 e.src.v, .int .i64 e.seq.v, .int .i64 e.time.v, .string e.typ.v, av]] w (Ret fun v w' => v = .int .i64 (evPutE L e) ∧ St W w' (F.set i (SinkA b (evPutL L e)))) := by
  obtain ⟨pA1, cA2, gA3, oA4, kA5, eA6, zA7, rfl, hn8, hp9, hx10, hs11, hml, H12⟩ := Im.open_ H hj
  have H13 := H12.dup (i := j + 1) (by exact hj) (Attrs_pers _ _)
  have H14 : St W w (SinkA b L :: Attrs (.slice pA1 e.attrs.length cA2) e.attrs :: imi (0 < e.attrs.length) gA3 (.cells kA5 eA6 zA7) :: F.set i emp) := H13.front (i := i + 2) (by exact hi)
  refine calls_of_go (n := 28) Try.func39 rfl Try.ntmps39 rfl ?_
  refine g_seq ?_
  refine g_region ?_
  refine r_cons (s_box H14 33 (.agg #[.int .i64 e.src.v, .int .i64 e.seq.v, .int .i64 e.time.v, .string e.typ.v, .slice pA1 e.attrs.length cA2]) rfl (cs := #[.int .i64 e.src.v, .int .i64 e.seq.v, .int .i64 e.time.v, .string e.typ.v, .slice pA1 e.attrs.length cA2]) rfl rfl ?_); intro bk15 w16 H17
  refine r_cons (s_assign (.int .i64 0) rfl rfl ?_)
  refine r_nil ?_
  refine g_seq ?_
  refine g_seq ?_
  refine g_region ?_
  refine r_cons (s_move (.pointer (some ⟨b, 0, none⟩)) rfl rfl ?_)
  have H18 := Row.im (Row.nil_intro H17 4 1) (i := 0) rfl
  refine r_cons (s_call [.pointer (some ⟨b, 0, none⟩), .slice none 0 0] pl_75 rfl rfl (Sink_Flags b L [] (.slice none 0 0) (by first | omega | (simp only [List.length_append, List.length_nil, lowB_len, natB_len]; omega) | (repeat (first | exact Nat.zero_le _ | assumption | refine putL_le ?_ | refine bitsL_le ?_ | refine evPutL_le ?_ | (simp only [List.length_append, List.length_nil, lowB_len, natB_len]; omega)))) (j := 0) rfl (i := 2) rfl H18) ?_)
  rintro _ w19 ⟨rfl, H20⟩
  have hfl : putL L [] = L := (putL_0 rfl (putE_0 (by simp only [List.length_nil]; omega))).trans (List.append_nil L)
  have H21 : St W w19 (Im 1 (.slice none 0 0) 0 [] :: blk bk15 (.cells #[.int .i64 e.src.v, .int .i64 e.seq.v, .int .i64 e.time.v, .string e.typ.v, .slice pA1 e.attrs.length cA2] 33 (0, 0)) :: SinkA b L :: Attrs (.slice pA1 e.attrs.length cA2) e.attrs :: imi (0 < e.attrs.length) gA3 (.cells kA5 eA6 zA7) :: (F.set i emp)) := by have hx := H20; rw [hfl] at hx; exact hx
  refine r_cons (s_neq false rfl rfl (ntrue (putE_0 (by simp only [List.length_nil]; omega))) rfl ?_)
  refine r_nil ?_
  refine g_false rfl ?_
  refine g_skip ?_
  refine g_seq ?_
  refine g_seq ?_
  refine g_region ?_
  refine r_cons (s_loadAgg [.int .i64 e.src.v, .int .i64 e.seq.v, .int .i64 e.time.v, .string e.typ.v, .slice pA1 e.attrs.length cA2] 5 ag_33 rfl (H21.blk_at (i := 1) rfl) (Nat.le_of_ble_eq_true rfl) rfl rfl ?_)
  refine r_cons (s_call [.agg #[.int .i64 e.src.v, .int .i64 e.seq.v, .int .i64 e.time.v, .string e.typ.v, .slice pA1 e.attrs.length cA2]] pl_17 rfl rfl (event_Check e (.slice pA1 e.attrs.length cA2) (j := 3) rfl H21) ?_)
  rintro _ w22 ⟨rfl, H23⟩
  refine r_cons (s_assign (.int .i64 (evE e)) rfl rfl ?_)
  refine r_nil ?_
  refine g_seq ?_
  refine g_region ?_
  refine r_cons (s_move (.int .i64 (evE e)) rfl rfl ?_)
  by_cases hc24 : evE e = 0
  · skip
    refine r_cons (s_neq false rfl rfl (ntrue hc24) rfl ?_)
    refine r_nil ?_
    refine g_false rfl ?_
    refine g_skip ?_
    refine g_seq ?_
    refine g_region ?_
    have hev : evE e = 0 := by assumption
    have hfle := formB_le hev
    refine r_cons (s_call [] pl_36 rfl rfl (NewSink H23) ?_)
    rintro _ w26 ⟨bk25, rfl, H27⟩
    refine r_cons (s_assign (.pointer (some ⟨bk25, 0, none⟩)) rfl rfl ?_)
    refine r_nil ?_
    refine g_seq ?_
    refine g_region ?_
    refine r_cons (s_move (.pointer (some ⟨bk25, 0, none⟩)) rfl rfl ?_)
    refine r_cons (s_loadAgg [.int .i64 e.src.v, .int .i64 e.seq.v, .int .i64 e.time.v, .string e.typ.v, .slice pA1 e.attrs.length cA2] 5 ag_33 rfl (H27.blk_at (i := 2) rfl) (Nat.le_of_ble_eq_true rfl) rfl rfl ?_)
    refine r_cons (s_call [.pointer (some ⟨bk25, 0, none⟩), .agg #[.int .i64 e.src.v, .int .i64 e.seq.v, .int .i64 e.time.v, .string e.typ.v, .slice pA1 e.attrs.length cA2]] pl_76 rfl rfl (event_form bk25 [] e (.slice pA1 e.attrs.length cA2) hev (by first | omega | (simp only [List.length_nil]; omega)) (j := 4) rfl (i := 0) rfl H27) ?_)
    rintro _ w28 ⟨rfl, H29⟩
    refine r_nil ?_
    refine g_seq ?_
    refine g_seq ?_
    refine g_region ?_
    refine r_cons (s_move (.pointer (some ⟨bk25, 0, none⟩)) rfl rfl ?_)
    refine r_cons (s_call [.pointer (some ⟨bk25, 0, none⟩)] pl_37 rfl rfl (Sink_Len bk25 ([] ++ formB e)   (i := 0) rfl H29) ?_)
    rintro _ w30 ⟨rfl, H31⟩
    refine r_cons (s_move (.pointer (some ⟨b, 0, none⟩)) rfl rfl ?_)
    refine r_cons (s_call [.pointer (some ⟨b, 0, none⟩)] pl_37 rfl rfl (Sink_Len b L   (i := 3) rfl H31) ?_)
    rintro _ w32 ⟨rfl, H33⟩
    have hol : (([] : List Bool) ++ formB e).length = (formB e).length := by rw [List.nil_append]
    refine r_cons (s_sub (1048576 - (L.length : Int)) rfl rfl (wi64 (by omega)) rfl ?_)
    by_cases hc34 : 1048576 - (L.length : Int) < (([] ++ formB e).length : Int)
    · skip
      refine r_cons (s_gtr true rfl rfl (dtrue hc34) rfl ?_)
      refine r_nil ?_
      refine g_true rfl ?_
      refine g_seq ?_
      refine g_region ?_
      refine r_cons (s_assign (.int .i64 3) rfl rfl ?_)
      refine r_nil ?_
      refine g_ret' [.int .i64 3] Try.func39 Try.results39 ⟨rfl, trivial⟩ ?_
      have H35 : St W w32 (SinkA b L :: (F.set i emp)) := ((((((H33.move 3 rfl).drop 1 rfl).drop 1 rfl).drop 1 rfl).drop 1 rfl).drop 1 rfl)
      obtain ⟨q1, q2⟩ := evPut_yes (L := L) hev
      have q3 : putE L ((formB e).length : Int) = 3 := putE_3 (by omega)
      exact ⟨vint (by rw [q1, q3]), by rw [q2, putL_no rfl (by rw [q3]; decide)]; exact St.back hi H35⟩
    · skip
      refine r_cons (s_gtr false rfl rfl (dfalse hc34) rfl ?_)
      refine r_nil ?_
      refine g_false rfl ?_
      refine g_skip ?_
      refine g_seq ?_
      refine g_region ?_
      refine r_cons (s_move (.pointer (some ⟨b, 0, none⟩)) rfl rfl ?_)
      refine r_cons (s_loadAgg [.int .i64 e.src.v, .int .i64 e.seq.v, .int .i64 e.time.v, .string e.typ.v, .slice pA1 e.attrs.length cA2] 5 ag_33 rfl (H33.blk_at (i := 2) rfl) (Nat.le_of_ble_eq_true rfl) rfl rfl ?_)
      refine r_cons (s_call [.pointer (some ⟨b, 0, none⟩), .agg #[.int .i64 e.src.v, .int .i64 e.seq.v, .int .i64 e.time.v, .string e.typ.v, .slice pA1 e.attrs.length cA2]] pl_76 rfl rfl (event_form b L e (.slice pA1 e.attrs.length cA2) hev (by first | omega | (simp only [List.length_nil]; omega)) (j := 4) rfl (i := 3) rfl H33) ?_)
      rintro _ w36 ⟨rfl, H37⟩
      refine r_nil ?_
      refine g_seq ?_
      refine g_region ?_
      refine r_cons (s_assign (.int .i64 0) rfl rfl ?_)
      refine r_nil ?_
      refine g_ret' [.int .i64 0] Try.func39 Try.results39 ⟨rfl, trivial⟩ ?_
      have H38 : St W w36 (SinkA b (L ++ formB e) :: (F.set i emp)) := ((((((H37.move 3 rfl).drop 1 rfl).drop 1 rfl).drop 1 rfl).drop 1 rfl).drop 1 rfl)
      obtain ⟨q1, q2⟩ := evPut_yes (L := L) hev
      obtain ⟨q3, q4⟩ := put_ok (L := L) (M := formB e) rfl (by omega)
      exact ⟨vint (by rw [q1, q3]), by rw [q2, q4]; exact St.back hi H38⟩
  · skip
    refine r_cons (s_neq true rfl rfl (nfalse hc24) rfl ?_)
    refine r_nil ?_
    refine g_true rfl ?_
    refine g_seq ?_
    refine g_region ?_
    refine r_cons (s_move (.int .i64 (evE e)) rfl rfl ?_)
    refine r_cons (s_assign (.int .i64 (evE e)) rfl rfl ?_)
    refine r_nil ?_
    refine g_ret' [.int .i64 (evE e)] Try.func39 Try.results39 ⟨rfl, trivial⟩ ?_
    have H39 : St W w22 (SinkA b L :: (F.set i emp)) := (((((H23.move 2 rfl).drop 1 rfl).drop 1 rfl).drop 1 rfl).drop 1 rfl)
    obtain ⟨q1, q2⟩ := evPut_no (L := L) (e := e) (by assumption)
    exact ⟨vint (by rw [q1]), by rw [q2]; exact St.back hi H39⟩
set_option maxHeartbeats 4000000 in
set_option maxRecDepth 100000 in
theorem event_Bytes {W w : World} {F : List Atom} (e : EvM) (av : Value) (hb : e.attrs.length * 48 ≤ 140737488355328) {j : Nat} (hj : F[j]? = some (Attrs av e.attrs)) (H : St W w F) : Calls Try.prog 41 #[.agg #[.int .i64 e.src.v, .int .i64 e.seq.v, .int .i64 e.time.v, .string e.typ.v, av]] w (Ret fun v w' => ∃ p n c, v = .tuple #[.slice p n c, .int .i64 (evE e)] ∧ n = (bytesE e).length ∧ St W w' (Row 5 1 (.slice p n c) n ((bytesE e).flatMap u8c) :: F)) := by
  obtain ⟨pA1, cA2, gA3, oA4, kA5, eA6, zA7, rfl, hn8, hp9, hx10, hs11, hml, H12⟩ := Im.open_ H hj
  have H13 := H12.dup (i := j + 1) (by exact hj) (Attrs_pers _ _)
  have H14 : St W w (Attrs (.slice pA1 e.attrs.length cA2) e.attrs :: imi (0 < e.attrs.length) gA3 (.cells kA5 eA6 zA7) :: F) := H13
  refine calls_of_go (n := 15) Try.func41 rfl Try.ntmps41 rfl ?_
  refine g_seq ?_
  refine g_region ?_
  refine r_cons (s_box H14 33 (.agg #[.int .i64 e.src.v, .int .i64 e.seq.v, .int .i64 e.time.v, .string e.typ.v, .slice pA1 e.attrs.length cA2]) rfl (cs := #[.int .i64 e.src.v, .int .i64 e.seq.v, .int .i64 e.time.v, .string e.typ.v, .slice pA1 e.attrs.length cA2]) rfl rfl ?_); intro bk15 w16 H17
  refine r_cons (s_assign (.slice none 0 0) rfl rfl ?_)
  refine r_cons (s_assign (.int .i64 0) rfl rfl ?_)
  refine r_nil ?_
  refine g_seq ?_
  refine g_region ?_
  refine r_cons (s_call [] pl_36 rfl rfl (NewSink H17) ?_)
  rintro _ w19 ⟨bk18, rfl, H20⟩
  refine r_cons (s_assign (.pointer (some ⟨bk18, 0, none⟩)) rfl rfl ?_)
  refine r_nil ?_
  refine g_seq ?_
  refine g_seq ?_
  refine g_region ?_
  refine r_cons (s_move (.pointer (some ⟨bk18, 0, none⟩)) rfl rfl ?_)
  refine r_cons (s_loadAgg [.int .i64 e.src.v, .int .i64 e.seq.v, .int .i64 e.time.v, .string e.typ.v, .slice pA1 e.attrs.length cA2] 5 ag_33 rfl (H20.blk_at (i := 1) rfl) (Nat.le_of_ble_eq_true rfl) rfl rfl ?_)
  refine r_cons (s_call [.pointer (some ⟨bk18, 0, none⟩), .agg #[.int .i64 e.src.v, .int .i64 e.seq.v, .int .i64 e.time.v, .string e.typ.v, .slice pA1 e.attrs.length cA2]] pl_39 rfl rfl (event_Put bk18 [] e (.slice pA1 e.attrs.length cA2) (by first | omega | (simp only [List.length_append, List.length_nil, lowB_len, natB_len]; omega) | (repeat (first | exact Nat.zero_le _ | assumption | refine putL_le ?_ | refine bitsL_le ?_ | refine evPutL_le ?_ | (simp only [List.length_append, List.length_nil, lowB_len, natB_len]; omega)))) (j := 2) rfl (i := 0) rfl H20) ?_)
  rintro _ w21 ⟨rfl, H22⟩
  refine r_cons (s_assign (.int .i64 (evPutE [] e)) rfl rfl ?_)
  refine r_nil ?_
  refine g_seq ?_
  refine g_region ?_
  refine r_cons (s_move (.int .i64 (evPutE [] e)) rfl rfl ?_)
  by_cases hc23 : evPutE [] e = 0
  · skip
    refine r_cons (s_neq false rfl rfl (ntrue hc23) rfl ?_)
    refine r_nil ?_
    refine g_false rfl ?_
    refine g_skip ?_
    refine g_seq ?_
    refine g_region ?_
    refine r_cons (s_move (.pointer (some ⟨bk18, 0, none⟩)) rfl rfl ?_)
    refine r_cons (s_call [.pointer (some ⟨bk18, 0, none⟩)] pl_45 rfl rfl (Sink_Out bk18 (evPutL [] e) (by first | omega | (simp only [List.length_append, List.length_nil, lowB_len, natB_len]; omega) | (repeat (first | exact Nat.zero_le _ | assumption | refine putL_le ?_ | refine bitsL_le ?_ | refine evPutL_le ?_ | (simp only [List.length_append, List.length_nil, lowB_len, natB_len]; omega)))) (i := 0) rfl H22) ?_)
    rintro _ w26 ⟨pp24, cc25, rfl, H27⟩
    refine r_cons (s_assign (.slice pp24 (((evPutL [] e).length + 7) / 8) cc25) rfl rfl ?_)
    refine r_cons (s_assign (.int .i64 0) rfl rfl ?_)
    refine r_nil ?_
    refine g_ret' [.slice pp24 (((evPutL [] e).length + 7) / 8) cc25, .int .i64 0] Try.func41 Try.results41 ⟨rfl, rfl, trivial⟩ ?_
    have H28 : St W w26 (Row 5 1 (.slice pp24 (((evPutL [] e).length + 7) / 8) cc25) (((evPutL [] e).length + 7) / 8) ((pk (evPutL [] e)).flatMap u8c) :: F) := ((((H27.drop 1 rfl).drop 1 rfl).drop 1 rfl).drop 1 rfl)
    have hyes : evE e = 0 := by rw [← evPut_nil]; assumption
    have H29 := bytesE_yes hyes
    have hpl : evPutL [] e = formB e := by rw [(evPut_yes hyes).2]; exact (put_ok rfl (by have := formB_le hyes; simp only [List.length_nil]; omega)).2
    refine ⟨_, _, _, by rw [hyes]; rfl, ?_, ?_⟩
    · rw [H29, pk_len, hpl]
    · rw [H29]; rw [← hpl]; exact H28
  · skip
    refine r_cons (s_neq true rfl rfl (nfalse hc23) rfl ?_)
    refine r_nil ?_
    refine g_true rfl ?_
    refine g_seq ?_
    refine g_region ?_
    refine r_cons (s_move (.int .i64 (evPutE [] e)) rfl rfl ?_)
    refine r_cons (s_assign (.slice none 0 0) rfl rfl ?_)
    refine r_cons (s_assign (.int .i64 (evPutE [] e)) rfl rfl ?_)
    refine r_nil ?_
    refine g_ret' [.slice none 0 0, .int .i64 (evPutE [] e)] Try.func41 Try.results41 ⟨rfl, rfl, trivial⟩ ?_
    have H30 := Row.nil_intro H22 5 1
    have H31 : St W w21 (Row 5 1 (.slice none 0 0) 0 [] :: F) := ((((H30.drop 1 rfl).drop 1 rfl).drop 1 rfl).drop 1 rfl)
    have hno : ¬ evE e = 0 := by rw [← evPut_nil]; assumption
    have H32 := bytesE_no hno
    exact ⟨none, 0, 0, by rw [evPut_nil]; rfl, by rw [H32]; rfl, by rw [H32]; exact H31⟩
set_option maxHeartbeats 4000000 in
set_option maxRecDepth 100000 in
theorem ev_keep {W w : World} {F : List Atom} (r b : Nat) (x y : Int) {i : Nat} (hi : F[i]? = some (blk r (.cells #[.pointer (some ⟨b, 0, none⟩), .int .i64 x] 126 (0, 0)))) (H : St W w F) : Calls Try.prog 102 #[.pointer (some ⟨r, 0, none⟩), .int .i64 y] w (Ret fun v w' => v = .tuple #[] ∧ St W w' (F.set i (blk r (.cells #[.pointer (some ⟨b, 0, none⟩), .int .i64 (if x = 0 then y else x)] 126 (0, 0))))) := by
  have H0 := H.front hi
  refine calls_of_go (n := 13) Try.func102 rfl Try.ntmps102 rfl ?_
  refine g_seq ?_
  refine g_region ?_
  refine r_cons (s_move (.pointer (some ⟨r, 0, none⟩)) rfl rfl ?_)
  refine r_cons (s_nilCheck (.pointer (some ⟨r, 0, none⟩)) rfl ⟨_, rfl⟩ rfl ?_)
  refine r_cons (s_fieldAddr 126 1 1 1 24 rfl fi_126_1 rfl rfl ?_)
  refine r_cons (s_load (.int .i64 x) ag_24 rfl (H0.blk_at (i := 0) rfl) rfl rfl ?_)
  by_cases hc1 : x = 0
  · skip
    refine r_cons (s_eql true rfl rfl (dtrue hc1) rfl ?_)
    refine r_nil ?_
    refine g_true rfl ?_
    refine g_region ?_
    refine r_cons (s_move (.pointer (some ⟨r, 0, none⟩)) rfl rfl ?_)
    refine r_cons (s_move (.int .i64 y) rfl rfl ?_)
    refine r_cons (s_nilCheck (.pointer (some ⟨r, 0, none⟩)) rfl ⟨_, rfl⟩ rfl ?_)
    refine r_cons (s_fieldAddr 126 1 1 1 24 rfl fi_126_1 rfl rfl ?_)
    refine r_cons (s_store H0 0 (.int .i64 y) rfl rfl rfl sz_24 rfl (Nat.le_of_ble_eq_true rfl) rfl (cs' := #[.pointer (some ⟨b, 0, none⟩), .int .i64 y]) rfl ?_); intro w2 H3
    refine r_nil ?_
    refine g_end' [] Try.func102 Try.results102 trivial ?_
    have H4 : St W w2 (blk r (.cells #[.pointer (some ⟨b, 0, none⟩), .int .i64 y] 126 (0, 0)) :: (F.set i emp)) := H3
    exact ⟨rfl, by rw [if_pos hc1]; exact St.back hi H4⟩
  · skip
    refine r_cons (s_eql false rfl rfl (dfalse hc1) rfl ?_)
    refine r_nil ?_
    refine g_false rfl ?_
    refine g_skip ?_
    refine g_end' [] Try.func102 Try.results102 trivial ?_
    have H5 : St W w (blk r (.cells #[.pointer (some ⟨b, 0, none⟩), .int .i64 x] 126 (0, 0)) :: (F.set i emp)) := H0
    exact ⟨rfl, by rw [if_neg hc1]; exact St.back hi H5⟩
set_option maxHeartbeats 4000000 in
set_option maxRecDepth 100000 in
theorem ev_bits {W w : World} {F : List Atom} (r b : Nat) (bs : List UInt8) (p : Nat) (X : RX) (hR : remB bs p = X.R) (hp : p ≤ 8 * bs.length) (hb : bs.length ≤ 140737488355328) (kk_ : Int) (hk : 0 ≤ kk_ ∧ kk_ ≤ 8) (H : St W w (blk r (.cells #[.pointer (some ⟨b, 0, none⟩), .int .i64 X.e] 126 (0, 0)) :: SrcA b bs p :: F)) : Calls Try.prog 99 #[.pointer (some ⟨r, 0, none⟩), .int .i64 kk_] w (Ret fun v w' => v = .int .i64 ((stB kk_ X).1 : Int) ∧ ∃ p', remB bs p' = ((stB kk_ X).2).R ∧ p' ≤ 8 * bs.length ∧ St W w' (blk r (.cells #[.pointer (some ⟨b, 0, none⟩), .int .i64 (((stB kk_ X).2).e)] 126 (0, 0)) :: SrcA b bs p' :: F)) := by
  have hxl : X.R.length ≤ 1125899906842624 := by rw [← hR, remB_len]; omega
  refine calls_of_go (n := 26) Try.func99 rfl Try.ntmps99 rfl ?_
  refine g_seq ?_
  refine g_region ?_
  refine r_cons (s_assign (.int .i64 0) rfl rfl ?_)
  refine r_nil ?_
  refine g_seq ?_
  refine g_seq ?_
  refine g_region ?_
  refine r_cons (s_move (.pointer (some ⟨r, 0, none⟩)) rfl rfl ?_)
  refine r_cons (s_nilCheck (.pointer (some ⟨r, 0, none⟩)) rfl ⟨_, rfl⟩ rfl ?_)
  refine r_cons (s_fieldAddr 126 1 1 1 24 rfl fi_126_1 rfl rfl ?_)
  refine r_cons (s_load (.int .i64 X.e) ag_24 rfl (H.blk_at (i := 0) rfl) rfl rfl ?_)
  by_cases hc1 : X.e = 0
  · skip
    refine r_cons (s_neq false rfl rfl (ntrue hc1) rfl ?_)
    refine r_nil ?_
    refine g_false rfl ?_
    refine g_skip ?_
    refine g_seq ?_
    refine g_region ?_
    refine r_cons (s_move (.pointer (some ⟨r, 0, none⟩)) rfl rfl ?_)
    refine r_cons (s_nilCheck (.pointer (some ⟨r, 0, none⟩)) rfl ⟨_, rfl⟩ rfl ?_)
    refine r_cons (s_fieldAddr 126 0 0 0 76 rfl fi_126_0 rfl rfl ?_)
    refine r_cons (s_load (.pointer (some ⟨b, 0, none⟩)) ag_76 rfl (H.blk_at (i := 0) rfl) rfl rfl ?_)
    refine r_cons (s_move (.int .i64 kk_) rfl rfl ?_)
    refine r_cons (s_call [.pointer (some ⟨b, 0, none⟩), .int .i64 kk_] pl_51 rfl rfl (Src_Bits b bs p (by first | omega | decide +kernel | (repeat (first | assumption | exact Nat.zero_le _ | refine natN_pos ?_ | refine srcN_pos ?_ | refine textN_pos ?_))) (by first | omega | decide +kernel) kk_  (i := 1) rfl H) ?_)
    rintro _ w2 ⟨rfl, H3⟩
    refine r_cons (s_move (.tuple #[.int .u64 (srcU (remB bs p) kk_ : Int), .int .i64 (srcE (remB bs p) kk_)]) rfl rfl ?_)
    refine r_cons (s_extract (.int .u64 (srcU (remB bs p) kk_ : Int)) #[.int .u64 (srcU (remB bs p) kk_ : Int), .int .i64 (srcE (remB bs p) kk_)] rfl rfl rfl ?_)
    refine r_cons (s_extract (.int .i64 (srcE (remB bs p) kk_)) #[.int .u64 (srcU (remB bs p) kk_ : Int), .int .i64 (srcE (remB bs p) kk_)] rfl rfl rfl ?_)
    refine r_cons (s_assign (.int .u64 (srcU (remB bs p) kk_ : Int)) rfl rfl ?_)
    refine r_cons (s_assign (.int .i64 (srcE (remB bs p) kk_)) rfl rfl ?_)
    refine r_nil ?_
    refine g_seq ?_
    refine g_region ?_
    refine r_cons (s_move (.pointer (some ⟨r, 0, none⟩)) rfl rfl ?_)
    refine r_cons (s_move (.int .i64 (srcE (remB bs p) kk_)) rfl rfl ?_)
    refine r_cons (s_call [.pointer (some ⟨r, 0, none⟩), .int .i64 (srcE (remB bs p) kk_)] pl_102 rfl rfl (ev_keep r b X.e (srcE (remB bs p) kk_) (i := 0) rfl H3) ?_)
    rintro _ w4 ⟨rfl, H5⟩
    refine r_nil ?_
    refine g_seq ?_
    refine g_region ?_
    have hlt := srcU_lt8 (R := remB bs p) hk
    refine r_cons (s_move (.int .u64 (srcU (remB bs p) kk_ : Int)) rfl rfl ?_)
    refine r_cons (s_conv (srcU (remB bs p) kk_ : Int) rfl us_62 ik_3 (wi64 (by omega)) rfl ?_)
    refine r_cons (s_assign (.int .i64 (srcU (remB bs p) kk_ : Int)) rfl rfl ?_)
    refine r_nil ?_
    refine g_ret' [.int .i64 (srcU (remB bs p) kk_ : Int)] Try.func99 Try.results99 ⟨rfl, trivial⟩ ?_
    have H6 : St W w4 (blk r (.cells #[.pointer (some ⟨b, 0, none⟩), .int .i64 (if X.e = 0 then srcE (remB bs p) kk_ else X.e)] 126 (0, 0)) :: SrcA b bs (p + srcN (remB bs p) kk_) :: F) := ((H5.move 1 rfl).move 1 rfl)
    have hx := H6
    rw [if_pos hc1] at hx
    rw [stB_yes hc1, ← hR]
    exact ⟨rfl, p + srcN (remB bs p) kk_, (remB_drop bs p _).symm, srcN_pos hp, hx⟩
  · skip
    refine r_cons (s_neq true rfl rfl (nfalse hc1) rfl ?_)
    refine r_nil ?_
    refine g_true rfl ?_
    refine g_seq ?_
    refine g_region ?_
    refine r_cons (s_assign (.int .i64 0) rfl rfl ?_)
    refine r_nil ?_
    refine g_ret' [.int .i64 0] Try.func99 Try.results99 ⟨rfl, trivial⟩ ?_
    have H7 : St W w (blk r (.cells #[.pointer (some ⟨b, 0, none⟩), .int .i64 X.e] 126 (0, 0)) :: SrcA b bs p :: F) := ((H.move 1 rfl).move 1 rfl)
    rw [stB_no hc1]
    exact ⟨rfl, p, hR, hp, H7⟩
set_option maxHeartbeats 4000000 in
set_option maxRecDepth 100000 in
theorem ev_nat {W w : World} {F : List Atom} (r b : Nat) (bs : List UInt8) (p : Nat) (X : RX) (hR : remB bs p = X.R) (hp : p ≤ 8 * bs.length) (hb : bs.length ≤ 140737488355328) (H : St W w (blk r (.cells #[.pointer (some ⟨b, 0, none⟩), .int .i64 X.e] 126 (0, 0)) :: SrcA b bs p :: F)) : Calls Try.prog 100 #[.pointer (some ⟨r, 0, none⟩)] w (Ret fun v w' => v = .int .i64 (tmN (stN X).1) ∧ ∃ p', remB bs p' = ((stN X).2).R ∧ p' ≤ 8 * bs.length ∧ St W w' (blk r (.cells #[.pointer (some ⟨b, 0, none⟩), .int .i64 (((stN X).2).e)] 126 (0, 0)) :: SrcA b bs p' :: F)) := by
  have hxl : X.R.length ≤ 1125899906842624 := by rw [← hR, remB_len]; omega
  refine calls_of_go (n := 25) Try.func100 rfl Try.ntmps100 rfl ?_
  refine g_seq ?_
  refine g_region ?_
  refine r_cons (s_assign (.int .i64 0) rfl rfl ?_)
  refine r_nil ?_
  refine g_seq ?_
  refine g_seq ?_
  refine g_region ?_
  refine r_cons (s_move (.pointer (some ⟨r, 0, none⟩)) rfl rfl ?_)
  refine r_cons (s_nilCheck (.pointer (some ⟨r, 0, none⟩)) rfl ⟨_, rfl⟩ rfl ?_)
  refine r_cons (s_fieldAddr 126 1 1 1 24 rfl fi_126_1 rfl rfl ?_)
  refine r_cons (s_load (.int .i64 X.e) ag_24 rfl (H.blk_at (i := 0) rfl) rfl rfl ?_)
  by_cases hc1 : X.e = 0
  · skip
    refine r_cons (s_neq false rfl rfl (ntrue hc1) rfl ?_)
    refine r_nil ?_
    refine g_false rfl ?_
    refine g_skip ?_
    refine g_seq ?_
    refine g_region ?_
    refine r_cons (s_move (.pointer (some ⟨r, 0, none⟩)) rfl rfl ?_)
    refine r_cons (s_nilCheck (.pointer (some ⟨r, 0, none⟩)) rfl ⟨_, rfl⟩ rfl ?_)
    refine r_cons (s_fieldAddr 126 0 0 0 76 rfl fi_126_0 rfl rfl ?_)
    refine r_cons (s_load (.pointer (some ⟨b, 0, none⟩)) ag_76 rfl (H.blk_at (i := 0) rfl) rfl rfl ?_)
    refine r_cons (s_call [.pointer (some ⟨b, 0, none⟩)] pl_110 rfl rfl (Src_Nat b bs p (by first | omega | decide +kernel | (repeat (first | assumption | exact Nat.zero_le _ | refine natN_pos ?_ | refine srcN_pos ?_ | refine textN_pos ?_))) (by first | omega | decide +kernel)   (i := 1) rfl H) ?_)
    rintro _ w2 ⟨rfl, H3⟩
    refine r_cons (s_move (.tuple #[.int .u64 (natU (remB bs p) : Int), .int .i64 (natE (remB bs p))]) rfl rfl ?_)
    refine r_cons (s_extract (.int .u64 (natU (remB bs p) : Int)) #[.int .u64 (natU (remB bs p) : Int), .int .i64 (natE (remB bs p))] rfl rfl rfl ?_)
    refine r_cons (s_extract (.int .i64 (natE (remB bs p))) #[.int .u64 (natU (remB bs p) : Int), .int .i64 (natE (remB bs p))] rfl rfl rfl ?_)
    refine r_cons (s_assign (.int .u64 (natU (remB bs p) : Int)) rfl rfl ?_)
    refine r_cons (s_assign (.int .i64 (natE (remB bs p))) rfl rfl ?_)
    refine r_nil ?_
    refine g_seq ?_
    refine g_region ?_
    refine r_cons (s_move (.pointer (some ⟨r, 0, none⟩)) rfl rfl ?_)
    refine r_cons (s_move (.int .i64 (natE (remB bs p))) rfl rfl ?_)
    refine r_cons (s_call [.pointer (some ⟨r, 0, none⟩), .int .i64 (natE (remB bs p))] pl_102 rfl rfl (ev_keep r b X.e (natE (remB bs p)) (i := 0) rfl H3) ?_)
    rintro _ w4 ⟨rfl, H5⟩
    refine r_nil ?_
    refine g_seq ?_
    refine g_seq ?_
    refine g_region ?_
    refine r_cons (s_move (.int .u64 (natU (remB bs p) : Int)) rfl rfl ?_)
    by_cases hc6 : (1099511627776 : Int) < (natU (remB bs p) : Int)
    · skip
      refine r_cons (s_gtr true rfl rfl (dtrue hc6) rfl ?_)
      refine r_nil ?_
      refine g_true rfl ?_
      refine g_seq ?_
      refine g_region ?_
      refine r_cons (s_assign (.int .i64 (-1)) rfl rfl ?_)
      refine r_nil ?_
      refine g_ret' [.int .i64 (-1)] Try.func100 Try.results100 ⟨rfl, trivial⟩ ?_
      have H7 : St W w4 (blk r (.cells #[.pointer (some ⟨b, 0, none⟩), .int .i64 (if X.e = 0 then natE (remB bs p) else X.e)] 126 (0, 0)) :: SrcA b bs (p + natN (remB bs p)) :: F) := ((H5.move 1 rfl).move 1 rfl)
      have hx := H7
      rw [if_pos hc1] at hx
      rw [stN_yes hc1, ← hR]
      exact ⟨vint (by unfold tmN; first | (rw [if_pos (by omega)]; done) | (rw [if_neg (by omega)]; done)), p + natN (remB bs p), (remB_drop bs p _).symm, natN_pos hp, hx⟩
    · skip
      refine r_cons (s_gtr false rfl rfl (dfalse hc6) rfl ?_)
      refine r_nil ?_
      refine g_false rfl ?_
      refine g_skip ?_
      refine g_seq ?_
      refine g_region ?_
      refine r_cons (s_move (.int .u64 (natU (remB bs p) : Int)) rfl rfl ?_)
      refine r_cons (s_conv (natU (remB bs p) : Int) rfl us_62 ik_2 (wi64 (by omega)) rfl ?_)
      refine r_cons (s_assign (.int .i64 (natU (remB bs p) : Int)) rfl rfl ?_)
      refine r_nil ?_
      refine g_ret' [.int .i64 (natU (remB bs p) : Int)] Try.func100 Try.results100 ⟨rfl, trivial⟩ ?_
      have H8 : St W w4 (blk r (.cells #[.pointer (some ⟨b, 0, none⟩), .int .i64 (if X.e = 0 then natE (remB bs p) else X.e)] 126 (0, 0)) :: SrcA b bs (p + natN (remB bs p)) :: F) := ((H5.move 1 rfl).move 1 rfl)
      have hx := H8
      rw [if_pos hc1] at hx
      rw [stN_yes hc1, ← hR]
      exact ⟨vint (by unfold tmN; first | (rw [if_pos (by omega)]; done) | (rw [if_neg (by omega)]; done)), p + natN (remB bs p), (remB_drop bs p _).symm, natN_pos hp, hx⟩
  · skip
    refine r_cons (s_neq true rfl rfl (nfalse hc1) rfl ?_)
    refine r_nil ?_
    refine g_true rfl ?_
    refine g_seq ?_
    refine g_region ?_
    refine r_cons (s_assign (.int .i64 0) rfl rfl ?_)
    refine r_nil ?_
    refine g_ret' [.int .i64 0] Try.func100 Try.results100 ⟨rfl, trivial⟩ ?_
    have H9 : St W w (blk r (.cells #[.pointer (some ⟨b, 0, none⟩), .int .i64 X.e] 126 (0, 0)) :: SrcA b bs p :: F) := ((H.move 1 rfl).move 1 rfl)
    rw [stN_no hc1]
    exact ⟨vint (by exact (show tmN 0 = 0 from rfl).symm), p, hR, hp, H9⟩
set_option maxHeartbeats 4000000 in
set_option maxRecDepth 100000 in
theorem ev_text {W w : World} {F : List Atom} (r b : Nat) (bs : List UInt8) (p : Nat) (X : RX) (hR : remB bs p = X.R) (hp : p ≤ 8 * bs.length) (hb : bs.length ≤ 140737488355328) (H : St W w (blk r (.cells #[.pointer (some ⟨b, 0, none⟩), .int .i64 X.e] 126 (0, 0)) :: SrcA b bs p :: F)) : Calls Try.prog 101 #[.pointer (some ⟨r, 0, none⟩)] w (Ret fun v w' => v = .string ((stT X).1) ∧ ∃ p', remB bs p' = ((stT X).2).R ∧ p' ≤ 8 * bs.length ∧ St W w' (blk r (.cells #[.pointer (some ⟨b, 0, none⟩), .int .i64 (((stT X).2).e)] 126 (0, 0)) :: SrcA b bs p' :: F)) := by
  have hxl : X.R.length ≤ 1125899906842624 := by rw [← hR, remB_len]; omega
  refine calls_of_go (n := 22) Try.func101 rfl Try.ntmps101 rfl ?_
  refine g_seq ?_
  refine g_region ?_
  refine r_cons (s_assign (.string ByteArray.empty) rfl rfl ?_)
  refine r_nil ?_
  refine g_seq ?_
  refine g_seq ?_
  refine g_region ?_
  refine r_cons (s_move (.pointer (some ⟨r, 0, none⟩)) rfl rfl ?_)
  refine r_cons (s_nilCheck (.pointer (some ⟨r, 0, none⟩)) rfl ⟨_, rfl⟩ rfl ?_)
  refine r_cons (s_fieldAddr 126 1 1 1 24 rfl fi_126_1 rfl rfl ?_)
  refine r_cons (s_load (.int .i64 X.e) ag_24 rfl (H.blk_at (i := 0) rfl) rfl rfl ?_)
  by_cases hc1 : X.e = 0
  · skip
    refine r_cons (s_neq false rfl rfl (ntrue hc1) rfl ?_)
    refine r_nil ?_
    refine g_false rfl ?_
    refine g_skip ?_
    refine g_seq ?_
    refine g_region ?_
    refine r_cons (s_move (.pointer (some ⟨r, 0, none⟩)) rfl rfl ?_)
    refine r_cons (s_nilCheck (.pointer (some ⟨r, 0, none⟩)) rfl ⟨_, rfl⟩ rfl ?_)
    refine r_cons (s_fieldAddr 126 0 0 0 76 rfl fi_126_0 rfl rfl ?_)
    refine r_cons (s_load (.pointer (some ⟨b, 0, none⟩)) ag_76 rfl (H.blk_at (i := 0) rfl) rfl rfl ?_)
    refine r_cons (s_call [.pointer (some ⟨b, 0, none⟩)] pl_111 rfl rfl (Src_Text b bs p (by first | omega | decide +kernel | (repeat (first | assumption | exact Nat.zero_le _ | refine natN_pos ?_ | refine srcN_pos ?_ | refine textN_pos ?_))) (by first | omega | decide +kernel) (i := 1) rfl H) ?_)
    rintro _ w2 ⟨rfl, H3⟩
    refine r_cons (s_move (.tuple #[.string (textS (remB bs p)), .int .i64 (textE (remB bs p))]) rfl rfl ?_)
    refine r_cons (s_extract (.string (textS (remB bs p))) #[.string (textS (remB bs p)), .int .i64 (textE (remB bs p))] rfl rfl rfl ?_)
    refine r_cons (s_extract (.int .i64 (textE (remB bs p))) #[.string (textS (remB bs p)), .int .i64 (textE (remB bs p))] rfl rfl rfl ?_)
    refine r_cons (s_assign (.string (textS (remB bs p))) rfl rfl ?_)
    refine r_cons (s_assign (.int .i64 (textE (remB bs p))) rfl rfl ?_)
    refine r_nil ?_
    refine g_seq ?_
    refine g_region ?_
    refine r_cons (s_move (.pointer (some ⟨r, 0, none⟩)) rfl rfl ?_)
    refine r_cons (s_move (.int .i64 (textE (remB bs p))) rfl rfl ?_)
    refine r_cons (s_call [.pointer (some ⟨r, 0, none⟩), .int .i64 (textE (remB bs p))] pl_102 rfl rfl (ev_keep r b X.e (textE (remB bs p)) (i := 0) rfl H3) ?_)
    rintro _ w4 ⟨rfl, H5⟩
    refine r_nil ?_
    refine g_seq ?_
    refine g_region ?_
    refine r_cons (s_move (.string (textS (remB bs p))) rfl rfl ?_)
    refine r_cons (s_assign (.string (textS (remB bs p))) rfl rfl ?_)
    refine r_nil ?_
    refine g_ret' [.string (textS (remB bs p))] Try.func101 Try.results101 ⟨rfl, trivial⟩ ?_
    have H6 : St W w4 (blk r (.cells #[.pointer (some ⟨b, 0, none⟩), .int .i64 (if X.e = 0 then textE (remB bs p) else X.e)] 126 (0, 0)) :: SrcA b bs (p + textN (remB bs p)) :: F) := ((H5.move 1 rfl).move 1 rfl)
    have hx := H6
    rw [if_pos hc1] at hx
    rw [stT_yes hc1, ← hR]
    exact ⟨rfl, p + textN (remB bs p), (remB_drop bs p _).symm, textN_pos hp, hx⟩
  · skip
    refine r_cons (s_neq true rfl rfl (nfalse hc1) rfl ?_)
    refine r_nil ?_
    refine g_true rfl ?_
    refine g_seq ?_
    refine g_region ?_
    refine r_cons (s_assign (.string ByteArray.empty) rfl rfl ?_)
    refine r_nil ?_
    refine g_ret' [.string ByteArray.empty] Try.func101 Try.results101 ⟨rfl, trivial⟩ ?_
    have H7 : St W w (blk r (.cells #[.pointer (some ⟨b, 0, none⟩), .int .i64 X.e] 126 (0, 0)) :: SrcA b bs p :: F) := ((H.move 1 rfl).move 1 rfl)
    rw [stT_no hc1]
    exact ⟨rfl, p, hR, hp, H7⟩
set_option maxHeartbeats 4000000 in
set_option maxRecDepth 100000 in
theorem ev_num {W w : World} {F : List Atom} (r b : Nat) (bs : List UInt8) (p : Nat) (X : RX) (hR : remB bs p = X.R) (hp : p ≤ 8 * bs.length) (hb : bs.length ≤ 140737488355328) (H : St W w (blk r (.cells #[.pointer (some ⟨b, 0, none⟩), .int .i64 X.e] 126 (0, 0)) :: SrcA b bs p :: F)) : Calls Try.prog 112 #[.pointer (some ⟨r, 0, none⟩)] w (Ret fun v w' => v = .int .i64 (zagN (stN X).1) ∧ ∃ p', remB bs p' = ((stN X).2).R ∧ p' ≤ 8 * bs.length ∧ St W w' (blk r (.cells #[.pointer (some ⟨b, 0, none⟩), .int .i64 (((stN X).2).e)] 126 (0, 0)) :: SrcA b bs p' :: F)) := by
  have hxl : X.R.length ≤ 1125899906842624 := by rw [← hR, remB_len]; omega
  refine calls_of_go (n := 22) Try.func112 rfl Try.ntmps112 rfl ?_
  refine g_seq ?_
  refine g_region ?_
  refine r_cons (s_assign (.int .i64 0) rfl rfl ?_)
  refine r_nil ?_
  refine g_seq ?_
  refine g_seq ?_
  refine g_region ?_
  refine r_cons (s_move (.pointer (some ⟨r, 0, none⟩)) rfl rfl ?_)
  refine r_cons (s_nilCheck (.pointer (some ⟨r, 0, none⟩)) rfl ⟨_, rfl⟩ rfl ?_)
  refine r_cons (s_fieldAddr 126 1 1 1 24 rfl fi_126_1 rfl rfl ?_)
  refine r_cons (s_load (.int .i64 X.e) ag_24 rfl (H.blk_at (i := 0) rfl) rfl rfl ?_)
  by_cases hc1 : X.e = 0
  · skip
    refine r_cons (s_neq false rfl rfl (ntrue hc1) rfl ?_)
    refine r_nil ?_
    refine g_false rfl ?_
    refine g_skip ?_
    refine g_seq ?_
    refine g_region ?_
    refine r_cons (s_move (.pointer (some ⟨r, 0, none⟩)) rfl rfl ?_)
    refine r_cons (s_nilCheck (.pointer (some ⟨r, 0, none⟩)) rfl ⟨_, rfl⟩ rfl ?_)
    refine r_cons (s_fieldAddr 126 0 0 0 76 rfl fi_126_0 rfl rfl ?_)
    refine r_cons (s_load (.pointer (some ⟨b, 0, none⟩)) ag_76 rfl (H.blk_at (i := 0) rfl) rfl rfl ?_)
    refine r_cons (s_call [.pointer (some ⟨b, 0, none⟩)] pl_117 rfl rfl (Src_Num b bs p (by first | omega | decide +kernel | (repeat (first | assumption | exact Nat.zero_le _ | refine natN_pos ?_ | refine srcN_pos ?_ | refine textN_pos ?_))) (by first | omega | decide +kernel)   (i := 1) rfl H) ?_)
    rintro _ w2 ⟨rfl, H3⟩
    refine r_cons (s_move (.tuple #[.int .i64 (zagN (natU (remB bs p))), .int .i64 (natE (remB bs p))]) rfl rfl ?_)
    refine r_cons (s_extract (.int .i64 (zagN (natU (remB bs p)))) #[.int .i64 (zagN (natU (remB bs p))), .int .i64 (natE (remB bs p))] rfl rfl rfl ?_)
    refine r_cons (s_extract (.int .i64 (natE (remB bs p))) #[.int .i64 (zagN (natU (remB bs p))), .int .i64 (natE (remB bs p))] rfl rfl rfl ?_)
    refine r_cons (s_assign (.int .i64 (zagN (natU (remB bs p)))) rfl rfl ?_)
    refine r_cons (s_assign (.int .i64 (natE (remB bs p))) rfl rfl ?_)
    refine r_nil ?_
    refine g_seq ?_
    refine g_region ?_
    refine r_cons (s_move (.pointer (some ⟨r, 0, none⟩)) rfl rfl ?_)
    refine r_cons (s_move (.int .i64 (natE (remB bs p))) rfl rfl ?_)
    refine r_cons (s_call [.pointer (some ⟨r, 0, none⟩), .int .i64 (natE (remB bs p))] pl_102 rfl rfl (ev_keep r b X.e (natE (remB bs p)) (i := 0) rfl H3) ?_)
    rintro _ w4 ⟨rfl, H5⟩
    refine r_nil ?_
    refine g_seq ?_
    refine g_region ?_
    refine r_cons (s_move (.int .i64 (zagN (natU (remB bs p)))) rfl rfl ?_)
    refine r_cons (s_assign (.int .i64 (zagN (natU (remB bs p)))) rfl rfl ?_)
    refine r_nil ?_
    refine g_ret' [.int .i64 (zagN (natU (remB bs p)))] Try.func112 Try.results112 ⟨rfl, trivial⟩ ?_
    have H6 : St W w4 (blk r (.cells #[.pointer (some ⟨b, 0, none⟩), .int .i64 (if X.e = 0 then natE (remB bs p) else X.e)] 126 (0, 0)) :: SrcA b bs (p + natN (remB bs p)) :: F) := ((H5.move 1 rfl).move 1 rfl)
    have hx := H6
    rw [if_pos hc1] at hx
    rw [stN_yes hc1, ← hR]
    exact ⟨rfl, p + natN (remB bs p), (remB_drop bs p _).symm, natN_pos hp, hx⟩
  · skip
    refine r_cons (s_neq true rfl rfl (nfalse hc1) rfl ?_)
    refine r_nil ?_
    refine g_true rfl ?_
    refine g_seq ?_
    refine g_region ?_
    refine r_cons (s_assign (.int .i64 0) rfl rfl ?_)
    refine r_nil ?_
    refine g_ret' [.int .i64 0] Try.func112 Try.results112 ⟨rfl, trivial⟩ ?_
    have H7 : St W w (blk r (.cells #[.pointer (some ⟨b, 0, none⟩), .int .i64 X.e] 126 (0, 0)) :: SrcA b bs p :: F) := ((H.move 1 rfl).move 1 rfl)
    rw [stN_no hc1]
    exact ⟨vint (by exact (show zagN 0 = 0 from rfl).symm), p, hR, hp, H7⟩
set_option maxHeartbeats 4000000 in
set_option maxRecDepth 100000 in
theorem ev_attr {W w : World} {F : List Atom} (r b : Nat) (bs : List UInt8) (p : Nat) (X : RX) (hR : remB bs p = X.R) (hp : p ≤ 8 * bs.length) (hb : bs.length ≤ 140737488355328) (H : St W w (blk r (.cells #[.pointer (some ⟨b, 0, none⟩), .int .i64 X.e] 126 (0, 0)) :: SrcA b bs p :: F)) : Calls Try.prog 103 #[.pointer (some ⟨r, 0, none⟩)] w (Ret fun v w' => v = .agg #[.string ((stA X).1.name.v), .int .i64 ((stA X).1.kind.v), .int .i64 ((stA X).1.n.v), .string ((stA X).1.s.v)] ∧ ∃ p', remB bs p' = ((stA X).2).R ∧ p' ≤ 8 * bs.length ∧ St W w' (blk r (.cells #[.pointer (some ⟨b, 0, none⟩), .int .i64 (((stA X).2).e)] 126 (0, 0)) :: SrcA b bs p' :: F)) := by
  have hxl : X.R.length ≤ 1125899906842624 := by rw [← hR, remB_len]; omega
  refine calls_of_go (n := 29) Try.func103 rfl Try.ntmps103 rfl ?_
  refine g_seq ?_
  refine g_region ?_
  refine r_cons (s_alloc H 91 ze_91 rfl ?_); intro bk1 w2 H3
  refine r_nil ?_
  refine g_seq ?_
  refine g_region ?_
  refine r_cons (s_move (.pointer (some ⟨r, 0, none⟩)) rfl rfl ?_)
  have H4 : St W w2 (blk r (.cells #[.pointer (some ⟨b, 0, none⟩), .int .i64 X.e] 126 (0, 0)) :: SrcA b bs p :: blk bk1 (.cells #[.string ByteArray.empty, .int .i64 0, .int .i64 0, .string ByteArray.empty] 91 (0, 0)) :: F) := ((H3.move 2 rfl).move 2 rfl)
  refine r_cons (s_call [.pointer (some ⟨r, 0, none⟩)] pl_101 rfl rfl (ev_text r b bs p X hR hp (by omega)  H4) ?_)
  rintro _ w8 ⟨rfl, q5, hR6, hp7, H9⟩
  refine r_cons (s_build (cs := #[.string ((stT X).1), .int .i64 0, .int .i64 0, .string ByteArray.empty]) (by kernel_rfl) rfl ?_)
  refine r_cons (s_alloc H9 91 ze_91 rfl ?_); intro bk10 w11 H12
  refine r_cons (s_storeAgg H12 0 #[.string ((stT X).1), .int .i64 0, .int .i64 0, .string ByteArray.empty] 4 rfl rfl rfl sz_91 rfl (by simp [Value.oneCell']) (Nat.le_of_ble_eq_true rfl) (fun o h1 h2 => by first | (simp; done) | (simp; omega)) (cs' := #[.string ((stT X).1), .int .i64 0, .int .i64 0, .string ByteArray.empty]) rfl ?_); intro w13 H14
  refine r_nil ?_
  refine g_seq ?_
  refine g_seq ?_
  refine g_region ?_
  refine r_cons (s_move (.pointer (some ⟨r, 0, none⟩)) rfl rfl ?_)
  have H15 : St W w13 (blk r (.cells #[.pointer (some ⟨b, 0, none⟩), .int .i64 ((stT X).2.e)] 126 (0, 0)) :: SrcA b bs q5 :: blk bk10 (.cells #[.string ((stT X).1), .int .i64 0, .int .i64 0, .string ByteArray.empty] 91 (0, 0)) :: blk bk1 (.cells #[.string ByteArray.empty, .int .i64 0, .int .i64 0, .string ByteArray.empty] 91 (0, 0)) :: F) := ((((H14.move 3 rfl).move 1 rfl).move 3 rfl).move 3 rfl)
  refine r_cons (s_call [.pointer (some ⟨r, 0, none⟩), .int .i64 2] pl_99 rfl rfl (ev_bits r b bs q5 ((stT X).2) hR6 hp7 (by omega) 2 (by decide) H15) ?_)
  rintro _ w19 ⟨rfl, q16, hR17, hp18, H20⟩
  refine r_cons (s_fieldAddr 91 1 1 1 89 rfl fi_91_1 rfl rfl ?_)
  refine r_cons (s_fieldAddr 89 0 0 1 3 rfl fi_89_0 rfl rfl ?_)
  refine r_cons (s_store H20 2 (.int .i64 ((stB 2 ((stT X).2)).1 : Int)) rfl rfl rfl sz_3 rfl (Nat.le_of_ble_eq_true rfl) rfl (cs' := #[.string ((stT X).1), .int .i64 ((stB 2 ((stT X).2)).1 : Int), .int .i64 0, .string ByteArray.empty]) rfl ?_); intro w21 H22
  refine r_nil ?_
  refine g_seq ?_
  refine g_region ?_
  refine r_cons (s_fieldAddr 91 1 1 1 89 rfl fi_91_1 rfl rfl ?_)
  refine r_cons (s_fieldAddr 89 0 0 1 3 rfl fi_89_0 rfl rfl ?_)
  refine r_cons (s_load (.int .i64 ((stB 2 ((stT X).2)).1 : Int)) ag_3 rfl (H22.blk_at (i := 2) rfl) rfl rfl ?_)
  refine r_nil ?_
  refine g_block ?_
  refine g_seq ?_
  refine g_region ?_
  by_cases hc23 : ((stB 2 ((stT X).2)).1 : Int) = 1
  · skip
    refine r_cons (s_eql true rfl rfl (dtrue hc23) rfl ?_)
    refine r_cons (s_assign (.bool true) rfl rfl ?_)
    refine r_nil ?_
    refine g_true rfl ?_
    refine g_region ?_
    refine r_cons (s_move (.pointer (some ⟨r, 0, none⟩)) rfl rfl ?_)
    have H24 : St W w21 (blk r (.cells #[.pointer (some ⟨b, 0, none⟩), .int .i64 ((stB 2 ((stT X).2)).2.e)] 126 (0, 0)) :: SrcA b bs q16 :: blk bk10 (.cells #[.string ((stT X).1), .int .i64 ((stB 2 ((stT X).2)).1 : Int), .int .i64 0, .string ByteArray.empty] 91 (0, 0)) :: blk bk1 (.cells #[.string ByteArray.empty, .int .i64 0, .int .i64 0, .string ByteArray.empty] 91 (0, 0)) :: F) := ((((H22.move 3 rfl).move 3 rfl).move 3 rfl).move 3 rfl)
    refine r_cons (s_call [.pointer (some ⟨r, 0, none⟩)] pl_112 rfl rfl (ev_num r b bs q16 ((stB 2 ((stT X).2)).2) hR17 hp18 (by omega)  H24) ?_)
    rintro _ w28 ⟨rfl, q25, hR26, hp27, H29⟩
    refine r_cons (s_fieldAddr 91 1 1 1 89 rfl fi_91_1 rfl rfl ?_)
    refine r_cons (s_fieldAddr 89 1 1 2 2 rfl fi_89_1 rfl rfl ?_)
    refine r_cons (s_store H29 2 (.int .i64 (zagN (stN ((stB 2 ((stT X).2)).2)).1)) rfl rfl rfl sz_2 rfl (Nat.le_of_ble_eq_true rfl) rfl (cs' := #[.string ((stT X).1), .int .i64 ((stB 2 ((stT X).2)).1 : Int), .int .i64 (zagN (stN ((stB 2 ((stT X).2)).2)).1), .string ByteArray.empty]) rfl ?_); intro w30 H31
    refine r_nil ?_
    refine g_inBlock ?_
    refine g_seq ?_
    refine g_region ?_
    refine r_cons (s_loadAgg [.string ((stT X).1), .int .i64 ((stB 2 ((stT X).2)).1 : Int), .int .i64 (zagN (stN ((stB 2 ((stT X).2)).2)).1), .string ByteArray.empty] 4 ag_91 rfl (H31.blk_at (i := 2) rfl) (Nat.le_of_ble_eq_true rfl) rfl rfl ?_)
    refine r_cons (s_storeAgg H31 3 #[.string ((stT X).1), .int .i64 ((stB 2 ((stT X).2)).1 : Int), .int .i64 (zagN (stN ((stB 2 ((stT X).2)).2)).1), .string ByteArray.empty] 4 rfl rfl rfl sz_91 rfl (by simp [Value.oneCell']) (Nat.le_of_ble_eq_true rfl) (fun o h1 h2 => by first | (simp; done) | (simp; omega)) (cs' := #[.string ((stT X).1), .int .i64 ((stB 2 ((stT X).2)).1 : Int), .int .i64 (zagN (stN ((stB 2 ((stT X).2)).2)).1), .string ByteArray.empty]) rfl ?_); intro w32 H33
    refine r_nil ?_
    refine g_ret' [.agg #[.string ((stT X).1), .int .i64 ((stB 2 ((stT X).2)).1 : Int), .int .i64 (zagN (stN ((stB 2 ((stT X).2)).2)).1), .string ByteArray.empty]] Try.func103 Try.results103 ⟨(res_cellN rfl ag_91 (H33.blk_at (i := 3) rfl) (Nat.le_of_ble_eq_true rfl) rfl), trivial⟩ ?_
    have H34 : St W w32 (blk r (.cells #[.pointer (some ⟨b, 0, none⟩), .int .i64 ((stN ((stB 2 ((stT X).2)).2)).2.e)] 126 (0, 0)) :: SrcA b bs q25 :: F) := ((((H33.move 1 rfl).move 1 rfl).drop 2 rfl).drop 2 rfl)
    have hk : (stB 2 (stT X).2).1 = 1 := by omega
    have hV := stV_1 (X := (stT X).2) hk
    obtain ⟨c1, c2, c3, c4⟩ := stA_cells (X := X) hxl
    have hA2 : (stA X).2 = (stN ((stB 2 ((stT X).2)).2)).2 := by show (stV (stT X).2).2 = _; rw [hV]
    exact ⟨by rw [c1, c2, c3, c4, hV, hk]; rfl, _, by rw [hA2]; exact hR26, hp27, by rw [hA2]; exact H34⟩
  · skip
    refine r_cons (s_eql false rfl rfl (dfalse hc23) rfl ?_)
    refine r_cons (s_assign (.bool false) rfl rfl ?_)
    refine r_nil ?_
    refine g_false rfl ?_
    refine g_seq ?_
    refine g_region ?_
    by_cases hc35 : ((stB 2 ((stT X).2)).1 : Int) = 2
    · skip
      refine r_cons (s_eql true rfl rfl (dtrue hc35) rfl ?_)
      refine r_cons (s_assign (.bool true) rfl rfl ?_)
      refine r_nil ?_
      refine g_true rfl ?_
      refine g_region ?_
      refine r_cons (s_move (.pointer (some ⟨r, 0, none⟩)) rfl rfl ?_)
      have H36 : St W w21 (blk r (.cells #[.pointer (some ⟨b, 0, none⟩), .int .i64 ((stB 2 ((stT X).2)).2.e)] 126 (0, 0)) :: SrcA b bs q16 :: blk bk10 (.cells #[.string ((stT X).1), .int .i64 ((stB 2 ((stT X).2)).1 : Int), .int .i64 0, .string ByteArray.empty] 91 (0, 0)) :: blk bk1 (.cells #[.string ByteArray.empty, .int .i64 0, .int .i64 0, .string ByteArray.empty] 91 (0, 0)) :: F) := ((((H22.move 3 rfl).move 3 rfl).move 3 rfl).move 3 rfl)
      refine r_cons (s_call [.pointer (some ⟨r, 0, none⟩)] pl_101 rfl rfl (ev_text r b bs q16 ((stB 2 ((stT X).2)).2) hR17 hp18 (by omega)  H36) ?_)
      rintro _ w40 ⟨rfl, q37, hR38, hp39, H41⟩
      refine r_cons (s_fieldAddr 91 1 1 1 89 rfl fi_91_1 rfl rfl ?_)
      refine r_cons (s_fieldAddr 89 2 2 3 9 rfl fi_89_2 rfl rfl ?_)
      refine r_cons (s_store H41 2 (.string ((stT ((stB 2 ((stT X).2)).2)).1)) rfl rfl rfl sz_9 rfl (Nat.le_of_ble_eq_true rfl) rfl (cs' := #[.string ((stT X).1), .int .i64 ((stB 2 ((stT X).2)).1 : Int), .int .i64 0, .string ((stT ((stB 2 ((stT X).2)).2)).1)]) rfl ?_); intro w42 H43
      refine r_nil ?_
      refine g_inBlock ?_
      refine g_seq ?_
      refine g_region ?_
      refine r_cons (s_loadAgg [.string ((stT X).1), .int .i64 ((stB 2 ((stT X).2)).1 : Int), .int .i64 0, .string ((stT ((stB 2 ((stT X).2)).2)).1)] 4 ag_91 rfl (H43.blk_at (i := 2) rfl) (Nat.le_of_ble_eq_true rfl) rfl rfl ?_)
      refine r_cons (s_storeAgg H43 3 #[.string ((stT X).1), .int .i64 ((stB 2 ((stT X).2)).1 : Int), .int .i64 0, .string ((stT ((stB 2 ((stT X).2)).2)).1)] 4 rfl rfl rfl sz_91 rfl (by simp [Value.oneCell']) (Nat.le_of_ble_eq_true rfl) (fun o h1 h2 => by first | (simp; done) | (simp; omega)) (cs' := #[.string ((stT X).1), .int .i64 ((stB 2 ((stT X).2)).1 : Int), .int .i64 0, .string ((stT ((stB 2 ((stT X).2)).2)).1)]) rfl ?_); intro w44 H45
      refine r_nil ?_
      refine g_ret' [.agg #[.string ((stT X).1), .int .i64 ((stB 2 ((stT X).2)).1 : Int), .int .i64 0, .string ((stT ((stB 2 ((stT X).2)).2)).1)]] Try.func103 Try.results103 ⟨(res_cellN rfl ag_91 (H45.blk_at (i := 3) rfl) (Nat.le_of_ble_eq_true rfl) rfl), trivial⟩ ?_
      have H46 : St W w44 (blk r (.cells #[.pointer (some ⟨b, 0, none⟩), .int .i64 ((stT ((stB 2 ((stT X).2)).2)).2.e)] 126 (0, 0)) :: SrcA b bs q37 :: F) := ((((H45.move 1 rfl).move 1 rfl).drop 2 rfl).drop 2 rfl)
      have hk : (stB 2 (stT X).2).1 = 2 := by omega
      have hV := stV_2 (X := (stT X).2) hk
      obtain ⟨c1, c2, c3, c4⟩ := stA_cells (X := X) hxl
      have hA2 : (stA X).2 = (stT ((stB 2 ((stT X).2)).2)).2 := by show (stV (stT X).2).2 = _; rw [hV]
      exact ⟨by rw [c1, c2, c3, c4, hV, hk]; rfl, _, by rw [hA2]; exact hR38, hp39, by rw [hA2]; exact H46⟩
    · skip
      refine r_cons (s_eql false rfl rfl (dfalse hc35) rfl ?_)
      refine r_cons (s_assign (.bool false) rfl rfl ?_)
      refine r_nil ?_
      refine g_false rfl ?_
      refine g_region ?_
      refine r_cons (s_move (.pointer (some ⟨r, 0, none⟩)) rfl rfl ?_)
      refine r_cons (s_call [.pointer (some ⟨r, 0, none⟩), .int .i64 40] pl_102 rfl rfl (ev_keep r b ((stB 2 ((stT X).2)).2.e) 40 (i := 0) rfl H22) ?_)
      rintro _ w47 ⟨rfl, H48⟩
      refine r_nil ?_
      refine g_inBlock ?_
      refine g_seq ?_
      refine g_region ?_
      refine r_cons (s_loadAgg [.string ((stT X).1), .int .i64 ((stB 2 ((stT X).2)).1 : Int), .int .i64 0, .string ByteArray.empty] 4 ag_91 rfl (H48.blk_at (i := 2) rfl) (Nat.le_of_ble_eq_true rfl) rfl rfl ?_)
      refine r_cons (s_storeAgg H48 3 #[.string ((stT X).1), .int .i64 ((stB 2 ((stT X).2)).1 : Int), .int .i64 0, .string ByteArray.empty] 4 rfl rfl rfl sz_91 rfl (by simp [Value.oneCell']) (Nat.le_of_ble_eq_true rfl) (fun o h1 h2 => by first | (simp; done) | (simp; omega)) (cs' := #[.string ((stT X).1), .int .i64 ((stB 2 ((stT X).2)).1 : Int), .int .i64 0, .string ByteArray.empty]) rfl ?_); intro w49 H50
      refine r_nil ?_
      refine g_ret' [.agg #[.string ((stT X).1), .int .i64 ((stB 2 ((stT X).2)).1 : Int), .int .i64 0, .string ByteArray.empty]] Try.func103 Try.results103 ⟨(res_cellN rfl ag_91 (H50.blk_at (i := 3) rfl) (Nat.le_of_ble_eq_true rfl) rfl), trivial⟩ ?_
      have H51 : St W w49 (blk r (.cells #[.pointer (some ⟨b, 0, none⟩), .int .i64 (if (stB 2 ((stT X).2)).2.e = 0 then 40 else (stB 2 ((stT X).2)).2.e)] 126 (0, 0)) :: SrcA b bs q16 :: F) := ((((H50.move 1 rfl).move 1 rfl).drop 2 rfl).drop 2 rfl)
      have H52 : St W w49 (blk r (.cells #[.pointer (some ⟨b, 0, none⟩), .int .i64 (if (stB 2 ((stT X).2)).2.e = 0 then 40 else (stB 2 ((stT X).2)).2.e)] 126 (0, 0)) :: SrcA b bs q16 :: F) := ((H51.move 1 rfl).move 1 rfl)
      have H53 : St W w49 (blk r (.cells #[.pointer (some ⟨b, 0, none⟩), .int .i64 ((stK 40 ((stB 2 ((stT X).2)).2)).e)] 126 (0, 0)) :: SrcA b bs q16 :: F) := H52
      have hV := stV_3 (X := (stT X).2) (show ¬ (stB 2 (stT X).2).1 = 1 by omega) (show ¬ (stB 2 (stT X).2).1 = 2 by omega)
      obtain ⟨c1, c2, c3, c4⟩ := stA_cells (X := X) hxl
      have hA2 : (stA X).2 = (stK 40 ((stB 2 ((stT X).2)).2)) := by show (stV (stT X).2).2 = _; rw [hV]
      exact ⟨by rw [c1, c2, c3, c4, hV]; rfl, _, by rw [hA2]; exact hR17, hp18, by rw [hA2]; exact H53⟩
end Sl
