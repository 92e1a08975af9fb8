/- Walks of the program's functions. Printed by a program of this claim's author. No condition. -/
import Derived.Test.YtheggchlcpafmaaSlQ
import Derived.Test.YtheggchlcpafmaaSlI
import Derived.Test.YtheggchlcpafmaaSlP
import Derived.Test.YtheggchlcpafmaaSlAF
import Derived.Test.YtheggchlcpafmaaProg
import Derived.Test.YtheggchlcpafmaaWalkEventReads0
namespace Sl
open _root_.Go _root_.Go.RowKit _root_.Go.Proofs
set_option linter.all false
set_option maxHeartbeats 4000000 in
set_option maxRecDepth 100000 in
theorem ref01_Low {W w : World} {F : List Atom} (u n : Nat) (hu : u < 18446744073709551616) (hn : n ≤ 64) (H : St W w F) : Calls Try.prog 43 #[.int .u64 (u : Int), .int .i64 (n : Int)] w (Ret fun v w' => ∃ p c, v = .slice p (n) c ∧ St W w' (Row 4 1 (.slice p (n) c) (n) ((lowB u n).flatMap blc) :: F)) := by
  refine calls_of_go (n := 26) Try.func43 rfl Try.ntmps43 rfl ?_
  refine g_seq ?_
  refine g_region ?_
  refine r_cons (s_assign (.slice none 0 0) rfl rfl ?_)
  refine r_nil ?_
  refine g_seq ?_
  refine g_region ?_
  refine r_cons (s_assign (.slice none 0 0) rfl rfl ?_)
  refine r_nil ?_
  refine g_seq ?_
  refine g_seq ?_
  refine g_region ?_
  refine r_cons (s_move (.int .i64 (n : Int)) rfl rfl ?_)
  refine r_cons (s_sub ((n : Int) - 1) rfl rfl (wi64 (by omega)) rfl ?_)
  refine r_cons (s_assign (.int .i64 ((n : Int) - 1)) rfl rfl ?_)
  refine r_nil ?_
  refine g_block ?_
  have H1 := Row.nil_intro H 4 1
  have H2 : St W w (Row 4 1 (.slice none 0 0) 0 [] :: F) := H1
  refine g_loop_inv (fun (x_ : Nat × (Option Addr) × Nat) => match x_ with | (j, p, c) => [(0, .int .u64 (u : Int)), (4, .slice none 0 0), (5, .slice p j c), (6, .int .i64 ((n : Int) - 1 - (j : Int)))]) (fun (x_ : Nat × (Option Addr) × Nat) w => match x_ with | (j, p, c) => (j ≤ n) ∧ St W w (Row 4 1 (.slice p j c) j ((lowK u n j).flatMap blc) :: F)) (fun (x_ : Nat × (Option Addr) × Nat) => match x_ with | (j, p, c) => n - j) (0, none, 0) ?_ ?_ ?_
  · exact ⟨by first | rfl | exact vint (by omega), by first | rfl | exact vint (by omega), by first | rfl | exact vint (by omega), by first | rfl | exact vint (by omega), trivial⟩
  · exact ⟨(by omega), H2⟩
  · rintro ⟨j, p, c⟩ ρ3 w4 ⟨hj, H5⟩ nx6
    change Ends _ _ (upds ρ3 [(0, .int .u64 (u : Int)), (4, .slice none 0 0), (5, .slice p j c), (6, .int .i64 ((n : Int) - 1 - (j : Int)))]) w4
    refine g_seq ?_
    refine g_seq ?_
    refine g_region ?_
    refine r_cons (s_move (.int .i64 ((n : Int) - 1 - (j : Int))) rfl rfl ?_)
    by_cases hc7 : (0 : Int) ≤ (n : Int) - 1 - (j : Int)
    · skip
      refine r_cons (s_geq true rfl rfl (dtrue hc7) rfl ?_)
      refine r_nil ?_
      refine g_true rfl ?_
      refine g_skip ?_
      refine g_seq ?_
      refine g_block ?_
      refine g_region ?_
      refine r_cons (s_move (.slice p j c) rfl rfl ?_)
      refine r_cons (s_move (.int .i64 ((n : Int) - 1 - (j : Int))) rfl rfl ?_)
      refine r_cons (s_lss true rfl rfl (dtrue (by omega)) rfl ?_)
      refine r_cons (s_move (.bool true) rfl rfl ?_)
      refine r_cons (r_take rfl rfl ?_)
      refine s_move (.int .u64 (u : Int)) rfl rfl ?_
      refine r_cons (r_take rfl rfl ?_)
      refine s_move (.int .i64 ((n : Int) - 1 - (j : Int))) rfl rfl ?_
      refine r_cons (r_take rfl rfl ?_)
      refine s_shr ((u / 2 ^ (n - 1 - j) : Nat) : Int) rfl rfl (by omega) (shr_nat (k := n - 1 - j) (by omega) (by show _ ≤ 64; omega)) rfl ?_
      refine r_cons (r_take rfl rfl ?_)
      refine s_rem ((u / 2 ^ (n - 1 - j) % 2 : Nat) : Int) rfl rfl (by omega) (by rw [tmod_pos (Int.natCast_nonneg _)]; rfl) rfl ?_
      refine r_cons (r_take rfl rfl ?_)
      refine s_eql (u.testBit (n - 1 - j)) rfl rfl (bit_is u (n - 1 - j)) rfl ?_
      refine r_cons (s_pick_t (.bool (u.testBit (n - 1 - j))) rfl rfl rfl ?_)
      refine r_cons (s_buildSlice H5 1 1 (cs := #[.bool (u.testBit (n - 1 - j))]) #[.bool false] el_50 ze_4 (by decide) (by decide) (by kernel_rfl) rfl ?_); intro bk8 w9 H10
      refine r_cons (s_append H10 1 rfl rfl rfl (rd_blk (H10.blk_at (i := 0) rfl) rfl (Nat.le_of_ble_eq_true rfl) (by simp [Value.oneCell'])) ap_50 (by decide) (by unfold maxLen; omega) (by omega) (n' := j + 1) (xs' := (lowK u n (j + 1)).flatMap blc) (by omega) (by rw [lowK_succ, flat_snoc]; rfl) rfl ?_); intro vv11 w12 H13 hn14
      obtain ⟨pp15, cc16, rfl⟩ := Row.slice H13 (i := 1) rfl
      refine r_cons (s_assign (.slice pp15 (j + 1) cc16) rfl rfl ?_)
      refine r_nil ?_
      refine g_inBlock ?_
      refine g_region ?_
      refine r_cons (s_move (.int .i64 ((n : Int) - 1 - (j : Int))) rfl rfl ?_)
      refine r_cons (s_sub ((n : Int) - 1 - (j : Int) - 1) rfl rfl (wi64 (by omega)) rfl ?_)
      refine r_cons (s_assign (.int .i64 ((n : Int) - 1 - (j : Int) - 1)) rfl rfl ?_)
      refine r_nil ?_
      have H17 : St W w12 (Row 4 1 (.slice pp15 (j + 1) cc16) (j + 1) ((lowK u n (j + 1)).flatMap blc) :: F) := ((H13.move 1 rfl).drop 1 rfl)
      exact nx6 (j + 1, pp15, cc16) _ _ ⟨(by omega), H17⟩ (by first | (dsimp only; omega) | omega) ⟨by first | rfl | exact vint (by omega), by first | rfl | exact vint (by omega), by first | rfl | exact vint (by omega), by first | rfl | exact vint (by omega), trivial⟩
    · skip
      refine r_cons (s_geq false rfl rfl (dfalse hc7) rfl ?_)
      refine r_nil ?_
      refine g_false rfl ?_
      refine g_exit (by rfl) ?_
      refine g_seq ?_
      refine g_region ?_
      refine r_cons (s_move (.slice p j c) rfl rfl ?_)
      refine r_cons (s_assign (.slice p j c) rfl rfl ?_)
      refine r_nil ?_
      refine g_ret' [.slice p j c] Try.func43 Try.results43 ⟨rfl, trivial⟩ ?_
      have H18 : St W w4 (Row 4 1 (.slice p j c) j ((lowK u n j).flatMap blc) :: F) := H5
      obtain rfl : j = n := by omega
      exact ⟨_, _, rfl, H18⟩
/-- Bytes of which bits are taken. -/
def SrcA (b : Nat) (bs : List UInt8) (p : Nat) : Atom := ex fun v : Value => star [blk b (.cells #[.bool true, v, .int .i64 ((p : Nat) : Int)] 121 (0, 0)), Im 1 v bs.length (bs.flatMap u8c)]
set_option maxHeartbeats 4000000 in
set_option maxRecDepth 100000 in
theorem NewSource {W w : World} {F : List Atom} (A : Atom) (v0 : Value) (bs : List UInt8) (hA : RdA A 1 v0 bs.length (bs.flatMap u8c)) (hb : bs.length ≤ 140737488355328) {j : Nat} (hj : F[j]? = some A) (H : St W w F) : Calls Try.prog 49 #[v0] w (Ret fun v w' => ∃ k, v = .pointer (some ⟨k, 0, none⟩) ∧ St W w' (SrcA k bs 0 :: F)) := by
  have hml := (hA _ _ _ j H hj).2
  obtain ⟨pp1, cc2, rfl, hn3⟩ := Rd.shape (hA _ _ _ j H hj).1
  refine calls_of_go (n := 7) Try.func49 rfl Try.ntmps49 rfl ?_
  refine g_seq ?_
  refine g_region ?_
  refine r_cons (s_assign (.pointer none) rfl rfl ?_)
  refine r_nil ?_
  refine g_seq ?_
  refine g_region ?_
  refine r_cons (s_move (.slice pp1 bs.length cc2) rfl rfl ?_)
  refine r_cons (s_call [.slice pp1 bs.length cc2] pl_80 rfl rfl (clone_bytes _ _ bs.length (bs.flatMap u8c) hA (by first | omega | (have hlp := Nat.le_refl 0; omega)) (j := j + 0) (by exact hj) H) ?_)
  rintro _ w6 ⟨pp4, cc5, rfl, H7⟩
  refine r_cons (s_build (cs := #[.bool true, .slice pp4 bs.length cc5, .int .i64 0]) (by kernel_rfl) rfl ?_)
  refine r_cons (s_box H7 121 (.agg #[.bool true, .slice pp4 bs.length cc5, .int .i64 0]) rfl (cs := #[.bool true, .slice pp4 bs.length cc5, .int .i64 0]) rfl rfl ?_); intro bk8 w9 H10
  refine r_cons (s_assign (.pointer (some ⟨bk8, 0, none⟩)) rfl rfl ?_)
  refine r_nil ?_
  refine g_ret' [.pointer (some ⟨bk8, 0, none⟩)] Try.func49 Try.results49 ⟨rfl, trivial⟩ ?_
  have H11 : St W w9 (blk bk8 (.cells #[.bool true, .slice pp4 bs.length cc5, .int .i64 0] 121 (0, 0)) :: Row 5 1 (.slice pp4 bs.length cc5) bs.length (bs.flatMap u8c) :: F) := ((H10.move 1 rfl).move 1 rfl)
  have H12 := Row.im H11 (i := 1) rfl
  exact ⟨bk8, rfl, St.shut_ex (.slice pp4 bs.length cc5) (St.shut_star (ls := [blk bk8 (.cells #[.bool true, .slice pp4 bs.length cc5, .int .i64 0] 121 (0, 0)), Im 1 (.slice pp4 bs.length cc5) bs.length (bs.flatMap u8c)]) H12)⟩
set_option maxHeartbeats 4000000 in
set_option maxRecDepth 100000 in
theorem Src_Left {W w : World} {F : List Atom} (b : Nat) (bs : List UInt8) (p : Nat) (hp : p ≤ 8 * bs.length) (hb : bs.length ≤ 140737488355328) {i : Nat} (hi : F[i]? = some (SrcA b bs p)) (H : St W w F) : Calls Try.prog 54 #[.pointer (some ⟨b, 0, none⟩)] w (Ret fun v w' => v = .int .i64 ((remB bs p).length : Int) ∧ St W w' F) := by
  have H0 := H.front hi
  refine calls_of_go (n := 16) Try.func54 rfl Try.ntmps54 rfl ?_
  refine g_seq ?_
  refine g_region ?_
  refine r_cons (s_assign (.int .i64 0) rfl rfl ?_)
  refine r_nil ?_
  refine g_seq ?_
  refine g_seq ?_
  refine g_region ?_
  refine r_cons (s_move (.pointer (some ⟨b, 0, none⟩)) rfl rfl ?_)
  refine r_cons (s_peql false un_76 rfl rfl rfl rfl ?_)
  refine r_nil ?_
  refine g_false rfl ?_
  refine g_skip ?_
  refine g_seq ?_
  have H1 := H0.move 0 rfl
  obtain ⟨vv2, H3⟩ := St.open_ex H1
  have H4 := St.open_star H3
  obtain ⟨pp5, cc6, gA7, oA8, kA9, eA10, zA11, rfl, hn12, hp13, hx14, hs15, hml, H16⟩ := Im.open_ H4 (i := 1) rfl
  have H17 : St W w (imi (0 < bs.length) gA7 (.cells kA9 eA10 zA11) :: blk b (.cells #[.bool true, .slice pp5 bs.length cc6, .int .i64 ((p : Nat) : Int)] 121 (0, 0)) :: Im 1 (.slice pp5 bs.length cc6) bs.length (bs.flatMap u8c) :: (F.set i emp)) := H16
  refine g_quiet (fun w' => St W w' (imi (0 < bs.length) gA7 (.cells kA9 eA10 zA11) :: blk b (.cells #[.bool true, .slice pp5 bs.length cc6, .int .i64 ((p : Nat) : Int)] 121 (0, 0)) :: Im 1 (.slice pp5 bs.length cc6) bs.length (bs.flatMap u8c) :: (F.set i emp))) mixed (by kernel_rfl) H17.drew ?_
  refine q_cons (q_val rfl rfl rfl (by intro w hw; exact x_move (.pointer (some ⟨b, 0, none⟩)) rfl w) ?_)
  refine q_cons (q_val rfl rfl rfl (by intro w hw; exact x_nilCheck (.pointer (some ⟨b, 0, none⟩)) rfl ⟨_, rfl⟩ w) ?_)
  refine q_cons (q_val rfl rfl rfl (by intro w hw; exact x_fieldAddr 121 1 1 1 66 rfl fi_121_1 rfl w) ?_)
  refine q_cons (q_val rfl rfl rfl (by intro w hw; exact x_load (.slice pp5 bs.length cc6) ag_66 rfl (hw.blk_at (i := 1) rfl) rfl) ?_)
  refine q_cons (q_val rfl rfl rfl (by intro w hw; exact x_len bs.length rfl ⟨_, un_66⟩ w) ?_)
  refine q_cons (q_val rfl rfl rfl (by intro w hw; exact x_mul (8 * (bs.length : Int)) rfl rfl (wi64 (by omega)) w) ?_)
  refine q_cons (q_val rfl rfl rfl (by intro w hw; exact x_move (.pointer (some ⟨b, 0, none⟩)) rfl w) ?_)
  refine q_cons (q_val rfl rfl rfl (by intro w hw; exact x_nilCheck (.pointer (some ⟨b, 0, none⟩)) rfl ⟨_, rfl⟩ w) ?_)
  refine q_cons (q_val rfl rfl rfl (by intro w hw; exact x_fieldAddr 121 2 2 2 3 rfl fi_121_2 rfl w) ?_)
  refine q_cons (q_val rfl rfl rfl (by intro w hw; exact x_load (.int .i64 ((p : Nat) : Int)) ag_3 rfl (hw.blk_at (i := 1) rfl) rfl) ?_)
  refine q_cons (q_val rfl rfl rfl (by intro w hw; exact x_sub (8 * (bs.length : Int) - ((p : Nat) : Int)) rfl rfl (wi64 (by omega)) w) ?_)
  refine q_cons (q_val rfl rfl rfl (by intro w hw; exact x_assign (.int .i64 (8 * (bs.length : Int) - ((p : Nat) : Int))) rfl w) ?_)
  refine q_nil ?_
  intro w18 H19
  refine g_ret' [.int .i64 (8 * (bs.length : Int) - ((p : Nat) : Int))] Try.func54 Try.results54 ⟨rfl, trivial⟩ ?_
  have H20 : St W w18 (blk b (.cells #[.bool true, .slice pp5 bs.length cc6, .int .i64 ((p : Nat) : Int)] 121 (0, 0)) :: Im 1 (.slice pp5 bs.length cc6) bs.length (bs.flatMap u8c) :: (F.set i emp)) := (((H19.move 2 rfl).move 2 rfl).drop 2 rfl)
  have H21 : St W w18 (SrcA b bs p :: (F.set i emp)) := St.shut_ex (.slice pp5 bs.length cc6) (St.shut_star (ls := [blk b (.cells #[.bool true, .slice pp5 bs.length cc6, .int .i64 ((p : Nat) : Int)] 121 (0, 0)), Im 1 (.slice pp5 bs.length cc6) bs.length (bs.flatMap u8c)]) H20)
  have H22 : St W w18 (SrcA b bs p :: (F.set i emp)) := H21
  exact ⟨vint (by rw [remB_len]; omega), St.back_same hi H22⟩
set_option maxHeartbeats 4000000 in
set_option maxRecDepth 100000 in
theorem Src_bit {W w : World} {F : List Atom} (b : Nat) (bs : List UInt8) (p : Nat) (hp : p ≤ 8 * bs.length) (hb : bs.length ≤ 140737488355328) (k : Nat) (hk : k < 8 * bs.length) {i : Nat} (hi : F[i]? = some (SrcA b bs p)) (H : St W w F) : Calls Try.prog 83 #[.pointer (some ⟨b, 0, none⟩), .int .i64 (k : Int)] w (Ret fun v w' => v = .int .u64 ((bitAt bs k).toNat : Int) ∧ St W w' F) := by
  have H0 := H.front hi
  refine calls_of_go (n := 19) Try.func83 rfl Try.ntmps83 rfl ?_
  refine g_seq ?_
  refine g_region ?_
  refine r_cons (s_assign (.int .u64 0) rfl rfl ?_)
  refine r_nil ?_
  refine g_seq ?_
  refine g_region ?_
  refine r_cons (s_move (.pointer (some ⟨b, 0, none⟩)) rfl rfl ?_)
  refine r_cons (s_nilCheck (.pointer (some ⟨b, 0, none⟩)) rfl ⟨_, rfl⟩ rfl ?_)
  refine r_cons (s_fieldAddr 121 1 1 1 66 rfl fi_121_1 rfl rfl ?_)
  have H1 := H0.move 0 rfl
  obtain ⟨vv2, H3⟩ := St.open_ex H1
  have H4 := St.open_star H3
  obtain ⟨pp5, cc6, gA7, oA8, kA9, eA10, zA11, rfl, hn12, hp13, hx14, hs15, hml, H16⟩ := Im.open_ H4 (i := 1) rfl
  have H17 : St W w (imi (0 < bs.length) gA7 (.cells kA9 eA10 zA11) :: blk b (.cells #[.bool true, .slice pp5 bs.length cc6, .int .i64 ((p : Nat) : Int)] 121 (0, 0)) :: Im 1 (.slice pp5 bs.length cc6) bs.length (bs.flatMap u8c) :: (F.set i emp)) := H16
  refine r_cons (s_load (.slice pp5 bs.length cc6) ag_66 rfl (H17.blk_at (i := 1) rfl) rfl rfl ?_)
  refine r_cons (s_move (.int .i64 (k : Int)) rfl rfl ?_)
  refine r_cons (s_quo ((k : Int) / 8) rfl rfl (by omega) (by rw [tdiv_pos (by omega)]; exact wi64 (by omega)) rfl ?_)
  refine r_cons (s_indexAddr gA7 (off := oA8) ((k : Int) / 8) 1 (oA8 + (k / 8) * 1) (by exact congrArg (fun z_ => Value.slice z_ bs.length cc6) (hp13 (by omega))) rfl el_66 (by omega) (by rw [show ((k : Int) / 8 : Int).toNat = k / 8 from by omega]) rfl ?_)
  refine r_cons (s_load (.int .u8 ((bs.getD (k / 8) 0).toNat : Int)) ag_5 rfl (H17.imi_at (i := 0) rfl (by omega)) (elem_cell (L := bs) (i := k / 8) u8c_len (hx14 (by omega)) (by omega) 0 0 (by decide) _ rfl) rfl ?_)
  refine r_cons (s_move (.int .i64 (k : Int)) rfl rfl ?_)
  refine r_cons (s_rem ((k : Int) % 8) rfl rfl (by omega) (tmod_pos (by omega)) rfl ?_)
  refine r_cons (s_sub (7 - ((k : Int) % 8)) rfl rfl (wi64 (by omega)) rfl ?_)
  refine r_cons (s_shr (((bs.getD (k / 8) 0).toNat / 2 ^ (7 - k % 8) : Nat) : Int) rfl rfl (by omega) (shr_nat (k := 7 - k % 8) (by omega) (by show _ ≤ 8; omega)) rfl ?_)
  refine r_cons (s_and (((bs.getD (k / 8) 0).toNat / 2 ^ (7 - k % 8) % 2 : Nat) : Int) rfl rfl (and_one8 _ (Nat.lt_of_le_of_lt (Nat.div_le_self _ _) (UInt8.toNat_lt _))) rfl ?_)
  refine r_cons (s_conv ((bitAt bs k).toNat : Int) rfl us_5 ik_62 ((by rw [bit_nat]; exact wu64 (by have := Bool.toNat_le (bitAt bs k); unfold bitAt at this; omega))) rfl ?_)
  refine r_cons (s_assign (.int .u64 ((bitAt bs k).toNat : Int)) rfl rfl ?_)
  refine r_nil ?_
  refine g_ret' [.int .u64 ((bitAt bs k).toNat : Int)] Try.func83 Try.results83 ⟨rfl, trivial⟩ ?_
  have H18 : St W w (blk b (.cells #[.bool true, .slice pp5 bs.length cc6, .int .i64 ((p : Nat) : Int)] 121 (0, 0)) :: Im 1 (.slice pp5 bs.length cc6) bs.length (bs.flatMap u8c) :: (F.set i emp)) := (((H17.move 2 rfl).move 2 rfl).drop 2 rfl)
  have H19 : St W w (SrcA b bs p :: (F.set i emp)) := St.shut_ex (.slice pp5 bs.length cc6) (St.shut_star (ls := [blk b (.cells #[.bool true, .slice pp5 bs.length cc6, .int .i64 ((p : Nat) : Int)] 121 (0, 0)), Im 1 (.slice pp5 bs.length cc6) bs.length (bs.flatMap u8c)]) H18)
  have H20 : St W w (SrcA b bs p :: (F.set i emp)) := H19
  exact ⟨rfl, St.back_same hi H20⟩
set_option maxHeartbeats 4000000 in
set_option maxRecDepth 100000 in
theorem Src_Bits {W w : World} {F : List Atom} (b : Nat) (bs : List UInt8) (p : Nat) (hp : p ≤ 8 * bs.length) (hb : bs.length ≤ 140737488355328) (n : Int) {i : Nat} (hi : F[i]? = some (SrcA b bs p)) (H : St W w F) : Calls Try.prog 51 #[.pointer (some ⟨b, 0, none⟩), .int .i64 n] w (Ret fun v w' => v = .tuple #[.int .u64 (srcU (remB bs p) n : Int), .int .i64 (srcE (remB bs p) n)] ∧ St W w' (F.set i (SrcA b bs (p + srcN (remB bs p) n)))) := by
  have H0 := H.front hi
  refine calls_of_go (n := 50) Try.func51 rfl Try.ntmps51 rfl ?_
  refine g_seq ?_
  refine g_region ?_
  refine r_cons (s_assign (.int .u64 0) rfl rfl ?_)
  refine r_cons (s_assign (.int .i64 0) rfl rfl ?_)
  refine r_nil ?_
  refine g_seq ?_
  refine g_block ?_
  refine g_seq ?_
  refine g_region ?_
  refine r_cons (s_move (.pointer (some ⟨b, 0, none⟩)) rfl rfl ?_)
  refine r_cons (s_peql false un_76 rfl rfl rfl rfl ?_)
  refine r_cons (s_move (.bool false) rfl rfl ?_)
  refine r_cons (r_take rfl rfl ?_)
  refine s_move (.pointer (some ⟨b, 0, none⟩)) rfl rfl ?_
  refine r_cons (r_take rfl rfl ?_)
  refine s_nilCheck (.pointer (some ⟨b, 0, none⟩)) rfl ⟨_, rfl⟩ rfl ?_
  refine r_cons (r_take rfl rfl ?_)
  refine s_fieldAddr 121 0 0 0 4 rfl fi_121_0 rfl rfl ?_
  refine r_cons (r_take rfl rfl ?_)
  have H1 := H0.move 0 rfl
  obtain ⟨vv2, H3⟩ := St.open_ex H1
  have H4 := St.open_star H3
  obtain ⟨pp5, cc6, gA7, oA8, kA9, eA10, zA11, rfl, hn12, hp13, hx14, hs15, hml, H16⟩ := Im.open_ H4 (i := 1) rfl
  have H17 : St W w (imi (0 < bs.length) gA7 (.cells kA9 eA10 zA11) :: blk b (.cells #[.bool true, .slice pp5 bs.length cc6, .int .i64 ((p : Nat) : Int)] 121 (0, 0)) :: Im 1 (.slice pp5 bs.length cc6) bs.length (bs.flatMap u8c) :: (F.set i emp)) := H16
  refine s_load (.bool true) ag_4 rfl (H17.blk_at (i := 1) rfl) rfl rfl ?_
  refine r_cons (r_take rfl rfl ?_)
  refine s_not true rfl false rfl rfl ?_
  refine r_cons (s_pick_f (.bool false) rfl rfl rfl ?_)
  refine r_cons (s_assign (.bool false) rfl rfl ?_)
  refine r_nil ?_
  refine g_false rfl ?_
  refine g_seq ?_
  refine g_region ?_
  refine r_cons (s_move (.int .i64 n) rfl rfl ?_)
  by_cases hc18 : n < 0
  · skip
    refine r_cons (s_lss true rfl rfl (dtrue hc18) rfl ?_)
    refine r_cons (s_move (.bool true) rfl rfl ?_)
    refine r_cons (r_pass rfl rfl rfl rfl rfl ?_)
    refine r_cons (r_pass rfl rfl rfl rfl rfl ?_)
    refine r_cons (s_pick_t (.bool true) rfl rfl rfl ?_)
    refine r_cons (s_assign (.bool true) rfl rfl ?_)
    refine r_nil ?_
    refine g_true rfl ?_
    refine g_seq ?_
    refine g_region ?_
    refine r_cons (s_assign (.int .u64 0) rfl rfl ?_)
    refine r_cons (s_assign (.int .i64 1) rfl rfl ?_)
    refine r_nil ?_
    refine g_ret' [.int .u64 0, .int .i64 1] Try.func51 Try.results51 ⟨rfl, rfl, trivial⟩ ?_
    have H19 : St W w (blk b (.cells #[.bool true, .slice pp5 bs.length cc6, .int .i64 ((p : Nat) : Int)] 121 (0, 0)) :: Im 1 (.slice pp5 bs.length cc6) bs.length (bs.flatMap u8c) :: (F.set i emp)) := (((H17.move 2 rfl).move 2 rfl).drop 2 rfl)
    have H20 : St W w (SrcA b bs p :: (F.set i emp)) := St.shut_ex (.slice pp5 bs.length cc6) (St.shut_star (ls := [blk b (.cells #[.bool true, .slice pp5 bs.length cc6, .int .i64 ((p : Nat) : Int)] 121 (0, 0)), Im 1 (.slice pp5 bs.length cc6) bs.length (bs.flatMap u8c)]) H19)
    have H21 : St W w (SrcA b bs p :: (F.set i emp)) := H20
    have hE : srcE (remB bs p) n = 1 := by first | exact srcE_1 (by omega) | exact srcE_10 (by omega) (by omega)
    have hE0 : ¬ srcE (remB bs p) n = 0 := by rw [hE]; decide
    exact ⟨by rw [srcU_no hE0, hE]; rfl, by rw [srcN_no hE0]; exact St.back hi H21⟩
  · skip
    refine r_cons (s_lss false rfl rfl (dfalse hc18) rfl ?_)
    refine r_cons (s_move (.bool false) rfl rfl ?_)
    refine r_cons (r_take rfl rfl ?_)
    refine s_move (.int .i64 n) rfl rfl ?_
    refine r_cons (r_take rfl rfl ?_)
    by_cases hc22 : (64 : Int) < n
    · skip
      refine s_gtr true rfl rfl (dtrue hc22) rfl ?_
      refine r_cons (s_pick_f (.bool true) rfl rfl rfl ?_)
      refine r_cons (s_assign (.bool true) rfl rfl ?_)
      refine r_nil ?_
      refine g_true rfl ?_
      refine g_seq ?_
      refine g_region ?_
      refine r_cons (s_assign (.int .u64 0) rfl rfl ?_)
      refine r_cons (s_assign (.int .i64 1) rfl rfl ?_)
      refine r_nil ?_
      refine g_ret' [.int .u64 0, .int .i64 1] Try.func51 Try.results51 ⟨rfl, rfl, trivial⟩ ?_
      have H23 : St W w (blk b (.cells #[.bool true, .slice pp5 bs.length cc6, .int .i64 ((p : Nat) : Int)] 121 (0, 0)) :: Im 1 (.slice pp5 bs.length cc6) bs.length (bs.flatMap u8c) :: (F.set i emp)) := (((H17.move 2 rfl).move 2 rfl).drop 2 rfl)
      have H24 : St W w (SrcA b bs p :: (F.set i emp)) := St.shut_ex (.slice pp5 bs.length cc6) (St.shut_star (ls := [blk b (.cells #[.bool true, .slice pp5 bs.length cc6, .int .i64 ((p : Nat) : Int)] 121 (0, 0)), Im 1 (.slice pp5 bs.length cc6) bs.length (bs.flatMap u8c)]) H23)
      have H25 : St W w (SrcA b bs p :: (F.set i emp)) := H24
      have hE : srcE (remB bs p) n = 1 := by first | exact srcE_1 (by omega) | exact srcE_10 (by omega) (by omega)
      have hE0 : ¬ srcE (remB bs p) n = 0 := by rw [hE]; decide
      exact ⟨by rw [srcU_no hE0, hE]; rfl, by rw [srcN_no hE0]; exact St.back hi H25⟩
    · skip
      refine s_gtr false rfl rfl (dfalse hc22) rfl ?_
      refine r_cons (s_pick_f (.bool false) rfl rfl rfl ?_)
      refine r_cons (s_assign (.bool false) rfl rfl ?_)
      refine r_nil ?_
      refine g_false rfl ?_
      refine g_seq ?_
      refine g_region ?_
      refine r_cons (s_move (.int .i64 n) rfl rfl ?_)
      refine r_cons (s_move (.pointer (some ⟨b, 0, none⟩)) rfl rfl ?_)
      have H26 : St W w (blk b (.cells #[.bool true, .slice pp5 bs.length cc6, .int .i64 ((p : Nat) : Int)] 121 (0, 0)) :: Im 1 (.slice pp5 bs.length cc6) bs.length (bs.flatMap u8c) :: (F.set i emp)) := (((H17.move 2 rfl).move 2 rfl).drop 2 rfl)
      have H27 : St W w (SrcA b bs p :: (F.set i emp)) := St.shut_ex (.slice pp5 bs.length cc6) (St.shut_star (ls := [blk b (.cells #[.bool true, .slice pp5 bs.length cc6, .int .i64 ((p : Nat) : Int)] 121 (0, 0)), Im 1 (.slice pp5 bs.length cc6) bs.length (bs.flatMap u8c)]) H26)
      refine r_cons (s_call [.pointer (some ⟨b, 0, none⟩)] pl_54 rfl rfl (Src_Left b bs p (by first | omega | decide +kernel | (repeat (first | assumption | exact Nat.zero_le _ | refine natN_pos ?_ | refine srcN_pos ?_ | refine textN_pos ?_))) (by first | omega | decide +kernel)   (i := 0) rfl H27) ?_)
      rintro _ w28 ⟨rfl, H29⟩
      by_cases hc30 : ((remB bs p).length : Int) < n
      · skip
        refine r_cons (s_gtr true rfl rfl (dtrue hc30) rfl ?_)
        refine r_cons (s_assign (.bool true) rfl rfl ?_)
        refine r_nil ?_
        refine g_true rfl ?_
        refine g_seq ?_
        refine g_region ?_
        refine r_cons (s_assign (.int .u64 0) rfl rfl ?_)
        refine r_cons (s_assign (.int .i64 10) rfl rfl ?_)
        refine r_nil ?_
        refine g_ret' [.int .u64 0, .int .i64 10] Try.func51 Try.results51 ⟨rfl, rfl, trivial⟩ ?_
        have H31 : St W w28 (SrcA b bs p :: (F.set i emp)) := H29
        have hE : srcE (remB bs p) n = 10 := by first | exact srcE_1 (by omega) | exact srcE_10 (by omega) (by omega)
        have hE0 : ¬ srcE (remB bs p) n = 0 := by rw [hE]; decide
        exact ⟨by rw [srcU_no hE0, hE]; rfl, by rw [srcN_no hE0]; exact St.back hi H31⟩
      · skip
        refine r_cons (s_gtr false rfl rfl (dfalse hc30) rfl ?_)
        refine r_cons (s_assign (.bool false) rfl rfl ?_)
        refine r_nil ?_
        refine g_false rfl ?_
        refine g_skip ?_
        refine g_inBlock ?_
        refine g_seq ?_
        refine g_region ?_
        refine r_cons (s_assign (.int .u64 0) rfl rfl ?_)
        refine r_nil ?_
        refine g_seq ?_
        refine g_seq ?_
        refine g_region ?_
        refine r_cons (s_move (.int .i64 n) rfl rfl ?_)
        refine r_cons (s_move (.int .i64 0) rfl rfl ?_)
        refine r_nil ?_
        refine g_block ?_
        have H32 : St W w28 (SrcA b bs p :: (F.set i emp)) := H29
        have hE := srcE_0 (R := remB bs p) (n := n) (by omega) (by omega)
        have hL := remB_len bs p
        have hI := srcE_is hE
        have H33 : St W w28 (SrcA b bs (p + 0) :: (F.set i emp)) := H32
        refine g_loop_inv (fun (x_ : Nat) => match x_ with | j => [(0, .pointer (some ⟨b, 0, none⟩)), (4, .int .u64 0), (5, .int .i64 0), (6, .int .u64 (valOf ((remB bs p).take j) : Int)), (29, .int .i64 n), (30, .int .i64 (j : Int))]) (fun (x_ : Nat) w => match x_ with | j => ((j : Int) ≤ n) ∧ St W w (SrcA b bs (p + j) :: (F.set i emp))) (fun (x_ : Nat) => match x_ with | j => n.toNat - j) (0) ?_ ?_ ?_
        · exact ⟨by first | rfl | exact vint (by omega), by first | rfl | exact vint (by omega), by first | rfl | exact vint (by omega), by first | rfl | exact vint (by omega), by first | rfl | exact vint (by omega), by first | rfl | exact vint (by omega), trivial⟩
        · exact ⟨(by omega), H33⟩
        · rintro j ρ34 w35 ⟨hj, H36⟩ nx37
          change Ends _ _ (upds ρ34 [(0, .pointer (some ⟨b, 0, none⟩)), (4, .int .u64 0), (5, .int .i64 0), (6, .int .u64 (valOf ((remB bs p).take j) : Int)), (29, .int .i64 n), (30, .int .i64 (j : Int))]) w35
          have hfin : ¬ (j : Int) < n → (j = n.toNat) := fun h => by omega
          refine g_seq ?_
          refine g_region ?_
          by_cases hc38 : (j : Int) < n
          · skip
            refine r_cons (s_lss true rfl rfl (dtrue hc38) rfl ?_)
            refine r_nil ?_
            refine g_seq ?_
            refine g_true rfl ?_
            refine g_skip ?_
            refine g_seq ?_
            refine g_block ?_
            refine g_seq ?_
            refine g_region ?_
            have hv := val_take_lt63 (remB bs p) (j := j) (by omega)
            have hv2 := valOf_take_rem (bs := bs) (p := p) (j := j) (by omega)
            have hbb := Bool.toNat_le (bitAt bs (p + j))
            refine r_cons (s_move (.int .u64 (valOf ((remB bs p).take j) : Int)) rfl rfl ?_)
            refine r_cons (s_shl ((2 * valOf ((remB bs p).take j) : Nat) : Int) rfl rfl (by omega) (shl1 hv) rfl ?_)
            refine r_cons (s_move (.pointer (some ⟨b, 0, none⟩)) rfl rfl ?_)
            refine r_cons (s_move (.pointer (some ⟨b, 0, none⟩)) rfl rfl ?_)
            refine r_cons (s_nilCheck (.pointer (some ⟨b, 0, none⟩)) rfl ⟨_, rfl⟩ rfl ?_)
            refine r_cons (s_fieldAddr 121 2 2 2 3 rfl fi_121_2 rfl rfl ?_)
            have H39 := H36.move 0 rfl
            obtain ⟨vv40, H41⟩ := St.open_ex H39
            have H42 := St.open_star H41
            obtain ⟨pp43, cc44, gA45, oA46, kA47, eA48, zA49, rfl, hn50, hp51, hx52, hs53, hml, H54⟩ := Im.open_ H42 (i := 1) rfl
            have H55 : St W w35 (imi (0 < bs.length) gA45 (.cells kA47 eA48 zA49) :: blk b (.cells #[.bool true, .slice pp43 bs.length cc44, .int .i64 ((p + j : Nat) : Int)] 121 (0, 0)) :: Im 1 (.slice pp43 bs.length cc44) bs.length (bs.flatMap u8c) :: (F.set i emp)) := H54
            refine r_cons (s_load (.int .i64 ((p + j : Nat) : Int)) ag_3 rfl (H55.blk_at (i := 1) rfl) rfl rfl ?_)
            have H56 : St W w35 (blk b (.cells #[.bool true, .slice pp43 bs.length cc44, .int .i64 ((p + j : Nat) : Int)] 121 (0, 0)) :: Im 1 (.slice pp43 bs.length cc44) bs.length (bs.flatMap u8c) :: (F.set i emp)) := (((H55.move 2 rfl).move 2 rfl).drop 2 rfl)
            have H57 : St W w35 (SrcA b bs (p + j) :: (F.set i emp)) := St.shut_ex (.slice pp43 bs.length cc44) (St.shut_star (ls := [blk b (.cells #[.bool true, .slice pp43 bs.length cc44, .int .i64 ((p + j : Nat) : Int)] 121 (0, 0)), Im 1 (.slice pp43 bs.length cc44) bs.length (bs.flatMap u8c)]) H56)
            refine r_cons (s_call [.pointer (some ⟨b, 0, none⟩), .int .i64 ((p + j : Nat) : Int)] pl_83 rfl rfl (Src_bit b bs (p + j) (by first | omega | decide +kernel | (repeat (first | assumption | exact Nat.zero_le _ | refine natN_pos ?_ | refine srcN_pos ?_ | refine textN_pos ?_))) (by first | omega | decide +kernel) (p + j) (by omega) (i := 0) rfl H57) ?_)
            rintro _ w58 ⟨rfl, H59⟩
            refine r_cons (s_or ((2 * valOf ((remB bs p).take j) + (bitAt bs (p + j)).toNat : Nat) : Int) rfl rfl (or_low _ _ hv hbb) rfl ?_)
            refine r_cons (s_assign (.int .u64 ((2 * valOf ((remB bs p).take j) + (bitAt bs (p + j)).toNat : Nat) : Int)) rfl rfl ?_)
            refine r_nil ?_
            refine g_region ?_
            refine r_cons (s_move (.pointer (some ⟨b, 0, none⟩)) rfl rfl ?_)
            refine r_cons (s_nilCheck (.pointer (some ⟨b, 0, none⟩)) rfl ⟨_, rfl⟩ rfl ?_)
            refine r_cons (s_fieldAddr 121 2 2 2 3 rfl fi_121_2 rfl rfl ?_)
            have H60 := H59.move 0 rfl
            obtain ⟨vv61, H62⟩ := St.open_ex H60
            have H63 := St.open_star H62
            obtain ⟨pp64, cc65, gA66, oA67, kA68, eA69, zA70, rfl, hn71, hp72, hx73, hs74, hml, H75⟩ := Im.open_ H63 (i := 1) rfl
            have H76 : St W w58 (imi (0 < bs.length) gA66 (.cells kA68 eA69 zA70) :: blk b (.cells #[.bool true, .slice pp64 bs.length cc65, .int .i64 ((p + j : Nat) : Int)] 121 (0, 0)) :: Im 1 (.slice pp64 bs.length cc65) bs.length (bs.flatMap u8c) :: (F.set i emp)) := H75
            refine r_cons (s_load (.int .i64 ((p + j : Nat) : Int)) ag_3 rfl (H76.blk_at (i := 1) rfl) rfl rfl ?_)
            refine r_cons (s_add (((p + j : Nat) : Int) + 1) rfl rfl (wi64 (by omega)) rfl ?_)
            refine r_cons (s_nilCheck (.pointer (some ⟨b, 0, none⟩)) rfl ⟨_, rfl⟩ rfl ?_)
            refine r_cons (s_fieldAddr 121 2 2 2 3 rfl fi_121_2 rfl rfl ?_)
            refine r_cons (s_store H76 1 (.int .i64 (((p + j : Nat) : Int) + 1)) rfl rfl rfl sz_3 rfl (Nat.le_of_ble_eq_true rfl) rfl (cs' := #[.bool true, .slice pp64 bs.length cc65, .int .i64 (((p + j : Nat) : Int) + 1)]) rfl ?_); intro w77 H78
            refine r_nil ?_
            refine g_inBlock ?_
            refine g_region ?_
            refine r_cons (s_add ((j : Int) + 1) rfl rfl (wi64 (by omega)) rfl ?_)
            refine r_cons (s_move (.int .i64 ((j : Int) + 1)) rfl rfl ?_)
            refine r_nil ?_
            have H79 : St W w77 (blk b (.cells #[.bool true, .slice pp64 bs.length cc65, .int .i64 (((p + j : Nat) : Int) + 1)] 121 (0, 0)) :: Im 1 (.slice pp64 bs.length cc65) bs.length (bs.flatMap u8c) :: (F.set i emp)) := (((H78.move 2 rfl).move 2 rfl).drop 2 rfl)
            have H80 : St W w77 (blk b (.cells #[.bool true, .slice pp64 bs.length cc65, .int .i64 ((p + (j + 1) : Nat) : Int)] 121 (0, 0)) :: Im 1 (.slice pp64 bs.length cc65) bs.length (bs.flatMap u8c) :: (F.set i emp)) := by rw [show ((p + (j + 1) : Nat) : Int) = ((p + j : Nat) : Int) + 1 from by omega]; exact H79
            have H81 : St W w77 (SrcA b bs (p + (j + 1)) :: (F.set i emp)) := St.shut_ex (.slice pp64 bs.length cc65) (St.shut_star (ls := [blk b (.cells #[.bool true, .slice pp64 bs.length cc65, .int .i64 ((p + (j + 1) : Nat) : Int)] 121 (0, 0)), Im 1 (.slice pp64 bs.length cc65) bs.length (bs.flatMap u8c)]) H80)
            have H82 : St W w77 (SrcA b bs (p + (j + 1)) :: (F.set i emp)) := H81
            exact nx37 (j + 1) _ _ ⟨(by omega), H82⟩ (by first | (dsimp only; omega) | omega) ⟨by first | rfl | exact vint (by omega), by first | rfl | exact vint (by omega), by first | rfl | exact vint (by omega), by first | rfl | exact vint (by omega), by first | rfl | exact vint (by omega), by first | rfl | exact vint (by omega), trivial⟩
          · skip
            refine r_cons (s_lss false rfl rfl (dfalse hc38) rfl ?_)
            refine r_nil ?_
            refine g_seq ?_
            refine g_false rfl ?_
            refine g_exit (by rfl) ?_
            refine g_seq ?_
            refine g_region ?_
            refine r_cons (s_move (.int .u64 (valOf ((remB bs p).take j) : Int)) rfl rfl ?_)
            refine r_cons (s_assign (.int .u64 (valOf ((remB bs p).take j) : Int)) rfl rfl ?_)
            refine r_cons (s_assign (.int .i64 0) rfl rfl ?_)
            refine r_nil ?_
            refine g_ret' [.int .u64 (valOf ((remB bs p).take j) : Int), .int .i64 0] Try.func51 Try.results51 ⟨rfl, rfl, trivial⟩ ?_
            have H83 : St W w35 (SrcA b bs (p + j) :: (F.set i emp)) := H36
            obtain rfl : j = n.toNat := by omega
            exact ⟨by rw [hE, srcU_0 hE]; rfl, by rw [srcN_0 hE]; exact St.back hi H83⟩
set_option maxHeartbeats 4000000 in
set_option maxRecDepth 100000 in
theorem Src_back_ok {W w : World} {F : List Atom} (b : Nat) (bs : List UInt8) (p : Nat) (q : Int) (e : Int) (he : e = 0) {i : Nat} (hi : F[i]? = some (SrcA b bs p)) (H : St W w F) : Calls Try.prog 116 #[.pointer (some ⟨b, 0, none⟩), .int .i64 q, .int .i64 e] w (Ret fun v w' => v = .int .i64 e ∧ St W w' F) := by
  have H0 := H.front hi
  refine calls_of_go (n := 14) Try.func116 rfl Try.ntmps116 rfl ?_
  refine g_seq ?_
  refine g_region ?_
  refine r_cons (s_assign (.int .i64 0) rfl rfl ?_)
  refine r_nil ?_
  refine g_seq ?_
  refine g_seq ?_
  refine g_region ?_
  refine r_cons (s_move (.int .i64 e) rfl rfl ?_)
  refine r_cons (s_neq false rfl rfl (ntrue he) rfl ?_)
  refine r_nil ?_
  refine g_false rfl ?_
  refine g_skip ?_
  refine g_seq ?_
  refine g_region ?_
  refine r_cons (s_move (.int .i64 e) rfl rfl ?_)
  refine r_cons (s_assign (.int .i64 e) rfl rfl ?_)
  refine r_nil ?_
  refine g_ret' [.int .i64 e] Try.func116 Try.results116 ⟨rfl, trivial⟩ ?_
  have H1 : St W w (SrcA b bs p :: (F.set i emp)) := H0
  exact ⟨rfl, St.back_same hi H1⟩
set_option maxHeartbeats 4000000 in
set_option maxRecDepth 100000 in
theorem Src_back_no {W w : World} {F : List Atom} (b : Nat) (bs : List UInt8) (p : Nat) (q : Nat) (e : Int) (he : ¬ e = 0) {i : Nat} (hi : F[i]? = some (SrcA b bs p)) (H : St W w F) : Calls Try.prog 116 #[.pointer (some ⟨b, 0, none⟩), .int .i64 ((q : Nat) : Int), .int .i64 e] w (Ret fun v w' => v = .int .i64 e ∧ St W w' (F.set i (SrcA b bs q))) := by
  have H0 := H.front hi
  refine calls_of_go (n := 14) Try.func116 rfl Try.ntmps116 rfl ?_
  refine g_seq ?_
  refine g_region ?_
  refine r_cons (s_assign (.int .i64 0) rfl rfl ?_)
  refine r_nil ?_
  refine g_seq ?_
  refine g_seq ?_
  refine g_region ?_
  refine r_cons (s_move (.int .i64 e) rfl rfl ?_)
  refine r_cons (s_neq true rfl rfl (nfalse he) rfl ?_)
  refine r_nil ?_
  refine g_true rfl ?_
  refine g_region ?_
  refine r_cons (s_move (.pointer (some ⟨b, 0, none⟩)) rfl rfl ?_)
  refine r_cons (s_move (.int .i64 ((q : Nat) : Int)) rfl rfl ?_)
  refine r_cons (s_nilCheck (.pointer (some ⟨b, 0, none⟩)) rfl ⟨_, rfl⟩ rfl ?_)
  refine r_cons (s_fieldAddr 121 2 2 2 3 rfl fi_121_2 rfl rfl ?_)
  have H1 := H0.move 0 rfl
  obtain ⟨vv2, H3⟩ := St.open_ex H1
  have H4 := St.open_star H3
  obtain ⟨pp5, cc6, gA7, oA8, kA9, eA10, zA11, rfl, hn12, hp13, hx14, hs15, hml, H16⟩ := Im.open_ H4 (i := 1) rfl
  have H17 : St W w (imi (0 < bs.length) gA7 (.cells kA9 eA10 zA11) :: blk b (.cells #[.bool true, .slice pp5 bs.length cc6, .int .i64 ((p : Nat) : Int)] 121 (0, 0)) :: Im 1 (.slice pp5 bs.length cc6) bs.length (bs.flatMap u8c) :: (F.set i emp)) := H16
  refine r_cons (s_store H17 1 (.int .i64 ((q : Nat) : Int)) rfl rfl rfl sz_3 rfl (Nat.le_of_ble_eq_true rfl) rfl (cs' := #[.bool true, .slice pp5 bs.length cc6, .int .i64 ((q : Nat) : Int)]) rfl ?_); intro w18 H19
  refine r_nil ?_
  refine g_seq ?_
  refine g_region ?_
  refine r_cons (s_move (.int .i64 e) rfl rfl ?_)
  refine r_cons (s_assign (.int .i64 e) rfl rfl ?_)
  refine r_nil ?_
  refine g_ret' [.int .i64 e] Try.func116 Try.results116 ⟨rfl, trivial⟩ ?_
  have H20 : St W w18 (blk b (.cells #[.bool true, .slice pp5 bs.length cc6, .int .i64 ((q : Nat) : Int)] 121 (0, 0)) :: Im 1 (.slice pp5 bs.length cc6) bs.length (bs.flatMap u8c) :: (F.set i emp)) := (((H19.move 2 rfl).move 2 rfl).drop 2 rfl)
  have H21 : St W w18 (SrcA b bs q :: (F.set i emp)) := St.shut_ex (.slice pp5 bs.length cc6) (St.shut_star (ls := [blk b (.cells #[.bool true, .slice pp5 bs.length cc6, .int .i64 ((q : Nat) : Int)] 121 (0, 0)), Im 1 (.slice pp5 bs.length cc6) bs.length (bs.flatMap u8c)]) H20)
  have H22 : St W w18 (SrcA b bs q :: (F.set i emp)) := H21
  exact ⟨rfl, St.back hi H22⟩
set_option maxHeartbeats 4000000 in
set_option maxRecDepth 100000 in
theorem Src_Nat {W w : World} {F : List Atom} (b : Nat) (bs : List UInt8) (p : Nat) (hp : p ≤ 8 * bs.length) (hb : bs.length ≤ 140737488355328) {i : Nat} (hi : F[i]? = some (SrcA b bs p)) (H : St W w F) : Calls Try.prog 110 #[.pointer (some ⟨b, 0, none⟩)] w (Ret fun v w' => v = .tuple #[.int .u64 (natU (remB bs p) : Int), .int .i64 (natE (remB bs p))] ∧ St W w' (F.set i (SrcA b bs (p + natN (remB bs p))))) := by
  have H0 := H.front hi
  refine calls_of_go (n := 82) Try.func110 rfl Try.ntmps110 rfl ?_
  refine g_seq ?_
  refine g_region ?_
  refine r_cons (s_assign (.int .u64 0) rfl rfl ?_)
  refine r_cons (s_assign (.int .i64 0) rfl rfl ?_)
  refine r_nil ?_
  refine g_seq ?_
  refine g_seq ?_
  refine g_region ?_
  refine r_cons (s_move (.pointer (some ⟨b, 0, none⟩)) rfl rfl ?_)
  refine r_cons (s_peql false un_76 rfl rfl rfl rfl ?_)
  refine r_cons (s_move (.bool false) rfl rfl ?_)
  refine r_cons (r_take rfl rfl ?_)
  refine s_move (.pointer (some ⟨b, 0, none⟩)) rfl rfl ?_
  refine r_cons (r_take rfl rfl ?_)
  refine s_nilCheck (.pointer (some ⟨b, 0, none⟩)) rfl ⟨_, rfl⟩ rfl ?_
  refine r_cons (r_take rfl rfl ?_)
  refine s_fieldAddr 121 0 0 0 4 rfl fi_121_0 rfl rfl ?_
  refine r_cons (r_take rfl rfl ?_)
  have H1 := H0.move 0 rfl
  obtain ⟨vv2, H3⟩ := St.open_ex H1
  have H4 := St.open_star H3
  obtain ⟨pp5, cc6, gA7, oA8, kA9, eA10, zA11, rfl, hn12, hp13, hx14, hs15, hml, H16⟩ := Im.open_ H4 (i := 1) rfl
  have H17 : St W w (imi (0 < bs.length) gA7 (.cells kA9 eA10 zA11) :: blk b (.cells #[.bool true, .slice pp5 bs.length cc6, .int .i64 ((p : Nat) : Int)] 121 (0, 0)) :: Im 1 (.slice pp5 bs.length cc6) bs.length (bs.flatMap u8c) :: (F.set i emp)) := H16
  refine s_load (.bool true) ag_4 rfl (H17.blk_at (i := 1) rfl) rfl rfl ?_
  refine r_cons (r_take rfl rfl ?_)
  refine s_not true rfl false rfl rfl ?_
  refine r_cons (s_pick_f (.bool false) rfl rfl rfl ?_)
  refine r_nil ?_
  refine g_false rfl ?_
  refine g_skip ?_
  refine g_seq ?_
  refine g_region ?_
  refine r_cons (s_move (.pointer (some ⟨b, 0, none⟩)) rfl rfl ?_)
  refine r_cons (s_nilCheck (.pointer (some ⟨b, 0, none⟩)) rfl ⟨_, rfl⟩ rfl ?_)
  refine r_cons (s_fieldAddr 121 2 2 2 3 rfl fi_121_2 rfl rfl ?_)
  refine r_cons (s_load (.int .i64 ((p : Nat) : Int)) ag_3 rfl (H17.blk_at (i := 1) rfl) rfl rfl ?_)
  refine r_cons (s_assign (.int .i64 ((p : Nat) : Int)) rfl rfl ?_)
  refine r_nil ?_
  refine g_seq ?_
  refine g_region ?_
  refine r_cons (s_assign (.int .i64 0) rfl rfl ?_)
  refine r_nil ?_
  refine g_seq ?_
  refine g_block ?_
  have H18 : St W w (blk b (.cells #[.bool true, .slice pp5 bs.length cc6, .int .i64 ((p : Nat) : Int)] 121 (0, 0)) :: Im 1 (.slice pp5 bs.length cc6) bs.length (bs.flatMap u8c) :: (F.set i emp)) := (((H17.move 2 rfl).move 2 rfl).drop 2 rfl)
  have H19 : St W w (SrcA b bs p :: (F.set i emp)) := St.shut_ex (.slice pp5 bs.length cc6) (St.shut_star (ls := [blk b (.cells #[.bool true, .slice pp5 bs.length cc6, .int .i64 ((p : Nat) : Int)] 121 (0, 0)), Im 1 (.slice pp5 bs.length cc6) bs.length (bs.flatMap u8c)]) H18)
  have H20 : St W w (SrcA b bs p :: (F.set i emp)) := H19
  have hL := remB_len bs p
  refine g_loop_inv (fun (x_ : Nat) => match x_ with | k => [(0, .pointer (some ⟨b, 0, none⟩)), (2, .int .u64 0), (3, .int .i64 0), (4, .int .i64 ((p : Nat) : Int)), (5, .int .i64 (k : Int))]) (fun (x_ : Nat) w => match x_ with | k => (k ≤ 65) ∧ (k ≤ (remB bs p).length) ∧ (∀ j, j < k → (remB bs p).getD j false = false) ∧ St W w (SrcA b bs p :: (F.set i emp))) (fun (x_ : Nat) => match x_ with | k => 65 - k) (0) ?_ ?_ ?_
  · exact ⟨by first | rfl | exact vint (by omega), by first | rfl | exact vint (by omega), by first | rfl | exact vint (by omega), by first | rfl | exact vint (by omega), by first | rfl | exact vint (by omega), trivial⟩
  · exact ⟨(by omega), (by omega), (fun j hj => by omega), H20⟩
  · rintro k ρ21 w22 ⟨hk, hkr, hz, H23⟩ nx24
    change Ends _ _ (upds ρ21 [(0, .pointer (some ⟨b, 0, none⟩)), (2, .int .u64 0), (3, .int .i64 0), (4, .int .i64 ((p : Nat) : Int)), (5, .int .i64 (k : Int))]) w22
    refine g_seq ?_
    refine g_seq ?_
    refine g_region ?_
    refine r_cons (s_move (.int .i64 (k : Int)) rfl rfl ?_)
    by_cases hc25 : (k : Int) < 65
    · skip
      refine r_cons (s_lss true rfl rfl (dtrue hc25) rfl ?_)
      refine r_cons (s_move (.bool true) rfl rfl ?_)
      refine r_cons (r_take rfl rfl ?_)
      refine s_move (.int .i64 (k : Int)) rfl rfl ?_
      refine r_cons (r_take rfl rfl ?_)
      refine s_move (.pointer (some ⟨b, 0, none⟩)) rfl rfl ?_
      refine r_cons (r_take rfl rfl ?_)
      refine s_call [.pointer (some ⟨b, 0, none⟩)] pl_54 rfl rfl (Src_Left b bs p (by first | omega | decide +kernel | (repeat (first | assumption | exact Nat.zero_le _ | refine natN_pos ?_ | refine srcN_pos ?_ | refine textN_pos ?_))) (by first | omega | decide +kernel)   (i := 0) rfl H23) ?_
      rintro _ w26 ⟨rfl, H27⟩
      refine r_cons (r_take rfl rfl ?_)
      by_cases hc28 : (k : Int) < ((remB bs p).length : Int)
      · skip
        refine s_lss true rfl rfl (dtrue hc28) rfl ?_
        refine r_cons (s_pick_t (.bool true) rfl rfl rfl ?_)
        refine r_cons (s_move (.bool true) rfl rfl ?_)
        refine r_cons (r_take rfl rfl ?_)
        refine s_move (.pointer (some ⟨b, 0, none⟩)) rfl rfl ?_
        refine r_cons (r_take rfl rfl ?_)
        refine s_move (.int .i64 ((p : Nat) : Int)) rfl rfl ?_
        refine r_cons (r_take rfl rfl ?_)
        refine s_move (.int .i64 (k : Int)) rfl rfl ?_
        refine r_cons (r_take rfl rfl ?_)
        refine s_add (((p : Nat) : Int) + (k : Int)) rfl rfl (wi64 (by omega)) rfl ?_
        refine r_cons (r_take rfl rfl ?_)
        refine s_call [.pointer (some ⟨b, 0, none⟩), .int .i64 (((p : Nat) : Int) + (k : Int))] pl_83 rfl rfl (Src_bit b bs p (by first | omega | decide +kernel | (repeat (first | assumption | exact Nat.zero_le _ | refine natN_pos ?_ | refine srcN_pos ?_ | refine textN_pos ?_))) (by first | omega | decide +kernel) (p + k) (by omega) (i := 0) rfl H27) ?_
        rintro _ w29 ⟨rfl, H30⟩
        refine r_cons (r_take rfl rfl ?_)
        by_cases hc31 : ((bitAt bs (p + k)).toNat : Int) = 0
        · skip
          refine s_eql true rfl rfl (dtrue hc31) rfl ?_
          refine r_cons (s_pick_t (.bool true) rfl rfl rfl ?_)
          refine r_nil ?_
          refine g_true rfl ?_
          refine g_skip ?_
          refine g_block ?_
          refine g_region ?_
          refine r_cons (s_move (.int .i64 (k : Int)) rfl rfl ?_)
          refine r_cons (s_add ((k : Int) + 1) rfl rfl (wi64 (by omega)) rfl ?_)
          refine r_cons (s_assign (.int .i64 ((k : Int) + 1)) rfl rfl ?_)
          refine r_nil ?_
          refine g_inBlock ?_
          have H32 : St W w29 (SrcA b bs p :: (F.set i emp)) := H30
          have hbit : bitAt bs (p + k) = false := toNat_1.1 ‹_›
          exact nx24 (k + 1) _ _ ⟨(by omega), (by omega), (fun j hj => (Nat.lt_or_ge j k).elim (hz j) (fun h => by rw [show j = k from by omega, remB_getD (by omega)]; exact hbit)), H32⟩ (by first | (dsimp only; omega) | omega) ⟨by first | rfl | exact vint (by omega), by first | rfl | exact vint (by omega), by first | rfl | exact vint (by omega), by first | rfl | exact vint (by omega), by first | rfl | exact vint (by omega), trivial⟩
        · skip
          refine s_eql false rfl rfl (dfalse hc31) rfl ?_
          refine r_cons (s_pick_t (.bool false) rfl rfl rfl ?_)
          refine r_nil ?_
          refine g_false rfl ?_
          refine g_exit (by rfl) ?_
          refine g_seq ?_
          refine g_block ?_
          refine g_seq ?_
          refine g_region ?_
          have hzz : zeros (remB bs p) = k := zeros_is hk hkr hz (by first | (left; omega) | (right; left; omega) | (right; right; rw [remB_getD (by omega)]; exact Bool.of_not_eq_false fun h => absurd (toNat_1.2 h) ‹_›))
          clear hz
          refine r_cons (s_move (.int .i64 (k : Int)) rfl rfl ?_)
          refine r_cons (s_eql false rfl rfl (dfalse (by omega)) rfl ?_)
          refine r_cons (s_assign (.bool false) rfl rfl ?_)
          refine r_nil ?_
          refine g_false rfl ?_
          refine g_seq ?_
          refine g_region ?_
          refine r_cons (s_move (.pointer (some ⟨b, 0, none⟩)) rfl rfl ?_)
          refine r_cons (s_call [.pointer (some ⟨b, 0, none⟩)] pl_54 rfl rfl (Src_Left b bs p (by first | omega | decide +kernel | (repeat (first | assumption | exact Nat.zero_le _ | refine natN_pos ?_ | refine srcN_pos ?_ | refine textN_pos ?_))) (by first | omega | decide +kernel)   (i := 0) rfl H30) ?_)
          rintro _ w33 ⟨rfl, H34⟩
          refine r_cons (s_move (.int .i64 (k : Int)) rfl rfl ?_)
          refine r_cons (s_mul (2 * (k : Int)) rfl rfl (wi64 (by omega)) rfl ?_)
          refine r_cons (s_add (2 * (k : Int) + 1) rfl rfl (wi64 (by omega)) rfl ?_)
          by_cases hc35 : ((remB bs p).length : Int) < 2 * (k : Int) + 1
          · skip
            refine r_cons (s_lss true rfl rfl (dtrue hc35) rfl ?_)
            refine r_cons (s_assign (.bool true) rfl rfl ?_)
            refine r_nil ?_
            refine g_true rfl ?_
            refine g_seq ?_
            refine g_region ?_
            refine r_cons (s_assign (.int .u64 0) rfl rfl ?_)
            refine r_cons (s_assign (.int .i64 10) rfl rfl ?_)
            refine r_nil ?_
            refine g_ret' [.int .u64 0, .int .i64 10] Try.func110 Try.results110 ⟨rfl, rfl, trivial⟩ ?_
            have H36 : St W w33 (SrcA b bs p :: (F.set i emp)) := H34
            have hE : natE (remB bs p) = 10 := natE_10 (by omega) (by omega)
            have hE0 : ¬ natE (remB bs p) = 0 := by rw [hE]; decide
            exact ⟨by rw [natU_no hE0, hE]; rfl, by rw [natN_no hE0]; exact St.back hi H36⟩
          · skip
            refine r_cons (s_lss false rfl rfl (dfalse hc35) rfl ?_)
            refine r_cons (s_assign (.bool false) rfl rfl ?_)
            refine r_nil ?_
            refine g_false rfl ?_
            refine g_skip ?_
            refine g_inBlock ?_
            refine g_seq ?_
            refine g_region ?_
            refine r_cons (s_move (.pointer (some ⟨b, 0, none⟩)) rfl rfl ?_)
            refine r_cons (s_nilCheck (.pointer (some ⟨b, 0, none⟩)) rfl ⟨_, rfl⟩ rfl ?_)
            refine r_cons (s_fieldAddr 121 2 2 2 3 rfl fi_121_2 rfl rfl ?_)
            have H37 := H34.move 0 rfl
            obtain ⟨vv38, H39⟩ := St.open_ex H37
            have H40 := St.open_star H39
            obtain ⟨pp41, cc42, gA43, oA44, kA45, eA46, zA47, rfl, hn48, hp49, hx50, hs51, hml, H52⟩ := Im.open_ H40 (i := 1) rfl
            have H53 : St W w33 (imi (0 < bs.length) gA43 (.cells kA45 eA46 zA47) :: blk b (.cells #[.bool true, .slice pp41 bs.length cc42, .int .i64 ((p : Nat) : Int)] 121 (0, 0)) :: Im 1 (.slice pp41 bs.length cc42) bs.length (bs.flatMap u8c) :: (F.set i emp)) := H52
            refine r_cons (s_load (.int .i64 ((p : Nat) : Int)) ag_3 rfl (H53.blk_at (i := 1) rfl) rfl rfl ?_)
            refine r_cons (s_move (.int .i64 (k : Int)) rfl rfl ?_)
            refine r_cons (s_add ((k : Int) + 1) rfl rfl (wi64 (by omega)) rfl ?_)
            refine r_cons (s_add (((p : Nat) : Int) + ((k : Int) + 1)) rfl rfl (wi64 (by omega)) rfl ?_)
            refine r_cons (s_nilCheck (.pointer (some ⟨b, 0, none⟩)) rfl ⟨_, rfl⟩ rfl ?_)
            refine r_cons (s_fieldAddr 121 2 2 2 3 rfl fi_121_2 rfl rfl ?_)
            refine r_cons (s_store H53 1 (.int .i64 (((p : Nat) : Int) + ((k : Int) + 1))) rfl rfl rfl sz_3 rfl (Nat.le_of_ble_eq_true rfl) rfl (cs' := #[.bool true, .slice pp41 bs.length cc42, .int .i64 (((p : Nat) : Int) + ((k : Int) + 1))]) rfl ?_); intro w54 H55
            refine r_nil ?_
            refine g_seq ?_
            refine g_region ?_
            have hL1 := remB_len bs (p + k + 1)
            have he : srcE (remB bs (p + k + 1)) (k : Int) = 0 := srcE_0 (by omega) (by omega)
            have hu1 : srcU (remB bs (p + k + 1)) (k : Int) = valOf (((remB bs p).drop (zeros (remB bs p) + 1)).take (zeros (remB bs p))) := by rw [srcU_0 he, hzz, Int.toNat_natCast, remB_drop, Nat.add_assoc]
            have hu2 := srcU_lt_pow (R := remB bs (p + k + 1)) (k := k)
            have hN1 : srcN (remB bs (p + k + 1)) (k : Int) = k := by rw [srcN_0 he]; exact Int.toNat_natCast k
            refine r_cons (s_move (.pointer (some ⟨b, 0, none⟩)) rfl rfl ?_)
            refine r_cons (s_move (.int .i64 (k : Int)) rfl rfl ?_)
            have H56 : St W w54 (blk b (.cells #[.bool true, .slice pp41 bs.length cc42, .int .i64 (((p : Nat) : Int) + ((k : Int) + 1))] 121 (0, 0)) :: Im 1 (.slice pp41 bs.length cc42) bs.length (bs.flatMap u8c) :: (F.set i emp)) := (((H55.move 2 rfl).move 2 rfl).drop 2 rfl)
            have H57 : St W w54 (blk b (.cells #[.bool true, .slice pp41 bs.length cc42, .int .i64 ((p + k + 1 : Nat) : Int)] 121 (0, 0)) :: Im 1 (.slice pp41 bs.length cc42) bs.length (bs.flatMap u8c) :: (F.set i emp)) := by rw [show ((p + k + 1 : Nat) : Int) = ((p : Nat) : Int) + ((k : Int) + 1) from by omega]; exact H56
            have H58 : St W w54 (SrcA b bs (p + k + 1) :: (F.set i emp)) := St.shut_ex (.slice pp41 bs.length cc42) (St.shut_star (ls := [blk b (.cells #[.bool true, .slice pp41 bs.length cc42, .int .i64 ((p + k + 1 : Nat) : Int)] 121 (0, 0)), Im 1 (.slice pp41 bs.length cc42) bs.length (bs.flatMap u8c)]) H57)
            refine r_cons (s_call [.pointer (some ⟨b, 0, none⟩), .int .i64 (k : Int)] pl_51 rfl rfl (Src_Bits b bs (p + k + 1) (by first | omega | decide +kernel | (repeat (first | assumption | exact Nat.zero_le _ | refine natN_pos ?_ | refine srcN_pos ?_ | refine textN_pos ?_))) (by first | omega | decide +kernel) (k : Int)  (i := 0) rfl H58) ?_)
            rintro _ w59 ⟨rfl, H60⟩
            refine r_cons (s_move (.tuple #[.int .u64 (srcU (remB bs (p + k + 1)) (k : Int) : Int), .int .i64 (srcE (remB bs (p + k + 1)) (k : Int))]) rfl rfl ?_)
            refine r_cons (s_extract (.int .u64 (srcU (remB bs (p + k + 1)) (k : Int) : Int)) #[.int .u64 (srcU (remB bs (p + k + 1)) (k : Int) : Int), .int .i64 (srcE (remB bs (p + k + 1)) (k : Int))] rfl rfl rfl ?_)
            refine r_cons (s_extract (.int .i64 (srcE (remB bs (p + k + 1)) (k : Int))) #[.int .u64 (srcU (remB bs (p + k + 1)) (k : Int) : Int), .int .i64 (srcE (remB bs (p + k + 1)) (k : Int))] rfl rfl rfl ?_)
            refine r_cons (s_assign (.int .u64 (srcU (remB bs (p + k + 1)) (k : Int) : Int)) rfl rfl ?_)
            refine r_cons (s_assign (.int .i64 (srcE (remB bs (p + k + 1)) (k : Int))) rfl rfl ?_)
            refine r_nil ?_
            refine g_seq ?_
            refine g_seq ?_
            refine g_region ?_
            refine r_cons (s_move (.pointer (some ⟨b, 0, none⟩)) rfl rfl ?_)
            refine r_cons (s_move (.int .i64 ((p : Nat) : Int)) rfl rfl ?_)
            refine r_cons (s_move (.int .i64 (srcE (remB bs (p + k + 1)) (k : Int))) rfl rfl ?_)
            refine r_cons (s_call [.pointer (some ⟨b, 0, none⟩), .int .i64 ((p : Nat) : Int), .int .i64 (srcE (remB bs (p + k + 1)) (k : Int))] pl_116 rfl rfl (Src_back_ok b bs (p + k + 1 + srcN (remB bs (p + k + 1)) (k : Int)) ((p : Nat) : Int) (srcE (remB bs (p + k + 1)) (k : Int)) he (i := 0) rfl H60) ?_)
            rintro _ w61 ⟨rfl, H62⟩
            refine r_cons (s_neq false rfl rfl (ntrue he) rfl ?_)
            refine r_nil ?_
            refine g_false rfl ?_
            refine g_skip ?_
            refine g_seq ?_
            refine g_seq ?_
            refine g_region ?_
            refine r_cons (s_move (.int .i64 (k : Int)) rfl rfl ?_)
            by_cases hc63 : (k : Int) = 64
            · skip
              refine r_cons (s_eql true rfl rfl (dtrue hc63) rfl ?_)
              refine r_nil ?_
              refine g_true rfl ?_
              refine g_seq ?_
              refine g_seq ?_
              refine g_region ?_
              refine r_cons (s_move (.int .u64 (srcU (remB bs (p + k + 1)) (k : Int) : Int)) rfl rfl ?_)
              by_cases hc64 : (srcU (remB bs (p + k + 1)) (k : Int) : Int) = 0
              · skip
                refine r_cons (s_neq false rfl rfl (ntrue hc64) rfl ?_)
                refine r_nil ?_
                refine g_false rfl ?_
                refine g_skip ?_
                refine g_seq ?_
                refine g_region ?_
                refine r_cons (s_assign (.int .u64 18446744073709551615) rfl rfl ?_)
                refine r_cons (s_assign (.int .i64 0) rfl rfl ?_)
                refine r_nil ?_
                refine g_ret' [.int .u64 18446744073709551615, .int .i64 0] Try.func110 Try.results110 ⟨rfl, rfl, trivial⟩ ?_
                have H65 : St W w61 (SrcA b bs (p + k + 1 + srcN (remB bs (p + k + 1)) (k : Int)) :: (F.set i emp)) := H62
                have hE : natE (remB bs p) = 0 := natE_0 (by omega) (by omega) (by rw [← hu1]; omega)
                have hN : natN (remB bs p) = k + 1 + k := by rw [natN_0 hE]; omega
                have hU : natU (remB bs p) = 18446744073709551615 := by exact natU_64 hE (by omega)
                have hP : p + natN (remB bs p) = p + k + 1 + srcN (remB bs (p + k + 1)) (k : Int) := by rw [hN, hN1]; omega
                have hv : (natU (remB bs p) : Int) = 18446744073709551615 := by rw [hU]; rfl
                exact ⟨by rw [hE, hv]; rfl, by rw [hP]; exact St.back hi H65⟩
              · skip
                refine r_cons (s_neq true rfl rfl (nfalse hc64) rfl ?_)
                refine r_nil ?_
                refine g_true rfl ?_
                refine g_seq ?_
                refine g_region ?_
                refine r_cons (s_move (.pointer (some ⟨b, 0, none⟩)) rfl rfl ?_)
                refine r_cons (s_move (.int .i64 ((p : Nat) : Int)) rfl rfl ?_)
                refine r_cons (s_call [.pointer (some ⟨b, 0, none⟩), .int .i64 ((p : Nat) : Int), .int .i64 11] pl_116 rfl rfl (Src_back_no b bs (p + k + 1 + srcN (remB bs (p + k + 1)) (k : Int)) (p) 11 (by decide) (i := 0) rfl H62) ?_)
                rintro _ w66 ⟨rfl, H67⟩
                refine r_cons (s_assign (.int .u64 0) rfl rfl ?_)
                refine r_cons (s_assign (.int .i64 11) rfl rfl ?_)
                refine r_nil ?_
                refine g_ret' [.int .u64 0, .int .i64 11] Try.func110 Try.results110 ⟨rfl, rfl, trivial⟩ ?_
                have H68 : St W w66 (SrcA b bs p :: (F.set i emp)) := H67
                have hE : natE (remB bs p) = 11 := by first | exact natE_65 (by omega) | exact natE_11 (by omega) (by omega) (by rw [← hu1]; omega)
                have hE0 : ¬ natE (remB bs p) = 0 := by rw [hE]; decide
                exact ⟨by rw [natU_no hE0, hE]; rfl, by rw [natN_no hE0]; exact St.back hi H68⟩
            · skip
              refine r_cons (s_eql false rfl rfl (dfalse hc63) rfl ?_)
              refine r_nil ?_
              refine g_false rfl ?_
              refine g_skip ?_
              refine g_seq ?_
              refine g_region ?_
              have hpw := pow_le63 (k := k) (by omega)
              refine r_cons (s_move (.int .u64 (srcU (remB bs (p + k + 1)) (k : Int) : Int)) rfl rfl ?_)
              refine r_cons (s_move (.int .i64 (k : Int)) rfl rfl ?_)
              refine r_cons (s_shl ((2 ^ k : Nat) : Int) rfl rfl (by omega) (shl_one rfl (by omega)) rfl ?_)
              have hq : 0 < 2 ^ k := Nat.pow_pos (by decide)
              refine r_cons (s_add ((srcU (remB bs (p + k + 1)) (k : Int) + 2 ^ k : Nat) : Int) rfl rfl ((wu64 (by generalize 2 ^ k = q at *; omega)).trans (by generalize 2 ^ k = q at *; omega)) rfl ?_)
              refine r_cons (s_sub ((srcU (remB bs (p + k + 1)) (k : Int) + 2 ^ k - 1 : Nat) : Int) rfl rfl ((wu64 (by generalize 2 ^ k = q at *; omega)).trans (by generalize 2 ^ k = q at *; omega)) rfl ?_)
              refine r_cons (s_assign (.int .u64 ((srcU (remB bs (p + k + 1)) (k : Int) + 2 ^ k - 1 : Nat) : Int)) rfl rfl ?_)
              refine r_cons (s_assign (.int .i64 0) rfl rfl ?_)
              refine r_nil ?_
              refine g_ret' [.int .u64 ((srcU (remB bs (p + k + 1)) (k : Int) + 2 ^ k - 1 : Nat) : Int), .int .i64 0] Try.func110 Try.results110 ⟨rfl, rfl, trivial⟩ ?_
              have H69 : St W w61 (SrcA b bs (p + k + 1 + srcN (remB bs (p + k + 1)) (k : Int)) :: (F.set i emp)) := H62
              have hE : natE (remB bs p) = 0 := natE_0 (by omega) (by omega) (by rw [← hu1]; omega)
              have hN : natN (remB bs p) = k + 1 + k := by rw [natN_0 hE]; omega
              have hU : natU (remB bs p) = valOf (((remB bs p).drop (zeros (remB bs p) + 1)).take (zeros (remB bs p))) + 2 ^ k - 1 := by rw [natU_is hE (by omega), hzz]
              have hP : p + natN (remB bs p) = p + k + 1 + srcN (remB bs (p + k + 1)) (k : Int) := by rw [hN, hN1]; omega
              have hv : (natU (remB bs p) : Int) = ((srcU (remB bs (p + k + 1)) (k : Int) + 2 ^ k - 1 : Nat) : Int) := by rw [hU, ← hu1]; skip
              exact ⟨by rw [hE, hv]; rfl, by rw [hP]; exact St.back hi H69⟩
      · skip
        refine s_lss false rfl rfl (dfalse hc28) rfl ?_
        refine r_cons (s_pick_t (.bool false) rfl rfl rfl ?_)
        refine r_cons (s_move (.bool false) rfl rfl ?_)
        refine r_cons (r_pass rfl rfl rfl rfl rfl ?_)
        refine r_cons (r_pass rfl rfl rfl rfl rfl ?_)
        refine r_cons (r_pass rfl rfl rfl rfl rfl ?_)
        refine r_cons (r_pass rfl rfl rfl rfl rfl ?_)
        refine r_cons (r_pass rfl rfl rfl rfl rfl ?_)
        refine r_cons (r_pass rfl rfl rfl rfl rfl ?_)
        refine r_cons (s_pick_f (.bool false) rfl rfl rfl ?_)
        refine r_nil ?_
        refine g_false rfl ?_
        refine g_exit (by rfl) ?_
        refine g_seq ?_
        refine g_block ?_
        refine g_seq ?_
        refine g_region ?_
        have hzz : zeros (remB bs p) = k := zeros_is hk hkr hz (by first | (left; omega) | (right; left; omega) | (right; right; rw [remB_getD (by omega)]; exact Bool.of_not_eq_false fun h => absurd (toNat_1.2 h) ‹_›))
        clear hz
        refine r_cons (s_move (.int .i64 (k : Int)) rfl rfl ?_)
        refine r_cons (s_eql false rfl rfl (dfalse (by omega)) rfl ?_)
        refine r_cons (s_assign (.bool false) rfl rfl ?_)
        refine r_nil ?_
        refine g_false rfl ?_
        refine g_seq ?_
        refine g_region ?_
        refine r_cons (s_move (.pointer (some ⟨b, 0, none⟩)) rfl rfl ?_)
        refine r_cons (s_call [.pointer (some ⟨b, 0, none⟩)] pl_54 rfl rfl (Src_Left b bs p (by first | omega | decide +kernel | (repeat (first | assumption | exact Nat.zero_le _ | refine natN_pos ?_ | refine srcN_pos ?_ | refine textN_pos ?_))) (by first | omega | decide +kernel)   (i := 0) rfl H27) ?_)
        rintro _ w70 ⟨rfl, H71⟩
        refine r_cons (s_move (.int .i64 (k : Int)) rfl rfl ?_)
        refine r_cons (s_mul (2 * (k : Int)) rfl rfl (wi64 (by omega)) rfl ?_)
        refine r_cons (s_add (2 * (k : Int) + 1) rfl rfl (wi64 (by omega)) rfl ?_)
        by_cases hc72 : ((remB bs p).length : Int) < 2 * (k : Int) + 1
        · skip
          refine r_cons (s_lss true rfl rfl (dtrue hc72) rfl ?_)
          refine r_cons (s_assign (.bool true) rfl rfl ?_)
          refine r_nil ?_
          refine g_true rfl ?_
          refine g_seq ?_
          refine g_region ?_
          refine r_cons (s_assign (.int .u64 0) rfl rfl ?_)
          refine r_cons (s_assign (.int .i64 10) rfl rfl ?_)
          refine r_nil ?_
          refine g_ret' [.int .u64 0, .int .i64 10] Try.func110 Try.results110 ⟨rfl, rfl, trivial⟩ ?_
          have H73 : St W w70 (SrcA b bs p :: (F.set i emp)) := H71
          have hE : natE (remB bs p) = 10 := natE_10 (by omega) (by omega)
          have hE0 : ¬ natE (remB bs p) = 0 := by rw [hE]; decide
          exact ⟨by rw [natU_no hE0, hE]; rfl, by rw [natN_no hE0]; exact St.back hi H73⟩
        · skip
          refine r_cons (s_lss false rfl rfl (dfalse hc72) rfl ?_)
          refine r_cons (s_assign (.bool false) rfl rfl ?_)
          refine r_nil ?_
          refine g_false rfl ?_
          refine g_skip ?_
          refine g_inBlock ?_
          refine g_seq ?_
          refine g_region ?_
          refine r_cons (s_move (.pointer (some ⟨b, 0, none⟩)) rfl rfl ?_)
          refine r_cons (s_nilCheck (.pointer (some ⟨b, 0, none⟩)) rfl ⟨_, rfl⟩ rfl ?_)
          refine r_cons (s_fieldAddr 121 2 2 2 3 rfl fi_121_2 rfl rfl ?_)
          have H74 := H71.move 0 rfl
          obtain ⟨vv75, H76⟩ := St.open_ex H74
          have H77 := St.open_star H76
          obtain ⟨pp78, cc79, gA80, oA81, kA82, eA83, zA84, rfl, hn85, hp86, hx87, hs88, hml, H89⟩ := Im.open_ H77 (i := 1) rfl
          have H90 : St W w70 (imi (0 < bs.length) gA80 (.cells kA82 eA83 zA84) :: blk b (.cells #[.bool true, .slice pp78 bs.length cc79, .int .i64 ((p : Nat) : Int)] 121 (0, 0)) :: Im 1 (.slice pp78 bs.length cc79) bs.length (bs.flatMap u8c) :: (F.set i emp)) := H89
          refine r_cons (s_load (.int .i64 ((p : Nat) : Int)) ag_3 rfl (H90.blk_at (i := 1) rfl) rfl rfl ?_)
          refine r_cons (s_move (.int .i64 (k : Int)) rfl rfl ?_)
          refine r_cons (s_add ((k : Int) + 1) rfl rfl (wi64 (by omega)) rfl ?_)
          refine r_cons (s_add (((p : Nat) : Int) + ((k : Int) + 1)) rfl rfl (wi64 (by omega)) rfl ?_)
          refine r_cons (s_nilCheck (.pointer (some ⟨b, 0, none⟩)) rfl ⟨_, rfl⟩ rfl ?_)
          refine r_cons (s_fieldAddr 121 2 2 2 3 rfl fi_121_2 rfl rfl ?_)
          refine r_cons (s_store H90 1 (.int .i64 (((p : Nat) : Int) + ((k : Int) + 1))) rfl rfl rfl sz_3 rfl (Nat.le_of_ble_eq_true rfl) rfl (cs' := #[.bool true, .slice pp78 bs.length cc79, .int .i64 (((p : Nat) : Int) + ((k : Int) + 1))]) rfl ?_); intro w91 H92
          refine r_nil ?_
          refine g_seq ?_
          refine g_region ?_
          have hL1 := remB_len bs (p + k + 1)
          have he : srcE (remB bs (p + k + 1)) (k : Int) = 0 := srcE_0 (by omega) (by omega)
          have hu1 : srcU (remB bs (p + k + 1)) (k : Int) = valOf (((remB bs p).drop (zeros (remB bs p) + 1)).take (zeros (remB bs p))) := by rw [srcU_0 he, hzz, Int.toNat_natCast, remB_drop, Nat.add_assoc]
          have hu2 := srcU_lt_pow (R := remB bs (p + k + 1)) (k := k)
          have hN1 : srcN (remB bs (p + k + 1)) (k : Int) = k := by rw [srcN_0 he]; exact Int.toNat_natCast k
          refine r_cons (s_move (.pointer (some ⟨b, 0, none⟩)) rfl rfl ?_)
          refine r_cons (s_move (.int .i64 (k : Int)) rfl rfl ?_)
          have H93 : St W w91 (blk b (.cells #[.bool true, .slice pp78 bs.length cc79, .int .i64 (((p : Nat) : Int) + ((k : Int) + 1))] 121 (0, 0)) :: Im 1 (.slice pp78 bs.length cc79) bs.length (bs.flatMap u8c) :: (F.set i emp)) := (((H92.move 2 rfl).move 2 rfl).drop 2 rfl)
          have H94 : St W w91 (blk b (.cells #[.bool true, .slice pp78 bs.length cc79, .int .i64 ((p + k + 1 : Nat) : Int)] 121 (0, 0)) :: Im 1 (.slice pp78 bs.length cc79) bs.length (bs.flatMap u8c) :: (F.set i emp)) := by rw [show ((p + k + 1 : Nat) : Int) = ((p : Nat) : Int) + ((k : Int) + 1) from by omega]; exact H93
          have H95 : St W w91 (SrcA b bs (p + k + 1) :: (F.set i emp)) := St.shut_ex (.slice pp78 bs.length cc79) (St.shut_star (ls := [blk b (.cells #[.bool true, .slice pp78 bs.length cc79, .int .i64 ((p + k + 1 : Nat) : Int)] 121 (0, 0)), Im 1 (.slice pp78 bs.length cc79) bs.length (bs.flatMap u8c)]) H94)
          refine r_cons (s_call [.pointer (some ⟨b, 0, none⟩), .int .i64 (k : Int)] pl_51 rfl rfl (Src_Bits b bs (p + k + 1) (by first | omega | decide +kernel | (repeat (first | assumption | exact Nat.zero_le _ | refine natN_pos ?_ | refine srcN_pos ?_ | refine textN_pos ?_))) (by first | omega | decide +kernel) (k : Int)  (i := 0) rfl H95) ?_)
          rintro _ w96 ⟨rfl, H97⟩
          refine r_cons (s_move (.tuple #[.int .u64 (srcU (remB bs (p + k + 1)) (k : Int) : Int), .int .i64 (srcE (remB bs (p + k + 1)) (k : Int))]) rfl rfl ?_)
          refine r_cons (s_extract (.int .u64 (srcU (remB bs (p + k + 1)) (k : Int) : Int)) #[.int .u64 (srcU (remB bs (p + k + 1)) (k : Int) : Int), .int .i64 (srcE (remB bs (p + k + 1)) (k : Int))] rfl rfl rfl ?_)
          refine r_cons (s_extract (.int .i64 (srcE (remB bs (p + k + 1)) (k : Int))) #[.int .u64 (srcU (remB bs (p + k + 1)) (k : Int) : Int), .int .i64 (srcE (remB bs (p + k + 1)) (k : Int))] rfl rfl rfl ?_)
          refine r_cons (s_assign (.int .u64 (srcU (remB bs (p + k + 1)) (k : Int) : Int)) rfl rfl ?_)
          refine r_cons (s_assign (.int .i64 (srcE (remB bs (p + k + 1)) (k : Int))) rfl rfl ?_)
          refine r_nil ?_
          refine g_seq ?_
          refine g_seq ?_
          refine g_region ?_
          refine r_cons (s_move (.pointer (some ⟨b, 0, none⟩)) rfl rfl ?_)
          refine r_cons (s_move (.int .i64 ((p : Nat) : Int)) rfl rfl ?_)
          refine r_cons (s_move (.int .i64 (srcE (remB bs (p + k + 1)) (k : Int))) rfl rfl ?_)
          refine r_cons (s_call [.pointer (some ⟨b, 0, none⟩), .int .i64 ((p : Nat) : Int), .int .i64 (srcE (remB bs (p + k + 1)) (k : Int))] pl_116 rfl rfl (Src_back_ok b bs (p + k + 1 + srcN (remB bs (p + k + 1)) (k : Int)) ((p : Nat) : Int) (srcE (remB bs (p + k + 1)) (k : Int)) he (i := 0) rfl H97) ?_)
          rintro _ w98 ⟨rfl, H99⟩
          refine r_cons (s_neq false rfl rfl (ntrue he) rfl ?_)
          refine r_nil ?_
          refine g_false rfl ?_
          refine g_skip ?_
          refine g_seq ?_
          refine g_seq ?_
          refine g_region ?_
          refine r_cons (s_move (.int .i64 (k : Int)) rfl rfl ?_)
          by_cases hc100 : (k : Int) = 64
          · skip
            refine r_cons (s_eql true rfl rfl (dtrue hc100) rfl ?_)
            refine r_nil ?_
            refine g_true rfl ?_
            refine g_seq ?_
            refine g_seq ?_
            refine g_region ?_
            refine r_cons (s_move (.int .u64 (srcU (remB bs (p + k + 1)) (k : Int) : Int)) rfl rfl ?_)
            by_cases hc101 : (srcU (remB bs (p + k + 1)) (k : Int) : Int) = 0
            · skip
              refine r_cons (s_neq false rfl rfl (ntrue hc101) rfl ?_)
              refine r_nil ?_
              refine g_false rfl ?_
              refine g_skip ?_
              refine g_seq ?_
              refine g_region ?_
              refine r_cons (s_assign (.int .u64 18446744073709551615) rfl rfl ?_)
              refine r_cons (s_assign (.int .i64 0) rfl rfl ?_)
              refine r_nil ?_
              refine g_ret' [.int .u64 18446744073709551615, .int .i64 0] Try.func110 Try.results110 ⟨rfl, rfl, trivial⟩ ?_
              have H102 : St W w98 (SrcA b bs (p + k + 1 + srcN (remB bs (p + k + 1)) (k : Int)) :: (F.set i emp)) := H99
              have hE : natE (remB bs p) = 0 := natE_0 (by omega) (by omega) (by rw [← hu1]; omega)
              have hN : natN (remB bs p) = k + 1 + k := by rw [natN_0 hE]; omega
              have hU : natU (remB bs p) = 18446744073709551615 := by exact natU_64 hE (by omega)
              have hP : p + natN (remB bs p) = p + k + 1 + srcN (remB bs (p + k + 1)) (k : Int) := by rw [hN, hN1]; omega
              have hv : (natU (remB bs p) : Int) = 18446744073709551615 := by rw [hU]; rfl
              exact ⟨by rw [hE, hv]; rfl, by rw [hP]; exact St.back hi H102⟩
            · skip
              refine r_cons (s_neq true rfl rfl (nfalse hc101) rfl ?_)
              refine r_nil ?_
              refine g_true rfl ?_
              refine g_seq ?_
              refine g_region ?_
              refine r_cons (s_move (.pointer (some ⟨b, 0, none⟩)) rfl rfl ?_)
              refine r_cons (s_move (.int .i64 ((p : Nat) : Int)) rfl rfl ?_)
              refine r_cons (s_call [.pointer (some ⟨b, 0, none⟩), .int .i64 ((p : Nat) : Int), .int .i64 11] pl_116 rfl rfl (Src_back_no b bs (p + k + 1 + srcN (remB bs (p + k + 1)) (k : Int)) (p) 11 (by decide) (i := 0) rfl H99) ?_)
              rintro _ w103 ⟨rfl, H104⟩
              refine r_cons (s_assign (.int .u64 0) rfl rfl ?_)
              refine r_cons (s_assign (.int .i64 11) rfl rfl ?_)
              refine r_nil ?_
              refine g_ret' [.int .u64 0, .int .i64 11] Try.func110 Try.results110 ⟨rfl, rfl, trivial⟩ ?_
              have H105 : St W w103 (SrcA b bs p :: (F.set i emp)) := H104
              have hE : natE (remB bs p) = 11 := by first | exact natE_65 (by omega) | exact natE_11 (by omega) (by omega) (by rw [← hu1]; omega)
              have hE0 : ¬ natE (remB bs p) = 0 := by rw [hE]; decide
              exact ⟨by rw [natU_no hE0, hE]; rfl, by rw [natN_no hE0]; exact St.back hi H105⟩
          · skip
            refine r_cons (s_eql false rfl rfl (dfalse hc100) rfl ?_)
            refine r_nil ?_
            refine g_false rfl ?_
            refine g_skip ?_
            refine g_seq ?_
            refine g_region ?_
            have hpw := pow_le63 (k := k) (by omega)
            refine r_cons (s_move (.int .u64 (srcU (remB bs (p + k + 1)) (k : Int) : Int)) rfl rfl ?_)
            refine r_cons (s_move (.int .i64 (k : Int)) rfl rfl ?_)
            refine r_cons (s_shl ((2 ^ k : Nat) : Int) rfl rfl (by omega) (shl_one rfl (by omega)) rfl ?_)
            have hq : 0 < 2 ^ k := Nat.pow_pos (by decide)
            refine r_cons (s_add ((srcU (remB bs (p + k + 1)) (k : Int) + 2 ^ k : Nat) : Int) rfl rfl ((wu64 (by generalize 2 ^ k = q at *; omega)).trans (by generalize 2 ^ k = q at *; omega)) rfl ?_)
            refine r_cons (s_sub ((srcU (remB bs (p + k + 1)) (k : Int) + 2 ^ k - 1 : Nat) : Int) rfl rfl ((wu64 (by generalize 2 ^ k = q at *; omega)).trans (by generalize 2 ^ k = q at *; omega)) rfl ?_)
            refine r_cons (s_assign (.int .u64 ((srcU (remB bs (p + k + 1)) (k : Int) + 2 ^ k - 1 : Nat) : Int)) rfl rfl ?_)
            refine r_cons (s_assign (.int .i64 0) rfl rfl ?_)
            refine r_nil ?_
            refine g_ret' [.int .u64 ((srcU (remB bs (p + k + 1)) (k : Int) + 2 ^ k - 1 : Nat) : Int), .int .i64 0] Try.func110 Try.results110 ⟨rfl, rfl, trivial⟩ ?_
            have H106 : St W w98 (SrcA b bs (p + k + 1 + srcN (remB bs (p + k + 1)) (k : Int)) :: (F.set i emp)) := H99
            have hE : natE (remB bs p) = 0 := natE_0 (by omega) (by omega) (by rw [← hu1]; omega)
            have hN : natN (remB bs p) = k + 1 + k := by rw [natN_0 hE]; omega
            have hU : natU (remB bs p) = valOf (((remB bs p).drop (zeros (remB bs p) + 1)).take (zeros (remB bs p))) + 2 ^ k - 1 := by rw [natU_is hE (by omega), hzz]
            have hP : p + natN (remB bs p) = p + k + 1 + srcN (remB bs (p + k + 1)) (k : Int) := by rw [hN, hN1]; omega
            have hv : (natU (remB bs p) : Int) = ((srcU (remB bs (p + k + 1)) (k : Int) + 2 ^ k - 1 : Nat) : Int) := by rw [hU, ← hu1]; skip
            exact ⟨by rw [hE, hv]; rfl, by rw [hP]; exact St.back hi H106⟩
    · skip
      refine r_cons (s_lss false rfl rfl (dfalse hc25) rfl ?_)
      refine r_cons (s_move (.bool false) rfl rfl ?_)
      refine r_cons (r_pass rfl rfl rfl rfl rfl ?_)
      refine r_cons (r_pass rfl rfl rfl rfl rfl ?_)
      refine r_cons (r_pass rfl rfl rfl rfl rfl ?_)
      refine r_cons (r_pass rfl rfl rfl rfl rfl ?_)
      refine r_cons (s_pick_f (.bool false) rfl rfl rfl ?_)
      refine r_cons (s_move (.bool false) rfl rfl ?_)
      refine r_cons (r_pass rfl rfl rfl rfl rfl ?_)
      refine r_cons (r_pass rfl rfl rfl rfl rfl ?_)
      refine r_cons (r_pass rfl rfl rfl rfl rfl ?_)
      refine r_cons (r_pass rfl rfl rfl rfl rfl ?_)
      refine r_cons (r_pass rfl rfl rfl rfl rfl ?_)
      refine r_cons (r_pass rfl rfl rfl rfl rfl ?_)
      refine r_cons (s_pick_f (.bool false) rfl rfl rfl ?_)
      refine r_nil ?_
      refine g_false rfl ?_
      refine g_exit (by rfl) ?_
      refine g_seq ?_
      refine g_block ?_
      refine g_seq ?_
      refine g_region ?_
      have hzz : zeros (remB bs p) = k := zeros_is hk hkr hz (by first | (left; omega) | (right; left; omega) | (right; right; rw [remB_getD (by omega)]; exact Bool.of_not_eq_false fun h => absurd (toNat_1.2 h) ‹_›))
      clear hz
      refine r_cons (s_move (.int .i64 (k : Int)) rfl rfl ?_)
      by_cases hc107 : (k : Int) = 65
      · skip
        refine r_cons (s_eql true rfl rfl (dtrue hc107) rfl ?_)
        refine r_cons (s_assign (.bool true) rfl rfl ?_)
        refine r_nil ?_
        refine g_true rfl ?_
        refine g_seq ?_
        refine g_region ?_
        refine r_cons (s_assign (.int .u64 0) rfl rfl ?_)
        refine r_cons (s_assign (.int .i64 11) rfl rfl ?_)
        refine r_nil ?_
        refine g_ret' [.int .u64 0, .int .i64 11] Try.func110 Try.results110 ⟨rfl, rfl, trivial⟩ ?_
        have H108 : St W w22 (SrcA b bs p :: (F.set i emp)) := H23
        have hE : natE (remB bs p) = 11 := by first | exact natE_65 (by omega) | exact natE_11 (by omega) (by omega) (by rw [← hu1]; omega)
        have hE0 : ¬ natE (remB bs p) = 0 := by rw [hE]; decide
        exact ⟨by rw [natU_no hE0, hE]; rfl, by rw [natN_no hE0]; exact St.back hi H108⟩
      · skip
        refine r_cons (s_eql false rfl rfl (dfalse hc107) rfl ?_)
        refine r_cons (s_assign (.bool false) rfl rfl ?_)
        refine r_nil ?_
        refine g_false rfl ?_
        refine g_seq ?_
        refine g_region ?_
        refine r_cons (s_move (.pointer (some ⟨b, 0, none⟩)) rfl rfl ?_)
        refine r_cons (s_call [.pointer (some ⟨b, 0, none⟩)] pl_54 rfl rfl (Src_Left b bs p (by first | omega | decide +kernel | (repeat (first | assumption | exact Nat.zero_le _ | refine natN_pos ?_ | refine srcN_pos ?_ | refine textN_pos ?_))) (by first | omega | decide +kernel)   (i := 0) rfl H23) ?_)
        rintro _ w109 ⟨rfl, H110⟩
        refine r_cons (s_move (.int .i64 (k : Int)) rfl rfl ?_)
        refine r_cons (s_mul (2 * (k : Int)) rfl rfl (wi64 (by omega)) rfl ?_)
        refine r_cons (s_add (2 * (k : Int) + 1) rfl rfl (wi64 (by omega)) rfl ?_)
        by_cases hc111 : ((remB bs p).length : Int) < 2 * (k : Int) + 1
        · skip
          refine r_cons (s_lss true rfl rfl (dtrue hc111) rfl ?_)
          refine r_cons (s_assign (.bool true) rfl rfl ?_)
          refine r_nil ?_
          refine g_true rfl ?_
          refine g_seq ?_
          refine g_region ?_
          refine r_cons (s_assign (.int .u64 0) rfl rfl ?_)
          refine r_cons (s_assign (.int .i64 10) rfl rfl ?_)
          refine r_nil ?_
          refine g_ret' [.int .u64 0, .int .i64 10] Try.func110 Try.results110 ⟨rfl, rfl, trivial⟩ ?_
          have H112 : St W w109 (SrcA b bs p :: (F.set i emp)) := H110
          have hE : natE (remB bs p) = 10 := natE_10 (by omega) (by omega)
          have hE0 : ¬ natE (remB bs p) = 0 := by rw [hE]; decide
          exact ⟨by rw [natU_no hE0, hE]; rfl, by rw [natN_no hE0]; exact St.back hi H112⟩
        · skip
          refine r_cons (s_lss false rfl rfl (dfalse hc111) rfl ?_)
          refine r_cons (s_assign (.bool false) rfl rfl ?_)
          refine r_nil ?_
          refine g_false rfl ?_
          refine g_skip ?_
          refine g_inBlock ?_
          refine g_seq ?_
          refine g_region ?_
          refine r_cons (s_move (.pointer (some ⟨b, 0, none⟩)) rfl rfl ?_)
          refine r_cons (s_nilCheck (.pointer (some ⟨b, 0, none⟩)) rfl ⟨_, rfl⟩ rfl ?_)
          refine r_cons (s_fieldAddr 121 2 2 2 3 rfl fi_121_2 rfl rfl ?_)
          have H113 := H110.move 0 rfl
          obtain ⟨vv114, H115⟩ := St.open_ex H113
          have H116 := St.open_star H115
          obtain ⟨pp117, cc118, gA119, oA120, kA121, eA122, zA123, rfl, hn124, hp125, hx126, hs127, hml, H128⟩ := Im.open_ H116 (i := 1) rfl
          have H129 : St W w109 (imi (0 < bs.length) gA119 (.cells kA121 eA122 zA123) :: blk b (.cells #[.bool true, .slice pp117 bs.length cc118, .int .i64 ((p : Nat) : Int)] 121 (0, 0)) :: Im 1 (.slice pp117 bs.length cc118) bs.length (bs.flatMap u8c) :: (F.set i emp)) := H128
          refine r_cons (s_load (.int .i64 ((p : Nat) : Int)) ag_3 rfl (H129.blk_at (i := 1) rfl) rfl rfl ?_)
          refine r_cons (s_move (.int .i64 (k : Int)) rfl rfl ?_)
          refine r_cons (s_add ((k : Int) + 1) rfl rfl (wi64 (by omega)) rfl ?_)
          refine r_cons (s_add (((p : Nat) : Int) + ((k : Int) + 1)) rfl rfl (wi64 (by omega)) rfl ?_)
          refine r_cons (s_nilCheck (.pointer (some ⟨b, 0, none⟩)) rfl ⟨_, rfl⟩ rfl ?_)
          refine r_cons (s_fieldAddr 121 2 2 2 3 rfl fi_121_2 rfl rfl ?_)
          refine r_cons (s_store H129 1 (.int .i64 (((p : Nat) : Int) + ((k : Int) + 1))) rfl rfl rfl sz_3 rfl (Nat.le_of_ble_eq_true rfl) rfl (cs' := #[.bool true, .slice pp117 bs.length cc118, .int .i64 (((p : Nat) : Int) + ((k : Int) + 1))]) rfl ?_); intro w130 H131
          refine r_nil ?_
          refine g_seq ?_
          refine g_region ?_
          have hL1 := remB_len bs (p + k + 1)
          have he : srcE (remB bs (p + k + 1)) (k : Int) = 0 := srcE_0 (by omega) (by omega)
          have hu1 : srcU (remB bs (p + k + 1)) (k : Int) = valOf (((remB bs p).drop (zeros (remB bs p) + 1)).take (zeros (remB bs p))) := by rw [srcU_0 he, hzz, Int.toNat_natCast, remB_drop, Nat.add_assoc]
          have hu2 := srcU_lt_pow (R := remB bs (p + k + 1)) (k := k)
          have hN1 : srcN (remB bs (p + k + 1)) (k : Int) = k := by rw [srcN_0 he]; exact Int.toNat_natCast k
          refine r_cons (s_move (.pointer (some ⟨b, 0, none⟩)) rfl rfl ?_)
          refine r_cons (s_move (.int .i64 (k : Int)) rfl rfl ?_)
          have H132 : St W w130 (blk b (.cells #[.bool true, .slice pp117 bs.length cc118, .int .i64 (((p : Nat) : Int) + ((k : Int) + 1))] 121 (0, 0)) :: Im 1 (.slice pp117 bs.length cc118) bs.length (bs.flatMap u8c) :: (F.set i emp)) := (((H131.move 2 rfl).move 2 rfl).drop 2 rfl)
          have H133 : St W w130 (blk b (.cells #[.bool true, .slice pp117 bs.length cc118, .int .i64 ((p + k + 1 : Nat) : Int)] 121 (0, 0)) :: Im 1 (.slice pp117 bs.length cc118) bs.length (bs.flatMap u8c) :: (F.set i emp)) := by rw [show ((p + k + 1 : Nat) : Int) = ((p : Nat) : Int) + ((k : Int) + 1) from by omega]; exact H132
          have H134 : St W w130 (SrcA b bs (p + k + 1) :: (F.set i emp)) := St.shut_ex (.slice pp117 bs.length cc118) (St.shut_star (ls := [blk b (.cells #[.bool true, .slice pp117 bs.length cc118, .int .i64 ((p + k + 1 : Nat) : Int)] 121 (0, 0)), Im 1 (.slice pp117 bs.length cc118) bs.length (bs.flatMap u8c)]) H133)
          refine r_cons (s_call [.pointer (some ⟨b, 0, none⟩), .int .i64 (k : Int)] pl_51 rfl rfl (Src_Bits b bs (p + k + 1) (by first | omega | decide +kernel | (repeat (first | assumption | exact Nat.zero_le _ | refine natN_pos ?_ | refine srcN_pos ?_ | refine textN_pos ?_))) (by first | omega | decide +kernel) (k : Int)  (i := 0) rfl H134) ?_)
          rintro _ w135 ⟨rfl, H136⟩
          refine r_cons (s_move (.tuple #[.int .u64 (srcU (remB bs (p + k + 1)) (k : Int) : Int), .int .i64 (srcE (remB bs (p + k + 1)) (k : Int))]) rfl rfl ?_)
          refine r_cons (s_extract (.int .u64 (srcU (remB bs (p + k + 1)) (k : Int) : Int)) #[.int .u64 (srcU (remB bs (p + k + 1)) (k : Int) : Int), .int .i64 (srcE (remB bs (p + k + 1)) (k : Int))] rfl rfl rfl ?_)
          refine r_cons (s_extract (.int .i64 (srcE (remB bs (p + k + 1)) (k : Int))) #[.int .u64 (srcU (remB bs (p + k + 1)) (k : Int) : Int), .int .i64 (srcE (remB bs (p + k + 1)) (k : Int))] rfl rfl rfl ?_)
          refine r_cons (s_assign (.int .u64 (srcU (remB bs (p + k + 1)) (k : Int) : Int)) rfl rfl ?_)
          refine r_cons (s_assign (.int .i64 (srcE (remB bs (p + k + 1)) (k : Int))) rfl rfl ?_)
          refine r_nil ?_
          refine g_seq ?_
          refine g_seq ?_
          refine g_region ?_
          refine r_cons (s_move (.pointer (some ⟨b, 0, none⟩)) rfl rfl ?_)
          refine r_cons (s_move (.int .i64 ((p : Nat) : Int)) rfl rfl ?_)
          refine r_cons (s_move (.int .i64 (srcE (remB bs (p + k + 1)) (k : Int))) rfl rfl ?_)
          refine r_cons (s_call [.pointer (some ⟨b, 0, none⟩), .int .i64 ((p : Nat) : Int), .int .i64 (srcE (remB bs (p + k + 1)) (k : Int))] pl_116 rfl rfl (Src_back_ok b bs (p + k + 1 + srcN (remB bs (p + k + 1)) (k : Int)) ((p : Nat) : Int) (srcE (remB bs (p + k + 1)) (k : Int)) he (i := 0) rfl H136) ?_)
          rintro _ w137 ⟨rfl, H138⟩
          refine r_cons (s_neq false rfl rfl (ntrue he) rfl ?_)
          refine r_nil ?_
          refine g_false rfl ?_
          refine g_skip ?_
          refine g_seq ?_
          refine g_seq ?_
          refine g_region ?_
          refine r_cons (s_move (.int .i64 (k : Int)) rfl rfl ?_)
          refine r_cons (s_eql false rfl rfl (dfalse (by omega)) rfl ?_)
          refine r_nil ?_
          refine g_false rfl ?_
          refine g_skip ?_
          refine g_seq ?_
          refine g_region ?_
          have hpw := pow_le63 (k := k) (by omega)
          refine r_cons (s_move (.int .u64 (srcU (remB bs (p + k + 1)) (k : Int) : Int)) rfl rfl ?_)
          refine r_cons (s_move (.int .i64 (k : Int)) rfl rfl ?_)
          refine r_cons (s_shl ((2 ^ k : Nat) : Int) rfl rfl (by omega) (shl_one rfl (by omega)) rfl ?_)
          have hq : 0 < 2 ^ k := Nat.pow_pos (by decide)
          refine r_cons (s_add ((srcU (remB bs (p + k + 1)) (k : Int) + 2 ^ k : Nat) : Int) rfl rfl ((wu64 (by generalize 2 ^ k = q at *; omega)).trans (by generalize 2 ^ k = q at *; omega)) rfl ?_)
          refine r_cons (s_sub ((srcU (remB bs (p + k + 1)) (k : Int) + 2 ^ k - 1 : Nat) : Int) rfl rfl ((wu64 (by generalize 2 ^ k = q at *; omega)).trans (by generalize 2 ^ k = q at *; omega)) rfl ?_)
          refine r_cons (s_assign (.int .u64 ((srcU (remB bs (p + k + 1)) (k : Int) + 2 ^ k - 1 : Nat) : Int)) rfl rfl ?_)
          refine r_cons (s_assign (.int .i64 0) rfl rfl ?_)
          refine r_nil ?_
          refine g_ret' [.int .u64 ((srcU (remB bs (p + k + 1)) (k : Int) + 2 ^ k - 1 : Nat) : Int), .int .i64 0] Try.func110 Try.results110 ⟨rfl, rfl, trivial⟩ ?_
          have H139 : St W w137 (SrcA b bs (p + k + 1 + srcN (remB bs (p + k + 1)) (k : Int)) :: (F.set i emp)) := H138
          have hE : natE (remB bs p) = 0 := natE_0 (by omega) (by omega) (by rw [← hu1]; omega)
          have hN : natN (remB bs p) = k + 1 + k := by rw [natN_0 hE]; omega
          have hU : natU (remB bs p) = valOf (((remB bs p).drop (zeros (remB bs p) + 1)).take (zeros (remB bs p))) + 2 ^ k - 1 := by rw [natU_is hE (by omega), hzz]
          have hP : p + natN (remB bs p) = p + k + 1 + srcN (remB bs (p + k + 1)) (k : Int) := by rw [hN, hN1]; omega
          have hv : (natU (remB bs p) : Int) = ((srcU (remB bs (p + k + 1)) (k : Int) + 2 ^ k - 1 : Nat) : Int) := by rw [hU, ← hu1]; skip
          exact ⟨by rw [hE, hv]; rfl, by rw [hP]; exact St.back hi H139⟩
set_option maxHeartbeats 4000000 in
set_option maxRecDepth 100000 in
theorem Src_Num {W w : World} {F : List Atom} (b : Nat) (bs : List UInt8) (p : Nat) (hp : p ≤ 8 * bs.length) (hb : bs.length ≤ 140737488355328) {i : Nat} (hi : F[i]? = some (SrcA b bs p)) (H : St W w F) : Calls Try.prog 117 #[.pointer (some ⟨b, 0, none⟩)] w (Ret fun v w' => v = .tuple #[.int .i64 (zagN (natU (remB bs p))), .int .i64 (natE (remB bs p))] ∧ St W w' (F.set i (SrcA b bs (p + natN (remB bs p))))) := by
  have H0 := H.front hi
  refine calls_of_go (n := 20) Try.func117 rfl Try.ntmps117 rfl ?_
  refine g_seq ?_
  refine g_region ?_
  refine r_cons (s_assign (.int .i64 0) rfl rfl ?_)
  refine r_cons (s_assign (.int .i64 0) rfl rfl ?_)
  refine r_nil ?_
  refine g_seq ?_
  refine g_region ?_
  refine r_cons (s_move (.pointer (some ⟨b, 0, none⟩)) rfl rfl ?_)
  refine r_cons (s_call [.pointer (some ⟨b, 0, none⟩)] pl_110 rfl rfl (Src_Nat b bs p (by first | omega | decide +kernel | (repeat (first | assumption | exact Nat.zero_le _ | refine natN_pos ?_ | refine srcN_pos ?_ | refine textN_pos ?_))) (by first | omega | decide +kernel)   (i := 0) rfl H0) ?_)
  rintro _ w1 ⟨rfl, H2⟩
  refine r_cons (s_move (.tuple #[.int .u64 (natU (remB bs p) : Int), .int .i64 (natE (remB bs p))]) rfl rfl ?_)
  refine r_cons (s_extract (.int .u64 (natU (remB bs p) : Int)) #[.int .u64 (natU (remB bs p) : Int), .int .i64 (natE (remB bs p))] rfl rfl rfl ?_)
  refine r_cons (s_extract (.int .i64 (natE (remB bs p))) #[.int .u64 (natU (remB bs p) : Int), .int .i64 (natE (remB bs p))] rfl rfl rfl ?_)
  refine r_cons (s_assign (.int .u64 (natU (remB bs p) : Int)) rfl rfl ?_)
  refine r_cons (s_assign (.int .i64 (natE (remB bs p))) rfl rfl ?_)
  refine r_nil ?_
  refine g_seq ?_
  refine g_region ?_
  refine r_cons (s_move (.int .u64 (natU (remB bs p) : Int)) rfl rfl ?_)
  have hlt := natU_lt (remB bs p)
  refine r_cons (s_shr (((natU (remB bs p)) / 2 ^ 1 : Nat) : Int) rfl rfl (by omega) (shr_nat (k := 1) rfl (by decide)) rfl ?_)
  refine r_cons (s_conv (((natU (remB bs p)) / 2 ^ 1 : Nat) : Int) rfl us_62 ik_2 (wi64 (by omega)) rfl ?_)
  refine r_cons (s_move (.int .u64 (natU (remB bs p) : Int)) rfl rfl ?_)
  refine r_cons (s_and (((natU (remB bs p)) % 2 : Nat) : Int) rfl rfl (and_one _ (by omega)) rfl ?_)
  refine r_cons (s_conv (((natU (remB bs p)) % 2 : Nat) : Int) rfl us_62 ik_2 (wi64 (by omega)) rfl ?_)
  refine r_cons (s_neg (-(((natU (remB bs p)) % 2 : Nat) : Int)) rfl (wi64 (by omega)) rfl ?_)
  refine r_cons (s_xor (zagN (natU (remB bs p))) rfl rfl (zag_bits _ hlt) rfl ?_)
  refine r_cons (s_move (.int .i64 (natE (remB bs p))) rfl rfl ?_)
  refine r_cons (s_assign (.int .i64 (zagN (natU (remB bs p)))) rfl rfl ?_)
  refine r_cons (s_assign (.int .i64 (natE (remB bs p))) rfl rfl ?_)
  refine r_nil ?_
  refine g_ret' [.int .i64 (zagN (natU (remB bs p))), .int .i64 (natE (remB bs p))] Try.func117 Try.results117 ⟨rfl, rfl, trivial⟩ ?_
  have H3 : St W w1 (SrcA b bs (p + natN (remB bs p)) :: (F.set i emp)) := H2
  exact ⟨rfl, St.back hi H3⟩
set_option maxHeartbeats 4000000 in
set_option maxRecDepth 100000 in
theorem Src_End {W w : World} {F : List Atom} (b : Nat) (bs : List UInt8) (p : Nat) (hp : p ≤ 8 * bs.length) (hb : bs.length ≤ 140737488355328) {i : Nat} (hi : F[i]? = some (SrcA b bs p)) (H : St W w F) : Calls Try.prog 81 #[.pointer (some ⟨b, 0, none⟩)] w (Ret fun v w' => v = .int .i64 (endE (remB bs p)) ∧ St W w' F) := by
  have H0 := H.front hi
  refine calls_of_go (n := 34) Try.func81 rfl Try.ntmps81 rfl ?_
  refine g_seq ?_
  refine g_region ?_
  refine r_cons (s_assign (.int .i64 0) rfl rfl ?_)
  refine r_nil ?_
  refine g_seq ?_
  refine g_seq ?_
  refine g_region ?_
  refine r_cons (s_move (.pointer (some ⟨b, 0, none⟩)) rfl rfl ?_)
  refine r_cons (s_peql false un_76 rfl rfl rfl rfl ?_)
  refine r_cons (s_move (.bool false) rfl rfl ?_)
  refine r_cons (r_take rfl rfl ?_)
  refine s_move (.pointer (some ⟨b, 0, none⟩)) rfl rfl ?_
  refine r_cons (r_take rfl rfl ?_)
  refine s_nilCheck (.pointer (some ⟨b, 0, none⟩)) rfl ⟨_, rfl⟩ rfl ?_
  refine r_cons (r_take rfl rfl ?_)
  refine s_fieldAddr 121 0 0 0 4 rfl fi_121_0 rfl rfl ?_
  refine r_cons (r_take rfl rfl ?_)
  have H1 := H0.move 0 rfl
  obtain ⟨vv2, H3⟩ := St.open_ex H1
  have H4 := St.open_star H3
  obtain ⟨pp5, cc6, gA7, oA8, kA9, eA10, zA11, rfl, hn12, hp13, hx14, hs15, hml, H16⟩ := Im.open_ H4 (i := 1) rfl
  have H17 : St W w (imi (0 < bs.length) gA7 (.cells kA9 eA10 zA11) :: blk b (.cells #[.bool true, .slice pp5 bs.length cc6, .int .i64 ((p : Nat) : Int)] 121 (0, 0)) :: Im 1 (.slice pp5 bs.length cc6) bs.length (bs.flatMap u8c) :: (F.set i emp)) := H16
  refine s_load (.bool true) ag_4 rfl (H17.blk_at (i := 1) rfl) rfl rfl ?_
  refine r_cons (r_take rfl rfl ?_)
  refine s_not true rfl false rfl rfl ?_
  refine r_cons (s_pick_f (.bool false) rfl rfl rfl ?_)
  refine r_nil ?_
  refine g_false rfl ?_
  refine g_skip ?_
  refine g_seq ?_
  refine g_seq ?_
  refine g_region ?_
  refine r_cons (s_move (.pointer (some ⟨b, 0, none⟩)) rfl rfl ?_)
  have H18 : St W w (blk b (.cells #[.bool true, .slice pp5 bs.length cc6, .int .i64 ((p : Nat) : Int)] 121 (0, 0)) :: Im 1 (.slice pp5 bs.length cc6) bs.length (bs.flatMap u8c) :: (F.set i emp)) := (((H17.move 2 rfl).move 2 rfl).drop 2 rfl)
  have H19 : St W w (SrcA b bs p :: (F.set i emp)) := St.shut_ex (.slice pp5 bs.length cc6) (St.shut_star (ls := [blk b (.cells #[.bool true, .slice pp5 bs.length cc6, .int .i64 ((p : Nat) : Int)] 121 (0, 0)), Im 1 (.slice pp5 bs.length cc6) bs.length (bs.flatMap u8c)]) H18)
  refine r_cons (s_call [.pointer (some ⟨b, 0, none⟩)] pl_54 rfl rfl (Src_Left b bs p (by first | omega | decide +kernel | (repeat (first | assumption | exact Nat.zero_le _ | refine natN_pos ?_ | refine srcN_pos ?_ | refine textN_pos ?_))) (by first | omega | decide +kernel)   (i := 0) rfl H19) ?_)
  rintro _ w20 ⟨rfl, H21⟩
  by_cases hc22 : (8 : Int) ≤ ((remB bs p).length : Int)
  · skip
    refine r_cons (s_geq true rfl rfl (dtrue hc22) rfl ?_)
    refine r_nil ?_
    refine g_true rfl ?_
    refine g_seq ?_
    refine g_region ?_
    refine r_cons (s_assign (.int .i64 12) rfl rfl ?_)
    refine r_nil ?_
    refine g_ret' [.int .i64 12] Try.func81 Try.results81 ⟨rfl, trivial⟩ ?_
    have H23 : St W w20 (SrcA b bs p :: (F.set i emp)) := H21
    exact ⟨vint (by have hL2 := remB_len bs p; first | exact (endE_long (by omega)).symm | exact (endE_bit (j := k) (by omega) (by rw [remB_getD (by omega)]; cases hh : bitAt bs (p + k) with | true => rfl | false => (have h1 : (((bitAt bs (p + k)).toNat : Nat) : Int) = 1 := ‹_›; rw [hh] at h1; cases h1))).symm | exact (endE_0 (by omega) (fun j hj => hz j (by omega))).symm), St.back_same hi H23⟩
  · skip
    refine r_cons (s_geq false rfl rfl (dfalse hc22) rfl ?_)
    refine r_nil ?_
    refine g_false rfl ?_
    refine g_skip ?_
    refine g_seq ?_
    refine g_seq ?_
    refine g_region ?_
    refine r_cons (s_move (.pointer (some ⟨b, 0, none⟩)) rfl rfl ?_)
    refine r_cons (s_nilCheck (.pointer (some ⟨b, 0, none⟩)) rfl ⟨_, rfl⟩ rfl ?_)
    refine r_cons (s_fieldAddr 121 2 2 2 3 rfl fi_121_2 rfl rfl ?_)
    have H24 := H21.move 0 rfl
    obtain ⟨vv25, H26⟩ := St.open_ex H24
    have H27 := St.open_star H26
    obtain ⟨pp28, cc29, gA30, oA31, kA32, eA33, zA34, rfl, hn35, hp36, hx37, hs38, hml, H39⟩ := Im.open_ H27 (i := 1) rfl
    have H40 : St W w20 (imi (0 < bs.length) gA30 (.cells kA32 eA33 zA34) :: blk b (.cells #[.bool true, .slice pp28 bs.length cc29, .int .i64 ((p : Nat) : Int)] 121 (0, 0)) :: Im 1 (.slice pp28 bs.length cc29) bs.length (bs.flatMap u8c) :: (F.set i emp)) := H39
    refine r_cons (s_load (.int .i64 ((p : Nat) : Int)) ag_3 rfl (H40.blk_at (i := 1) rfl) rfl rfl ?_)
    refine r_cons (s_assign (.int .i64 ((p : Nat) : Int)) rfl rfl ?_)
    refine r_nil ?_
    refine g_block ?_
    have H41 : St W w20 (blk b (.cells #[.bool true, .slice pp28 bs.length cc29, .int .i64 ((p : Nat) : Int)] 121 (0, 0)) :: Im 1 (.slice pp28 bs.length cc29) bs.length (bs.flatMap u8c) :: (F.set i emp)) := (((H40.move 2 rfl).move 2 rfl).drop 2 rfl)
    have H42 : St W w20 (SrcA b bs p :: (F.set i emp)) := St.shut_ex (.slice pp28 bs.length cc29) (St.shut_star (ls := [blk b (.cells #[.bool true, .slice pp28 bs.length cc29, .int .i64 ((p : Nat) : Int)] 121 (0, 0)), Im 1 (.slice pp28 bs.length cc29) bs.length (bs.flatMap u8c)]) H41)
    have H43 : St W w20 (SrcA b bs p :: (F.set i emp)) := H42
    have hL := remB_len bs p
    refine g_loop_inv (fun (x_ : Nat) => match x_ with | k => [(0, .pointer (some ⟨b, 0, none⟩)), (2, .int .i64 0), (3, .int .i64 ((p + k : Nat) : Int))]) (fun (x_ : Nat) w => match x_ with | k => (p + k ≤ 8 * bs.length) ∧ (∀ j, j < k → (remB bs p).getD j false = false) ∧ St W w (SrcA b bs p :: (F.set i emp))) (fun (x_ : Nat) => match x_ with | k => 8 * bs.length - (p + k)) (0) ?_ ?_ ?_
    · exact ⟨by first | rfl | exact vint (by omega), by first | rfl | exact vint (by omega), by first | rfl | exact vint (by omega), trivial⟩
    · exact ⟨(by omega), (fun j hj => by omega), H43⟩
    · rintro k ρ44 w45 ⟨hk, hz, H46⟩ nx47
      change Ends _ _ (upds ρ44 [(0, .pointer (some ⟨b, 0, none⟩)), (2, .int .i64 0), (3, .int .i64 ((p + k : Nat) : Int))]) w45
      refine g_seq ?_
      refine g_seq ?_
      refine g_region ?_
      refine r_cons (s_move (.int .i64 ((p + k : Nat) : Int)) rfl rfl ?_)
      refine r_cons (s_move (.pointer (some ⟨b, 0, none⟩)) rfl rfl ?_)
      refine r_cons (s_nilCheck (.pointer (some ⟨b, 0, none⟩)) rfl ⟨_, rfl⟩ rfl ?_)
      refine r_cons (s_fieldAddr 121 1 1 1 66 rfl fi_121_1 rfl rfl ?_)
      have H48 := H46.move 0 rfl
      obtain ⟨vv49, H50⟩ := St.open_ex H48
      have H51 := St.open_star H50
      obtain ⟨pp52, cc53, gA54, oA55, kA56, eA57, zA58, rfl, hn59, hp60, hx61, hs62, hml, H63⟩ := Im.open_ H51 (i := 1) rfl
      have H64 : St W w45 (imi (0 < bs.length) gA54 (.cells kA56 eA57 zA58) :: blk b (.cells #[.bool true, .slice pp52 bs.length cc53, .int .i64 ((p : Nat) : Int)] 121 (0, 0)) :: Im 1 (.slice pp52 bs.length cc53) bs.length (bs.flatMap u8c) :: (F.set i emp)) := H63
      refine r_cons (s_load (.slice pp52 bs.length cc53) ag_66 rfl (H64.blk_at (i := 1) rfl) rfl rfl ?_)
      refine r_cons (s_len bs.length rfl ⟨_, un_66⟩ rfl ?_)
      refine r_cons (s_mul (8 * (bs.length : Int)) rfl rfl (wi64 (by omega)) rfl ?_)
      by_cases hc65 : ((p + k : Nat) : Int) < 8 * (bs.length : Int)
      · skip
        refine r_cons (s_lss true rfl rfl (dtrue hc65) rfl ?_)
        refine r_nil ?_
        refine g_true rfl ?_
        refine g_skip ?_
        refine g_seq ?_
        refine g_block ?_
        refine g_seq ?_
        refine g_region ?_
        refine r_cons (s_move (.pointer (some ⟨b, 0, none⟩)) rfl rfl ?_)
        refine r_cons (s_move (.int .i64 ((p + k : Nat) : Int)) rfl rfl ?_)
        have H66 : St W w45 (blk b (.cells #[.bool true, .slice pp52 bs.length cc53, .int .i64 ((p : Nat) : Int)] 121 (0, 0)) :: Im 1 (.slice pp52 bs.length cc53) bs.length (bs.flatMap u8c) :: (F.set i emp)) := (((H64.move 2 rfl).move 2 rfl).drop 2 rfl)
        have H67 : St W w45 (SrcA b bs p :: (F.set i emp)) := St.shut_ex (.slice pp52 bs.length cc53) (St.shut_star (ls := [blk b (.cells #[.bool true, .slice pp52 bs.length cc53, .int .i64 ((p : Nat) : Int)] 121 (0, 0)), Im 1 (.slice pp52 bs.length cc53) bs.length (bs.flatMap u8c)]) H66)
        refine r_cons (s_call [.pointer (some ⟨b, 0, none⟩), .int .i64 ((p + k : Nat) : Int)] pl_83 rfl rfl (Src_bit b bs p (by first | omega | decide +kernel | (repeat (first | assumption | exact Nat.zero_le _ | refine natN_pos ?_ | refine srcN_pos ?_ | refine textN_pos ?_))) (by first | omega | decide +kernel) (p + k) (by omega) (i := 0) rfl H67) ?_)
        rintro _ w68 ⟨rfl, H69⟩
        by_cases hc70 : ((bitAt bs (p + k)).toNat : Int) = 1
        · skip
          refine r_cons (s_eql true rfl rfl (dtrue hc70) rfl ?_)
          refine r_nil ?_
          refine g_true rfl ?_
          refine g_seq ?_
          refine g_region ?_
          refine r_cons (s_assign (.int .i64 12) rfl rfl ?_)
          refine r_nil ?_
          refine g_ret' [.int .i64 12] Try.func81 Try.results81 ⟨rfl, trivial⟩ ?_
          have H71 : St W w68 (SrcA b bs p :: (F.set i emp)) := H69
          exact ⟨vint (by have hL2 := remB_len bs p; first | exact (endE_long (by omega)).symm | exact (endE_bit (j := k) (by omega) (by rw [remB_getD (by omega)]; cases hh : bitAt bs (p + k) with | true => rfl | false => (have h1 : (((bitAt bs (p + k)).toNat : Nat) : Int) = 1 := ‹_›; rw [hh] at h1; cases h1))).symm | exact (endE_0 (by omega) (fun j hj => hz j (by omega))).symm), St.back_same hi H71⟩
        · skip
          refine r_cons (s_eql false rfl rfl (dfalse hc70) rfl ?_)
          refine r_nil ?_
          refine g_false rfl ?_
          refine g_skip ?_
          refine g_inBlock ?_
          refine g_region ?_
          refine r_cons (s_move (.int .i64 ((p + k : Nat) : Int)) rfl rfl ?_)
          refine r_cons (s_add (((p + k : Nat) : Int) + 1) rfl rfl (wi64 (by omega)) rfl ?_)
          refine r_cons (s_assign (.int .i64 (((p + k : Nat) : Int) + 1)) rfl rfl ?_)
          refine r_nil ?_
          have H72 : St W w68 (SrcA b bs p :: (F.set i emp)) := H69
          have hbit : bitAt bs (p + k) = false := by cases hh : bitAt bs (p + k) with | false => rfl | true => exact absurd (show (((bitAt bs (p + k)).toNat : Nat) : Int) = 1 by rw [hh]; rfl) ‹_›
          exact nx47 (k + 1) _ _ ⟨(by omega), (fun j hj => (Nat.lt_or_ge j k).elim (hz j) (fun h => by rw [show j = k from by omega, remB_getD (by omega)]; exact hbit)), H72⟩ (by first | (dsimp only; omega) | omega) ⟨by first | rfl | exact vint (by omega), by first | rfl | exact vint (by omega), by first | rfl | exact vint (by omega), trivial⟩
      · skip
        refine r_cons (s_lss false rfl rfl (dfalse hc65) rfl ?_)
        refine r_nil ?_
        refine g_false rfl ?_
        refine g_exit (by rfl) ?_
        refine g_seq ?_
        refine g_region ?_
        refine r_cons (s_assign (.int .i64 0) rfl rfl ?_)
        refine r_nil ?_
        refine g_ret' [.int .i64 0] Try.func81 Try.results81 ⟨rfl, trivial⟩ ?_
        have H73 : St W w45 (blk b (.cells #[.bool true, .slice pp52 bs.length cc53, .int .i64 ((p : Nat) : Int)] 121 (0, 0)) :: Im 1 (.slice pp52 bs.length cc53) bs.length (bs.flatMap u8c) :: (F.set i emp)) := (((H64.move 2 rfl).move 2 rfl).drop 2 rfl)
        have H74 : St W w45 (SrcA b bs p :: (F.set i emp)) := St.shut_ex (.slice pp52 bs.length cc53) (St.shut_star (ls := [blk b (.cells #[.bool true, .slice pp52 bs.length cc53, .int .i64 ((p : Nat) : Int)] 121 (0, 0)), Im 1 (.slice pp52 bs.length cc53) bs.length (bs.flatMap u8c)]) H73)
        have H75 : St W w45 (SrcA b bs p :: (F.set i emp)) := H74
        exact ⟨vint (by have hL2 := remB_len bs p; first | exact (endE_long (by omega)).symm | exact (endE_bit (j := k) (by omega) (by rw [remB_getD (by omega)]; cases hh : bitAt bs (p + k) with | true => rfl | false => (have h1 : (((bitAt bs (p + k)).toNat : Nat) : Int) = 1 := ‹_›; rw [hh] at h1; cases h1))).symm | exact (endE_0 (by omega) (fun j hj => hz j (by omega))).symm), St.back_same hi H75⟩
set_option maxHeartbeats 4000000 in
set_option maxRecDepth 100000 in
theorem Src_Text {W w : World} {F : List Atom} (b : Nat) (bs : List UInt8) (p : Nat) (hp : p ≤ 8 * bs.length) (hb : bs.length ≤ 140737488355328) {i : Nat} (hi : F[i]? = some (SrcA b bs p)) (H : St W w F) : Calls Try.prog 111 #[.pointer (some ⟨b, 0, none⟩)] w (Ret fun v w' => v = .tuple #[.string (textS (remB bs p)), .int .i64 (textE (remB bs p))] ∧ St W w' (F.set i (SrcA b bs (p + textN (remB bs p))))) := by
  have H0 := H.front hi
  refine calls_of_go (n := 61) Try.func111 rfl Try.ntmps111 rfl ?_
  refine g_seq ?_
  refine g_region ?_
  refine r_cons (s_assign (.string ByteArray.empty) rfl rfl ?_)
  refine r_cons (s_assign (.int .i64 0) rfl rfl ?_)
  refine r_nil ?_
  refine g_seq ?_
  refine g_seq ?_
  refine g_region ?_
  refine r_cons (s_move (.pointer (some ⟨b, 0, none⟩)) rfl rfl ?_)
  refine r_cons (s_peql false un_76 rfl rfl rfl rfl ?_)
  refine r_cons (s_move (.bool false) rfl rfl ?_)
  refine r_cons (r_take rfl rfl ?_)
  refine s_move (.pointer (some ⟨b, 0, none⟩)) rfl rfl ?_
  refine r_cons (r_take rfl rfl ?_)
  refine s_nilCheck (.pointer (some ⟨b, 0, none⟩)) rfl ⟨_, rfl⟩ rfl ?_
  refine r_cons (r_take rfl rfl ?_)
  refine s_fieldAddr 121 0 0 0 4 rfl fi_121_0 rfl rfl ?_
  refine r_cons (r_take rfl rfl ?_)
  have H1 := H0.move 0 rfl
  obtain ⟨vv2, H3⟩ := St.open_ex H1
  have H4 := St.open_star H3
  obtain ⟨pp5, cc6, gA7, oA8, kA9, eA10, zA11, rfl, hn12, hp13, hx14, hs15, hml, H16⟩ := Im.open_ H4 (i := 1) rfl
  have H17 : St W w (imi (0 < bs.length) gA7 (.cells kA9 eA10 zA11) :: blk b (.cells #[.bool true, .slice pp5 bs.length cc6, .int .i64 ((p : Nat) : Int)] 121 (0, 0)) :: Im 1 (.slice pp5 bs.length cc6) bs.length (bs.flatMap u8c) :: (F.set i emp)) := H16
  refine s_load (.bool true) ag_4 rfl (H17.blk_at (i := 1) rfl) rfl rfl ?_
  refine r_cons (r_take rfl rfl ?_)
  refine s_not true rfl false rfl rfl ?_
  refine r_cons (s_pick_f (.bool false) rfl rfl rfl ?_)
  refine r_nil ?_
  refine g_false rfl ?_
  refine g_skip ?_
  refine g_seq ?_
  refine g_region ?_
  refine r_cons (s_move (.pointer (some ⟨b, 0, none⟩)) rfl rfl ?_)
  refine r_cons (s_nilCheck (.pointer (some ⟨b, 0, none⟩)) rfl ⟨_, rfl⟩ rfl ?_)
  refine r_cons (s_fieldAddr 121 2 2 2 3 rfl fi_121_2 rfl rfl ?_)
  refine r_cons (s_load (.int .i64 ((p : Nat) : Int)) ag_3 rfl (H17.blk_at (i := 1) rfl) rfl rfl ?_)
  refine r_cons (s_assign (.int .i64 ((p : Nat) : Int)) rfl rfl ?_)
  refine r_nil ?_
  refine g_seq ?_
  refine g_region ?_
  refine r_cons (s_move (.pointer (some ⟨b, 0, none⟩)) rfl rfl ?_)
  have H18 : St W w (blk b (.cells #[.bool true, .slice pp5 bs.length cc6, .int .i64 ((p : Nat) : Int)] 121 (0, 0)) :: Im 1 (.slice pp5 bs.length cc6) bs.length (bs.flatMap u8c) :: (F.set i emp)) := (((H17.move 2 rfl).move 2 rfl).drop 2 rfl)
  have H19 : St W w (SrcA b bs p :: (F.set i emp)) := St.shut_ex (.slice pp5 bs.length cc6) (St.shut_star (ls := [blk b (.cells #[.bool true, .slice pp5 bs.length cc6, .int .i64 ((p : Nat) : Int)] 121 (0, 0)), Im 1 (.slice pp5 bs.length cc6) bs.length (bs.flatMap u8c)]) H18)
  refine r_cons (s_call [.pointer (some ⟨b, 0, none⟩)] pl_110 rfl rfl (Src_Nat b bs p (by first | omega | decide +kernel | (repeat (first | assumption | exact Nat.zero_le _ | refine natN_pos ?_ | refine srcN_pos ?_ | refine textN_pos ?_))) (by first | omega | decide +kernel)   (i := 0) rfl H19) ?_)
  rintro _ w20 ⟨rfl, H21⟩
  refine r_cons (s_move (.tuple #[.int .u64 (natU (remB bs p) : Int), .int .i64 (natE (remB bs p))]) rfl rfl ?_)
  refine r_cons (s_extract (.int .u64 (natU (remB bs p) : Int)) #[.int .u64 (natU (remB bs p) : Int), .int .i64 (natE (remB bs p))] rfl rfl rfl ?_)
  refine r_cons (s_extract (.int .i64 (natE (remB bs p))) #[.int .u64 (natU (remB bs p) : Int), .int .i64 (natE (remB bs p))] rfl rfl rfl ?_)
  refine r_cons (s_assign (.int .u64 (natU (remB bs p) : Int)) rfl rfl ?_)
  refine r_cons (s_assign (.int .i64 (natE (remB bs p))) rfl rfl ?_)
  refine r_nil ?_
  refine g_seq ?_
  refine g_seq ?_
  refine g_region ?_
  refine r_cons (s_move (.int .i64 (natE (remB bs p))) rfl rfl ?_)
  by_cases hc22 : natE (remB bs p) = 0
  · skip
    refine r_cons (s_neq false rfl rfl (ntrue hc22) rfl ?_)
    refine r_nil ?_
    refine g_false rfl ?_
    refine g_skip ?_
    refine g_seq ?_
    refine g_seq ?_
    refine g_region ?_
    refine r_cons (s_move (.int .u64 (natU (remB bs p) : Int)) rfl rfl ?_)
    refine r_cons (s_move (.pointer (some ⟨b, 0, none⟩)) rfl rfl ?_)
    have hL := remB_len bs p
    have hL2 := remB_len bs (p + natN (remB bs p))
    refine r_cons (s_call [.pointer (some ⟨b, 0, none⟩)] pl_54 rfl rfl (Src_Left b bs (p + natN (remB bs p)) (by first | omega | decide +kernel | (repeat (first | assumption | exact Nat.zero_le _ | refine natN_pos ?_ | refine srcN_pos ?_ | refine textN_pos ?_))) (by first | omega | decide +kernel)   (i := 0) rfl H21) ?_)
    rintro _ w23 ⟨rfl, H24⟩
    refine r_cons (s_quo ((((remB bs (p + natN (remB bs p))).length) / 8 : Nat) : Int) rfl rfl (by omega) (by rw [tdiv_pos (by omega)]; exact wi64 (by omega)) rfl ?_)
    refine r_cons (s_conv ((((remB bs (p + natN (remB bs p))).length) / 8 : Nat) : Int) rfl us_3 ik_62 (wu64 (by omega)) rfl ?_)
    by_cases hc25 : ((((remB bs (p + natN (remB bs p))).length) / 8 : Nat) : Int) < (natU (remB bs p) : Int)
    · skip
      refine r_cons (s_gtr true rfl rfl (dtrue hc25) rfl ?_)
      refine r_nil ?_
      refine g_true rfl ?_
      refine g_seq ?_
      refine g_region ?_
      refine r_cons (s_move (.pointer (some ⟨b, 0, none⟩)) rfl rfl ?_)
      refine r_cons (s_move (.int .i64 ((p : Nat) : Int)) rfl rfl ?_)
      refine r_cons (s_call [.pointer (some ⟨b, 0, none⟩), .int .i64 ((p : Nat) : Int), .int .i64 10] pl_116 rfl rfl (Src_back_no b bs (p + natN (remB bs p)) (p) 10 (by decide) (i := 0) rfl H24) ?_)
      rintro _ w26 ⟨rfl, H27⟩
      refine r_cons (s_assign (.string ByteArray.empty) rfl rfl ?_)
      refine r_cons (s_assign (.int .i64 10) rfl rfl ?_)
      refine r_nil ?_
      refine g_ret' [.string ByteArray.empty, .int .i64 10] Try.func111 Try.results111 ⟨rfl, rfl, trivial⟩ ?_
      have H28 : St W w26 (SrcA b bs p :: (F.set i emp)) := H27
      have hT : textE (remB bs p) = 10 := textE_10 (by assumption) (by omega)
      have hT0 : ¬ textE (remB bs p) = 0 := by rw [hT]; first | assumption | decide
      exact ⟨by rw [textS_0 hT0, hT]; rfl, by rw [textN_no hT0]; exact St.back hi H28⟩
    · skip
      refine r_cons (s_gtr false rfl rfl (dfalse hc25) rfl ?_)
      refine r_nil ?_
      refine g_false rfl ?_
      refine g_skip ?_
      refine g_seq ?_
      refine g_region ?_
      refine r_cons (s_move (.int .u64 (natU (remB bs p) : Int)) rfl rfl ?_)
      refine r_cons (s_make H24 (natU (remB bs p) : Int) 1 1 rfl rfl un_66 in_5 (by omega) (by omega) (by omega) (by exact made_bytes (natU (remB bs p))) rfl ?_); intro bk29 w30 H31
      have H32 : St W w30 (Row 5 1 (.slice (some ⟨bk29, 0, none⟩) (natU (remB bs p)) (natU (remB bs p))) (natU (remB bs p)) ((List.replicate (natU (remB bs p)) (0 : UInt8)).flatMap u8c) :: SrcA b bs (p + natN (remB bs p)) :: (F.set i emp)) := Row.of_list (xs := (List.replicate (natU (remB bs p)) (0 : UInt8)).flatMap u8c) (n := natU (remB bs p)) H31 (i := 0) rfl (by unfold maxLen; omega) (by simp [flat1, u8c_len, blc_len]) (by intro x hx; first | exact one_u8 _ x hx | exact one_bl _ x hx)
      have H33 : St W w30 (Row 5 1 (.slice (some ⟨bk29, 0, none⟩) (natU (remB bs p)) (natU (remB bs p))) (natU (remB bs p)) ((textP (remB bs p) 0).flatMap u8c) :: SrcA b bs (p + natN (remB bs p)) :: (F.set i emp)) := by rw [textP_0]; exact H32
      refine r_cons (s_assign (.slice (some ⟨bk29, 0, none⟩) (natU (remB bs p)) (natU (remB bs p))) rfl rfl ?_)
      refine r_nil ?_
      refine g_seq ?_
      refine g_seq ?_
      refine g_region ?_
      refine r_cons (s_move (.slice (some ⟨bk29, 0, none⟩) (natU (remB bs p)) (natU (remB bs p))) rfl rfl ?_)
      refine r_cons (s_len (natU (remB bs p)) rfl ⟨_, un_66⟩ rfl ?_)
      refine r_cons (s_move (.int .i64 0) rfl rfl ?_)
      refine r_nil ?_
      refine g_block ?_
      have H34 : St W w30 (Row 5 1 (.slice (some ⟨bk29, 0, none⟩) (natU (remB bs p)) (natU (remB bs p))) (natU (remB bs p)) ((textP (remB bs p) 0).flatMap u8c) :: SrcA b bs (p + natN (remB bs p) + 8 * 0) :: (F.set i emp)) := H33
      have H35 : St W w30 (Row 5 1 (.slice (some ⟨bk29, 0, none⟩) (natU (remB bs p)) (natU (remB bs p))) (natU (remB bs p)) ((textP (remB bs p) 0).flatMap u8c) :: SrcA b bs (p + natN (remB bs p) + 8 * 0) :: (F.set i emp)) := ((H34.move 1 rfl).move 1 rfl)
      refine g_loop_inv (fun (x_ : Nat × (Option Addr) × Nat) => match x_ with | (j, pq, cq) => [(0, .pointer (some ⟨b, 0, none⟩)), (2, .string ByteArray.empty), (3, .int .i64 0), (7, .slice pq (natU (remB bs p)) cq), (44, .int .i64 (natU (remB bs p) : Int)), (45, .int .i64 (j : Int))]) (fun (x_ : Nat × (Option Addr) × Nat) w => match x_ with | (j, pq, cq) => (j ≤ natU (remB bs p)) ∧ St W w (Row 5 1 (.slice pq (natU (remB bs p)) cq) (natU (remB bs p)) ((textP (remB bs p) j).flatMap u8c) :: SrcA b bs (p + natN (remB bs p) + 8 * j) :: (F.set i emp))) (fun (x_ : Nat × (Option Addr) × Nat) => match x_ with | (j, pq, cq) => natU (remB bs p) - j) (0, (some ⟨bk29, 0, none⟩), natU (remB bs p)) ?_ ?_ ?_
      · exact ⟨by first | rfl | exact vint (by omega), by first | rfl | exact vint (by omega), by first | rfl | exact vint (by omega), by first | rfl | exact vint (by omega), by first | rfl | exact vint (by omega), by first | rfl | exact vint (by omega), trivial⟩
      · exact ⟨(by omega), H35⟩
      · rintro ⟨j, pq, cq⟩ ρ36 w37 ⟨hj, H38⟩ nx39
        change Ends _ _ (upds ρ36 [(0, .pointer (some ⟨b, 0, none⟩)), (2, .string ByteArray.empty), (3, .int .i64 0), (7, .slice pq (natU (remB bs p)) cq), (44, .int .i64 (natU (remB bs p) : Int)), (45, .int .i64 (j : Int))]) w37
        refine g_seq ?_
        refine g_region ?_
        by_cases hc40 : (j : Int) < (natU (remB bs p) : Int)
        · skip
          refine r_cons (s_lss true rfl rfl (dtrue hc40) rfl ?_)
          refine r_nil ?_
          refine g_seq ?_
          refine g_true rfl ?_
          refine g_skip ?_
          refine g_seq ?_
          refine g_block ?_
          refine g_seq ?_
          refine g_region ?_
          refine r_cons (s_move (.int .i64 (j : Int)) rfl rfl ?_)
          refine r_cons (s_assign (.int .i64 (j : Int)) rfl rfl ?_)
          refine r_nil ?_
          refine g_seq ?_
          refine g_region ?_
          refine r_cons (s_move (.pointer (some ⟨b, 0, none⟩)) rfl rfl ?_)
          have hL3 := remB_len bs (p + natN (remB bs p) + 8 * j)
          have hE8 : srcE (remB bs (p + natN (remB bs p) + 8 * j)) 8 = 0 := srcE_0 (by omega) (by omega)
          have hN8 : srcN (remB bs (p + natN (remB bs p) + 8 * j)) 8 = 8 := srcN_0 hE8
          have hU8 : srcU (remB bs (p + natN (remB bs p) + 8 * j)) 8 < 256 := srcU_lt_pow (k := 8)
          have hB8 : byteT (remB bs p) j = UInt8.ofNat (srcU (remB bs (p + natN (remB bs p) + 8 * j)) 8) := by unfold byteT; rw [srcU_0 hE8, remB_drop, ← Nat.add_assoc]; rfl
          refine r_cons (s_call [.pointer (some ⟨b, 0, none⟩), .int .i64 8] pl_51 rfl rfl (Src_Bits b bs (p + natN (remB bs p) + 8 * j) (by first | omega | decide +kernel | (repeat (first | assumption | exact Nat.zero_le _ | refine natN_pos ?_ | refine srcN_pos ?_ | refine textN_pos ?_))) (by first | omega | decide +kernel) 8  (i := 1) rfl H38) ?_)
          rintro _ w41 ⟨rfl, H42⟩
          refine r_cons (s_move (.tuple #[.int .u64 (srcU (remB bs (p + natN (remB bs p) + 8 * j)) 8 : Int), .int .i64 (srcE (remB bs (p + natN (remB bs p) + 8 * j)) 8)]) rfl rfl ?_)
          refine r_cons (s_extract (.int .u64 (srcU (remB bs (p + natN (remB bs p) + 8 * j)) 8 : Int)) #[.int .u64 (srcU (remB bs (p + natN (remB bs p) + 8 * j)) 8 : Int), .int .i64 (srcE (remB bs (p + natN (remB bs p) + 8 * j)) 8)] rfl rfl rfl ?_)
          refine r_cons (s_extract (.int .i64 (srcE (remB bs (p + natN (remB bs p) + 8 * j)) 8)) #[.int .u64 (srcU (remB bs (p + natN (remB bs p) + 8 * j)) 8 : Int), .int .i64 (srcE (remB bs (p + natN (remB bs p) + 8 * j)) 8)] rfl rfl rfl ?_)
          refine r_cons (s_assign (.int .u64 (srcU (remB bs (p + natN (remB bs p) + 8 * j)) 8 : Int)) rfl rfl ?_)
          refine r_cons (s_assign (.int .i64 (srcE (remB bs (p + natN (remB bs p) + 8 * j)) 8)) rfl rfl ?_)
          refine r_nil ?_
          refine g_region ?_
          refine r_cons (s_move (.slice pq (natU (remB bs p)) cq) rfl rfl ?_)
          refine r_cons (s_move (.int .i64 (j : Int)) rfl rfl ?_)
          refine r_cons (s_move (.int .u64 (srcU (remB bs (p + natN (remB bs p) + 8 * j)) 8 : Int)) rfl rfl ?_)
          refine r_cons (s_conv (srcU (remB bs (p + natN (remB bs p) + 8 * j)) 8 : Int) rfl us_62 ik_5 (wu8 (by omega)) rfl ?_)
          obtain ⟨bk43, cur44, hp45, h46, h47, h48, h49, h50, H51⟩ := Row.open2 H42 (i := 0) rfl (by omega)
          refine r_cons (s_indexAddr bk43 (off := 0) (j : Int) 1 (0 + j * 1) (by exact congrArg (fun z_ => Value.slice z_ (natU (remB bs p)) cq) ((fun (_ : 0 < 1) => hp45) (by omega))) rfl el_66 (by omega) rfl rfl ?_)
          have hx54 := row_set1 (f := u8c) (L := textP (remB bs p) j) (cur := cur44) u8c_len (by rw [(textP_len (remB bs p) j)]; exact h49) (show (textP (remB bs p) j).length * 1 ≤ cur44.size by rw [(textP_len (remB bs p) j), h48]; exact Nat.mul_le_mul_right 1 h46) (j := j) (by have hh := (textP_len (remB bs p) j); omega) 0 (.int .u8 (srcU (remB bs (p + natN (remB bs p) + 8 * j)) 8 : Int)) (byteT (remB bs p) j) ((by rw [hB8]; exact u8_set hU8))
          refine r_cons (s_store H51 0 (.int .u8 (srcU (remB bs (p + natN (remB bs p) + 8 * j)) 8 : Int)) rfl rfl rfl sz_5 rfl (by have hh := (textP_len (remB bs p) j); have hk := (show (textP (remB bs p) j).length * 1 ≤ cur44.size by rw [(textP_len (remB bs p) j), h48]; exact Nat.mul_le_mul_right 1 h46); omega) rfl (cs' := (cur44.setIfInBounds (0 + j * 1) (.int .u8 (srcU (remB bs (p + natN (remB bs p) + 8 * j)) 8 : Int)))) rfl ?_); intro w52 H53
          refine r_nil ?_
          refine g_inBlock ?_
          refine g_region ?_
          refine r_cons (s_add ((j : Int) + 1) rfl rfl (wi64 (by omega)) rfl ?_)
          refine r_cons (s_move (.int .i64 ((j : Int) + 1)) rfl rfl ?_)
          refine r_nil ?_
          have H55 := Row.shut2 (p := pq) (n := natU (remB bs p)) (c := cq) (size := 1) (xs := (textP (remB bs p) (j + 1)).flatMap u8c) H53 (i := 0) rfl hp45 h46 h47 (by rw [Array.size_setIfInBounds]; exact h48) (by have hh : ((cur44.setIfInBounds (0 + j * 1) (.int .u8 (srcU (remB bs (p + natN (remB bs p) + 8 * j)) 8 : Int))).toList.drop 0).take (((textP (remB bs p) j).set j (byteT (remB bs p) j)).length * 1) = ((textP (remB bs p) j).set j (byteT (remB bs p) j)).flatMap u8c := hx54; have hk : ((textP (remB bs p) j).set j (byteT (remB bs p) j)).length = natU (remB bs p) := (by rw [List.length_set]; exact (textP_len (remB bs p) j)); rw [hk] at hh; rw [(textP_succ (by omega)).symm] at hh; exact hh) (one_u8 _)
          have H56 : St W w52 (Row 5 1 (.slice pq (natU (remB bs p)) cq) (natU (remB bs p)) ((textP (remB bs p) (j + 1)).flatMap u8c) :: SrcA b bs (p + natN (remB bs p) + 8 * (j + 1)) :: (F.set i emp)) := by rw [show p + natN (remB bs p) + 8 * (j + 1) = p + natN (remB bs p) + 8 * j + srcN (remB bs (p + natN (remB bs p) + 8 * j)) 8 from by rw [hN8]; omega]; exact H55
          have H57 : St W w52 (Row 5 1 (.slice pq (natU (remB bs p)) cq) (natU (remB bs p)) ((textP (remB bs p) (j + 1)).flatMap u8c) :: SrcA b bs (p + natN (remB bs p) + 8 * (j + 1)) :: (F.set i emp)) := ((H56.move 1 rfl).move 1 rfl)
          exact nx39 (j + 1, pq, cq) _ _ ⟨(by omega), H57⟩ (by first | (dsimp only; omega) | omega) ⟨by first | rfl | exact vint (by omega), by first | rfl | exact vint (by omega), by first | rfl | exact vint (by omega), by first | rfl | exact vint (by omega), by first | rfl | exact vint (by omega), by first | rfl | exact vint (by omega), trivial⟩
        · skip
          refine r_cons (s_lss false rfl rfl (dfalse hc40) rfl ?_)
          refine r_nil ?_
          refine g_seq ?_
          refine g_false rfl ?_
          refine g_exit (by rfl) ?_
          refine g_seq ?_
          refine g_region ?_
          refine r_cons (s_move (.slice pq (natU (remB bs p)) cq) rfl rfl ?_)
          refine r_cons (s_bytes_str (xs := (textP (remB bs p) j)) rfl (by rw [bytesV_flat]; exact (Row.rd H38 (i := 0) rfl)) un_66 un_5 un_9 rfl ?_)
          refine r_cons (s_assign (.string (⟨((textP (remB bs p) j)).toArray⟩)) rfl rfl ?_)
          refine r_cons (s_assign (.int .i64 0) rfl rfl ?_)
          refine r_nil ?_
          refine g_ret' [.string (⟨((textP (remB bs p) j)).toArray⟩), .int .i64 0] Try.func111 Try.results111 ⟨rfl, rfl, trivial⟩ ?_
          have H58 : St W w37 (SrcA b bs (p + natN (remB bs p) + 8 * j) :: (F.set i emp)) := ((H38.move 1 rfl).drop 1 rfl)
          have hT : textE (remB bs p) = 0 := textE_0 (by assumption) (by omega)
          obtain rfl : j = natU (remB bs p) := by omega
          exact ⟨by rw [hT, textP_all hT]; rfl, by rw [textN_0 hT, ← Nat.add_assoc]; exact St.back hi H58⟩
  · skip
    refine r_cons (s_neq true rfl rfl (nfalse hc22) rfl ?_)
    refine r_nil ?_
    refine g_true rfl ?_
    refine g_seq ?_
    refine g_region ?_
    refine r_cons (s_move (.int .i64 (natE (remB bs p))) rfl rfl ?_)
    refine r_cons (s_assign (.string ByteArray.empty) rfl rfl ?_)
    refine r_cons (s_assign (.int .i64 (natE (remB bs p))) rfl rfl ?_)
    refine r_nil ?_
    refine g_ret' [.string ByteArray.empty, .int .i64 (natE (remB bs p))] Try.func111 Try.results111 ⟨rfl, rfl, trivial⟩ ?_
    have H59 : St W w20 (SrcA b bs (p + natN (remB bs p)) :: (F.set i emp)) := H21
    have hT : textE (remB bs p) = natE (remB bs p) := textE_nat (by assumption)
    have hT0 : ¬ textE (remB bs p) = 0 := by rw [hT]; first | assumption | decide
    exact ⟨by rw [textS_0 hT0, hT]; rfl, by rw [textN_no hT0]; have hx := H59; rw [natN_no (by assumption)] at hx; exact St.back hi hx⟩
set_option maxHeartbeats 4000000 in
set_option maxRecDepth 100000 in
theorem ref01_value {W w : World} {F : List Atom} (v0 : Value) (n : Nat) (R : List Bool) (hR : R.length = n) (hn : n ≤ 64) {j : Nat} (hj : F[j]? = some (Im 1 v0 n (R.flatMap blc))) (H : St W w F) : Calls Try.prog 113 #[v0] w (Ret fun v w' => v = .int .u64 (valOf R : Int) ∧ St W w' F) := by
  subst hR
  obtain ⟨pA1, cA2, gA3, oA4, kA5, eA6, zA7, rfl, hn8, hp9, hx10, hs11, hml, H12⟩ := Im.open_ H hj
  refine calls_of_go (n := 20) Try.func113 rfl Try.ntmps113 rfl ?_
  refine g_seq ?_
  refine g_region ?_
  refine r_cons (s_assign (.int .u64 0) rfl rfl ?_)
  refine r_nil ?_
  refine g_seq ?_
  refine g_region ?_
  refine r_cons (s_assign (.int .u64 0) rfl rfl ?_)
  refine r_nil ?_
  refine g_seq ?_
  refine g_seq ?_
  refine g_region ?_
  refine r_cons (s_assign (.int .i64 0) rfl rfl ?_)
  refine r_nil ?_
  refine g_block ?_
  refine g_loop_inv (fun (x_ : Nat) => match x_ with | j => [(0, .slice pA1 R.length cA2), (2, .int .u64 0), (3, .int .u64 (valOf (R.take j) : Int)), (4, .int .i64 (j : Int))]) (fun (x_ : Nat) w => match x_ with | j => (j ≤ R.length) ∧ St W w (imi (0 < R.length) gA3 (.cells kA5 eA6 zA7) :: F)) (fun (x_ : Nat) => match x_ with | j => R.length - j) (0) ?_ ?_ ?_
  · exact ⟨by first | rfl | exact vint (by omega), by first | rfl | exact vint (by omega), by first | rfl | exact vint (by omega), by first | rfl | exact vint (by omega), trivial⟩
  · exact ⟨(by omega), H12⟩
  · rintro j ρ13 w14 ⟨hj, H15⟩ nx16
    change Ends _ _ (upds ρ13 [(0, .slice pA1 R.length cA2), (2, .int .u64 0), (3, .int .u64 (valOf (R.take j) : Int)), (4, .int .i64 (j : Int))]) w14
    refine g_seq ?_
    refine g_seq ?_
    refine g_region ?_
    refine r_cons (s_move (.int .i64 (j : Int)) rfl rfl ?_)
    refine r_cons (s_move (.slice pA1 R.length cA2) rfl rfl ?_)
    refine r_cons (s_len R.length rfl ⟨_, un_50⟩ rfl ?_)
    by_cases hc17 : (j : Int) < (R.length : Int)
    · skip
      refine r_cons (s_lss true rfl rfl (dtrue hc17) rfl ?_)
      refine r_nil ?_
      refine g_true rfl ?_
      refine g_skip ?_
      refine g_seq ?_
      refine g_block ?_
      refine g_seq ?_
      refine g_region ?_
      refine r_cons (s_move (.int .u64 (valOf (R.take j) : Int)) rfl rfl ?_)
      have hv := val_take_lt63 R (j := j) (by omega)
      refine r_cons (s_mul ((valOf (R.take j) * 2 : Nat) : Int) rfl rfl ((wu64 (by omega)).trans (by omega)) rfl ?_)
      refine r_cons (s_assign (.int .u64 ((valOf (R.take j) * 2 : Nat) : Int)) rfl rfl ?_)
      refine r_nil ?_
      refine g_seq ?_
      refine g_region ?_
      refine r_cons (s_move (.slice pA1 R.length cA2) rfl rfl ?_)
      refine r_cons (s_move (.int .i64 (j : Int)) rfl rfl ?_)
      refine r_cons (s_indexAddr gA3 (off := oA4) (j : Int) 1 (oA4 + j * 1) (by exact congrArg (fun z_ => Value.slice z_ R.length cA2) (hp9 (by omega))) rfl el_50 (by omega) rfl rfl ?_)
      refine r_cons (s_load (.bool (R.getD j false)) ag_4 rfl (H15.imi_at (i := 0) rfl (by omega)) (elem_cell (L := R) (i := j) blc_len (hx10 (by omega)) (by omega) false 0 (by decide) _ rfl) rfl ?_)
      refine r_nil ?_
      by_cases hb18 : (R.getD j false) = true
      · skip
        refine g_true (congrArg Value.bool hb18) ?_
        refine g_region ?_
        refine r_cons (s_move (.int .u64 ((valOf (R.take j) * 2 : Nat) : Int)) rfl rfl ?_)
        refine r_cons (s_add ((valOf (R.take j) * 2 + 1 : Nat) : Int) rfl rfl ((wu64 (by omega)).trans (by omega)) rfl ?_)
        refine r_cons (s_assign (.int .u64 ((valOf (R.take j) * 2 + 1 : Nat) : Int)) rfl rfl ?_)
        refine r_nil ?_
        refine g_inBlock ?_
        refine g_region ?_
        refine r_cons (s_move (.int .i64 (j : Int)) rfl rfl ?_)
        refine r_cons (s_add ((j : Int) + 1) rfl rfl (wi64 (by omega)) rfl ?_)
        refine r_cons (s_assign (.int .i64 ((j : Int) + 1)) rfl rfl ?_)
        refine r_nil ?_
        exact nx16 (j + 1) _ _ ⟨(by omega), H15⟩ (by first | (dsimp only; omega) | omega) ⟨by first | rfl | exact vint (by omega), by first | rfl | exact vint (by omega), vint (by rw [valOf_take (by omega), hb18]; first | rfl | (simp only [Bool.toNat_true, Bool.toNat_false]; omega)), by first | rfl | exact vint (by omega), trivial⟩
      · have hb18 := eq_false_of_ne_true hb18
        refine g_false (congrArg Value.bool hb18) ?_
        refine g_skip ?_
        refine g_inBlock ?_
        refine g_region ?_
        refine r_cons (s_move (.int .i64 (j : Int)) rfl rfl ?_)
        refine r_cons (s_add ((j : Int) + 1) rfl rfl (wi64 (by omega)) rfl ?_)
        refine r_cons (s_assign (.int .i64 ((j : Int) + 1)) rfl rfl ?_)
        refine r_nil ?_
        exact nx16 (j + 1) _ _ ⟨(by omega), H15⟩ (by first | (dsimp only; omega) | omega) ⟨by first | rfl | exact vint (by omega), by first | rfl | exact vint (by omega), vint (by rw [valOf_take (by omega), hb18]; first | rfl | (simp only [Bool.toNat_true, Bool.toNat_false]; omega)), by first | rfl | exact vint (by omega), trivial⟩
    · skip
      refine r_cons (s_lss false rfl rfl (dfalse hc17) rfl ?_)
      refine r_nil ?_
      refine g_false rfl ?_
      refine g_exit (by rfl) ?_
      refine g_seq ?_
      refine g_region ?_
      refine r_cons (s_move (.int .u64 (valOf (R.take j) : Int)) rfl rfl ?_)
      refine r_cons (s_assign (.int .u64 (valOf (R.take j) : Int)) rfl rfl ?_)
      refine r_nil ?_
      refine g_ret' [.int .u64 (valOf (R.take j) : Int)] Try.func113 Try.results113 ⟨rfl, trivial⟩ ?_
      have H19 : St W w14 F := (H15.drop 0 rfl)
      obtain rfl : j = R.length := by omega
      exact ⟨vint (by rw [List.take_length]), H19⟩
/-- Bits that are taken, of the reference. -/
def RSrc (b : Nat) (R : List Bool) : Atom := ex fun v : Value => star [blk b (.cells #[v] 83 (0, 0)), Im 1 v R.length (R.flatMap blc)]
set_option maxHeartbeats 4000000 in
set_option maxRecDepth 100000 in
theorem RSrc_Bits {W w : World} {F : List Atom} (b : Nat) (R : List Bool) (n : Int) {i : Nat} (hi : F[i]? = some (RSrc b R)) (H : St W w F) : Calls Try.prog 104 #[.pointer (some ⟨b, 0, none⟩), .int .i64 n] w (Ret fun v w' => v = .tuple #[.int .u64 (srcU R n : Int), .int .i64 (srcE R n)] ∧ St W w' (F.set i (RSrc b (R.drop (srcN R n))))) := by
  have H0 := H.front hi
  refine calls_of_go (n := 37) Try.func104 rfl Try.ntmps104 rfl ?_
  refine g_seq ?_
  refine g_region ?_
  refine r_cons (s_assign (.int .u64 0) rfl rfl ?_)
  refine r_cons (s_assign (.int .i64 0) rfl rfl ?_)
  refine r_nil ?_
  refine g_seq ?_
  refine g_seq ?_
  refine g_region ?_
  refine r_cons (s_move (.int .i64 n) rfl rfl ?_)
  by_cases hc1 : n < 0
  · skip
    refine r_cons (s_lss true rfl rfl (dtrue hc1) rfl ?_)
    refine r_cons (s_move (.bool true) rfl rfl ?_)
    refine r_cons (r_pass rfl rfl rfl rfl rfl ?_)
    refine r_cons (r_pass rfl rfl rfl rfl rfl ?_)
    refine r_cons (s_pick_t (.bool true) rfl rfl rfl ?_)
    refine r_nil ?_
    refine g_true rfl ?_
    refine g_seq ?_
    refine g_region ?_
    refine r_cons (s_assign (.int .u64 0) rfl rfl ?_)
    refine r_cons (s_assign (.int .i64 1) rfl rfl ?_)
    refine r_nil ?_
    refine g_ret' [.int .u64 0, .int .i64 1] Try.func104 Try.results104 ⟨rfl, rfl, trivial⟩ ?_
    have H2 : St W w (RSrc b R :: (F.set i emp)) := H0
    have hE : srcE R n = 1 := by first | exact srcE_1 (by omega) | exact srcE_10 (by omega) (by omega)
    have hE0 : ¬ srcE R n = 0 := by rw [hE]; decide
    exact ⟨by rw [srcU_no hE0, hE]; rfl, by rw [srcN_no hE0, List.drop_zero]; exact St.back hi H2⟩
  · skip
    refine r_cons (s_lss false rfl rfl (dfalse hc1) rfl ?_)
    refine r_cons (s_move (.bool false) rfl rfl ?_)
    refine r_cons (r_take rfl rfl ?_)
    refine s_move (.int .i64 n) rfl rfl ?_
    refine r_cons (r_take rfl rfl ?_)
    by_cases hc3 : (64 : Int) < n
    · skip
      refine s_gtr true rfl rfl (dtrue hc3) rfl ?_
      refine r_cons (s_pick_f (.bool true) rfl rfl rfl ?_)
      refine r_nil ?_
      refine g_true rfl ?_
      refine g_seq ?_
      refine g_region ?_
      refine r_cons (s_assign (.int .u64 0) rfl rfl ?_)
      refine r_cons (s_assign (.int .i64 1) rfl rfl ?_)
      refine r_nil ?_
      refine g_ret' [.int .u64 0, .int .i64 1] Try.func104 Try.results104 ⟨rfl, rfl, trivial⟩ ?_
      have H4 : St W w (RSrc b R :: (F.set i emp)) := H0
      have hE : srcE R n = 1 := by first | exact srcE_1 (by omega) | exact srcE_10 (by omega) (by omega)
      have hE0 : ¬ srcE R n = 0 := by rw [hE]; decide
      exact ⟨by rw [srcU_no hE0, hE]; rfl, by rw [srcN_no hE0, List.drop_zero]; exact St.back hi H4⟩
    · skip
      refine s_gtr false rfl rfl (dfalse hc3) rfl ?_
      refine r_cons (s_pick_f (.bool false) rfl rfl rfl ?_)
      refine r_nil ?_
      refine g_false rfl ?_
      refine g_skip ?_
      refine g_seq ?_
      refine g_seq ?_
      refine g_region ?_
      refine r_cons (s_move (.int .i64 n) rfl rfl ?_)
      refine r_cons (s_move (.pointer (some ⟨b, 0, none⟩)) rfl rfl ?_)
      refine r_cons (s_nilCheck (.pointer (some ⟨b, 0, none⟩)) rfl ⟨_, rfl⟩ rfl ?_)
      refine r_cons (s_fieldAddr 83 0 0 0 50 rfl fi_83_0 rfl rfl ?_)
      have H5 := H0.move 0 rfl
      obtain ⟨vv6, H7⟩ := St.open_ex H5
      have H8 := St.open_star H7
      obtain ⟨pp9, cc10, gA11, oA12, kA13, eA14, zA15, rfl, hn16, hp17, hx18, hs19, hml, H20⟩ := Im.open_ H8 (i := 1) rfl
      have H21 : St W w (imi (0 < R.length) gA11 (.cells kA13 eA14 zA15) :: blk b (.cells #[.slice pp9 R.length cc10] 83 (0, 0)) :: Im 1 (.slice pp9 R.length cc10) R.length (R.flatMap blc) :: (F.set i emp)) := H20
      refine r_cons (s_load (.slice pp9 R.length cc10) ag_50 rfl (H21.blk_at (i := 1) rfl) rfl rfl ?_)
      refine r_cons (s_len R.length rfl ⟨_, un_50⟩ rfl ?_)
      by_cases hc22 : (R.length : Int) < n
      · skip
        refine r_cons (s_gtr true rfl rfl (dtrue hc22) rfl ?_)
        refine r_nil ?_
        refine g_true rfl ?_
        refine g_seq ?_
        refine g_region ?_
        refine r_cons (s_assign (.int .u64 0) rfl rfl ?_)
        refine r_cons (s_assign (.int .i64 10) rfl rfl ?_)
        refine r_nil ?_
        refine g_ret' [.int .u64 0, .int .i64 10] Try.func104 Try.results104 ⟨rfl, rfl, trivial⟩ ?_
        have H23 : St W w (blk b (.cells #[.slice pp9 R.length cc10] 83 (0, 0)) :: Im 1 (.slice pp9 R.length cc10) R.length (R.flatMap blc) :: (F.set i emp)) := (((H21.move 2 rfl).move 2 rfl).drop 2 rfl)
        have H24 : St W w (RSrc b R :: (F.set i emp)) := St.shut_ex (.slice pp9 R.length cc10) (St.shut_star (ls := [blk b (.cells #[.slice pp9 R.length cc10] 83 (0, 0)), Im 1 (.slice pp9 R.length cc10) R.length (R.flatMap blc)]) H23)
        have H25 : St W w (RSrc b R :: (F.set i emp)) := H24
        have hE : srcE R n = 10 := by first | exact srcE_1 (by omega) | exact srcE_10 (by omega) (by omega)
        have hE0 : ¬ srcE R n = 0 := by rw [hE]; decide
        exact ⟨by rw [srcU_no hE0, hE]; rfl, by rw [srcN_no hE0, List.drop_zero]; exact St.back hi H25⟩
      · skip
        refine r_cons (s_gtr false rfl rfl (dfalse hc22) rfl ?_)
        refine r_nil ?_
        refine g_false rfl ?_
        refine g_skip ?_
        refine g_seq ?_
        refine g_region ?_
        refine r_cons (s_move (.pointer (some ⟨b, 0, none⟩)) rfl rfl ?_)
        refine r_cons (s_nilCheck (.pointer (some ⟨b, 0, none⟩)) rfl ⟨_, rfl⟩ rfl ?_)
        refine r_cons (s_fieldAddr 83 0 0 0 50 rfl fi_83_0 rfl rfl ?_)
        refine r_cons (s_load (.slice pp9 R.length cc10) ag_50 rfl (H21.blk_at (i := 1) rfl) rfl rfl ?_)
        refine r_cons (s_move (.int .i64 n) rfl rfl ?_)
        have hc26 := Im.cap H21 (i := 2) rfl
        refine r_cons (s_slice_h pp9 n 1 (.slice pp9 n.toNat cc10) rfl rfl el_50 (by omega) (by first | rfl | (congr 1; omega)) rfl ?_)
        have H27 : St W w (Im 1 (.slice pp9 n.toNat cc10) n.toNat ((R.take n.toNat).flatMap blc) :: imi (0 < R.length) gA11 (.cells kA13 eA14 zA15) :: blk b (.cells #[.slice pp9 R.length cc10] 83 (0, 0)) :: Im 1 (.slice pp9 R.length cc10) R.length (R.flatMap blc) :: (F.set i emp)) := Im.cut_h blc_len n.toNat H21 (i := 2) rfl (by omega)
        refine r_cons (s_call [.slice pp9 n.toNat cc10] pl_113 rfl rfl (ref01_value _ _ (R.take n.toNat) (by first | rfl | (simp only [List.length_take, List.length_drop]; omega)) (by omega) (j := 0) rfl H27) ?_)
        rintro _ w28 ⟨rfl, H29⟩
        refine r_cons (s_assign (.int .u64 (valOf (R.take n.toNat) : Int)) rfl rfl ?_)
        refine r_nil ?_
        refine g_seq ?_
        refine g_region ?_
        refine r_cons (s_move (.pointer (some ⟨b, 0, none⟩)) rfl rfl ?_)
        refine r_cons (s_move (.pointer (some ⟨b, 0, none⟩)) rfl rfl ?_)
        refine r_cons (s_nilCheck (.pointer (some ⟨b, 0, none⟩)) rfl ⟨_, rfl⟩ rfl ?_)
        refine r_cons (s_fieldAddr 83 0 0 0 50 rfl fi_83_0 rfl rfl ?_)
        refine r_cons (s_load (.slice pp9 R.length cc10) ag_50 rfl (H29.blk_at (i := 2) rfl) rfl rfl ?_)
        refine r_cons (s_move (.int .i64 n) rfl rfl ?_)
        have hc30 := Im.cap H29 (i := 3) rfl
        refine r_cons (s_slice_l pp9 n 1 (.slice (cutAt pp9 n.toNat cc10 1) (R.length - n.toNat) (cc10 - n.toNat)) rfl rfl el_50 (by omega) (by first | rfl | (congr 1; omega)) rfl ?_)
        have H31 : St W w28 (Im 1 (.slice (cutAt pp9 n.toNat cc10 1) (R.length - n.toNat) (cc10 - n.toNat)) (R.length - n.toNat) ((R.drop n.toNat).flatMap blc) :: Im 1 (.slice pp9 n.toNat cc10) n.toNat ((R.take n.toNat).flatMap blc) :: imi (0 < R.length) gA11 (.cells kA13 eA14 zA15) :: blk b (.cells #[.slice pp9 R.length cc10] 83 (0, 0)) :: Im 1 (.slice pp9 R.length cc10) R.length (R.flatMap blc) :: (F.set i emp)) := Im.cut_l blc_len n.toNat H29 (i := 3) rfl (by omega)
        refine r_cons (s_nilCheck (.pointer (some ⟨b, 0, none⟩)) rfl ⟨_, rfl⟩ rfl ?_)
        refine r_cons (s_fieldAddr 83 0 0 0 50 rfl fi_83_0 rfl rfl ?_)
        refine r_cons (s_store H31 3 (.slice (cutAt pp9 n.toNat cc10 1) (R.length - n.toNat) (cc10 - n.toNat)) rfl rfl rfl sz_50 rfl (Nat.le_of_ble_eq_true rfl) rfl (cs' := #[.slice (cutAt pp9 n.toNat cc10 1) (R.length - n.toNat) (cc10 - n.toNat)]) rfl ?_); intro w32 H33
        refine r_nil ?_
        refine g_seq ?_
        refine g_region ?_
        refine r_cons (s_move (.int .u64 (valOf (R.take n.toNat) : Int)) rfl rfl ?_)
        refine r_cons (s_assign (.int .u64 (valOf (R.take n.toNat) : Int)) rfl rfl ?_)
        refine r_cons (s_assign (.int .i64 0) rfl rfl ?_)
        refine r_nil ?_
        refine g_ret' [.int .u64 (valOf (R.take n.toNat) : Int), .int .i64 0] Try.func104 Try.results104 ⟨rfl, rfl, trivial⟩ ?_
        have H34 : St W w32 (blk b (.cells #[.slice (cutAt pp9 n.toNat cc10 1) (R.length - n.toNat) (cc10 - n.toNat)] 83 (0, 0)) :: Im 1 (.slice (cutAt pp9 n.toNat cc10 1) (R.length - n.toNat) (cc10 - n.toNat)) (R.length - n.toNat) ((R.drop n.toNat).flatMap blc) :: Im 1 (.slice pp9 n.toNat cc10) n.toNat ((R.take n.toNat).flatMap blc) :: Im 1 (.slice pp9 R.length cc10) R.length (R.flatMap blc) :: (F.set i emp)) := (((((H33.move 4 rfl).move 2 rfl).move 2 rfl).move 4 rfl).drop 4 rfl)
        have H35 : St W w32 (blk b (.cells #[.slice (cutAt pp9 n.toNat cc10 1) (R.length - n.toNat) (cc10 - n.toNat)] 83 (0, 0)) :: Im 1 (.slice (cutAt pp9 n.toNat cc10 1) (R.length - n.toNat) (cc10 - n.toNat)) ((R.drop n.toNat).length) ((R.drop n.toNat).flatMap blc) :: Im 1 (.slice pp9 n.toNat cc10) n.toNat ((R.take n.toNat).flatMap blc) :: Im 1 (.slice pp9 R.length cc10) R.length (R.flatMap blc) :: (F.set i emp)) := by rw [show (R.drop n.toNat).length = R.length - n.toNat from by simp only [List.length_drop, List.length_take]; (try omega)]; exact H34
        have H36 : St W w32 (RSrc b (R.drop n.toNat) :: Im 1 (.slice pp9 n.toNat cc10) n.toNat ((R.take n.toNat).flatMap blc) :: Im 1 (.slice pp9 R.length cc10) R.length (R.flatMap blc) :: (F.set i emp)) := St.shut_ex (.slice (cutAt pp9 n.toNat cc10 1) (R.length - n.toNat) (cc10 - n.toNat)) (St.shut_star (ls := [blk b (.cells #[.slice (cutAt pp9 n.toNat cc10 1) (R.length - n.toNat) (cc10 - n.toNat)] 83 (0, 0)), Im 1 (.slice (cutAt pp9 n.toNat cc10 1) (R.length - n.toNat) (cc10 - n.toNat)) ((R.drop n.toNat).length) ((R.drop n.toNat).flatMap blc)]) H35)
        have H37 : St W w32 (RSrc b (R.drop n.toNat) :: (F.set i emp)) := ((H36.drop 1 rfl).drop 1 rfl)
        have hE := srcE_0 (R := R) (n := n) (by omega) (by omega)
        exact ⟨by rw [hE, srcU_0 hE]; rfl, by rw [srcN_0 hE]; exact St.back hi H37⟩
set_option maxHeartbeats 4000000 in
set_option maxRecDepth 100000 in
theorem RSrc_Nat {W w : World} {F : List Atom} (b : Nat) (R : List Bool) {i : Nat} (hi : F[i]? = some (RSrc b R)) (H : St W w F) : Calls Try.prog 105 #[.pointer (some ⟨b, 0, none⟩)] w (Ret fun v w' => v = .tuple #[.int .u64 (natU R : Int), .int .i64 (natE R)] ∧ St W w' (F.set i (RSrc b (R.drop (natN R))))) := by
  have H0 := H.front hi
  refine calls_of_go (n := 75) Try.func105 rfl Try.ntmps105 rfl ?_
  refine g_seq ?_
  refine g_region ?_
  refine r_cons (s_assign (.int .u64 0) rfl rfl ?_)
  refine r_cons (s_assign (.int .i64 0) rfl rfl ?_)
  refine r_nil ?_
  refine g_seq ?_
  refine g_region ?_
  refine r_cons (s_assign (.int .i64 0) rfl rfl ?_)
  refine r_nil ?_
  refine g_seq ?_
  refine g_block ?_
  have H1 : St W w (RSrc b R :: (F.set i emp)) := H0
  refine g_loop_inv (fun (x_ : Nat) => match x_ with | k => [(0, .pointer (some ⟨b, 0, none⟩)), (2, .int .u64 0), (3, .int .i64 0), (4, .int .i64 (k : Int))]) (fun (x_ : Nat) w => match x_ with | k => (k ≤ 65) ∧ (k ≤ R.length) ∧ (∀ j, j < k → R.getD j false = false) ∧ St W w (RSrc b R :: (F.set i emp))) (fun (x_ : Nat) => match x_ with | k => 65 - k) (0) ?_ ?_ ?_
  · exact ⟨by first | rfl | exact vint (by omega), by first | rfl | exact vint (by omega), by first | rfl | exact vint (by omega), by first | rfl | exact vint (by omega), trivial⟩
  · exact ⟨(by omega), (by omega), (fun j hj => by omega), H1⟩
  · rintro k ρ2 w3 ⟨hk, hkr, hz, H4⟩ nx5
    change Ends _ _ (upds ρ2 [(0, .pointer (some ⟨b, 0, none⟩)), (2, .int .u64 0), (3, .int .i64 0), (4, .int .i64 (k : Int))]) w3
    refine g_seq ?_
    refine g_seq ?_
    refine g_region ?_
    refine r_cons (s_move (.int .i64 (k : Int)) rfl rfl ?_)
    refine r_cons (s_move (.pointer (some ⟨b, 0, none⟩)) rfl rfl ?_)
    refine r_cons (s_nilCheck (.pointer (some ⟨b, 0, none⟩)) rfl ⟨_, rfl⟩ rfl ?_)
    refine r_cons (s_fieldAddr 83 0 0 0 50 rfl fi_83_0 rfl rfl ?_)
    have H6 := H4.move 0 rfl
    obtain ⟨vv7, H8⟩ := St.open_ex H6
    have H9 := St.open_star H8
    obtain ⟨pp10, cc11, gA12, oA13, kA14, eA15, zA16, rfl, hn17, hp18, hx19, hs20, hml, H21⟩ := Im.open_ H9 (i := 1) rfl
    have H22 : St W w3 (imi (0 < R.length) gA12 (.cells kA14 eA15 zA16) :: blk b (.cells #[.slice pp10 R.length cc11] 83 (0, 0)) :: Im 1 (.slice pp10 R.length cc11) R.length (R.flatMap blc) :: (F.set i emp)) := H21
    refine r_cons (s_load (.slice pp10 R.length cc11) ag_50 rfl (H22.blk_at (i := 1) rfl) rfl rfl ?_)
    refine r_cons (s_len R.length rfl ⟨_, un_50⟩ rfl ?_)
    by_cases hc23 : (k : Int) < (R.length : Int)
    · skip
      refine r_cons (s_lss true rfl rfl (dtrue hc23) rfl ?_)
      refine r_cons (s_move (.bool true) rfl rfl ?_)
      refine r_cons (r_take rfl rfl ?_)
      refine s_move (.int .i64 (k : Int)) rfl rfl ?_
      refine r_cons (r_take rfl rfl ?_)
      by_cases hc24 : (k : Int) < 65
      · skip
        refine s_lss true rfl rfl (dtrue hc24) rfl ?_
        refine r_cons (s_pick_t (.bool true) rfl rfl rfl ?_)
        refine r_cons (s_move (.bool true) rfl rfl ?_)
        refine r_cons (r_take rfl rfl ?_)
        refine s_move (.pointer (some ⟨b, 0, none⟩)) rfl rfl ?_
        refine r_cons (r_take rfl rfl ?_)
        refine s_nilCheck (.pointer (some ⟨b, 0, none⟩)) rfl ⟨_, rfl⟩ rfl ?_
        refine r_cons (r_take rfl rfl ?_)
        refine s_fieldAddr 83 0 0 0 50 rfl fi_83_0 rfl rfl ?_
        refine r_cons (r_take rfl rfl ?_)
        refine s_load (.slice pp10 R.length cc11) ag_50 rfl (H22.blk_at (i := 1) rfl) rfl rfl ?_
        refine r_cons (r_take rfl rfl ?_)
        refine s_move (.int .i64 (k : Int)) rfl rfl ?_
        refine r_cons (r_take rfl rfl ?_)
        refine s_indexAddr gA12 (off := oA13) (k : Int) 1 (oA13 + k * 1) (by exact congrArg (fun z_ => Value.slice z_ R.length cc11) (hp18 (by omega))) rfl el_50 (by omega) rfl rfl ?_
        refine r_cons (r_take rfl rfl ?_)
        refine s_load (.bool (R.getD k false)) ag_4 rfl (H22.imi_at (i := 0) rfl (by omega)) (elem_cell (L := R) (i := k) blc_len (hx19 (by omega)) (by omega) false 0 (by decide) _ rfl) rfl ?_
        refine r_cons (r_take rfl rfl ?_)
        refine s_not (R.getD k false) rfl (!(R.getD k false)) rfl rfl ?_
        refine r_cons (s_pick_t (.bool (!(R.getD k false))) rfl rfl rfl ?_)
        refine r_nil ?_
        by_cases hb25 : (!(R.getD k false)) = true
        · skip
          refine g_true (congrArg Value.bool hb25) ?_
          refine g_skip ?_
          refine g_block ?_
          refine g_region ?_
          refine r_cons (s_move (.int .i64 (k : Int)) rfl rfl ?_)
          refine r_cons (s_add ((k : Int) + 1) rfl rfl (wi64 (by omega)) rfl ?_)
          refine r_cons (s_assign (.int .i64 ((k : Int) + 1)) rfl rfl ?_)
          refine r_nil ?_
          refine g_inBlock ?_
          have H26 : St W w3 (blk b (.cells #[.slice pp10 R.length cc11] 83 (0, 0)) :: Im 1 (.slice pp10 R.length cc11) R.length (R.flatMap blc) :: (F.set i emp)) := (((H22.move 2 rfl).move 2 rfl).drop 2 rfl)
          have H27 : St W w3 (RSrc b R :: (F.set i emp)) := St.shut_ex (.slice pp10 R.length cc11) (St.shut_star (ls := [blk b (.cells #[.slice pp10 R.length cc11] 83 (0, 0)), Im 1 (.slice pp10 R.length cc11) R.length (R.flatMap blc)]) H26)
          have H28 : St W w3 (RSrc b R :: (F.set i emp)) := H27
          exact nx5 (k + 1) _ _ ⟨(by omega), (by omega), (fun j hj => (Nat.lt_or_ge j k).elim (hz j) (fun h => by rw [show j = k from by omega]; simpa using hb25)), H28⟩ (by first | (dsimp only; omega) | omega) ⟨by first | rfl | exact vint (by omega), by first | rfl | exact vint (by omega), by first | rfl | exact vint (by omega), by first | rfl | exact vint (by omega), trivial⟩
        · have hb25 := eq_false_of_ne_true hb25
          refine g_false (congrArg Value.bool hb25) ?_
          refine g_exit (by rfl) ?_
          refine g_seq ?_
          refine g_seq ?_
          refine g_region ?_
          refine r_cons (s_move (.int .i64 (k : Int)) rfl rfl ?_)
          have hzz : zeros R = k := zeros_is hk hkr hz (by first | (left; omega) | (right; left; omega) | (right; right; simpa using hb25))
          clear hz
          refine r_cons (s_eql false rfl rfl (dfalse (by omega)) rfl ?_)
          refine r_nil ?_
          refine g_false rfl ?_
          refine g_skip ?_
          refine g_seq ?_
          refine g_seq ?_
          refine g_region ?_
          refine r_cons (s_move (.int .i64 (k : Int)) rfl rfl ?_)
          refine r_cons (s_mul ((2 * k : Nat) : Int) rfl rfl ((wi64 (by omega)).trans (by omega)) rfl ?_)
          refine r_cons (s_add (((2 * k : Nat) : Int) + 1) rfl rfl (wi64 (by omega)) rfl ?_)
          refine r_cons (s_move (.pointer (some ⟨b, 0, none⟩)) rfl rfl ?_)
          refine r_cons (s_nilCheck (.pointer (some ⟨b, 0, none⟩)) rfl ⟨_, rfl⟩ rfl ?_)
          refine r_cons (s_fieldAddr 83 0 0 0 50 rfl fi_83_0 rfl rfl ?_)
          refine r_cons (s_load (.slice pp10 R.length cc11) ag_50 rfl (H22.blk_at (i := 1) rfl) rfl rfl ?_)
          refine r_cons (s_len R.length rfl ⟨_, un_50⟩ rfl ?_)
          by_cases hc29 : (R.length : Int) < ((2 * k : Nat) : Int) + 1
          · skip
            refine r_cons (s_gtr true rfl rfl (dtrue hc29) rfl ?_)
            refine r_nil ?_
            refine g_true rfl ?_
            refine g_seq ?_
            refine g_region ?_
            refine r_cons (s_assign (.int .u64 0) rfl rfl ?_)
            refine r_cons (s_assign (.int .i64 10) rfl rfl ?_)
            refine r_nil ?_
            refine g_ret' [.int .u64 0, .int .i64 10] Try.func105 Try.results105 ⟨rfl, rfl, trivial⟩ ?_
            have H30 : St W w3 (blk b (.cells #[.slice pp10 R.length cc11] 83 (0, 0)) :: Im 1 (.slice pp10 R.length cc11) R.length (R.flatMap blc) :: (F.set i emp)) := (((H22.move 2 rfl).move 2 rfl).drop 2 rfl)
            have H31 : St W w3 (RSrc b R :: (F.set i emp)) := St.shut_ex (.slice pp10 R.length cc11) (St.shut_star (ls := [blk b (.cells #[.slice pp10 R.length cc11] 83 (0, 0)), Im 1 (.slice pp10 R.length cc11) R.length (R.flatMap blc)]) H30)
            have H32 : St W w3 (RSrc b R :: (F.set i emp)) := H31
            have hE : natE R = 10 := natE_10 (by omega) (by omega)
            have hE0 : ¬ natE R = 0 := by rw [hE]; decide
            exact ⟨by rw [natU_no hE0, hE]; rfl, by rw [natN_no hE0, List.drop_zero]; exact St.back hi H32⟩
          · skip
            refine r_cons (s_gtr false rfl rfl (dfalse hc29) rfl ?_)
            refine r_nil ?_
            refine g_false rfl ?_
            refine g_skip ?_
            refine g_seq ?_
            refine g_region ?_
            refine r_cons (s_move (.pointer (some ⟨b, 0, none⟩)) rfl rfl ?_)
            refine r_cons (s_nilCheck (.pointer (some ⟨b, 0, none⟩)) rfl ⟨_, rfl⟩ rfl ?_)
            refine r_cons (s_fieldAddr 83 0 0 0 50 rfl fi_83_0 rfl rfl ?_)
            refine r_cons (s_load (.slice pp10 R.length cc11) ag_50 rfl (H22.blk_at (i := 1) rfl) rfl rfl ?_)
            refine r_cons (s_move (.int .i64 (k : Int)) rfl rfl ?_)
            refine r_cons (s_add ((k : Int) + 1) rfl rfl (wi64 (by omega)) rfl ?_)
            refine r_cons (s_move (.int .i64 (k : Int)) rfl rfl ?_)
            refine r_cons (s_mul ((2 * k : Nat) : Int) rfl rfl ((wi64 (by omega)).trans (by omega)) rfl ?_)
            refine r_cons (s_add (((2 * k : Nat) : Int) + 1) rfl rfl (wi64 (by omega)) rfl ?_)
            have hc33 := Im.cap H22 (i := 2) rfl
            refine r_cons (s_slice pp10 ((k : Int) + 1) (((2 * k : Nat) : Int) + 1) 1 (.slice (cutAt pp10 (k + 1) cc11 1) ((2 * k + 1) - (k + 1)) (cc11 - (k + 1))) rfl rfl rfl el_50 (by omega) (by first | rfl | (congr 1; omega)) rfl ?_)
            have H34 : St W w3 (Im 1 (.slice (cutAt pp10 (k + 1) cc11 1) ((2 * k + 1) - (k + 1)) (cc11 - (k + 1))) ((2 * k + 1) - (k + 1)) (((R.drop (k + 1)).take ((2 * k + 1) - (k + 1))).flatMap blc) :: imi (0 < R.length) gA12 (.cells kA14 eA15 zA16) :: blk b (.cells #[.slice pp10 R.length cc11] 83 (0, 0)) :: Im 1 (.slice pp10 R.length cc11) R.length (R.flatMap blc) :: (F.set i emp)) := Im.cut blc_len (k + 1) (2 * k + 1) H22 (i := 2) rfl (by omega) (by omega)
            refine r_cons (s_call [.slice (cutAt pp10 (k + 1) cc11 1) ((2 * k + 1) - (k + 1)) (cc11 - (k + 1))] pl_113 rfl rfl (ref01_value _ _ ((R.drop (k + 1)).take ((2 * k + 1) - (k + 1))) (by first | rfl | (simp only [List.length_take, List.length_drop]; omega)) (by omega) (j := 0) rfl H34) ?_)
            rintro _ w35 ⟨rfl, H36⟩
            refine r_cons (s_assign (.int .u64 (valOf ((R.drop (k + 1)).take ((2 * k + 1) - (k + 1))) : Int)) rfl rfl ?_)
            refine r_nil ?_
            refine g_seq ?_
            refine g_seq ?_
            refine g_region ?_
            have hlow : valOf ((R.drop (k + 1)).take (2 * k + 1 - (k + 1))) = valOf ((R.drop (zeros R + 1)).take (zeros R)) := by rw [hzz]; congr 2; omega
            have hlt : valOf ((R.drop (k + 1)).take (2 * k + 1 - (k + 1))) < 2 ^ k := by rw [hlow, hzz]; exact valOf_take_lt _ _
            refine r_cons (s_move (.int .i64 (k : Int)) rfl rfl ?_)
            by_cases hc37 : (k : Int) = 64
            · skip
              refine r_cons (s_eql true rfl rfl (dtrue hc37) rfl ?_)
              refine r_cons (s_move (.bool true) rfl rfl ?_)
              refine r_cons (r_take rfl rfl ?_)
              refine s_move (.int .u64 (valOf ((R.drop (k + 1)).take ((2 * k + 1) - (k + 1))) : Int)) rfl rfl ?_
              refine r_cons (r_take rfl rfl ?_)
              by_cases hc38 : (0 : Int) < (valOf ((R.drop (k + 1)).take ((2 * k + 1) - (k + 1))) : Int)
              · skip
                refine s_gtr true rfl rfl (dtrue hc38) rfl ?_
                refine r_cons (s_pick_t (.bool true) rfl rfl rfl ?_)
                refine r_nil ?_
                refine g_true rfl ?_
                refine g_seq ?_
                refine g_region ?_
                refine r_cons (s_assign (.int .u64 0) rfl rfl ?_)
                refine r_cons (s_assign (.int .i64 11) rfl rfl ?_)
                refine r_nil ?_
                refine g_ret' [.int .u64 0, .int .i64 11] Try.func105 Try.results105 ⟨rfl, rfl, trivial⟩ ?_
                have H39 : St W w35 (blk b (.cells #[.slice pp10 R.length cc11] 83 (0, 0)) :: Im 1 (.slice pp10 R.length cc11) R.length (R.flatMap blc) :: Im 1 (.slice (cutAt pp10 (k + 1) cc11 1) ((2 * k + 1) - (k + 1)) (cc11 - (k + 1))) ((2 * k + 1) - (k + 1)) (((R.drop (k + 1)).take ((2 * k + 1) - (k + 1))).flatMap blc) :: (F.set i emp)) := (((H36.move 3 rfl).move 3 rfl).drop 3 rfl)
                have H40 : St W w35 (RSrc b R :: Im 1 (.slice (cutAt pp10 (k + 1) cc11 1) ((2 * k + 1) - (k + 1)) (cc11 - (k + 1))) ((2 * k + 1) - (k + 1)) (((R.drop (k + 1)).take ((2 * k + 1) - (k + 1))).flatMap blc) :: (F.set i emp)) := St.shut_ex (.slice pp10 R.length cc11) (St.shut_star (ls := [blk b (.cells #[.slice pp10 R.length cc11] 83 (0, 0)), Im 1 (.slice pp10 R.length cc11) R.length (R.flatMap blc)]) H39)
                have H41 : St W w35 (RSrc b R :: (F.set i emp)) := (H40.drop 1 rfl)
                have hE : natE R = 11 := by first | exact natE_65 (by omega) | exact natE_11 (by omega) (by omega) (by rw [← hlow]; omega)
                have hE0 : ¬ natE R = 0 := by rw [hE]; decide
                exact ⟨by rw [natU_no hE0, hE]; rfl, by rw [natN_no hE0, List.drop_zero]; exact St.back hi H41⟩
              · skip
                refine s_gtr false rfl rfl (dfalse hc38) rfl ?_
                refine r_cons (s_pick_t (.bool false) rfl rfl rfl ?_)
                refine r_nil ?_
                refine g_false rfl ?_
                refine g_skip ?_
                refine g_seq ?_
                refine g_region ?_
                refine r_cons (s_move (.pointer (some ⟨b, 0, none⟩)) rfl rfl ?_)
                refine r_cons (s_move (.pointer (some ⟨b, 0, none⟩)) rfl rfl ?_)
                refine r_cons (s_nilCheck (.pointer (some ⟨b, 0, none⟩)) rfl ⟨_, rfl⟩ rfl ?_)
                refine r_cons (s_fieldAddr 83 0 0 0 50 rfl fi_83_0 rfl rfl ?_)
                refine r_cons (s_load (.slice pp10 R.length cc11) ag_50 rfl (H36.blk_at (i := 2) rfl) rfl rfl ?_)
                refine r_cons (s_move (.int .i64 (k : Int)) rfl rfl ?_)
                refine r_cons (s_mul ((2 * k : Nat) : Int) rfl rfl ((wi64 (by omega)).trans (by omega)) rfl ?_)
                refine r_cons (s_add (((2 * k : Nat) : Int) + 1) rfl rfl (wi64 (by omega)) rfl ?_)
                have hc42 := Im.cap H36 (i := 3) rfl
                refine r_cons (s_slice_l pp10 (((2 * k : Nat) : Int) + 1) 1 (.slice (cutAt pp10 (2 * k + 1) cc11 1) (R.length - (2 * k + 1)) (cc11 - (2 * k + 1))) rfl rfl el_50 (by omega) (by first | rfl | (congr 1; omega)) rfl ?_)
                have H43 : St W w35 (Im 1 (.slice (cutAt pp10 (2 * k + 1) cc11 1) (R.length - (2 * k + 1)) (cc11 - (2 * k + 1))) (R.length - (2 * k + 1)) ((R.drop (2 * k + 1)).flatMap blc) :: Im 1 (.slice (cutAt pp10 (k + 1) cc11 1) ((2 * k + 1) - (k + 1)) (cc11 - (k + 1))) ((2 * k + 1) - (k + 1)) (((R.drop (k + 1)).take ((2 * k + 1) - (k + 1))).flatMap blc) :: imi (0 < R.length) gA12 (.cells kA14 eA15 zA16) :: blk b (.cells #[.slice pp10 R.length cc11] 83 (0, 0)) :: Im 1 (.slice pp10 R.length cc11) R.length (R.flatMap blc) :: (F.set i emp)) := Im.cut_l blc_len (2 * k + 1) H36 (i := 3) rfl (by omega)
                refine r_cons (s_nilCheck (.pointer (some ⟨b, 0, none⟩)) rfl ⟨_, rfl⟩ rfl ?_)
                refine r_cons (s_fieldAddr 83 0 0 0 50 rfl fi_83_0 rfl rfl ?_)
                refine r_cons (s_store H43 3 (.slice (cutAt pp10 (2 * k + 1) cc11 1) (R.length - (2 * k + 1)) (cc11 - (2 * k + 1))) rfl rfl rfl sz_50 rfl (Nat.le_of_ble_eq_true rfl) rfl (cs' := #[.slice (cutAt pp10 (2 * k + 1) cc11 1) (R.length - (2 * k + 1)) (cc11 - (2 * k + 1))]) rfl ?_); intro w44 H45
                refine r_nil ?_
                refine g_seq ?_
                refine g_seq ?_
                refine g_region ?_
                refine r_cons (s_move (.int .i64 (k : Int)) rfl rfl ?_)
                refine r_cons (s_eql true rfl rfl (dtrue (by omega)) rfl ?_)
                refine r_nil ?_
                refine g_true rfl ?_
                refine g_seq ?_
                refine g_region ?_
                refine r_cons (s_assign (.int .u64 18446744073709551615) rfl rfl ?_)
                refine r_cons (s_assign (.int .i64 0) rfl rfl ?_)
                refine r_nil ?_
                refine g_ret' [.int .u64 18446744073709551615, .int .i64 0] Try.func105 Try.results105 ⟨rfl, rfl, trivial⟩ ?_
                have H46 : St W w44 (blk b (.cells #[.slice (cutAt pp10 (2 * k + 1) cc11 1) (R.length - (2 * k + 1)) (cc11 - (2 * k + 1))] 83 (0, 0)) :: Im 1 (.slice (cutAt pp10 (2 * k + 1) cc11 1) (R.length - (2 * k + 1)) (cc11 - (2 * k + 1))) (R.length - (2 * k + 1)) ((R.drop (2 * k + 1)).flatMap blc) :: Im 1 (.slice (cutAt pp10 (k + 1) cc11 1) ((2 * k + 1) - (k + 1)) (cc11 - (k + 1))) ((2 * k + 1) - (k + 1)) (((R.drop (k + 1)).take ((2 * k + 1) - (k + 1))).flatMap blc) :: Im 1 (.slice pp10 R.length cc11) R.length (R.flatMap blc) :: (F.set i emp)) := (((((H45.move 4 rfl).move 2 rfl).move 2 rfl).move 4 rfl).drop 4 rfl)
                have H47 : St W w44 (blk b (.cells #[.slice (cutAt pp10 (2 * k + 1) cc11 1) (R.length - (2 * k + 1)) (cc11 - (2 * k + 1))] 83 (0, 0)) :: Im 1 (.slice (cutAt pp10 (2 * k + 1) cc11 1) (R.length - (2 * k + 1)) (cc11 - (2 * k + 1))) ((R.drop (2 * k + 1)).length) ((R.drop (2 * k + 1)).flatMap blc) :: Im 1 (.slice (cutAt pp10 (k + 1) cc11 1) ((2 * k + 1) - (k + 1)) (cc11 - (k + 1))) ((2 * k + 1) - (k + 1)) (((R.drop (k + 1)).take ((2 * k + 1) - (k + 1))).flatMap blc) :: Im 1 (.slice pp10 R.length cc11) R.length (R.flatMap blc) :: (F.set i emp)) := by rw [show (R.drop (2 * k + 1)).length = R.length - (2 * k + 1) from by simp only [List.length_drop, List.length_take]; (try omega)]; exact H46
                have H48 : St W w44 (RSrc b (R.drop (2 * k + 1)) :: Im 1 (.slice (cutAt pp10 (k + 1) cc11 1) ((2 * k + 1) - (k + 1)) (cc11 - (k + 1))) ((2 * k + 1) - (k + 1)) (((R.drop (k + 1)).take ((2 * k + 1) - (k + 1))).flatMap blc) :: Im 1 (.slice pp10 R.length cc11) R.length (R.flatMap blc) :: (F.set i emp)) := St.shut_ex (.slice (cutAt pp10 (2 * k + 1) cc11 1) (R.length - (2 * k + 1)) (cc11 - (2 * k + 1))) (St.shut_star (ls := [blk b (.cells #[.slice (cutAt pp10 (2 * k + 1) cc11 1) (R.length - (2 * k + 1)) (cc11 - (2 * k + 1))] 83 (0, 0)), Im 1 (.slice (cutAt pp10 (2 * k + 1) cc11 1) (R.length - (2 * k + 1)) (cc11 - (2 * k + 1))) ((R.drop (2 * k + 1)).length) ((R.drop (2 * k + 1)).flatMap blc)]) H47)
                have H49 : St W w44 (RSrc b (R.drop (2 * k + 1)) :: (F.set i emp)) := ((H48.drop 1 rfl).drop 1 rfl)
                have hE : natE R = 0 := natE_0 (by omega) (by omega) (by rw [← hlow]; omega)
                have hN : natN R = 2 * k + 1 := by rw [natN_0 hE]; omega
                have hv : (natU R : Int) = 18446744073709551615 := by rw [natU_64 hE (by omega)]; rfl
                exact ⟨by rw [hE, hv]; rfl, by rw [hN]; exact St.back hi H49⟩
            · skip
              refine r_cons (s_eql false rfl rfl (dfalse hc37) rfl ?_)
              refine r_cons (s_move (.bool false) rfl rfl ?_)
              refine r_cons (r_pass rfl rfl rfl rfl rfl ?_)
              refine r_cons (r_pass rfl rfl rfl rfl rfl ?_)
              refine r_cons (s_pick_f (.bool false) rfl rfl rfl ?_)
              refine r_nil ?_
              refine g_false rfl ?_
              refine g_skip ?_
              refine g_seq ?_
              refine g_region ?_
              refine r_cons (s_move (.pointer (some ⟨b, 0, none⟩)) rfl rfl ?_)
              refine r_cons (s_move (.pointer (some ⟨b, 0, none⟩)) rfl rfl ?_)
              refine r_cons (s_nilCheck (.pointer (some ⟨b, 0, none⟩)) rfl ⟨_, rfl⟩ rfl ?_)
              refine r_cons (s_fieldAddr 83 0 0 0 50 rfl fi_83_0 rfl rfl ?_)
              refine r_cons (s_load (.slice pp10 R.length cc11) ag_50 rfl (H36.blk_at (i := 2) rfl) rfl rfl ?_)
              refine r_cons (s_move (.int .i64 (k : Int)) rfl rfl ?_)
              refine r_cons (s_mul ((2 * k : Nat) : Int) rfl rfl ((wi64 (by omega)).trans (by omega)) rfl ?_)
              refine r_cons (s_add (((2 * k : Nat) : Int) + 1) rfl rfl (wi64 (by omega)) rfl ?_)
              have hc50 := Im.cap H36 (i := 3) rfl
              refine r_cons (s_slice_l pp10 (((2 * k : Nat) : Int) + 1) 1 (.slice (cutAt pp10 (2 * k + 1) cc11 1) (R.length - (2 * k + 1)) (cc11 - (2 * k + 1))) rfl rfl el_50 (by omega) (by first | rfl | (congr 1; omega)) rfl ?_)
              have H51 : St W w35 (Im 1 (.slice (cutAt pp10 (2 * k + 1) cc11 1) (R.length - (2 * k + 1)) (cc11 - (2 * k + 1))) (R.length - (2 * k + 1)) ((R.drop (2 * k + 1)).flatMap blc) :: Im 1 (.slice (cutAt pp10 (k + 1) cc11 1) ((2 * k + 1) - (k + 1)) (cc11 - (k + 1))) ((2 * k + 1) - (k + 1)) (((R.drop (k + 1)).take ((2 * k + 1) - (k + 1))).flatMap blc) :: imi (0 < R.length) gA12 (.cells kA14 eA15 zA16) :: blk b (.cells #[.slice pp10 R.length cc11] 83 (0, 0)) :: Im 1 (.slice pp10 R.length cc11) R.length (R.flatMap blc) :: (F.set i emp)) := Im.cut_l blc_len (2 * k + 1) H36 (i := 3) rfl (by omega)
              refine r_cons (s_nilCheck (.pointer (some ⟨b, 0, none⟩)) rfl ⟨_, rfl⟩ rfl ?_)
              refine r_cons (s_fieldAddr 83 0 0 0 50 rfl fi_83_0 rfl rfl ?_)
              refine r_cons (s_store H51 3 (.slice (cutAt pp10 (2 * k + 1) cc11 1) (R.length - (2 * k + 1)) (cc11 - (2 * k + 1))) rfl rfl rfl sz_50 rfl (Nat.le_of_ble_eq_true rfl) rfl (cs' := #[.slice (cutAt pp10 (2 * k + 1) cc11 1) (R.length - (2 * k + 1)) (cc11 - (2 * k + 1))]) rfl ?_); intro w52 H53
              refine r_nil ?_
              refine g_seq ?_
              refine g_seq ?_
              refine g_region ?_
              refine r_cons (s_move (.int .i64 (k : Int)) rfl rfl ?_)
              refine r_cons (s_eql false rfl rfl (dfalse (by omega)) rfl ?_)
              refine r_nil ?_
              refine g_false rfl ?_
              refine g_skip ?_
              refine g_seq ?_
              refine g_region ?_
              refine r_cons (s_move (.int .i64 (k : Int)) rfl rfl ?_)
              have hpw := pow_le63 (k := k) (by omega)
              have hq : 0 < 2 ^ k := Nat.pow_pos (by decide)
              refine r_cons (s_shl ((2 ^ k : Nat) : Int) rfl rfl (by omega) (shl_one rfl (by omega)) rfl ?_)
              refine r_cons (s_move (.int .u64 (valOf ((R.drop (k + 1)).take ((2 * k + 1) - (k + 1))) : Int)) rfl rfl ?_)
              refine r_cons (s_add ((2 ^ k + valOf ((R.drop (k + 1)).take (2 * k + 1 - (k + 1))) : Nat) : Int) rfl rfl ((wu64 (by generalize 2 ^ k = q at *; omega)).trans (by generalize 2 ^ k = q at *; omega)) rfl ?_)
              refine r_cons (s_sub ((2 ^ k + valOf ((R.drop (k + 1)).take (2 * k + 1 - (k + 1))) - 1 : Nat) : Int) rfl rfl ((wu64 (by generalize 2 ^ k = q at *; omega)).trans (by generalize 2 ^ k = q at *; omega)) rfl ?_)
              refine r_cons (s_assign (.int .u64 ((2 ^ k + valOf ((R.drop (k + 1)).take (2 * k + 1 - (k + 1))) - 1 : Nat) : Int)) rfl rfl ?_)
              refine r_cons (s_assign (.int .i64 0) rfl rfl ?_)
              refine r_nil ?_
              refine g_ret' [.int .u64 ((2 ^ k + valOf ((R.drop (k + 1)).take (2 * k + 1 - (k + 1))) - 1 : Nat) : Int), .int .i64 0] Try.func105 Try.results105 ⟨rfl, rfl, trivial⟩ ?_
              have H54 : St W w52 (blk b (.cells #[.slice (cutAt pp10 (2 * k + 1) cc11 1) (R.length - (2 * k + 1)) (cc11 - (2 * k + 1))] 83 (0, 0)) :: Im 1 (.slice (cutAt pp10 (2 * k + 1) cc11 1) (R.length - (2 * k + 1)) (cc11 - (2 * k + 1))) (R.length - (2 * k + 1)) ((R.drop (2 * k + 1)).flatMap blc) :: Im 1 (.slice (cutAt pp10 (k + 1) cc11 1) ((2 * k + 1) - (k + 1)) (cc11 - (k + 1))) ((2 * k + 1) - (k + 1)) (((R.drop (k + 1)).take ((2 * k + 1) - (k + 1))).flatMap blc) :: Im 1 (.slice pp10 R.length cc11) R.length (R.flatMap blc) :: (F.set i emp)) := (((((H53.move 4 rfl).move 2 rfl).move 2 rfl).move 4 rfl).drop 4 rfl)
              have H55 : St W w52 (blk b (.cells #[.slice (cutAt pp10 (2 * k + 1) cc11 1) (R.length - (2 * k + 1)) (cc11 - (2 * k + 1))] 83 (0, 0)) :: Im 1 (.slice (cutAt pp10 (2 * k + 1) cc11 1) (R.length - (2 * k + 1)) (cc11 - (2 * k + 1))) ((R.drop (2 * k + 1)).length) ((R.drop (2 * k + 1)).flatMap blc) :: Im 1 (.slice (cutAt pp10 (k + 1) cc11 1) ((2 * k + 1) - (k + 1)) (cc11 - (k + 1))) ((2 * k + 1) - (k + 1)) (((R.drop (k + 1)).take ((2 * k + 1) - (k + 1))).flatMap blc) :: Im 1 (.slice pp10 R.length cc11) R.length (R.flatMap blc) :: (F.set i emp)) := by rw [show (R.drop (2 * k + 1)).length = R.length - (2 * k + 1) from by simp only [List.length_drop, List.length_take]; (try omega)]; exact H54
              have H56 : St W w52 (RSrc b (R.drop (2 * k + 1)) :: Im 1 (.slice (cutAt pp10 (k + 1) cc11 1) ((2 * k + 1) - (k + 1)) (cc11 - (k + 1))) ((2 * k + 1) - (k + 1)) (((R.drop (k + 1)).take ((2 * k + 1) - (k + 1))).flatMap blc) :: Im 1 (.slice pp10 R.length cc11) R.length (R.flatMap blc) :: (F.set i emp)) := St.shut_ex (.slice (cutAt pp10 (2 * k + 1) cc11 1) (R.length - (2 * k + 1)) (cc11 - (2 * k + 1))) (St.shut_star (ls := [blk b (.cells #[.slice (cutAt pp10 (2 * k + 1) cc11 1) (R.length - (2 * k + 1)) (cc11 - (2 * k + 1))] 83 (0, 0)), Im 1 (.slice (cutAt pp10 (2 * k + 1) cc11 1) (R.length - (2 * k + 1)) (cc11 - (2 * k + 1))) ((R.drop (2 * k + 1)).length) ((R.drop (2 * k + 1)).flatMap blc)]) H55)
              have H57 : St W w52 (RSrc b (R.drop (2 * k + 1)) :: (F.set i emp)) := ((H56.drop 1 rfl).drop 1 rfl)
              have hE : natE R = 0 := natE_0 (by omega) (by omega) (by rw [← hlow]; omega)
              have hN : natN R = 2 * k + 1 := by rw [natN_0 hE]; omega
              have hv : (natU R : Int) = ((2 ^ k + valOf ((R.drop (k + 1)).take (2 * k + 1 - (k + 1))) - 1 : Nat) : Int) := by rw [natU_is hE (by omega), ← hlow, hzz]; congr 1; omega
              exact ⟨by rw [hE, hv]; rfl, by rw [hN]; exact St.back hi H57⟩
      · skip
        refine s_lss false rfl rfl (dfalse hc24) rfl ?_
        refine r_cons (s_pick_t (.bool false) rfl rfl rfl ?_)
        refine r_cons (s_move (.bool false) rfl rfl ?_)
        refine r_cons (r_pass rfl rfl rfl rfl rfl ?_)
        refine r_cons (r_pass rfl rfl rfl rfl rfl ?_)
        refine r_cons (r_pass rfl rfl rfl rfl rfl ?_)
        refine r_cons (r_pass rfl rfl rfl rfl rfl ?_)
        refine r_cons (r_pass rfl rfl rfl rfl rfl ?_)
        refine r_cons (r_pass rfl rfl rfl rfl rfl ?_)
        refine r_cons (r_pass rfl rfl rfl rfl rfl ?_)
        refine r_cons (r_pass rfl rfl rfl rfl rfl ?_)
        refine r_cons (s_pick_f (.bool false) rfl rfl rfl ?_)
        refine r_nil ?_
        refine g_false rfl ?_
        refine g_exit (by rfl) ?_
        refine g_seq ?_
        refine g_seq ?_
        refine g_region ?_
        refine r_cons (s_move (.int .i64 (k : Int)) rfl rfl ?_)
        have hzz : zeros R = k := zeros_is hk hkr hz (by first | (left; omega) | (right; left; omega) | (right; right; simpa using hz))
        clear hz
        by_cases hc58 : (k : Int) = 65
        · skip
          refine r_cons (s_eql true rfl rfl (dtrue hc58) rfl ?_)
          refine r_nil ?_
          refine g_true rfl ?_
          refine g_seq ?_
          refine g_region ?_
          refine r_cons (s_assign (.int .u64 0) rfl rfl ?_)
          refine r_cons (s_assign (.int .i64 11) rfl rfl ?_)
          refine r_nil ?_
          refine g_ret' [.int .u64 0, .int .i64 11] Try.func105 Try.results105 ⟨rfl, rfl, trivial⟩ ?_
          have H59 : St W w3 (blk b (.cells #[.slice pp10 R.length cc11] 83 (0, 0)) :: Im 1 (.slice pp10 R.length cc11) R.length (R.flatMap blc) :: (F.set i emp)) := (((H22.move 2 rfl).move 2 rfl).drop 2 rfl)
          have H60 : St W w3 (RSrc b R :: (F.set i emp)) := St.shut_ex (.slice pp10 R.length cc11) (St.shut_star (ls := [blk b (.cells #[.slice pp10 R.length cc11] 83 (0, 0)), Im 1 (.slice pp10 R.length cc11) R.length (R.flatMap blc)]) H59)
          have H61 : St W w3 (RSrc b R :: (F.set i emp)) := H60
          have hE : natE R = 11 := by first | exact natE_65 (by omega) | exact natE_11 (by omega) (by omega) (by rw [← hlow]; omega)
          have hE0 : ¬ natE R = 0 := by rw [hE]; decide
          exact ⟨by rw [natU_no hE0, hE]; rfl, by rw [natN_no hE0, List.drop_zero]; exact St.back hi H61⟩
        · skip
          refine r_cons (s_eql false rfl rfl (dfalse hc58) rfl ?_)
          refine r_nil ?_
          refine g_false rfl ?_
          refine g_skip ?_
          refine g_seq ?_
          refine g_seq ?_
          refine g_region ?_
          refine r_cons (s_move (.int .i64 (k : Int)) rfl rfl ?_)
          refine r_cons (s_mul ((2 * k : Nat) : Int) rfl rfl ((wi64 (by omega)).trans (by omega)) rfl ?_)
          refine r_cons (s_add (((2 * k : Nat) : Int) + 1) rfl rfl (wi64 (by omega)) rfl ?_)
          refine r_cons (s_move (.pointer (some ⟨b, 0, none⟩)) rfl rfl ?_)
          refine r_cons (s_nilCheck (.pointer (some ⟨b, 0, none⟩)) rfl ⟨_, rfl⟩ rfl ?_)
          refine r_cons (s_fieldAddr 83 0 0 0 50 rfl fi_83_0 rfl rfl ?_)
          refine r_cons (s_load (.slice pp10 R.length cc11) ag_50 rfl (H22.blk_at (i := 1) rfl) rfl rfl ?_)
          refine r_cons (s_len R.length rfl ⟨_, un_50⟩ rfl ?_)
          by_cases hc62 : (R.length : Int) < ((2 * k : Nat) : Int) + 1
          · skip
            refine r_cons (s_gtr true rfl rfl (dtrue hc62) rfl ?_)
            refine r_nil ?_
            refine g_true rfl ?_
            refine g_seq ?_
            refine g_region ?_
            refine r_cons (s_assign (.int .u64 0) rfl rfl ?_)
            refine r_cons (s_assign (.int .i64 10) rfl rfl ?_)
            refine r_nil ?_
            refine g_ret' [.int .u64 0, .int .i64 10] Try.func105 Try.results105 ⟨rfl, rfl, trivial⟩ ?_
            have H63 : St W w3 (blk b (.cells #[.slice pp10 R.length cc11] 83 (0, 0)) :: Im 1 (.slice pp10 R.length cc11) R.length (R.flatMap blc) :: (F.set i emp)) := (((H22.move 2 rfl).move 2 rfl).drop 2 rfl)
            have H64 : St W w3 (RSrc b R :: (F.set i emp)) := St.shut_ex (.slice pp10 R.length cc11) (St.shut_star (ls := [blk b (.cells #[.slice pp10 R.length cc11] 83 (0, 0)), Im 1 (.slice pp10 R.length cc11) R.length (R.flatMap blc)]) H63)
            have H65 : St W w3 (RSrc b R :: (F.set i emp)) := H64
            have hE : natE R = 10 := natE_10 (by omega) (by omega)
            have hE0 : ¬ natE R = 0 := by rw [hE]; decide
            exact ⟨by rw [natU_no hE0, hE]; rfl, by rw [natN_no hE0, List.drop_zero]; exact St.back hi H65⟩
          · skip
            refine r_cons (s_gtr false rfl rfl (dfalse hc62) rfl ?_)
            refine r_nil ?_
            refine g_false rfl ?_
            refine g_skip ?_
            refine g_seq ?_
            refine g_region ?_
            refine r_cons (s_move (.pointer (some ⟨b, 0, none⟩)) rfl rfl ?_)
            refine r_cons (s_nilCheck (.pointer (some ⟨b, 0, none⟩)) rfl ⟨_, rfl⟩ rfl ?_)
            refine r_cons (s_fieldAddr 83 0 0 0 50 rfl fi_83_0 rfl rfl ?_)
            refine r_cons (s_load (.slice pp10 R.length cc11) ag_50 rfl (H22.blk_at (i := 1) rfl) rfl rfl ?_)
            refine r_cons (s_move (.int .i64 (k : Int)) rfl rfl ?_)
            refine r_cons (s_add ((k : Int) + 1) rfl rfl (wi64 (by omega)) rfl ?_)
            refine r_cons (s_move (.int .i64 (k : Int)) rfl rfl ?_)
            refine r_cons (s_mul ((2 * k : Nat) : Int) rfl rfl ((wi64 (by omega)).trans (by omega)) rfl ?_)
            refine r_cons (s_add (((2 * k : Nat) : Int) + 1) rfl rfl (wi64 (by omega)) rfl ?_)
            have hc66 := Im.cap H22 (i := 2) rfl
            refine r_cons (s_slice pp10 ((k : Int) + 1) (((2 * k : Nat) : Int) + 1) 1 (.slice (cutAt pp10 (k + 1) cc11 1) ((2 * k + 1) - (k + 1)) (cc11 - (k + 1))) rfl rfl rfl el_50 (by omega) (by first | rfl | (congr 1; omega)) rfl ?_)
            have H67 : St W w3 (Im 1 (.slice (cutAt pp10 (k + 1) cc11 1) ((2 * k + 1) - (k + 1)) (cc11 - (k + 1))) ((2 * k + 1) - (k + 1)) (((R.drop (k + 1)).take ((2 * k + 1) - (k + 1))).flatMap blc) :: imi (0 < R.length) gA12 (.cells kA14 eA15 zA16) :: blk b (.cells #[.slice pp10 R.length cc11] 83 (0, 0)) :: Im 1 (.slice pp10 R.length cc11) R.length (R.flatMap blc) :: (F.set i emp)) := Im.cut blc_len (k + 1) (2 * k + 1) H22 (i := 2) rfl (by omega) (by omega)
            refine r_cons (s_call [.slice (cutAt pp10 (k + 1) cc11 1) ((2 * k + 1) - (k + 1)) (cc11 - (k + 1))] pl_113 rfl rfl (ref01_value _ _ ((R.drop (k + 1)).take ((2 * k + 1) - (k + 1))) (by first | rfl | (simp only [List.length_take, List.length_drop]; omega)) (by omega) (j := 0) rfl H67) ?_)
            rintro _ w68 ⟨rfl, H69⟩
            refine r_cons (s_assign (.int .u64 (valOf ((R.drop (k + 1)).take ((2 * k + 1) - (k + 1))) : Int)) rfl rfl ?_)
            refine r_nil ?_
            refine g_seq ?_
            refine g_seq ?_
            refine g_region ?_
            have hlow : valOf ((R.drop (k + 1)).take (2 * k + 1 - (k + 1))) = valOf ((R.drop (zeros R + 1)).take (zeros R)) := by rw [hzz]; congr 2; omega
            have hlt : valOf ((R.drop (k + 1)).take (2 * k + 1 - (k + 1))) < 2 ^ k := by rw [hlow, hzz]; exact valOf_take_lt _ _
            refine r_cons (s_move (.int .i64 (k : Int)) rfl rfl ?_)
            refine r_cons (s_eql false rfl rfl (dfalse (by omega)) rfl ?_)
            refine r_cons (s_move (.bool false) rfl rfl ?_)
            refine r_cons (r_pass rfl rfl rfl rfl rfl ?_)
            refine r_cons (r_pass rfl rfl rfl rfl rfl ?_)
            refine r_cons (s_pick_f (.bool false) rfl rfl rfl ?_)
            refine r_nil ?_
            refine g_false rfl ?_
            refine g_skip ?_
            refine g_seq ?_
            refine g_region ?_
            refine r_cons (s_move (.pointer (some ⟨b, 0, none⟩)) rfl rfl ?_)
            refine r_cons (s_move (.pointer (some ⟨b, 0, none⟩)) rfl rfl ?_)
            refine r_cons (s_nilCheck (.pointer (some ⟨b, 0, none⟩)) rfl ⟨_, rfl⟩ rfl ?_)
            refine r_cons (s_fieldAddr 83 0 0 0 50 rfl fi_83_0 rfl rfl ?_)
            refine r_cons (s_load (.slice pp10 R.length cc11) ag_50 rfl (H69.blk_at (i := 2) rfl) rfl rfl ?_)
            refine r_cons (s_move (.int .i64 (k : Int)) rfl rfl ?_)
            refine r_cons (s_mul ((2 * k : Nat) : Int) rfl rfl ((wi64 (by omega)).trans (by omega)) rfl ?_)
            refine r_cons (s_add (((2 * k : Nat) : Int) + 1) rfl rfl (wi64 (by omega)) rfl ?_)
            have hc70 := Im.cap H69 (i := 3) rfl
            refine r_cons (s_slice_l pp10 (((2 * k : Nat) : Int) + 1) 1 (.slice (cutAt pp10 (2 * k + 1) cc11 1) (R.length - (2 * k + 1)) (cc11 - (2 * k + 1))) rfl rfl el_50 (by omega) (by first | rfl | (congr 1; omega)) rfl ?_)
            have H71 : St W w68 (Im 1 (.slice (cutAt pp10 (2 * k + 1) cc11 1) (R.length - (2 * k + 1)) (cc11 - (2 * k + 1))) (R.length - (2 * k + 1)) ((R.drop (2 * k + 1)).flatMap blc) :: Im 1 (.slice (cutAt pp10 (k + 1) cc11 1) ((2 * k + 1) - (k + 1)) (cc11 - (k + 1))) ((2 * k + 1) - (k + 1)) (((R.drop (k + 1)).take ((2 * k + 1) - (k + 1))).flatMap blc) :: imi (0 < R.length) gA12 (.cells kA14 eA15 zA16) :: blk b (.cells #[.slice pp10 R.length cc11] 83 (0, 0)) :: Im 1 (.slice pp10 R.length cc11) R.length (R.flatMap blc) :: (F.set i emp)) := Im.cut_l blc_len (2 * k + 1) H69 (i := 3) rfl (by omega)
            refine r_cons (s_nilCheck (.pointer (some ⟨b, 0, none⟩)) rfl ⟨_, rfl⟩ rfl ?_)
            refine r_cons (s_fieldAddr 83 0 0 0 50 rfl fi_83_0 rfl rfl ?_)
            refine r_cons (s_store H71 3 (.slice (cutAt pp10 (2 * k + 1) cc11 1) (R.length - (2 * k + 1)) (cc11 - (2 * k + 1))) rfl rfl rfl sz_50 rfl (Nat.le_of_ble_eq_true rfl) rfl (cs' := #[.slice (cutAt pp10 (2 * k + 1) cc11 1) (R.length - (2 * k + 1)) (cc11 - (2 * k + 1))]) rfl ?_); intro w72 H73
            refine r_nil ?_
            refine g_seq ?_
            refine g_seq ?_
            refine g_region ?_
            refine r_cons (s_move (.int .i64 (k : Int)) rfl rfl ?_)
            refine r_cons (s_eql false rfl rfl (dfalse (by omega)) rfl ?_)
            refine r_nil ?_
            refine g_false rfl ?_
            refine g_skip ?_
            refine g_seq ?_
            refine g_region ?_
            refine r_cons (s_move (.int .i64 (k : Int)) rfl rfl ?_)
            have hpw := pow_le63 (k := k) (by omega)
            have hq : 0 < 2 ^ k := Nat.pow_pos (by decide)
            refine r_cons (s_shl ((2 ^ k : Nat) : Int) rfl rfl (by omega) (shl_one rfl (by omega)) rfl ?_)
            refine r_cons (s_move (.int .u64 (valOf ((R.drop (k + 1)).take ((2 * k + 1) - (k + 1))) : Int)) rfl rfl ?_)
            refine r_cons (s_add ((2 ^ k + valOf ((R.drop (k + 1)).take (2 * k + 1 - (k + 1))) : Nat) : Int) rfl rfl ((wu64 (by generalize 2 ^ k = q at *; omega)).trans (by generalize 2 ^ k = q at *; omega)) rfl ?_)
            refine r_cons (s_sub ((2 ^ k + valOf ((R.drop (k + 1)).take (2 * k + 1 - (k + 1))) - 1 : Nat) : Int) rfl rfl ((wu64 (by generalize 2 ^ k = q at *; omega)).trans (by generalize 2 ^ k = q at *; omega)) rfl ?_)
            refine r_cons (s_assign (.int .u64 ((2 ^ k + valOf ((R.drop (k + 1)).take (2 * k + 1 - (k + 1))) - 1 : Nat) : Int)) rfl rfl ?_)
            refine r_cons (s_assign (.int .i64 0) rfl rfl ?_)
            refine r_nil ?_
            refine g_ret' [.int .u64 ((2 ^ k + valOf ((R.drop (k + 1)).take (2 * k + 1 - (k + 1))) - 1 : Nat) : Int), .int .i64 0] Try.func105 Try.results105 ⟨rfl, rfl, trivial⟩ ?_
            have H74 : St W w72 (blk b (.cells #[.slice (cutAt pp10 (2 * k + 1) cc11 1) (R.length - (2 * k + 1)) (cc11 - (2 * k + 1))] 83 (0, 0)) :: Im 1 (.slice (cutAt pp10 (2 * k + 1) cc11 1) (R.length - (2 * k + 1)) (cc11 - (2 * k + 1))) (R.length - (2 * k + 1)) ((R.drop (2 * k + 1)).flatMap blc) :: Im 1 (.slice (cutAt pp10 (k + 1) cc11 1) ((2 * k + 1) - (k + 1)) (cc11 - (k + 1))) ((2 * k + 1) - (k + 1)) (((R.drop (k + 1)).take ((2 * k + 1) - (k + 1))).flatMap blc) :: Im 1 (.slice pp10 R.length cc11) R.length (R.flatMap blc) :: (F.set i emp)) := (((((H73.move 4 rfl).move 2 rfl).move 2 rfl).move 4 rfl).drop 4 rfl)
            have H75 : St W w72 (blk b (.cells #[.slice (cutAt pp10 (2 * k + 1) cc11 1) (R.length - (2 * k + 1)) (cc11 - (2 * k + 1))] 83 (0, 0)) :: Im 1 (.slice (cutAt pp10 (2 * k + 1) cc11 1) (R.length - (2 * k + 1)) (cc11 - (2 * k + 1))) ((R.drop (2 * k + 1)).length) ((R.drop (2 * k + 1)).flatMap blc) :: Im 1 (.slice (cutAt pp10 (k + 1) cc11 1) ((2 * k + 1) - (k + 1)) (cc11 - (k + 1))) ((2 * k + 1) - (k + 1)) (((R.drop (k + 1)).take ((2 * k + 1) - (k + 1))).flatMap blc) :: Im 1 (.slice pp10 R.length cc11) R.length (R.flatMap blc) :: (F.set i emp)) := by rw [show (R.drop (2 * k + 1)).length = R.length - (2 * k + 1) from by simp only [List.length_drop, List.length_take]; (try omega)]; exact H74
            have H76 : St W w72 (RSrc b (R.drop (2 * k + 1)) :: Im 1 (.slice (cutAt pp10 (k + 1) cc11 1) ((2 * k + 1) - (k + 1)) (cc11 - (k + 1))) ((2 * k + 1) - (k + 1)) (((R.drop (k + 1)).take ((2 * k + 1) - (k + 1))).flatMap blc) :: Im 1 (.slice pp10 R.length cc11) R.length (R.flatMap blc) :: (F.set i emp)) := St.shut_ex (.slice (cutAt pp10 (2 * k + 1) cc11 1) (R.length - (2 * k + 1)) (cc11 - (2 * k + 1))) (St.shut_star (ls := [blk b (.cells #[.slice (cutAt pp10 (2 * k + 1) cc11 1) (R.length - (2 * k + 1)) (cc11 - (2 * k + 1))] 83 (0, 0)), Im 1 (.slice (cutAt pp10 (2 * k + 1) cc11 1) (R.length - (2 * k + 1)) (cc11 - (2 * k + 1))) ((R.drop (2 * k + 1)).length) ((R.drop (2 * k + 1)).flatMap blc)]) H75)
            have H77 : St W w72 (RSrc b (R.drop (2 * k + 1)) :: (F.set i emp)) := ((H76.drop 1 rfl).drop 1 rfl)
            have hE : natE R = 0 := natE_0 (by omega) (by omega) (by rw [← hlow]; omega)
            have hN : natN R = 2 * k + 1 := by rw [natN_0 hE]; omega
            have hv : (natU R : Int) = ((2 ^ k + valOf ((R.drop (k + 1)).take (2 * k + 1 - (k + 1))) - 1 : Nat) : Int) := by rw [natU_is hE (by omega), ← hlow, hzz]; congr 1; omega
            exact ⟨by rw [hE, hv]; rfl, by rw [hN]; exact St.back hi H77⟩
    · skip
      refine r_cons (s_lss false rfl rfl (dfalse hc23) rfl ?_)
      refine r_cons (s_move (.bool false) rfl rfl ?_)
      refine r_cons (r_pass rfl rfl rfl rfl rfl ?_)
      refine r_cons (r_pass rfl rfl rfl rfl rfl ?_)
      refine r_cons (s_pick_f (.bool false) rfl rfl rfl ?_)
      refine r_cons (s_move (.bool false) rfl rfl ?_)
      refine r_cons (r_pass rfl rfl rfl rfl rfl ?_)
      refine r_cons (r_pass rfl rfl rfl rfl rfl ?_)
      refine r_cons (r_pass rfl rfl rfl rfl rfl ?_)
      refine r_cons (r_pass rfl rfl rfl rfl rfl ?_)
      refine r_cons (r_pass rfl rfl rfl rfl rfl ?_)
      refine r_cons (r_pass rfl rfl rfl rfl rfl ?_)
      refine r_cons (r_pass rfl rfl rfl rfl rfl ?_)
      refine r_cons (r_pass rfl rfl rfl rfl rfl ?_)
      refine r_cons (s_pick_f (.bool false) rfl rfl rfl ?_)
      refine r_nil ?_
      refine g_false rfl ?_
      refine g_exit (by rfl) ?_
      refine g_seq ?_
      refine g_seq ?_
      refine g_region ?_
      refine r_cons (s_move (.int .i64 (k : Int)) rfl rfl ?_)
      have hzz : zeros R = k := zeros_is hk hkr hz (by first | (left; omega) | (right; left; omega) | (right; right; simpa using hz))
      clear hz
      by_cases hc78 : (k : Int) = 65
      · skip
        refine r_cons (s_eql true rfl rfl (dtrue hc78) rfl ?_)
        refine r_nil ?_
        refine g_true rfl ?_
        refine g_seq ?_
        refine g_region ?_
        refine r_cons (s_assign (.int .u64 0) rfl rfl ?_)
        refine r_cons (s_assign (.int .i64 11) rfl rfl ?_)
        refine r_nil ?_
        refine g_ret' [.int .u64 0, .int .i64 11] Try.func105 Try.results105 ⟨rfl, rfl, trivial⟩ ?_
        have H79 : St W w3 (blk b (.cells #[.slice pp10 R.length cc11] 83 (0, 0)) :: Im 1 (.slice pp10 R.length cc11) R.length (R.flatMap blc) :: (F.set i emp)) := (((H22.move 2 rfl).move 2 rfl).drop 2 rfl)
        have H80 : St W w3 (RSrc b R :: (F.set i emp)) := St.shut_ex (.slice pp10 R.length cc11) (St.shut_star (ls := [blk b (.cells #[.slice pp10 R.length cc11] 83 (0, 0)), Im 1 (.slice pp10 R.length cc11) R.length (R.flatMap blc)]) H79)
        have H81 : St W w3 (RSrc b R :: (F.set i emp)) := H80
        have hE : natE R = 11 := by first | exact natE_65 (by omega) | exact natE_11 (by omega) (by omega) (by rw [← hlow]; omega)
        have hE0 : ¬ natE R = 0 := by rw [hE]; decide
        exact ⟨by rw [natU_no hE0, hE]; rfl, by rw [natN_no hE0, List.drop_zero]; exact St.back hi H81⟩
      · skip
        refine r_cons (s_eql false rfl rfl (dfalse hc78) rfl ?_)
        refine r_nil ?_
        refine g_false rfl ?_
        refine g_skip ?_
        refine g_seq ?_
        refine g_seq ?_
        refine g_region ?_
        refine r_cons (s_move (.int .i64 (k : Int)) rfl rfl ?_)
        refine r_cons (s_mul ((2 * k : Nat) : Int) rfl rfl ((wi64 (by omega)).trans (by omega)) rfl ?_)
        refine r_cons (s_add (((2 * k : Nat) : Int) + 1) rfl rfl (wi64 (by omega)) rfl ?_)
        refine r_cons (s_move (.pointer (some ⟨b, 0, none⟩)) rfl rfl ?_)
        refine r_cons (s_nilCheck (.pointer (some ⟨b, 0, none⟩)) rfl ⟨_, rfl⟩ rfl ?_)
        refine r_cons (s_fieldAddr 83 0 0 0 50 rfl fi_83_0 rfl rfl ?_)
        refine r_cons (s_load (.slice pp10 R.length cc11) ag_50 rfl (H22.blk_at (i := 1) rfl) rfl rfl ?_)
        refine r_cons (s_len R.length rfl ⟨_, un_50⟩ rfl ?_)
        by_cases hc82 : (R.length : Int) < ((2 * k : Nat) : Int) + 1
        · skip
          refine r_cons (s_gtr true rfl rfl (dtrue hc82) rfl ?_)
          refine r_nil ?_
          refine g_true rfl ?_
          refine g_seq ?_
          refine g_region ?_
          refine r_cons (s_assign (.int .u64 0) rfl rfl ?_)
          refine r_cons (s_assign (.int .i64 10) rfl rfl ?_)
          refine r_nil ?_
          refine g_ret' [.int .u64 0, .int .i64 10] Try.func105 Try.results105 ⟨rfl, rfl, trivial⟩ ?_
          have H83 : St W w3 (blk b (.cells #[.slice pp10 R.length cc11] 83 (0, 0)) :: Im 1 (.slice pp10 R.length cc11) R.length (R.flatMap blc) :: (F.set i emp)) := (((H22.move 2 rfl).move 2 rfl).drop 2 rfl)
          have H84 : St W w3 (RSrc b R :: (F.set i emp)) := St.shut_ex (.slice pp10 R.length cc11) (St.shut_star (ls := [blk b (.cells #[.slice pp10 R.length cc11] 83 (0, 0)), Im 1 (.slice pp10 R.length cc11) R.length (R.flatMap blc)]) H83)
          have H85 : St W w3 (RSrc b R :: (F.set i emp)) := H84
          have hE : natE R = 10 := natE_10 (by omega) (by omega)
          have hE0 : ¬ natE R = 0 := by rw [hE]; decide
          exact ⟨by rw [natU_no hE0, hE]; rfl, by rw [natN_no hE0, List.drop_zero]; exact St.back hi H85⟩
        · skip
          refine r_cons (s_gtr false rfl rfl (dfalse hc82) rfl ?_)
          refine r_nil ?_
          refine g_false rfl ?_
          refine g_skip ?_
          refine g_seq ?_
          refine g_region ?_
          refine r_cons (s_move (.pointer (some ⟨b, 0, none⟩)) rfl rfl ?_)
          refine r_cons (s_nilCheck (.pointer (some ⟨b, 0, none⟩)) rfl ⟨_, rfl⟩ rfl ?_)
          refine r_cons (s_fieldAddr 83 0 0 0 50 rfl fi_83_0 rfl rfl ?_)
          refine r_cons (s_load (.slice pp10 R.length cc11) ag_50 rfl (H22.blk_at (i := 1) rfl) rfl rfl ?_)
          refine r_cons (s_move (.int .i64 (k : Int)) rfl rfl ?_)
          refine r_cons (s_add ((k : Int) + 1) rfl rfl (wi64 (by omega)) rfl ?_)
          refine r_cons (s_move (.int .i64 (k : Int)) rfl rfl ?_)
          refine r_cons (s_mul ((2 * k : Nat) : Int) rfl rfl ((wi64 (by omega)).trans (by omega)) rfl ?_)
          refine r_cons (s_add (((2 * k : Nat) : Int) + 1) rfl rfl (wi64 (by omega)) rfl ?_)
          have hc86 := Im.cap H22 (i := 2) rfl
          refine r_cons (s_slice pp10 ((k : Int) + 1) (((2 * k : Nat) : Int) + 1) 1 (.slice (cutAt pp10 (k + 1) cc11 1) ((2 * k + 1) - (k + 1)) (cc11 - (k + 1))) rfl rfl rfl el_50 (by omega) (by first | rfl | (congr 1; omega)) rfl ?_)
          have H87 : St W w3 (Im 1 (.slice (cutAt pp10 (k + 1) cc11 1) ((2 * k + 1) - (k + 1)) (cc11 - (k + 1))) ((2 * k + 1) - (k + 1)) (((R.drop (k + 1)).take ((2 * k + 1) - (k + 1))).flatMap blc) :: imi (0 < R.length) gA12 (.cells kA14 eA15 zA16) :: blk b (.cells #[.slice pp10 R.length cc11] 83 (0, 0)) :: Im 1 (.slice pp10 R.length cc11) R.length (R.flatMap blc) :: (F.set i emp)) := Im.cut blc_len (k + 1) (2 * k + 1) H22 (i := 2) rfl (by omega) (by omega)
          refine r_cons (s_call [.slice (cutAt pp10 (k + 1) cc11 1) ((2 * k + 1) - (k + 1)) (cc11 - (k + 1))] pl_113 rfl rfl (ref01_value _ _ ((R.drop (k + 1)).take ((2 * k + 1) - (k + 1))) (by first | rfl | (simp only [List.length_take, List.length_drop]; omega)) (by omega) (j := 0) rfl H87) ?_)
          rintro _ w88 ⟨rfl, H89⟩
          refine r_cons (s_assign (.int .u64 (valOf ((R.drop (k + 1)).take ((2 * k + 1) - (k + 1))) : Int)) rfl rfl ?_)
          refine r_nil ?_
          refine g_seq ?_
          refine g_seq ?_
          refine g_region ?_
          have hlow : valOf ((R.drop (k + 1)).take (2 * k + 1 - (k + 1))) = valOf ((R.drop (zeros R + 1)).take (zeros R)) := by rw [hzz]; congr 2; omega
          have hlt : valOf ((R.drop (k + 1)).take (2 * k + 1 - (k + 1))) < 2 ^ k := by rw [hlow, hzz]; exact valOf_take_lt _ _
          refine r_cons (s_move (.int .i64 (k : Int)) rfl rfl ?_)
          by_cases hc90 : (k : Int) = 64
          · skip
            refine r_cons (s_eql true rfl rfl (dtrue hc90) rfl ?_)
            refine r_cons (s_move (.bool true) rfl rfl ?_)
            refine r_cons (r_take rfl rfl ?_)
            refine s_move (.int .u64 (valOf ((R.drop (k + 1)).take ((2 * k + 1) - (k + 1))) : Int)) rfl rfl ?_
            refine r_cons (r_take rfl rfl ?_)
            by_cases hc91 : (0 : Int) < (valOf ((R.drop (k + 1)).take ((2 * k + 1) - (k + 1))) : Int)
            · skip
              refine s_gtr true rfl rfl (dtrue hc91) rfl ?_
              refine r_cons (s_pick_t (.bool true) rfl rfl rfl ?_)
              refine r_nil ?_
              refine g_true rfl ?_
              refine g_seq ?_
              refine g_region ?_
              refine r_cons (s_assign (.int .u64 0) rfl rfl ?_)
              refine r_cons (s_assign (.int .i64 11) rfl rfl ?_)
              refine r_nil ?_
              refine g_ret' [.int .u64 0, .int .i64 11] Try.func105 Try.results105 ⟨rfl, rfl, trivial⟩ ?_
              have H92 : St W w88 (blk b (.cells #[.slice pp10 R.length cc11] 83 (0, 0)) :: Im 1 (.slice pp10 R.length cc11) R.length (R.flatMap blc) :: Im 1 (.slice (cutAt pp10 (k + 1) cc11 1) ((2 * k + 1) - (k + 1)) (cc11 - (k + 1))) ((2 * k + 1) - (k + 1)) (((R.drop (k + 1)).take ((2 * k + 1) - (k + 1))).flatMap blc) :: (F.set i emp)) := (((H89.move 3 rfl).move 3 rfl).drop 3 rfl)
              have H93 : St W w88 (RSrc b R :: Im 1 (.slice (cutAt pp10 (k + 1) cc11 1) ((2 * k + 1) - (k + 1)) (cc11 - (k + 1))) ((2 * k + 1) - (k + 1)) (((R.drop (k + 1)).take ((2 * k + 1) - (k + 1))).flatMap blc) :: (F.set i emp)) := St.shut_ex (.slice pp10 R.length cc11) (St.shut_star (ls := [blk b (.cells #[.slice pp10 R.length cc11] 83 (0, 0)), Im 1 (.slice pp10 R.length cc11) R.length (R.flatMap blc)]) H92)
              have H94 : St W w88 (RSrc b R :: (F.set i emp)) := (H93.drop 1 rfl)
              have hE : natE R = 11 := by first | exact natE_65 (by omega) | exact natE_11 (by omega) (by omega) (by rw [← hlow]; omega)
              have hE0 : ¬ natE R = 0 := by rw [hE]; decide
              exact ⟨by rw [natU_no hE0, hE]; rfl, by rw [natN_no hE0, List.drop_zero]; exact St.back hi H94⟩
            · skip
              refine s_gtr false rfl rfl (dfalse hc91) rfl ?_
              refine r_cons (s_pick_t (.bool false) rfl rfl rfl ?_)
              refine r_nil ?_
              refine g_false rfl ?_
              refine g_skip ?_
              refine g_seq ?_
              refine g_region ?_
              refine r_cons (s_move (.pointer (some ⟨b, 0, none⟩)) rfl rfl ?_)
              refine r_cons (s_move (.pointer (some ⟨b, 0, none⟩)) rfl rfl ?_)
              refine r_cons (s_nilCheck (.pointer (some ⟨b, 0, none⟩)) rfl ⟨_, rfl⟩ rfl ?_)
              refine r_cons (s_fieldAddr 83 0 0 0 50 rfl fi_83_0 rfl rfl ?_)
              refine r_cons (s_load (.slice pp10 R.length cc11) ag_50 rfl (H89.blk_at (i := 2) rfl) rfl rfl ?_)
              refine r_cons (s_move (.int .i64 (k : Int)) rfl rfl ?_)
              refine r_cons (s_mul ((2 * k : Nat) : Int) rfl rfl ((wi64 (by omega)).trans (by omega)) rfl ?_)
              refine r_cons (s_add (((2 * k : Nat) : Int) + 1) rfl rfl (wi64 (by omega)) rfl ?_)
              have hc95 := Im.cap H89 (i := 3) rfl
              refine r_cons (s_slice_l pp10 (((2 * k : Nat) : Int) + 1) 1 (.slice (cutAt pp10 (2 * k + 1) cc11 1) (R.length - (2 * k + 1)) (cc11 - (2 * k + 1))) rfl rfl el_50 (by omega) (by first | rfl | (congr 1; omega)) rfl ?_)
              have H96 : St W w88 (Im 1 (.slice (cutAt pp10 (2 * k + 1) cc11 1) (R.length - (2 * k + 1)) (cc11 - (2 * k + 1))) (R.length - (2 * k + 1)) ((R.drop (2 * k + 1)).flatMap blc) :: Im 1 (.slice (cutAt pp10 (k + 1) cc11 1) ((2 * k + 1) - (k + 1)) (cc11 - (k + 1))) ((2 * k + 1) - (k + 1)) (((R.drop (k + 1)).take ((2 * k + 1) - (k + 1))).flatMap blc) :: imi (0 < R.length) gA12 (.cells kA14 eA15 zA16) :: blk b (.cells #[.slice pp10 R.length cc11] 83 (0, 0)) :: Im 1 (.slice pp10 R.length cc11) R.length (R.flatMap blc) :: (F.set i emp)) := Im.cut_l blc_len (2 * k + 1) H89 (i := 3) rfl (by omega)
              refine r_cons (s_nilCheck (.pointer (some ⟨b, 0, none⟩)) rfl ⟨_, rfl⟩ rfl ?_)
              refine r_cons (s_fieldAddr 83 0 0 0 50 rfl fi_83_0 rfl rfl ?_)
              refine r_cons (s_store H96 3 (.slice (cutAt pp10 (2 * k + 1) cc11 1) (R.length - (2 * k + 1)) (cc11 - (2 * k + 1))) rfl rfl rfl sz_50 rfl (Nat.le_of_ble_eq_true rfl) rfl (cs' := #[.slice (cutAt pp10 (2 * k + 1) cc11 1) (R.length - (2 * k + 1)) (cc11 - (2 * k + 1))]) rfl ?_); intro w97 H98
              refine r_nil ?_
              refine g_seq ?_
              refine g_seq ?_
              refine g_region ?_
              refine r_cons (s_move (.int .i64 (k : Int)) rfl rfl ?_)
              refine r_cons (s_eql true rfl rfl (dtrue (by omega)) rfl ?_)
              refine r_nil ?_
              refine g_true rfl ?_
              refine g_seq ?_
              refine g_region ?_
              refine r_cons (s_assign (.int .u64 18446744073709551615) rfl rfl ?_)
              refine r_cons (s_assign (.int .i64 0) rfl rfl ?_)
              refine r_nil ?_
              refine g_ret' [.int .u64 18446744073709551615, .int .i64 0] Try.func105 Try.results105 ⟨rfl, rfl, trivial⟩ ?_
              have H99 : St W w97 (blk b (.cells #[.slice (cutAt pp10 (2 * k + 1) cc11 1) (R.length - (2 * k + 1)) (cc11 - (2 * k + 1))] 83 (0, 0)) :: Im 1 (.slice (cutAt pp10 (2 * k + 1) cc11 1) (R.length - (2 * k + 1)) (cc11 - (2 * k + 1))) (R.length - (2 * k + 1)) ((R.drop (2 * k + 1)).flatMap blc) :: Im 1 (.slice (cutAt pp10 (k + 1) cc11 1) ((2 * k + 1) - (k + 1)) (cc11 - (k + 1))) ((2 * k + 1) - (k + 1)) (((R.drop (k + 1)).take ((2 * k + 1) - (k + 1))).flatMap blc) :: Im 1 (.slice pp10 R.length cc11) R.length (R.flatMap blc) :: (F.set i emp)) := (((((H98.move 4 rfl).move 2 rfl).move 2 rfl).move 4 rfl).drop 4 rfl)
              have H100 : St W w97 (blk b (.cells #[.slice (cutAt pp10 (2 * k + 1) cc11 1) (R.length - (2 * k + 1)) (cc11 - (2 * k + 1))] 83 (0, 0)) :: Im 1 (.slice (cutAt pp10 (2 * k + 1) cc11 1) (R.length - (2 * k + 1)) (cc11 - (2 * k + 1))) ((R.drop (2 * k + 1)).length) ((R.drop (2 * k + 1)).flatMap blc) :: Im 1 (.slice (cutAt pp10 (k + 1) cc11 1) ((2 * k + 1) - (k + 1)) (cc11 - (k + 1))) ((2 * k + 1) - (k + 1)) (((R.drop (k + 1)).take ((2 * k + 1) - (k + 1))).flatMap blc) :: Im 1 (.slice pp10 R.length cc11) R.length (R.flatMap blc) :: (F.set i emp)) := by rw [show (R.drop (2 * k + 1)).length = R.length - (2 * k + 1) from by simp only [List.length_drop, List.length_take]; (try omega)]; exact H99
              have H101 : St W w97 (RSrc b (R.drop (2 * k + 1)) :: Im 1 (.slice (cutAt pp10 (k + 1) cc11 1) ((2 * k + 1) - (k + 1)) (cc11 - (k + 1))) ((2 * k + 1) - (k + 1)) (((R.drop (k + 1)).take ((2 * k + 1) - (k + 1))).flatMap blc) :: Im 1 (.slice pp10 R.length cc11) R.length (R.flatMap blc) :: (F.set i emp)) := St.shut_ex (.slice (cutAt pp10 (2 * k + 1) cc11 1) (R.length - (2 * k + 1)) (cc11 - (2 * k + 1))) (St.shut_star (ls := [blk b (.cells #[.slice (cutAt pp10 (2 * k + 1) cc11 1) (R.length - (2 * k + 1)) (cc11 - (2 * k + 1))] 83 (0, 0)), Im 1 (.slice (cutAt pp10 (2 * k + 1) cc11 1) (R.length - (2 * k + 1)) (cc11 - (2 * k + 1))) ((R.drop (2 * k + 1)).length) ((R.drop (2 * k + 1)).flatMap blc)]) H100)
              have H102 : St W w97 (RSrc b (R.drop (2 * k + 1)) :: (F.set i emp)) := ((H101.drop 1 rfl).drop 1 rfl)
              have hE : natE R = 0 := natE_0 (by omega) (by omega) (by rw [← hlow]; omega)
              have hN : natN R = 2 * k + 1 := by rw [natN_0 hE]; omega
              have hv : (natU R : Int) = 18446744073709551615 := by rw [natU_64 hE (by omega)]; rfl
              exact ⟨by rw [hE, hv]; rfl, by rw [hN]; exact St.back hi H102⟩
          · skip
            refine r_cons (s_eql false rfl rfl (dfalse hc90) rfl ?_)
            refine r_cons (s_move (.bool false) rfl rfl ?_)
            refine r_cons (r_pass rfl rfl rfl rfl rfl ?_)
            refine r_cons (r_pass rfl rfl rfl rfl rfl ?_)
            refine r_cons (s_pick_f (.bool false) rfl rfl rfl ?_)
            refine r_nil ?_
            refine g_false rfl ?_
            refine g_skip ?_
            refine g_seq ?_
            refine g_region ?_
            refine r_cons (s_move (.pointer (some ⟨b, 0, none⟩)) rfl rfl ?_)
            refine r_cons (s_move (.pointer (some ⟨b, 0, none⟩)) rfl rfl ?_)
            refine r_cons (s_nilCheck (.pointer (some ⟨b, 0, none⟩)) rfl ⟨_, rfl⟩ rfl ?_)
            refine r_cons (s_fieldAddr 83 0 0 0 50 rfl fi_83_0 rfl rfl ?_)
            refine r_cons (s_load (.slice pp10 R.length cc11) ag_50 rfl (H89.blk_at (i := 2) rfl) rfl rfl ?_)
            refine r_cons (s_move (.int .i64 (k : Int)) rfl rfl ?_)
            refine r_cons (s_mul ((2 * k : Nat) : Int) rfl rfl ((wi64 (by omega)).trans (by omega)) rfl ?_)
            refine r_cons (s_add (((2 * k : Nat) : Int) + 1) rfl rfl (wi64 (by omega)) rfl ?_)
            have hc103 := Im.cap H89 (i := 3) rfl
            refine r_cons (s_slice_l pp10 (((2 * k : Nat) : Int) + 1) 1 (.slice (cutAt pp10 (2 * k + 1) cc11 1) (R.length - (2 * k + 1)) (cc11 - (2 * k + 1))) rfl rfl el_50 (by omega) (by first | rfl | (congr 1; omega)) rfl ?_)
            have H104 : St W w88 (Im 1 (.slice (cutAt pp10 (2 * k + 1) cc11 1) (R.length - (2 * k + 1)) (cc11 - (2 * k + 1))) (R.length - (2 * k + 1)) ((R.drop (2 * k + 1)).flatMap blc) :: Im 1 (.slice (cutAt pp10 (k + 1) cc11 1) ((2 * k + 1) - (k + 1)) (cc11 - (k + 1))) ((2 * k + 1) - (k + 1)) (((R.drop (k + 1)).take ((2 * k + 1) - (k + 1))).flatMap blc) :: imi (0 < R.length) gA12 (.cells kA14 eA15 zA16) :: blk b (.cells #[.slice pp10 R.length cc11] 83 (0, 0)) :: Im 1 (.slice pp10 R.length cc11) R.length (R.flatMap blc) :: (F.set i emp)) := Im.cut_l blc_len (2 * k + 1) H89 (i := 3) rfl (by omega)
            refine r_cons (s_nilCheck (.pointer (some ⟨b, 0, none⟩)) rfl ⟨_, rfl⟩ rfl ?_)
            refine r_cons (s_fieldAddr 83 0 0 0 50 rfl fi_83_0 rfl rfl ?_)
            refine r_cons (s_store H104 3 (.slice (cutAt pp10 (2 * k + 1) cc11 1) (R.length - (2 * k + 1)) (cc11 - (2 * k + 1))) rfl rfl rfl sz_50 rfl (Nat.le_of_ble_eq_true rfl) rfl (cs' := #[.slice (cutAt pp10 (2 * k + 1) cc11 1) (R.length - (2 * k + 1)) (cc11 - (2 * k + 1))]) rfl ?_); intro w105 H106
            refine r_nil ?_
            refine g_seq ?_
            refine g_seq ?_
            refine g_region ?_
            refine r_cons (s_move (.int .i64 (k : Int)) rfl rfl ?_)
            refine r_cons (s_eql false rfl rfl (dfalse (by omega)) rfl ?_)
            refine r_nil ?_
            refine g_false rfl ?_
            refine g_skip ?_
            refine g_seq ?_
            refine g_region ?_
            refine r_cons (s_move (.int .i64 (k : Int)) rfl rfl ?_)
            have hpw := pow_le63 (k := k) (by omega)
            have hq : 0 < 2 ^ k := Nat.pow_pos (by decide)
            refine r_cons (s_shl ((2 ^ k : Nat) : Int) rfl rfl (by omega) (shl_one rfl (by omega)) rfl ?_)
            refine r_cons (s_move (.int .u64 (valOf ((R.drop (k + 1)).take ((2 * k + 1) - (k + 1))) : Int)) rfl rfl ?_)
            refine r_cons (s_add ((2 ^ k + valOf ((R.drop (k + 1)).take (2 * k + 1 - (k + 1))) : Nat) : Int) rfl rfl ((wu64 (by generalize 2 ^ k = q at *; omega)).trans (by generalize 2 ^ k = q at *; omega)) rfl ?_)
            refine r_cons (s_sub ((2 ^ k + valOf ((R.drop (k + 1)).take (2 * k + 1 - (k + 1))) - 1 : Nat) : Int) rfl rfl ((wu64 (by generalize 2 ^ k = q at *; omega)).trans (by generalize 2 ^ k = q at *; omega)) rfl ?_)
            refine r_cons (s_assign (.int .u64 ((2 ^ k + valOf ((R.drop (k + 1)).take (2 * k + 1 - (k + 1))) - 1 : Nat) : Int)) rfl rfl ?_)
            refine r_cons (s_assign (.int .i64 0) rfl rfl ?_)
            refine r_nil ?_
            refine g_ret' [.int .u64 ((2 ^ k + valOf ((R.drop (k + 1)).take (2 * k + 1 - (k + 1))) - 1 : Nat) : Int), .int .i64 0] Try.func105 Try.results105 ⟨rfl, rfl, trivial⟩ ?_
            have H107 : St W w105 (blk b (.cells #[.slice (cutAt pp10 (2 * k + 1) cc11 1) (R.length - (2 * k + 1)) (cc11 - (2 * k + 1))] 83 (0, 0)) :: Im 1 (.slice (cutAt pp10 (2 * k + 1) cc11 1) (R.length - (2 * k + 1)) (cc11 - (2 * k + 1))) (R.length - (2 * k + 1)) ((R.drop (2 * k + 1)).flatMap blc) :: Im 1 (.slice (cutAt pp10 (k + 1) cc11 1) ((2 * k + 1) - (k + 1)) (cc11 - (k + 1))) ((2 * k + 1) - (k + 1)) (((R.drop (k + 1)).take ((2 * k + 1) - (k + 1))).flatMap blc) :: Im 1 (.slice pp10 R.length cc11) R.length (R.flatMap blc) :: (F.set i emp)) := (((((H106.move 4 rfl).move 2 rfl).move 2 rfl).move 4 rfl).drop 4 rfl)
            have H108 : St W w105 (blk b (.cells #[.slice (cutAt pp10 (2 * k + 1) cc11 1) (R.length - (2 * k + 1)) (cc11 - (2 * k + 1))] 83 (0, 0)) :: Im 1 (.slice (cutAt pp10 (2 * k + 1) cc11 1) (R.length - (2 * k + 1)) (cc11 - (2 * k + 1))) ((R.drop (2 * k + 1)).length) ((R.drop (2 * k + 1)).flatMap blc) :: Im 1 (.slice (cutAt pp10 (k + 1) cc11 1) ((2 * k + 1) - (k + 1)) (cc11 - (k + 1))) ((2 * k + 1) - (k + 1)) (((R.drop (k + 1)).take ((2 * k + 1) - (k + 1))).flatMap blc) :: Im 1 (.slice pp10 R.length cc11) R.length (R.flatMap blc) :: (F.set i emp)) := by rw [show (R.drop (2 * k + 1)).length = R.length - (2 * k + 1) from by simp only [List.length_drop, List.length_take]; (try omega)]; exact H107
            have H109 : St W w105 (RSrc b (R.drop (2 * k + 1)) :: Im 1 (.slice (cutAt pp10 (k + 1) cc11 1) ((2 * k + 1) - (k + 1)) (cc11 - (k + 1))) ((2 * k + 1) - (k + 1)) (((R.drop (k + 1)).take ((2 * k + 1) - (k + 1))).flatMap blc) :: Im 1 (.slice pp10 R.length cc11) R.length (R.flatMap blc) :: (F.set i emp)) := St.shut_ex (.slice (cutAt pp10 (2 * k + 1) cc11 1) (R.length - (2 * k + 1)) (cc11 - (2 * k + 1))) (St.shut_star (ls := [blk b (.cells #[.slice (cutAt pp10 (2 * k + 1) cc11 1) (R.length - (2 * k + 1)) (cc11 - (2 * k + 1))] 83 (0, 0)), Im 1 (.slice (cutAt pp10 (2 * k + 1) cc11 1) (R.length - (2 * k + 1)) (cc11 - (2 * k + 1))) ((R.drop (2 * k + 1)).length) ((R.drop (2 * k + 1)).flatMap blc)]) H108)
            have H110 : St W w105 (RSrc b (R.drop (2 * k + 1)) :: (F.set i emp)) := ((H109.drop 1 rfl).drop 1 rfl)
            have hE : natE R = 0 := natE_0 (by omega) (by omega) (by rw [← hlow]; omega)
            have hN : natN R = 2 * k + 1 := by rw [natN_0 hE]; omega
            have hv : (natU R : Int) = ((2 ^ k + valOf ((R.drop (k + 1)).take (2 * k + 1 - (k + 1))) - 1 : Nat) : Int) := by rw [natU_is hE (by omega), ← hlow, hzz]; congr 1; omega
            exact ⟨by rw [hE, hv]; rfl, by rw [hN]; exact St.back hi H110⟩
set_option maxHeartbeats 4000000 in
set_option maxRecDepth 100000 in
theorem RSrc_Num {W w : World} {F : List Atom} (b : Nat) (R : List Bool) {i : Nat} (hi : F[i]? = some (RSrc b R)) (H : St W w F) : Calls Try.prog 114 #[.pointer (some ⟨b, 0, none⟩)] w (Ret fun v w' => v = .tuple #[.int .i64 (zagN (natU R)), .int .i64 (natE R)] ∧ St W w' (F.set i (RSrc b (R.drop (natN R))))) := by
  have H0 := H.front hi
  refine calls_of_go (n := 25) Try.func114 rfl Try.ntmps114 rfl ?_
  refine g_seq ?_
  refine g_region ?_
  refine r_cons (s_assign (.int .i64 0) rfl rfl ?_)
  refine r_cons (s_assign (.int .i64 0) rfl rfl ?_)
  refine r_nil ?_
  refine g_seq ?_
  refine g_region ?_
  refine r_cons (s_move (.pointer (some ⟨b, 0, none⟩)) rfl rfl ?_)
  refine r_cons (s_call [.pointer (some ⟨b, 0, none⟩)] pl_105 rfl rfl (RSrc_Nat b R   (i := 0) rfl H0) ?_)
  rintro _ w1 ⟨rfl, H2⟩
  refine r_cons (s_move (.tuple #[.int .u64 (natU R : Int), .int .i64 (natE R)]) rfl rfl ?_)
  refine r_cons (s_extract (.int .u64 (natU R : Int)) #[.int .u64 (natU R : Int), .int .i64 (natE R)] rfl rfl rfl ?_)
  refine r_cons (s_extract (.int .i64 (natE R)) #[.int .u64 (natU R : Int), .int .i64 (natE R)] rfl rfl rfl ?_)
  refine r_cons (s_assign (.int .u64 (natU R : Int)) rfl rfl ?_)
  refine r_cons (s_assign (.int .i64 (natE R)) rfl rfl ?_)
  refine r_nil ?_
  refine g_seq ?_
  refine g_seq ?_
  refine g_region ?_
  refine r_cons (s_move (.int .i64 (natE R)) rfl rfl ?_)
  by_cases hc3 : natE R = 0
  · skip
    refine r_cons (s_neq false rfl rfl (ntrue hc3) rfl ?_)
    refine r_nil ?_
    refine g_false rfl ?_
    refine g_skip ?_
    refine g_seq ?_
    refine g_seq ?_
    refine g_region ?_
    refine r_cons (s_move (.int .u64 (natU R : Int)) rfl rfl ?_)
    have hlt := natU_lt R
    refine r_cons (s_rem ((natU R : Int) % 2) rfl rfl (by omega) (tmod_pos (by omega)) rfl ?_)
    by_cases hc4 : (natU R : Int) % 2 = 1
    · skip
      refine r_cons (s_eql true rfl rfl (dtrue hc4) rfl ?_)
      refine r_nil ?_
      refine g_true rfl ?_
      refine g_seq ?_
      refine g_region ?_
      refine r_cons (s_move (.int .u64 (natU R : Int)) rfl rfl ?_)
      refine r_cons (s_quo ((natU R : Int) / 2) rfl rfl (by omega) (by rw [tdiv_pos (by omega)]; exact wu64 (by omega)) rfl ?_)
      refine r_cons (s_conv ((natU R : Int) / 2) rfl us_62 ik_2 (wi64 (by omega)) rfl ?_)
      refine r_cons (s_neg (-((natU R : Int) / 2)) rfl (wi64 (by omega)) rfl ?_)
      refine r_cons (s_sub (-((natU R : Int) / 2) - 1) rfl rfl (wi64 (by omega)) rfl ?_)
      refine r_cons (s_assign (.int .i64 (-((natU R : Int) / 2) - 1)) rfl rfl ?_)
      refine r_cons (s_assign (.int .i64 0) rfl rfl ?_)
      refine r_nil ?_
      refine g_ret' [.int .i64 (-((natU R : Int) / 2) - 1), .int .i64 0] Try.func114 Try.results114 ⟨rfl, rfl, trivial⟩ ?_
      have H5 : St W w1 (RSrc b (R.drop (natN R)) :: (F.set i emp)) := H2
      have hz : zagN (natU R) = -((natU R : Int) / 2) - 1 := by unfold zagN; first | (rw [if_pos (by omega)]; done) | (rw [if_neg (by omega)]; done) | (rw [if_pos (by omega)]; omega) | (rw [if_neg (by omega)]; omega)
      have hE : natE R = 0 := by assumption
      exact ⟨by rw [hE, hz]; rfl, St.back hi H5⟩
    · skip
      refine r_cons (s_eql false rfl rfl (dfalse hc4) rfl ?_)
      refine r_nil ?_
      refine g_false rfl ?_
      refine g_skip ?_
      refine g_seq ?_
      refine g_region ?_
      refine r_cons (s_move (.int .u64 (natU R : Int)) rfl rfl ?_)
      refine r_cons (s_quo ((natU R : Int) / 2) rfl rfl (by omega) (by rw [tdiv_pos (by omega)]; exact wu64 (by omega)) rfl ?_)
      refine r_cons (s_conv ((natU R : Int) / 2) rfl us_62 ik_2 (wi64 (by omega)) rfl ?_)
      refine r_cons (s_assign (.int .i64 ((natU R : Int) / 2)) rfl rfl ?_)
      refine r_cons (s_assign (.int .i64 0) rfl rfl ?_)
      refine r_nil ?_
      refine g_ret' [.int .i64 ((natU R : Int) / 2), .int .i64 0] Try.func114 Try.results114 ⟨rfl, rfl, trivial⟩ ?_
      have H6 : St W w1 (RSrc b (R.drop (natN R)) :: (F.set i emp)) := H2
      have hz : zagN (natU R) = (natU R : Int) / 2 := by unfold zagN; first | (rw [if_pos (by omega)]; done) | (rw [if_neg (by omega)]; done) | (rw [if_pos (by omega)]; omega) | (rw [if_neg (by omega)]; omega)
      have hE : natE R = 0 := by assumption
      exact ⟨by rw [hE, hz]; rfl, St.back hi H6⟩
  · skip
    refine r_cons (s_neq true rfl rfl (nfalse hc3) rfl ?_)
    refine r_nil ?_
    refine g_true rfl ?_
    refine g_seq ?_
    refine g_region ?_
    refine r_cons (s_move (.int .i64 (natE R)) rfl rfl ?_)
    refine r_cons (s_assign (.int .i64 0) rfl rfl ?_)
    refine r_cons (s_assign (.int .i64 (natE R)) rfl rfl ?_)
    refine r_nil ?_
    refine g_ret' [.int .i64 0, .int .i64 (natE R)] Try.func114 Try.results114 ⟨rfl, rfl, trivial⟩ ?_
    have H7 : St W w1 (RSrc b (R.drop (natN R)) :: (F.set i emp)) := H2
    have hE : ¬ natE R = 0 := by assumption
    exact ⟨by rw [natU_no hE]; rfl, St.back hi H7⟩
set_option maxHeartbeats 4000000 in
set_option maxRecDepth 100000 in
theorem RSrc_End {W w : World} {F : List Atom} (b : Nat) (R : List Bool) {i : Nat} (hi : F[i]? = some (RSrc b R)) (H : St W w F) : Calls Try.prog 82 #[.pointer (some ⟨b, 0, none⟩)] w (Ret fun v w' => v = .int .i64 (endE R) ∧ St W w' F) := by
  have H0 := H.front hi
  refine calls_of_go (n := 26) Try.func82 rfl Try.ntmps82 rfl ?_
  refine g_seq ?_
  refine g_region ?_
  refine r_cons (s_assign (.int .i64 0) rfl rfl ?_)
  refine r_nil ?_
  refine g_seq ?_
  refine g_seq ?_
  refine g_region ?_
  refine r_cons (s_move (.pointer (some ⟨b, 0, none⟩)) rfl rfl ?_)
  refine r_cons (s_nilCheck (.pointer (some ⟨b, 0, none⟩)) rfl ⟨_, rfl⟩ rfl ?_)
  refine r_cons (s_fieldAddr 83 0 0 0 50 rfl fi_83_0 rfl rfl ?_)
  have H1 := H0.move 0 rfl
  obtain ⟨vv2, H3⟩ := St.open_ex H1
  have H4 := St.open_star H3
  obtain ⟨pp5, cc6, gA7, oA8, kA9, eA10, zA11, rfl, hn12, hp13, hx14, hs15, hml, H16⟩ := Im.open_ H4 (i := 1) rfl
  have H17 : St W w (imi (0 < R.length) gA7 (.cells kA9 eA10 zA11) :: blk b (.cells #[.slice pp5 R.length cc6] 83 (0, 0)) :: Im 1 (.slice pp5 R.length cc6) R.length (R.flatMap blc) :: (F.set i emp)) := H16
  refine r_cons (s_load (.slice pp5 R.length cc6) ag_50 rfl (H17.blk_at (i := 1) rfl) rfl rfl ?_)
  refine r_cons (s_len R.length rfl ⟨_, un_50⟩ rfl ?_)
  by_cases hc18 : (7 : Int) < (R.length : Int)
  · skip
    refine r_cons (s_gtr true rfl rfl (dtrue hc18) rfl ?_)
    refine r_nil ?_
    refine g_true rfl ?_
    refine g_seq ?_
    refine g_region ?_
    refine r_cons (s_assign (.int .i64 12) rfl rfl ?_)
    refine r_nil ?_
    refine g_ret' [.int .i64 12] Try.func82 Try.results82 ⟨rfl, trivial⟩ ?_
    have H19 : St W w (blk b (.cells #[.slice pp5 R.length cc6] 83 (0, 0)) :: Im 1 (.slice pp5 R.length cc6) R.length (R.flatMap blc) :: (F.set i emp)) := (((H17.move 2 rfl).move 2 rfl).drop 2 rfl)
    have H20 : St W w (RSrc b R :: (F.set i emp)) := St.shut_ex (.slice pp5 R.length cc6) (St.shut_star (ls := [blk b (.cells #[.slice pp5 R.length cc6] 83 (0, 0)), Im 1 (.slice pp5 R.length cc6) R.length (R.flatMap blc)]) H19)
    have H21 : St W w (RSrc b R :: (F.set i emp)) := H20
    exact ⟨vint (by first | exact (endE_long (by omega)).symm | exact (endE_bit (j := k) (by omega) (by assumption)).symm | exact (endE_0 (by omega) (fun j hj => hz j (by omega))).symm), St.back_same hi H21⟩
  · skip
    refine r_cons (s_gtr false rfl rfl (dfalse hc18) rfl ?_)
    refine r_nil ?_
    refine g_false rfl ?_
    refine g_skip ?_
    refine g_seq ?_
    refine g_seq ?_
    refine g_region ?_
    refine r_cons (s_assign (.int .i64 0) rfl rfl ?_)
    refine r_nil ?_
    refine g_block ?_
    have H22 : St W w (blk b (.cells #[.slice pp5 R.length cc6] 83 (0, 0)) :: Im 1 (.slice pp5 R.length cc6) R.length (R.flatMap blc) :: (F.set i emp)) := (((H17.move 2 rfl).move 2 rfl).drop 2 rfl)
    have H23 : St W w (RSrc b R :: (F.set i emp)) := St.shut_ex (.slice pp5 R.length cc6) (St.shut_star (ls := [blk b (.cells #[.slice pp5 R.length cc6] 83 (0, 0)), Im 1 (.slice pp5 R.length cc6) R.length (R.flatMap blc)]) H22)
    have H24 : St W w (RSrc b R :: (F.set i emp)) := H23
    refine g_loop_inv (fun (x_ : Nat) => match x_ with | k => [(0, .pointer (some ⟨b, 0, none⟩)), (2, .int .i64 0), (3, .int .i64 (k : Int))]) (fun (x_ : Nat) w => match x_ with | k => (k ≤ R.length) ∧ (∀ j, j < k → R.getD j false = false) ∧ St W w (RSrc b R :: (F.set i emp))) (fun (x_ : Nat) => match x_ with | k => R.length - k) (0) ?_ ?_ ?_
    · exact ⟨by first | rfl | exact vint (by omega), by first | rfl | exact vint (by omega), by first | rfl | exact vint (by omega), trivial⟩
    · exact ⟨(by omega), (fun j hj => by omega), H24⟩
    · rintro k ρ25 w26 ⟨hk, hz, H27⟩ nx28
      change Ends _ _ (upds ρ25 [(0, .pointer (some ⟨b, 0, none⟩)), (2, .int .i64 0), (3, .int .i64 (k : Int))]) w26
      refine g_seq ?_
      refine g_seq ?_
      refine g_region ?_
      refine r_cons (s_move (.int .i64 (k : Int)) rfl rfl ?_)
      refine r_cons (s_move (.pointer (some ⟨b, 0, none⟩)) rfl rfl ?_)
      refine r_cons (s_nilCheck (.pointer (some ⟨b, 0, none⟩)) rfl ⟨_, rfl⟩ rfl ?_)
      refine r_cons (s_fieldAddr 83 0 0 0 50 rfl fi_83_0 rfl rfl ?_)
      have H29 := H27.move 0 rfl
      obtain ⟨vv30, H31⟩ := St.open_ex H29
      have H32 := St.open_star H31
      obtain ⟨pp33, cc34, gA35, oA36, kA37, eA38, zA39, rfl, hn40, hp41, hx42, hs43, hml, H44⟩ := Im.open_ H32 (i := 1) rfl
      have H45 : St W w26 (imi (0 < R.length) gA35 (.cells kA37 eA38 zA39) :: blk b (.cells #[.slice pp33 R.length cc34] 83 (0, 0)) :: Im 1 (.slice pp33 R.length cc34) R.length (R.flatMap blc) :: (F.set i emp)) := H44
      refine r_cons (s_load (.slice pp33 R.length cc34) ag_50 rfl (H45.blk_at (i := 1) rfl) rfl rfl ?_)
      refine r_cons (s_len R.length rfl ⟨_, un_50⟩ rfl ?_)
      by_cases hc46 : (k : Int) < (R.length : Int)
      · skip
        refine r_cons (s_lss true rfl rfl (dtrue hc46) rfl ?_)
        refine r_nil ?_
        refine g_true rfl ?_
        refine g_skip ?_
        refine g_seq ?_
        refine g_block ?_
        refine g_seq ?_
        refine g_region ?_
        refine r_cons (s_move (.pointer (some ⟨b, 0, none⟩)) rfl rfl ?_)
        refine r_cons (s_nilCheck (.pointer (some ⟨b, 0, none⟩)) rfl ⟨_, rfl⟩ rfl ?_)
        refine r_cons (s_fieldAddr 83 0 0 0 50 rfl fi_83_0 rfl rfl ?_)
        refine r_cons (s_load (.slice pp33 R.length cc34) ag_50 rfl (H45.blk_at (i := 1) rfl) rfl rfl ?_)
        refine r_cons (s_move (.int .i64 (k : Int)) rfl rfl ?_)
        refine r_cons (s_indexAddr gA35 (off := oA36) (k : Int) 1 (oA36 + k * 1) (by exact congrArg (fun z_ => Value.slice z_ R.length cc34) (hp41 (by omega))) rfl el_50 (by omega) rfl rfl ?_)
        refine r_cons (s_load (.bool (R.getD k false)) ag_4 rfl (H45.imi_at (i := 0) rfl (by omega)) (elem_cell (L := R) (i := k) blc_len (hx42 (by omega)) (by omega) false 0 (by decide) _ rfl) rfl ?_)
        refine r_nil ?_
        by_cases hb47 : (R.getD k false) = true
        · skip
          refine g_true (congrArg Value.bool hb47) ?_
          refine g_seq ?_
          refine g_region ?_
          refine r_cons (s_assign (.int .i64 12) rfl rfl ?_)
          refine r_nil ?_
          refine g_ret' [.int .i64 12] Try.func82 Try.results82 ⟨rfl, trivial⟩ ?_
          have H48 : St W w26 (blk b (.cells #[.slice pp33 R.length cc34] 83 (0, 0)) :: Im 1 (.slice pp33 R.length cc34) R.length (R.flatMap blc) :: (F.set i emp)) := (((H45.move 2 rfl).move 2 rfl).drop 2 rfl)
          have H49 : St W w26 (RSrc b R :: (F.set i emp)) := St.shut_ex (.slice pp33 R.length cc34) (St.shut_star (ls := [blk b (.cells #[.slice pp33 R.length cc34] 83 (0, 0)), Im 1 (.slice pp33 R.length cc34) R.length (R.flatMap blc)]) H48)
          have H50 : St W w26 (RSrc b R :: (F.set i emp)) := H49
          exact ⟨vint (by first | exact (endE_long (by omega)).symm | exact (endE_bit (j := k) (by omega) (by assumption)).symm | exact (endE_0 (by omega) (fun j hj => hz j (by omega))).symm), St.back_same hi H50⟩
        · have hb47 := eq_false_of_ne_true hb47
          refine g_false (congrArg Value.bool hb47) ?_
          refine g_skip ?_
          refine g_inBlock ?_
          refine g_region ?_
          refine r_cons (s_move (.int .i64 (k : Int)) rfl rfl ?_)
          refine r_cons (s_add ((k : Int) + 1) rfl rfl (wi64 (by omega)) rfl ?_)
          refine r_cons (s_assign (.int .i64 ((k : Int) + 1)) rfl rfl ?_)
          refine r_nil ?_
          have H51 : St W w26 (blk b (.cells #[.slice pp33 R.length cc34] 83 (0, 0)) :: Im 1 (.slice pp33 R.length cc34) R.length (R.flatMap blc) :: (F.set i emp)) := (((H45.move 2 rfl).move 2 rfl).drop 2 rfl)
          have H52 : St W w26 (RSrc b R :: (F.set i emp)) := St.shut_ex (.slice pp33 R.length cc34) (St.shut_star (ls := [blk b (.cells #[.slice pp33 R.length cc34] 83 (0, 0)), Im 1 (.slice pp33 R.length cc34) R.length (R.flatMap blc)]) H51)
          have H53 : St W w26 (RSrc b R :: (F.set i emp)) := H52
          exact nx28 (k + 1) _ _ ⟨(by omega), (fun j hj => (Nat.lt_or_ge j k).elim (hz j) (fun h => by rw [show j = k from by omega]; exact hb47)), H53⟩ (by first | (dsimp only; omega) | omega) ⟨by first | rfl | exact vint (by omega), by first | rfl | exact vint (by omega), by first | rfl | exact vint (by omega), trivial⟩
      · skip
        refine r_cons (s_lss false rfl rfl (dfalse hc46) rfl ?_)
        refine r_nil ?_
        refine g_false rfl ?_
        refine g_exit (by rfl) ?_
        refine g_seq ?_
        refine g_region ?_
        refine r_cons (s_assign (.int .i64 0) rfl rfl ?_)
        refine r_nil ?_
        refine g_ret' [.int .i64 0] Try.func82 Try.results82 ⟨rfl, trivial⟩ ?_
        have H54 : St W w26 (blk b (.cells #[.slice pp33 R.length cc34] 83 (0, 0)) :: Im 1 (.slice pp33 R.length cc34) R.length (R.flatMap blc) :: (F.set i emp)) := (((H45.move 2 rfl).move 2 rfl).drop 2 rfl)
        have H55 : St W w26 (RSrc b R :: (F.set i emp)) := St.shut_ex (.slice pp33 R.length cc34) (St.shut_star (ls := [blk b (.cells #[.slice pp33 R.length cc34] 83 (0, 0)), Im 1 (.slice pp33 R.length cc34) R.length (R.flatMap blc)]) H54)
        have H56 : St W w26 (RSrc b R :: (F.set i emp)) := H55
        exact ⟨vint (by first | exact (endE_long (by omega)).symm | exact (endE_bit (j := k) (by omega) (by assumption)).symm | exact (endE_0 (by omega) (fun j hj => hz j (by omega))).symm), St.back_same hi H56⟩
set_option maxHeartbeats 4000000 in
set_option maxRecDepth 100000 in
theorem RSrc_Text {W w : World} {F : List Atom} (b : Nat) (R : List Bool) (hRl : R.length ≤ 1125899906842624) {i : Nat} (hi : F[i]? = some (RSrc b R)) (H : St W w F) : Calls Try.prog 106 #[.pointer (some ⟨b, 0, none⟩)] w (Ret fun v w' => v = .tuple #[.string (textS R), .int .i64 (textE R)] ∧ St W w' (F.set i (RSrc b (R.drop (textN R))))) := by
  have H0 := H.front hi
  refine calls_of_go (n := 53) Try.func106 rfl Try.ntmps106 rfl ?_
  refine g_seq ?_
  refine g_region ?_
  refine r_cons (s_assign (.string ByteArray.empty) rfl rfl ?_)
  refine r_cons (s_assign (.int .i64 0) rfl rfl ?_)
  refine r_nil ?_
  refine g_seq ?_
  refine g_region ?_
  refine r_cons (s_move (.pointer (some ⟨b, 0, none⟩)) rfl rfl ?_)
  refine r_cons (s_nilCheck (.pointer (some ⟨b, 0, none⟩)) rfl ⟨_, rfl⟩ rfl ?_)
  refine r_cons (s_fieldAddr 83 0 0 0 50 rfl fi_83_0 rfl rfl ?_)
  have H1 := H0.move 0 rfl
  obtain ⟨vv2, H3⟩ := St.open_ex H1
  have H4 := St.open_star H3
  obtain ⟨pp5, cc6, gA7, oA8, kA9, eA10, zA11, rfl, hn12, hp13, hx14, hs15, hml, H16⟩ := Im.open_ H4 (i := 1) rfl
  have H17 : St W w (imi (0 < R.length) gA7 (.cells kA9 eA10 zA11) :: blk b (.cells #[.slice pp5 R.length cc6] 83 (0, 0)) :: Im 1 (.slice pp5 R.length cc6) R.length (R.flatMap blc) :: (F.set i emp)) := H16
  refine r_cons (s_load (.slice pp5 R.length cc6) ag_50 rfl (H17.blk_at (i := 1) rfl) rfl rfl ?_)
  have H18 : St W w (Im 1 (.slice pp5 R.length cc6) R.length (R.flatMap blc) :: imi (0 < R.length) gA7 (.cells kA9 eA10 zA11) :: blk b (.cells #[.slice pp5 R.length cc6] 83 (0, 0)) :: Im 1 (.slice pp5 R.length cc6) R.length (R.flatMap blc) :: (F.set i emp)) := H17.dup (i := 2) rfl (Im_pers _ _ _ _)
  refine r_cons (s_assign (.slice pp5 R.length cc6) rfl rfl ?_)
  refine r_nil ?_
  refine g_seq ?_
  refine g_region ?_
  refine r_cons (s_move (.pointer (some ⟨b, 0, none⟩)) rfl rfl ?_)
  have H19 : St W w (blk b (.cells #[.slice pp5 R.length cc6] 83 (0, 0)) :: Im 1 (.slice pp5 R.length cc6) R.length (R.flatMap blc) :: Im 1 (.slice pp5 R.length cc6) R.length (R.flatMap blc) :: (F.set i emp)) := ((((H18.move 3 rfl).move 1 rfl).move 3 rfl).drop 3 rfl)
  have H20 : St W w (RSrc b R :: Im 1 (.slice pp5 R.length cc6) R.length (R.flatMap blc) :: (F.set i emp)) := St.shut_ex (.slice pp5 R.length cc6) (St.shut_star (ls := [blk b (.cells #[.slice pp5 R.length cc6] 83 (0, 0)), Im 1 (.slice pp5 R.length cc6) R.length (R.flatMap blc)]) H19)
  refine r_cons (s_call [.pointer (some ⟨b, 0, none⟩)] pl_105 rfl rfl (RSrc_Nat b R   (i := 0) rfl H20) ?_)
  rintro _ w21 ⟨rfl, H22⟩
  refine r_cons (s_move (.tuple #[.int .u64 (natU R : Int), .int .i64 (natE R)]) rfl rfl ?_)
  refine r_cons (s_extract (.int .u64 (natU R : Int)) #[.int .u64 (natU R : Int), .int .i64 (natE R)] rfl rfl rfl ?_)
  refine r_cons (s_extract (.int .i64 (natE R)) #[.int .u64 (natU R : Int), .int .i64 (natE R)] rfl rfl rfl ?_)
  refine r_cons (s_assign (.int .u64 (natU R : Int)) rfl rfl ?_)
  refine r_cons (s_assign (.int .i64 (natE R)) rfl rfl ?_)
  refine r_nil ?_
  refine g_seq ?_
  refine g_seq ?_
  refine g_region ?_
  refine r_cons (s_move (.int .i64 (natE R)) rfl rfl ?_)
  by_cases hc23 : natE R = 0
  · skip
    refine r_cons (s_neq false rfl rfl (ntrue hc23) rfl ?_)
    refine r_nil ?_
    refine g_false rfl ?_
    refine g_skip ?_
    refine g_seq ?_
    refine g_seq ?_
    refine g_region ?_
    refine r_cons (s_move (.int .u64 (natU R : Int)) rfl rfl ?_)
    refine r_cons (s_move (.pointer (some ⟨b, 0, none⟩)) rfl rfl ?_)
    refine r_cons (s_nilCheck (.pointer (some ⟨b, 0, none⟩)) rfl ⟨_, rfl⟩ rfl ?_)
    refine r_cons (s_fieldAddr 83 0 0 0 50 rfl fi_83_0 rfl rfl ?_)
    have H24 := H22.move 0 rfl
    obtain ⟨vv25, H26⟩ := St.open_ex H24
    have H27 := St.open_star H26
    obtain ⟨pp28, cc29, gA30, oA31, kA32, eA33, zA34, rfl, hn35, hp36, hx37, hs38, hml, H39⟩ := Im.open_ H27 (i := 1) rfl
    have H40 : St W w21 (imi (0 < (R.drop (natN R)).length) gA30 (.cells kA32 eA33 zA34) :: blk b (.cells #[.slice pp28 ((R.drop (natN R)).length) cc29] 83 (0, 0)) :: Im 1 (.slice pp28 ((R.drop (natN R)).length) cc29) ((R.drop (natN R)).length) ((R.drop (natN R)).flatMap blc) :: Im 1 (.slice pp5 R.length cc6) R.length (R.flatMap blc) :: (F.set i emp)) := H39
    refine r_cons (s_load (.slice pp28 ((R.drop (natN R)).length) cc29) ag_50 rfl (H40.blk_at (i := 1) rfl) rfl rfl ?_)
    have hL := List.length_drop (i := natN R) (l := R)
    refine r_cons (s_len ((R.drop (natN R)).length) rfl ⟨_, un_50⟩ rfl ?_)
    refine r_cons (s_quo ((((R.drop (natN R)).length) / 8 : Nat) : Int) rfl rfl (by omega) (by rw [tdiv_pos (by omega)]; exact wi64 (by omega)) rfl ?_)
    refine r_cons (s_conv ((((R.drop (natN R)).length) / 8 : Nat) : Int) rfl us_3 ik_62 (wu64 (by omega)) rfl ?_)
    by_cases hc41 : ((((R.drop (natN R)).length) / 8 : Nat) : Int) < (natU R : Int)
    · skip
      refine r_cons (s_gtr true rfl rfl (dtrue hc41) rfl ?_)
      refine r_nil ?_
      refine g_true rfl ?_
      refine g_seq ?_
      refine g_region ?_
      refine r_cons (s_move (.pointer (some ⟨b, 0, none⟩)) rfl rfl ?_)
      refine r_cons (s_move (.slice pp5 R.length cc6) rfl rfl ?_)
      refine r_cons (s_nilCheck (.pointer (some ⟨b, 0, none⟩)) rfl ⟨_, rfl⟩ rfl ?_)
      refine r_cons (s_fieldAddr 83 0 0 0 50 rfl fi_83_0 rfl rfl ?_)
      refine r_cons (s_store H40 1 (.slice pp5 R.length cc6) rfl rfl rfl sz_50 rfl (Nat.le_of_ble_eq_true rfl) rfl (cs' := #[.slice pp5 R.length cc6]) rfl ?_); intro w42 H43
      refine r_nil ?_
      refine g_seq ?_
      refine g_region ?_
      refine r_cons (s_assign (.string ByteArray.empty) rfl rfl ?_)
      refine r_cons (s_assign (.int .i64 10) rfl rfl ?_)
      refine r_nil ?_
      refine g_ret' [.string ByteArray.empty, .int .i64 10] Try.func106 Try.results106 ⟨rfl, rfl, trivial⟩ ?_
      have H44 : St W w42 (blk b (.cells #[.slice pp5 R.length cc6] 83 (0, 0)) :: Im 1 (.slice pp5 R.length cc6) R.length (R.flatMap blc) :: Im 1 (.slice pp28 ((R.drop (natN R)).length) cc29) ((R.drop (natN R)).length) ((R.drop (natN R)).flatMap blc) :: (F.set i emp)) := ((((H43.move 2 rfl).move 3 rfl).move 3 rfl).drop 3 rfl)
      have H45 : St W w42 (RSrc b R :: Im 1 (.slice pp28 ((R.drop (natN R)).length) cc29) ((R.drop (natN R)).length) ((R.drop (natN R)).flatMap blc) :: (F.set i emp)) := St.shut_ex (.slice pp5 R.length cc6) (St.shut_star (ls := [blk b (.cells #[.slice pp5 R.length cc6] 83 (0, 0)), Im 1 (.slice pp5 R.length cc6) R.length (R.flatMap blc)]) H44)
      have H46 : St W w42 (RSrc b R :: (F.set i emp)) := (H45.drop 1 rfl)
      have hT : textE R = 10 := textE_10 (by assumption) (by omega)
      have hT0 : ¬ textE R = 0 := by rw [hT]; first | assumption | decide
      exact ⟨by rw [textS_0 hT0, hT]; rfl, by rw [textN_no hT0, List.drop_zero]; exact St.back hi H46⟩
    · skip
      refine r_cons (s_gtr false rfl rfl (dfalse hc41) rfl ?_)
      refine r_nil ?_
      refine g_false rfl ?_
      refine g_skip ?_
      refine g_seq ?_
      refine g_region ?_
      refine r_cons (s_assign (.slice none 0 0) rfl rfl ?_)
      refine r_nil ?_
      refine g_seq ?_
      refine g_seq ?_
      refine g_region ?_
      refine r_cons (s_assign (.int .u64 0) rfl rfl ?_)
      refine r_nil ?_
      refine g_block ?_
      have H47 : St W w21 (blk b (.cells #[.slice pp28 ((R.drop (natN R)).length) cc29] 83 (0, 0)) :: Im 1 (.slice pp28 ((R.drop (natN R)).length) cc29) ((R.drop (natN R)).length) ((R.drop (natN R)).flatMap blc) :: Im 1 (.slice pp5 R.length cc6) R.length (R.flatMap blc) :: (F.set i emp)) := ((((H40.move 3 rfl).move 3 rfl).move 3 rfl).drop 3 rfl)
      have H48 : St W w21 (RSrc b (R.drop (natN R)) :: Im 1 (.slice pp5 R.length cc6) R.length (R.flatMap blc) :: (F.set i emp)) := St.shut_ex (.slice pp28 ((R.drop (natN R)).length) cc29) (St.shut_star (ls := [blk b (.cells #[.slice pp28 ((R.drop (natN R)).length) cc29] 83 (0, 0)), Im 1 (.slice pp28 ((R.drop (natN R)).length) cc29) ((R.drop (natN R)).length) ((R.drop (natN R)).flatMap blc)]) H47)
      have H49 := Row.nil_intro H48 5 1
      have H50 : St W w21 (Row 5 1 (.slice none 0 0) 0 [] :: RSrc b (R.drop (natN R + 8 * 0)) :: Im 1 (.slice pp5 R.length cc6) R.length (R.flatMap blc) :: (F.set i emp)) := H49
      have H51 : St W w21 (Row 5 1 (.slice none 0 0) 0 [] :: RSrc b (R.drop (natN R + 8 * 0)) :: (F.set i emp)) := (((H50.move 1 rfl).move 1 rfl).drop 2 rfl)
      refine g_loop_inv (fun (x_ : Nat × (Option Addr) × Nat) => match x_ with | (j, pq, cq) => [(0, .pointer (some ⟨b, 0, none⟩)), (2, .string ByteArray.empty), (3, .int .i64 0), (5, .int .u64 (natU R : Int)), (7, .slice pq j cq), (8, .int .u64 (j : Int))]) (fun (x_ : Nat × (Option Addr) × Nat) w => match x_ with | (j, pq, cq) => (j ≤ natU R) ∧ St W w (Row 5 1 (.slice pq j cq) j (((List.range j).map (byteT R)).flatMap u8c) :: RSrc b (R.drop (natN R + 8 * j)) :: (F.set i emp))) (fun (x_ : Nat × (Option Addr) × Nat) => match x_ with | (j, pq, cq) => natU R - j) (0, none, 0) ?_ ?_ ?_
      · exact ⟨by first | rfl | exact vint (by omega), by first | rfl | exact vint (by omega), by first | rfl | exact vint (by omega), by first | rfl | exact vint (by omega), by first | rfl | exact vint (by omega), by first | rfl | exact vint (by omega), trivial⟩
      · exact ⟨(by omega), H51⟩
      · rintro ⟨j, pq, cq⟩ ρ52 w53 ⟨hj, H54⟩ nx55
        change Ends _ _ (upds ρ52 [(0, .pointer (some ⟨b, 0, none⟩)), (2, .string ByteArray.empty), (3, .int .i64 0), (5, .int .u64 (natU R : Int)), (7, .slice pq j cq), (8, .int .u64 (j : Int))]) w53
        refine g_seq ?_
        refine g_seq ?_
        refine g_region ?_
        refine r_cons (s_move (.int .u64 (j : Int)) rfl rfl ?_)
        refine r_cons (s_move (.int .u64 (natU R : Int)) rfl rfl ?_)
        by_cases hc56 : (j : Int) < (natU R : Int)
        · skip
          refine r_cons (s_lss true rfl rfl (dtrue hc56) rfl ?_)
          refine r_nil ?_
          refine g_true rfl ?_
          refine g_skip ?_
          refine g_seq ?_
          refine g_block ?_
          refine g_seq ?_
          refine g_region ?_
          refine r_cons (s_move (.pointer (some ⟨b, 0, none⟩)) rfl rfl ?_)
          have hL3 := List.length_drop (i := natN R + 8 * j) (l := R)
          have hE8 : srcE (R.drop (natN R + 8 * j)) 8 = 0 := srcE_0 (by omega) (by omega)
          have hN8 : srcN (R.drop (natN R + 8 * j)) 8 = 8 := srcN_0 hE8
          have hU8 : srcU (R.drop (natN R + 8 * j)) 8 < 256 := srcU_lt_pow (k := 8)
          have hB8 : byteT R j = UInt8.ofNat (srcU (R.drop (natN R + 8 * j)) 8) := by unfold byteT; rw [srcU_0 hE8]; rfl
          refine r_cons (s_call [.pointer (some ⟨b, 0, none⟩), .int .i64 8] pl_104 rfl rfl (RSrc_Bits b (R.drop (natN R + 8 * j)) 8  (i := 1) rfl H54) ?_)
          rintro _ w57 ⟨rfl, H58⟩
          refine r_cons (s_move (.tuple #[.int .u64 (srcU (R.drop (natN R + 8 * j)) 8 : Int), .int .i64 (srcE (R.drop (natN R + 8 * j)) 8)]) rfl rfl ?_)
          refine r_cons (s_extract (.int .u64 (srcU (R.drop (natN R + 8 * j)) 8 : Int)) #[.int .u64 (srcU (R.drop (natN R + 8 * j)) 8 : Int), .int .i64 (srcE (R.drop (natN R + 8 * j)) 8)] rfl rfl rfl ?_)
          refine r_cons (s_extract (.int .i64 (srcE (R.drop (natN R + 8 * j)) 8)) #[.int .u64 (srcU (R.drop (natN R + 8 * j)) 8 : Int), .int .i64 (srcE (R.drop (natN R + 8 * j)) 8)] rfl rfl rfl ?_)
          refine r_cons (s_assign (.int .u64 (srcU (R.drop (natN R + 8 * j)) 8 : Int)) rfl rfl ?_)
          refine r_cons (s_assign (.int .i64 (srcE (R.drop (natN R + 8 * j)) 8)) rfl rfl ?_)
          refine r_nil ?_
          refine g_region ?_
          refine r_cons (s_move (.slice pq j cq) rfl rfl ?_)
          refine r_cons (s_move (.int .u64 (srcU (R.drop (natN R + 8 * j)) 8 : Int)) rfl rfl ?_)
          refine r_cons (s_conv (srcU (R.drop (natN R + 8 * j)) 8 : Int) rfl us_62 ik_5 (wu8 (by omega)) rfl ?_)
          refine r_cons (s_buildSlice H58 1 1 (cs := #[.int .u8 (srcU (R.drop (natN R + 8 * j)) 8 : Int)]) #[.int .u8 0] el_66 ze_5 (by decide) (by decide) (by kernel_rfl) rfl ?_); intro bk59 w60 H61
          refine r_cons (s_append H61 1 rfl rfl rfl (rd_blk (H61.blk_at (i := 0) rfl) rfl (Nat.le_of_ble_eq_true rfl) (by simp [Value.oneCell'])) ap_66 (by decide) (by unfold maxLen; omega) (by omega) (n' := j + 1) (xs' := ((List.range (j + 1)).map (byteT R)).flatMap u8c) (by omega) (by rw [List.range_succ, List.map_append, List.flatMap_append]; congr 1; show [Value.int .u8 (srcU (R.drop (natN R + 8 * j)) 8 : Int)] = [Value.int .u8 ((byteT R j).toNat : Int)]; rw [hB8, u8_nat hU8]) rfl ?_); intro vv62 w63 H64 hn65
          obtain ⟨pp66, cc67, rfl⟩ := Row.slice H64 (i := 1) rfl
          refine r_cons (s_assign (.slice pp66 (j + 1) cc67) rfl rfl ?_)
          refine r_nil ?_
          refine g_inBlock ?_
          refine g_region ?_
          refine r_cons (s_move (.int .u64 (j : Int)) rfl rfl ?_)
          refine r_cons (s_add ((j : Int) + 1) rfl rfl (wu64 (by omega)) rfl ?_)
          refine r_cons (s_assign (.int .u64 ((j : Int) + 1)) rfl rfl ?_)
          refine r_nil ?_
          have H68 : St W w63 (blk bk59 (.cells #[.int .u8 (srcU (R.drop (natN R + 8 * j)) 8 : Int)] 5 (0, 0)) :: Row 5 1 (.slice pp66 (j + 1) cc67) (j + 1) (((List.range (j + 1)).map (byteT R)).flatMap u8c) :: RSrc b (R.drop (natN R + 8 * (j + 1))) :: (F.set i emp)) := by rw [show R.drop (natN R + 8 * (j + 1)) = (R.drop (natN R + 8 * j)).drop (srcN (R.drop (natN R + 8 * j)) 8) from by rw [hN8, List.drop_drop]; congr 1 <;> omega]; exact H64
          have H69 : St W w63 (Row 5 1 (.slice pp66 (j + 1) cc67) (j + 1) (((List.range (j + 1)).map (byteT R)).flatMap u8c) :: RSrc b (R.drop (natN R + 8 * (j + 1))) :: (F.set i emp)) := (((H68.move 2 rfl).move 2 rfl).drop 2 rfl)
          exact nx55 (j + 1, pp66, cc67) _ _ ⟨(by omega), H69⟩ (by first | (dsimp only; omega) | omega) ⟨by first | rfl | exact vint (by omega), by first | rfl | exact vint (by omega), by first | rfl | exact vint (by omega), by first | rfl | exact vint (by omega), by first | rfl | exact vint (by omega), by first | rfl | exact vint (by omega), trivial⟩
        · skip
          refine r_cons (s_lss false rfl rfl (dfalse hc56) rfl ?_)
          refine r_nil ?_
          refine g_false rfl ?_
          refine g_exit (by rfl) ?_
          refine g_seq ?_
          refine g_region ?_
          refine r_cons (s_move (.slice pq j cq) rfl rfl ?_)
          refine r_cons (s_bytes_str (xs := ((List.range j).map (byteT R))) rfl (by rw [bytesV_flat]; exact (Row.rd H54 (i := 0) rfl)) un_66 un_5 un_9 rfl ?_)
          refine r_cons (s_assign (.string (⟨(((List.range j).map (byteT R))).toArray⟩)) rfl rfl ?_)
          refine r_cons (s_assign (.int .i64 0) rfl rfl ?_)
          refine r_nil ?_
          refine g_ret' [.string (⟨(((List.range j).map (byteT R))).toArray⟩), .int .i64 0] Try.func106 Try.results106 ⟨rfl, rfl, trivial⟩ ?_
          have H70 : St W w53 (RSrc b (R.drop (natN R + 8 * j)) :: (F.set i emp)) := ((H54.move 1 rfl).drop 1 rfl)
          have hT : textE R = 0 := textE_0 (by assumption) (by omega)
          obtain rfl : j = natU R := by omega
          exact ⟨by rw [hT, show textS R = ⟨((List.range (natU R)).map (byteT R)).toArray⟩ from by unfold textS textBytes; rw [if_pos hT]]; rfl, by rw [textN_0 hT]; exact St.back hi H70⟩
  · skip
    refine r_cons (s_neq true rfl rfl (nfalse hc23) rfl ?_)
    refine r_nil ?_
    refine g_true rfl ?_
    refine g_seq ?_
    refine g_region ?_
    refine r_cons (s_move (.int .i64 (natE R)) rfl rfl ?_)
    refine r_cons (s_assign (.string ByteArray.empty) rfl rfl ?_)
    refine r_cons (s_assign (.int .i64 (natE R)) rfl rfl ?_)
    refine r_nil ?_
    refine g_ret' [.string ByteArray.empty, .int .i64 (natE R)] Try.func106 Try.results106 ⟨rfl, rfl, trivial⟩ ?_
    have H71 : St W w21 (RSrc b (R.drop (natN R)) :: (F.set i emp)) := (H22.drop 1 rfl)
    have hT : textE R = natE R := textE_nat (by assumption)
    have hT0 : ¬ textE R = 0 := by rw [hT]; first | assumption | decide
    exact ⟨by rw [textS_0 hT0, hT]; rfl, by rw [textN_no hT0, List.drop_zero]; have hx := H71; rw [natN_no (by assumption), List.drop_zero] at hx; exact St.back hi hx⟩
set_option maxHeartbeats 4000000 in
set_option maxRecDepth 100000 in
theorem RSrc_New {W w : World} {F : List Atom} (bs : List UInt8) (v0 : Value) (hb : bs.length ≤ 17592186044416) {j : Nat} (hj : F[j]? = some (Im 1 v0 bs.length (bs.flatMap u8c))) (H : St W w F) : Calls Try.prog 50 #[v0] w (Ret fun v w' => ∃ k, v = .pointer (some ⟨k, 0, none⟩) ∧ St W w' (RSrc k (bitsOf bs) :: F)) := by
  obtain ⟨pA1, cA2, gA3, oA4, kA5, eA6, zA7, rfl, hn8, hp9, hx10, hs11, hml, H12⟩ := Im.open_ H hj
  refine calls_of_go (n := 28) Try.func50 rfl Try.ntmps50 rfl ?_
  refine g_seq ?_
  refine g_region ?_
  refine r_cons (s_assign (.pointer none) rfl rfl ?_)
  refine r_nil ?_
  refine g_seq ?_
  refine g_region ?_
  refine r_cons (s_build (cs := #[.slice none 0 0]) (by kernel_rfl) rfl ?_)
  refine r_cons (s_box H12 83 (.agg #[.slice none 0 0]) rfl (cs := #[.slice none 0 0]) rfl rfl ?_); intro bk13 w14 H15
  refine r_cons (s_assign (.pointer (some ⟨bk13, 0, none⟩)) rfl rfl ?_)
  refine r_nil ?_
  refine g_seq ?_
  refine g_seq ?_
  refine g_region ?_
  refine r_cons (s_assign (.int .i64 0) rfl rfl ?_)
  refine r_nil ?_
  refine g_block ?_
  have H16 : St W w14 (blk bk13 (.cells #[.slice none 0 0] 83 (0, 0)) :: imi (0 < bs.length) gA3 (.cells kA5 eA6 zA7) :: F) := ((H15.move 1 rfl).move 1 rfl)
  have H17 := Row.nil_intro H16 4 1
  refine g_loop_inv (fun (x_ : Nat × (Option Addr) × Nat) => match x_ with | (j, pq, cq) => [(0, .slice pA1 bs.length cA2), (2, .pointer none), (3, .pointer (some ⟨bk13, 0, none⟩)), (4, .int .i64 (j : Int))]) (fun (x_ : Nat × (Option Addr) × Nat) w => match x_ with | (j, pq, cq) => (j ≤ bs.length) ∧ St W w (Row 4 1 (.slice pq (8 * j) cq) (8 * j) ((bitsOf (bs.take j)).flatMap blc) :: blk bk13 (.cells #[.slice pq (8 * j) cq] 83 (0, 0)) :: imi (0 < bs.length) gA3 (.cells kA5 eA6 zA7) :: F)) (fun (x_ : Nat × (Option Addr) × Nat) => match x_ with | (j, pq, cq) => bs.length - j) (0, none, 0) ?_ ?_ ?_
  · exact ⟨by first | rfl | exact vint (by omega), by first | rfl | exact vint (by omega), by first | rfl | exact vint (by omega), by first | rfl | exact vint (by omega), trivial⟩
  · exact ⟨(by omega), H17⟩
  · rintro ⟨j, pq, cq⟩ ρ18 w19 ⟨hj, H20⟩ nx21
    change Ends _ _ (upds ρ18 [(0, .slice pA1 bs.length cA2), (2, .pointer none), (3, .pointer (some ⟨bk13, 0, none⟩)), (4, .int .i64 (j : Int))]) w19
    have hlt := (bs.getD j 0).toNat_lt
    refine g_seq ?_
    refine g_seq ?_
    refine g_region ?_
    refine r_cons (s_move (.int .i64 (j : Int)) rfl rfl ?_)
    refine r_cons (s_move (.slice pA1 bs.length cA2) rfl rfl ?_)
    refine r_cons (s_len bs.length rfl ⟨_, un_66⟩ rfl ?_)
    by_cases hc22 : (j : Int) < (bs.length : Int)
    · skip
      refine r_cons (s_lss true rfl rfl (dtrue hc22) rfl ?_)
      refine r_nil ?_
      refine g_true rfl ?_
      refine g_skip ?_
      refine g_seq ?_
      refine g_block ?_
      refine g_cut (fun (x : Option Addr × Nat × Option Addr × Nat) => match x with | (pp23, cc24, pp31, cc32) => [(0, .slice pA1 bs.length cA2), (2, .pointer none), (3, .pointer (some ⟨bk13, 0, none⟩)), (4, .int .i64 (j : Int)), (7, .int .i64 (j : Int)), (8, .slice pA1 bs.length cA2), (9, .int .i64 (bs.length : Int)), (10, .bool true), (13, .pointer (some ⟨bk13, 0, none⟩)), (14, .pointer (some ⟨bk13, 0, none⟩)), (15, .pointer (some ⟨bk13, 0, none⟩)), (16, .pointer (some ⟨bk13, 0, none⟩)), (17, .slice pq (8 * j) cq), (18, .slice pA1 bs.length cA2), (19, .int .i64 (j : Int)), (20, .pointer (some ⟨gA3, oA4 + j * 1, none⟩)), (21, .int .u8 ((bs.getD j 0).toNat : Int)), (22, .int .u64 ((bs.getD j 0).toNat : Int)), (23, .slice pp23 8 cc24), (24, .slice pp31 (8 * (j + 1)) cc32), (25, .pointer (some ⟨bk13, 0, none⟩)), (26, .pointer (some ⟨bk13, 0, none⟩))]) (fun (x : Option Addr × Nat × Option Addr × Nat) w => match x with | (pp23, cc24, pp31, cc32) => St W w (Row 4 1 (.slice pp23 8 cc24) 8 ((lowB ((bs.getD j 0).toNat) 8).flatMap blc) :: Row 4 1 (.slice pp31 (8 * (j + 1)) cc32) (8 * (j + 1)) ((bitsOf (bs.take (j + 1))).flatMap blc) :: blk bk13 (.cells #[.slice pp31 (8 * (j + 1)) cc32] 83 (0, 0)) :: imi (0 < bs.length) gA3 (.cells kA5 eA6 zA7) :: F)) ?_ ?_
      · rintro ⟨pp23, cc24, pp31, cc32⟩ ρ26 w24 H25
        change Ends _ _ (upds ρ26 [(0, .slice pA1 bs.length cA2), (2, .pointer none), (3, .pointer (some ⟨bk13, 0, none⟩)), (4, .int .i64 (j : Int)), (7, .int .i64 (j : Int)), (8, .slice pA1 bs.length cA2), (9, .int .i64 (bs.length : Int)), (10, .bool true), (13, .pointer (some ⟨bk13, 0, none⟩)), (14, .pointer (some ⟨bk13, 0, none⟩)), (15, .pointer (some ⟨bk13, 0, none⟩)), (16, .pointer (some ⟨bk13, 0, none⟩)), (17, .slice pq (8 * j) cq), (18, .slice pA1 bs.length cA2), (19, .int .i64 (j : Int)), (20, .pointer (some ⟨gA3, oA4 + j * 1, none⟩)), (21, .int .u8 ((bs.getD j 0).toNat : Int)), (22, .int .u64 ((bs.getD j 0).toNat : Int)), (23, .slice pp23 8 cc24), (24, .slice pp31 (8 * (j + 1)) cc32), (25, .pointer (some ⟨bk13, 0, none⟩)), (26, .pointer (some ⟨bk13, 0, none⟩))]) w24
        refine g_inBlock ?_
        refine g_region ?_
        refine r_cons (s_move (.int .i64 (j : Int)) rfl rfl ?_)
        refine r_cons (s_add ((j : Int) + 1) rfl rfl (wi64 (by omega)) rfl ?_)
        refine r_cons (s_assign (.int .i64 ((j : Int) + 1)) rfl rfl ?_)
        refine r_nil ?_
        have H27 : St W w24 (Row 4 1 (.slice pp31 (8 * (j + 1)) cc32) (8 * (j + 1)) ((bitsOf (bs.take (j + 1))).flatMap blc) :: blk bk13 (.cells #[.slice pp31 (8 * (j + 1)) cc32] 83 (0, 0)) :: imi (0 < bs.length) gA3 (.cells kA5 eA6 zA7) :: F) := ((((H25.move 3 rfl).move 3 rfl).move 3 rfl).drop 3 rfl)
        exact nx21 (j + 1, pp31, cc32) _ _ ⟨(by omega), H27⟩ (by first | (dsimp only; omega) | omega) ⟨by first | rfl | exact vint (by omega), by first | rfl | exact vint (by omega), by first | rfl | exact vint (by omega), by first | rfl | exact vint (by omega), trivial⟩
      · intro join23
        refine g_any mixed 15 rfl ?_
        intro w28 hw29
        have H30 := H20.drew
        rw [← hw29] at H30
        clear hw29
        refine a_take 0 (listed' := #[true, false, false, false, false, false, false, false, false, false, false, false, false, false, false]) rfl (by kernel_rfl) (by kernel_rfl) (by kernel_rfl) rfl rfl rfl rfl (fun w => x_move (.pointer (some ⟨bk13, 0, none⟩)) rfl w) ?_
        refine a_take 1 (listed' := #[true, true, false, false, false, false, false, false, false, false, false, false, false, false, false]) rfl (by kernel_rfl) (by kernel_rfl) (by kernel_rfl) rfl rfl rfl rfl (fun w => x_move (.pointer (some ⟨bk13, 0, none⟩)) rfl w) ?_
        refine a_take 2 (listed' := #[true, true, true, false, false, false, false, false, false, false, false, false, false, false, false]) rfl (by kernel_rfl) (by kernel_rfl) (by kernel_rfl) rfl rfl rfl rfl (fun w => x_nilCheck (.pointer (some ⟨bk13, 0, none⟩)) rfl ⟨_, rfl⟩ w) ?_
        refine a_take 3 (listed' := #[true, true, true, true, false, false, false, false, false, false, false, false, false, false, false]) rfl (by kernel_rfl) (by kernel_rfl) (by kernel_rfl) rfl rfl rfl rfl (fun w => x_fieldAddr 83 0 0 0 50 rfl fi_83_0 rfl w) ?_
        refine a_take 5 (listed' := #[true, true, true, true, false, true, false, false, false, false, false, false, false, false, false]) rfl (by kernel_rfl) (by kernel_rfl) (by kernel_rfl) rfl rfl rfl rfl (fun w => x_move (.slice pA1 bs.length cA2) rfl w) ?_
        refine a_take 6 (listed' := #[true, true, true, true, false, true, true, false, false, false, false, false, false, false, false]) rfl (by kernel_rfl) (by kernel_rfl) (by kernel_rfl) rfl rfl rfl rfl (fun w => x_move (.int .i64 (j : Int)) rfl w) ?_
        refine a_take 7 (listed' := #[true, true, true, true, false, true, true, true, false, false, false, false, false, false, false]) rfl (by kernel_rfl) (by kernel_rfl) (by kernel_rfl) rfl rfl rfl rfl (fun w => x_indexAddr gA3 (off := oA4) (j : Int) 1 (oA4 + j * 1) (by exact congrArg (fun z_ => Value.slice z_ bs.length cA2) (hp9 (by omega))) rfl el_66 (by omega) rfl w) ?_
        refine a_all (rs := [4, 8]) (by kernel_rfl) (by simp) ?_
        refine a_cons ⟨_, rfl, ?_⟩ (a_cons ⟨_, rfl, ?_⟩ (fun x hx => absurd hx (by simp)))
        · skip
          refine s_load (.slice pq (8 * j) cq) ag_50 rfl (H30.blk_at (i := 1) rfl) rfl rfl ?_
          change AnyG _ _ _ _ #[true, true, true, true, true, true, true, true, false, false, false, false, false, false, false] _ _
          refine a_all (rs := [8]) (by kernel_rfl) (by simp) ?_
          refine a_cons ⟨_, rfl, ?_⟩ (fun x hx => absurd hx (by simp))
          refine s_load (.int .u8 ((bs.getD j 0).toNat : Int)) ag_5 rfl (H30.imi_at (i := 2) rfl (by omega)) (elem_cell (L := bs) (i := j) u8c_len (hx10 (by omega)) (by omega) 0 0 (by decide) _ rfl) rfl ?_
          change AnyG _ _ _ _ #[true, true, true, true, true, true, true, true, true, false, false, false, false, false, false] _ _
          refine a_take 9 (listed' := #[true, true, true, true, true, true, true, true, true, true, false, false, false, false, false]) rfl (by kernel_rfl) (by kernel_rfl) (by kernel_rfl) rfl rfl rfl rfl (fun w => x_conv ((bs.getD j 0).toNat : Int) rfl us_5 ik_62 (wu64 (by omega)) w) ?_
          refine a_all (rs := [10]) (by kernel_rfl) (by simp) ?_
          refine a_cons ⟨_, rfl, ?_⟩ (fun x hx => absurd hx (by simp))
          refine s_call [.int .u64 ((bs.getD j 0).toNat : Int), .int .i64 8] pl_43 rfl rfl (ref01_Low ((bs.getD j 0).toNat) 8 (by omega) (by omega) H30) ?_
          rintro _ w33 ⟨pp31, cc32, rfl, H34⟩
          change AnyG _ _ _ _ #[true, true, true, true, true, true, true, true, true, true, true, false, false, false, false] _ _
          refine a_all (rs := [11]) (by kernel_rfl) (by simp) ?_
          refine a_cons ⟨_, rfl, ?_⟩ (fun x hx => absurd hx (by simp))
          refine s_append H34 1 rfl rfl rfl (Row.rd H34 (i := 0) rfl) ap_50 (by decide) (by unfold maxLen; omega) (by omega) (n' := 8 * (j + 1)) (xs' := (bitsOf (bs.take (j + 1))).flatMap blc) (by omega) (by rw [bitsOf_take (by omega)]; exact List.flatMap_append.symm) rfl ?_; intro vv35 w36 H37 hn38
          obtain ⟨pp39, cc40, rfl⟩ := Row.slice H37 (i := 1) rfl
          change AnyG _ _ _ _ #[true, true, true, true, true, true, true, true, true, true, true, true, false, false, false] _ _
          refine a_take 12 (listed' := #[true, true, true, true, true, true, true, true, true, true, true, true, true, false, false]) rfl (by kernel_rfl) (by kernel_rfl) (by kernel_rfl) rfl rfl rfl rfl (fun w => x_nilCheck (.pointer (some ⟨bk13, 0, none⟩)) rfl ⟨_, rfl⟩ w) ?_
          refine a_take 13 (listed' := #[true, true, true, true, true, true, true, true, true, true, true, true, true, true, false]) rfl (by kernel_rfl) (by kernel_rfl) (by kernel_rfl) rfl rfl rfl rfl (fun w => x_fieldAddr 83 0 0 0 50 rfl fi_83_0 rfl w) ?_
          refine a_all (rs := [14]) (by kernel_rfl) (by simp) ?_
          refine a_cons ⟨_, rfl, ?_⟩ (fun x hx => absurd hx (by simp))
          refine s_store H37 2 (.slice pp39 (8 * (j + 1)) cc40) rfl rfl rfl sz_50 rfl (Nat.le_of_ble_eq_true rfl) rfl (cs' := #[.slice pp39 (8 * (j + 1)) cc40]) rfl ?_; intro w41 H42
          change AnyG _ _ _ _ #[true, true, true, true, true, true, true, true, true, true, true, true, true, true, true] _ _
          refine a_done (by kernel_rfl) ?_
          exact join23 (pp31, cc32, pp39, cc40) _ _ H42 ⟨rfl, rfl, rfl, rfl, rfl, rfl, rfl, rfl, rfl, rfl, rfl, rfl, rfl, rfl, rfl, rfl, rfl, rfl, rfl, rfl, rfl, rfl, trivial⟩
        · skip
          refine s_load (.int .u8 ((bs.getD j 0).toNat : Int)) ag_5 rfl (H30.imi_at (i := 2) rfl (by omega)) (elem_cell (L := bs) (i := j) u8c_len (hx10 (by omega)) (by omega) 0 0 (by decide) _ rfl) rfl ?_
          change AnyG _ _ _ _ #[true, true, true, true, false, true, true, true, true, false, false, false, false, false, false] _ _
          refine a_take 9 (listed' := #[true, true, true, true, false, true, true, true, true, true, false, false, false, false, false]) rfl (by kernel_rfl) (by kernel_rfl) (by kernel_rfl) rfl rfl rfl rfl (fun w => x_conv ((bs.getD j 0).toNat : Int) rfl us_5 ik_62 (wu64 (by omega)) w) ?_
          refine a_all (rs := [4, 10]) (by kernel_rfl) (by simp) ?_
          refine a_cons ⟨_, rfl, ?_⟩ (a_cons ⟨_, rfl, ?_⟩ (fun x hx => absurd hx (by simp)))
          · skip
            refine s_load (.slice pq (8 * j) cq) ag_50 rfl (H30.blk_at (i := 1) rfl) rfl rfl ?_
            change AnyG _ _ _ _ #[true, true, true, true, true, true, true, true, true, true, false, false, false, false, false] _ _
            refine a_all (rs := [10]) (by kernel_rfl) (by simp) ?_
            refine a_cons ⟨_, rfl, ?_⟩ (fun x hx => absurd hx (by simp))
            refine s_call [.int .u64 ((bs.getD j 0).toNat : Int), .int .i64 8] pl_43 rfl rfl (ref01_Low ((bs.getD j 0).toNat) 8 (by omega) (by omega) H30) ?_
            rintro _ w45 ⟨pp43, cc44, rfl, H46⟩
            change AnyG _ _ _ _ #[true, true, true, true, true, true, true, true, true, true, true, false, false, false, false] _ _
            refine a_all (rs := [11]) (by kernel_rfl) (by simp) ?_
            refine a_cons ⟨_, rfl, ?_⟩ (fun x hx => absurd hx (by simp))
            refine s_append H46 1 rfl rfl rfl (Row.rd H46 (i := 0) rfl) ap_50 (by decide) (by unfold maxLen; omega) (by omega) (n' := 8 * (j + 1)) (xs' := (bitsOf (bs.take (j + 1))).flatMap blc) (by omega) (by rw [bitsOf_take (by omega)]; exact List.flatMap_append.symm) rfl ?_; intro vv47 w48 H49 hn50
            obtain ⟨pp51, cc52, rfl⟩ := Row.slice H49 (i := 1) rfl
            change AnyG _ _ _ _ #[true, true, true, true, true, true, true, true, true, true, true, true, false, false, false] _ _
            refine a_take 12 (listed' := #[true, true, true, true, true, true, true, true, true, true, true, true, true, false, false]) rfl (by kernel_rfl) (by kernel_rfl) (by kernel_rfl) rfl rfl rfl rfl (fun w => x_nilCheck (.pointer (some ⟨bk13, 0, none⟩)) rfl ⟨_, rfl⟩ w) ?_
            refine a_take 13 (listed' := #[true, true, true, true, true, true, true, true, true, true, true, true, true, true, false]) rfl (by kernel_rfl) (by kernel_rfl) (by kernel_rfl) rfl rfl rfl rfl (fun w => x_fieldAddr 83 0 0 0 50 rfl fi_83_0 rfl w) ?_
            refine a_all (rs := [14]) (by kernel_rfl) (by simp) ?_
            refine a_cons ⟨_, rfl, ?_⟩ (fun x hx => absurd hx (by simp))
            refine s_store H49 2 (.slice pp51 (8 * (j + 1)) cc52) rfl rfl rfl sz_50 rfl (Nat.le_of_ble_eq_true rfl) rfl (cs' := #[.slice pp51 (8 * (j + 1)) cc52]) rfl ?_; intro w53 H54
            change AnyG _ _ _ _ #[true, true, true, true, true, true, true, true, true, true, true, true, true, true, true] _ _
            refine a_done (by kernel_rfl) ?_
            exact join23 (pp43, cc44, pp51, cc52) _ _ H54 ⟨rfl, rfl, rfl, rfl, rfl, rfl, rfl, rfl, rfl, rfl, rfl, rfl, rfl, rfl, rfl, rfl, rfl, rfl, rfl, rfl, rfl, rfl, trivial⟩
          · skip
            refine s_call [.int .u64 ((bs.getD j 0).toNat : Int), .int .i64 8] pl_43 rfl rfl (ref01_Low ((bs.getD j 0).toNat) 8 (by omega) (by omega) H30) ?_
            rintro _ w57 ⟨pp55, cc56, rfl, H58⟩
            change AnyG _ _ _ _ #[true, true, true, true, false, true, true, true, true, true, true, false, false, false, false] _ _
            refine a_all (rs := [4]) (by kernel_rfl) (by simp) ?_
            refine a_cons ⟨_, rfl, ?_⟩ (fun x hx => absurd hx (by simp))
            refine s_load (.slice pq (8 * j) cq) ag_50 rfl (H58.blk_at (i := 2) rfl) rfl rfl ?_
            change AnyG _ _ _ _ #[true, true, true, true, true, true, true, true, true, true, true, false, false, false, false] _ _
            refine a_all (rs := [11]) (by kernel_rfl) (by simp) ?_
            refine a_cons ⟨_, rfl, ?_⟩ (fun x hx => absurd hx (by simp))
            refine s_append H58 1 rfl rfl rfl (Row.rd H58 (i := 0) rfl) ap_50 (by decide) (by unfold maxLen; omega) (by omega) (n' := 8 * (j + 1)) (xs' := (bitsOf (bs.take (j + 1))).flatMap blc) (by omega) (by rw [bitsOf_take (by omega)]; exact List.flatMap_append.symm) rfl ?_; intro vv59 w60 H61 hn62
            obtain ⟨pp63, cc64, rfl⟩ := Row.slice H61 (i := 1) rfl
            change AnyG _ _ _ _ #[true, true, true, true, true, true, true, true, true, true, true, true, false, false, false] _ _
            refine a_take 12 (listed' := #[true, true, true, true, true, true, true, true, true, true, true, true, true, false, false]) rfl (by kernel_rfl) (by kernel_rfl) (by kernel_rfl) rfl rfl rfl rfl (fun w => x_nilCheck (.pointer (some ⟨bk13, 0, none⟩)) rfl ⟨_, rfl⟩ w) ?_
            refine a_take 13 (listed' := #[true, true, true, true, true, true, true, true, true, true, true, true, true, true, false]) rfl (by kernel_rfl) (by kernel_rfl) (by kernel_rfl) rfl rfl rfl rfl (fun w => x_fieldAddr 83 0 0 0 50 rfl fi_83_0 rfl w) ?_
            refine a_all (rs := [14]) (by kernel_rfl) (by simp) ?_
            refine a_cons ⟨_, rfl, ?_⟩ (fun x hx => absurd hx (by simp))
            refine s_store H61 2 (.slice pp63 (8 * (j + 1)) cc64) rfl rfl rfl sz_50 rfl (Nat.le_of_ble_eq_true rfl) rfl (cs' := #[.slice pp63 (8 * (j + 1)) cc64]) rfl ?_; intro w65 H66
            change AnyG _ _ _ _ #[true, true, true, true, true, true, true, true, true, true, true, true, true, true, true] _ _
            refine a_done (by kernel_rfl) ?_
            exact join23 (pp55, cc56, pp63, cc64) _ _ H66 ⟨rfl, rfl, rfl, rfl, rfl, rfl, rfl, rfl, rfl, rfl, rfl, rfl, rfl, rfl, rfl, rfl, rfl, rfl, rfl, rfl, rfl, rfl, trivial⟩
    · skip
      refine r_cons (s_lss false rfl rfl (dfalse hc22) rfl ?_)
      refine r_nil ?_
      refine g_false rfl ?_
      refine g_exit (by rfl) ?_
      refine g_seq ?_
      refine g_region ?_
      refine r_cons (s_move (.pointer (some ⟨bk13, 0, none⟩)) rfl rfl ?_)
      refine r_cons (s_assign (.pointer (some ⟨bk13, 0, none⟩)) rfl rfl ?_)
      refine r_nil ?_
      refine g_ret' [.pointer (some ⟨bk13, 0, none⟩)] Try.func50 Try.results50 ⟨rfl, trivial⟩ ?_
      have H67 : St W w19 (blk bk13 (.cells #[.slice pq (8 * j) cq] 83 (0, 0)) :: Row 4 1 (.slice pq (8 * j) cq) (8 * j) ((bitsOf (bs.take j)).flatMap blc) :: F) := ((H20.move 1 rfl).drop 2 rfl)
      have H68 := Row.im H67 (i := 1) rfl
      obtain rfl : j = bs.length := by omega
      have H69 : St W w19 (blk bk13 (.cells #[.slice pq (8 * bs.length) cq] 83 (0, 0)) :: Im 1 (.slice pq (8 * bs.length) cq) (bitsOf (bs.take bs.length)).length ((bitsOf (bs.take bs.length)).flatMap blc) :: F) := by rw [show (bitsOf (bs.take bs.length)).length = 8 * bs.length from by rw [List.take_length, bitsOf_len]]; exact H68
      refine ⟨bk13, rfl, ?_⟩
      have hy : St W w19 (RSrc bk13 (bitsOf (bs.take bs.length)) :: F) := St.shut_ex (.slice pq (8 * bs.length) cq) (St.shut_star (ls := [blk bk13 (.cells #[.slice pq (8 * bs.length) cq] 83 (0, 0)), Im 1 (.slice pq (8 * bs.length) cq) (bitsOf (bs.take bs.length)).length ((bitsOf (bs.take bs.length)).flatMap blc)]) H69)
      rw [List.take_length] at hy
      exact hy
set_option maxHeartbeats 4000000 in
set_option maxRecDepth 100000 in
theorem ev_keep {W w : World} {F : List Atom} (r b : Nat) (x y : Int) {i : Nat} (hi : F[i]? = some (blk r (.cells #[.pointer (some ⟨b, 0, none⟩), .int .i64 x] 126 (0, 0)))) (H : St W w F) : Calls Try.prog 102 #[.pointer (some ⟨r, 0, none⟩), .int .i64 y] w (Ret fun v w' => v = .tuple #[] ∧ St W w' (F.set i (blk r (.cells #[.pointer (some ⟨b, 0, none⟩), .int .i64 (if x = 0 then y else x)] 126 (0, 0))))) := by
  have H0 := H.front hi
  refine calls_of_go (n := 13) Try.func102 rfl Try.ntmps102 rfl ?_
  refine g_seq ?_
  refine g_region ?_
  refine r_cons (s_move (.pointer (some ⟨r, 0, none⟩)) rfl rfl ?_)
  refine r_cons (s_nilCheck (.pointer (some ⟨r, 0, none⟩)) rfl ⟨_, rfl⟩ rfl ?_)
  refine r_cons (s_fieldAddr 126 1 1 1 24 rfl fi_126_1 rfl rfl ?_)
  refine r_cons (s_load (.int .i64 x) ag_24 rfl (H0.blk_at (i := 0) rfl) rfl rfl ?_)
  by_cases hc1 : x = 0
  · skip
    refine r_cons (s_eql true rfl rfl (dtrue hc1) rfl ?_)
    refine r_nil ?_
    refine g_true rfl ?_
    refine g_region ?_
    refine r_cons (s_move (.pointer (some ⟨r, 0, none⟩)) rfl rfl ?_)
    refine r_cons (s_move (.int .i64 y) rfl rfl ?_)
    refine r_cons (s_nilCheck (.pointer (some ⟨r, 0, none⟩)) rfl ⟨_, rfl⟩ rfl ?_)
    refine r_cons (s_fieldAddr 126 1 1 1 24 rfl fi_126_1 rfl rfl ?_)
    refine r_cons (s_store H0 0 (.int .i64 y) rfl rfl rfl sz_24 rfl (Nat.le_of_ble_eq_true rfl) rfl (cs' := #[.pointer (some ⟨b, 0, none⟩), .int .i64 y]) rfl ?_); intro w2 H3
    refine r_nil ?_
    refine g_end' [] Try.func102 Try.results102 trivial ?_
    have H4 : St W w2 (blk r (.cells #[.pointer (some ⟨b, 0, none⟩), .int .i64 y] 126 (0, 0)) :: (F.set i emp)) := H3
    exact ⟨rfl, by rw [if_pos hc1]; exact St.back hi H4⟩
  · skip
    refine r_cons (s_eql false rfl rfl (dfalse hc1) rfl ?_)
    refine r_nil ?_
    refine g_false rfl ?_
    refine g_skip ?_
    refine g_end' [] Try.func102 Try.results102 trivial ?_
    have H5 : St W w (blk r (.cells #[.pointer (some ⟨b, 0, none⟩), .int .i64 x] 126 (0, 0)) :: (F.set i emp)) := H0
    exact ⟨rfl, by rw [if_neg hc1]; exact St.back hi H5⟩
end Sl
