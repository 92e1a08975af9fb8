/- Walks of the program's functions. Printed by a program of this claim's author. No condition. -/
import Derived.Test.YtheggchlcpafmaaSlQ
import Derived.Test.YtheggchlcpafmaaSlI
import Derived.Test.YtheggchlcpafmaaSlP
import Derived.Test.YtheggchlcpafmaaProg
import Derived.Test.YtheggchlcpafmaaWalkEventFull0
namespace Sl
open _root_.Go _root_.Go.RowKit _root_.Go.Proofs
set_option linter.all false
set_option maxHeartbeats 4000000 in
set_option maxRecDepth 100000 in
theorem Sink_put {W w : World} {F : List Atom} (b : Nat) (L : List Bool) (x : Bool) (hb : L.length ≤ 1099511627776) {i : Nat} (hi : F[i]? = some (SinkA b L)) (H : St W w F) : Calls Try.prog 92 #[.pointer (some ⟨b, 0, none⟩), .bool x] w (Ret fun v w' => v = .tuple #[] ∧ St W w' (F.set i (SinkA b (L ++ [x])))) := by
  have H0 := H.front hi
  refine calls_of_go (n := 46) Try.func92 rfl Try.ntmps92 rfl ?_
  refine g_seq ?_
  refine g_seq ?_
  refine g_region ?_
  refine r_cons (s_move (.pointer (some ⟨b, 0, none⟩)) rfl rfl ?_)
  refine r_cons (s_nilCheck (.pointer (some ⟨b, 0, none⟩)) rfl ⟨_, rfl⟩ rfl ?_)
  refine r_cons (s_fieldAddr 111 2 2 2 3 rfl fi_111_2 rfl rfl ?_)
  have H1 := H0.move 0 rfl
  obtain ⟨vv2, H3⟩ := St.open_ex H1
  have H4 := St.open_star H3
  obtain ⟨pp5, cc6, rfl⟩ := Row.slice (i := 1) H4 rfl
  have H7 : St W w (blk b (.cells #[.bool true, .slice pp5 ((L.length + 7) / 8) cc6, .int .i64 (L.length : Int)] 111 (0, 0)) :: Row 5 1 (.slice pp5 ((L.length + 7) / 8) cc6) ((L.length + 7) / 8) ((pk L).flatMap u8c) :: (F.set i emp)) := H4
  refine r_cons (s_load (.int .i64 (L.length : Int)) ag_3 rfl (H7.blk_at (i := 0) rfl) rfl rfl ?_)
  refine r_cons (s_rem ((L.length : Int) % 8) rfl rfl (by omega) (tmod_pos (by omega)) rfl ?_)
  by_cases hc8 : (L.length : Int) % 8 = 0
  · skip
    refine r_cons (s_eql true rfl rfl (dtrue hc8) rfl ?_)
    refine r_nil ?_
    refine g_true rfl ?_
    refine g_region ?_
    refine r_cons (s_move (.pointer (some ⟨b, 0, none⟩)) rfl rfl ?_)
    refine r_cons (s_move (.pointer (some ⟨b, 0, none⟩)) rfl rfl ?_)
    refine r_cons (s_nilCheck (.pointer (some ⟨b, 0, none⟩)) rfl ⟨_, rfl⟩ rfl ?_)
    refine r_cons (s_fieldAddr 111 1 1 1 66 rfl fi_111_1 rfl rfl ?_)
    refine r_cons (s_load (.slice pp5 ((L.length + 7) / 8) cc6) ag_66 rfl (H7.blk_at (i := 0) rfl) rfl rfl ?_)
    refine r_cons (s_buildSlice H7 1 1 (cs := #[.int .u8 0]) #[.int .u8 0] el_66 ze_5 (by decide) (by decide) (by kernel_rfl) rfl ?_); intro bk9 w10 H11
    refine r_cons (s_append H11 2 rfl rfl rfl (rd_blk (H11.blk_at (i := 0) rfl) rfl (Nat.le_of_ble_eq_true rfl) (by simp [Value.oneCell'])) ap_66 (by decide) (by unfold maxLen; omega) (by omega) (n' := L.length / 8 + 1) (xs' := (pkp L).flatMap u8c) (by omega) (by rw [pkp_new L (by omega), flat_snoc]; rfl) rfl ?_); intro vv12 w13 H14 hn15
    obtain ⟨pp16, cc17, rfl⟩ := Row.slice H14 (i := 2) rfl
    refine r_cons (s_nilCheck (.pointer (some ⟨b, 0, none⟩)) rfl ⟨_, rfl⟩ rfl ?_)
    refine r_cons (s_fieldAddr 111 1 1 1 66 rfl fi_111_1 rfl rfl ?_)
    refine r_cons (s_store H14 1 (.slice pp16 (L.length / 8 + 1) cc17) rfl rfl rfl sz_66 rfl (Nat.le_of_ble_eq_true rfl) rfl (cs' := #[.bool true, .slice pp16 (L.length / 8 + 1) cc17, .int .i64 (L.length : Int)]) rfl ?_); intro w18 H19
    refine r_nil ?_
    refine g_seq ?_
    refine g_seq ?_
    refine g_region ?_
    obtain ⟨bk20, cur21, hp22, h23, h24, h25, h26, h27, H28⟩ := Row.open2 H19 (i := 2) rfl (by omega)
    refine r_cons (s_move (.bool x) rfl rfl ?_)
    refine r_nil ?_
    by_cases hb29 : (x) = true
    · skip
      refine g_true (congrArg Value.bool hb29) ?_
      refine g_mix (fun t_ w => St W w (blk bk9 (.cells #[.int .u8 0] 5 (0, 0)) :: blk b (.cells #[.bool true, .slice pp16 (L.length / 8 + 1) cc17, .int .i64 (L.length : Int)] 111 (0, 0)) :: t_)) (blk bk20 (.cells cur21 5 (0, 0)) :: (F.set i emp)) mixed 20 rfl H28.drew ?_
      refine f_first 0 (listed' := #[true, false, false, false, false, false, false, false, false, false, false, false, false, false, false, false, false, false, false, false]) rfl (by kernel_rfl) (by kernel_rfl) (by kernel_rfl) rfl ?_
      refine f_val rfl rfl rfl (by intro t_ w hw; exact x_move (.pointer (some ⟨b, 0, none⟩)) rfl w) ?_
      refine f_first 1 (listed' := #[true, true, false, false, false, false, false, false, false, false, false, false, false, false, false, false, false, false, false, false]) rfl (by kernel_rfl) (by kernel_rfl) (by kernel_rfl) rfl ?_
      refine f_val rfl rfl rfl (by intro t_ w hw; exact x_nilCheck (.pointer (some ⟨b, 0, none⟩)) rfl ⟨_, rfl⟩ w) ?_
      refine f_first 2 (listed' := #[true, true, true, false, false, false, false, false, false, false, false, false, false, false, false, false, false, false, false, false]) rfl (by kernel_rfl) (by kernel_rfl) (by kernel_rfl) rfl ?_
      refine f_val rfl rfl rfl (by intro t_ w hw; exact x_fieldAddr 111 1 1 1 66 rfl fi_111_1 rfl w) ?_
      refine f_first 3 (listed' := #[true, true, true, true, false, false, false, false, false, false, false, false, false, false, false, false, false, false, false, false]) rfl (by kernel_rfl) (by kernel_rfl) (by kernel_rfl) rfl ?_
      refine f_val rfl rfl rfl (by intro t_ w hw; exact x_load (.slice pp16 (L.length / 8 + 1) cc17) ag_66 rfl (hw.blk_at (i := 1) rfl) rfl) ?_
      refine f_first 4 (listed' := #[true, true, true, true, true, false, false, false, false, false, false, false, false, false, false, false, false, false, false, false]) rfl (by kernel_rfl) (by kernel_rfl) (by kernel_rfl) rfl ?_
      refine f_val rfl rfl rfl (by intro t_ w hw; exact x_move (.pointer (some ⟨b, 0, none⟩)) rfl w) ?_
      refine f_first 5 (listed' := #[true, true, true, true, true, true, false, false, false, false, false, false, false, false, false, false, false, false, false, false]) rfl (by kernel_rfl) (by kernel_rfl) (by kernel_rfl) rfl ?_
      refine f_val rfl rfl rfl (by intro t_ w hw; exact x_nilCheck (.pointer (some ⟨b, 0, none⟩)) rfl ⟨_, rfl⟩ w) ?_
      refine f_first 6 (listed' := #[true, true, true, true, true, true, true, false, false, false, false, false, false, false, false, false, false, false, false, false]) rfl (by kernel_rfl) (by kernel_rfl) (by kernel_rfl) rfl ?_
      refine f_val rfl rfl rfl (by intro t_ w hw; exact x_fieldAddr 111 2 2 2 3 rfl fi_111_2 rfl w) ?_
      refine f_first 7 (listed' := #[true, true, true, true, true, true, true, true, false, false, false, false, false, false, false, false, false, false, false, false]) rfl (by kernel_rfl) (by kernel_rfl) (by kernel_rfl) rfl ?_
      refine f_val rfl rfl rfl (by intro t_ w hw; exact x_load (.int .i64 (L.length : Int)) ag_3 rfl (hw.blk_at (i := 1) rfl) rfl) ?_
      refine f_first 8 (listed' := #[true, true, true, true, true, true, true, true, true, false, false, false, false, false, false, false, false, false, false, false]) rfl (by kernel_rfl) (by kernel_rfl) (by kernel_rfl) rfl ?_
      refine f_val rfl rfl rfl (by intro t_ w hw; exact x_quo ((L.length : Int) / 8) rfl rfl (by omega) (by rw [tdiv_pos (by omega)]; exact wi64 (by omega)) w) ?_
      refine f_first 9 (listed' := #[true, true, true, true, true, true, true, true, true, true, false, false, false, false, false, false, false, false, false, false]) rfl (by kernel_rfl) (by kernel_rfl) (by kernel_rfl) rfl ?_
      refine f_val rfl rfl rfl (by intro t_ w hw; exact x_indexAddr bk20 (off := 0) ((L.length : Int) / 8) 1 (0 + (L.length / 8) * 1) (by exact congrArg (fun z_ => Value.slice z_ (L.length / 8 + 1) cc17) ((fun (_ : 0 < 1) => hp22) (by omega))) rfl el_66 (by omega) (by rw [show ((L.length : Int) / 8 : Int).toNat = L.length / 8 from by omega]) w) ?_
      refine f_first 11 (listed' := #[true, true, true, true, true, true, true, true, true, true, false, true, false, false, false, false, false, false, false, false]) rfl (by kernel_rfl) (by kernel_rfl) (by kernel_rfl) rfl ?_
      refine f_val rfl rfl rfl (by intro t_ w hw; exact x_move (.pointer (some ⟨b, 0, none⟩)) rfl w) ?_
      refine f_first 12 (listed' := #[true, true, true, true, true, true, true, true, true, true, false, true, true, false, false, false, false, false, false, false]) rfl (by kernel_rfl) (by kernel_rfl) (by kernel_rfl) rfl ?_
      refine f_val rfl rfl rfl (by intro t_ w hw; exact x_nilCheck (.pointer (some ⟨b, 0, none⟩)) rfl ⟨_, rfl⟩ w) ?_
      refine f_first 13 (listed' := #[true, true, true, true, true, true, true, true, true, true, false, true, true, true, false, false, false, false, false, false]) rfl (by kernel_rfl) (by kernel_rfl) (by kernel_rfl) rfl ?_
      refine f_val rfl rfl rfl (by intro t_ w hw; exact x_fieldAddr 111 2 2 2 3 rfl fi_111_2 rfl w) ?_
      refine f_first 14 (listed' := #[true, true, true, true, true, true, true, true, true, true, false, true, true, true, true, false, false, false, false, false]) rfl (by kernel_rfl) (by kernel_rfl) (by kernel_rfl) rfl ?_
      refine f_val rfl rfl rfl (by intro t_ w hw; exact x_load (.int .i64 (L.length : Int)) ag_3 rfl (hw.blk_at (i := 1) rfl) rfl) ?_
      refine f_first 15 (listed' := #[true, true, true, true, true, true, true, true, true, true, false, true, true, true, true, true, false, false, false, false]) rfl (by kernel_rfl) (by kernel_rfl) (by kernel_rfl) rfl ?_
      refine f_val rfl rfl rfl (by intro t_ w hw; exact x_rem ((L.length : Int) % 8) rfl rfl (by omega) (tmod_pos (by omega)) w) ?_
      refine f_first 16 (listed' := #[true, true, true, true, true, true, true, true, true, true, false, true, true, true, true, true, true, false, false, false]) rfl (by kernel_rfl) (by kernel_rfl) (by kernel_rfl) rfl ?_
      refine f_val rfl rfl rfl (by intro t_ w hw; exact x_shr ((2 ^ (7 - L.length % 8) : Nat) : Int) rfl rfl (by omega) (shr128 L.length (by omega)) w) ?_
      refine f_all (rs := [10]) (by kernel_rfl) (by simp) ?_
      refine a_cons ⟨_, rfl, ?_⟩ (fun x hx => absurd hx (by simp))
      intro w30 H31
      try dsimp only at H31
      refine s_load (.int .u8 (((pkp L).getD (L.length / 8) 0).toNat : Int)) ag_5 rfl (H31.blk_at (i := 2) rfl) (elem_cell u8c_len (by rw [pkp_len L]; exact h26) (by have hh : (pkp L).length = L.length / 8 + 1 := pkp_len L; omega) 0 0 (by decide) _ rfl) rfl ?_
      refine ⟨blk bk20 (.cells cur21 5 (0, 0)) :: (F.set i emp), ?_, H31⟩
      change FReg _ _ _ _ _ #[true, true, true, true, true, true, true, true, true, true, true, true, true, true, true, true, true, false, false, false] _ _
      refine f_first 17 (listed' := #[true, true, true, true, true, true, true, true, true, true, true, true, true, true, true, true, true, true, false, false]) rfl (by kernel_rfl) (by kernel_rfl) (by kernel_rfl) rfl ?_
      refine f_val rfl rfl rfl (by intro t_ w hw; exact x_or ((byteN L (L.length / 8) + 2 ^ (7 - L.length % 8) : Nat) : Int) rfl rfl (or_put L) w) ?_
      refine f_first 18 (listed' := #[true, true, true, true, true, true, true, true, true, true, true, true, true, true, true, true, true, true, true, false]) rfl (by kernel_rfl) (by kernel_rfl) (by kernel_rfl) rfl ?_
      refine f_val rfl rfl rfl (by intro t_ w hw; exact x_indexAddr bk20 (off := 0) ((L.length : Int) / 8) 1 (0 + (L.length / 8) * 1) (by exact congrArg (fun z_ => Value.slice z_ (L.length / 8 + 1) cc17) ((fun (_ : 0 < 1) => hp22) (by omega))) rfl el_66 (by omega) (by rw [show ((L.length : Int) / 8 : Int).toNat = L.length / 8 from by omega]) w) ?_
      refine f_all (rs := [19]) (by kernel_rfl) (by simp) ?_
      refine a_cons ⟨_, rfl, ?_⟩ (fun x hx => absurd hx (by simp))
      intro w32 H33
      try dsimp only at H33
      have hx36 := row_set1 (f := u8c) (L := pkp L) (cur := cur21) u8c_len (by rw [pkp_len L]; exact h26) (show (pkp L).length * 1 ≤ cur21.size by rw [pkp_len L, h25]; exact Nat.mul_le_mul_right 1 h23) (j := L.length / 8) (by have hh := pkp_len L; omega) 0 (.int .u8 ((byteN L (L.length / 8) + 2 ^ (7 - L.length % 8) : Nat) : Int)) (UInt8.ofNat (byteN L (L.length / 8) + 2 ^ (7 - L.length % 8))) (u8_set (byte_or_lt L))
      refine s_store H33 2 (.int .u8 ((byteN L (L.length / 8) + 2 ^ (7 - L.length % 8) : Nat) : Int)) rfl rfl rfl sz_5 rfl (by have hh := pkp_len L; have hk := (show (pkp L).length * 1 ≤ cur21.size by rw [pkp_len L, h25]; exact Nat.mul_le_mul_right 1 h23); omega) rfl (cs' := (cur21.setIfInBounds (0 + (L.length / 8) * 1) (.int .u8 ((byteN L (L.length / 8) + 2 ^ (7 - L.length % 8) : Nat) : Int)))) rfl ?_; intro w34 H35
      refine ⟨blk bk20 (.cells (cur21.setIfInBounds (0 + (L.length / 8) * 1) (.int .u8 ((byteN L (L.length / 8) + 2 ^ (7 - L.length % 8) : Nat) : Int))) 5 (0, 0)) :: (F.set i emp), ?_, H35⟩
      change FReg _ _ _ _ _ #[true, true, true, true, true, true, true, true, true, true, true, true, true, true, true, true, true, true, true, true] _ _
      refine f_done (by kernel_rfl) ?_
      intro w37 H38
      refine g_region ?_
      refine r_cons (s_move (.pointer (some ⟨b, 0, none⟩)) rfl rfl ?_)
      refine r_cons (s_nilCheck (.pointer (some ⟨b, 0, none⟩)) rfl ⟨_, rfl⟩ rfl ?_)
      refine r_cons (s_fieldAddr 111 2 2 2 3 rfl fi_111_2 rfl rfl ?_)
      refine r_cons (s_load (.int .i64 (L.length : Int)) ag_3 rfl (H38.blk_at (i := 1) rfl) rfl rfl ?_)
      refine r_cons (s_add ((L.length : Int) + 1) rfl rfl (wi64 (by omega)) rfl ?_)
      refine r_cons (s_nilCheck (.pointer (some ⟨b, 0, none⟩)) rfl ⟨_, rfl⟩ rfl ?_)
      refine r_cons (s_fieldAddr 111 2 2 2 3 rfl fi_111_2 rfl rfl ?_)
      refine r_cons (s_store H38 1 (.int .i64 ((L.length : Int) + 1)) rfl rfl rfl sz_3 rfl (Nat.le_of_ble_eq_true rfl) rfl (cs' := #[.bool true, .slice pp16 (L.length / 8 + 1) cc17, .int .i64 ((L.length : Int) + 1)]) rfl ?_); intro w39 H40
      refine r_nil ?_
      refine g_end' [] Try.func92 Try.results92 trivial ?_
      have H41 := Row.shut2 (p := pp16) (n := L.length / 8 + 1) (c := cc17) (size := 1) (xs := ((pkp L).set (L.length / 8) (UInt8.ofNat (byteN L (L.length / 8) + 2 ^ (7 - L.length % 8)))).flatMap u8c) H40 (i := 2) rfl hp22 h23 h24 (by rw [Array.size_setIfInBounds]; exact h25) (by have hh : ((cur21.setIfInBounds (0 + (L.length / 8) * 1) (.int .u8 ((byteN L (L.length / 8) + 2 ^ (7 - L.length % 8) : Nat) : Int))).toList.drop 0).take (((pkp L).set (L.length / 8) (UInt8.ofNat (byteN L (L.length / 8) + 2 ^ (7 - L.length % 8)))).length * 1) = ((pkp L).set (L.length / 8) (UInt8.ofNat (byteN L (L.length / 8) + 2 ^ (7 - L.length % 8)))).flatMap u8c := hx36; have hk : ((pkp L).set (L.length / 8) (UInt8.ofNat (byteN L (L.length / 8) + 2 ^ (7 - L.length % 8)))).length = L.length / 8 + 1 := (by rw [List.length_set]; exact pkp_len L); rw [hk] at hh; exact hh) (one_u8 _)
      have H42 : St W w39 (blk b (.cells #[.bool true, .slice pp16 (L.length / 8 + 1) cc17, .int .i64 ((L.length : Int) + 1)] 111 (0, 0)) :: Row 5 1 (.slice pp16 (L.length / 8 + 1) cc17) (L.length / 8 + 1) (((pkp L).set (L.length / 8) (UInt8.ofNat (byteN L (L.length / 8) + 2 ^ (7 - L.length % 8)))).flatMap u8c) :: (F.set i emp)) := (((H41.move 2 rfl).move 2 rfl).drop 2 rfl)
      have H43 : St W w39 (blk b (.cells #[.bool true, .slice pp16 (L.length / 8 + 1) cc17, .int .i64 ((L ++ [true]).length : Int)] 111 (0, 0)) :: Row 5 1 (.slice pp16 (L.length / 8 + 1) cc17) (((L ++ [true]).length + 7) / 8) ((pk (L ++ [true])).flatMap u8c) :: F.set i emp) := by rw [snoc_len, snoc_bytes, pk_snoc_true]; exact H42
      have hx : x = true := hb29
      rw [hx]
      exact ⟨rfl, St.back hi (St.shut_ex (.slice pp16 (L.length / 8 + 1) cc17) (St.shut_star (ls := [blk b (.cells #[.bool true, .slice pp16 (L.length / 8 + 1) cc17, .int .i64 ((L ++ [true]).length : Int)] 111 (0, 0)), Row 5 1 (.slice pp16 (L.length / 8 + 1) cc17) (((L ++ [true]).length + 7) / 8) ((pk (L ++ [true])).flatMap u8c)]) H43))⟩
    · have hb29 := eq_false_of_ne_true hb29
      refine g_false (congrArg Value.bool hb29) ?_
      refine g_skip ?_
      refine g_region ?_
      refine r_cons (s_move (.pointer (some ⟨b, 0, none⟩)) rfl rfl ?_)
      refine r_cons (s_nilCheck (.pointer (some ⟨b, 0, none⟩)) rfl ⟨_, rfl⟩ rfl ?_)
      refine r_cons (s_fieldAddr 111 2 2 2 3 rfl fi_111_2 rfl rfl ?_)
      refine r_cons (s_load (.int .i64 (L.length : Int)) ag_3 rfl (H28.blk_at (i := 1) rfl) rfl rfl ?_)
      refine r_cons (s_add ((L.length : Int) + 1) rfl rfl (wi64 (by omega)) rfl ?_)
      refine r_cons (s_nilCheck (.pointer (some ⟨b, 0, none⟩)) rfl ⟨_, rfl⟩ rfl ?_)
      refine r_cons (s_fieldAddr 111 2 2 2 3 rfl fi_111_2 rfl rfl ?_)
      refine r_cons (s_store H28 1 (.int .i64 ((L.length : Int) + 1)) rfl rfl rfl sz_3 rfl (Nat.le_of_ble_eq_true rfl) rfl (cs' := #[.bool true, .slice pp16 (L.length / 8 + 1) cc17, .int .i64 ((L.length : Int) + 1)]) rfl ?_); intro w44 H45
      refine r_nil ?_
      refine g_end' [] Try.func92 Try.results92 trivial ?_
      have H46 := Row.shut2 (p := pp16) (n := L.length / 8 + 1) (c := cc17) (size := 1) (xs := (pkp L).flatMap u8c) H45 (i := 2) rfl hp22 h23 h24 h25 (by have hh : (cur21.toList.drop 0).take ((pkp L).length * 1) = (pkp L).flatMap u8c := (by rw [pkp_len L]; exact h26); have hk : (pkp L).length = L.length / 8 + 1 := pkp_len L; rw [hk] at hh; exact hh) (one_u8 _)
      have H47 : St W w44 (blk b (.cells #[.bool true, .slice pp16 (L.length / 8 + 1) cc17, .int .i64 ((L.length : Int) + 1)] 111 (0, 0)) :: Row 5 1 (.slice pp16 (L.length / 8 + 1) cc17) (L.length / 8 + 1) ((pkp L).flatMap u8c) :: (F.set i emp)) := (((H46.move 2 rfl).move 2 rfl).drop 2 rfl)
      have H48 : St W w44 (blk b (.cells #[.bool true, .slice pp16 (L.length / 8 + 1) cc17, .int .i64 ((L ++ [false]).length : Int)] 111 (0, 0)) :: Row 5 1 (.slice pp16 (L.length / 8 + 1) cc17) (((L ++ [false]).length + 7) / 8) ((pk (L ++ [false])).flatMap u8c) :: F.set i emp) := by rw [snoc_len, snoc_bytes, pk_snoc_false]; exact H47
      have hx : x = false := hb29
      rw [hx]
      exact ⟨rfl, St.back hi (St.shut_ex (.slice pp16 (L.length / 8 + 1) cc17) (St.shut_star (ls := [blk b (.cells #[.bool true, .slice pp16 (L.length / 8 + 1) cc17, .int .i64 ((L ++ [false]).length : Int)] 111 (0, 0)), Row 5 1 (.slice pp16 (L.length / 8 + 1) cc17) (((L ++ [false]).length + 7) / 8) ((pk (L ++ [false])).flatMap u8c)]) H48))⟩
  · skip
    refine r_cons (s_eql false rfl rfl (dfalse hc8) rfl ?_)
    refine r_nil ?_
    refine g_false rfl ?_
    refine g_skip ?_
    refine g_seq ?_
    refine g_seq ?_
    refine g_region ?_
    have H49 : St W w (blk b (.cells #[.bool true, .slice pp5 (L.length / 8 + 1) cc6, .int .i64 (L.length : Int)] 111 (0, 0)) :: Row 5 1 (.slice pp5 (L.length / 8 + 1) cc6) (L.length / 8 + 1) ((pkp L).flatMap u8c) :: (F.set i emp)) := by rw [pkp_of L (by omega), show L.length / 8 + 1 = (L.length + 7) / 8 from by omega]; exact H7
    obtain ⟨bk50, cur51, hp52, h53, h54, h55, h56, h57, H58⟩ := Row.open2 H49 (i := 1) rfl (by omega)
    refine r_cons (s_move (.bool x) rfl rfl ?_)
    refine r_nil ?_
    by_cases hb59 : (x) = true
    · skip
      refine g_true (congrArg Value.bool hb59) ?_
      refine g_mix (fun t_ w => St W w (blk b (.cells #[.bool true, .slice pp5 (L.length / 8 + 1) cc6, .int .i64 (L.length : Int)] 111 (0, 0)) :: t_)) (blk bk50 (.cells cur51 5 (0, 0)) :: (F.set i emp)) mixed 20 rfl H58.drew ?_
      refine f_first 0 (listed' := #[true, false, false, false, false, false, false, false, false, false, false, false, false, false, false, false, false, false, false, false]) rfl (by kernel_rfl) (by kernel_rfl) (by kernel_rfl) rfl ?_
      refine f_val rfl rfl rfl (by intro t_ w hw; exact x_move (.pointer (some ⟨b, 0, none⟩)) rfl w) ?_
      refine f_first 1 (listed' := #[true, true, false, false, false, false, false, false, false, false, false, false, false, false, false, false, false, false, false, false]) rfl (by kernel_rfl) (by kernel_rfl) (by kernel_rfl) rfl ?_
      refine f_val rfl rfl rfl (by intro t_ w hw; exact x_nilCheck (.pointer (some ⟨b, 0, none⟩)) rfl ⟨_, rfl⟩ w) ?_
      refine f_first 2 (listed' := #[true, true, true, false, false, false, false, false, false, false, false, false, false, false, false, false, false, false, false, false]) rfl (by kernel_rfl) (by kernel_rfl) (by kernel_rfl) rfl ?_
      refine f_val rfl rfl rfl (by intro t_ w hw; exact x_fieldAddr 111 1 1 1 66 rfl fi_111_1 rfl w) ?_
      refine f_first 3 (listed' := #[true, true, true, true, false, false, false, false, false, false, false, false, false, false, false, false, false, false, false, false]) rfl (by kernel_rfl) (by kernel_rfl) (by kernel_rfl) rfl ?_
      refine f_val rfl rfl rfl (by intro t_ w hw; exact x_load (.slice pp5 (L.length / 8 + 1) cc6) ag_66 rfl (hw.blk_at (i := 0) rfl) rfl) ?_
      refine f_first 4 (listed' := #[true, true, true, true, true, false, false, false, false, false, false, false, false, false, false, false, false, false, false, false]) rfl (by kernel_rfl) (by kernel_rfl) (by kernel_rfl) rfl ?_
      refine f_val rfl rfl rfl (by intro t_ w hw; exact x_move (.pointer (some ⟨b, 0, none⟩)) rfl w) ?_
      refine f_first 5 (listed' := #[true, true, true, true, true, true, false, false, false, false, false, false, false, false, false, false, false, false, false, false]) rfl (by kernel_rfl) (by kernel_rfl) (by kernel_rfl) rfl ?_
      refine f_val rfl rfl rfl (by intro t_ w hw; exact x_nilCheck (.pointer (some ⟨b, 0, none⟩)) rfl ⟨_, rfl⟩ w) ?_
      refine f_first 6 (listed' := #[true, true, true, true, true, true, true, false, false, false, false, false, false, false, false, false, false, false, false, false]) rfl (by kernel_rfl) (by kernel_rfl) (by kernel_rfl) rfl ?_
      refine f_val rfl rfl rfl (by intro t_ w hw; exact x_fieldAddr 111 2 2 2 3 rfl fi_111_2 rfl w) ?_
      refine f_first 7 (listed' := #[true, true, true, true, true, true, true, true, false, false, false, false, false, false, false, false, false, false, false, false]) rfl (by kernel_rfl) (by kernel_rfl) (by kernel_rfl) rfl ?_
      refine f_val rfl rfl rfl (by intro t_ w hw; exact x_load (.int .i64 (L.length : Int)) ag_3 rfl (hw.blk_at (i := 0) rfl) rfl) ?_
      refine f_first 8 (listed' := #[true, true, true, true, true, true, true, true, true, false, false, false, false, false, false, false, false, false, false, false]) rfl (by kernel_rfl) (by kernel_rfl) (by kernel_rfl) rfl ?_
      refine f_val rfl rfl rfl (by intro t_ w hw; exact x_quo ((L.length : Int) / 8) rfl rfl (by omega) (by rw [tdiv_pos (by omega)]; exact wi64 (by omega)) w) ?_
      refine f_first 9 (listed' := #[true, true, true, true, true, true, true, true, true, true, false, false, false, false, false, false, false, false, false, false]) rfl (by kernel_rfl) (by kernel_rfl) (by kernel_rfl) rfl ?_
      refine f_val rfl rfl rfl (by intro t_ w hw; exact x_indexAddr bk50 (off := 0) ((L.length : Int) / 8) 1 (0 + (L.length / 8) * 1) (by exact congrArg (fun z_ => Value.slice z_ (L.length / 8 + 1) cc6) ((fun (_ : 0 < 1) => hp52) (by omega))) rfl el_66 (by omega) (by rw [show ((L.length : Int) / 8 : Int).toNat = L.length / 8 from by omega]) w) ?_
      refine f_first 11 (listed' := #[true, true, true, true, true, true, true, true, true, true, false, true, false, false, false, false, false, false, false, false]) rfl (by kernel_rfl) (by kernel_rfl) (by kernel_rfl) rfl ?_
      refine f_val rfl rfl rfl (by intro t_ w hw; exact x_move (.pointer (some ⟨b, 0, none⟩)) rfl w) ?_
      refine f_first 12 (listed' := #[true, true, true, true, true, true, true, true, true, true, false, true, true, false, false, false, false, false, false, false]) rfl (by kernel_rfl) (by kernel_rfl) (by kernel_rfl) rfl ?_
      refine f_val rfl rfl rfl (by intro t_ w hw; exact x_nilCheck (.pointer (some ⟨b, 0, none⟩)) rfl ⟨_, rfl⟩ w) ?_
      refine f_first 13 (listed' := #[true, true, true, true, true, true, true, true, true, true, false, true, true, true, false, false, false, false, false, false]) rfl (by kernel_rfl) (by kernel_rfl) (by kernel_rfl) rfl ?_
      refine f_val rfl rfl rfl (by intro t_ w hw; exact x_fieldAddr 111 2 2 2 3 rfl fi_111_2 rfl w) ?_
      refine f_first 14 (listed' := #[true, true, true, true, true, true, true, true, true, true, false, true, true, true, true, false, false, false, false, false]) rfl (by kernel_rfl) (by kernel_rfl) (by kernel_rfl) rfl ?_
      refine f_val rfl rfl rfl (by intro t_ w hw; exact x_load (.int .i64 (L.length : Int)) ag_3 rfl (hw.blk_at (i := 0) rfl) rfl) ?_
      refine f_first 15 (listed' := #[true, true, true, true, true, true, true, true, true, true, false, true, true, true, true, true, false, false, false, false]) rfl (by kernel_rfl) (by kernel_rfl) (by kernel_rfl) rfl ?_
      refine f_val rfl rfl rfl (by intro t_ w hw; exact x_rem ((L.length : Int) % 8) rfl rfl (by omega) (tmod_pos (by omega)) w) ?_
      refine f_first 16 (listed' := #[true, true, true, true, true, true, true, true, true, true, false, true, true, true, true, true, true, false, false, false]) rfl (by kernel_rfl) (by kernel_rfl) (by kernel_rfl) rfl ?_
      refine f_val rfl rfl rfl (by intro t_ w hw; exact x_shr ((2 ^ (7 - L.length % 8) : Nat) : Int) rfl rfl (by omega) (shr128 L.length (by omega)) w) ?_
      refine f_all (rs := [10]) (by kernel_rfl) (by simp) ?_
      refine a_cons ⟨_, rfl, ?_⟩ (fun x hx => absurd hx (by simp))
      intro w60 H61
      try dsimp only at H61
      refine s_load (.int .u8 (((pkp L).getD (L.length / 8) 0).toNat : Int)) ag_5 rfl (H61.blk_at (i := 1) rfl) (elem_cell u8c_len (by rw [pkp_len L]; exact h56) (by have hh : (pkp L).length = L.length / 8 + 1 := pkp_len L; omega) 0 0 (by decide) _ rfl) rfl ?_
      refine ⟨blk bk50 (.cells cur51 5 (0, 0)) :: (F.set i emp), ?_, H61⟩
      change FReg _ _ _ _ _ #[true, true, true, true, true, true, true, true, true, true, true, true, true, true, true, true, true, false, false, false] _ _
      refine f_first 17 (listed' := #[true, true, true, true, true, true, true, true, true, true, true, true, true, true, true, true, true, true, false, false]) rfl (by kernel_rfl) (by kernel_rfl) (by kernel_rfl) rfl ?_
      refine f_val rfl rfl rfl (by intro t_ w hw; exact x_or ((byteN L (L.length / 8) + 2 ^ (7 - L.length % 8) : Nat) : Int) rfl rfl (or_put L) w) ?_
      refine f_first 18 (listed' := #[true, true, true, true, true, true, true, true, true, true, true, true, true, true, true, true, true, true, true, false]) rfl (by kernel_rfl) (by kernel_rfl) (by kernel_rfl) rfl ?_
      refine f_val rfl rfl rfl (by intro t_ w hw; exact x_indexAddr bk50 (off := 0) ((L.length : Int) / 8) 1 (0 + (L.length / 8) * 1) (by exact congrArg (fun z_ => Value.slice z_ (L.length / 8 + 1) cc6) ((fun (_ : 0 < 1) => hp52) (by omega))) rfl el_66 (by omega) (by rw [show ((L.length : Int) / 8 : Int).toNat = L.length / 8 from by omega]) w) ?_
      refine f_all (rs := [19]) (by kernel_rfl) (by simp) ?_
      refine a_cons ⟨_, rfl, ?_⟩ (fun x hx => absurd hx (by simp))
      intro w62 H63
      try dsimp only at H63
      have hx66 := row_set1 (f := u8c) (L := pkp L) (cur := cur51) u8c_len (by rw [pkp_len L]; exact h56) (show (pkp L).length * 1 ≤ cur51.size by rw [pkp_len L, h55]; exact Nat.mul_le_mul_right 1 h53) (j := L.length / 8) (by have hh := pkp_len L; omega) 0 (.int .u8 ((byteN L (L.length / 8) + 2 ^ (7 - L.length % 8) : Nat) : Int)) (UInt8.ofNat (byteN L (L.length / 8) + 2 ^ (7 - L.length % 8))) (u8_set (byte_or_lt L))
      refine s_store H63 1 (.int .u8 ((byteN L (L.length / 8) + 2 ^ (7 - L.length % 8) : Nat) : Int)) rfl rfl rfl sz_5 rfl (by have hh := pkp_len L; have hk := (show (pkp L).length * 1 ≤ cur51.size by rw [pkp_len L, h55]; exact Nat.mul_le_mul_right 1 h53); omega) rfl (cs' := (cur51.setIfInBounds (0 + (L.length / 8) * 1) (.int .u8 ((byteN L (L.length / 8) + 2 ^ (7 - L.length % 8) : Nat) : Int)))) rfl ?_; intro w64 H65
      refine ⟨blk bk50 (.cells (cur51.setIfInBounds (0 + (L.length / 8) * 1) (.int .u8 ((byteN L (L.length / 8) + 2 ^ (7 - L.length % 8) : Nat) : Int))) 5 (0, 0)) :: (F.set i emp), ?_, H65⟩
      change FReg _ _ _ _ _ #[true, true, true, true, true, true, true, true, true, true, true, true, true, true, true, true, true, true, true, true] _ _
      refine f_done (by kernel_rfl) ?_
      intro w67 H68
      refine g_region ?_
      refine r_cons (s_move (.pointer (some ⟨b, 0, none⟩)) rfl rfl ?_)
      refine r_cons (s_nilCheck (.pointer (some ⟨b, 0, none⟩)) rfl ⟨_, rfl⟩ rfl ?_)
      refine r_cons (s_fieldAddr 111 2 2 2 3 rfl fi_111_2 rfl rfl ?_)
      refine r_cons (s_load (.int .i64 (L.length : Int)) ag_3 rfl (H68.blk_at (i := 0) rfl) rfl rfl ?_)
      refine r_cons (s_add ((L.length : Int) + 1) rfl rfl (wi64 (by omega)) rfl ?_)
      refine r_cons (s_nilCheck (.pointer (some ⟨b, 0, none⟩)) rfl ⟨_, rfl⟩ rfl ?_)
      refine r_cons (s_fieldAddr 111 2 2 2 3 rfl fi_111_2 rfl rfl ?_)
      refine r_cons (s_store H68 0 (.int .i64 ((L.length : Int) + 1)) rfl rfl rfl sz_3 rfl (Nat.le_of_ble_eq_true rfl) rfl (cs' := #[.bool true, .slice pp5 (L.length / 8 + 1) cc6, .int .i64 ((L.length : Int) + 1)]) rfl ?_); intro w69 H70
      refine r_nil ?_
      refine g_end' [] Try.func92 Try.results92 trivial ?_
      have H71 := Row.shut2 (p := pp5) (n := L.length / 8 + 1) (c := cc6) (size := 1) (xs := ((pkp L).set (L.length / 8) (UInt8.ofNat (byteN L (L.length / 8) + 2 ^ (7 - L.length % 8)))).flatMap u8c) H70 (i := 1) rfl hp52 h53 h54 (by rw [Array.size_setIfInBounds]; exact h55) (by have hh : ((cur51.setIfInBounds (0 + (L.length / 8) * 1) (.int .u8 ((byteN L (L.length / 8) + 2 ^ (7 - L.length % 8) : Nat) : Int))).toList.drop 0).take (((pkp L).set (L.length / 8) (UInt8.ofNat (byteN L (L.length / 8) + 2 ^ (7 - L.length % 8)))).length * 1) = ((pkp L).set (L.length / 8) (UInt8.ofNat (byteN L (L.length / 8) + 2 ^ (7 - L.length % 8)))).flatMap u8c := hx66; have hk : ((pkp L).set (L.length / 8) (UInt8.ofNat (byteN L (L.length / 8) + 2 ^ (7 - L.length % 8)))).length = L.length / 8 + 1 := (by rw [List.length_set]; exact pkp_len L); rw [hk] at hh; exact hh) (one_u8 _)
      have H72 : St W w69 (blk b (.cells #[.bool true, .slice pp5 (L.length / 8 + 1) cc6, .int .i64 ((L.length : Int) + 1)] 111 (0, 0)) :: Row 5 1 (.slice pp5 (L.length / 8 + 1) cc6) (L.length / 8 + 1) (((pkp L).set (L.length / 8) (UInt8.ofNat (byteN L (L.length / 8) + 2 ^ (7 - L.length % 8)))).flatMap u8c) :: (F.set i emp)) := ((H71.move 1 rfl).move 1 rfl)
      have H73 : St W w69 (blk b (.cells #[.bool true, .slice pp5 (L.length / 8 + 1) cc6, .int .i64 ((L ++ [true]).length : Int)] 111 (0, 0)) :: Row 5 1 (.slice pp5 (L.length / 8 + 1) cc6) (((L ++ [true]).length + 7) / 8) ((pk (L ++ [true])).flatMap u8c) :: F.set i emp) := by rw [snoc_len, snoc_bytes, pk_snoc_true]; exact H72
      have hx : x = true := hb59
      rw [hx]
      exact ⟨rfl, St.back hi (St.shut_ex (.slice pp5 (L.length / 8 + 1) cc6) (St.shut_star (ls := [blk b (.cells #[.bool true, .slice pp5 (L.length / 8 + 1) cc6, .int .i64 ((L ++ [true]).length : Int)] 111 (0, 0)), Row 5 1 (.slice pp5 (L.length / 8 + 1) cc6) (((L ++ [true]).length + 7) / 8) ((pk (L ++ [true])).flatMap u8c)]) H73))⟩
    · have hb59 := eq_false_of_ne_true hb59
      refine g_false (congrArg Value.bool hb59) ?_
      refine g_skip ?_
      refine g_region ?_
      refine r_cons (s_move (.pointer (some ⟨b, 0, none⟩)) rfl rfl ?_)
      refine r_cons (s_nilCheck (.pointer (some ⟨b, 0, none⟩)) rfl ⟨_, rfl⟩ rfl ?_)
      refine r_cons (s_fieldAddr 111 2 2 2 3 rfl fi_111_2 rfl rfl ?_)
      refine r_cons (s_load (.int .i64 (L.length : Int)) ag_3 rfl (H58.blk_at (i := 0) rfl) rfl rfl ?_)
      refine r_cons (s_add ((L.length : Int) + 1) rfl rfl (wi64 (by omega)) rfl ?_)
      refine r_cons (s_nilCheck (.pointer (some ⟨b, 0, none⟩)) rfl ⟨_, rfl⟩ rfl ?_)
      refine r_cons (s_fieldAddr 111 2 2 2 3 rfl fi_111_2 rfl rfl ?_)
      refine r_cons (s_store H58 0 (.int .i64 ((L.length : Int) + 1)) rfl rfl rfl sz_3 rfl (Nat.le_of_ble_eq_true rfl) rfl (cs' := #[.bool true, .slice pp5 (L.length / 8 + 1) cc6, .int .i64 ((L.length : Int) + 1)]) rfl ?_); intro w74 H75
      refine r_nil ?_
      refine g_end' [] Try.func92 Try.results92 trivial ?_
      have H76 := Row.shut2 (p := pp5) (n := L.length / 8 + 1) (c := cc6) (size := 1) (xs := (pkp L).flatMap u8c) H75 (i := 1) rfl hp52 h53 h54 h55 (by have hh : (cur51.toList.drop 0).take ((pkp L).length * 1) = (pkp L).flatMap u8c := (by rw [pkp_len L]; exact h56); have hk : (pkp L).length = L.length / 8 + 1 := pkp_len L; rw [hk] at hh; exact hh) (one_u8 _)
      have H77 : St W w74 (blk b (.cells #[.bool true, .slice pp5 (L.length / 8 + 1) cc6, .int .i64 ((L.length : Int) + 1)] 111 (0, 0)) :: Row 5 1 (.slice pp5 (L.length / 8 + 1) cc6) (L.length / 8 + 1) ((pkp L).flatMap u8c) :: (F.set i emp)) := ((H76.move 1 rfl).move 1 rfl)
      have H78 : St W w74 (blk b (.cells #[.bool true, .slice pp5 (L.length / 8 + 1) cc6, .int .i64 ((L ++ [false]).length : Int)] 111 (0, 0)) :: Row 5 1 (.slice pp5 (L.length / 8 + 1) cc6) (((L ++ [false]).length + 7) / 8) ((pk (L ++ [false])).flatMap u8c) :: F.set i emp) := by rw [snoc_len, snoc_bytes, pk_snoc_false]; exact H77
      have hx : x = false := hb59
      rw [hx]
      exact ⟨rfl, St.back hi (St.shut_ex (.slice pp5 (L.length / 8 + 1) cc6) (St.shut_star (ls := [blk b (.cells #[.bool true, .slice pp5 (L.length / 8 + 1) cc6, .int .i64 ((L ++ [false]).length : Int)] 111 (0, 0)), Row 5 1 (.slice pp5 (L.length / 8 + 1) cc6) (((L ++ [false]).length + 7) / 8) ((pk (L ++ [false])).flatMap u8c)]) H78))⟩
set_option maxHeartbeats 4000000 in
set_option maxRecDepth 100000 in
theorem Len64 {W w : World} {F : List Atom} (u : Nat) (hu : u < 18446744073709551616) (H : St W w F) : Calls Try.prog 115 #[.int .u64 (u : Int)] w (Ret fun v w' => v = .int .i64 (bitLen u : Int) ∧ St W w' F) := by
  refine calls_of_go (n := 25) Try.func115 rfl Try.ntmps115 rfl ?_
  refine g_seq ?_
  refine g_region ?_
  refine r_cons (s_assign (.int .i64 0) rfl rfl ?_)
  refine r_nil ?_
  refine g_seq ?_
  refine g_seq ?_
  refine g_region ?_
  refine r_cons (s_move (.int .u64 (u : Int)) rfl rfl ?_)
  by_cases hc1 : (4294967296 : Int) ≤ (u : Int)
  · skip
    refine r_cons (s_geq true rfl rfl (dtrue hc1) rfl ?_)
    refine r_nil ?_
    refine g_true rfl ?_
    refine g_seq ?_
    refine g_region ?_
    refine r_cons (s_move (.int .u64 (u : Int)) rfl rfl ?_)
    refine r_cons (s_shr ((u / 2 ^ 32 : Nat) : Int) rfl rfl (by omega) (shr_nat (k := 32) rfl (by decide)) rfl ?_)
    refine r_cons (s_assign (.int .u64 ((u / 2 ^ 32 : Nat) : Int)) rfl rfl ?_)
    refine r_nil ?_
    refine g_region ?_
    refine r_cons (s_assign (.int .i64 32) rfl rfl ?_)
    refine r_nil ?_
    refine g_seq ?_
    refine g_seq ?_
    refine g_region ?_
    refine r_cons (s_move (.int .u64 ((u / 2 ^ 32 : Nat) : Int)) rfl rfl ?_)
    by_cases hc2 : (65536 : Int) ≤ ((u / 2 ^ 32 : Nat) : Int)
    · skip
      refine r_cons (s_geq true rfl rfl (dtrue hc2) rfl ?_)
      refine r_nil ?_
      refine g_true rfl ?_
      refine g_seq ?_
      refine g_region ?_
      refine r_cons (s_move (.int .u64 ((u / 2 ^ 32 : Nat) : Int)) rfl rfl ?_)
      refine r_cons (s_shr (((u / 2 ^ 32) / 2 ^ 16 : Nat) : Int) rfl rfl (by omega) (shr_nat (k := 16) rfl (by decide)) rfl ?_)
      refine r_cons (s_assign (.int .u64 (((u / 2 ^ 32) / 2 ^ 16 : Nat) : Int)) rfl rfl ?_)
      refine r_nil ?_
      refine g_region ?_
      refine r_cons (s_move (.int .i64 32) rfl rfl ?_)
      refine r_cons (s_add 48 rfl rfl (wi64 (by omega)) rfl ?_)
      refine r_cons (s_assign (.int .i64 48) rfl rfl ?_)
      refine r_nil ?_
      refine g_seq ?_
      refine g_seq ?_
      refine g_region ?_
      refine r_cons (s_move (.int .u64 (((u / 2 ^ 32) / 2 ^ 16 : Nat) : Int)) rfl rfl ?_)
      by_cases hc3 : (256 : Int) ≤ (((u / 2 ^ 32) / 2 ^ 16 : Nat) : Int)
      · skip
        refine r_cons (s_geq true rfl rfl (dtrue hc3) rfl ?_)
        refine r_nil ?_
        refine g_true rfl ?_
        refine g_seq ?_
        refine g_region ?_
        refine r_cons (s_move (.int .u64 (((u / 2 ^ 32) / 2 ^ 16 : Nat) : Int)) rfl rfl ?_)
        refine r_cons (s_shr ((((u / 2 ^ 32) / 2 ^ 16) / 2 ^ 8 : Nat) : Int) rfl rfl (by omega) (shr_nat (k := 8) rfl (by decide)) rfl ?_)
        refine r_cons (s_assign (.int .u64 ((((u / 2 ^ 32) / 2 ^ 16) / 2 ^ 8 : Nat) : Int)) rfl rfl ?_)
        refine r_nil ?_
        refine g_region ?_
        refine r_cons (s_move (.int .i64 48) rfl rfl ?_)
        refine r_cons (s_add 56 rfl rfl (wi64 (by omega)) rfl ?_)
        refine r_cons (s_assign (.int .i64 56) rfl rfl ?_)
        refine r_nil ?_
        refine g_seq ?_
        refine g_region ?_
        refine r_cons (s_move (.int .i64 56) rfl rfl ?_)
        refine r_cons (s_move (.int .u64 ((((u / 2 ^ 32) / 2 ^ 16) / 2 ^ 8 : Nat) : Int)) rfl rfl ?_)
        refine r_cons (s_conv ((((u / 2 ^ 32) / 2 ^ 16) / 2 ^ 8 : Nat) : Int) rfl us_62 ik_5 (wu8 (by omega)) rfl ?_)
        refine r_cons (s_index_str _ ((((u / 2 ^ 32) / 2 ^ 16) / 2 ^ 8 : Nat) : Int) (bitLen (((u / 2 ^ 32) / 2 ^ 16) / 2 ^ 8) : Int) rfl rfl st_9 (by omega) (len8_str (n := ((u / 2 ^ 32) / 2 ^ 16) / 2 ^ 8) (by omega) (by omega)) rfl ?_)
        refine r_cons (s_conv (bitLen (((u / 2 ^ 32) / 2 ^ 16) / 2 ^ 8) : Int) rfl us_5 ik_3 (wi64 (by have := bitLen_le8 ((((u / 2 ^ 32) / 2 ^ 16) / 2 ^ 8)) (by omega); omega)) rfl ?_)
        refine r_cons (s_add (56 + (bitLen (((u / 2 ^ 32) / 2 ^ 16) / 2 ^ 8) : Int)) rfl rfl (wi64 (by have := bitLen_le8 (((u / 2 ^ 32) / 2 ^ 16) / 2 ^ 8) (by omega); omega)) rfl ?_)
        refine r_cons (s_assign (.int .i64 (56 + (bitLen (((u / 2 ^ 32) / 2 ^ 16) / 2 ^ 8) : Int))) rfl rfl ?_)
        refine r_nil ?_
        refine g_ret' [.int .i64 (56 + (bitLen (((u / 2 ^ 32) / 2 ^ 16) / 2 ^ 8) : Int))] Try.func115 Try.results115 ⟨rfl, trivial⟩ ?_
        have H4 : St W w F := H
        exact ⟨vint (by have := bitLen_div (u := u) (k := 32) (by omega); have := bitLen_div (u := (u / 2 ^ 32)) (k := 16) (by omega); have := bitLen_div (u := ((u / 2 ^ 32) / 2 ^ 16)) (k := 8) (by omega); omega), H4⟩
      · skip
        refine r_cons (s_geq false rfl rfl (dfalse hc3) rfl ?_)
        refine r_nil ?_
        refine g_false rfl ?_
        refine g_skip ?_
        refine g_seq ?_
        refine g_region ?_
        refine r_cons (s_move (.int .i64 48) rfl rfl ?_)
        refine r_cons (s_move (.int .u64 (((u / 2 ^ 32) / 2 ^ 16 : Nat) : Int)) rfl rfl ?_)
        refine r_cons (s_conv (((u / 2 ^ 32) / 2 ^ 16 : Nat) : Int) rfl us_62 ik_5 (wu8 (by omega)) rfl ?_)
        refine r_cons (s_index_str _ (((u / 2 ^ 32) / 2 ^ 16 : Nat) : Int) (bitLen ((u / 2 ^ 32) / 2 ^ 16) : Int) rfl rfl st_9 (by omega) (len8_str (n := (u / 2 ^ 32) / 2 ^ 16) (by omega) (by omega)) rfl ?_)
        refine r_cons (s_conv (bitLen ((u / 2 ^ 32) / 2 ^ 16) : Int) rfl us_5 ik_3 (wi64 (by have := bitLen_le8 (((u / 2 ^ 32) / 2 ^ 16)) (by omega); omega)) rfl ?_)
        refine r_cons (s_add (48 + (bitLen ((u / 2 ^ 32) / 2 ^ 16) : Int)) rfl rfl (wi64 (by have := bitLen_le8 ((u / 2 ^ 32) / 2 ^ 16) (by omega); omega)) rfl ?_)
        refine r_cons (s_assign (.int .i64 (48 + (bitLen ((u / 2 ^ 32) / 2 ^ 16) : Int))) rfl rfl ?_)
        refine r_nil ?_
        refine g_ret' [.int .i64 (48 + (bitLen ((u / 2 ^ 32) / 2 ^ 16) : Int))] Try.func115 Try.results115 ⟨rfl, trivial⟩ ?_
        have H5 : St W w F := H
        exact ⟨vint (by have := bitLen_div (u := u) (k := 32) (by omega); have := bitLen_div (u := (u / 2 ^ 32)) (k := 16) (by omega); omega), H5⟩
    · skip
      refine r_cons (s_geq false rfl rfl (dfalse hc2) rfl ?_)
      refine r_nil ?_
      refine g_false rfl ?_
      refine g_skip ?_
      refine g_seq ?_
      refine g_seq ?_
      refine g_region ?_
      refine r_cons (s_move (.int .u64 ((u / 2 ^ 32 : Nat) : Int)) rfl rfl ?_)
      by_cases hc6 : (256 : Int) ≤ ((u / 2 ^ 32 : Nat) : Int)
      · skip
        refine r_cons (s_geq true rfl rfl (dtrue hc6) rfl ?_)
        refine r_nil ?_
        refine g_true rfl ?_
        refine g_seq ?_
        refine g_region ?_
        refine r_cons (s_move (.int .u64 ((u / 2 ^ 32 : Nat) : Int)) rfl rfl ?_)
        refine r_cons (s_shr (((u / 2 ^ 32) / 2 ^ 8 : Nat) : Int) rfl rfl (by omega) (shr_nat (k := 8) rfl (by decide)) rfl ?_)
        refine r_cons (s_assign (.int .u64 (((u / 2 ^ 32) / 2 ^ 8 : Nat) : Int)) rfl rfl ?_)
        refine r_nil ?_
        refine g_region ?_
        refine r_cons (s_move (.int .i64 32) rfl rfl ?_)
        refine r_cons (s_add 40 rfl rfl (wi64 (by omega)) rfl ?_)
        refine r_cons (s_assign (.int .i64 40) rfl rfl ?_)
        refine r_nil ?_
        refine g_seq ?_
        refine g_region ?_
        refine r_cons (s_move (.int .i64 40) rfl rfl ?_)
        refine r_cons (s_move (.int .u64 (((u / 2 ^ 32) / 2 ^ 8 : Nat) : Int)) rfl rfl ?_)
        refine r_cons (s_conv (((u / 2 ^ 32) / 2 ^ 8 : Nat) : Int) rfl us_62 ik_5 (wu8 (by omega)) rfl ?_)
        refine r_cons (s_index_str _ (((u / 2 ^ 32) / 2 ^ 8 : Nat) : Int) (bitLen ((u / 2 ^ 32) / 2 ^ 8) : Int) rfl rfl st_9 (by omega) (len8_str (n := (u / 2 ^ 32) / 2 ^ 8) (by omega) (by omega)) rfl ?_)
        refine r_cons (s_conv (bitLen ((u / 2 ^ 32) / 2 ^ 8) : Int) rfl us_5 ik_3 (wi64 (by have := bitLen_le8 (((u / 2 ^ 32) / 2 ^ 8)) (by omega); omega)) rfl ?_)
        refine r_cons (s_add (40 + (bitLen ((u / 2 ^ 32) / 2 ^ 8) : Int)) rfl rfl (wi64 (by have := bitLen_le8 ((u / 2 ^ 32) / 2 ^ 8) (by omega); omega)) rfl ?_)
        refine r_cons (s_assign (.int .i64 (40 + (bitLen ((u / 2 ^ 32) / 2 ^ 8) : Int))) rfl rfl ?_)
        refine r_nil ?_
        refine g_ret' [.int .i64 (40 + (bitLen ((u / 2 ^ 32) / 2 ^ 8) : Int))] Try.func115 Try.results115 ⟨rfl, trivial⟩ ?_
        have H7 : St W w F := H
        exact ⟨vint (by have := bitLen_div (u := u) (k := 32) (by omega); have := bitLen_div (u := (u / 2 ^ 32)) (k := 8) (by omega); omega), H7⟩
      · skip
        refine r_cons (s_geq false rfl rfl (dfalse hc6) rfl ?_)
        refine r_nil ?_
        refine g_false rfl ?_
        refine g_skip ?_
        refine g_seq ?_
        refine g_region ?_
        refine r_cons (s_move (.int .i64 32) rfl rfl ?_)
        refine r_cons (s_move (.int .u64 ((u / 2 ^ 32 : Nat) : Int)) rfl rfl ?_)
        refine r_cons (s_conv ((u / 2 ^ 32 : Nat) : Int) rfl us_62 ik_5 (wu8 (by omega)) rfl ?_)
        refine r_cons (s_index_str _ ((u / 2 ^ 32 : Nat) : Int) (bitLen (u / 2 ^ 32) : Int) rfl rfl st_9 (by omega) (len8_str (n := u / 2 ^ 32) (by omega) (by omega)) rfl ?_)
        refine r_cons (s_conv (bitLen (u / 2 ^ 32) : Int) rfl us_5 ik_3 (wi64 (by have := bitLen_le8 ((u / 2 ^ 32)) (by omega); omega)) rfl ?_)
        refine r_cons (s_add (32 + (bitLen (u / 2 ^ 32) : Int)) rfl rfl (wi64 (by have := bitLen_le8 (u / 2 ^ 32) (by omega); omega)) rfl ?_)
        refine r_cons (s_assign (.int .i64 (32 + (bitLen (u / 2 ^ 32) : Int))) rfl rfl ?_)
        refine r_nil ?_
        refine g_ret' [.int .i64 (32 + (bitLen (u / 2 ^ 32) : Int))] Try.func115 Try.results115 ⟨rfl, trivial⟩ ?_
        have H8 : St W w F := H
        exact ⟨vint (by have := bitLen_div (u := u) (k := 32) (by omega); omega), H8⟩
  · skip
    refine r_cons (s_geq false rfl rfl (dfalse hc1) rfl ?_)
    refine r_nil ?_
    refine g_false rfl ?_
    refine g_skip ?_
    refine g_seq ?_
    refine g_seq ?_
    refine g_region ?_
    refine r_cons (s_move (.int .u64 (u : Int)) rfl rfl ?_)
    by_cases hc9 : (65536 : Int) ≤ (u : Int)
    · skip
      refine r_cons (s_geq true rfl rfl (dtrue hc9) rfl ?_)
      refine r_nil ?_
      refine g_true rfl ?_
      refine g_seq ?_
      refine g_region ?_
      refine r_cons (s_move (.int .u64 (u : Int)) rfl rfl ?_)
      refine r_cons (s_shr ((u / 2 ^ 16 : Nat) : Int) rfl rfl (by omega) (shr_nat (k := 16) rfl (by decide)) rfl ?_)
      refine r_cons (s_assign (.int .u64 ((u / 2 ^ 16 : Nat) : Int)) rfl rfl ?_)
      refine r_nil ?_
      refine g_region ?_
      refine r_cons (s_move (.int .i64 0) rfl rfl ?_)
      refine r_cons (s_add 16 rfl rfl (wi64 (by omega)) rfl ?_)
      refine r_cons (s_assign (.int .i64 16) rfl rfl ?_)
      refine r_nil ?_
      refine g_seq ?_
      refine g_seq ?_
      refine g_region ?_
      refine r_cons (s_move (.int .u64 ((u / 2 ^ 16 : Nat) : Int)) rfl rfl ?_)
      by_cases hc10 : (256 : Int) ≤ ((u / 2 ^ 16 : Nat) : Int)
      · skip
        refine r_cons (s_geq true rfl rfl (dtrue hc10) rfl ?_)
        refine r_nil ?_
        refine g_true rfl ?_
        refine g_seq ?_
        refine g_region ?_
        refine r_cons (s_move (.int .u64 ((u / 2 ^ 16 : Nat) : Int)) rfl rfl ?_)
        refine r_cons (s_shr (((u / 2 ^ 16) / 2 ^ 8 : Nat) : Int) rfl rfl (by omega) (shr_nat (k := 8) rfl (by decide)) rfl ?_)
        refine r_cons (s_assign (.int .u64 (((u / 2 ^ 16) / 2 ^ 8 : Nat) : Int)) rfl rfl ?_)
        refine r_nil ?_
        refine g_region ?_
        refine r_cons (s_move (.int .i64 16) rfl rfl ?_)
        refine r_cons (s_add 24 rfl rfl (wi64 (by omega)) rfl ?_)
        refine r_cons (s_assign (.int .i64 24) rfl rfl ?_)
        refine r_nil ?_
        refine g_seq ?_
        refine g_region ?_
        refine r_cons (s_move (.int .i64 24) rfl rfl ?_)
        refine r_cons (s_move (.int .u64 (((u / 2 ^ 16) / 2 ^ 8 : Nat) : Int)) rfl rfl ?_)
        refine r_cons (s_conv (((u / 2 ^ 16) / 2 ^ 8 : Nat) : Int) rfl us_62 ik_5 (wu8 (by omega)) rfl ?_)
        refine r_cons (s_index_str _ (((u / 2 ^ 16) / 2 ^ 8 : Nat) : Int) (bitLen ((u / 2 ^ 16) / 2 ^ 8) : Int) rfl rfl st_9 (by omega) (len8_str (n := (u / 2 ^ 16) / 2 ^ 8) (by omega) (by omega)) rfl ?_)
        refine r_cons (s_conv (bitLen ((u / 2 ^ 16) / 2 ^ 8) : Int) rfl us_5 ik_3 (wi64 (by have := bitLen_le8 (((u / 2 ^ 16) / 2 ^ 8)) (by omega); omega)) rfl ?_)
        refine r_cons (s_add (24 + (bitLen ((u / 2 ^ 16) / 2 ^ 8) : Int)) rfl rfl (wi64 (by have := bitLen_le8 ((u / 2 ^ 16) / 2 ^ 8) (by omega); omega)) rfl ?_)
        refine r_cons (s_assign (.int .i64 (24 + (bitLen ((u / 2 ^ 16) / 2 ^ 8) : Int))) rfl rfl ?_)
        refine r_nil ?_
        refine g_ret' [.int .i64 (24 + (bitLen ((u / 2 ^ 16) / 2 ^ 8) : Int))] Try.func115 Try.results115 ⟨rfl, trivial⟩ ?_
        have H11 : St W w F := H
        exact ⟨vint (by have := bitLen_div (u := u) (k := 16) (by omega); have := bitLen_div (u := (u / 2 ^ 16)) (k := 8) (by omega); omega), H11⟩
      · skip
        refine r_cons (s_geq false rfl rfl (dfalse hc10) rfl ?_)
        refine r_nil ?_
        refine g_false rfl ?_
        refine g_skip ?_
        refine g_seq ?_
        refine g_region ?_
        refine r_cons (s_move (.int .i64 16) rfl rfl ?_)
        refine r_cons (s_move (.int .u64 ((u / 2 ^ 16 : Nat) : Int)) rfl rfl ?_)
        refine r_cons (s_conv ((u / 2 ^ 16 : Nat) : Int) rfl us_62 ik_5 (wu8 (by omega)) rfl ?_)
        refine r_cons (s_index_str _ ((u / 2 ^ 16 : Nat) : Int) (bitLen (u / 2 ^ 16) : Int) rfl rfl st_9 (by omega) (len8_str (n := u / 2 ^ 16) (by omega) (by omega)) rfl ?_)
        refine r_cons (s_conv (bitLen (u / 2 ^ 16) : Int) rfl us_5 ik_3 (wi64 (by have := bitLen_le8 ((u / 2 ^ 16)) (by omega); omega)) rfl ?_)
        refine r_cons (s_add (16 + (bitLen (u / 2 ^ 16) : Int)) rfl rfl (wi64 (by have := bitLen_le8 (u / 2 ^ 16) (by omega); omega)) rfl ?_)
        refine r_cons (s_assign (.int .i64 (16 + (bitLen (u / 2 ^ 16) : Int))) rfl rfl ?_)
        refine r_nil ?_
        refine g_ret' [.int .i64 (16 + (bitLen (u / 2 ^ 16) : Int))] Try.func115 Try.results115 ⟨rfl, trivial⟩ ?_
        have H12 : St W w F := H
        exact ⟨vint (by have := bitLen_div (u := u) (k := 16) (by omega); omega), H12⟩
    · skip
      refine r_cons (s_geq false rfl rfl (dfalse hc9) rfl ?_)
      refine r_nil ?_
      refine g_false rfl ?_
      refine g_skip ?_
      refine g_seq ?_
      refine g_seq ?_
      refine g_region ?_
      refine r_cons (s_move (.int .u64 (u : Int)) rfl rfl ?_)
      by_cases hc13 : (256 : Int) ≤ (u : Int)
      · skip
        refine r_cons (s_geq true rfl rfl (dtrue hc13) rfl ?_)
        refine r_nil ?_
        refine g_true rfl ?_
        refine g_seq ?_
        refine g_region ?_
        refine r_cons (s_move (.int .u64 (u : Int)) rfl rfl ?_)
        refine r_cons (s_shr ((u / 2 ^ 8 : Nat) : Int) rfl rfl (by omega) (shr_nat (k := 8) rfl (by decide)) rfl ?_)
        refine r_cons (s_assign (.int .u64 ((u / 2 ^ 8 : Nat) : Int)) rfl rfl ?_)
        refine r_nil ?_
        refine g_region ?_
        refine r_cons (s_move (.int .i64 0) rfl rfl ?_)
        refine r_cons (s_add 8 rfl rfl (wi64 (by omega)) rfl ?_)
        refine r_cons (s_assign (.int .i64 8) rfl rfl ?_)
        refine r_nil ?_
        refine g_seq ?_
        refine g_region ?_
        refine r_cons (s_move (.int .i64 8) rfl rfl ?_)
        refine r_cons (s_move (.int .u64 ((u / 2 ^ 8 : Nat) : Int)) rfl rfl ?_)
        refine r_cons (s_conv ((u / 2 ^ 8 : Nat) : Int) rfl us_62 ik_5 (wu8 (by omega)) rfl ?_)
        refine r_cons (s_index_str _ ((u / 2 ^ 8 : Nat) : Int) (bitLen (u / 2 ^ 8) : Int) rfl rfl st_9 (by omega) (len8_str (n := u / 2 ^ 8) (by omega) (by omega)) rfl ?_)
        refine r_cons (s_conv (bitLen (u / 2 ^ 8) : Int) rfl us_5 ik_3 (wi64 (by have := bitLen_le8 ((u / 2 ^ 8)) (by omega); omega)) rfl ?_)
        refine r_cons (s_add (8 + (bitLen (u / 2 ^ 8) : Int)) rfl rfl (wi64 (by have := bitLen_le8 (u / 2 ^ 8) (by omega); omega)) rfl ?_)
        refine r_cons (s_assign (.int .i64 (8 + (bitLen (u / 2 ^ 8) : Int))) rfl rfl ?_)
        refine r_nil ?_
        refine g_ret' [.int .i64 (8 + (bitLen (u / 2 ^ 8) : Int))] Try.func115 Try.results115 ⟨rfl, trivial⟩ ?_
        have H14 : St W w F := H
        exact ⟨vint (by have := bitLen_div (u := u) (k := 8) (by omega); omega), H14⟩
      · skip
        refine r_cons (s_geq false rfl rfl (dfalse hc13) rfl ?_)
        refine r_nil ?_
        refine g_false rfl ?_
        refine g_skip ?_
        refine g_seq ?_
        refine g_region ?_
        refine r_cons (s_move (.int .i64 0) rfl rfl ?_)
        refine r_cons (s_move (.int .u64 (u : Int)) rfl rfl ?_)
        refine r_cons (s_conv (u : Int) rfl us_62 ik_5 (wu8 (by omega)) rfl ?_)
        refine r_cons (s_index_str _ (u : Int) (bitLen (u) : Int) rfl rfl st_9 (by omega) (len8_str (n := u) (by omega) (by omega)) rfl ?_)
        refine r_cons (s_conv (bitLen (u) : Int) rfl us_5 ik_3 (wi64 (by have := bitLen_le8 ((u)) (by omega); omega)) rfl ?_)
        refine r_cons (s_add (0 + (bitLen (u) : Int)) rfl rfl (wi64 (by have := bitLen_le8 (u) (by omega); omega)) rfl ?_)
        refine r_cons (s_assign (.int .i64 (0 + (bitLen (u) : Int))) rfl rfl ?_)
        refine r_nil ?_
        refine g_ret' [.int .i64 (0 + (bitLen (u) : Int))] Try.func115 Try.results115 ⟨rfl, trivial⟩ ?_
        have H15 : St W w F := H
        exact ⟨vint (by omega), H15⟩
set_option maxHeartbeats 4000000 in
set_option maxRecDepth 100000 in
theorem Size {W w : World} {F : List Atom} (u : Nat) (hu : u < 18446744073709551616) (H : St W w F) : Calls Try.prog 108 #[.int .u64 (u : Int)] w (Ret fun v w' => v = .int .i64 (sizeU u : Int) ∧ St W w' F) := by
  refine calls_of_go (n := 10) Try.func108 rfl Try.ntmps108 rfl ?_
  refine g_seq ?_
  refine g_region ?_
  refine r_cons (s_assign (.int .i64 0) rfl rfl ?_)
  refine r_nil ?_
  refine g_seq ?_
  refine g_seq ?_
  refine g_region ?_
  refine r_cons (s_move (.int .u64 (u : Int)) rfl rfl ?_)
  by_cases hc1 : (u : Int) = 18446744073709551615
  · skip
    refine r_cons (s_eql true rfl rfl (dtrue hc1) rfl ?_)
    refine r_nil ?_
    refine g_true rfl ?_
    refine g_seq ?_
    refine g_region ?_
    refine r_cons (s_assign (.int .i64 129) rfl rfl ?_)
    refine r_nil ?_
    refine g_ret' [.int .i64 129] Try.func108 Try.results108 ⟨rfl, trivial⟩ ?_
    have H2 : St W w F := H
    exact ⟨vint (by unfold sizeU; rw [if_pos (by omega)]; rfl), H2⟩
  · skip
    refine r_cons (s_eql false rfl rfl (dfalse hc1) rfl ?_)
    refine r_nil ?_
    refine g_false rfl ?_
    refine g_skip ?_
    refine g_seq ?_
    refine g_region ?_
    refine r_cons (s_move (.int .u64 (u : Int)) rfl rfl ?_)
    refine r_cons (s_add ((u + 1 : Nat) : Int) rfl rfl ((wu64 (by omega)).trans (by omega)) rfl ?_)
    refine r_cons (s_call [.int .u64 ((u + 1 : Nat) : Int)] pl_115 rfl rfl (Len64 (u + 1) (by omega) H) ?_)
    rintro _ w3 ⟨rfl, H4⟩
    refine r_cons (s_mul (2 * (bitLen (u + 1) : Int)) rfl rfl (wi64 (by have := bitLen_le64 (u := u + 1) (by omega); omega)) rfl ?_)
    refine r_cons (s_sub (2 * (bitLen (u + 1) : Int) - 1) rfl rfl (wi64 (by have := bitLen_le64 (u := u + 1) (by omega); omega)) rfl ?_)
    refine r_cons (s_assign (.int .i64 (2 * (bitLen (u + 1) : Int) - 1)) rfl rfl ?_)
    refine r_nil ?_
    refine g_ret' [.int .i64 (2 * (bitLen (u + 1) : Int) - 1)] Try.func108 Try.results108 ⟨rfl, trivial⟩ ?_
    have H5 : St W w3 F := H4
    exact ⟨vint (by unfold sizeU; first | rw [if_pos (by omega)] | (rw [if_neg (by omega)]; have := bitLen_pos (u := u + 1) (by omega); omega)), H5⟩
set_option maxHeartbeats 4000000 in
set_option maxRecDepth 100000 in
theorem NewSink {W w : World} {F : List Atom}  (H : St W w F) : Calls Try.prog 36 #[] w (Ret fun v w' => ∃ k, v = .pointer (some ⟨k, 0, none⟩) ∧ St W w' (SinkA k [] :: F)) := by
  refine calls_of_go (n := 3) Try.func36 rfl Try.ntmps36 rfl ?_
  refine g_seq ?_
  refine g_region ?_
  refine r_cons (s_assign (.pointer none) rfl rfl ?_)
  refine r_nil ?_
  refine g_seq ?_
  refine g_region ?_
  refine r_cons (s_build (cs := #[.bool true, .slice none 0 0, .int .i64 0]) (by kernel_rfl) rfl ?_)
  refine r_cons (s_box H 111 (.agg #[.bool true, .slice none 0 0, .int .i64 0]) rfl (cs := #[.bool true, .slice none 0 0, .int .i64 0]) rfl rfl ?_); intro bk1 w2 H3
  refine r_cons (s_assign (.pointer (some ⟨bk1, 0, none⟩)) rfl rfl ?_)
  refine r_nil ?_
  refine g_ret' [.pointer (some ⟨bk1, 0, none⟩)] Try.func36 Try.results36 ⟨rfl, trivial⟩ ?_
  have H4 : St W w2 (blk bk1 (.cells #[.bool true, .slice none 0 0, .int .i64 0] 111 (0, 0)) :: F) := H3
  have H5 := ((Row.nil_intro H4 5 1).move 1 rfl)
  exact ⟨bk1, rfl, St.shut_ex (.slice none 0 0) (St.shut_star (ls := [blk bk1 (.cells #[.bool true, .slice none 0 0, .int .i64 (([] : List Bool).length : Int)] 111 (0, 0)), Row 5 1 (.slice none 0 0) ((([] : List Bool).length + 7) / 8) ((pk []).flatMap u8c)]) H5)⟩
set_option maxHeartbeats 4000000 in
set_option maxRecDepth 100000 in
theorem Sink_Len {W w : World} {F : List Atom} (b : Nat) (L : List Bool)  {i : Nat} (hi : F[i]? = some (SinkA b L)) (H : St W w F) : Calls Try.prog 37 #[.pointer (some ⟨b, 0, none⟩)] w (Ret fun v w' => v = .int .i64 (L.length : Int) ∧ St W w' F) := by
  have H0 := H.front hi
  refine calls_of_go (n := 9) Try.func37 rfl Try.ntmps37 rfl ?_
  refine g_seq ?_
  refine g_region ?_
  refine r_cons (s_assign (.int .i64 0) rfl rfl ?_)
  refine r_nil ?_
  refine g_seq ?_
  refine g_seq ?_
  refine g_region ?_
  refine r_cons (s_move (.pointer (some ⟨b, 0, none⟩)) rfl rfl ?_)
  refine r_cons (s_peql false un_59 rfl rfl rfl rfl ?_)
  refine r_nil ?_
  refine g_false rfl ?_
  refine g_skip ?_
  refine g_seq ?_
  refine g_region ?_
  refine r_cons (s_move (.pointer (some ⟨b, 0, none⟩)) rfl rfl ?_)
  refine r_cons (s_nilCheck (.pointer (some ⟨b, 0, none⟩)) rfl ⟨_, rfl⟩ rfl ?_)
  refine r_cons (s_fieldAddr 111 2 2 2 3 rfl fi_111_2 rfl rfl ?_)
  have H1 := H0.move 0 rfl
  obtain ⟨vv2, H3⟩ := St.open_ex H1
  have H4 := St.open_star H3
  obtain ⟨pp5, cc6, rfl⟩ := Row.slice (i := 1) H4 rfl
  have H7 : St W w (blk b (.cells #[.bool true, .slice pp5 ((L.length + 7) / 8) cc6, .int .i64 (L.length : Int)] 111 (0, 0)) :: Row 5 1 (.slice pp5 ((L.length + 7) / 8) cc6) ((L.length + 7) / 8) ((pk L).flatMap u8c) :: (F.set i emp)) := H4
  refine r_cons (s_load (.int .i64 (L.length : Int)) ag_3 rfl (H7.blk_at (i := 0) rfl) rfl rfl ?_)
  refine r_cons (s_assign (.int .i64 (L.length : Int)) rfl rfl ?_)
  refine r_nil ?_
  refine g_ret' [.int .i64 (L.length : Int)] Try.func37 Try.results37 ⟨rfl, trivial⟩ ?_
  have H8 : St W w (SinkA b L :: (F.set i emp)) := St.shut_ex (.slice pp5 ((L.length + 7) / 8) cc6) (St.shut_star (ls := [blk b (.cells #[.bool true, .slice pp5 ((L.length + 7) / 8) cc6, .int .i64 (L.length : Int)] 111 (0, 0)), Row 5 1 (.slice pp5 ((L.length + 7) / 8) cc6) ((L.length + 7) / 8) ((pk L).flatMap u8c)]) H7)
  have H9 : St W w (SinkA b L :: (F.set i emp)) := H8
  exact ⟨rfl, St.back_same hi H9⟩
set_option maxHeartbeats 4000000 in
set_option maxRecDepth 100000 in
theorem Sink_room {W w : World} {F : List Atom} (b : Nat) (L : List Bool) (n : Int) (hb : L.length ≤ 1048576) {i : Nat} (hi : F[i]? = some (SinkA b L)) (H : St W w F) : Calls Try.prog 73 #[.pointer (some ⟨b, 0, none⟩), .int .i64 n] w (Ret fun v w' => v = .int .i64 (putE L n) ∧ St W w' F) := by
  have H0 := H.front hi
  refine calls_of_go (n := 23) Try.func73 rfl Try.ntmps73 rfl ?_
  refine g_seq ?_
  refine g_region ?_
  refine r_cons (s_assign (.int .i64 0) rfl rfl ?_)
  refine r_nil ?_
  refine g_seq ?_
  refine g_block ?_
  refine g_seq ?_
  refine g_region ?_
  refine r_cons (s_move (.pointer (some ⟨b, 0, none⟩)) rfl rfl ?_)
  refine r_cons (s_peql false un_59 rfl rfl rfl rfl ?_)
  refine r_cons (s_move (.bool false) rfl rfl ?_)
  refine r_cons (r_take rfl rfl ?_)
  refine s_move (.pointer (some ⟨b, 0, none⟩)) rfl rfl ?_
  refine r_cons (r_take rfl rfl ?_)
  refine s_nilCheck (.pointer (some ⟨b, 0, none⟩)) rfl ⟨_, rfl⟩ rfl ?_
  refine r_cons (r_take rfl rfl ?_)
  refine s_fieldAddr 111 0 0 0 4 rfl fi_111_0 rfl rfl ?_
  refine r_cons (r_take rfl rfl ?_)
  have H1 := H0.move 0 rfl
  obtain ⟨vv2, H3⟩ := St.open_ex H1
  have H4 := St.open_star H3
  obtain ⟨pp5, cc6, rfl⟩ := Row.slice (i := 1) H4 rfl
  have H7 : St W w (blk b (.cells #[.bool true, .slice pp5 ((L.length + 7) / 8) cc6, .int .i64 (L.length : Int)] 111 (0, 0)) :: Row 5 1 (.slice pp5 ((L.length + 7) / 8) cc6) ((L.length + 7) / 8) ((pk L).flatMap u8c) :: (F.set i emp)) := H4
  refine s_load (.bool true) ag_4 rfl (H7.blk_at (i := 0) rfl) rfl rfl ?_
  refine r_cons (r_take rfl rfl ?_)
  refine s_not true rfl false rfl rfl ?_
  refine r_cons (s_pick_f (.bool false) rfl rfl rfl ?_)
  refine r_cons (s_assign (.bool false) rfl rfl ?_)
  refine r_nil ?_
  refine g_false rfl ?_
  refine g_seq ?_
  refine g_region ?_
  refine r_cons (s_move (.int .i64 n) rfl rfl ?_)
  refine r_cons (s_move (.pointer (some ⟨b, 0, none⟩)) rfl rfl ?_)
  refine r_cons (s_nilCheck (.pointer (some ⟨b, 0, none⟩)) rfl ⟨_, rfl⟩ rfl ?_)
  refine r_cons (s_fieldAddr 111 2 2 2 3 rfl fi_111_2 rfl rfl ?_)
  refine r_cons (s_load (.int .i64 (L.length : Int)) ag_3 rfl (H7.blk_at (i := 0) rfl) rfl rfl ?_)
  refine r_cons (s_sub (1048576 - (L.length : Int)) rfl rfl (wi64 (by omega)) rfl ?_)
  by_cases hc8 : 1048576 - (L.length : Int) < n
  · skip
    refine r_cons (s_gtr true rfl rfl (dtrue hc8) rfl ?_)
    refine r_cons (s_assign (.bool true) rfl rfl ?_)
    refine r_nil ?_
    refine g_true rfl ?_
    refine g_seq ?_
    refine g_region ?_
    refine r_cons (s_assign (.int .i64 3) rfl rfl ?_)
    refine r_nil ?_
    refine g_ret' [.int .i64 3] Try.func73 Try.results73 ⟨rfl, trivial⟩ ?_
    have H9 : St W w (SinkA b L :: (F.set i emp)) := St.shut_ex (.slice pp5 ((L.length + 7) / 8) cc6) (St.shut_star (ls := [blk b (.cells #[.bool true, .slice pp5 ((L.length + 7) / 8) cc6, .int .i64 (L.length : Int)] 111 (0, 0)), Row 5 1 (.slice pp5 ((L.length + 7) / 8) cc6) ((L.length + 7) / 8) ((pk L).flatMap u8c)]) H7)
    have H10 : St W w (SinkA b L :: (F.set i emp)) := H9
    exact ⟨vint (by first | exact (putE_3 ‹_›).symm | exact (putE_0 ‹_›).symm), St.back_same hi H10⟩
  · skip
    refine r_cons (s_gtr false rfl rfl (dfalse hc8) rfl ?_)
    refine r_cons (s_assign (.bool false) rfl rfl ?_)
    refine r_nil ?_
    refine g_false rfl ?_
    refine g_skip ?_
    refine g_inBlock ?_
    refine g_seq ?_
    refine g_region ?_
    refine r_cons (s_assign (.int .i64 0) rfl rfl ?_)
    refine r_nil ?_
    refine g_ret' [.int .i64 0] Try.func73 Try.results73 ⟨rfl, trivial⟩ ?_
    have H11 : St W w (SinkA b L :: (F.set i emp)) := St.shut_ex (.slice pp5 ((L.length + 7) / 8) cc6) (St.shut_star (ls := [blk b (.cells #[.bool true, .slice pp5 ((L.length + 7) / 8) cc6, .int .i64 (L.length : Int)] 111 (0, 0)), Row 5 1 (.slice pp5 ((L.length + 7) / 8) cc6) ((L.length + 7) / 8) ((pk L).flatMap u8c)]) H7)
    have H12 : St W w (SinkA b L :: (F.set i emp)) := H11
    exact ⟨vint (by first | exact (putE_3 ‹_›).symm | exact (putE_0 ‹_›).symm), St.back_same hi H12⟩
set_option maxHeartbeats 4000000 in
set_option maxRecDepth 100000 in
theorem Sink_all {W w : World} {F : List Atom} (b : Nat) (L : List Bool) (u n : Nat) (hu : u < 18446744073709551616) (hn : n ≤ 64) (hb : L.length ≤ 1099511000000) {i : Nat} (hi : F[i]? = some (SinkA b L)) (H : St W w F) : Calls Try.prog 74 #[.pointer (some ⟨b, 0, none⟩), .int .u64 (u : Int), .int .i64 (n : Int)] w (Ret fun v w' => v = .tuple #[] ∧ St W w' (F.set i (SinkA b (L ++ lowB u n)))) := by
  have H0 := H.front hi
  refine calls_of_go (n := 22) Try.func74 rfl Try.ntmps74 rfl ?_
  refine g_seq ?_
  refine g_region ?_
  refine r_cons (s_move (.int .i64 (n : Int)) rfl rfl ?_)
  refine r_cons (s_move (.int .i64 0) rfl rfl ?_)
  refine r_nil ?_
  refine g_block ?_
  have H1 : St W w (SinkA b (L ++ lowK u n 0) :: (F.set i emp)) := by rw [show L ++ lowK u n 0 = L from List.append_nil L]; exact H0
  refine g_loop_inv (fun (x_ : Nat) => match x_ with | j => [(0, .pointer (some ⟨b, 0, none⟩)), (1, .int .u64 (u : Int)), (2, .int .i64 (n : Int)), (7, .int .i64 (n : Int)), (8, .int .i64 (j : Int))]) (fun (x_ : Nat) w => match x_ with | j => (j ≤ n) ∧ St W w (SinkA b (L ++ lowK u n j) :: (F.set i emp))) (fun (x_ : Nat) => match x_ with | j => n - j) (0) ?_ ?_ ?_
  · exact ⟨by first | rfl | exact vint (by omega), by first | rfl | exact vint (by omega), by first | rfl | exact vint (by omega), by first | rfl | exact vint (by omega), by first | rfl | exact vint (by omega), trivial⟩
  · exact ⟨(by omega), H1⟩
  · rintro j ρ2 w3 ⟨hj, H4⟩ nx5
    change Ends _ _ (upds ρ2 [(0, .pointer (some ⟨b, 0, none⟩)), (1, .int .u64 (u : Int)), (2, .int .i64 (n : Int)), (7, .int .i64 (n : Int)), (8, .int .i64 (j : Int))]) w3
    refine g_seq ?_
    refine g_region ?_
    by_cases hc6 : (j : Int) < (n : Int)
    · skip
      refine r_cons (s_lss true rfl rfl (dtrue hc6) rfl ?_)
      refine r_nil ?_
      refine g_seq ?_
      refine g_true rfl ?_
      refine g_skip ?_
      refine g_seq ?_
      refine g_block ?_
      refine g_seq ?_
      refine g_region ?_
      refine r_cons (s_move (.int .i64 (j : Int)) rfl rfl ?_)
      refine r_cons (s_assign (.int .i64 (j : Int)) rfl rfl ?_)
      refine r_nil ?_
      refine g_region ?_
      refine r_cons (s_move (.pointer (some ⟨b, 0, none⟩)) rfl rfl ?_)
      refine r_cons (s_move (.int .u64 (u : Int)) rfl rfl ?_)
      refine r_cons (s_move (.int .i64 (n : Int)) rfl rfl ?_)
      refine r_cons (s_sub ((n : Int) - 1) rfl rfl (wi64 (by omega)) rfl ?_)
      refine r_cons (s_move (.int .i64 (j : Int)) rfl rfl ?_)
      refine r_cons (s_sub ((n : Int) - 1 - (j : Int)) rfl rfl (wi64 (by omega)) rfl ?_)
      refine r_cons (s_shr ((u / 2 ^ (n - 1 - j) : Nat) : Int) rfl rfl (by omega) (shr_nat (k := n - 1 - j) (by omega) (by show _ ≤ 64; omega)) rfl ?_)
      refine r_cons (s_and ((u / 2 ^ (n - 1 - j) % 2 : Nat) : Int) rfl rfl (and_one _ (Nat.lt_of_le_of_lt (Nat.div_le_self _ _) hu)) rfl ?_)
      refine r_cons (s_eql (u.testBit (n - 1 - j)) rfl rfl (bit_is u (n - 1 - j)) rfl ?_)
      refine r_cons (s_call [.pointer (some ⟨b, 0, none⟩), .bool (u.testBit (n - 1 - j))] pl_92 rfl rfl (Sink_put b (L ++ lowK u n j) (u.testBit (n - 1 - j)) (by (try simp only [List.length_append, List.length_cons, List.length_nil, lowK_len, lowB_len]); omega) (i := 0) rfl H4) ?_)
      rintro _ w7 ⟨rfl, H8⟩
      refine r_nil ?_
      refine g_inBlock ?_
      refine g_region ?_
      refine r_cons (s_add ((j : Int) + 1) rfl rfl (wi64 (by omega)) rfl ?_)
      refine r_cons (s_move (.int .i64 ((j : Int) + 1)) rfl rfl ?_)
      refine r_nil ?_
      have H9 : St W w7 (SinkA b ((L ++ lowK u n j) ++ [u.testBit (n - 1 - j)]) :: (F.set i emp)) := H8
      have H10 : St W w7 (SinkA b (L ++ lowK u n (j + 1)) :: (F.set i emp)) := by rw [← app_lowK]; exact H9
      exact nx5 (j + 1) _ _ ⟨(by omega), H10⟩ (by first | (dsimp only; omega) | omega) ⟨by first | rfl | exact vint (by omega), by first | rfl | exact vint (by omega), by first | rfl | exact vint (by omega), by first | rfl | exact vint (by omega), by first | rfl | exact vint (by omega), trivial⟩
    · skip
      refine r_cons (s_lss false rfl rfl (dfalse hc6) rfl ?_)
      refine r_nil ?_
      refine g_seq ?_
      refine g_false rfl ?_
      refine g_exit (by rfl) ?_
      refine g_end' [] Try.func74 Try.results74 trivial ?_
      have H11 : St W w3 (SinkA b (L ++ lowK u n j) :: (F.set i emp)) := H4
      obtain rfl : j = n := by omega
      exact ⟨rfl, St.back hi H11⟩
set_option maxHeartbeats 4000000 in
set_option maxRecDepth 100000 in
theorem Sink_nat {W w : World} {F : List Atom} (b : Nat) (L : List Bool) (u : Nat) (hu : u < 18446744073709551616) (hb : L.length ≤ 1048576) {i : Nat} (hi : F[i]? = some (SinkA b L)) (H : St W w F) : Calls Try.prog 109 #[.pointer (some ⟨b, 0, none⟩), .int .u64 (u : Int)] w (Ret fun v w' => v = .tuple #[] ∧ St W w' (F.set i (SinkA b (L ++ natB u)))) := by
  have H0 := H.front hi
  refine calls_of_go (n := 23) Try.func109 rfl Try.ntmps109 rfl ?_
  refine g_seq ?_
  refine g_region ?_
  refine r_cons (s_move (.int .u64 (u : Int)) rfl rfl ?_)
  refine r_cons (s_call [.int .u64 (u : Int)] pl_108 rfl rfl (Size (u) (by omega) H0) ?_)
  rintro _ w1 ⟨rfl, H2⟩
  have hsz := sizeU_le hu
  refine r_cons (s_quo ((sizeU u / 2 : Nat) : Int) rfl rfl (by omega) (by rw [tdiv_pos (by omega)]; exact (wi64 (by omega)).trans (by omega)) rfl ?_)
  refine r_cons (s_assign (.int .i64 ((sizeU u / 2 : Nat) : Int)) rfl rfl ?_)
  refine r_nil ?_
  refine g_seq ?_
  refine g_region ?_
  refine r_cons (s_move (.pointer (some ⟨b, 0, none⟩)) rfl rfl ?_)
  refine r_cons (s_move (.int .i64 ((sizeU u / 2 : Nat) : Int)) rfl rfl ?_)
  refine r_cons (s_call [.pointer (some ⟨b, 0, none⟩), .int .u64 0, .int .i64 ((sizeU u / 2 : Nat) : Int)] pl_74 rfl rfl (Sink_all b L (0) (sizeU u / 2) (by omega) (by omega) (by (try simp only [List.length_append, List.length_cons, List.length_nil, lowB_len]); omega) (i := 0) rfl H2) ?_)
  rintro _ w3 ⟨rfl, H4⟩
  refine r_nil ?_
  refine g_seq ?_
  refine g_seq ?_
  refine g_region ?_
  refine r_cons (s_move (.int .i64 ((sizeU u / 2 : Nat) : Int)) rfl rfl ?_)
  by_cases hc5 : ((sizeU u / 2 : Nat) : Int) = 64
  · skip
    refine r_cons (s_eql true rfl rfl (dtrue hc5) rfl ?_)
    refine r_nil ?_
    refine g_true rfl ?_
    refine g_seq ?_
    refine g_region ?_
    refine r_cons (s_move (.pointer (some ⟨b, 0, none⟩)) rfl rfl ?_)
    refine r_cons (s_call [.pointer (some ⟨b, 0, none⟩), .bool true] pl_92 rfl rfl (Sink_put b (L ++ lowB 0 (sizeU u / 2)) true (by (try simp only [List.length_append, List.length_cons, List.length_nil, lowK_len, lowB_len]); omega) (i := 0) rfl H4) ?_)
    rintro _ w6 ⟨rfl, H7⟩
    refine r_nil ?_
    refine g_seq ?_
    refine g_region ?_
    refine r_cons (s_move (.pointer (some ⟨b, 0, none⟩)) rfl rfl ?_)
    refine r_cons (s_call [.pointer (some ⟨b, 0, none⟩), .int .u64 0, .int .i64 64] pl_74 rfl rfl (Sink_all b ((L ++ lowB 0 (sizeU u / 2)) ++ [true]) (0) (64) (by omega) (by omega) (by (try simp only [List.length_append, List.length_cons, List.length_nil, lowB_len]); omega) (i := 0) rfl H7) ?_)
    rintro _ w8 ⟨rfl, H9⟩
    refine r_nil ?_
    refine g_ret' [] Try.func109 Try.results109 trivial ?_
    have H10 : St W w8 (SinkA b ((L ++ lowB 0 (sizeU u / 2)) ++ [true] ++ lowB 0 64) :: (F.set i emp)) := H9
    have hL : L ++ natB u = (L ++ lowB 0 (sizeU u / 2)) ++ [true] ++ lowB 0 64 := by rw [natB_max ((sizeU_64 hu).1 (by omega))]; simp only [List.append_assoc]
    exact ⟨rfl, by rw [hL]; exact St.back hi H10⟩
  · skip
    refine r_cons (s_eql false rfl rfl (dfalse hc5) rfl ?_)
    refine r_nil ?_
    refine g_false rfl ?_
    refine g_skip ?_
    refine g_region ?_
    have hne : u + 1 < 18446744073709551616 := by have := (sizeU_64 hu); omega
    refine r_cons (s_move (.pointer (some ⟨b, 0, none⟩)) rfl rfl ?_)
    refine r_cons (s_move (.int .u64 (u : Int)) rfl rfl ?_)
    refine r_cons (s_add ((u + 1 : Nat) : Int) rfl rfl ((wu64 (by omega)).trans (by omega)) rfl ?_)
    refine r_cons (s_move (.int .i64 ((sizeU u / 2 : Nat) : Int)) rfl rfl ?_)
    refine r_cons (s_add ((sizeU u / 2 + 1 : Nat) : Int) rfl rfl ((wi64 (by omega)).trans (by omega)) rfl ?_)
    refine r_cons (s_call [.pointer (some ⟨b, 0, none⟩), .int .u64 ((u + 1 : Nat) : Int), .int .i64 ((sizeU u / 2 + 1 : Nat) : Int)] pl_74 rfl rfl (Sink_all b (L ++ lowB 0 (sizeU u / 2)) (u + 1) (sizeU u / 2 + 1) (by omega) (by omega) (by (try simp only [List.length_append, List.length_cons, List.length_nil, lowB_len]); omega) (i := 0) rfl H4) ?_)
    rintro _ w11 ⟨rfl, H12⟩
    refine r_nil ?_
    refine g_end' [] Try.func109 Try.results109 trivial ?_
    have H13 : St W w11 (SinkA b (L ++ lowB 0 (sizeU u / 2) ++ lowB (u + 1) (sizeU u / 2 + 1)) :: (F.set i emp)) := H12
    have hL : L ++ natB u = L ++ lowB 0 (sizeU u / 2) ++ lowB (u + 1) (sizeU u / 2 + 1) := by rw [natB_is (fun h => by have := (sizeU_64 hu).2 h; omega)]; simp only [List.append_assoc]
    exact ⟨rfl, by rw [hL]; exact St.back hi H13⟩
set_option maxHeartbeats 4000000 in
set_option maxRecDepth 100000 in
theorem Sink_Nat {W w : World} {F : List Atom} (b : Nat) (L : List Bool) (u : Nat) (hu : u < 18446744073709551616) (hb : L.length ≤ 1048576) {i : Nat} (hi : F[i]? = some (SinkA b L)) (H : St W w F) : Calls Try.prog 94 #[.pointer (some ⟨b, 0, none⟩), .int .u64 (u : Int)] w (Ret fun v w' => v = .int .i64 (putE L (sizeU u : Int)) ∧ St W w' (F.set i (SinkA b (putL L (natB u))))) := by
  have H0 := H.front hi
  refine calls_of_go (n := 16) Try.func94 rfl Try.ntmps94 rfl ?_
  refine g_seq ?_
  refine g_region ?_
  refine r_cons (s_assign (.int .i64 0) rfl rfl ?_)
  refine r_nil ?_
  refine g_seq ?_
  refine g_region ?_
  refine r_cons (s_move (.pointer (some ⟨b, 0, none⟩)) rfl rfl ?_)
  refine r_cons (s_move (.int .u64 (u : Int)) rfl rfl ?_)
  refine r_cons (s_call [.int .u64 (u : Int)] pl_108 rfl rfl (Size (u) (by omega) H0) ?_)
  rintro _ w1 ⟨rfl, H2⟩
  refine r_cons (s_call [.pointer (some ⟨b, 0, none⟩), .int .i64 (sizeU u : Int)] pl_73 rfl rfl (Sink_room b L (sizeU u : Int) (by first | omega | (simp only [List.length_append, List.length_nil, lowB_len, natB_len]; omega) | (repeat (first | exact Nat.zero_le _ | assumption | refine putL_le ?_ | refine bitsL_le ?_ | refine evPutL_le ?_ | (simp only [List.length_append, List.length_nil, lowB_len, natB_len]; omega)))) (i := 0) rfl H2) ?_)
  rintro _ w3 ⟨rfl, H4⟩
  refine r_cons (s_assign (.int .i64 (putE L (sizeU u : Int))) rfl rfl ?_)
  refine r_nil ?_
  refine g_seq ?_
  refine g_seq ?_
  refine g_region ?_
  refine r_cons (s_move (.int .i64 (putE L (sizeU u : Int))) rfl rfl ?_)
  by_cases hc5 : putE L (sizeU u : Int) = 0
  · skip
    refine r_cons (s_eql true rfl rfl (dtrue hc5) rfl ?_)
    refine r_nil ?_
    refine g_true rfl ?_
    refine g_region ?_
    refine r_cons (s_move (.pointer (some ⟨b, 0, none⟩)) rfl rfl ?_)
    refine r_cons (s_move (.int .u64 (u : Int)) rfl rfl ?_)
    refine r_cons (s_call [.pointer (some ⟨b, 0, none⟩), .int .u64 (u : Int)] pl_109 rfl rfl (Sink_nat b L (u) (by omega) (by first | omega | (simp only [List.length_append, List.length_nil, lowB_len, natB_len]; omega) | (repeat (first | exact Nat.zero_le _ | assumption | refine putL_le ?_ | refine bitsL_le ?_ | refine evPutL_le ?_ | (simp only [List.length_append, List.length_nil, lowB_len, natB_len]; omega)))) (i := 0) rfl H4) ?_)
    rintro _ w6 ⟨rfl, H7⟩
    refine r_nil ?_
    refine g_seq ?_
    refine g_region ?_
    refine r_cons (s_move (.int .i64 (putE L (sizeU u : Int))) rfl rfl ?_)
    refine r_cons (s_assign (.int .i64 (putE L (sizeU u : Int))) rfl rfl ?_)
    refine r_nil ?_
    refine g_ret' [.int .i64 (putE L (sizeU u : Int))] Try.func94 Try.results94 ⟨rfl, trivial⟩ ?_
    have H8 : St W w6 (SinkA b (L ++ natB u) :: (F.set i emp)) := H7
    exact ⟨rfl, by rw [putL_0 (M := natB u) (n := (sizeU u : Int)) (by rw [natB_len]) ‹_›]; exact St.back hi H8⟩
  · skip
    refine r_cons (s_eql false rfl rfl (dfalse hc5) rfl ?_)
    refine r_nil ?_
    refine g_false rfl ?_
    refine g_skip ?_
    refine g_seq ?_
    refine g_region ?_
    refine r_cons (s_move (.int .i64 (putE L (sizeU u : Int))) rfl rfl ?_)
    refine r_cons (s_assign (.int .i64 (putE L (sizeU u : Int))) rfl rfl ?_)
    refine r_nil ?_
    refine g_ret' [.int .i64 (putE L (sizeU u : Int))] Try.func94 Try.results94 ⟨rfl, trivial⟩ ?_
    have H9 : St W w3 (SinkA b L :: (F.set i emp)) := H4
    exact ⟨rfl, by rw [putL_no (M := natB u) (n := (sizeU u : Int)) (by rw [natB_len]) ‹_›]; exact St.back hi H9⟩
set_option maxHeartbeats 4000000 in
set_option maxRecDepth 100000 in
theorem Sink_Num {W w : World} {F : List Atom} (b : Nat) (L : List Bool) (n : Int) (h1 : -9223372036854775808 ≤ n) (h2 : n ≤ 9223372036854775807) (hb : L.length ≤ 1048576) {i : Nat} (hi : F[i]? = some (SinkA b L)) (H : St W w F) : Calls Try.prog 96 #[.pointer (some ⟨b, 0, none⟩), .int .i64 n] w (Ret fun v w' => v = .int .i64 (putE L (sizeU (zigN n) : Int)) ∧ St W w' (F.set i (SinkA b (putL L (natB (zigN n)))))) := by
  have H0 := H.front hi
  refine calls_of_go (n := 13) Try.func96 rfl Try.ntmps96 rfl ?_
  refine g_seq ?_
  refine g_region ?_
  refine r_cons (s_assign (.int .i64 0) rfl rfl ?_)
  refine r_nil ?_
  refine g_seq ?_
  refine g_region ?_
  refine r_cons (s_move (.pointer (some ⟨b, 0, none⟩)) rfl rfl ?_)
  refine r_cons (s_move (.int .i64 n) rfl rfl ?_)
  refine r_cons (s_shl (IntKind.i64.wrap (n * 2 ^ (min (1 : Int).toNat 64))) rfl rfl (by omega) rfl rfl ?_)
  refine r_cons (s_move (.int .i64 n) rfl rfl ?_)
  refine r_cons (s_shr (n.fdiv (2 ^ (min (63 : Int).toNat 64))) rfl rfl (by omega) rfl rfl ?_)
  refine r_cons (s_xor (bitOp .xor .i64 (IntKind.i64.wrap (n * 2 ^ (min (1 : Int).toNat 64))) (n.fdiv (2 ^ (min (63 : Int).toNat 64)))) rfl rfl rfl rfl ?_)
  refine r_cons (s_conv ((zigN n : Nat) : Int) rfl us_2 ik_62 (zig_bits h1 h2) rfl ?_)
  have hz := zigN_lt h1 h2
  refine r_cons (s_call [.pointer (some ⟨b, 0, none⟩), .int .u64 ((zigN n : Nat) : Int)] pl_94 rfl rfl (Sink_Nat b L (zigN n) (by omega) (by first | omega | (simp only [List.length_append, List.length_nil, lowB_len, natB_len]; omega) | (repeat (first | exact Nat.zero_le _ | assumption | refine putL_le ?_ | refine bitsL_le ?_ | refine evPutL_le ?_ | (simp only [List.length_append, List.length_nil, lowB_len, natB_len]; omega)))) (i := 0) rfl H0) ?_)
  rintro _ w1 ⟨rfl, H2⟩
  refine r_cons (s_assign (.int .i64 (putE L (sizeU (zigN n) : Int))) rfl rfl ?_)
  refine r_nil ?_
  refine g_ret' [.int .i64 (putE L (sizeU (zigN n) : Int))] Try.func96 Try.results96 ⟨rfl, trivial⟩ ?_
  have H3 : St W w1 (SinkA b (putL L (natB (zigN n))) :: (F.set i emp)) := H2
  exact ⟨rfl, St.back hi H3⟩
set_option maxHeartbeats 4000000 in
set_option maxRecDepth 100000 in
theorem Sink_Bits {W w : World} {F : List Atom} (b : Nat) (L : List Bool) (u : Nat) (n : Int) (hu : u < 18446744073709551616) (hb : L.length ≤ 1048576) {i : Nat} (hi : F[i]? = some (SinkA b L)) (H : St W w F) : Calls Try.prog 38 #[.pointer (some ⟨b, 0, none⟩), .int .u64 (u : Int), .int .i64 n] w (Ret fun v w' => v = .int .i64 (bitsE L u n) ∧ St W w' (F.set i (SinkA b (bitsL L u n)))) := by
  have H0 := H.front hi
  refine calls_of_go (n := 43) Try.func38 rfl Try.ntmps38 rfl ?_
  refine g_seq ?_
  refine g_region ?_
  refine r_cons (s_assign (.int .i64 0) rfl rfl ?_)
  refine r_nil ?_
  refine g_seq ?_
  refine g_seq ?_
  refine g_region ?_
  refine r_cons (s_move (.pointer (some ⟨b, 0, none⟩)) rfl rfl ?_)
  refine r_cons (s_peql false un_59 rfl rfl rfl rfl ?_)
  refine r_cons (s_move (.bool false) rfl rfl ?_)
  refine r_cons (r_take rfl rfl ?_)
  refine s_move (.pointer (some ⟨b, 0, none⟩)) rfl rfl ?_
  refine r_cons (r_take rfl rfl ?_)
  refine s_nilCheck (.pointer (some ⟨b, 0, none⟩)) rfl ⟨_, rfl⟩ rfl ?_
  refine r_cons (r_take rfl rfl ?_)
  refine s_fieldAddr 111 0 0 0 4 rfl fi_111_0 rfl rfl ?_
  refine r_cons (r_take rfl rfl ?_)
  have H1 := H0.move 0 rfl
  obtain ⟨vv2, H3⟩ := St.open_ex H1
  have H4 := St.open_star H3
  obtain ⟨pp5, cc6, rfl⟩ := Row.slice (i := 1) H4 rfl
  have H7 : St W w (blk b (.cells #[.bool true, .slice pp5 ((L.length + 7) / 8) cc6, .int .i64 (L.length : Int)] 111 (0, 0)) :: Row 5 1 (.slice pp5 ((L.length + 7) / 8) cc6) ((L.length + 7) / 8) ((pk L).flatMap u8c) :: (F.set i emp)) := H4
  refine s_load (.bool true) ag_4 rfl (H7.blk_at (i := 0) rfl) rfl rfl ?_
  refine r_cons (r_take rfl rfl ?_)
  refine s_not true rfl false rfl rfl ?_
  refine r_cons (s_pick_f (.bool false) rfl rfl rfl ?_)
  refine r_nil ?_
  refine g_false rfl ?_
  refine g_skip ?_
  refine g_seq ?_
  refine g_seq ?_
  refine g_region ?_
  refine r_cons (s_move (.int .i64 n) rfl rfl ?_)
  by_cases hc8 : n < 0
  · skip
    refine r_cons (s_lss true rfl rfl (dtrue hc8) rfl ?_)
    refine r_cons (s_move (.bool true) rfl rfl ?_)
    refine r_cons (r_pass rfl rfl rfl rfl rfl ?_)
    refine r_cons (r_pass rfl rfl rfl rfl rfl ?_)
    refine r_cons (s_pick_t (.bool true) rfl rfl rfl ?_)
    refine r_cons (s_move (.bool true) rfl rfl ?_)
    refine r_cons (r_pass rfl rfl rfl rfl rfl ?_)
    refine r_cons (r_pass rfl rfl rfl rfl rfl ?_)
    refine r_cons (r_pass rfl rfl rfl rfl rfl ?_)
    refine r_cons (r_passN rfl rfl rfl rfl ?_)
    refine r_cons (r_passN rfl rfl rfl rfl ?_)
    refine r_cons (r_passN rfl rfl rfl rfl ?_)
    refine r_cons (r_passN rfl rfl rfl rfl ?_)
    refine r_cons (r_pass rfl rfl rfl rfl rfl ?_)
    refine r_cons (s_pick_t (.bool true) rfl rfl rfl ?_)
    refine r_nil ?_
    refine g_true rfl ?_
    refine g_seq ?_
    refine g_region ?_
    refine r_cons (s_assign (.int .i64 1) rfl rfl ?_)
    refine r_nil ?_
    refine g_ret' [.int .i64 1] Try.func38 Try.results38 ⟨rfl, trivial⟩ ?_
    have H9 : St W w (SinkA b L :: (F.set i emp)) := St.shut_ex (.slice pp5 ((L.length + 7) / 8) cc6) (St.shut_star (ls := [blk b (.cells #[.bool true, .slice pp5 ((L.length + 7) / 8) cc6, .int .i64 (L.length : Int)] 111 (0, 0)), Row 5 1 (.slice pp5 ((L.length + 7) / 8) cc6) ((L.length + 7) / 8) ((pk L).flatMap u8c)]) H7)
    have H10 : St W w (SinkA b L :: (F.set i emp)) := H9
    have hf : fitsB u n = false := by first | exact fits_not1 (by omega) | exact fits_not2 ‹_›
    exact ⟨vint (by unfold bitsE; rw [if_neg (by rw [hf]; simp)]), by rw [show bitsL L u n = L from if_neg (by rw [hf]; simp)]; exact St.back hi H10⟩
  · skip
    refine r_cons (s_lss false rfl rfl (dfalse hc8) rfl ?_)
    refine r_cons (s_move (.bool false) rfl rfl ?_)
    refine r_cons (r_take rfl rfl ?_)
    refine s_move (.int .i64 n) rfl rfl ?_
    refine r_cons (r_take rfl rfl ?_)
    by_cases hc11 : (64 : Int) < n
    · skip
      refine s_gtr true rfl rfl (dtrue hc11) rfl ?_
      refine r_cons (s_pick_f (.bool true) rfl rfl rfl ?_)
      refine r_cons (s_move (.bool true) rfl rfl ?_)
      refine r_cons (r_pass rfl rfl rfl rfl rfl ?_)
      refine r_cons (r_pass rfl rfl rfl rfl rfl ?_)
      refine r_cons (r_pass rfl rfl rfl rfl rfl ?_)
      refine r_cons (r_passN rfl rfl rfl rfl ?_)
      refine r_cons (r_passN rfl rfl rfl rfl ?_)
      refine r_cons (r_passN rfl rfl rfl rfl ?_)
      refine r_cons (r_passN rfl rfl rfl rfl ?_)
      refine r_cons (r_pass rfl rfl rfl rfl rfl ?_)
      refine r_cons (s_pick_t (.bool true) rfl rfl rfl ?_)
      refine r_nil ?_
      refine g_true rfl ?_
      refine g_seq ?_
      refine g_region ?_
      refine r_cons (s_assign (.int .i64 1) rfl rfl ?_)
      refine r_nil ?_
      refine g_ret' [.int .i64 1] Try.func38 Try.results38 ⟨rfl, trivial⟩ ?_
      have H12 : St W w (SinkA b L :: (F.set i emp)) := St.shut_ex (.slice pp5 ((L.length + 7) / 8) cc6) (St.shut_star (ls := [blk b (.cells #[.bool true, .slice pp5 ((L.length + 7) / 8) cc6, .int .i64 (L.length : Int)] 111 (0, 0)), Row 5 1 (.slice pp5 ((L.length + 7) / 8) cc6) ((L.length + 7) / 8) ((pk L).flatMap u8c)]) H7)
      have H13 : St W w (SinkA b L :: (F.set i emp)) := H12
      have hf : fitsB u n = false := by first | exact fits_not1 (by omega) | exact fits_not2 ‹_›
      exact ⟨vint (by unfold bitsE; rw [if_neg (by rw [hf]; simp)]), by rw [show bitsL L u n = L from if_neg (by rw [hf]; simp)]; exact St.back hi H13⟩
    · skip
      refine s_gtr false rfl rfl (dfalse hc11) rfl ?_
      refine r_cons (s_pick_f (.bool false) rfl rfl rfl ?_)
      refine r_cons (s_move (.bool false) rfl rfl ?_)
      refine r_cons (r_take rfl rfl ?_)
      refine s_move (.int .i64 n) rfl rfl ?_
      refine r_cons (r_take rfl rfl ?_)
      by_cases hc14 : n < 64
      · skip
        refine s_lss true rfl rfl (dtrue hc14) rfl ?_
        refine r_cons (r_take rfl rfl ?_)
        refine s_move (.bool true) rfl rfl ?_
        refine r_cons (r_take rfl rfl ?_)
        refine s_move (.int .u64 (u : Int)) rfl rfl ?_
        refine r_cons (r_take rfl rfl ?_)
        refine s_move (.int .i64 n) rfl rfl ?_
        refine r_cons (r_take rfl rfl ?_)
        refine s_shr ((u / 2 ^ n.toNat : Nat) : Int) rfl rfl (by omega) (shr_nat (k := n.toNat) (by omega) (by show _ ≤ 64; omega)) rfl ?_
        refine r_cons (r_take rfl rfl ?_)
        by_cases hc15 : ((u / 2 ^ n.toNat : Nat) : Int) = 0
        · skip
          refine s_neq false rfl rfl (ntrue hc15) rfl ?_
          refine r_cons (r_take rfl rfl ?_)
          refine s_pick_t (.bool false) rfl rfl rfl ?_
          refine r_cons (s_pick_f (.bool false) rfl rfl rfl ?_)
          refine r_nil ?_
          refine g_false rfl ?_
          refine g_skip ?_
          refine g_seq ?_
          refine g_region ?_
          have hf : fitsB u n = true := by first | exact fits_64 hu (by omega) | exact fits_yes (by omega) (by omega) ‹_›
          have hnn : n = (n.toNat : Int) := by omega
          refine r_cons (s_move (.pointer (some ⟨b, 0, none⟩)) rfl rfl ?_)
          refine r_cons (s_move (.int .i64 n) rfl rfl ?_)
          have H16 : St W w (SinkA b L :: (F.set i emp)) := St.shut_ex (.slice pp5 ((L.length + 7) / 8) cc6) (St.shut_star (ls := [blk b (.cells #[.bool true, .slice pp5 ((L.length + 7) / 8) cc6, .int .i64 (L.length : Int)] 111 (0, 0)), Row 5 1 (.slice pp5 ((L.length + 7) / 8) cc6) ((L.length + 7) / 8) ((pk L).flatMap u8c)]) H7)
          refine r_cons (s_call [.pointer (some ⟨b, 0, none⟩), .int .i64 n] pl_73 rfl rfl (Sink_room b L n (by first | omega | (simp only [List.length_append, List.length_nil, lowB_len, natB_len]; omega) | (repeat (first | exact Nat.zero_le _ | assumption | refine putL_le ?_ | refine bitsL_le ?_ | refine evPutL_le ?_ | (simp only [List.length_append, List.length_nil, lowB_len, natB_len]; omega)))) (i := 0) rfl H16) ?_)
          rintro _ w17 ⟨rfl, H18⟩
          refine r_cons (s_assign (.int .i64 (putE L n)) rfl rfl ?_)
          refine r_nil ?_
          refine g_seq ?_
          refine g_seq ?_
          refine g_region ?_
          refine r_cons (s_move (.int .i64 (putE L n)) rfl rfl ?_)
          by_cases hc19 : putE L n = 0
          · skip
            refine r_cons (s_eql true rfl rfl (dtrue hc19) rfl ?_)
            refine r_nil ?_
            refine g_true rfl ?_
            refine g_region ?_
            refine r_cons (s_move (.pointer (some ⟨b, 0, none⟩)) rfl rfl ?_)
            refine r_cons (s_move (.int .u64 (u : Int)) rfl rfl ?_)
            refine r_cons (s_move (.int .i64 n) rfl rfl ?_)
            refine r_cons (s_call [.pointer (some ⟨b, 0, none⟩), .int .u64 (u : Int), .int .i64 ((n.toNat : Nat) : Int)] pl_74 (by rw [← hnn]; rfl) rfl (Sink_all b L u n.toNat (by omega) (by omega) (by omega) (i := 0) rfl H18) ?_)
            rintro _ w20 ⟨rfl, H21⟩
            refine r_nil ?_
            refine g_seq ?_
            refine g_region ?_
            refine r_cons (s_move (.int .i64 (putE L n)) rfl rfl ?_)
            refine r_cons (s_assign (.int .i64 (putE L n)) rfl rfl ?_)
            refine r_nil ?_
            refine g_ret' [.int .i64 (putE L n)] Try.func38 Try.results38 ⟨rfl, trivial⟩ ?_
            have H22 : St W w20 (SinkA b (L ++ lowB u n.toNat) :: (F.set i emp)) := H21
            exact ⟨vint (by unfold bitsE; rw [if_pos hf]), by rw [show bitsL L u n = putL L (lowB u n.toNat) from if_pos hf, putL_0 (M := lowB u n.toNat) (n := n) (by rw [lowB_len]; omega) ‹_›]; exact St.back hi H22⟩
          · skip
            refine r_cons (s_eql false rfl rfl (dfalse hc19) rfl ?_)
            refine r_nil ?_
            refine g_false rfl ?_
            refine g_skip ?_
            refine g_seq ?_
            refine g_region ?_
            refine r_cons (s_move (.int .i64 (putE L n)) rfl rfl ?_)
            refine r_cons (s_assign (.int .i64 (putE L n)) rfl rfl ?_)
            refine r_nil ?_
            refine g_ret' [.int .i64 (putE L n)] Try.func38 Try.results38 ⟨rfl, trivial⟩ ?_
            have H23 : St W w17 (SinkA b L :: (F.set i emp)) := H18
            exact ⟨vint (by unfold bitsE; rw [if_pos hf]), by rw [show bitsL L u n = putL L (lowB u n.toNat) from if_pos hf, putL_no (M := lowB u n.toNat) (n := n) (by rw [lowB_len]; omega) ‹_›]; exact St.back hi H23⟩
        · skip
          refine s_neq true rfl rfl (nfalse hc15) rfl ?_
          refine r_cons (r_take rfl rfl ?_)
          refine s_pick_t (.bool true) rfl rfl rfl ?_
          refine r_cons (s_pick_f (.bool true) rfl rfl rfl ?_)
          refine r_nil ?_
          refine g_true rfl ?_
          refine g_seq ?_
          refine g_region ?_
          refine r_cons (s_assign (.int .i64 1) rfl rfl ?_)
          refine r_nil ?_
          refine g_ret' [.int .i64 1] Try.func38 Try.results38 ⟨rfl, trivial⟩ ?_
          have H24 : St W w (SinkA b L :: (F.set i emp)) := St.shut_ex (.slice pp5 ((L.length + 7) / 8) cc6) (St.shut_star (ls := [blk b (.cells #[.bool true, .slice pp5 ((L.length + 7) / 8) cc6, .int .i64 (L.length : Int)] 111 (0, 0)), Row 5 1 (.slice pp5 ((L.length + 7) / 8) cc6) ((L.length + 7) / 8) ((pk L).flatMap u8c)]) H7)
          have H25 : St W w (SinkA b L :: (F.set i emp)) := H24
          have hf : fitsB u n = false := by first | exact fits_not1 (by omega) | exact fits_not2 ‹_›
          exact ⟨vint (by unfold bitsE; rw [if_neg (by rw [hf]; simp)]), by rw [show bitsL L u n = L from if_neg (by rw [hf]; simp)]; exact St.back hi H25⟩
      · skip
        refine s_lss false rfl rfl (dfalse hc14) rfl ?_
        refine r_cons (r_take rfl rfl ?_)
        refine s_move (.bool false) rfl rfl ?_
        refine r_cons (r_pass rfl rfl rfl rfl rfl ?_)
        refine r_cons (r_pass rfl rfl rfl rfl rfl ?_)
        refine r_cons (r_pass rfl rfl rfl rfl rfl ?_)
        refine r_cons (r_pass rfl rfl rfl rfl rfl ?_)
        refine r_cons (r_take rfl rfl ?_)
        refine s_pick_f (.bool false) rfl rfl rfl ?_
        refine r_cons (s_pick_f (.bool false) rfl rfl rfl ?_)
        refine r_nil ?_
        refine g_false rfl ?_
        refine g_skip ?_
        refine g_seq ?_
        refine g_region ?_
        have hf : fitsB u n = true := by first | exact fits_64 hu (by omega) | exact fits_yes (by omega) (by omega) ‹_›
        have hnn : n = (n.toNat : Int) := by omega
        refine r_cons (s_move (.pointer (some ⟨b, 0, none⟩)) rfl rfl ?_)
        refine r_cons (s_move (.int .i64 n) rfl rfl ?_)
        have H26 : St W w (SinkA b L :: (F.set i emp)) := St.shut_ex (.slice pp5 ((L.length + 7) / 8) cc6) (St.shut_star (ls := [blk b (.cells #[.bool true, .slice pp5 ((L.length + 7) / 8) cc6, .int .i64 (L.length : Int)] 111 (0, 0)), Row 5 1 (.slice pp5 ((L.length + 7) / 8) cc6) ((L.length + 7) / 8) ((pk L).flatMap u8c)]) H7)
        refine r_cons (s_call [.pointer (some ⟨b, 0, none⟩), .int .i64 n] pl_73 rfl rfl (Sink_room b L n (by first | omega | (simp only [List.length_append, List.length_nil, lowB_len, natB_len]; omega) | (repeat (first | exact Nat.zero_le _ | assumption | refine putL_le ?_ | refine bitsL_le ?_ | refine evPutL_le ?_ | (simp only [List.length_append, List.length_nil, lowB_len, natB_len]; omega)))) (i := 0) rfl H26) ?_)
        rintro _ w27 ⟨rfl, H28⟩
        refine r_cons (s_assign (.int .i64 (putE L n)) rfl rfl ?_)
        refine r_nil ?_
        refine g_seq ?_
        refine g_seq ?_
        refine g_region ?_
        refine r_cons (s_move (.int .i64 (putE L n)) rfl rfl ?_)
        by_cases hc29 : putE L n = 0
        · skip
          refine r_cons (s_eql true rfl rfl (dtrue hc29) rfl ?_)
          refine r_nil ?_
          refine g_true rfl ?_
          refine g_region ?_
          refine r_cons (s_move (.pointer (some ⟨b, 0, none⟩)) rfl rfl ?_)
          refine r_cons (s_move (.int .u64 (u : Int)) rfl rfl ?_)
          refine r_cons (s_move (.int .i64 n) rfl rfl ?_)
          refine r_cons (s_call [.pointer (some ⟨b, 0, none⟩), .int .u64 (u : Int), .int .i64 ((n.toNat : Nat) : Int)] pl_74 (by rw [← hnn]; rfl) rfl (Sink_all b L u n.toNat (by omega) (by omega) (by omega) (i := 0) rfl H28) ?_)
          rintro _ w30 ⟨rfl, H31⟩
          refine r_nil ?_
          refine g_seq ?_
          refine g_region ?_
          refine r_cons (s_move (.int .i64 (putE L n)) rfl rfl ?_)
          refine r_cons (s_assign (.int .i64 (putE L n)) rfl rfl ?_)
          refine r_nil ?_
          refine g_ret' [.int .i64 (putE L n)] Try.func38 Try.results38 ⟨rfl, trivial⟩ ?_
          have H32 : St W w30 (SinkA b (L ++ lowB u n.toNat) :: (F.set i emp)) := H31
          exact ⟨vint (by unfold bitsE; rw [if_pos hf]), by rw [show bitsL L u n = putL L (lowB u n.toNat) from if_pos hf, putL_0 (M := lowB u n.toNat) (n := n) (by rw [lowB_len]; omega) ‹_›]; exact St.back hi H32⟩
        · skip
          refine r_cons (s_eql false rfl rfl (dfalse hc29) rfl ?_)
          refine r_nil ?_
          refine g_false rfl ?_
          refine g_skip ?_
          refine g_seq ?_
          refine g_region ?_
          refine r_cons (s_move (.int .i64 (putE L n)) rfl rfl ?_)
          refine r_cons (s_assign (.int .i64 (putE L n)) rfl rfl ?_)
          refine r_nil ?_
          refine g_ret' [.int .i64 (putE L n)] Try.func38 Try.results38 ⟨rfl, trivial⟩ ?_
          have H33 : St W w27 (SinkA b L :: (F.set i emp)) := H28
          exact ⟨vint (by unfold bitsE; rw [if_pos hf]), by rw [show bitsL L u n = putL L (lowB u n.toNat) from if_pos hf, putL_no (M := lowB u n.toNat) (n := n) (by rw [lowB_len]; omega) ‹_›]; exact St.back hi H33⟩
set_option maxHeartbeats 4000000 in
set_option maxRecDepth 100000 in
theorem Sink_Text {W w : World} {F : List Atom} (b : Nat) (L : List Bool) (s : ByteArray) (hs : s.size ≤ 140737488355328) (hb : L.length ≤ 1048576) {i : Nat} (hi : F[i]? = some (SinkA b L)) (H : St W w F) : Calls Try.prog 95 #[.pointer (some ⟨b, 0, none⟩), .string s] w (Ret fun v w' => v = .int .i64 (putE L ((textB s).length : Int)) ∧ St W w' (F.set i (SinkA b (putL L (textB s))))) := by
  have H0 := H.front hi
  refine calls_of_go (n := 50) Try.func95 rfl Try.ntmps95 rfl ?_
  refine g_seq ?_
  refine g_region ?_
  refine r_cons (s_assign (.int .i64 0) rfl rfl ?_)
  refine r_nil ?_
  refine g_seq ?_
  refine g_seq ?_
  refine g_region ?_
  refine r_cons (s_move (.pointer (some ⟨b, 0, none⟩)) rfl rfl ?_)
  refine r_cons (s_peql false un_59 rfl rfl rfl rfl ?_)
  refine r_cons (s_move (.bool false) rfl rfl ?_)
  refine r_cons (r_take rfl rfl ?_)
  refine s_move (.pointer (some ⟨b, 0, none⟩)) rfl rfl ?_
  refine r_cons (r_take rfl rfl ?_)
  refine s_nilCheck (.pointer (some ⟨b, 0, none⟩)) rfl ⟨_, rfl⟩ rfl ?_
  refine r_cons (r_take rfl rfl ?_)
  refine s_fieldAddr 111 0 0 0 4 rfl fi_111_0 rfl rfl ?_
  refine r_cons (r_take rfl rfl ?_)
  have H1 := H0.move 0 rfl
  obtain ⟨vv2, H3⟩ := St.open_ex H1
  have H4 := St.open_star H3
  obtain ⟨pp5, cc6, rfl⟩ := Row.slice (i := 1) H4 rfl
  have H7 : St W w (blk b (.cells #[.bool true, .slice pp5 ((L.length + 7) / 8) cc6, .int .i64 (L.length : Int)] 111 (0, 0)) :: Row 5 1 (.slice pp5 ((L.length + 7) / 8) cc6) ((L.length + 7) / 8) ((pk L).flatMap u8c) :: (F.set i emp)) := H4
  refine s_load (.bool true) ag_4 rfl (H7.blk_at (i := 0) rfl) rfl rfl ?_
  refine r_cons (r_take rfl rfl ?_)
  refine s_not true rfl false rfl rfl ?_
  refine r_cons (s_pick_f (.bool false) rfl rfl rfl ?_)
  refine r_nil ?_
  refine g_false rfl ?_
  refine g_skip ?_
  refine g_seq ?_
  refine g_seq ?_
  refine g_region ?_
  refine r_cons (s_move (.string s) rfl rfl ?_)
  refine r_cons (s_len_str (s).size rfl st_9 rfl rfl ?_)
  by_cases hc8 : (1048576 : Int) < (s.size : Int)
  · skip
    refine r_cons (s_gtr true rfl rfl (dtrue hc8) rfl ?_)
    refine r_nil ?_
    refine g_true rfl ?_
    refine g_seq ?_
    refine g_region ?_
    refine r_cons (s_assign (.int .i64 3) rfl rfl ?_)
    refine r_nil ?_
    refine g_ret' [.int .i64 3] Try.func95 Try.results95 ⟨rfl, trivial⟩ ?_
    have H9 : St W w (SinkA b L :: (F.set i emp)) := St.shut_ex (.slice pp5 ((L.length + 7) / 8) cc6) (St.shut_star (ls := [blk b (.cells #[.bool true, .slice pp5 ((L.length + 7) / 8) cc6, .int .i64 (L.length : Int)] 111 (0, 0)), Row 5 1 (.slice pp5 ((L.length + 7) / 8) cc6) ((L.length + 7) / 8) ((pk L).flatMap u8c)]) H7)
    have H10 : St W w (SinkA b L :: (F.set i emp)) := H9
    have he : putE L ((textB s).length : Int) = 3 := putE_3 (by rw [textB_len]; push_cast; omega)
    exact ⟨vint he.symm, by rw [putL_no rfl (by rw [he]; decide)]; exact St.back hi H10⟩
  · skip
    refine r_cons (s_gtr false rfl rfl (dfalse hc8) rfl ?_)
    refine r_nil ?_
    refine g_false rfl ?_
    refine g_skip ?_
    refine g_seq ?_
    refine g_region ?_
    refine r_cons (s_move (.pointer (some ⟨b, 0, none⟩)) rfl rfl ?_)
    refine r_cons (s_move (.string s) rfl rfl ?_)
    refine r_cons (s_len_str (s).size rfl st_9 rfl rfl ?_)
    refine r_cons (s_conv (s.size : Int) rfl us_3 ik_62 (wu64 (by omega)) rfl ?_)
    refine r_cons (s_call [.int .u64 (s.size : Int)] pl_108 rfl rfl (Size (s.size) (by omega) H7) ?_)
    rintro _ w11 ⟨rfl, H12⟩
    refine r_cons (s_move (.string s) rfl rfl ?_)
    refine r_cons (s_len_str (s).size rfl st_9 rfl rfl ?_)
    have hsz := sizeU_le (u := s.size) (by omega)
    refine r_cons (s_mul (8 * (s.size : Int)) rfl rfl (wi64 (by omega)) rfl ?_)
    refine r_cons (s_add ((sizeU s.size : Int) + (8 * (s.size : Int))) rfl rfl (wi64 (by omega)) rfl ?_)
    have H13 : St W w11 (SinkA b L :: (F.set i emp)) := St.shut_ex (.slice pp5 ((L.length + 7) / 8) cc6) (St.shut_star (ls := [blk b (.cells #[.bool true, .slice pp5 ((L.length + 7) / 8) cc6, .int .i64 (L.length : Int)] 111 (0, 0)), Row 5 1 (.slice pp5 ((L.length + 7) / 8) cc6) ((L.length + 7) / 8) ((pk L).flatMap u8c)]) H12)
    refine r_cons (s_call [.pointer (some ⟨b, 0, none⟩), .int .i64 ((sizeU s.size : Int) + (8 * (s.size : Int)))] pl_73 rfl rfl (Sink_room b L ((sizeU s.size : Int) + (8 * (s.size : Int))) (by first | omega | (simp only [List.length_append, List.length_nil, lowB_len, natB_len]; omega) | (repeat (first | exact Nat.zero_le _ | assumption | refine putL_le ?_ | refine bitsL_le ?_ | refine evPutL_le ?_ | (simp only [List.length_append, List.length_nil, lowB_len, natB_len]; omega)))) (i := 0) rfl H13) ?_)
    rintro _ w14 ⟨rfl, H15⟩
    refine r_cons (s_assign (.int .i64 (putE L ((sizeU s.size : Int) + (8 * (s.size : Int))))) rfl rfl ?_)
    refine r_nil ?_
    refine g_seq ?_
    refine g_seq ?_
    refine g_region ?_
    refine r_cons (s_move (.int .i64 (putE L ((sizeU s.size : Int) + (8 * (s.size : Int))))) rfl rfl ?_)
    by_cases hc16 : putE L ((sizeU s.size : Int) + (8 * (s.size : Int))) = 0
    · skip
      refine r_cons (s_eql true rfl rfl (dtrue hc16) rfl ?_)
      refine r_nil ?_
      refine g_true rfl ?_
      refine g_seq ?_
      refine g_region ?_
      have hr := putE_room ‹putE L ((sizeU s.size : Int) + 8 * (s.size : Int)) = 0›
      have hnl := natB_len s.size
      refine r_cons (s_move (.pointer (some ⟨b, 0, none⟩)) rfl rfl ?_)
      refine r_cons (s_move (.string s) rfl rfl ?_)
      refine r_cons (s_len_str (s).size rfl st_9 rfl rfl ?_)
      refine r_cons (s_conv (s.size : Int) rfl us_3 ik_62 (wu64 (by omega)) rfl ?_)
      refine r_cons (s_call [.pointer (some ⟨b, 0, none⟩), .int .u64 (s.size : Int)] pl_109 rfl rfl (Sink_nat b L (s.size) (by omega) (by first | omega | (simp only [List.length_append, List.length_nil, lowB_len, natB_len]; omega) | (repeat (first | exact Nat.zero_le _ | assumption | refine putL_le ?_ | refine bitsL_le ?_ | refine evPutL_le ?_ | (simp only [List.length_append, List.length_nil, lowB_len, natB_len]; omega)))) (i := 0) rfl H15) ?_)
      rintro _ w17 ⟨rfl, H18⟩
      refine r_nil ?_
      refine g_seq ?_
      refine g_region ?_
      refine r_cons (s_move (.string s) rfl rfl ?_)
      refine r_cons (s_str_bytes H18 s rfl us_9 un_66 un_5 rfl ?_); intro bk19 w20 cap22 N23 tl24 hN23 hcap22 htl24 H21
      refine r_cons (s_len s.size rfl ⟨_, un_66⟩ rfl ?_)
      refine r_cons (s_move (.int .i64 0) rfl rfl ?_)
      refine r_nil ?_
      refine g_block ?_
      have H25 : St W w20 (SinkA b (L ++ natB s.size) :: blk bk19 (.cells ((bytesV s.data.toList ++ tl24).toArray) 5 (N23, N23 + 1)) :: (F.set i emp)) := (H21.move 1 rfl)
      have H26 : St W w20 (SinkA b (L ++ natB s.size ++ textK s 0) :: blk bk19 (.cells ((bytesV s.data.toList ++ tl24).toArray) 5 (N23, N23 + 1)) :: (F.set i emp)) := by rw [show L ++ natB s.size ++ textK s 0 = L ++ natB s.size from List.append_nil _]; exact H25
      refine g_loop_inv (fun (x_ : Nat) => match x_ with | j => [(0, .pointer (some ⟨b, 0, none⟩)), (4, .int .i64 0), (5, .int .i64 (putE L ((sizeU s.size : Int) + (8 * (s.size : Int))))), (38, .slice (some ⟨bk19, 0, none⟩) s.size cap22), (39, .int .i64 (s.size : Int)), (40, .int .i64 (j : Int))]) (fun (x_ : Nat) w => match x_ with | j => (j ≤ s.size) ∧ St W w (SinkA b (L ++ natB s.size ++ textK s j) :: blk bk19 (.cells ((bytesV s.data.toList ++ tl24).toArray) 5 (N23, N23 + 1)) :: (F.set i emp))) (fun (x_ : Nat) => match x_ with | j => s.size - j) (0) ?_ ?_ ?_
      · exact ⟨by first | rfl | exact vint (by omega), by first | rfl | exact vint (by omega), by first | rfl | exact vint (by omega), by first | rfl | exact vint (by omega), by first | rfl | exact vint (by omega), by first | rfl | exact vint (by omega), trivial⟩
      · exact ⟨(by omega), H26⟩
      · rintro j ρ27 w28 ⟨hj, H29⟩ nx30
        change Ends _ _ (upds ρ27 [(0, .pointer (some ⟨b, 0, none⟩)), (4, .int .i64 0), (5, .int .i64 (putE L ((sizeU s.size : Int) + (8 * (s.size : Int))))), (38, .slice (some ⟨bk19, 0, none⟩) s.size cap22), (39, .int .i64 (s.size : Int)), (40, .int .i64 (j : Int))]) w28
        refine g_seq ?_
        refine g_region ?_
        by_cases hc31 : (j : Int) < (s.size : Int)
        · skip
          refine r_cons (s_lss true rfl rfl (dtrue hc31) rfl ?_)
          refine r_nil ?_
          refine g_seq ?_
          refine g_true rfl ?_
          refine g_skip ?_
          refine g_seq ?_
          refine g_block ?_
          refine g_seq ?_
          refine g_region ?_
          refine r_cons (s_indexAddr bk19 (j : Int) 1 (0 + j * 1) rfl rfl el_66 (by omega) rfl rfl ?_)
          refine r_cons (s_load (.int .u8 ((s.data.toList.getD j 0).toNat : Int)) ag_5 rfl (H29.blk_at (i := 1) rfl) (by have hh := bytes_get s tl24 j (by omega); rw [show 0 + j * 1 = j from by omega]; exact hh) rfl ?_)
          refine r_cons (s_assign (.int .u8 ((s.data.toList.getD j 0).toNat : Int)) rfl rfl ?_)
          refine r_nil ?_
          refine g_region ?_
          have htl := textK_len s j
          have hlt := byteAt_lt s j
          refine r_cons (s_move (.pointer (some ⟨b, 0, none⟩)) rfl rfl ?_)
          refine r_cons (s_move (.int .u8 ((s.data.toList.getD j 0).toNat : Int)) rfl rfl ?_)
          refine r_cons (s_conv ((s.data.toList.getD j 0).toNat : Int) rfl us_5 ik_62 (wu64 (by omega)) rfl ?_)
          refine r_cons (s_call [.pointer (some ⟨b, 0, none⟩), .int .u64 ((s.data.toList.getD j 0).toNat : Int), .int .i64 8] pl_74 rfl rfl (Sink_all b (L ++ natB s.size ++ textK s j) ((s.data.toList.getD j 0).toNat) (8) (by omega) (by omega) (by (try simp only [List.length_append, List.length_cons, List.length_nil, lowB_len]); omega) (i := 0) rfl H29) ?_)
          rintro _ w32 ⟨rfl, H33⟩
          refine r_nil ?_
          refine g_inBlock ?_
          refine g_region ?_
          refine r_cons (s_add ((j : Int) + 1) rfl rfl (wi64 (by omega)) rfl ?_)
          refine r_cons (s_move (.int .i64 ((j : Int) + 1)) rfl rfl ?_)
          refine r_nil ?_
          have H34 : St W w32 (SinkA b (L ++ natB s.size ++ textK s j ++ lowB ((s.data.toList.getD j 0).toNat) 8) :: blk bk19 (.cells ((bytesV s.data.toList ++ tl24).toArray) 5 (N23, N23 + 1)) :: (F.set i emp)) := ((H33.move 1 rfl).move 1 rfl)
          have H35 : St W w32 (SinkA b (L ++ natB s.size ++ textK s (j + 1)) :: blk bk19 (.cells ((bytesV s.data.toList ++ tl24).toArray) 5 (N23, N23 + 1)) :: (F.set i emp)) := by rw [textK_succ (by omega), ← List.append_assoc]; exact H34
          exact nx30 (j + 1) _ _ ⟨(by omega), H35⟩ (by first | (dsimp only; omega) | omega) ⟨by first | rfl | exact vint (by omega), by first | rfl | exact vint (by omega), by first | rfl | exact vint (by omega), by first | rfl | exact vint (by omega), by first | rfl | exact vint (by omega), by first | rfl | exact vint (by omega), trivial⟩
        · skip
          refine r_cons (s_lss false rfl rfl (dfalse hc31) rfl ?_)
          refine r_nil ?_
          refine g_seq ?_
          refine g_false rfl ?_
          refine g_exit (by rfl) ?_
          refine g_seq ?_
          refine g_region ?_
          refine r_cons (s_move (.int .i64 (putE L ((sizeU s.size : Int) + (8 * (s.size : Int))))) rfl rfl ?_)
          refine r_cons (s_assign (.int .i64 (putE L ((sizeU s.size : Int) + (8 * (s.size : Int))))) rfl rfl ?_)
          refine r_nil ?_
          refine g_ret' [.int .i64 (putE L ((sizeU s.size : Int) + (8 * (s.size : Int))))] Try.func95 Try.results95 ⟨rfl, trivial⟩ ?_
          have H36 : St W w28 (SinkA b (L ++ natB s.size ++ textK s j) :: (F.set i emp)) := (H29.drop 1 rfl)
          obtain rfl : j = s.size := by omega
          have hL : L ++ textB s = L ++ natB s.size ++ textK s s.size := by rw [textK_all, List.append_assoc]
          have he : putE L ((textB s).length : Int) = 0 := by rw [textB_len]; push_cast; assumption
          exact ⟨vint (by rw [he]; assumption), by rw [putL_0 rfl he, hL]; exact St.back hi H36⟩
    · skip
      refine r_cons (s_eql false rfl rfl (dfalse hc16) rfl ?_)
      refine r_nil ?_
      refine g_false rfl ?_
      refine g_skip ?_
      refine g_seq ?_
      refine g_region ?_
      refine r_cons (s_move (.int .i64 (putE L ((sizeU s.size : Int) + (8 * (s.size : Int))))) rfl rfl ?_)
      refine r_cons (s_assign (.int .i64 (putE L ((sizeU s.size : Int) + (8 * (s.size : Int))))) rfl rfl ?_)
      refine r_nil ?_
      refine g_ret' [.int .i64 (putE L ((sizeU s.size : Int) + (8 * (s.size : Int))))] Try.func95 Try.results95 ⟨rfl, trivial⟩ ?_
      have H37 : St W w14 (SinkA b L :: (F.set i emp)) := H15
      have he : putE L ((textB s).length : Int) = putE L ((sizeU s.size : Int) + 8 * (s.size : Int)) := by rw [textB_len]; push_cast; rfl
      exact ⟨vint he.symm, by rw [putL_no rfl (by rw [he]; assumption)]; exact St.back hi H37⟩
set_option maxHeartbeats 4000000 in
set_option maxRecDepth 100000 in
theorem Sink_Flags {W w : World} {F : List Atom} (b : Nat) (L : List Bool) (M : List Bool) (mv : Value) (hb : L.length ≤ 1048576) {j : Nat} (hj : F[j]? = some (Im 1 mv M.length (M.flatMap blc))) {i : Nat} (hi : F[i]? = some (SinkA b L)) (H : St W w F) : Calls Try.prog 75 #[.pointer (some ⟨b, 0, none⟩), mv] w (Ret fun v w' => v = .int .i64 (putE L (M.length : Int)) ∧ St W w' (F.set i (SinkA b (putL L M)))) := by
  obtain ⟨pA1, cA2, gA3, oA4, kA5, eA6, zA7, rfl, hn8, hp9, hx10, hs11, hml, H12⟩ := Im.open_ H hj
  have H0 := H12.front (i := i + 1) (by exact hi)
  refine calls_of_go (n := 25) Try.func75 rfl Try.ntmps75 rfl ?_
  refine g_seq ?_
  refine g_region ?_
  refine r_cons (s_assign (.int .i64 0) rfl rfl ?_)
  refine r_nil ?_
  refine g_seq ?_
  refine g_region ?_
  refine r_cons (s_move (.pointer (some ⟨b, 0, none⟩)) rfl rfl ?_)
  refine r_cons (s_move (.slice pA1 M.length cA2) rfl rfl ?_)
  refine r_cons (s_len M.length rfl ⟨_, un_50⟩ rfl ?_)
  refine r_cons (s_call [.pointer (some ⟨b, 0, none⟩), .int .i64 (M.length : Int)] pl_73 rfl rfl (Sink_room b L (M.length : Int) (by first | omega | (simp only [List.length_append, List.length_nil, lowB_len, natB_len]; omega) | (repeat (first | exact Nat.zero_le _ | assumption | refine putL_le ?_ | refine bitsL_le ?_ | refine evPutL_le ?_ | (simp only [List.length_append, List.length_nil, lowB_len, natB_len]; omega)))) (i := 0) rfl H0) ?_)
  rintro _ w13 ⟨rfl, H14⟩
  refine r_cons (s_assign (.int .i64 (putE L (M.length : Int))) rfl rfl ?_)
  refine r_nil ?_
  refine g_seq ?_
  refine g_seq ?_
  refine g_region ?_
  refine r_cons (s_move (.int .i64 (putE L (M.length : Int))) rfl rfl ?_)
  by_cases hc15 : putE L (M.length : Int) = 0
  · skip
    refine r_cons (s_eql true rfl rfl (dtrue hc15) rfl ?_)
    refine r_nil ?_
    refine g_true rfl ?_
    refine g_seq ?_
    refine g_region ?_
    have hr := putE_room ‹putE L (M.length : Int) = 0›
    refine r_cons (s_move (.slice pA1 M.length cA2) rfl rfl ?_)
    refine r_cons (s_len M.length rfl ⟨_, un_50⟩ rfl ?_)
    refine r_cons (s_move (.int .i64 0) rfl rfl ?_)
    refine r_nil ?_
    refine g_block ?_
    have H16 : St W w13 (SinkA b L :: imi (0 < M.length) gA3 (.cells kA5 eA6 zA7) :: (F.set i emp)) := ((H14.move 1 rfl).move 1 rfl)
    have H17 : St W w13 (SinkA b (L ++ M.take 0) :: imi (0 < M.length) gA3 (.cells kA5 eA6 zA7) :: (F.set i emp)) := by rw [show L ++ M.take 0 = L from List.append_nil _]; exact H16
    refine g_loop_inv (fun (x_ : Nat) => match x_ with | j => [(0, .pointer (some ⟨b, 0, none⟩)), (4, .int .i64 0), (5, .int .i64 (putE L (M.length : Int))), (14, .slice pA1 M.length cA2), (15, .int .i64 (M.length : Int)), (16, .int .i64 (j : Int))]) (fun (x_ : Nat) w => match x_ with | j => (j ≤ M.length) ∧ St W w (SinkA b (L ++ M.take j) :: imi (0 < M.length) gA3 (.cells kA5 eA6 zA7) :: (F.set i emp))) (fun (x_ : Nat) => match x_ with | j => M.length - j) (0) ?_ ?_ ?_
    · exact ⟨by first | rfl | exact vint (by omega), by first | rfl | exact vint (by omega), by first | rfl | exact vint (by omega), by first | rfl | exact vint (by omega), by first | rfl | exact vint (by omega), by first | rfl | exact vint (by omega), trivial⟩
    · exact ⟨(by omega), H17⟩
    · rintro j ρ18 w19 ⟨hj, H20⟩ nx21
      change Ends _ _ (upds ρ18 [(0, .pointer (some ⟨b, 0, none⟩)), (4, .int .i64 0), (5, .int .i64 (putE L (M.length : Int))), (14, .slice pA1 M.length cA2), (15, .int .i64 (M.length : Int)), (16, .int .i64 (j : Int))]) w19
      refine g_seq ?_
      refine g_region ?_
      by_cases hc22 : (j : Int) < (M.length : Int)
      · skip
        refine r_cons (s_lss true rfl rfl (dtrue hc22) rfl ?_)
        refine r_nil ?_
        refine g_seq ?_
        refine g_true rfl ?_
        refine g_skip ?_
        refine g_seq ?_
        refine g_block ?_
        refine g_seq ?_
        refine g_region ?_
        refine r_cons (s_indexAddr gA3 (off := oA4) (j : Int) 1 (oA4 + j * 1) (by exact congrArg (fun z_ => Value.slice z_ M.length cA2) (hp9 (by omega))) rfl el_50 (by omega) rfl rfl ?_)
        refine r_cons (s_load (.bool (M.getD j false)) ag_4 rfl (H20.imi_at (i := 1) rfl (by omega)) (elem_cell blc_len (hx10 (by omega)) (by omega) false 0 (by decide) _ rfl) rfl ?_)
        refine r_cons (s_assign (.bool (M.getD j false)) rfl rfl ?_)
        refine r_nil ?_
        refine g_region ?_
        have htl := List.length_take_le j M
        refine r_cons (s_move (.pointer (some ⟨b, 0, none⟩)) rfl rfl ?_)
        refine r_cons (s_move (.bool (M.getD j false)) rfl rfl ?_)
        refine r_cons (s_call [.pointer (some ⟨b, 0, none⟩), .bool (M.getD j false)] pl_92 rfl rfl (Sink_put b (L ++ M.take j) (M.getD j false) (by (try simp only [List.length_append, List.length_cons, List.length_nil, lowK_len, lowB_len]); omega) (i := 0) rfl H20) ?_)
        rintro _ w23 ⟨rfl, H24⟩
        refine r_nil ?_
        refine g_inBlock ?_
        refine g_region ?_
        refine r_cons (s_add ((j : Int) + 1) rfl rfl (wi64 (by omega)) rfl ?_)
        refine r_cons (s_move (.int .i64 ((j : Int) + 1)) rfl rfl ?_)
        refine r_nil ?_
        have H25 : St W w23 (SinkA b ((L ++ M.take j) ++ [M.getD j false]) :: imi (0 < M.length) gA3 (.cells kA5 eA6 zA7) :: (F.set i emp)) := ((H24.move 1 rfl).move 1 rfl)
        have H26 : St W w23 (SinkA b (L ++ M.take (j + 1)) :: imi (0 < M.length) gA3 (.cells kA5 eA6 zA7) :: (F.set i emp)) := by rw [take_snoc (by omega), ← List.append_assoc]; exact H25
        exact nx21 (j + 1) _ _ ⟨(by omega), H26⟩ (by first | (dsimp only; omega) | omega) ⟨by first | rfl | exact vint (by omega), by first | rfl | exact vint (by omega), by first | rfl | exact vint (by omega), by first | rfl | exact vint (by omega), by first | rfl | exact vint (by omega), by first | rfl | exact vint (by omega), trivial⟩
      · skip
        refine r_cons (s_lss false rfl rfl (dfalse hc22) rfl ?_)
        refine r_nil ?_
        refine g_seq ?_
        refine g_false rfl ?_
        refine g_exit (by rfl) ?_
        refine g_seq ?_
        refine g_region ?_
        refine r_cons (s_move (.int .i64 (putE L (M.length : Int))) rfl rfl ?_)
        refine r_cons (s_assign (.int .i64 (putE L (M.length : Int))) rfl rfl ?_)
        refine r_nil ?_
        refine g_ret' [.int .i64 (putE L (M.length : Int))] Try.func75 Try.results75 ⟨rfl, trivial⟩ ?_
        have H27 : St W w19 (SinkA b (L ++ M.take j) :: (F.set i emp)) := (H20.drop 1 rfl)
        obtain rfl : j = M.length := by omega
        exact ⟨rfl, by rw [putL_0 rfl ‹_›, show L ++ M = L ++ M.take M.length from by rw [List.take_length]]; exact St.back hi H27⟩
  · skip
    refine r_cons (s_eql false rfl rfl (dfalse hc15) rfl ?_)
    refine r_nil ?_
    refine g_false rfl ?_
    refine g_skip ?_
    refine g_seq ?_
    refine g_region ?_
    refine r_cons (s_move (.int .i64 (putE L (M.length : Int))) rfl rfl ?_)
    refine r_cons (s_assign (.int .i64 (putE L (M.length : Int))) rfl rfl ?_)
    refine r_nil ?_
    refine g_ret' [.int .i64 (putE L (M.length : Int))] Try.func75 Try.results75 ⟨rfl, trivial⟩ ?_
    have H28 : St W w13 (SinkA b L :: (F.set i emp)) := (H14.drop 1 rfl)
    exact ⟨rfl, by rw [putL_no rfl ‹_›]; exact St.back hi H28⟩
set_option maxHeartbeats 4000000 in
set_option maxRecDepth 100000 in
theorem ref01_long {W w : World} {F : List Atom} (u : Nat) (hu : u < 18446744073709551616) (H : St W w F) : Calls Try.prog 97 #[.int .u64 (u : Int)] w (Ret fun v w' => v = .int .i64 (bitLen u : Int) ∧ St W w' F) := by
  refine calls_of_go (n := 11) Try.func97 rfl Try.ntmps97 rfl ?_
  refine g_seq ?_
  refine g_region ?_
  refine r_cons (s_assign (.int .i64 0) rfl rfl ?_)
  refine r_nil ?_
  refine g_seq ?_
  refine g_region ?_
  refine r_cons (s_assign (.int .i64 0) rfl rfl ?_)
  refine r_nil ?_
  refine g_seq ?_
  refine g_block ?_
  have H1 : St W w F := H
  refine g_loop_inv (fun (x_ : Nat × Nat) => match x_ with | (n, k) => [(0, .int .u64 (k : Int)), (2, .int .i64 0), (3, .int .i64 (n : Int))]) (fun (x_ : Nat × Nat) w => match x_ with | (n, k) => (bitLen u = n + bitLen k) ∧ (k ≤ u) ∧ St W w F) (fun (x_ : Nat × Nat) => match x_ with | (n, k) => k) (0, u) ?_ ?_ ?_
  · exact ⟨by first | rfl | exact vint (by omega), by first | rfl | exact vint (by omega), by first | rfl | exact vint (by omega), trivial⟩
  · exact ⟨(Nat.zero_add _).symm, (Nat.le_refl _), H1⟩
  · rintro ⟨n, k⟩ ρ2 w3 ⟨hk, hku, H4⟩ nx5
    change Ends _ _ (upds ρ2 [(0, .int .u64 (k : Int)), (2, .int .i64 0), (3, .int .i64 (n : Int))]) w3
    refine g_seq ?_
    refine g_seq ?_
    refine g_region ?_
    refine r_cons (s_move (.int .u64 (k : Int)) rfl rfl ?_)
    by_cases hc6 : (0 : Int) < (k : Int)
    · skip
      refine r_cons (s_gtr true rfl rfl (dtrue hc6) rfl ?_)
      refine r_nil ?_
      refine g_true rfl ?_
      refine g_skip ?_
      refine g_block ?_
      refine g_seq ?_
      refine g_region ?_
      refine r_cons (s_move (.int .i64 (n : Int)) rfl rfl ?_)
      have h64 := bitLen_le64 hu
      refine r_cons (s_add ((n : Int) + 1) rfl rfl (wi64 (by omega)) rfl ?_)
      refine r_cons (s_assign (.int .i64 ((n : Int) + 1)) rfl rfl ?_)
      refine r_nil ?_
      refine g_region ?_
      refine r_cons (s_move (.int .u64 (k : Int)) rfl rfl ?_)
      refine r_cons (s_quo ((k : Int) / 2) rfl rfl (by omega) (by rw [tdiv_pos (by omega)]; exact wu64 (by omega)) rfl ?_)
      refine r_cons (s_assign (.int .u64 ((k : Int) / 2)) rfl rfl ?_)
      refine r_nil ?_
      refine g_inBlock ?_
      have H7 : St W w3 F := H4
      exact nx5 (n + 1, k / 2) _ _ ⟨(by have := bitLen_half (u := k) (by omega); omega), (by omega), H7⟩ (by first | (dsimp only; omega) | omega) ⟨by first | rfl | exact vint (by omega), by first | rfl | exact vint (by omega), by first | rfl | exact vint (by omega), trivial⟩
    · skip
      refine r_cons (s_gtr false rfl rfl (dfalse hc6) rfl ?_)
      refine r_nil ?_
      refine g_false rfl ?_
      refine g_exit (by rfl) ?_
      refine g_seq ?_
      refine g_region ?_
      refine r_cons (s_move (.int .i64 (n : Int)) rfl rfl ?_)
      refine r_cons (s_assign (.int .i64 (n : Int)) rfl rfl ?_)
      refine r_nil ?_
      refine g_ret' [.int .i64 (n : Int)] Try.func97 Try.results97 ⟨rfl, trivial⟩ ?_
      have H8 : St W w3 F := H4
      obtain rfl : k = 0 := by omega
      exact ⟨vint (by rw [hk, bitLen_zero]; rfl), H8⟩
set_option maxHeartbeats 4000000 in
set_option maxRecDepth 100000 in
theorem ref01_Low {W w : World} {F : List Atom} (u n : Nat) (hu : u < 18446744073709551616) (hn : n ≤ 64) (H : St W w F) : Calls Try.prog 43 #[.int .u64 (u : Int), .int .i64 (n : Int)] w (Ret fun v w' => ∃ p c, v = .slice p (n) c ∧ St W w' (Row 4 1 (.slice p (n) c) (n) ((lowB u n).flatMap blc) :: F)) := by
  refine calls_of_go (n := 26) Try.func43 rfl Try.ntmps43 rfl ?_
  refine g_seq ?_
  refine g_region ?_
  refine r_cons (s_assign (.slice none 0 0) rfl rfl ?_)
  refine r_nil ?_
  refine g_seq ?_
  refine g_region ?_
  refine r_cons (s_assign (.slice none 0 0) rfl rfl ?_)
  refine r_nil ?_
  refine g_seq ?_
  refine g_seq ?_
  refine g_region ?_
  refine r_cons (s_move (.int .i64 (n : Int)) rfl rfl ?_)
  refine r_cons (s_sub ((n : Int) - 1) rfl rfl (wi64 (by omega)) rfl ?_)
  refine r_cons (s_assign (.int .i64 ((n : Int) - 1)) rfl rfl ?_)
  refine r_nil ?_
  refine g_block ?_
  have H1 := Row.nil_intro H 4 1
  have H2 : St W w (Row 4 1 (.slice none 0 0) 0 [] :: F) := H1
  refine g_loop_inv (fun (x_ : Nat × (Option Addr) × Nat) => match x_ with | (j, p, c) => [(0, .int .u64 (u : Int)), (4, .slice none 0 0), (5, .slice p j c), (6, .int .i64 ((n : Int) - 1 - (j : Int)))]) (fun (x_ : Nat × (Option Addr) × Nat) w => match x_ with | (j, p, c) => (j ≤ n) ∧ St W w (Row 4 1 (.slice p j c) j ((lowK u n j).flatMap blc) :: F)) (fun (x_ : Nat × (Option Addr) × Nat) => match x_ with | (j, p, c) => n - j) (0, none, 0) ?_ ?_ ?_
  · exact ⟨by first | rfl | exact vint (by omega), by first | rfl | exact vint (by omega), by first | rfl | exact vint (by omega), by first | rfl | exact vint (by omega), trivial⟩
  · exact ⟨(by omega), H2⟩
  · rintro ⟨j, p, c⟩ ρ3 w4 ⟨hj, H5⟩ nx6
    change Ends _ _ (upds ρ3 [(0, .int .u64 (u : Int)), (4, .slice none 0 0), (5, .slice p j c), (6, .int .i64 ((n : Int) - 1 - (j : Int)))]) w4
    refine g_seq ?_
    refine g_seq ?_
    refine g_region ?_
    refine r_cons (s_move (.int .i64 ((n : Int) - 1 - (j : Int))) rfl rfl ?_)
    by_cases hc7 : (0 : Int) ≤ (n : Int) - 1 - (j : Int)
    · skip
      refine r_cons (s_geq true rfl rfl (dtrue hc7) rfl ?_)
      refine r_nil ?_
      refine g_true rfl ?_
      refine g_skip ?_
      refine g_seq ?_
      refine g_block ?_
      refine g_region ?_
      refine r_cons (s_move (.slice p j c) rfl rfl ?_)
      refine r_cons (s_move (.int .i64 ((n : Int) - 1 - (j : Int))) rfl rfl ?_)
      refine r_cons (s_lss true rfl rfl (dtrue (by omega)) rfl ?_)
      refine r_cons (s_move (.bool true) rfl rfl ?_)
      refine r_cons (r_take rfl rfl ?_)
      refine s_move (.int .u64 (u : Int)) rfl rfl ?_
      refine r_cons (r_take rfl rfl ?_)
      refine s_move (.int .i64 ((n : Int) - 1 - (j : Int))) rfl rfl ?_
      refine r_cons (r_take rfl rfl ?_)
      refine s_shr ((u / 2 ^ (n - 1 - j) : Nat) : Int) rfl rfl (by omega) (shr_nat (k := n - 1 - j) (by omega) (by show _ ≤ 64; omega)) rfl ?_
      refine r_cons (r_take rfl rfl ?_)
      refine s_rem ((u / 2 ^ (n - 1 - j) % 2 : Nat) : Int) rfl rfl (by omega) (by rw [tmod_pos (Int.natCast_nonneg _)]; rfl) rfl ?_
      refine r_cons (r_take rfl rfl ?_)
      refine s_eql (u.testBit (n - 1 - j)) rfl rfl (bit_is u (n - 1 - j)) rfl ?_
      refine r_cons (s_pick_t (.bool (u.testBit (n - 1 - j))) rfl rfl rfl ?_)
      refine r_cons (s_buildSlice H5 1 1 (cs := #[.bool (u.testBit (n - 1 - j))]) #[.bool false] el_50 ze_4 (by decide) (by decide) (by kernel_rfl) rfl ?_); intro bk8 w9 H10
      refine r_cons (s_append H10 1 rfl rfl rfl (rd_blk (H10.blk_at (i := 0) rfl) rfl (Nat.le_of_ble_eq_true rfl) (by simp [Value.oneCell'])) ap_50 (by decide) (by unfold maxLen; omega) (by omega) (n' := j + 1) (xs' := (lowK u n (j + 1)).flatMap blc) (by omega) (by rw [lowK_succ, flat_snoc]; rfl) rfl ?_); intro vv11 w12 H13 hn14
      obtain ⟨pp15, cc16, rfl⟩ := Row.slice H13 (i := 1) rfl
      refine r_cons (s_assign (.slice pp15 (j + 1) cc16) rfl rfl ?_)
      refine r_nil ?_
      refine g_inBlock ?_
      refine g_region ?_
      refine r_cons (s_move (.int .i64 ((n : Int) - 1 - (j : Int))) rfl rfl ?_)
      refine r_cons (s_sub ((n : Int) - 1 - (j : Int) - 1) rfl rfl (wi64 (by omega)) rfl ?_)
      refine r_cons (s_assign (.int .i64 ((n : Int) - 1 - (j : Int) - 1)) rfl rfl ?_)
      refine r_nil ?_
      have H17 : St W w12 (Row 4 1 (.slice pp15 (j + 1) cc16) (j + 1) ((lowK u n (j + 1)).flatMap blc) :: F) := ((H13.move 1 rfl).drop 1 rfl)
      exact nx6 (j + 1, pp15, cc16) _ _ ⟨(by omega), H17⟩ (by first | (dsimp only; omega) | omega) ⟨by first | rfl | exact vint (by omega), by first | rfl | exact vint (by omega), by first | rfl | exact vint (by omega), by first | rfl | exact vint (by omega), trivial⟩
    · skip
      refine r_cons (s_geq false rfl rfl (dfalse hc7) rfl ?_)
      refine r_nil ?_
      refine g_false rfl ?_
      refine g_exit (by rfl) ?_
      refine g_seq ?_
      refine g_region ?_
      refine r_cons (s_move (.slice p j c) rfl rfl ?_)
      refine r_cons (s_assign (.slice p j c) rfl rfl ?_)
      refine r_nil ?_
      refine g_ret' [.slice p j c] Try.func43 Try.results43 ⟨rfl, trivial⟩ ?_
      have H18 : St W w4 (Row 4 1 (.slice p j c) j ((lowK u n j).flatMap blc) :: F) := H5
      obtain rfl : j = n := by omega
      exact ⟨_, _, rfl, H18⟩
set_option maxHeartbeats 4000000 in
set_option maxRecDepth 100000 in
theorem ref01_Nat {W w : World} {F : List Atom} (u : Nat) (hu : u < 18446744073709551616) (H : St W w F) : Calls Try.prog 77 #[.int .u64 (u : Int)] w (Ret fun v w' => ∃ p c, v = .slice p (sizeU u) c ∧ St W w' (Row 4 1 (.slice p (sizeU u) c) (sizeU u) ((natB u).flatMap blc) :: F)) := by
  refine calls_of_go (n := 25) Try.func77 rfl Try.ntmps77 rfl ?_
  refine g_seq ?_
  refine g_region ?_
  refine r_cons (s_assign (.slice none 0 0) rfl rfl ?_)
  refine r_nil ?_
  refine g_seq ?_
  refine g_seq ?_
  refine g_region ?_
  refine r_cons (s_move (.int .u64 (u : Int)) rfl rfl ?_)
  by_cases hc1 : (u : Int) = 18446744073709551615
  · skip
    refine r_cons (s_eql true rfl rfl (dtrue hc1) rfl ?_)
    refine r_nil ?_
    refine g_true rfl ?_
    refine g_seq ?_
    refine g_region ?_
    refine r_cons (s_make H 64 1 1 rfl rfl un_50 in_4 (by omega) (by omega) (by omega) (by exact made_bools 64) rfl ?_); intro bk2 w3 H4
    have H5 : St W w3 (Row 4 1 (.slice (some ⟨bk2, 0, none⟩) 64 64) 64 ((List.replicate 64 false).flatMap blc) :: F) := Row.of_list (xs := (List.replicate 64 false).flatMap blc) (n := 64) H4 (i := 0) rfl (by unfold maxLen; omega) (by rw [flat_len blc_len]; simp) (one_bl _)
    refine r_cons (s_assign (.slice (some ⟨bk2, 0, none⟩) 64 64) rfl rfl ?_)
    refine r_nil ?_
    refine g_seq ?_
    refine g_region ?_
    have hsz : sizeU u = 129 := if_pos (by omega)
    refine r_cons (s_move (.slice (some ⟨bk2, 0, none⟩) 64 64) rfl rfl ?_)
    refine r_cons (s_buildSlice H5 1 1 (cs := #[.bool true]) #[.bool false] el_50 ze_4 (by decide) (by decide) (by kernel_rfl) rfl ?_); intro bk6 w7 H8
    refine r_cons (s_append H8 1 rfl rfl rfl (rd_blk (H8.blk_at (i := 0) rfl) rfl (Nat.le_of_ble_eq_true rfl) (by simp [Value.oneCell'])) ap_50 (by decide) (by unfold maxLen; omega) (by omega) (n' := 65) (xs' := (List.replicate 64 false ++ [true]).flatMap blc) (by omega) (by rw [flat_snoc]; rfl) rfl ?_); intro vv9 w10 H11 hn12
    obtain ⟨pp13, cc14, rfl⟩ := Row.slice H11 (i := 1) rfl
    refine r_cons (s_assign (.slice pp13 65 cc14) rfl rfl ?_)
    refine r_nil ?_
    refine g_seq ?_
    refine g_region ?_
    refine r_cons (s_move (.slice pp13 65 cc14) rfl rfl ?_)
    refine r_cons (s_append0 (m := 64) H11 1 rfl (by omega) (by omega) rfl rfl un_50 un_3 in_4 rfl (zero_bools 64) (one_bl _) (by decide) (by decide) (by unfold maxLen; omega) (by omega) (n' := sizeU u) (xs' := (natB u).flatMap blc) (by omega) (by rw [natB_1 (by omega)]; exact List.flatMap_append.symm) rfl ?_); intro vv15 w16 H17
    obtain ⟨pp18, cc19, rfl⟩ := Row.slice H17 (i := 1) rfl
    refine r_cons (s_assign (.slice pp18 (sizeU u) cc19) rfl rfl ?_)
    refine r_nil ?_
    refine g_ret' [.slice pp18 (sizeU u) cc19] Try.func77 Try.results77 ⟨rfl, trivial⟩ ?_
    have H20 : St W w16 (Row 4 1 (.slice pp18 (sizeU u) cc19) (sizeU u) ((natB u).flatMap blc) :: F) := ((H17.move 1 rfl).drop 1 rfl)
    exact ⟨_, _, rfl, H20⟩
  · skip
    refine r_cons (s_eql false rfl rfl (dfalse hc1) rfl ?_)
    refine r_nil ?_
    refine g_false rfl ?_
    refine g_skip ?_
    refine g_seq ?_
    refine g_region ?_
    refine r_cons (s_move (.int .u64 (u : Int)) rfl rfl ?_)
    refine r_cons (s_add ((u + 1 : Nat) : Int) rfl rfl ((wu64 (by omega)).trans (by omega)) rfl ?_)
    refine r_cons (s_call [.int .u64 ((u + 1 : Nat) : Int)] pl_97 rfl rfl (ref01_long (u + 1) (by omega) H) ?_)
    rintro _ w21 ⟨rfl, H22⟩
    have hs2 := sizeU_2 (u := u) (by omega)
    have h64 := bitLen_le64 (u := u + 1) (by omega)
    refine r_cons (s_sub ((bitLen (u + 1) - 1 : Nat) : Int) rfl rfl ((wi64 (by omega)).trans (by have := bitLen_pos (u := u + 1) (by omega); omega)) rfl ?_)
    refine r_cons (s_assign (.int .i64 ((bitLen (u + 1) - 1 : Nat) : Int)) rfl rfl ?_)
    refine r_nil ?_
    refine g_seq ?_
    refine g_cut (fun (x : Option Addr × Nat × Option Addr × Nat) => match x with | (pp35, cc36, pp27, cc28) => [(2, .slice pp35 (sizeU u) cc36)]) (fun (x : Option Addr × Nat × Option Addr × Nat) w => match x with | (pp35, cc36, pp27, cc28) => St W w (Row 4 1 (.slice pp27 (bitLen (u + 1) - 1 + 1) cc28) (bitLen (u + 1) - 1 + 1) ((lowB (u + 1) (bitLen (u + 1) - 1 + 1)).flatMap blc) :: Row 4 1 (.slice pp35 (sizeU u) cc36) (sizeU u) ((natB u).flatMap blc) :: F)) ?_ ?_
    · rintro ⟨pp35, cc36, pp27, cc28⟩ ρ26 w24 H25
      change Ends _ _ (upds ρ26 [(2, .slice pp35 (sizeU u) cc36)]) w24
      refine g_ret' [.slice pp35 (sizeU u) cc36] Try.func77 Try.results77 ⟨rfl, trivial⟩ ?_
      have H27 : St W w24 (Row 4 1 (.slice pp35 (sizeU u) cc36) (sizeU u) ((natB u).flatMap blc) :: F) := ((H25.move 1 rfl).drop 1 rfl)
      exact ⟨_, _, rfl, H27⟩
    · intro join23
      refine g_any mixed 9 rfl ?_
      intro w28 hw29
      have H30 := H22.drew
      rw [← hw29] at H30
      clear hw29
      refine a_take 0 (listed' := #[true, false, false, false, false, false, false, false, false]) rfl (by kernel_rfl) (by kernel_rfl) (by kernel_rfl) rfl rfl rfl rfl (fun w => x_move (.int .i64 ((bitLen (u + 1) - 1 : Nat) : Int)) rfl w) ?_
      refine a_take 2 (listed' := #[true, false, true, false, false, false, false, false, false]) rfl (by kernel_rfl) (by kernel_rfl) (by kernel_rfl) rfl rfl rfl rfl (fun w => x_move (.int .u64 (u : Int)) rfl w) ?_
      refine a_take 3 (listed' := #[true, false, true, true, false, false, false, false, false]) rfl (by kernel_rfl) (by kernel_rfl) (by kernel_rfl) rfl rfl rfl rfl (fun w => x_add ((u + 1 : Nat) : Int) rfl rfl ((wu64 (by omega)).trans (by omega)) w) ?_
      refine a_take 4 (listed' := #[true, false, true, true, true, false, false, false, false]) rfl (by kernel_rfl) (by kernel_rfl) (by kernel_rfl) rfl rfl rfl rfl (fun w => x_move (.int .i64 ((bitLen (u + 1) - 1 : Nat) : Int)) rfl w) ?_
      refine a_take 5 (listed' := #[true, false, true, true, true, true, false, false, false]) rfl (by kernel_rfl) (by kernel_rfl) (by kernel_rfl) rfl rfl rfl rfl (fun w => x_add ((bitLen (u + 1) - 1 + 1 : Nat) : Int) rfl rfl ((wi64 (by omega)).trans (by omega)) w) ?_
      refine a_all (rs := [1, 6]) (by kernel_rfl) (by simp) ?_
      refine a_cons ⟨_, rfl, ?_⟩ (a_cons ⟨_, rfl, ?_⟩ (fun x hx => absurd hx (by simp)))
      · skip
        refine s_make H30 ((bitLen (u + 1) - 1 : Nat) : Int) 1 1 rfl rfl un_50 in_4 (by omega) (by omega) (by omega) (by exact made_bools (bitLen (u + 1) - 1)) rfl ?_; intro bk31 w32 H33
        have H34 : St W w32 (Row 4 1 (.slice (some ⟨bk31, 0, none⟩) (bitLen (u + 1) - 1) (bitLen (u + 1) - 1)) (bitLen (u + 1) - 1) ((List.replicate (bitLen (u + 1) - 1) false).flatMap blc) :: F) := Row.of_list (xs := (List.replicate (bitLen (u + 1) - 1) false).flatMap blc) (n := bitLen (u + 1) - 1) H33 (i := 0) rfl (by unfold maxLen; omega) (by rw [flat_len blc_len]; simp) (one_bl _)
        change AnyG _ _ _ _ #[true, true, true, true, true, true, false, false, false] _ _
        refine a_all (rs := [6]) (by kernel_rfl) (by simp) ?_
        refine a_cons ⟨_, rfl, ?_⟩ (fun x hx => absurd hx (by simp))
        refine s_call [.int .u64 ((u + 1 : Nat) : Int), .int .i64 ((bitLen (u + 1) - 1 + 1 : Nat) : Int)] pl_43 rfl rfl (ref01_Low (u + 1) (bitLen (u + 1) - 1 + 1) (by omega) (by omega) H34) ?_
        rintro _ w37 ⟨pp35, cc36, rfl, H38⟩
        change AnyG _ _ _ _ #[true, true, true, true, true, true, true, false, false] _ _
        refine a_all (rs := [7]) (by kernel_rfl) (by simp) ?_
        refine a_cons ⟨_, rfl, ?_⟩ (fun x hx => absurd hx (by simp))
        refine s_append H38 1 rfl rfl rfl (Row.rd H38 (i := 0) rfl) ap_50 (by decide) (by unfold maxLen; omega) (by omega) (n' := sizeU u) (xs' := (natB u).flatMap blc) (by omega) (by rw [natB_2 (by omega)]; exact List.flatMap_append.symm) rfl ?_; intro vv39 w40 H41 hn42
        obtain ⟨pp43, cc44, rfl⟩ := Row.slice H41 (i := 1) rfl
        change AnyG _ _ _ _ #[true, true, true, true, true, true, true, true, false] _ _
        refine a_take 8 (listed' := #[true, true, true, true, true, true, true, true, true]) rfl (by kernel_rfl) (by kernel_rfl) (by kernel_rfl) rfl rfl rfl rfl (fun w => x_assign (.slice pp43 (sizeU u) cc44) rfl w) ?_
        refine a_done (by kernel_rfl) ?_
        exact join23 (pp43, cc44, pp35, cc36) _ _ H41 ⟨rfl, trivial⟩
      · skip
        refine s_call [.int .u64 ((u + 1 : Nat) : Int), .int .i64 ((bitLen (u + 1) - 1 + 1 : Nat) : Int)] pl_43 rfl rfl (ref01_Low (u + 1) (bitLen (u + 1) - 1 + 1) (by omega) (by omega) H30) ?_
        rintro _ w47 ⟨pp45, cc46, rfl, H48⟩
        change AnyG _ _ _ _ #[true, false, true, true, true, true, true, false, false] _ _
        refine a_all (rs := [1]) (by kernel_rfl) (by simp) ?_
        refine a_cons ⟨_, rfl, ?_⟩ (fun x hx => absurd hx (by simp))
        refine s_make H48 ((bitLen (u + 1) - 1 : Nat) : Int) 1 1 rfl rfl un_50 in_4 (by omega) (by omega) (by omega) (by exact made_bools (bitLen (u + 1) - 1)) rfl ?_; intro bk49 w50 H51
        have H52 : St W w50 (Row 4 1 (.slice (some ⟨bk49, 0, none⟩) (bitLen (u + 1) - 1) (bitLen (u + 1) - 1)) (bitLen (u + 1) - 1) ((List.replicate (bitLen (u + 1) - 1) false).flatMap blc) :: Row 4 1 (.slice pp45 (bitLen (u + 1) - 1 + 1) cc46) (bitLen (u + 1) - 1 + 1) ((lowB (u + 1) (bitLen (u + 1) - 1 + 1)).flatMap blc) :: F) := Row.of_list (xs := (List.replicate (bitLen (u + 1) - 1) false).flatMap blc) (n := bitLen (u + 1) - 1) H51 (i := 0) rfl (by unfold maxLen; omega) (by rw [flat_len blc_len]; simp) (one_bl _)
        change AnyG _ _ _ _ #[true, true, true, true, true, true, true, false, false] _ _
        refine a_all (rs := [7]) (by kernel_rfl) (by simp) ?_
        refine a_cons ⟨_, rfl, ?_⟩ (fun x hx => absurd hx (by simp))
        refine s_append H52 0 rfl rfl rfl (Row.rd H52 (i := 1) rfl) ap_50 (by decide) (by unfold maxLen; omega) (by omega) (n' := sizeU u) (xs' := (natB u).flatMap blc) (by omega) (by rw [natB_2 (by omega)]; exact List.flatMap_append.symm) rfl ?_; intro vv53 w54 H55 hn56
        obtain ⟨pp57, cc58, rfl⟩ := Row.slice H55 (i := 0) rfl
        change AnyG _ _ _ _ #[true, true, true, true, true, true, true, true, false] _ _
        refine a_take 8 (listed' := #[true, true, true, true, true, true, true, true, true]) rfl (by kernel_rfl) (by kernel_rfl) (by kernel_rfl) rfl rfl rfl rfl (fun w => x_assign (.slice pp57 (sizeU u) cc58) rfl w) ?_
        refine a_done (by kernel_rfl) ?_
        have H59 : St W w54 (Row 4 1 (.slice pp45 (bitLen (u + 1) - 1 + 1) cc46) (bitLen (u + 1) - 1 + 1) ((lowB (u + 1) (bitLen (u + 1) - 1 + 1)).flatMap blc) :: Row 4 1 (.slice pp57 (sizeU u) cc58) (sizeU u) ((natB u).flatMap blc) :: F) := (H55.move 1 rfl)
        exact join23 (pp57, cc58, pp45, cc46) _ _ H59 ⟨rfl, trivial⟩
set_option maxHeartbeats 4000000 in
set_option maxRecDepth 100000 in
theorem ref01_zig {W w : World} {F : List Atom} (n : Int) (h1 : -9223372036854775808 ≤ n) (h2 : n ≤ 9223372036854775807) (H : St W w F) : Calls Try.prog 98 #[.int .i64 n] w (Ret fun v w' => v = .int .u64 ((zigN n : Nat) : Int) ∧ St W w' F) := by
  refine calls_of_go (n := 14) Try.func98 rfl Try.ntmps98 rfl ?_
  refine g_seq ?_
  refine g_region ?_
  refine r_cons (s_assign (.int .u64 0) rfl rfl ?_)
  refine r_nil ?_
  refine g_seq ?_
  refine g_seq ?_
  refine g_region ?_
  refine r_cons (s_move (.int .i64 n) rfl rfl ?_)
  by_cases hc1 : (0 : Int) ≤ n
  · skip
    refine r_cons (s_geq true rfl rfl (dtrue hc1) rfl ?_)
    refine r_nil ?_
    refine g_true rfl ?_
    refine g_seq ?_
    refine g_region ?_
    refine r_cons (s_move (.int .i64 n) rfl rfl ?_)
    refine r_cons (s_conv n rfl us_2 ik_62 (wu64 (by omega)) rfl ?_)
    refine r_cons (s_mul (n * 2) rfl rfl (wu64 (by omega)) rfl ?_)
    refine r_cons (s_assign (.int .u64 (n * 2)) rfl rfl ?_)
    refine r_nil ?_
    refine g_ret' [.int .u64 (n * 2)] Try.func98 Try.results98 ⟨rfl, trivial⟩ ?_
    have H2 : St W w F := H
    exact ⟨vint (by first | (rw [zig_pos (by omega)]; omega) | (rw [zig_neg (by omega)]; omega)), H2⟩
  · skip
    refine r_cons (s_geq false rfl rfl (dfalse hc1) rfl ?_)
    refine r_nil ?_
    refine g_false rfl ?_
    refine g_skip ?_
    refine g_seq ?_
    refine g_region ?_
    refine r_cons (s_move (.int .i64 n) rfl rfl ?_)
    refine r_cons (s_add (n + 1) rfl rfl (wi64 (by omega)) rfl ?_)
    refine r_cons (s_neg (-(n + 1)) rfl (wi64 (by omega)) rfl ?_)
    refine r_cons (s_conv (-(n + 1)) rfl us_2 ik_62 (wu64 (by omega)) rfl ?_)
    refine r_cons (s_mul ((-(n + 1)) * 2) rfl rfl (wu64 (by omega)) rfl ?_)
    refine r_cons (s_add ((-(n + 1)) * 2 + 1) rfl rfl (wu64 (by omega)) rfl ?_)
    refine r_cons (s_assign (.int .u64 ((-(n + 1)) * 2 + 1)) rfl rfl ?_)
    refine r_nil ?_
    refine g_ret' [.int .u64 ((-(n + 1)) * 2 + 1)] Try.func98 Try.results98 ⟨rfl, trivial⟩ ?_
    have H3 : St W w F := H
    exact ⟨vint (by first | (rw [zig_pos (by omega)]; omega) | (rw [zig_neg (by omega)]; omega)), H3⟩
set_option maxHeartbeats 4000000 in
set_option maxRecDepth 100000 in
theorem ref01_Num {W w : World} {F : List Atom} (n : Int) (h1 : -9223372036854775808 ≤ n) (h2 : n ≤ 9223372036854775807) (H : St W w F) : Calls Try.prog 79 #[.int .i64 n] w (Ret fun v w' => ∃ p c, v = .slice p (sizeU (zigN n)) c ∧ St W w' (Row 4 1 (.slice p (sizeU (zigN n)) c) (sizeU (zigN n)) ((natB (zigN n)).flatMap blc) :: F)) := by
  refine calls_of_go (n := 6) Try.func79 rfl Try.ntmps79 rfl ?_
  refine g_seq ?_
  refine g_region ?_
  refine r_cons (s_assign (.slice none 0 0) rfl rfl ?_)
  refine r_nil ?_
  refine g_seq ?_
  refine g_region ?_
  refine r_cons (s_move (.int .i64 n) rfl rfl ?_)
  refine r_cons (s_call [.int .i64 n] pl_98 rfl rfl (ref01_zig n (by omega) (by omega) H) ?_)
  rintro _ w1 ⟨rfl, H2⟩
  have hz := zigN_lt h1 h2
  refine r_cons (s_call [.int .u64 ((zigN n : Nat) : Int)] pl_77 rfl rfl (ref01_Nat (zigN n) (by omega) H2) ?_)
  rintro _ w5 ⟨pp3, cc4, rfl, H6⟩
  refine r_cons (s_assign (.slice pp3 (sizeU (zigN n)) cc4) rfl rfl ?_)
  refine r_nil ?_
  refine g_ret' [.slice pp3 (sizeU (zigN n)) cc4] Try.func79 Try.results79 ⟨rfl, trivial⟩ ?_
  have H7 : St W w5 (Row 4 1 (.slice pp3 (sizeU (zigN n)) cc4) (sizeU (zigN n)) ((natB (zigN n)).flatMap blc) :: F) := H6
  exact ⟨_, _, rfl, H7⟩
set_option maxHeartbeats 4000000 in
set_option maxRecDepth 100000 in
theorem ref01_Text {W w : World} {F : List Atom} (s : ByteArray) (hs : s.size ≤ 1099511627776) (H : St W w F) : Calls Try.prog 78 #[.string s] w (Ret fun v w' => ∃ p c, v = .slice p (sizeU s.size + 8 * s.size) c ∧ St W w' (Row 4 1 (.slice p (sizeU s.size + 8 * s.size) c) (sizeU s.size + 8 * s.size) ((textB s).flatMap blc) :: F)) := by
  refine calls_of_go (n := 23) Try.func78 rfl Try.ntmps78 rfl ?_
  refine g_seq ?_
  refine g_region ?_
  refine r_cons (s_assign (.slice none 0 0) rfl rfl ?_)
  refine r_nil ?_
  refine g_seq ?_
  refine g_region ?_
  refine r_cons (s_move (.string s) rfl rfl ?_)
  refine r_cons (s_len_str (s).size rfl st_9 rfl rfl ?_)
  refine r_cons (s_conv (s.size : Int) rfl us_3 ik_62 (wu64 (by omega)) rfl ?_)
  refine r_cons (s_call [.int .u64 (s.size : Int)] pl_77 rfl rfl (ref01_Nat s.size (by omega) H) ?_)
  rintro _ w3 ⟨pp1, cc2, rfl, H4⟩
  refine r_cons (s_assign (.slice pp1 (sizeU s.size) cc2) rfl rfl ?_)
  refine r_nil ?_
  refine g_seq ?_
  refine g_seq ?_
  refine g_region ?_
  refine r_cons (s_assign (.int .i64 0) rfl rfl ?_)
  refine r_nil ?_
  refine g_block ?_
  have H5 : St W w3 (Row 4 1 (.slice pp1 (sizeU s.size) cc2) (sizeU s.size) ((natB s.size ++ textK s 0).flatMap blc) :: F) := by rw [show natB s.size ++ textK s 0 = natB s.size from List.append_nil _]; exact H4
  have H6 : St W w3 (Row 4 1 (.slice pp1 (sizeU s.size) cc2) (sizeU s.size) ((natB s.size ++ textK s 0).flatMap blc) :: F) := H5
  refine g_loop_inv (fun (x_ : Nat × (Option Addr) × Nat) => match x_ with | (j, p, c) => [(0, .string s), (2, .slice none 0 0), (3, .slice p (sizeU s.size + 8 * j) c), (4, .int .i64 (j : Int))]) (fun (x_ : Nat × (Option Addr) × Nat) w => match x_ with | (j, p, c) => (j ≤ s.size) ∧ St W w (Row 4 1 (.slice p (sizeU s.size + 8 * j) c) (sizeU s.size + 8 * j) ((natB s.size ++ textK s j).flatMap blc) :: F)) (fun (x_ : Nat × (Option Addr) × Nat) => match x_ with | (j, p, c) => s.size - j) (0, pp1, cc2) ?_ ?_ ?_
  · exact ⟨by first | rfl | exact vint (by omega), by first | rfl | exact vint (by omega), by first | rfl | exact vint (by omega), by first | rfl | exact vint (by omega), trivial⟩
  · exact ⟨(by omega), H6⟩
  · rintro ⟨j, p, c⟩ ρ7 w8 ⟨hj, H9⟩ nx10
    change Ends _ _ (upds ρ7 [(0, .string s), (2, .slice none 0 0), (3, .slice p (sizeU s.size + 8 * j) c), (4, .int .i64 (j : Int))]) w8
    refine g_seq ?_
    refine g_seq ?_
    refine g_region ?_
    refine r_cons (s_move (.int .i64 (j : Int)) rfl rfl ?_)
    refine r_cons (s_move (.string s) rfl rfl ?_)
    refine r_cons (s_len_str (s).size rfl st_9 rfl rfl ?_)
    by_cases hc11 : (j : Int) < (s.size : Int)
    · skip
      refine r_cons (s_lss true rfl rfl (dtrue hc11) rfl ?_)
      refine r_nil ?_
      refine g_true rfl ?_
      refine g_skip ?_
      refine g_seq ?_
      refine g_block ?_
      refine g_region ?_
      refine r_cons (s_move (.slice p (sizeU s.size + 8 * j) c) rfl rfl ?_)
      refine r_cons (s_move (.string s) rfl rfl ?_)
      refine r_cons (s_move (.int .i64 (j : Int)) rfl rfl ?_)
      refine r_cons (s_index_str s (j : Int) ((s.data.toList.getD j 0).toNat : Int) rfl rfl st_9 (by omega) (str_at (n := j) (by omega) (by omega)) rfl ?_)
      have hlt := byteAt_lt s j
      have hsz := sizeU_le (u := s.size) (by omega)
      refine r_cons (s_conv ((s.data.toList.getD j 0).toNat : Int) rfl us_5 ik_62 (wu64 (by omega)) rfl ?_)
      refine r_cons (s_call [.int .u64 ((s.data.toList.getD j 0).toNat : Int), .int .i64 8] pl_43 rfl rfl (ref01_Low ((s.data.toList.getD j 0).toNat) 8 (by omega) (by omega) H9) ?_)
      rintro _ w14 ⟨pp12, cc13, rfl, H15⟩
      refine r_cons (s_append H15 1 rfl rfl rfl (Row.rd H15 (i := 0) rfl) ap_50 (by decide) (by unfold maxLen; omega) (by omega) (n' := sizeU s.size + 8 * (j + 1)) (xs' := (natB s.size ++ textK s (j + 1)).flatMap blc) (by omega) (by rw [textK_succ (by omega), ← List.append_assoc]; exact List.flatMap_append.symm) rfl ?_); intro vv16 w17 H18 hn19
      obtain ⟨pp20, cc21, rfl⟩ := Row.slice H18 (i := 1) rfl
      refine r_cons (s_assign (.slice pp20 (sizeU s.size + 8 * (j + 1)) cc21) rfl rfl ?_)
      refine r_nil ?_
      refine g_inBlock ?_
      refine g_region ?_
      refine r_cons (s_move (.int .i64 (j : Int)) rfl rfl ?_)
      refine r_cons (s_add ((j : Int) + 1) rfl rfl (wi64 (by omega)) rfl ?_)
      refine r_cons (s_assign (.int .i64 ((j : Int) + 1)) rfl rfl ?_)
      refine r_nil ?_
      have H22 : St W w17 (Row 4 1 (.slice pp20 (sizeU s.size + 8 * (j + 1)) cc21) (sizeU s.size + 8 * (j + 1)) ((natB s.size ++ textK s (j + 1)).flatMap blc) :: F) := ((H18.move 1 rfl).drop 1 rfl)
      exact nx10 (j + 1, pp20, cc21) _ _ ⟨(by omega), H22⟩ (by first | (dsimp only; omega) | omega) ⟨by first | rfl | exact vint (by omega), by first | rfl | exact vint (by omega), by first | rfl | exact vint (by omega), by first | rfl | exact vint (by omega), trivial⟩
    · skip
      refine r_cons (s_lss false rfl rfl (dfalse hc11) rfl ?_)
      refine r_nil ?_
      refine g_false rfl ?_
      refine g_exit (by rfl) ?_
      refine g_seq ?_
      refine g_region ?_
      refine r_cons (s_move (.slice p (sizeU s.size + 8 * j) c) rfl rfl ?_)
      refine r_cons (s_assign (.slice p (sizeU s.size + 8 * j) c) rfl rfl ?_)
      refine r_nil ?_
      refine g_ret' [.slice p (sizeU s.size + 8 * j) c] Try.func78 Try.results78 ⟨rfl, trivial⟩ ?_
      have H23 : St W w8 (Row 4 1 (.slice p (sizeU s.size + 8 * j) c) (sizeU s.size + 8 * j) ((natB s.size ++ textK s j).flatMap blc) :: F) := H9
      obtain rfl : j = s.size := by omega
      rw [textK_all]
      exact ⟨_, _, rfl, H23⟩
set_option maxHeartbeats 4000000 in
set_option maxRecDepth 100000 in
theorem form_put {W w : World} {F : List Atom} (b : Nat) (e : Int) (he : e = 0) {i : Nat} (hi : F[i]? = some (blk b (.cells #[.bool true] 4 (0, 0)))) (H : St W w F) : Calls Try.prog 93 #[.int .i64 e, .pointer (some ⟨b, 0, none⟩)] w (Ret fun v w' => v = .tuple #[] ∧ St W w' F) := by
  have H0 := H.front hi
  refine calls_of_go (n := 8) Try.func93 rfl Try.ntmps93 rfl ?_
  refine g_region ?_
  refine r_cons (s_load (.bool true) ag_4 rfl (H0.blk_at (i := 0) rfl) rfl rfl ?_)
  refine r_cons (s_move (.bool true) rfl rfl ?_)
  refine r_cons (r_take rfl rfl ?_)
  refine s_move (.int .i64 e) rfl rfl ?_
  refine r_cons (r_take rfl rfl ?_)
  refine s_eql true rfl rfl (dtrue he) rfl ?_
  refine r_cons (s_pick_t (.bool true) rfl rfl rfl ?_)
  refine r_cons (s_store H0 0 (.bool true) rfl rfl rfl sz_4 rfl (Nat.le_of_ble_eq_true rfl) rfl (cs' := #[.bool true]) rfl ?_); intro w1 H2
  refine r_nil ?_
  refine g_end' [] Try.func93 Try.results93 trivial ?_
  have H3 : St W w1 (blk b (.cells #[.bool true] 4 (0, 0)) :: (F.set i emp)) := H2
  exact ⟨rfl, St.back_same hi H3⟩
set_option maxHeartbeats 4000000 in
set_option maxRecDepth 100000 in
theorem event_form {W w : World} {F : List Atom} (b : Nat) (L : List Bool) (e : EvM) (av : Value) (hev : evE e = 0) (hroom : L.length + (formB e).length ≤ 1048576) {j : Nat} (hj : F[j]? = some (Attrs av e.attrs)) {i : Nat} (hi : F[i]? = some (SinkA b L)) (H : St W w F) : Calls Try.prog 76 #[.pointer (some ⟨b, 0, none⟩), .agg #[.int .i64 e.src.v, .int .i64 e.seq.v, .int .i64 e.time.v, .string e.typ.v, av]] w (Ret fun v w' => v = .bool true ∧ St W w' (F.set i (SinkA b (L ++ formB e)))) := by
  obtain ⟨pA1, cA2, gA3, oA4, kA5, eA6, zA7, rfl, hn8, hp9, hx10, hs11, hml, H12⟩ := Im.open_ H hj
  have H13 := H12.dup (i := j + 1) (by exact hj) (Attrs_pers _ _)
  have H14 : St W w (SinkA b L :: Attrs (.slice pA1 e.attrs.length cA2) e.attrs :: imi (0 < e.attrs.length) gA3 (.cells kA5 eA6 zA7) :: F.set i emp) := H13.front (i := i + 2) (by exact hi)
  obtain ⟨hr1, hr2, hr3, hr4, hr5, hr6⟩ := evE_range hev
  have ht1 := timeB_range hr3
  have ht2 := timeB_range hr4
  have ha8 := attrsE_len hr6
  have hn5 := nameB_len hr5
  have hF : (formB e).length = (headB e).length + (e.attrs.flatMap attrB).length := List.length_append
  have hH : (headB e).length = 4 + sizeU e.seq.v.toNat + sizeU e.time.v.toNat + (textB e.typ.v).length + 4 := by unfold headB; simp only [List.length_append, lowB_len, natB_len]
  have hz1 := sizeU_le (u := e.seq.v.toNat) (by omega)
  have hz2 := sizeU_le (u := e.time.v.toNat) (by omega)
  refine calls_of_go (n := 88) Try.func76 rfl Try.ntmps76 rfl ?_
  refine g_seq ?_
  refine g_region ?_
  refine r_cons (s_box H14 33 (.agg #[.int .i64 e.src.v, .int .i64 e.seq.v, .int .i64 e.time.v, .string e.typ.v, .slice pA1 e.attrs.length cA2]) rfl (cs := #[.int .i64 e.src.v, .int .i64 e.seq.v, .int .i64 e.time.v, .string e.typ.v, .slice pA1 e.attrs.length cA2]) rfl rfl ?_); intro bk15 w16 H17
  refine r_cons (s_assign (.bool false) rfl rfl ?_)
  refine r_nil ?_
  refine g_seq ?_
  refine g_region ?_
  refine r_cons (s_alloc H17 4 ze_4 rfl ?_); intro bk18 w19 H20
  refine r_cons (s_store H20 0 (.bool true) rfl rfl rfl sz_4 rfl (Nat.le_of_ble_eq_true rfl) rfl (cs' := #[.bool true]) rfl ?_); intro w21 H22
  refine r_nil ?_
  refine g_seq ?_
  refine g_region ?_
  refine r_cons (s_makeFunc (.func (.func 93) #[] #[.pointer (some ⟨bk18, 0, none⟩)]) rfl rfl ?_)
  refine r_cons (s_assign (.func (.func 93) #[] #[.pointer (some ⟨bk18, 0, none⟩)]) rfl rfl ?_)
  refine r_nil ?_
  refine g_seq ?_
  refine g_region ?_
  refine r_cons (s_move (.func (.func 93) #[] #[.pointer (some ⟨bk18, 0, none⟩)]) rfl rfl ?_)
  refine r_cons (s_move (.pointer (some ⟨b, 0, none⟩)) rfl rfl ?_)
  refine r_cons (s_fieldAddr 33 0 0 0 30 rfl fi_33_0 rfl rfl ?_)
  refine r_cons (s_fieldAddr 30 0 0 0 3 rfl fi_30_0 rfl rfl ?_)
  refine r_cons (s_load (.int .i64 e.src.v) ag_3 rfl (H22.blk_at (i := 1) rfl) rfl rfl ?_)
  refine r_cons (s_conv ((e.src.v.toNat : Nat) : Int) rfl us_3 ik_62 ((wu64 (by omega)).trans (by omega)) rfl ?_)
  refine r_cons (s_call [.pointer (some ⟨b, 0, none⟩), .int .u64 ((e.src.v.toNat : Nat) : Int), .int .i64 4] pl_38 rfl rfl (Sink_Bits b L e.src.v.toNat 4 (by omega) (by first | omega | (simp only [List.length_append, List.length_nil, lowB_len, natB_len]; omega) | (repeat (first | exact Nat.zero_le _ | assumption | refine putL_le ?_ | refine bitsL_le ?_ | refine evPutL_le ?_ | (simp only [List.length_append, List.length_nil, lowB_len, natB_len]; omega)))) (i := 2) rfl H22) ?_)
  rintro _ w23 ⟨rfl, H24⟩
  have hk25 : bitsE L e.src.v.toNat 4 = 0 ∧ bitsL L e.src.v.toNat 4 = L ++ lowB e.src.v.toNat 4 := (by have hh := bits_ok (L := L) (u := e.src.v.toNat) (n := 4) (fits_small (k := 4) rfl (by decide) (by omega)) (by (try simp only [List.length_append, lowB_len, natB_len]); omega); exact hh)
  have H27 : St W w23 (blk bk18 (.cells #[.bool true] 4 (0, 0)) :: blk bk15 (.cells #[.int .i64 e.src.v, .int .i64 e.seq.v, .int .i64 e.time.v, .string e.typ.v, .slice pA1 e.attrs.length cA2] 33 (0, 0)) :: SinkA b (L ++ lowB e.src.v.toNat 4) :: Attrs (.slice pA1 e.attrs.length cA2) e.attrs :: imi (0 < e.attrs.length) gA3 (.cells kA5 eA6 zA7) :: (F.set i emp)) := by rw [← hk25.2]; exact H24
  refine r_cons (s_callv [.pointer (some ⟨bk18, 0, none⟩)] [.int .i64 (bitsE L e.src.v.toNat 4), .pointer (some ⟨bk18, 0, none⟩)] rfl pl_93 rfl rfl (form_put bk18 (bitsE L e.src.v.toNat 4) hk25.1 (i := 0) rfl H27) ?_)
  rintro _ w28 ⟨rfl, H29⟩
  refine r_nil ?_
  refine g_seq ?_
  refine g_region ?_
  refine r_cons (s_move (.func (.func 93) #[] #[.pointer (some ⟨bk18, 0, none⟩)]) rfl rfl ?_)
  refine r_cons (s_move (.pointer (some ⟨b, 0, none⟩)) rfl rfl ?_)
  refine r_cons (s_fieldAddr 33 0 0 0 30 rfl fi_33_0 rfl rfl ?_)
  refine r_cons (s_fieldAddr 30 1 1 1 2 rfl fi_30_1 rfl rfl ?_)
  refine r_cons (s_load (.int .i64 e.seq.v) ag_2 rfl (H29.blk_at (i := 1) rfl) rfl rfl ?_)
  refine r_cons (s_conv ((e.seq.v.toNat : Nat) : Int) rfl us_2 ik_62 ((wu64 (by omega)).trans (by omega)) rfl ?_)
  refine r_cons (s_call [.pointer (some ⟨b, 0, none⟩), .int .u64 ((e.seq.v.toNat : Nat) : Int)] pl_94 rfl rfl (Sink_Nat b (L ++ lowB e.src.v.toNat 4) e.seq.v.toNat (by omega) (by first | omega | (simp only [List.length_append, List.length_nil, lowB_len, natB_len]; omega) | (repeat (first | exact Nat.zero_le _ | assumption | refine putL_le ?_ | refine bitsL_le ?_ | refine evPutL_le ?_ | (simp only [List.length_append, List.length_nil, lowB_len, natB_len]; omega)))) (i := 2) rfl H29) ?_)
  rintro _ w30 ⟨rfl, H31⟩
  have hk32 : putE (L ++ lowB e.src.v.toNat 4) (sizeU e.seq.v.toNat : Int) = 0 ∧ putL (L ++ lowB e.src.v.toNat 4) (natB e.seq.v.toNat) = L ++ lowB e.src.v.toNat 4 ++ natB e.seq.v.toNat := put_ok (L := L ++ lowB e.src.v.toNat 4) (by rw [natB_len]) (by (try simp only [List.length_append, lowB_len, natB_len]); omega)
  have H34 : St W w30 (blk bk18 (.cells #[.bool true] 4 (0, 0)) :: blk bk15 (.cells #[.int .i64 e.src.v, .int .i64 e.seq.v, .int .i64 e.time.v, .string e.typ.v, .slice pA1 e.attrs.length cA2] 33 (0, 0)) :: SinkA b (L ++ lowB e.src.v.toNat 4 ++ natB e.seq.v.toNat) :: Attrs (.slice pA1 e.attrs.length cA2) e.attrs :: imi (0 < e.attrs.length) gA3 (.cells kA5 eA6 zA7) :: (F.set i emp)) := by rw [← hk32.2]; exact H31
  refine r_cons (s_callv [.pointer (some ⟨bk18, 0, none⟩)] [.int .i64 (putE (L ++ lowB e.src.v.toNat 4) (sizeU e.seq.v.toNat : Int)), .pointer (some ⟨bk18, 0, none⟩)] rfl pl_93 rfl rfl (form_put bk18 (putE (L ++ lowB e.src.v.toNat 4) (sizeU e.seq.v.toNat : Int)) hk32.1 (i := 0) rfl H34) ?_)
  rintro _ w35 ⟨rfl, H36⟩
  refine r_nil ?_
  refine g_seq ?_
  refine g_region ?_
  refine r_cons (s_move (.func (.func 93) #[] #[.pointer (some ⟨bk18, 0, none⟩)]) rfl rfl ?_)
  refine r_cons (s_move (.pointer (some ⟨b, 0, none⟩)) rfl rfl ?_)
  refine r_cons (s_fieldAddr 33 1 2 2 2 rfl fi_33_1 rfl rfl ?_)
  refine r_cons (s_load (.int .i64 e.time.v) ag_2 rfl (H36.blk_at (i := 1) rfl) rfl rfl ?_)
  refine r_cons (s_conv ((e.time.v.toNat : Nat) : Int) rfl us_2 ik_62 ((wu64 (by omega)).trans (by omega)) rfl ?_)
  refine r_cons (s_call [.pointer (some ⟨b, 0, none⟩), .int .u64 ((e.time.v.toNat : Nat) : Int)] pl_94 rfl rfl (Sink_Nat b (L ++ lowB e.src.v.toNat 4 ++ natB e.seq.v.toNat) e.time.v.toNat (by omega) (by first | omega | (simp only [List.length_append, List.length_nil, lowB_len, natB_len]; omega) | (repeat (first | exact Nat.zero_le _ | assumption | refine putL_le ?_ | refine bitsL_le ?_ | refine evPutL_le ?_ | (simp only [List.length_append, List.length_nil, lowB_len, natB_len]; omega)))) (i := 2) rfl H36) ?_)
  rintro _ w37 ⟨rfl, H38⟩
  have hk39 : putE (L ++ lowB e.src.v.toNat 4 ++ natB e.seq.v.toNat) (sizeU e.time.v.toNat : Int) = 0 ∧ putL (L ++ lowB e.src.v.toNat 4 ++ natB e.seq.v.toNat) (natB e.time.v.toNat) = L ++ lowB e.src.v.toNat 4 ++ natB e.seq.v.toNat ++ natB e.time.v.toNat := put_ok (L := L ++ lowB e.src.v.toNat 4 ++ natB e.seq.v.toNat) (by rw [natB_len]) (by (try simp only [List.length_append, lowB_len, natB_len]); omega)
  have H41 : St W w37 (blk bk18 (.cells #[.bool true] 4 (0, 0)) :: blk bk15 (.cells #[.int .i64 e.src.v, .int .i64 e.seq.v, .int .i64 e.time.v, .string e.typ.v, .slice pA1 e.attrs.length cA2] 33 (0, 0)) :: SinkA b (L ++ lowB e.src.v.toNat 4 ++ natB e.seq.v.toNat ++ natB e.time.v.toNat) :: Attrs (.slice pA1 e.attrs.length cA2) e.attrs :: imi (0 < e.attrs.length) gA3 (.cells kA5 eA6 zA7) :: (F.set i emp)) := by rw [← hk39.2]; exact H38
  refine r_cons (s_callv [.pointer (some ⟨bk18, 0, none⟩)] [.int .i64 (putE (L ++ lowB e.src.v.toNat 4 ++ natB e.seq.v.toNat) (sizeU e.time.v.toNat : Int)), .pointer (some ⟨bk18, 0, none⟩)] rfl pl_93 rfl rfl (form_put bk18 (putE (L ++ lowB e.src.v.toNat 4 ++ natB e.seq.v.toNat) (sizeU e.time.v.toNat : Int)) hk39.1 (i := 0) rfl H41) ?_)
  rintro _ w42 ⟨rfl, H43⟩
  refine r_nil ?_
  refine g_seq ?_
  refine g_region ?_
  refine r_cons (s_move (.func (.func 93) #[] #[.pointer (some ⟨bk18, 0, none⟩)]) rfl rfl ?_)
  refine r_cons (s_move (.pointer (some ⟨b, 0, none⟩)) rfl rfl ?_)
  refine r_cons (s_fieldAddr 33 2 3 3 9 rfl fi_33_2 rfl rfl ?_)
  refine r_cons (s_load (.string e.typ.v) ag_9 rfl (H43.blk_at (i := 1) rfl) rfl rfl ?_)
  refine r_cons (s_call [.pointer (some ⟨b, 0, none⟩), .string e.typ.v] pl_95 rfl rfl (Sink_Text b (L ++ lowB e.src.v.toNat 4 ++ natB e.seq.v.toNat ++ natB e.time.v.toNat) e.typ.v e.typ.ok (by first | omega | (simp only [List.length_append, List.length_nil, lowB_len, natB_len]; omega) | (repeat (first | exact Nat.zero_le _ | assumption | refine putL_le ?_ | refine bitsL_le ?_ | refine evPutL_le ?_ | (simp only [List.length_append, List.length_nil, lowB_len, natB_len]; omega)))) (i := 2) rfl H43) ?_)
  rintro _ w44 ⟨rfl, H45⟩
  have hk46 : putE (L ++ lowB e.src.v.toNat 4 ++ natB e.seq.v.toNat ++ natB e.time.v.toNat) ((textB e.typ.v).length : Int) = 0 ∧ putL (L ++ lowB e.src.v.toNat 4 ++ natB e.seq.v.toNat ++ natB e.time.v.toNat) (textB e.typ.v) = L ++ lowB e.src.v.toNat 4 ++ natB e.seq.v.toNat ++ natB e.time.v.toNat ++ textB e.typ.v := put_ok (L := L ++ lowB e.src.v.toNat 4 ++ natB e.seq.v.toNat ++ natB e.time.v.toNat) rfl (by (try simp only [List.length_append, lowB_len, natB_len]); omega)
  have H48 : St W w44 (blk bk18 (.cells #[.bool true] 4 (0, 0)) :: blk bk15 (.cells #[.int .i64 e.src.v, .int .i64 e.seq.v, .int .i64 e.time.v, .string e.typ.v, .slice pA1 e.attrs.length cA2] 33 (0, 0)) :: SinkA b (L ++ lowB e.src.v.toNat 4 ++ natB e.seq.v.toNat ++ natB e.time.v.toNat ++ textB e.typ.v) :: Attrs (.slice pA1 e.attrs.length cA2) e.attrs :: imi (0 < e.attrs.length) gA3 (.cells kA5 eA6 zA7) :: (F.set i emp)) := by rw [← hk46.2]; exact H45
  refine r_cons (s_callv [.pointer (some ⟨bk18, 0, none⟩)] [.int .i64 (putE (L ++ lowB e.src.v.toNat 4 ++ natB e.seq.v.toNat ++ natB e.time.v.toNat) ((textB e.typ.v).length : Int)), .pointer (some ⟨bk18, 0, none⟩)] rfl pl_93 rfl rfl (form_put bk18 (putE (L ++ lowB e.src.v.toNat 4 ++ natB e.seq.v.toNat ++ natB e.time.v.toNat) ((textB e.typ.v).length : Int)) hk46.1 (i := 0) rfl H48) ?_)
  rintro _ w49 ⟨rfl, H50⟩
  refine r_nil ?_
  refine g_seq ?_
  refine g_region ?_
  refine r_cons (s_move (.func (.func 93) #[] #[.pointer (some ⟨bk18, 0, none⟩)]) rfl rfl ?_)
  refine r_cons (s_move (.pointer (some ⟨b, 0, none⟩)) rfl rfl ?_)
  refine r_cons (s_fieldAddr 33 3 4 4 31 rfl fi_33_3 rfl rfl ?_)
  refine r_cons (s_load (.slice pA1 e.attrs.length cA2) ag_31 rfl (H50.blk_at (i := 1) rfl) rfl rfl ?_)
  refine r_cons (s_len e.attrs.length rfl ⟨_, un_31⟩ rfl ?_)
  refine r_cons (s_conv ((e.attrs.length : Nat) : Int) rfl us_3 ik_62 (wu64 (by omega)) rfl ?_)
  refine r_cons (s_call [.pointer (some ⟨b, 0, none⟩), .int .u64 ((e.attrs.length : Nat) : Int), .int .i64 4] pl_38 rfl rfl (Sink_Bits b (L ++ lowB e.src.v.toNat 4 ++ natB e.seq.v.toNat ++ natB e.time.v.toNat ++ textB e.typ.v) e.attrs.length 4 (by omega) (by first | omega | (simp only [List.length_append, List.length_nil, lowB_len, natB_len]; omega) | (repeat (first | exact Nat.zero_le _ | assumption | refine putL_le ?_ | refine bitsL_le ?_ | refine evPutL_le ?_ | (simp only [List.length_append, List.length_nil, lowB_len, natB_len]; omega)))) (i := 2) rfl H50) ?_)
  rintro _ w51 ⟨rfl, H52⟩
  have hk53 : bitsE (L ++ lowB e.src.v.toNat 4 ++ natB e.seq.v.toNat ++ natB e.time.v.toNat ++ textB e.typ.v) e.attrs.length 4 = 0 ∧ bitsL (L ++ lowB e.src.v.toNat 4 ++ natB e.seq.v.toNat ++ natB e.time.v.toNat ++ textB e.typ.v) e.attrs.length 4 = L ++ lowB e.src.v.toNat 4 ++ natB e.seq.v.toNat ++ natB e.time.v.toNat ++ textB e.typ.v ++ lowB e.attrs.length 4 := (by have hh := bits_ok (L := L ++ lowB e.src.v.toNat 4 ++ natB e.seq.v.toNat ++ natB e.time.v.toNat ++ textB e.typ.v) (u := e.attrs.length) (n := 4) (fits_small (k := 4) rfl (by decide) (by omega)) (by (try simp only [List.length_append, lowB_len, natB_len]); omega); exact hh)
  have H55 : St W w51 (blk bk18 (.cells #[.bool true] 4 (0, 0)) :: blk bk15 (.cells #[.int .i64 e.src.v, .int .i64 e.seq.v, .int .i64 e.time.v, .string e.typ.v, .slice pA1 e.attrs.length cA2] 33 (0, 0)) :: SinkA b (L ++ lowB e.src.v.toNat 4 ++ natB e.seq.v.toNat ++ natB e.time.v.toNat ++ textB e.typ.v ++ lowB e.attrs.length 4) :: Attrs (.slice pA1 e.attrs.length cA2) e.attrs :: imi (0 < e.attrs.length) gA3 (.cells kA5 eA6 zA7) :: (F.set i emp)) := by rw [← hk53.2]; exact H52
  refine r_cons (s_callv [.pointer (some ⟨bk18, 0, none⟩)] [.int .i64 (bitsE (L ++ lowB e.src.v.toNat 4 ++ natB e.seq.v.toNat ++ natB e.time.v.toNat ++ textB e.typ.v) e.attrs.length 4), .pointer (some ⟨bk18, 0, none⟩)] rfl pl_93 rfl rfl (form_put bk18 (bitsE (L ++ lowB e.src.v.toNat 4 ++ natB e.seq.v.toNat ++ natB e.time.v.toNat ++ textB e.typ.v) e.attrs.length 4) hk53.1 (i := 0) rfl H55) ?_)
  rintro _ w56 ⟨rfl, H57⟩
  refine r_nil ?_
  refine g_seq ?_
  refine g_seq ?_
  refine g_region ?_
  refine r_cons (s_fieldAddr 33 3 4 4 31 rfl fi_33_3 rfl rfl ?_)
  refine r_cons (s_load (.slice pA1 e.attrs.length cA2) ag_31 rfl (H57.blk_at (i := 1) rfl) rfl rfl ?_)
  refine r_cons (s_len e.attrs.length rfl ⟨_, un_31⟩ rfl ?_)
  refine r_cons (s_move (.int .i64 0) rfl rfl ?_)
  refine r_nil ?_
  refine g_block ?_
  have H58 : St W w56 (blk bk18 (.cells #[.bool true] 4 (0, 0)) :: blk bk15 (.cells #[.int .i64 e.src.v, .int .i64 e.seq.v, .int .i64 e.time.v, .string e.typ.v, .slice pA1 e.attrs.length cA2] 33 (0, 0)) :: SinkA b (L ++ headB e ++ (e.attrs.take 0).flatMap attrB) :: Attrs (.slice pA1 e.attrs.length cA2) e.attrs :: imi (0 < e.attrs.length) gA3 (.cells kA5 eA6 zA7) :: (F.set i emp)) := by rw [List.take_zero, List.flatMap_nil, List.append_nil]; unfold headB; simp only [List.append_assoc] at H57 ⊢; exact H57
  refine g_loop_inv (fun (x_ : Nat) => match x_ with | j2 => [(0, .pointer (some ⟨b, 0, none⟩)), (4, .bool false), (5, .pointer (some ⟨bk18, 0, none⟩)), (6, .func (.func 93) #[] #[.pointer (some ⟨bk18, 0, none⟩)]), (48, .slice pA1 e.attrs.length cA2), (49, .int .i64 (e.attrs.length : Int)), (50, .int .i64 (j2 : Int))]) (fun (x_ : Nat) w => match x_ with | j2 => (j2 ≤ e.attrs.length) ∧ St W w (blk bk18 (.cells #[.bool true] 4 (0, 0)) :: blk bk15 (.cells #[.int .i64 e.src.v, .int .i64 e.seq.v, .int .i64 e.time.v, .string e.typ.v, .slice pA1 e.attrs.length cA2] 33 (0, 0)) :: SinkA b (L ++ headB e ++ (e.attrs.take j2).flatMap attrB) :: Attrs (.slice pA1 e.attrs.length cA2) e.attrs :: imi (0 < e.attrs.length) gA3 (.cells kA5 eA6 zA7) :: (F.set i emp))) (fun (x_ : Nat) => match x_ with | j2 => e.attrs.length - j2) (0) ?_ ?_ ?_
  · exact ⟨by first | rfl | exact vint (by omega), by first | rfl | exact vint (by omega), by first | rfl | exact vint (by omega), by first | rfl | exact vint (by omega), by first | rfl | exact vint (by omega), by first | rfl | exact vint (by omega), by first | rfl | exact vint (by omega), trivial⟩
  · exact ⟨(by omega), H58⟩
  · rintro j2 ρ59 w60 ⟨hj2, H61⟩ nx62
    change Ends _ _ (upds ρ59 [(0, .pointer (some ⟨b, 0, none⟩)), (4, .bool false), (5, .pointer (some ⟨bk18, 0, none⟩)), (6, .func (.func 93) #[] #[.pointer (some ⟨bk18, 0, none⟩)]), (48, .slice pA1 e.attrs.length cA2), (49, .int .i64 (e.attrs.length : Int)), (50, .int .i64 (j2 : Int))]) w60
    refine g_seq ?_
    refine g_region ?_
    by_cases hc63 : (j2 : Int) < (e.attrs.length : Int)
    · skip
      refine r_cons (s_lss true rfl rfl (dtrue hc63) rfl ?_)
      refine r_nil ?_
      refine g_seq ?_
      refine g_true rfl ?_
      refine g_skip ?_
      refine g_seq ?_
      refine g_block ?_
      refine g_seq ?_
      refine g_region ?_
      refine r_cons (s_indexAddr gA3 (off := oA4) (j2 : Int) 4 (oA4 + j2 * 4) (by exact congrArg (fun z_ => Value.slice z_ e.attrs.length cA2) (hp9 (by omega))) rfl el_31 (by omega) rfl rfl ?_)
      refine r_cons (s_loadAgg [.string ((e.attrs.getD j2 default).name.v), .int .i64 ((e.attrs.getD j2 default).kind.v), .int .i64 ((e.attrs.getD j2 default).n.v), .string ((e.attrs.getD j2 default).s.v)] 4 ag_91 rfl (H61.imi_at (i := 4) rfl (by omega)) (by have := elem_size (i := j2) (s := 4) (hs11 (by omega)) (by omega); omega) (elem_take attrCell_len (hx10 (by omega)) (by omega) default) rfl ?_)
      refine r_cons (s_alloc H61 91 ze_91 rfl ?_); intro bk64 w65 H66
      refine r_cons (s_storeAgg H66 0 #[.string ((e.attrs.getD j2 default).name.v), .int .i64 ((e.attrs.getD j2 default).kind.v), .int .i64 ((e.attrs.getD j2 default).n.v), .string ((e.attrs.getD j2 default).s.v)] 4 rfl rfl rfl sz_91 rfl (by simp [Value.oneCell']) (Nat.le_of_ble_eq_true rfl) (fun o h1 h2 => by first | (simp; done) | (simp; omega)) (cs' := #[.string ((e.attrs.getD j2 default).name.v), .int .i64 ((e.attrs.getD j2 default).kind.v), .int .i64 ((e.attrs.getD j2 default).n.v), .string ((e.attrs.getD j2 default).s.v)]) rfl ?_); intro w67 H68
      refine r_nil ?_
      refine g_seq ?_
      refine g_region ?_
      obtain ⟨ha1, ha2, ha3, ha4⟩ := attr_ok hr6 (j := j2) (by omega)
      have hAr := attrs_room (al := e.attrs) (j := j2) (by omega)
      have hnlo := (e.attrs.getD j2 default).n.lo
      have hnhi := (e.attrs.getD j2 default).n.hi
      have hAm : (textB (e.attrs.getD j2 default).name.v).length + 2 ≤ (attrB (e.attrs.getD j2 default)).length := by unfold attrB; simp only [List.length_append, lowB_len]; omega
      refine r_cons (s_move (.func (.func 93) #[] #[.pointer (some ⟨bk18, 0, none⟩)]) rfl rfl ?_)
      refine r_cons (s_move (.pointer (some ⟨b, 0, none⟩)) rfl rfl ?_)
      refine r_cons (s_fieldAddr 91 0 0 0 9 rfl fi_91_0 rfl rfl ?_)
      refine r_cons (s_load (.string ((e.attrs.getD j2 default).name.v)) ag_9 rfl (H68.blk_at (i := 0) rfl) rfl rfl ?_)
      refine r_cons (s_call [.pointer (some ⟨b, 0, none⟩), .string ((e.attrs.getD j2 default).name.v)] pl_95 rfl rfl (Sink_Text b (L ++ headB e ++ (e.attrs.take j2).flatMap attrB) ((e.attrs.getD j2 default).name.v) (e.attrs.getD j2 default).name.ok (by first | omega | (simp only [List.length_append, List.length_nil, lowB_len, natB_len]; omega) | (repeat (first | exact Nat.zero_le _ | assumption | refine putL_le ?_ | refine bitsL_le ?_ | refine evPutL_le ?_ | (simp only [List.length_append, List.length_nil, lowB_len, natB_len]; omega)))) (i := 3) rfl H68) ?_)
      rintro _ w69 ⟨rfl, H70⟩
      have hk71 : putE (L ++ headB e ++ (e.attrs.take j2).flatMap attrB) ((textB ((e.attrs.getD j2 default).name.v)).length : Int) = 0 ∧ putL (L ++ headB e ++ (e.attrs.take j2).flatMap attrB) (textB ((e.attrs.getD j2 default).name.v)) = L ++ headB e ++ (e.attrs.take j2).flatMap attrB ++ textB (e.attrs.getD j2 default).name.v := put_ok (L := L ++ headB e ++ (e.attrs.take j2).flatMap attrB) rfl (by (try simp only [List.length_append, lowB_len, natB_len]); omega)
      have H73 : St W w69 (blk bk64 (.cells #[.string ((e.attrs.getD j2 default).name.v), .int .i64 ((e.attrs.getD j2 default).kind.v), .int .i64 ((e.attrs.getD j2 default).n.v), .string ((e.attrs.getD j2 default).s.v)] 91 (0, 0)) :: blk bk18 (.cells #[.bool true] 4 (0, 0)) :: blk bk15 (.cells #[.int .i64 e.src.v, .int .i64 e.seq.v, .int .i64 e.time.v, .string e.typ.v, .slice pA1 e.attrs.length cA2] 33 (0, 0)) :: SinkA b (L ++ headB e ++ (e.attrs.take j2).flatMap attrB ++ textB (e.attrs.getD j2 default).name.v) :: Attrs (.slice pA1 e.attrs.length cA2) e.attrs :: imi (0 < e.attrs.length) gA3 (.cells kA5 eA6 zA7) :: (F.set i emp)) := by rw [← hk71.2]; exact H70
      refine r_cons (s_callv [.pointer (some ⟨bk18, 0, none⟩)] [.int .i64 (putE (L ++ headB e ++ (e.attrs.take j2).flatMap attrB) ((textB ((e.attrs.getD j2 default).name.v)).length : Int)), .pointer (some ⟨bk18, 0, none⟩)] rfl pl_93 rfl rfl (form_put bk18 (putE (L ++ headB e ++ (e.attrs.take j2).flatMap attrB) ((textB ((e.attrs.getD j2 default).name.v)).length : Int)) hk71.1 (i := 1) rfl H73) ?_)
      rintro _ w74 ⟨rfl, H75⟩
      refine r_nil ?_
      refine g_seq ?_
      refine g_region ?_
      refine r_cons (s_move (.func (.func 93) #[] #[.pointer (some ⟨bk18, 0, none⟩)]) rfl rfl ?_)
      refine r_cons (s_move (.pointer (some ⟨b, 0, none⟩)) rfl rfl ?_)
      refine r_cons (s_fieldAddr 91 1 1 1 89 rfl fi_91_1 rfl rfl ?_)
      refine r_cons (s_fieldAddr 89 0 0 1 3 rfl fi_89_0 rfl rfl ?_)
      refine r_cons (s_load (.int .i64 ((e.attrs.getD j2 default).kind.v)) ag_3 rfl (H75.blk_at (i := 0) rfl) rfl rfl ?_)
      refine r_cons (s_conv (((e.attrs.getD j2 default).kind.v.toNat : Nat) : Int) rfl us_3 ik_62 ((wu64 (by omega)).trans (by omega)) rfl ?_)
      refine r_cons (s_call [.pointer (some ⟨b, 0, none⟩), .int .u64 (((e.attrs.getD j2 default).kind.v.toNat : Nat) : Int), .int .i64 2] pl_38 rfl rfl (Sink_Bits b (L ++ headB e ++ (e.attrs.take j2).flatMap attrB ++ textB (e.attrs.getD j2 default).name.v) ((e.attrs.getD j2 default).kind.v.toNat) 2 (by omega) (by first | omega | (simp only [List.length_append, List.length_nil, lowB_len, natB_len]; omega) | (repeat (first | exact Nat.zero_le _ | assumption | refine putL_le ?_ | refine bitsL_le ?_ | refine evPutL_le ?_ | (simp only [List.length_append, List.length_nil, lowB_len, natB_len]; omega)))) (i := 3) rfl H75) ?_)
      rintro _ w76 ⟨rfl, H77⟩
      have hk78 : bitsE (L ++ headB e ++ (e.attrs.take j2).flatMap attrB ++ textB (e.attrs.getD j2 default).name.v) ((e.attrs.getD j2 default).kind.v.toNat) 2 = 0 ∧ bitsL (L ++ headB e ++ (e.attrs.take j2).flatMap attrB ++ textB (e.attrs.getD j2 default).name.v) ((e.attrs.getD j2 default).kind.v.toNat) 2 = L ++ headB e ++ (e.attrs.take j2).flatMap attrB ++ textB (e.attrs.getD j2 default).name.v ++ lowB (e.attrs.getD j2 default).kind.v.toNat 2 := (by have hh := bits_ok (L := L ++ headB e ++ (e.attrs.take j2).flatMap attrB ++ textB (e.attrs.getD j2 default).name.v) (u := (e.attrs.getD j2 default).kind.v.toNat) (n := 2) (fits_small (k := 2) rfl (by decide) (by omega)) (by (try simp only [List.length_append, lowB_len, natB_len]); omega); exact hh)
      have H80 : St W w76 (blk bk64 (.cells #[.string ((e.attrs.getD j2 default).name.v), .int .i64 ((e.attrs.getD j2 default).kind.v), .int .i64 ((e.attrs.getD j2 default).n.v), .string ((e.attrs.getD j2 default).s.v)] 91 (0, 0)) :: blk bk18 (.cells #[.bool true] 4 (0, 0)) :: blk bk15 (.cells #[.int .i64 e.src.v, .int .i64 e.seq.v, .int .i64 e.time.v, .string e.typ.v, .slice pA1 e.attrs.length cA2] 33 (0, 0)) :: SinkA b (L ++ headB e ++ (e.attrs.take j2).flatMap attrB ++ textB (e.attrs.getD j2 default).name.v ++ lowB (e.attrs.getD j2 default).kind.v.toNat 2) :: Attrs (.slice pA1 e.attrs.length cA2) e.attrs :: imi (0 < e.attrs.length) gA3 (.cells kA5 eA6 zA7) :: (F.set i emp)) := by rw [← hk78.2]; exact H77
      refine r_cons (s_callv [.pointer (some ⟨bk18, 0, none⟩)] [.int .i64 (bitsE (L ++ headB e ++ (e.attrs.take j2).flatMap attrB ++ textB (e.attrs.getD j2 default).name.v) ((e.attrs.getD j2 default).kind.v.toNat) 2), .pointer (some ⟨bk18, 0, none⟩)] rfl pl_93 rfl rfl (form_put bk18 (bitsE (L ++ headB e ++ (e.attrs.take j2).flatMap attrB ++ textB (e.attrs.getD j2 default).name.v) ((e.attrs.getD j2 default).kind.v.toNat) 2) hk78.1 (i := 1) rfl H80) ?_)
      rintro _ w81 ⟨rfl, H82⟩
      refine r_nil ?_
      refine g_seq ?_
      refine g_region ?_
      refine r_cons (s_fieldAddr 91 1 1 1 89 rfl fi_91_1 rfl rfl ?_)
      refine r_cons (s_fieldAddr 89 0 0 1 3 rfl fi_89_0 rfl rfl ?_)
      refine r_cons (s_load (.int .i64 ((e.attrs.getD j2 default).kind.v)) ag_3 rfl (H82.blk_at (i := 0) rfl) rfl rfl ?_)
      by_cases hc83 : (e.attrs.getD j2 default).kind.v = 1
      · skip
        refine r_cons (s_eql true rfl rfl (dtrue hc83) rfl ?_)
        refine r_nil ?_
        refine g_true rfl ?_
        refine g_region ?_
        have hAB : attrB (e.attrs.getD j2 default) = textB (e.attrs.getD j2 default).name.v ++ lowB (e.attrs.getD j2 default).kind.v.toNat 2 ++ natB (zigN (e.attrs.getD j2 default).n.v) := by unfold attrB; rw [if_pos (by assumption)]
        have hABl : (attrB (e.attrs.getD j2 default)).length = (textB (e.attrs.getD j2 default).name.v).length + 2 + sizeU (zigN (e.attrs.getD j2 default).n.v) := by rw [hAB]; simp only [List.length_append, lowB_len, natB_len]
        refine r_cons (s_move (.func (.func 93) #[] #[.pointer (some ⟨bk18, 0, none⟩)]) rfl rfl ?_)
        refine r_cons (s_move (.pointer (some ⟨b, 0, none⟩)) rfl rfl ?_)
        refine r_cons (s_fieldAddr 91 1 1 1 89 rfl fi_91_1 rfl rfl ?_)
        refine r_cons (s_fieldAddr 89 1 1 2 2 rfl fi_89_1 rfl rfl ?_)
        refine r_cons (s_load (.int .i64 ((e.attrs.getD j2 default).n.v)) ag_2 rfl (H82.blk_at (i := 0) rfl) rfl rfl ?_)
        refine r_cons (s_call [.pointer (some ⟨b, 0, none⟩), .int .i64 ((e.attrs.getD j2 default).n.v)] pl_96 rfl rfl (Sink_Num b (L ++ headB e ++ (e.attrs.take j2).flatMap attrB ++ textB (e.attrs.getD j2 default).name.v ++ lowB (e.attrs.getD j2 default).kind.v.toNat 2) ((e.attrs.getD j2 default).n.v) (by omega) (by omega) (by first | omega | (simp only [List.length_append, List.length_nil, lowB_len, natB_len]; omega) | (repeat (first | exact Nat.zero_le _ | assumption | refine putL_le ?_ | refine bitsL_le ?_ | refine evPutL_le ?_ | (simp only [List.length_append, List.length_nil, lowB_len, natB_len]; omega)))) (i := 3) rfl H82) ?_)
        rintro _ w84 ⟨rfl, H85⟩
        have hk86 : putE (L ++ headB e ++ (e.attrs.take j2).flatMap attrB ++ textB (e.attrs.getD j2 default).name.v ++ lowB (e.attrs.getD j2 default).kind.v.toNat 2) (sizeU (zigN ((e.attrs.getD j2 default).n.v)) : Int) = 0 ∧ putL (L ++ headB e ++ (e.attrs.take j2).flatMap attrB ++ textB (e.attrs.getD j2 default).name.v ++ lowB (e.attrs.getD j2 default).kind.v.toNat 2) (natB (zigN ((e.attrs.getD j2 default).n.v))) = L ++ headB e ++ (e.attrs.take j2).flatMap attrB ++ textB (e.attrs.getD j2 default).name.v ++ lowB (e.attrs.getD j2 default).kind.v.toNat 2 ++ natB (zigN (e.attrs.getD j2 default).n.v) := put_ok (L := L ++ headB e ++ (e.attrs.take j2).flatMap attrB ++ textB (e.attrs.getD j2 default).name.v ++ lowB (e.attrs.getD j2 default).kind.v.toNat 2) (by rw [natB_len]) (by (try simp only [List.length_append, lowB_len, natB_len]); omega)
        have H88 : St W w84 (blk bk64 (.cells #[.string ((e.attrs.getD j2 default).name.v), .int .i64 ((e.attrs.getD j2 default).kind.v), .int .i64 ((e.attrs.getD j2 default).n.v), .string ((e.attrs.getD j2 default).s.v)] 91 (0, 0)) :: blk bk18 (.cells #[.bool true] 4 (0, 0)) :: blk bk15 (.cells #[.int .i64 e.src.v, .int .i64 e.seq.v, .int .i64 e.time.v, .string e.typ.v, .slice pA1 e.attrs.length cA2] 33 (0, 0)) :: SinkA b (L ++ headB e ++ (e.attrs.take j2).flatMap attrB ++ textB (e.attrs.getD j2 default).name.v ++ lowB (e.attrs.getD j2 default).kind.v.toNat 2 ++ natB (zigN (e.attrs.getD j2 default).n.v)) :: Attrs (.slice pA1 e.attrs.length cA2) e.attrs :: imi (0 < e.attrs.length) gA3 (.cells kA5 eA6 zA7) :: (F.set i emp)) := by rw [← hk86.2]; exact H85
        refine r_cons (s_callv [.pointer (some ⟨bk18, 0, none⟩)] [.int .i64 (putE (L ++ headB e ++ (e.attrs.take j2).flatMap attrB ++ textB (e.attrs.getD j2 default).name.v ++ lowB (e.attrs.getD j2 default).kind.v.toNat 2) (sizeU (zigN ((e.attrs.getD j2 default).n.v)) : Int)), .pointer (some ⟨bk18, 0, none⟩)] rfl pl_93 rfl rfl (form_put bk18 (putE (L ++ headB e ++ (e.attrs.take j2).flatMap attrB ++ textB (e.attrs.getD j2 default).name.v ++ lowB (e.attrs.getD j2 default).kind.v.toNat 2) (sizeU (zigN ((e.attrs.getD j2 default).n.v)) : Int)) hk86.1 (i := 1) rfl H88) ?_)
        rintro _ w89 ⟨rfl, H90⟩
        refine r_nil ?_
        refine g_inBlock ?_
        refine g_region ?_
        refine r_cons (s_add ((j2 : Int) + 1) rfl rfl (wi64 (by omega)) rfl ?_)
        refine r_cons (s_move (.int .i64 ((j2 : Int) + 1)) rfl rfl ?_)
        refine r_nil ?_
        have H91 : St W w89 (blk bk18 (.cells #[.bool true] 4 (0, 0)) :: blk bk15 (.cells #[.int .i64 e.src.v, .int .i64 e.seq.v, .int .i64 e.time.v, .string e.typ.v, .slice pA1 e.attrs.length cA2] 33 (0, 0)) :: SinkA b (L ++ headB e ++ (e.attrs.take j2).flatMap attrB ++ textB (e.attrs.getD j2 default).name.v ++ lowB (e.attrs.getD j2 default).kind.v.toNat 2 ++ natB (zigN (e.attrs.getD j2 default).n.v)) :: Attrs (.slice pA1 e.attrs.length cA2) e.attrs :: imi (0 < e.attrs.length) gA3 (.cells kA5 eA6 zA7) :: (F.set i emp)) := ((((((H90.move 5 rfl).move 5 rfl).move 5 rfl).move 5 rfl).move 5 rfl).drop 5 rfl)
        have H92 : St W w89 (blk bk18 (.cells #[.bool true] 4 (0, 0)) :: blk bk15 (.cells #[.int .i64 e.src.v, .int .i64 e.seq.v, .int .i64 e.time.v, .string e.typ.v, .slice pA1 e.attrs.length cA2] 33 (0, 0)) :: SinkA b (L ++ headB e ++ (e.attrs.take (j2 + 1)).flatMap attrB) :: Attrs (.slice pA1 e.attrs.length cA2) e.attrs :: imi (0 < e.attrs.length) gA3 (.cells kA5 eA6 zA7) :: (F.set i emp)) := by rw [attrs_take (by omega), hAB]; simp only [List.append_assoc] at H91 ⊢; exact H91
        exact nx62 (j2 + 1) _ _ ⟨(by omega), H92⟩ (by first | (dsimp only; omega) | omega) ⟨by first | rfl | exact vint (by omega), by first | rfl | exact vint (by omega), by first | rfl | exact vint (by omega), by first | rfl | exact vint (by omega), by first | rfl | exact vint (by omega), by first | rfl | exact vint (by omega), by first | rfl | exact vint (by omega), trivial⟩
      · skip
        refine r_cons (s_eql false rfl rfl (dfalse hc83) rfl ?_)
        refine r_nil ?_
        refine g_false rfl ?_
        refine g_region ?_
        have hAB : attrB (e.attrs.getD j2 default) = textB (e.attrs.getD j2 default).name.v ++ lowB (e.attrs.getD j2 default).kind.v.toNat 2 ++ textB (e.attrs.getD j2 default).s.v := by unfold attrB; rw [if_neg (by assumption)]
        have hABl : (attrB (e.attrs.getD j2 default)).length = (textB (e.attrs.getD j2 default).name.v).length + 2 + (textB (e.attrs.getD j2 default).s.v).length := by rw [hAB]; simp only [List.length_append, lowB_len, natB_len]
        refine r_cons (s_move (.func (.func 93) #[] #[.pointer (some ⟨bk18, 0, none⟩)]) rfl rfl ?_)
        refine r_cons (s_move (.pointer (some ⟨b, 0, none⟩)) rfl rfl ?_)
        refine r_cons (s_fieldAddr 91 1 1 1 89 rfl fi_91_1 rfl rfl ?_)
        refine r_cons (s_fieldAddr 89 2 2 3 9 rfl fi_89_2 rfl rfl ?_)
        refine r_cons (s_load (.string ((e.attrs.getD j2 default).s.v)) ag_9 rfl (H82.blk_at (i := 0) rfl) rfl rfl ?_)
        refine r_cons (s_call [.pointer (some ⟨b, 0, none⟩), .string ((e.attrs.getD j2 default).s.v)] pl_95 rfl rfl (Sink_Text b (L ++ headB e ++ (e.attrs.take j2).flatMap attrB ++ textB (e.attrs.getD j2 default).name.v ++ lowB (e.attrs.getD j2 default).kind.v.toNat 2) ((e.attrs.getD j2 default).s.v) (e.attrs.getD j2 default).s.ok (by first | omega | (simp only [List.length_append, List.length_nil, lowB_len, natB_len]; omega) | (repeat (first | exact Nat.zero_le _ | assumption | refine putL_le ?_ | refine bitsL_le ?_ | refine evPutL_le ?_ | (simp only [List.length_append, List.length_nil, lowB_len, natB_len]; omega)))) (i := 3) rfl H82) ?_)
        rintro _ w93 ⟨rfl, H94⟩
        have hk95 : putE (L ++ headB e ++ (e.attrs.take j2).flatMap attrB ++ textB (e.attrs.getD j2 default).name.v ++ lowB (e.attrs.getD j2 default).kind.v.toNat 2) ((textB ((e.attrs.getD j2 default).s.v)).length : Int) = 0 ∧ putL (L ++ headB e ++ (e.attrs.take j2).flatMap attrB ++ textB (e.attrs.getD j2 default).name.v ++ lowB (e.attrs.getD j2 default).kind.v.toNat 2) (textB ((e.attrs.getD j2 default).s.v)) = L ++ headB e ++ (e.attrs.take j2).flatMap attrB ++ textB (e.attrs.getD j2 default).name.v ++ lowB (e.attrs.getD j2 default).kind.v.toNat 2 ++ textB (e.attrs.getD j2 default).s.v := put_ok (L := L ++ headB e ++ (e.attrs.take j2).flatMap attrB ++ textB (e.attrs.getD j2 default).name.v ++ lowB (e.attrs.getD j2 default).kind.v.toNat 2) rfl (by (try simp only [List.length_append, lowB_len, natB_len]); omega)
        have H97 : St W w93 (blk bk64 (.cells #[.string ((e.attrs.getD j2 default).name.v), .int .i64 ((e.attrs.getD j2 default).kind.v), .int .i64 ((e.attrs.getD j2 default).n.v), .string ((e.attrs.getD j2 default).s.v)] 91 (0, 0)) :: blk bk18 (.cells #[.bool true] 4 (0, 0)) :: blk bk15 (.cells #[.int .i64 e.src.v, .int .i64 e.seq.v, .int .i64 e.time.v, .string e.typ.v, .slice pA1 e.attrs.length cA2] 33 (0, 0)) :: SinkA b (L ++ headB e ++ (e.attrs.take j2).flatMap attrB ++ textB (e.attrs.getD j2 default).name.v ++ lowB (e.attrs.getD j2 default).kind.v.toNat 2 ++ textB (e.attrs.getD j2 default).s.v) :: Attrs (.slice pA1 e.attrs.length cA2) e.attrs :: imi (0 < e.attrs.length) gA3 (.cells kA5 eA6 zA7) :: (F.set i emp)) := by rw [← hk95.2]; exact H94
        refine r_cons (s_callv [.pointer (some ⟨bk18, 0, none⟩)] [.int .i64 (putE (L ++ headB e ++ (e.attrs.take j2).flatMap attrB ++ textB (e.attrs.getD j2 default).name.v ++ lowB (e.attrs.getD j2 default).kind.v.toNat 2) ((textB ((e.attrs.getD j2 default).s.v)).length : Int)), .pointer (some ⟨bk18, 0, none⟩)] rfl pl_93 rfl rfl (form_put bk18 (putE (L ++ headB e ++ (e.attrs.take j2).flatMap attrB ++ textB (e.attrs.getD j2 default).name.v ++ lowB (e.attrs.getD j2 default).kind.v.toNat 2) ((textB ((e.attrs.getD j2 default).s.v)).length : Int)) hk95.1 (i := 1) rfl H97) ?_)
        rintro _ w98 ⟨rfl, H99⟩
        refine r_nil ?_
        refine g_inBlock ?_
        refine g_region ?_
        refine r_cons (s_add ((j2 : Int) + 1) rfl rfl (wi64 (by omega)) rfl ?_)
        refine r_cons (s_move (.int .i64 ((j2 : Int) + 1)) rfl rfl ?_)
        refine r_nil ?_
        have H100 : St W w98 (blk bk18 (.cells #[.bool true] 4 (0, 0)) :: blk bk15 (.cells #[.int .i64 e.src.v, .int .i64 e.seq.v, .int .i64 e.time.v, .string e.typ.v, .slice pA1 e.attrs.length cA2] 33 (0, 0)) :: SinkA b (L ++ headB e ++ (e.attrs.take j2).flatMap attrB ++ textB (e.attrs.getD j2 default).name.v ++ lowB (e.attrs.getD j2 default).kind.v.toNat 2 ++ textB (e.attrs.getD j2 default).s.v) :: Attrs (.slice pA1 e.attrs.length cA2) e.attrs :: imi (0 < e.attrs.length) gA3 (.cells kA5 eA6 zA7) :: (F.set i emp)) := ((((((H99.move 5 rfl).move 5 rfl).move 5 rfl).move 5 rfl).move 5 rfl).drop 5 rfl)
        have H101 : St W w98 (blk bk18 (.cells #[.bool true] 4 (0, 0)) :: blk bk15 (.cells #[.int .i64 e.src.v, .int .i64 e.seq.v, .int .i64 e.time.v, .string e.typ.v, .slice pA1 e.attrs.length cA2] 33 (0, 0)) :: SinkA b (L ++ headB e ++ (e.attrs.take (j2 + 1)).flatMap attrB) :: Attrs (.slice pA1 e.attrs.length cA2) e.attrs :: imi (0 < e.attrs.length) gA3 (.cells kA5 eA6 zA7) :: (F.set i emp)) := by rw [attrs_take (by omega), hAB]; simp only [List.append_assoc] at H100 ⊢; exact H100
        exact nx62 (j2 + 1) _ _ ⟨(by omega), H101⟩ (by first | (dsimp only; omega) | omega) ⟨by first | rfl | exact vint (by omega), by first | rfl | exact vint (by omega), by first | rfl | exact vint (by omega), by first | rfl | exact vint (by omega), by first | rfl | exact vint (by omega), by first | rfl | exact vint (by omega), by first | rfl | exact vint (by omega), trivial⟩
    · skip
      refine r_cons (s_lss false rfl rfl (dfalse hc63) rfl ?_)
      refine r_nil ?_
      refine g_seq ?_
      refine g_false rfl ?_
      refine g_exit (by rfl) ?_
      refine g_seq ?_
      refine g_region ?_
      refine r_cons (s_load (.bool true) ag_4 rfl (H61.blk_at (i := 0) rfl) rfl rfl ?_)
      refine r_cons (s_assign (.bool true) rfl rfl ?_)
      refine r_nil ?_
      refine g_ret' [.bool true] Try.func76 Try.results76 ⟨rfl, trivial⟩ ?_
      have H102 : St W w60 (SinkA b (L ++ headB e ++ (e.attrs.take j2).flatMap attrB) :: (F.set i emp)) := (((((H61.move 2 rfl).drop 1 rfl).drop 1 rfl).drop 1 rfl).drop 1 rfl)
      obtain rfl : j2 = e.attrs.length := by omega
      exact ⟨rfl, by rw [show L ++ formB e = L ++ headB e ++ (e.attrs.take e.attrs.length).flatMap attrB from by rw [List.take_length]; unfold formB; rw [List.append_assoc]]; exact St.back hi H102⟩
set_option maxHeartbeats 4000000 in
set_option maxRecDepth 100000 in
theorem event_Put {W w : World} {F : List Atom} (b : Nat) (L : List Bool) (e : EvM) (av : Value) (hb : L.length ≤ 1048576) {j : Nat} (hj : F[j]? = some (Attrs av e.attrs)) {i : Nat} (hi : F[i]? = some (SinkA b L)) (H : St W w F) : Calls Try.prog 39 #[.pointer (some ⟨b, 0, none⟩), .agg #[.int .i64 e.src.v, .int .i64 e.seq.v, .int .i64 e.time.v, .string e.typ.v, av]] w (Ret fun v w' => v = .int .i64 (evPutE L e) ∧ St W w' (F.set i (SinkA b (evPutL L e)))) := by
  obtain ⟨pA1, cA2, gA3, oA4, kA5, eA6, zA7, rfl, hn8, hp9, hx10, hs11, hml, H12⟩ := Im.open_ H hj
  have H13 := H12.dup (i := j + 1) (by exact hj) (Attrs_pers _ _)
  have H14 : St W w (SinkA b L :: Attrs (.slice pA1 e.attrs.length cA2) e.attrs :: imi (0 < e.attrs.length) gA3 (.cells kA5 eA6 zA7) :: F.set i emp) := H13.front (i := i + 2) (by exact hi)
  refine calls_of_go (n := 28) Try.func39 rfl Try.ntmps39 rfl ?_
  refine g_seq ?_
  refine g_region ?_
  refine r_cons (s_box H14 33 (.agg #[.int .i64 e.src.v, .int .i64 e.seq.v, .int .i64 e.time.v, .string e.typ.v, .slice pA1 e.attrs.length cA2]) rfl (cs := #[.int .i64 e.src.v, .int .i64 e.seq.v, .int .i64 e.time.v, .string e.typ.v, .slice pA1 e.attrs.length cA2]) rfl rfl ?_); intro bk15 w16 H17
  refine r_cons (s_assign (.int .i64 0) rfl rfl ?_)
  refine r_nil ?_
  refine g_seq ?_
  refine g_seq ?_
  refine g_region ?_
  refine r_cons (s_move (.pointer (some ⟨b, 0, none⟩)) rfl rfl ?_)
  have H18 := Row.im (Row.nil_intro H17 4 1) (i := 0) rfl
  refine r_cons (s_call [.pointer (some ⟨b, 0, none⟩), .slice none 0 0] pl_75 rfl rfl (Sink_Flags b L [] (.slice none 0 0) (by first | omega | (simp only [List.length_append, List.length_nil, lowB_len, natB_len]; omega) | (repeat (first | exact Nat.zero_le _ | assumption | refine putL_le ?_ | refine bitsL_le ?_ | refine evPutL_le ?_ | (simp only [List.length_append, List.length_nil, lowB_len, natB_len]; omega)))) (j := 0) rfl (i := 2) rfl H18) ?_)
  rintro _ w19 ⟨rfl, H20⟩
  have hfl : putL L [] = L := (putL_0 rfl (putE_0 (by simp only [List.length_nil]; omega))).trans (List.append_nil L)
  have H21 : St W w19 (Im 1 (.slice none 0 0) 0 [] :: blk bk15 (.cells #[.int .i64 e.src.v, .int .i64 e.seq.v, .int .i64 e.time.v, .string e.typ.v, .slice pA1 e.attrs.length cA2] 33 (0, 0)) :: SinkA b L :: Attrs (.slice pA1 e.attrs.length cA2) e.attrs :: imi (0 < e.attrs.length) gA3 (.cells kA5 eA6 zA7) :: (F.set i emp)) := by have hx := H20; rw [hfl] at hx; exact hx
  refine r_cons (s_neq false rfl rfl (ntrue (putE_0 (by simp only [List.length_nil]; omega))) rfl ?_)
  refine r_nil ?_
  refine g_false rfl ?_
  refine g_skip ?_
  refine g_seq ?_
  refine g_seq ?_
  refine g_region ?_
  refine r_cons (s_loadAgg [.int .i64 e.src.v, .int .i64 e.seq.v, .int .i64 e.time.v, .string e.typ.v, .slice pA1 e.attrs.length cA2] 5 ag_33 rfl (H21.blk_at (i := 1) rfl) (Nat.le_of_ble_eq_true rfl) rfl rfl ?_)
  refine r_cons (s_call [.agg #[.int .i64 e.src.v, .int .i64 e.seq.v, .int .i64 e.time.v, .string e.typ.v, .slice pA1 e.attrs.length cA2]] pl_17 rfl rfl (event_Check e (.slice pA1 e.attrs.length cA2) (j := 3) rfl H21) ?_)
  rintro _ w22 ⟨rfl, H23⟩
  refine r_cons (s_assign (.int .i64 (evE e)) rfl rfl ?_)
  refine r_nil ?_
  refine g_seq ?_
  refine g_region ?_
  refine r_cons (s_move (.int .i64 (evE e)) rfl rfl ?_)
  by_cases hc24 : evE e = 0
  · skip
    refine r_cons (s_neq false rfl rfl (ntrue hc24) rfl ?_)
    refine r_nil ?_
    refine g_false rfl ?_
    refine g_skip ?_
    refine g_seq ?_
    refine g_region ?_
    have hev : evE e = 0 := by assumption
    have hfle := formB_le hev
    refine r_cons (s_call [] pl_36 rfl rfl (NewSink H23) ?_)
    rintro _ w26 ⟨bk25, rfl, H27⟩
    refine r_cons (s_assign (.pointer (some ⟨bk25, 0, none⟩)) rfl rfl ?_)
    refine r_nil ?_
    refine g_seq ?_
    refine g_region ?_
    refine r_cons (s_move (.pointer (some ⟨bk25, 0, none⟩)) rfl rfl ?_)
    refine r_cons (s_loadAgg [.int .i64 e.src.v, .int .i64 e.seq.v, .int .i64 e.time.v, .string e.typ.v, .slice pA1 e.attrs.length cA2] 5 ag_33 rfl (H27.blk_at (i := 2) rfl) (Nat.le_of_ble_eq_true rfl) rfl rfl ?_)
    refine r_cons (s_call [.pointer (some ⟨bk25, 0, none⟩), .agg #[.int .i64 e.src.v, .int .i64 e.seq.v, .int .i64 e.time.v, .string e.typ.v, .slice pA1 e.attrs.length cA2]] pl_76 rfl rfl (event_form bk25 [] e (.slice pA1 e.attrs.length cA2) hev (by first | omega | (simp only [List.length_nil]; omega)) (j := 4) rfl (i := 0) rfl H27) ?_)
    rintro _ w28 ⟨rfl, H29⟩
    refine r_nil ?_
    refine g_seq ?_
    refine g_seq ?_
    refine g_region ?_
    refine r_cons (s_move (.pointer (some ⟨bk25, 0, none⟩)) rfl rfl ?_)
    refine r_cons (s_call [.pointer (some ⟨bk25, 0, none⟩)] pl_37 rfl rfl (Sink_Len bk25 ([] ++ formB e)   (i := 0) rfl H29) ?_)
    rintro _ w30 ⟨rfl, H31⟩
    refine r_cons (s_move (.pointer (some ⟨b, 0, none⟩)) rfl rfl ?_)
    refine r_cons (s_call [.pointer (some ⟨b, 0, none⟩)] pl_37 rfl rfl (Sink_Len b L   (i := 3) rfl H31) ?_)
    rintro _ w32 ⟨rfl, H33⟩
    have hol : (([] : List Bool) ++ formB e).length = (formB e).length := by rw [List.nil_append]
    refine r_cons (s_sub (1048576 - (L.length : Int)) rfl rfl (wi64 (by omega)) rfl ?_)
    by_cases hc34 : 1048576 - (L.length : Int) < (([] ++ formB e).length : Int)
    · skip
      refine r_cons (s_gtr true rfl rfl (dtrue hc34) rfl ?_)
      refine r_nil ?_
      refine g_true rfl ?_
      refine g_seq ?_
      refine g_region ?_
      refine r_cons (s_assign (.int .i64 3) rfl rfl ?_)
      refine r_nil ?_
      refine g_ret' [.int .i64 3] Try.func39 Try.results39 ⟨rfl, trivial⟩ ?_
      have H35 : St W w32 (SinkA b L :: (F.set i emp)) := ((((((H33.move 3 rfl).drop 1 rfl).drop 1 rfl).drop 1 rfl).drop 1 rfl).drop 1 rfl)
      obtain ⟨q1, q2⟩ := evPut_yes (L := L) hev
      have q3 : putE L ((formB e).length : Int) = 3 := putE_3 (by omega)
      exact ⟨vint (by rw [q1, q3]), by rw [q2, putL_no rfl (by rw [q3]; decide)]; exact St.back hi H35⟩
    · skip
      refine r_cons (s_gtr false rfl rfl (dfalse hc34) rfl ?_)
      refine r_nil ?_
      refine g_false rfl ?_
      refine g_skip ?_
      refine g_seq ?_
      refine g_region ?_
      refine r_cons (s_move (.pointer (some ⟨b, 0, none⟩)) rfl rfl ?_)
      refine r_cons (s_loadAgg [.int .i64 e.src.v, .int .i64 e.seq.v, .int .i64 e.time.v, .string e.typ.v, .slice pA1 e.attrs.length cA2] 5 ag_33 rfl (H33.blk_at (i := 2) rfl) (Nat.le_of_ble_eq_true rfl) rfl rfl ?_)
      refine r_cons (s_call [.pointer (some ⟨b, 0, none⟩), .agg #[.int .i64 e.src.v, .int .i64 e.seq.v, .int .i64 e.time.v, .string e.typ.v, .slice pA1 e.attrs.length cA2]] pl_76 rfl rfl (event_form b L e (.slice pA1 e.attrs.length cA2) hev (by first | omega | (simp only [List.length_nil]; omega)) (j := 4) rfl (i := 3) rfl H33) ?_)
      rintro _ w36 ⟨rfl, H37⟩
      refine r_nil ?_
      refine g_seq ?_
      refine g_region ?_
      refine r_cons (s_assign (.int .i64 0) rfl rfl ?_)
      refine r_nil ?_
      refine g_ret' [.int .i64 0] Try.func39 Try.results39 ⟨rfl, trivial⟩ ?_
      have H38 : St W w36 (SinkA b (L ++ formB e) :: (F.set i emp)) := ((((((H37.move 3 rfl).drop 1 rfl).drop 1 rfl).drop 1 rfl).drop 1 rfl).drop 1 rfl)
      obtain ⟨q1, q2⟩ := evPut_yes (L := L) hev
      obtain ⟨q3, q4⟩ := put_ok (L := L) (M := formB e) rfl (by omega)
      exact ⟨vint (by rw [q1, q3]), by rw [q2, q4]; exact St.back hi H38⟩
  · skip
    refine r_cons (s_neq true rfl rfl (nfalse hc24) rfl ?_)
    refine r_nil ?_
    refine g_true rfl ?_
    refine g_seq ?_
    refine g_region ?_
    refine r_cons (s_move (.int .i64 (evE e)) rfl rfl ?_)
    refine r_cons (s_assign (.int .i64 (evE e)) rfl rfl ?_)
    refine r_nil ?_
    refine g_ret' [.int .i64 (evE e)] Try.func39 Try.results39 ⟨rfl, trivial⟩ ?_
    have H39 : St W w22 (SinkA b L :: (F.set i emp)) := (((((H23.move 2 rfl).drop 1 rfl).drop 1 rfl).drop 1 rfl).drop 1 rfl)
    obtain ⟨q1, q2⟩ := evPut_no (L := L) (e := e) (by assumption)
    exact ⟨vint (by rw [q1]), by rw [q2]; exact St.back hi H39⟩
set_option maxHeartbeats 4000000 in
set_option maxRecDepth 100000 in
theorem ref04_Form {W w : World} {F : List Atom} (e : EvM) (av : Value) (hev : evE e = 0) {j : Nat} (hj : F[j]? = some (Attrs av e.attrs)) (H : St W w F) : Calls Try.prog 40 #[.agg #[.int .i64 e.src.v, .int .i64 e.seq.v, .int .i64 e.time.v, .string e.typ.v, av]] w (Ret fun v w' => ∃ p n c, v = .slice p n c ∧ n = (formB e).length ∧ St W w' (Row 4 1 (.slice p n c) n ((formB e).flatMap blc) :: F)) := by
  obtain ⟨pA1, cA2, gA3, oA4, kA5, eA6, zA7, rfl, hn8, hp9, hx10, hs11, hml, H12⟩ := Im.open_ H hj
  have H13 := H12.dup (i := j + 1) (by exact hj) (Attrs_pers _ _)
  have H14 : St W w (Attrs (.slice pA1 e.attrs.length cA2) e.attrs :: imi (0 < e.attrs.length) gA3 (.cells kA5 eA6 zA7) :: F) := H13
  obtain ⟨hr1, hr2, hr3, hr4, hr5, hr6⟩ := evE_range hev
  have ht1 := timeB_range hr3
  have ht2 := timeB_range hr4
  have ha8 := attrsE_len hr6
  have hn5 := nameB_len hr5
  have hz1 := sizeU_le (u := e.seq.v.toNat) (by omega)
  have hz2 := sizeU_le (u := e.time.v.toNat) (by omega)
  have hz3 := sizeU_le (u := e.typ.v.size) (by omega)
  refine calls_of_go (n := 74) Try.func40 rfl Try.ntmps40 rfl ?_
  refine g_seq ?_
  refine g_region ?_
  refine r_cons (s_box H14 33 (.agg #[.int .i64 e.src.v, .int .i64 e.seq.v, .int .i64 e.time.v, .string e.typ.v, .slice pA1 e.attrs.length cA2]) rfl (cs := #[.int .i64 e.src.v, .int .i64 e.seq.v, .int .i64 e.time.v, .string e.typ.v, .slice pA1 e.attrs.length cA2]) rfl rfl ?_); intro bk15 w16 H17
  refine r_cons (s_assign (.slice none 0 0) rfl rfl ?_)
  refine r_nil ?_
  refine g_seq ?_
  refine g_mix (fun t_ w => St W w (blk bk15 (.cells #[.int .i64 e.src.v, .int .i64 e.seq.v, .int .i64 e.time.v, .string e.typ.v, .slice pA1 e.attrs.length cA2] 33 (0, 0)) :: Attrs (.slice pA1 e.attrs.length cA2) e.attrs :: imi (0 < e.attrs.length) gA3 (.cells kA5 eA6 zA7) :: t_)) F mixed 12 rfl H17.drew ?_
  refine f_first 0 (listed' := #[true, false, false, false, false, false, false, false, false, false, false, false]) rfl (by kernel_rfl) (by kernel_rfl) (by kernel_rfl) rfl ?_
  refine f_val rfl rfl rfl (by intro t_ w hw; exact x_fieldAddr 33 0 0 0 30 rfl fi_33_0 rfl w) ?_
  refine f_first 1 (listed' := #[true, true, false, false, false, false, false, false, false, false, false, false]) rfl (by kernel_rfl) (by kernel_rfl) (by kernel_rfl) rfl ?_
  refine f_val rfl rfl rfl (by intro t_ w hw; exact x_fieldAddr 30 0 0 0 3 rfl fi_30_0 rfl w) ?_
  refine f_first 2 (listed' := #[true, true, true, false, false, false, false, false, false, false, false, false]) rfl (by kernel_rfl) (by kernel_rfl) (by kernel_rfl) rfl ?_
  refine f_val rfl rfl rfl (by intro t_ w hw; exact x_load (.int .i64 e.src.v) ag_3 rfl (hw.blk_at (i := 0) rfl) rfl) ?_
  refine f_first 3 (listed' := #[true, true, true, true, false, false, false, false, false, false, false, false]) rfl (by kernel_rfl) (by kernel_rfl) (by kernel_rfl) rfl ?_
  refine f_val rfl rfl rfl (by intro t_ w hw; exact x_conv ((e.src.v.toNat : Nat) : Int) rfl us_3 ik_62 ((wu64 (by omega)).trans (by omega)) w) ?_
  refine f_first 5 (listed' := #[true, true, true, true, false, true, false, false, false, false, false, false]) rfl (by kernel_rfl) (by kernel_rfl) (by kernel_rfl) rfl ?_
  refine f_val rfl rfl rfl (by intro t_ w hw; exact x_fieldAddr 33 0 0 0 30 rfl fi_33_0 rfl w) ?_
  refine f_first 6 (listed' := #[true, true, true, true, false, true, true, false, false, false, false, false]) rfl (by kernel_rfl) (by kernel_rfl) (by kernel_rfl) rfl ?_
  refine f_val rfl rfl rfl (by intro t_ w hw; exact x_fieldAddr 30 1 1 1 2 rfl fi_30_1 rfl w) ?_
  refine f_first 7 (listed' := #[true, true, true, true, false, true, true, true, false, false, false, false]) rfl (by kernel_rfl) (by kernel_rfl) (by kernel_rfl) rfl ?_
  refine f_val rfl rfl rfl (by intro t_ w hw; exact x_load (.int .i64 e.seq.v) ag_2 rfl (hw.blk_at (i := 0) rfl) rfl) ?_
  refine f_first 8 (listed' := #[true, true, true, true, false, true, true, true, true, false, false, false]) rfl (by kernel_rfl) (by kernel_rfl) (by kernel_rfl) rfl ?_
  refine f_val rfl rfl rfl (by intro t_ w hw; exact x_conv ((e.seq.v.toNat : Nat) : Int) rfl us_2 ik_62 ((wu64 (by omega)).trans (by omega)) w) ?_
  refine f_all (rs := [4]) (by kernel_rfl) (by simp) ?_
  refine a_cons ⟨_, rfl, ?_⟩ (fun x hx => absurd hx (by simp))
  intro w18 H19
  try dsimp only at H19
  refine s_call [.int .u64 ((e.src.v.toNat : Nat) : Int), .int .i64 4] pl_43 rfl rfl (ref01_Low e.src.v.toNat 4 (by omega) (by omega) H19) ?_
  rintro _ w22 ⟨pp20, cc21, rfl, H23⟩
  have H24 : St W w22 (blk bk15 (.cells #[.int .i64 e.src.v, .int .i64 e.seq.v, .int .i64 e.time.v, .string e.typ.v, .slice pA1 e.attrs.length cA2] 33 (0, 0)) :: Attrs (.slice pA1 e.attrs.length cA2) e.attrs :: imi (0 < e.attrs.length) gA3 (.cells kA5 eA6 zA7) :: Row 4 1 (.slice pp20 4 cc21) 4 ((lowB e.src.v.toNat 4).flatMap blc) :: F) := (((H23.move 3 rfl).move 3 rfl).move 3 rfl)
  refine ⟨Row 4 1 (.slice pp20 4 cc21) 4 ((lowB e.src.v.toNat 4).flatMap blc) :: F, ?_, H24⟩
  change FReg _ _ _ _ _ #[true, true, true, true, true, true, true, true, true, false, false, false] _ _
  refine f_all (rs := [9]) (by kernel_rfl) (by simp) ?_
  refine a_cons ⟨_, rfl, ?_⟩ (fun x hx => absurd hx (by simp))
  intro w25 H26
  try dsimp only at H26
  refine s_call [.int .u64 ((e.seq.v.toNat : Nat) : Int)] pl_77 rfl rfl (ref01_Nat e.seq.v.toNat (by omega) H26) ?_
  rintro _ w29 ⟨pp27, cc28, rfl, H30⟩
  have H31 : St W w29 (blk bk15 (.cells #[.int .i64 e.src.v, .int .i64 e.seq.v, .int .i64 e.time.v, .string e.typ.v, .slice pA1 e.attrs.length cA2] 33 (0, 0)) :: Attrs (.slice pA1 e.attrs.length cA2) e.attrs :: imi (0 < e.attrs.length) gA3 (.cells kA5 eA6 zA7) :: Row 4 1 (.slice pp27 (sizeU e.seq.v.toNat) cc28) (sizeU e.seq.v.toNat) ((natB e.seq.v.toNat).flatMap blc) :: Row 4 1 (.slice pp20 4 cc21) 4 ((lowB e.src.v.toNat 4).flatMap blc) :: F) := (((((H30.move 4 rfl).move 1 rfl).move 4 rfl).move 4 rfl).move 4 rfl)
  refine ⟨Row 4 1 (.slice pp27 (sizeU e.seq.v.toNat) cc28) (sizeU e.seq.v.toNat) ((natB e.seq.v.toNat).flatMap blc) :: Row 4 1 (.slice pp20 4 cc21) 4 ((lowB e.src.v.toNat 4).flatMap blc) :: F, ?_, H31⟩
  change FReg _ _ _ _ _ #[true, true, true, true, true, true, true, true, true, true, false, false] _ _
  refine f_all (rs := [10]) (by kernel_rfl) (by simp) ?_
  refine a_cons ⟨_, rfl, ?_⟩ (fun x hx => absurd hx (by simp))
  intro w32 H33
  try dsimp only at H33
  refine s_append H33 4 rfl rfl rfl (Row.rd H33 (i := 3) rfl) ap_50 (by decide) (by unfold maxLen; omega) (by omega) (n' := 4 + sizeU e.seq.v.toNat) (xs' := (lowB e.src.v.toNat 4).flatMap blc ++ (natB e.seq.v.toNat).flatMap blc) (by omega) (by first | rfl | simp) rfl ?_; intro vv34 w35 H36 hn37
  obtain ⟨pp38, cc39, rfl⟩ := Row.slice H36 (i := 4) rfl
  refine ⟨Row 4 1 (.slice pp27 (sizeU e.seq.v.toNat) cc28) (sizeU e.seq.v.toNat) ((natB e.seq.v.toNat).flatMap blc) :: Row 4 1 (.slice pp38 (4 + sizeU e.seq.v.toNat) cc39) (4 + sizeU e.seq.v.toNat) ((lowB e.src.v.toNat 4).flatMap blc ++ (natB e.seq.v.toNat).flatMap blc) :: F, ?_, H36⟩
  change FReg _ _ _ _ _ #[true, true, true, true, true, true, true, true, true, true, true, false] _ _
  refine f_first 11 (listed' := #[true, true, true, true, true, true, true, true, true, true, true, true]) rfl (by kernel_rfl) (by kernel_rfl) (by kernel_rfl) rfl ?_
  refine f_val rfl rfl rfl (by intro t_ w hw; exact x_assign (.slice pp38 (4 + sizeU e.seq.v.toNat) cc39) rfl w) ?_
  refine f_done (by kernel_rfl) ?_
  intro w40 H41
  refine g_seq ?_
  refine g_mix (fun t_ w => St W w (blk bk15 (.cells #[.int .i64 e.src.v, .int .i64 e.seq.v, .int .i64 e.time.v, .string e.typ.v, .slice pA1 e.attrs.length cA2] 33 (0, 0)) :: Attrs (.slice pA1 e.attrs.length cA2) e.attrs :: imi (0 < e.attrs.length) gA3 (.cells kA5 eA6 zA7) :: Row 4 1 (.slice pp27 (sizeU e.seq.v.toNat) cc28) (sizeU e.seq.v.toNat) ((natB e.seq.v.toNat).flatMap blc) :: t_)) (Row 4 1 (.slice pp38 (4 + sizeU e.seq.v.toNat) cc39) (4 + sizeU e.seq.v.toNat) ((lowB e.src.v.toNat 4).flatMap blc ++ (natB e.seq.v.toNat).flatMap blc) :: F) mixed 11 rfl H41.drew ?_
  refine f_first 0 (listed' := #[true, false, false, false, false, false, false, false, false, false, false]) rfl (by kernel_rfl) (by kernel_rfl) (by kernel_rfl) rfl ?_
  refine f_val rfl rfl rfl (by intro t_ w hw; exact x_move (.slice pp38 (4 + sizeU e.seq.v.toNat) cc39) rfl w) ?_
  refine f_first 1 (listed' := #[true, true, false, false, false, false, false, false, false, false, false]) rfl (by kernel_rfl) (by kernel_rfl) (by kernel_rfl) rfl ?_
  refine f_val rfl rfl rfl (by intro t_ w hw; exact x_fieldAddr 33 1 2 2 2 rfl fi_33_1 rfl w) ?_
  refine f_first 2 (listed' := #[true, true, true, false, false, false, false, false, false, false, false]) rfl (by kernel_rfl) (by kernel_rfl) (by kernel_rfl) rfl ?_
  refine f_val rfl rfl rfl (by intro t_ w hw; exact x_load (.int .i64 e.time.v) ag_2 rfl (hw.blk_at (i := 0) rfl) rfl) ?_
  refine f_first 3 (listed' := #[true, true, true, true, false, false, false, false, false, false, false]) rfl (by kernel_rfl) (by kernel_rfl) (by kernel_rfl) rfl ?_
  refine f_val rfl rfl rfl (by intro t_ w hw; exact x_conv ((e.time.v.toNat : Nat) : Int) rfl us_2 ik_62 ((wu64 (by omega)).trans (by omega)) w) ?_
  refine f_first 6 (listed' := #[true, true, true, true, false, false, true, false, false, false, false]) rfl (by kernel_rfl) (by kernel_rfl) (by kernel_rfl) rfl ?_
  refine f_val rfl rfl rfl (by intro t_ w hw; exact x_fieldAddr 33 2 3 3 9 rfl fi_33_2 rfl w) ?_
  refine f_first 7 (listed' := #[true, true, true, true, false, false, true, true, false, false, false]) rfl (by kernel_rfl) (by kernel_rfl) (by kernel_rfl) rfl ?_
  refine f_val rfl rfl rfl (by intro t_ w hw; exact x_load (.string e.typ.v) ag_9 rfl (hw.blk_at (i := 0) rfl) rfl) ?_
  refine f_all (rs := [4]) (by kernel_rfl) (by simp) ?_
  refine a_cons ⟨_, rfl, ?_⟩ (fun x hx => absurd hx (by simp))
  intro w42 H43
  try dsimp only at H43
  refine s_call [.int .u64 ((e.time.v.toNat : Nat) : Int)] pl_77 rfl rfl (ref01_Nat e.time.v.toNat (by omega) H43) ?_
  rintro _ w46 ⟨pp44, cc45, rfl, H47⟩
  have H48 : St W w46 (blk bk15 (.cells #[.int .i64 e.src.v, .int .i64 e.seq.v, .int .i64 e.time.v, .string e.typ.v, .slice pA1 e.attrs.length cA2] 33 (0, 0)) :: Attrs (.slice pA1 e.attrs.length cA2) e.attrs :: imi (0 < e.attrs.length) gA3 (.cells kA5 eA6 zA7) :: Row 4 1 (.slice pp27 (sizeU e.seq.v.toNat) cc28) (sizeU e.seq.v.toNat) ((natB e.seq.v.toNat).flatMap blc) :: Row 4 1 (.slice pp44 (sizeU e.time.v.toNat) cc45) (sizeU e.time.v.toNat) ((natB e.time.v.toNat).flatMap blc) :: Row 4 1 (.slice pp38 (4 + sizeU e.seq.v.toNat) cc39) (4 + sizeU e.seq.v.toNat) ((lowB e.src.v.toNat 4).flatMap blc ++ (natB e.seq.v.toNat).flatMap blc) :: F) := ((((((H47.move 5 rfl).move 1 rfl).move 5 rfl).move 5 rfl).move 5 rfl).move 5 rfl)
  refine ⟨Row 4 1 (.slice pp44 (sizeU e.time.v.toNat) cc45) (sizeU e.time.v.toNat) ((natB e.time.v.toNat).flatMap blc) :: Row 4 1 (.slice pp38 (4 + sizeU e.seq.v.toNat) cc39) (4 + sizeU e.seq.v.toNat) ((lowB e.src.v.toNat 4).flatMap blc ++ (natB e.seq.v.toNat).flatMap blc) :: F, ?_, H48⟩
  change FReg _ _ _ _ _ #[true, true, true, true, true, false, true, true, false, false, false] _ _
  refine f_all (rs := [5]) (by kernel_rfl) (by simp) ?_
  refine a_cons ⟨_, rfl, ?_⟩ (fun x hx => absurd hx (by simp))
  intro w49 H50
  try dsimp only at H50
  refine s_append H50 5 rfl rfl rfl (Row.rd H50 (i := 4) rfl) ap_50 (by decide) (by unfold maxLen; omega) (by omega) (n' := 4 + sizeU e.seq.v.toNat + sizeU e.time.v.toNat) (xs' := (lowB e.src.v.toNat 4).flatMap blc ++ (natB e.seq.v.toNat).flatMap blc ++ (natB e.time.v.toNat).flatMap blc) (by omega) (by first | rfl | simp) rfl ?_; intro vv51 w52 H53 hn54
  obtain ⟨pp55, cc56, rfl⟩ := Row.slice H53 (i := 5) rfl
  refine ⟨Row 4 1 (.slice pp44 (sizeU e.time.v.toNat) cc45) (sizeU e.time.v.toNat) ((natB e.time.v.toNat).flatMap blc) :: Row 4 1 (.slice pp55 (4 + sizeU e.seq.v.toNat + sizeU e.time.v.toNat) cc56) (4 + sizeU e.seq.v.toNat + sizeU e.time.v.toNat) ((lowB e.src.v.toNat 4).flatMap blc ++ (natB e.seq.v.toNat).flatMap blc ++ (natB e.time.v.toNat).flatMap blc) :: F, ?_, H53⟩
  change FReg _ _ _ _ _ #[true, true, true, true, true, true, true, true, false, false, false] _ _
  refine f_all (rs := [8]) (by kernel_rfl) (by simp) ?_
  refine a_cons ⟨_, rfl, ?_⟩ (fun x hx => absurd hx (by simp))
  intro w57 H58
  try dsimp only at H58
  refine s_call [.string e.typ.v] pl_78 rfl rfl (ref01_Text e.typ.v (by omega) H58) ?_
  rintro _ w61 ⟨pp59, cc60, rfl, H62⟩
  have H63 : St W w61 (blk bk15 (.cells #[.int .i64 e.src.v, .int .i64 e.seq.v, .int .i64 e.time.v, .string e.typ.v, .slice pA1 e.attrs.length cA2] 33 (0, 0)) :: Attrs (.slice pA1 e.attrs.length cA2) e.attrs :: imi (0 < e.attrs.length) gA3 (.cells kA5 eA6 zA7) :: Row 4 1 (.slice pp27 (sizeU e.seq.v.toNat) cc28) (sizeU e.seq.v.toNat) ((natB e.seq.v.toNat).flatMap blc) :: Row 4 1 (.slice pp59 (sizeU e.typ.v.size + 8 * e.typ.v.size) cc60) (sizeU e.typ.v.size + 8 * e.typ.v.size) ((textB e.typ.v).flatMap blc) :: Row 4 1 (.slice pp44 (sizeU e.time.v.toNat) cc45) (sizeU e.time.v.toNat) ((natB e.time.v.toNat).flatMap blc) :: Row 4 1 (.slice pp55 (4 + sizeU e.seq.v.toNat + sizeU e.time.v.toNat) cc56) (4 + sizeU e.seq.v.toNat + sizeU e.time.v.toNat) ((lowB e.src.v.toNat 4).flatMap blc ++ (natB e.seq.v.toNat).flatMap blc ++ (natB e.time.v.toNat).flatMap blc) :: F) := (((((((H62.move 6 rfl).move 6 rfl).move 2 rfl).move 6 rfl).move 6 rfl).move 6 rfl).move 6 rfl)
  refine ⟨Row 4 1 (.slice pp59 (sizeU e.typ.v.size + 8 * e.typ.v.size) cc60) (sizeU e.typ.v.size + 8 * e.typ.v.size) ((textB e.typ.v).flatMap blc) :: Row 4 1 (.slice pp44 (sizeU e.time.v.toNat) cc45) (sizeU e.time.v.toNat) ((natB e.time.v.toNat).flatMap blc) :: Row 4 1 (.slice pp55 (4 + sizeU e.seq.v.toNat + sizeU e.time.v.toNat) cc56) (4 + sizeU e.seq.v.toNat + sizeU e.time.v.toNat) ((lowB e.src.v.toNat 4).flatMap blc ++ (natB e.seq.v.toNat).flatMap blc ++ (natB e.time.v.toNat).flatMap blc) :: F, ?_, H63⟩
  change FReg _ _ _ _ _ #[true, true, true, true, true, true, true, true, true, false, false] _ _
  refine f_all (rs := [9]) (by kernel_rfl) (by simp) ?_
  refine a_cons ⟨_, rfl, ?_⟩ (fun x hx => absurd hx (by simp))
  intro w64 H65
  try dsimp only at H65
  refine s_append H65 6 rfl rfl rfl (Row.rd H65 (i := 4) rfl) ap_50 (by decide) (by unfold maxLen; omega) (by omega) (n' := 4 + sizeU e.seq.v.toNat + sizeU e.time.v.toNat + sizeU e.typ.v.size + 8 * e.typ.v.size) (xs' := (lowB e.src.v.toNat 4).flatMap blc ++ (natB e.seq.v.toNat).flatMap blc ++ (natB e.time.v.toNat).flatMap blc ++ (textB e.typ.v).flatMap blc) (by omega) (by first | rfl | simp) rfl ?_; intro vv66 w67 H68 hn69
  obtain ⟨pp70, cc71, rfl⟩ := Row.slice H68 (i := 6) rfl
  refine ⟨Row 4 1 (.slice pp59 (sizeU e.typ.v.size + 8 * e.typ.v.size) cc60) (sizeU e.typ.v.size + 8 * e.typ.v.size) ((textB e.typ.v).flatMap blc) :: Row 4 1 (.slice pp44 (sizeU e.time.v.toNat) cc45) (sizeU e.time.v.toNat) ((natB e.time.v.toNat).flatMap blc) :: Row 4 1 (.slice pp70 (4 + sizeU e.seq.v.toNat + sizeU e.time.v.toNat + sizeU e.typ.v.size + 8 * e.typ.v.size) cc71) (4 + sizeU e.seq.v.toNat + sizeU e.time.v.toNat + sizeU e.typ.v.size + 8 * e.typ.v.size) ((lowB e.src.v.toNat 4).flatMap blc ++ (natB e.seq.v.toNat).flatMap blc ++ (natB e.time.v.toNat).flatMap blc ++ (textB e.typ.v).flatMap blc) :: F, ?_, H68⟩
  change FReg _ _ _ _ _ #[true, true, true, true, true, true, true, true, true, true, false] _ _
  refine f_first 10 (listed' := #[true, true, true, true, true, true, true, true, true, true, true]) rfl (by kernel_rfl) (by kernel_rfl) (by kernel_rfl) rfl ?_
  refine f_val rfl rfl rfl (by intro t_ w hw; exact x_assign (.slice pp70 (4 + sizeU e.seq.v.toNat + sizeU e.time.v.toNat + sizeU e.typ.v.size + 8 * e.typ.v.size) cc71) rfl w) ?_
  refine f_done (by kernel_rfl) ?_
  intro w72 H73
  refine g_seq ?_
  refine g_region ?_
  refine r_cons (s_move (.slice pp70 (4 + sizeU e.seq.v.toNat + sizeU e.time.v.toNat + sizeU e.typ.v.size + 8 * e.typ.v.size) cc71) rfl rfl ?_)
  refine r_cons (s_fieldAddr 33 3 4 4 31 rfl fi_33_3 rfl rfl ?_)
  refine r_cons (s_load (.slice pA1 e.attrs.length cA2) ag_31 rfl (H73.blk_at (i := 0) rfl) rfl rfl ?_)
  refine r_cons (s_len e.attrs.length rfl ⟨_, un_31⟩ rfl ?_)
  refine r_cons (s_conv ((e.attrs.length : Nat) : Int) rfl us_3 ik_62 (wu64 (by omega)) rfl ?_)
  refine r_cons (s_call [.int .u64 ((e.attrs.length : Nat) : Int), .int .i64 4] pl_43 rfl rfl (ref01_Low e.attrs.length 4 (by omega) (by omega) H73) ?_)
  rintro _ w76 ⟨pp74, cc75, rfl, H77⟩
  refine r_cons (s_append H77 7 rfl rfl rfl (Row.rd H77 (i := 0) rfl) ap_50 (by decide) (by unfold maxLen; omega) (by omega) (n' := 4 + sizeU e.seq.v.toNat + sizeU e.time.v.toNat + sizeU e.typ.v.size + 8 * e.typ.v.size + 4) (xs' := (lowB e.src.v.toNat 4).flatMap blc ++ (natB e.seq.v.toNat).flatMap blc ++ (natB e.time.v.toNat).flatMap blc ++ (textB e.typ.v).flatMap blc ++ (lowB e.attrs.length 4).flatMap blc) (by omega) (by first | rfl | simp) rfl ?_); intro vv78 w79 H80 hn81
  obtain ⟨pp82, cc83, rfl⟩ := Row.slice H80 (i := 7) rfl
  refine r_cons (s_assign (.slice pp82 (4 + sizeU e.seq.v.toNat + sizeU e.time.v.toNat + sizeU e.typ.v.size + 8 * e.typ.v.size + 4) cc83) rfl rfl ?_)
  refine r_nil ?_
  refine g_seq ?_
  refine g_seq ?_
  refine g_region ?_
  refine r_cons (s_assign (.int .i64 0) rfl rfl ?_)
  refine r_nil ?_
  refine g_block ?_
  have hX0 : (headB e ++ (e.attrs.take 0).flatMap attrB) = headB e := by rw [List.take_zero, List.flatMap_nil, List.append_nil]
  have hnn : (headB e ++ (e.attrs.take 0).flatMap attrB).length = 4 + sizeU e.seq.v.toNat + sizeU e.time.v.toNat + sizeU e.typ.v.size + 8 * e.typ.v.size + 4 := by rw [hX0]; unfold headB; simp only [List.length_append, lowB_len, natB_len, textB_len]; omega
  have H84 : St W w79 (Row 4 1 (.slice pp74 4 cc75) 4 ((lowB e.attrs.length 4).flatMap blc) :: blk bk15 (.cells #[.int .i64 e.src.v, .int .i64 e.seq.v, .int .i64 e.time.v, .string e.typ.v, .slice pA1 e.attrs.length cA2] 33 (0, 0)) :: Attrs (.slice pA1 e.attrs.length cA2) e.attrs :: imi (0 < e.attrs.length) gA3 (.cells kA5 eA6 zA7) :: Row 4 1 (.slice pp27 (sizeU e.seq.v.toNat) cc28) (sizeU e.seq.v.toNat) ((natB e.seq.v.toNat).flatMap blc) :: Row 4 1 (.slice pp59 (sizeU e.typ.v.size + 8 * e.typ.v.size) cc60) (sizeU e.typ.v.size + 8 * e.typ.v.size) ((textB e.typ.v).flatMap blc) :: Row 4 1 (.slice pp44 (sizeU e.time.v.toNat) cc45) (sizeU e.time.v.toNat) ((natB e.time.v.toNat).flatMap blc) :: Row 4 1 (.slice pp82 ((headB e ++ (e.attrs.take 0).flatMap attrB).length) cc83) ((headB e ++ (e.attrs.take 0).flatMap attrB).length) ((headB e ++ (e.attrs.take 0).flatMap attrB).flatMap blc) :: F) := by rw [hnn, hX0]; unfold headB; simp only [List.flatMap_append, List.append_assoc] at H80 ⊢; exact H80
  have H85 : St W w79 (Row 4 1 (.slice pp82 ((headB e ++ (e.attrs.take 0).flatMap attrB).length) cc83) ((headB e ++ (e.attrs.take 0).flatMap attrB).length) ((headB e ++ (e.attrs.take 0).flatMap attrB).flatMap blc) :: Row 4 1 (.slice pp74 4 cc75) 4 ((lowB e.attrs.length 4).flatMap blc) :: blk bk15 (.cells #[.int .i64 e.src.v, .int .i64 e.seq.v, .int .i64 e.time.v, .string e.typ.v, .slice pA1 e.attrs.length cA2] 33 (0, 0)) :: Attrs (.slice pA1 e.attrs.length cA2) e.attrs :: imi (0 < e.attrs.length) gA3 (.cells kA5 eA6 zA7) :: Row 4 1 (.slice pp27 (sizeU e.seq.v.toNat) cc28) (sizeU e.seq.v.toNat) ((natB e.seq.v.toNat).flatMap blc) :: Row 4 1 (.slice pp59 (sizeU e.typ.v.size + 8 * e.typ.v.size) cc60) (sizeU e.typ.v.size + 8 * e.typ.v.size) ((textB e.typ.v).flatMap blc) :: Row 4 1 (.slice pp44 (sizeU e.time.v.toNat) cc45) (sizeU e.time.v.toNat) ((natB e.time.v.toNat).flatMap blc) :: F) := ((((((((H84.move 6 rfl).move 6 rfl).move 6 rfl).move 6 rfl).move 6 rfl).move 6 rfl).move 6 rfl).move 7 rfl)
  refine g_loop_inv (fun (x_ : Nat × (Option Addr) × Nat) => match x_ with | (j2, pq, cq) => [(1, .pointer (some ⟨bk15, 0, none⟩)), (2, .slice none 0 0), (3, .slice pq ((headB e ++ (e.attrs.take j2).flatMap attrB).length) cq), (4, .int .i64 (j2 : Int))]) (fun (x_ : Nat × (Option Addr) × Nat) w => match x_ with | (j2, pq, cq) => (j2 ≤ e.attrs.length) ∧ St W w (Row 4 1 (.slice pq ((headB e ++ (e.attrs.take j2).flatMap attrB).length) cq) ((headB e ++ (e.attrs.take j2).flatMap attrB).length) ((headB e ++ (e.attrs.take j2).flatMap attrB).flatMap blc) :: Row 4 1 (.slice pp74 4 cc75) 4 ((lowB e.attrs.length 4).flatMap blc) :: blk bk15 (.cells #[.int .i64 e.src.v, .int .i64 e.seq.v, .int .i64 e.time.v, .string e.typ.v, .slice pA1 e.attrs.length cA2] 33 (0, 0)) :: Attrs (.slice pA1 e.attrs.length cA2) e.attrs :: imi (0 < e.attrs.length) gA3 (.cells kA5 eA6 zA7) :: Row 4 1 (.slice pp27 (sizeU e.seq.v.toNat) cc28) (sizeU e.seq.v.toNat) ((natB e.seq.v.toNat).flatMap blc) :: Row 4 1 (.slice pp59 (sizeU e.typ.v.size + 8 * e.typ.v.size) cc60) (sizeU e.typ.v.size + 8 * e.typ.v.size) ((textB e.typ.v).flatMap blc) :: Row 4 1 (.slice pp44 (sizeU e.time.v.toNat) cc45) (sizeU e.time.v.toNat) ((natB e.time.v.toNat).flatMap blc) :: F)) (fun (x_ : Nat × (Option Addr) × Nat) => match x_ with | (j2, pq, cq) => e.attrs.length - j2) (0, pp82, cc83) ?_ ?_ ?_
  · exact ⟨by first | rfl | exact vint (by omega), by first | rfl | exact vint (by omega), congrArg (fun z_ => Value.slice pp82 z_ cc83) hnn.symm, by first | rfl | exact vint (by omega), trivial⟩
  · exact ⟨(by omega), H85⟩
  · rintro ⟨j2, pq, cq⟩ ρ86 w87 ⟨hj2, H88⟩ nx89
    change Ends _ _ (upds ρ86 [(1, .pointer (some ⟨bk15, 0, none⟩)), (2, .slice none 0 0), (3, .slice pq ((headB e ++ (e.attrs.take j2).flatMap attrB).length) cq), (4, .int .i64 (j2 : Int))]) w87
    refine g_seq ?_
    refine g_seq ?_
    refine g_region ?_
    refine r_cons (s_move (.int .i64 (j2 : Int)) rfl rfl ?_)
    refine r_cons (s_fieldAddr 33 3 4 4 31 rfl fi_33_3 rfl rfl ?_)
    refine r_cons (s_load (.slice pA1 e.attrs.length cA2) ag_31 rfl (H88.blk_at (i := 2) rfl) rfl rfl ?_)
    refine r_cons (s_len e.attrs.length rfl ⟨_, un_31⟩ rfl ?_)
    by_cases hc90 : (j2 : Int) < (e.attrs.length : Int)
    · skip
      refine r_cons (s_lss true rfl rfl (dtrue hc90) rfl ?_)
      refine r_nil ?_
      refine g_true rfl ?_
      refine g_skip ?_
      refine g_seq ?_
      refine g_block ?_
      refine g_seq ?_
      refine g_region ?_
      refine r_cons (s_fieldAddr 33 3 4 4 31 rfl fi_33_3 rfl rfl ?_)
      refine r_cons (s_load (.slice pA1 e.attrs.length cA2) ag_31 rfl (H88.blk_at (i := 2) rfl) rfl rfl ?_)
      refine r_cons (s_move (.int .i64 (j2 : Int)) rfl rfl ?_)
      refine r_cons (s_indexAddr gA3 (off := oA4) (j2 : Int) 4 (oA4 + j2 * 4) (by exact congrArg (fun z_ => Value.slice z_ e.attrs.length cA2) (hp9 (by omega))) rfl el_31 (by omega) rfl rfl ?_)
      refine r_cons (s_loadAgg [.string ((e.attrs.getD j2 default).name.v), .int .i64 ((e.attrs.getD j2 default).kind.v), .int .i64 ((e.attrs.getD j2 default).n.v), .string ((e.attrs.getD j2 default).s.v)] 4 ag_91 rfl (H88.imi_at (i := 4) rfl (by omega)) (by have := elem_size (i := j2) (s := 4) (hs11 (by omega)) (by omega); omega) (elem_take attrCell_len (hx10 (by omega)) (by omega) default) rfl ?_)
      refine r_cons (s_alloc H88 91 ze_91 rfl ?_); intro bk91 w92 H93
      refine r_cons (s_storeAgg H93 0 #[.string ((e.attrs.getD j2 default).name.v), .int .i64 ((e.attrs.getD j2 default).kind.v), .int .i64 ((e.attrs.getD j2 default).n.v), .string ((e.attrs.getD j2 default).s.v)] 4 rfl rfl rfl sz_91 rfl (by simp [Value.oneCell']) (Nat.le_of_ble_eq_true rfl) (fun o h1 h2 => by first | (simp; done) | (simp; omega)) (cs' := #[.string ((e.attrs.getD j2 default).name.v), .int .i64 ((e.attrs.getD j2 default).kind.v), .int .i64 ((e.attrs.getD j2 default).n.v), .string ((e.attrs.getD j2 default).s.v)]) rfl ?_); intro w94 H95
      refine r_nil ?_
      refine g_seq ?_
      have H96 : St W w94 (blk bk91 (.cells #[.string ((e.attrs.getD j2 default).name.v), .int .i64 ((e.attrs.getD j2 default).kind.v), .int .i64 ((e.attrs.getD j2 default).n.v), .string ((e.attrs.getD j2 default).s.v)] 91 (0, 0)) :: Row 4 1 (.slice pp74 4 cc75) 4 ((lowB e.attrs.length 4).flatMap blc) :: blk bk15 (.cells #[.int .i64 e.src.v, .int .i64 e.seq.v, .int .i64 e.time.v, .string e.typ.v, .slice pA1 e.attrs.length cA2] 33 (0, 0)) :: Attrs (.slice pA1 e.attrs.length cA2) e.attrs :: imi (0 < e.attrs.length) gA3 (.cells kA5 eA6 zA7) :: Row 4 1 (.slice pp27 (sizeU e.seq.v.toNat) cc28) (sizeU e.seq.v.toNat) ((natB e.seq.v.toNat).flatMap blc) :: Row 4 1 (.slice pp59 (sizeU e.typ.v.size + 8 * e.typ.v.size) cc60) (sizeU e.typ.v.size + 8 * e.typ.v.size) ((textB e.typ.v).flatMap blc) :: Row 4 1 (.slice pp44 (sizeU e.time.v.toNat) cc45) (sizeU e.time.v.toNat) ((natB e.time.v.toNat).flatMap blc) :: Row 4 1 (.slice pq ((headB e ++ (e.attrs.take j2).flatMap attrB).length) cq) ((headB e ++ (e.attrs.take j2).flatMap attrB).length) ((headB e ++ (e.attrs.take j2).flatMap attrB).flatMap blc) :: F) := (((((((((H95.move 1 rfl).move 8 rfl).move 8 rfl).move 8 rfl).move 8 rfl).move 8 rfl).move 8 rfl).move 8 rfl).move 8 rfl)
      refine g_mix (fun t_ w => St W w (blk bk91 (.cells #[.string ((e.attrs.getD j2 default).name.v), .int .i64 ((e.attrs.getD j2 default).kind.v), .int .i64 ((e.attrs.getD j2 default).n.v), .string ((e.attrs.getD j2 default).s.v)] 91 (0, 0)) :: Row 4 1 (.slice pp74 4 cc75) 4 ((lowB e.attrs.length 4).flatMap blc) :: blk bk15 (.cells #[.int .i64 e.src.v, .int .i64 e.seq.v, .int .i64 e.time.v, .string e.typ.v, .slice pA1 e.attrs.length cA2] 33 (0, 0)) :: Attrs (.slice pA1 e.attrs.length cA2) e.attrs :: imi (0 < e.attrs.length) gA3 (.cells kA5 eA6 zA7) :: Row 4 1 (.slice pp27 (sizeU e.seq.v.toNat) cc28) (sizeU e.seq.v.toNat) ((natB e.seq.v.toNat).flatMap blc) :: Row 4 1 (.slice pp59 (sizeU e.typ.v.size + 8 * e.typ.v.size) cc60) (sizeU e.typ.v.size + 8 * e.typ.v.size) ((textB e.typ.v).flatMap blc) :: Row 4 1 (.slice pp44 (sizeU e.time.v.toNat) cc45) (sizeU e.time.v.toNat) ((natB e.time.v.toNat).flatMap blc) :: t_)) (Row 4 1 (.slice pq ((headB e ++ (e.attrs.take j2).flatMap attrB).length) cq) ((headB e ++ (e.attrs.take j2).flatMap attrB).length) ((headB e ++ (e.attrs.take j2).flatMap attrB).flatMap blc) :: F) mixed 12 rfl H96.drew ?_
      refine f_first 0 (listed' := #[true, false, false, false, false, false, false, false, false, false, false, false]) rfl (by kernel_rfl) (by kernel_rfl) (by kernel_rfl) rfl ?_
      obtain ⟨ha1, ha2, ha3, ha4⟩ := attr_ok hr6 (j := j2) (by omega)
      have hnlo := (e.attrs.getD j2 default).n.lo
      have hnhi := (e.attrs.getD j2 default).n.hi
      have hz4 := sizeU_le (u := (e.attrs.getD j2 default).name.v.size) (by omega)
      have hz5 := sizeU_le (u := (e.attrs.getD j2 default).s.v.size) (by omega)
      have hz6 := sizeU_le (zigN_lt hnlo hnhi)
      have hfl2 : (headB e ++ (e.attrs.take j2).flatMap attrB).length ≤ 20000 := by have h1 := attrs_le hr6 j2 (by omega); have h2 := textB_le hn5 (by omega); unfold headB; simp only [List.length_append, lowB_len, natB_len]; omega
      refine f_val rfl rfl rfl (by intro t_ w hw; exact x_move (.slice pq ((headB e ++ (e.attrs.take j2).flatMap attrB).length) cq) rfl w) ?_
      refine f_first 1 (listed' := #[true, true, false, false, false, false, false, false, false, false, false, false]) rfl (by kernel_rfl) (by kernel_rfl) (by kernel_rfl) rfl ?_
      refine f_val rfl rfl rfl (by intro t_ w hw; exact x_fieldAddr 91 0 0 0 9 rfl fi_91_0 rfl w) ?_
      refine f_first 2 (listed' := #[true, true, true, false, false, false, false, false, false, false, false, false]) rfl (by kernel_rfl) (by kernel_rfl) (by kernel_rfl) rfl ?_
      refine f_val rfl rfl rfl (by intro t_ w hw; exact x_load (.string ((e.attrs.getD j2 default).name.v)) ag_9 rfl (hw.blk_at (i := 0) rfl) rfl) ?_
      refine f_first 5 (listed' := #[true, true, true, false, false, true, false, false, false, false, false, false]) rfl (by kernel_rfl) (by kernel_rfl) (by kernel_rfl) rfl ?_
      refine f_val rfl rfl rfl (by intro t_ w hw; exact x_fieldAddr 91 1 1 1 89 rfl fi_91_1 rfl w) ?_
      refine f_first 6 (listed' := #[true, true, true, false, false, true, true, false, false, false, false, false]) rfl (by kernel_rfl) (by kernel_rfl) (by kernel_rfl) rfl ?_
      refine f_val rfl rfl rfl (by intro t_ w hw; exact x_fieldAddr 89 0 0 1 3 rfl fi_89_0 rfl w) ?_
      refine f_first 7 (listed' := #[true, true, true, false, false, true, true, true, false, false, false, false]) rfl (by kernel_rfl) (by kernel_rfl) (by kernel_rfl) rfl ?_
      refine f_val rfl rfl rfl (by intro t_ w hw; exact x_load (.int .i64 ((e.attrs.getD j2 default).kind.v)) ag_3 rfl (hw.blk_at (i := 0) rfl) rfl) ?_
      refine f_first 8 (listed' := #[true, true, true, false, false, true, true, true, true, false, false, false]) rfl (by kernel_rfl) (by kernel_rfl) (by kernel_rfl) rfl ?_
      refine f_val rfl rfl rfl (by intro t_ w hw; exact x_conv (((e.attrs.getD j2 default).kind.v.toNat : Nat) : Int) rfl us_3 ik_62 ((wu64 (by omega)).trans (by omega)) w) ?_
      refine f_all (rs := [3]) (by kernel_rfl) (by simp) ?_
      refine a_cons ⟨_, rfl, ?_⟩ (fun x hx => absurd hx (by simp))
      intro w97 H98
      try dsimp only at H98
      refine s_call [.string ((e.attrs.getD j2 default).name.v)] pl_78 rfl rfl (ref01_Text ((e.attrs.getD j2 default).name.v) (by omega) H98) ?_
      rintro _ w101 ⟨pp99, cc100, rfl, H102⟩
      have H103 : St W w101 (blk bk91 (.cells #[.string ((e.attrs.getD j2 default).name.v), .int .i64 ((e.attrs.getD j2 default).kind.v), .int .i64 ((e.attrs.getD j2 default).n.v), .string ((e.attrs.getD j2 default).s.v)] 91 (0, 0)) :: Row 4 1 (.slice pp74 4 cc75) 4 ((lowB e.attrs.length 4).flatMap blc) :: blk bk15 (.cells #[.int .i64 e.src.v, .int .i64 e.seq.v, .int .i64 e.time.v, .string e.typ.v, .slice pA1 e.attrs.length cA2] 33 (0, 0)) :: Attrs (.slice pA1 e.attrs.length cA2) e.attrs :: imi (0 < e.attrs.length) gA3 (.cells kA5 eA6 zA7) :: Row 4 1 (.slice pp27 (sizeU e.seq.v.toNat) cc28) (sizeU e.seq.v.toNat) ((natB e.seq.v.toNat).flatMap blc) :: Row 4 1 (.slice pp59 (sizeU e.typ.v.size + 8 * e.typ.v.size) cc60) (sizeU e.typ.v.size + 8 * e.typ.v.size) ((textB e.typ.v).flatMap blc) :: Row 4 1 (.slice pp44 (sizeU e.time.v.toNat) cc45) (sizeU e.time.v.toNat) ((natB e.time.v.toNat).flatMap blc) :: Row 4 1 (.slice pp99 (sizeU ((e.attrs.getD j2 default).name.v).size + 8 * ((e.attrs.getD j2 default).name.v).size) cc100) (sizeU ((e.attrs.getD j2 default).name.v).size + 8 * ((e.attrs.getD j2 default).name.v).size) ((textB ((e.attrs.getD j2 default).name.v)).flatMap blc) :: Row 4 1 (.slice pq ((headB e ++ (e.attrs.take j2).flatMap attrB).length) cq) ((headB e ++ (e.attrs.take j2).flatMap attrB).length) ((headB e ++ (e.attrs.take j2).flatMap attrB).flatMap blc) :: F) := ((((((((((H102.move 9 rfl).move 1 rfl).move 9 rfl).move 9 rfl).move 9 rfl).move 9 rfl).move 9 rfl).move 9 rfl).move 9 rfl).move 9 rfl)
      refine ⟨Row 4 1 (.slice pp99 (sizeU ((e.attrs.getD j2 default).name.v).size + 8 * ((e.attrs.getD j2 default).name.v).size) cc100) (sizeU ((e.attrs.getD j2 default).name.v).size + 8 * ((e.attrs.getD j2 default).name.v).size) ((textB ((e.attrs.getD j2 default).name.v)).flatMap blc) :: Row 4 1 (.slice pq ((headB e ++ (e.attrs.take j2).flatMap attrB).length) cq) ((headB e ++ (e.attrs.take j2).flatMap attrB).length) ((headB e ++ (e.attrs.take j2).flatMap attrB).flatMap blc) :: F, ?_, H103⟩
      change FReg _ _ _ _ _ #[true, true, true, true, false, true, true, true, true, false, false, false] _ _
      refine f_all (rs := [4]) (by kernel_rfl) (by simp) ?_
      refine a_cons ⟨_, rfl, ?_⟩ (fun x hx => absurd hx (by simp))
      intro w104 H105
      try dsimp only at H105
      refine s_append H105 9 rfl rfl rfl (Row.rd H105 (i := 8) rfl) ap_50 (by decide) (by unfold maxLen; omega) (by omega) (n' := (headB e ++ (e.attrs.take j2).flatMap attrB).length + sizeU ((e.attrs.getD j2 default).name.v).size + 8 * ((e.attrs.getD j2 default).name.v).size) (xs' := (headB e ++ (e.attrs.take j2).flatMap attrB).flatMap blc ++ (textB ((e.attrs.getD j2 default).name.v)).flatMap blc) (by omega) (by first | rfl | simp) rfl ?_; intro vv106 w107 H108 hn109
      obtain ⟨pp110, cc111, rfl⟩ := Row.slice H108 (i := 9) rfl
      refine ⟨Row 4 1 (.slice pp99 (sizeU ((e.attrs.getD j2 default).name.v).size + 8 * ((e.attrs.getD j2 default).name.v).size) cc100) (sizeU ((e.attrs.getD j2 default).name.v).size + 8 * ((e.attrs.getD j2 default).name.v).size) ((textB ((e.attrs.getD j2 default).name.v)).flatMap blc) :: Row 4 1 (.slice pp110 ((headB e ++ (e.attrs.take j2).flatMap attrB).length + sizeU ((e.attrs.getD j2 default).name.v).size + 8 * ((e.attrs.getD j2 default).name.v).size) cc111) ((headB e ++ (e.attrs.take j2).flatMap attrB).length + sizeU ((e.attrs.getD j2 default).name.v).size + 8 * ((e.attrs.getD j2 default).name.v).size) ((headB e ++ (e.attrs.take j2).flatMap attrB).flatMap blc ++ (textB ((e.attrs.getD j2 default).name.v)).flatMap blc) :: F, ?_, H108⟩
      change FReg _ _ _ _ _ #[true, true, true, true, true, true, true, true, true, false, false, false] _ _
      refine f_all (rs := [9]) (by kernel_rfl) (by simp) ?_
      refine a_cons ⟨_, rfl, ?_⟩ (fun x hx => absurd hx (by simp))
      intro w112 H113
      try dsimp only at H113
      refine s_call [.int .u64 (((e.attrs.getD j2 default).kind.v.toNat : Nat) : Int), .int .i64 2] pl_43 rfl rfl (ref01_Low ((e.attrs.getD j2 default).kind.v.toNat) 2 (by omega) (by omega) H113) ?_
      rintro _ w116 ⟨pp114, cc115, rfl, H117⟩
      have H118 : St W w116 (blk bk91 (.cells #[.string ((e.attrs.getD j2 default).name.v), .int .i64 ((e.attrs.getD j2 default).kind.v), .int .i64 ((e.attrs.getD j2 default).n.v), .string ((e.attrs.getD j2 default).s.v)] 91 (0, 0)) :: Row 4 1 (.slice pp74 4 cc75) 4 ((lowB e.attrs.length 4).flatMap blc) :: blk bk15 (.cells #[.int .i64 e.src.v, .int .i64 e.seq.v, .int .i64 e.time.v, .string e.typ.v, .slice pA1 e.attrs.length cA2] 33 (0, 0)) :: Attrs (.slice pA1 e.attrs.length cA2) e.attrs :: imi (0 < e.attrs.length) gA3 (.cells kA5 eA6 zA7) :: Row 4 1 (.slice pp27 (sizeU e.seq.v.toNat) cc28) (sizeU e.seq.v.toNat) ((natB e.seq.v.toNat).flatMap blc) :: Row 4 1 (.slice pp59 (sizeU e.typ.v.size + 8 * e.typ.v.size) cc60) (sizeU e.typ.v.size + 8 * e.typ.v.size) ((textB e.typ.v).flatMap blc) :: Row 4 1 (.slice pp44 (sizeU e.time.v.toNat) cc45) (sizeU e.time.v.toNat) ((natB e.time.v.toNat).flatMap blc) :: Row 4 1 (.slice pp114 2 cc115) 2 ((lowB ((e.attrs.getD j2 default).kind.v.toNat) 2).flatMap blc) :: Row 4 1 (.slice pp99 (sizeU ((e.attrs.getD j2 default).name.v).size + 8 * ((e.attrs.getD j2 default).name.v).size) cc100) (sizeU ((e.attrs.getD j2 default).name.v).size + 8 * ((e.attrs.getD j2 default).name.v).size) ((textB ((e.attrs.getD j2 default).name.v)).flatMap blc) :: Row 4 1 (.slice pp110 ((headB e ++ (e.attrs.take j2).flatMap attrB).length + sizeU ((e.attrs.getD j2 default).name.v).size + 8 * ((e.attrs.getD j2 default).name.v).size) cc111) ((headB e ++ (e.attrs.take j2).flatMap attrB).length + sizeU ((e.attrs.getD j2 default).name.v).size + 8 * ((e.attrs.getD j2 default).name.v).size) ((headB e ++ (e.attrs.take j2).flatMap attrB).flatMap blc ++ (textB ((e.attrs.getD j2 default).name.v)).flatMap blc) :: F) := (((((((((((H117.move 10 rfl).move 10 rfl).move 2 rfl).move 10 rfl).move 10 rfl).move 10 rfl).move 10 rfl).move 10 rfl).move 10 rfl).move 10 rfl).move 10 rfl)
      refine ⟨Row 4 1 (.slice pp114 2 cc115) 2 ((lowB ((e.attrs.getD j2 default).kind.v.toNat) 2).flatMap blc) :: Row 4 1 (.slice pp99 (sizeU ((e.attrs.getD j2 default).name.v).size + 8 * ((e.attrs.getD j2 default).name.v).size) cc100) (sizeU ((e.attrs.getD j2 default).name.v).size + 8 * ((e.attrs.getD j2 default).name.v).size) ((textB ((e.attrs.getD j2 default).name.v)).flatMap blc) :: Row 4 1 (.slice pp110 ((headB e ++ (e.attrs.take j2).flatMap attrB).length + sizeU ((e.attrs.getD j2 default).name.v).size + 8 * ((e.attrs.getD j2 default).name.v).size) cc111) ((headB e ++ (e.attrs.take j2).flatMap attrB).length + sizeU ((e.attrs.getD j2 default).name.v).size + 8 * ((e.attrs.getD j2 default).name.v).size) ((headB e ++ (e.attrs.take j2).flatMap attrB).flatMap blc ++ (textB ((e.attrs.getD j2 default).name.v)).flatMap blc) :: F, ?_, H118⟩
      change FReg _ _ _ _ _ #[true, true, true, true, true, true, true, true, true, true, false, false] _ _
      refine f_all (rs := [10]) (by kernel_rfl) (by simp) ?_
      refine a_cons ⟨_, rfl, ?_⟩ (fun x hx => absurd hx (by simp))
      intro w119 H120
      try dsimp only at H120
      refine s_append H120 10 rfl rfl rfl (Row.rd H120 (i := 8) rfl) ap_50 (by decide) (by unfold maxLen; omega) (by omega) (n' := (headB e ++ (e.attrs.take j2).flatMap attrB).length + sizeU ((e.attrs.getD j2 default).name.v).size + 8 * ((e.attrs.getD j2 default).name.v).size + 2) (xs' := (headB e ++ (e.attrs.take j2).flatMap attrB).flatMap blc ++ (textB ((e.attrs.getD j2 default).name.v)).flatMap blc ++ (lowB ((e.attrs.getD j2 default).kind.v.toNat) 2).flatMap blc) (by omega) (by first | rfl | simp) rfl ?_; intro vv121 w122 H123 hn124
      obtain ⟨pp125, cc126, rfl⟩ := Row.slice H123 (i := 10) rfl
      refine ⟨Row 4 1 (.slice pp114 2 cc115) 2 ((lowB ((e.attrs.getD j2 default).kind.v.toNat) 2).flatMap blc) :: Row 4 1 (.slice pp99 (sizeU ((e.attrs.getD j2 default).name.v).size + 8 * ((e.attrs.getD j2 default).name.v).size) cc100) (sizeU ((e.attrs.getD j2 default).name.v).size + 8 * ((e.attrs.getD j2 default).name.v).size) ((textB ((e.attrs.getD j2 default).name.v)).flatMap blc) :: Row 4 1 (.slice pp125 ((headB e ++ (e.attrs.take j2).flatMap attrB).length + sizeU ((e.attrs.getD j2 default).name.v).size + 8 * ((e.attrs.getD j2 default).name.v).size + 2) cc126) ((headB e ++ (e.attrs.take j2).flatMap attrB).length + sizeU ((e.attrs.getD j2 default).name.v).size + 8 * ((e.attrs.getD j2 default).name.v).size + 2) ((headB e ++ (e.attrs.take j2).flatMap attrB).flatMap blc ++ (textB ((e.attrs.getD j2 default).name.v)).flatMap blc ++ (lowB ((e.attrs.getD j2 default).kind.v.toNat) 2).flatMap blc) :: F, ?_, H123⟩
      change FReg _ _ _ _ _ #[true, true, true, true, true, true, true, true, true, true, true, false] _ _
      refine f_first 11 (listed' := #[true, true, true, true, true, true, true, true, true, true, true, true]) rfl (by kernel_rfl) (by kernel_rfl) (by kernel_rfl) rfl ?_
      refine f_val rfl rfl rfl (by intro t_ w hw; exact x_assign (.slice pp125 ((headB e ++ (e.attrs.take j2).flatMap attrB).length + sizeU ((e.attrs.getD j2 default).name.v).size + 8 * ((e.attrs.getD j2 default).name.v).size + 2) cc126) rfl w) ?_
      refine f_done (by kernel_rfl) ?_
      intro w127 H128
      refine g_seq ?_
      refine g_region ?_
      refine r_cons (s_fieldAddr 91 1 1 1 89 rfl fi_91_1 rfl rfl ?_)
      refine r_cons (s_fieldAddr 89 0 0 1 3 rfl fi_89_0 rfl rfl ?_)
      refine r_cons (s_load (.int .i64 ((e.attrs.getD j2 default).kind.v)) ag_3 rfl (H128.blk_at (i := 0) rfl) rfl rfl ?_)
      by_cases hc129 : (e.attrs.getD j2 default).kind.v = 1
      · skip
        refine r_cons (s_eql true rfl rfl (dtrue hc129) rfl ?_)
        refine r_nil ?_
        refine g_true rfl ?_
        refine g_region ?_
        have hAB : attrB (e.attrs.getD j2 default) = textB (e.attrs.getD j2 default).name.v ++ lowB (e.attrs.getD j2 default).kind.v.toNat 2 ++ natB (zigN (e.attrs.getD j2 default).n.v) := by unfold attrB; rw [if_pos (by assumption)]
        refine r_cons (s_move (.slice pp125 ((headB e ++ (e.attrs.take j2).flatMap attrB).length + sizeU ((e.attrs.getD j2 default).name.v).size + 8 * ((e.attrs.getD j2 default).name.v).size + 2) cc126) rfl rfl ?_)
        refine r_cons (s_fieldAddr 91 1 1 1 89 rfl fi_91_1 rfl rfl ?_)
        refine r_cons (s_fieldAddr 89 1 1 2 2 rfl fi_89_1 rfl rfl ?_)
        refine r_cons (s_load (.int .i64 ((e.attrs.getD j2 default).n.v)) ag_2 rfl (H128.blk_at (i := 0) rfl) rfl rfl ?_)
        refine r_cons (s_call [.int .i64 ((e.attrs.getD j2 default).n.v)] pl_79 rfl rfl (ref01_Num ((e.attrs.getD j2 default).n.v) (by omega) (by omega) H128) ?_)
        rintro _ w132 ⟨pp130, cc131, rfl, H133⟩
        refine r_cons (s_append H133 11 rfl rfl rfl (Row.rd H133 (i := 0) rfl) ap_50 (by decide) (by unfold maxLen; omega) (by omega) (n' := (headB e ++ (e.attrs.take j2).flatMap attrB).length + sizeU ((e.attrs.getD j2 default).name.v).size + 8 * ((e.attrs.getD j2 default).name.v).size + 2 + sizeU (zigN ((e.attrs.getD j2 default).n.v))) (xs' := (headB e ++ (e.attrs.take j2).flatMap attrB).flatMap blc ++ (textB ((e.attrs.getD j2 default).name.v)).flatMap blc ++ (lowB ((e.attrs.getD j2 default).kind.v.toNat) 2).flatMap blc ++ (natB (zigN ((e.attrs.getD j2 default).n.v))).flatMap blc) (by omega) (by first | rfl | simp) rfl ?_); intro vv134 w135 H136 hn137
        obtain ⟨pp138, cc139, rfl⟩ := Row.slice H136 (i := 11) rfl
        refine r_cons (s_assign (.slice pp138 ((headB e ++ (e.attrs.take j2).flatMap attrB).length + sizeU ((e.attrs.getD j2 default).name.v).size + 8 * ((e.attrs.getD j2 default).name.v).size + 2 + sizeU (zigN ((e.attrs.getD j2 default).n.v))) cc139) rfl rfl ?_)
        refine r_nil ?_
        refine g_inBlock ?_
        refine g_region ?_
        refine r_cons (s_move (.int .i64 (j2 : Int)) rfl rfl ?_)
        refine r_cons (s_add ((j2 : Int) + 1) rfl rfl (wi64 (by omega)) rfl ?_)
        refine r_cons (s_assign (.int .i64 ((j2 : Int) + 1)) rfl rfl ?_)
        refine r_nil ?_
        have H140 : St W w135 (Row 4 1 (.slice pp138 ((headB e ++ (e.attrs.take j2).flatMap attrB).length + sizeU ((e.attrs.getD j2 default).name.v).size + 8 * ((e.attrs.getD j2 default).name.v).size + 2 + sizeU (zigN ((e.attrs.getD j2 default).n.v))) cc139) ((headB e ++ (e.attrs.take j2).flatMap attrB).length + sizeU ((e.attrs.getD j2 default).name.v).size + 8 * ((e.attrs.getD j2 default).name.v).size + 2 + sizeU (zigN ((e.attrs.getD j2 default).n.v))) ((headB e ++ (e.attrs.take j2).flatMap attrB).flatMap blc ++ (textB ((e.attrs.getD j2 default).name.v)).flatMap blc ++ (lowB ((e.attrs.getD j2 default).kind.v.toNat) 2).flatMap blc ++ (natB (zigN ((e.attrs.getD j2 default).n.v))).flatMap blc) :: Row 4 1 (.slice pp74 4 cc75) 4 ((lowB e.attrs.length 4).flatMap blc) :: blk bk15 (.cells #[.int .i64 e.src.v, .int .i64 e.seq.v, .int .i64 e.time.v, .string e.typ.v, .slice pA1 e.attrs.length cA2] 33 (0, 0)) :: Attrs (.slice pA1 e.attrs.length cA2) e.attrs :: imi (0 < e.attrs.length) gA3 (.cells kA5 eA6 zA7) :: Row 4 1 (.slice pp27 (sizeU e.seq.v.toNat) cc28) (sizeU e.seq.v.toNat) ((natB e.seq.v.toNat).flatMap blc) :: Row 4 1 (.slice pp59 (sizeU e.typ.v.size + 8 * e.typ.v.size) cc60) (sizeU e.typ.v.size + 8 * e.typ.v.size) ((textB e.typ.v).flatMap blc) :: Row 4 1 (.slice pp44 (sizeU e.time.v.toNat) cc45) (sizeU e.time.v.toNat) ((natB e.time.v.toNat).flatMap blc) :: F) := ((((((((((((H136.move 8 rfl).move 8 rfl).move 8 rfl).move 8 rfl).move 8 rfl).move 8 rfl).move 8 rfl).move 11 rfl).drop 8 rfl).drop 8 rfl).drop 8 rfl).drop 8 rfl)
        have hnj : (headB e ++ (e.attrs.take (j2 + 1)).flatMap attrB).length = (headB e ++ (e.attrs.take j2).flatMap attrB).length + sizeU ((e.attrs.getD j2 default).name.v).size + 8 * ((e.attrs.getD j2 default).name.v).size + 2 + sizeU (zigN ((e.attrs.getD j2 default).n.v)) := by rw [attrs_take (by omega), hAB]; simp only [List.length_append, lowB_len, natB_len, textB_len]; omega
        have H141 : St W w135 (Row 4 1 (.slice pp138 ((headB e ++ (e.attrs.take (j2 + 1)).flatMap attrB).length) cc139) ((headB e ++ (e.attrs.take (j2 + 1)).flatMap attrB).length) ((headB e ++ (e.attrs.take (j2 + 1)).flatMap attrB).flatMap blc) :: Row 4 1 (.slice pp74 4 cc75) 4 ((lowB e.attrs.length 4).flatMap blc) :: blk bk15 (.cells #[.int .i64 e.src.v, .int .i64 e.seq.v, .int .i64 e.time.v, .string e.typ.v, .slice pA1 e.attrs.length cA2] 33 (0, 0)) :: Attrs (.slice pA1 e.attrs.length cA2) e.attrs :: imi (0 < e.attrs.length) gA3 (.cells kA5 eA6 zA7) :: Row 4 1 (.slice pp27 (sizeU e.seq.v.toNat) cc28) (sizeU e.seq.v.toNat) ((natB e.seq.v.toNat).flatMap blc) :: Row 4 1 (.slice pp59 (sizeU e.typ.v.size + 8 * e.typ.v.size) cc60) (sizeU e.typ.v.size + 8 * e.typ.v.size) ((textB e.typ.v).flatMap blc) :: Row 4 1 (.slice pp44 (sizeU e.time.v.toNat) cc45) (sizeU e.time.v.toNat) ((natB e.time.v.toNat).flatMap blc) :: F) := by rw [hnj, attrs_take (by omega), hAB]; simp only [List.flatMap_append, List.append_assoc] at H140 ⊢; exact H140
        exact nx89 (j2 + 1, pp138, cc139) _ _ ⟨(by omega), H141⟩ (by first | (dsimp only; omega) | omega) ⟨by first | rfl | exact vint (by omega), by first | rfl | exact vint (by omega), congrArg (fun z_ => Value.slice pp138 z_ cc139) hnj.symm, by first | rfl | exact vint (by omega), trivial⟩
      · skip
        refine r_cons (s_eql false rfl rfl (dfalse hc129) rfl ?_)
        refine r_nil ?_
        refine g_false rfl ?_
        refine g_region ?_
        have hAB : attrB (e.attrs.getD j2 default) = textB (e.attrs.getD j2 default).name.v ++ lowB (e.attrs.getD j2 default).kind.v.toNat 2 ++ textB (e.attrs.getD j2 default).s.v := by unfold attrB; rw [if_neg (by assumption)]
        refine r_cons (s_move (.slice pp125 ((headB e ++ (e.attrs.take j2).flatMap attrB).length + sizeU ((e.attrs.getD j2 default).name.v).size + 8 * ((e.attrs.getD j2 default).name.v).size + 2) cc126) rfl rfl ?_)
        refine r_cons (s_fieldAddr 91 1 1 1 89 rfl fi_91_1 rfl rfl ?_)
        refine r_cons (s_fieldAddr 89 2 2 3 9 rfl fi_89_2 rfl rfl ?_)
        refine r_cons (s_load (.string ((e.attrs.getD j2 default).s.v)) ag_9 rfl (H128.blk_at (i := 0) rfl) rfl rfl ?_)
        refine r_cons (s_call [.string ((e.attrs.getD j2 default).s.v)] pl_78 rfl rfl (ref01_Text ((e.attrs.getD j2 default).s.v) (by omega) H128) ?_)
        rintro _ w144 ⟨pp142, cc143, rfl, H145⟩
        refine r_cons (s_append H145 11 rfl rfl rfl (Row.rd H145 (i := 0) rfl) ap_50 (by decide) (by unfold maxLen; omega) (by omega) (n' := (headB e ++ (e.attrs.take j2).flatMap attrB).length + sizeU ((e.attrs.getD j2 default).name.v).size + 8 * ((e.attrs.getD j2 default).name.v).size + 2 + sizeU ((e.attrs.getD j2 default).s.v).size + 8 * ((e.attrs.getD j2 default).s.v).size) (xs' := (headB e ++ (e.attrs.take j2).flatMap attrB).flatMap blc ++ (textB ((e.attrs.getD j2 default).name.v)).flatMap blc ++ (lowB ((e.attrs.getD j2 default).kind.v.toNat) 2).flatMap blc ++ (textB ((e.attrs.getD j2 default).s.v)).flatMap blc) (by omega) (by first | rfl | simp) rfl ?_); intro vv146 w147 H148 hn149
        obtain ⟨pp150, cc151, rfl⟩ := Row.slice H148 (i := 11) rfl
        refine r_cons (s_assign (.slice pp150 ((headB e ++ (e.attrs.take j2).flatMap attrB).length + sizeU ((e.attrs.getD j2 default).name.v).size + 8 * ((e.attrs.getD j2 default).name.v).size + 2 + sizeU ((e.attrs.getD j2 default).s.v).size + 8 * ((e.attrs.getD j2 default).s.v).size) cc151) rfl rfl ?_)
        refine r_nil ?_
        refine g_inBlock ?_
        refine g_region ?_
        refine r_cons (s_move (.int .i64 (j2 : Int)) rfl rfl ?_)
        refine r_cons (s_add ((j2 : Int) + 1) rfl rfl (wi64 (by omega)) rfl ?_)
        refine r_cons (s_assign (.int .i64 ((j2 : Int) + 1)) rfl rfl ?_)
        refine r_nil ?_
        have H152 : St W w147 (Row 4 1 (.slice pp150 ((headB e ++ (e.attrs.take j2).flatMap attrB).length + sizeU ((e.attrs.getD j2 default).name.v).size + 8 * ((e.attrs.getD j2 default).name.v).size + 2 + sizeU ((e.attrs.getD j2 default).s.v).size + 8 * ((e.attrs.getD j2 default).s.v).size) cc151) ((headB e ++ (e.attrs.take j2).flatMap attrB).length + sizeU ((e.attrs.getD j2 default).name.v).size + 8 * ((e.attrs.getD j2 default).name.v).size + 2 + sizeU ((e.attrs.getD j2 default).s.v).size + 8 * ((e.attrs.getD j2 default).s.v).size) ((headB e ++ (e.attrs.take j2).flatMap attrB).flatMap blc ++ (textB ((e.attrs.getD j2 default).name.v)).flatMap blc ++ (lowB ((e.attrs.getD j2 default).kind.v.toNat) 2).flatMap blc ++ (textB ((e.attrs.getD j2 default).s.v)).flatMap blc) :: Row 4 1 (.slice pp74 4 cc75) 4 ((lowB e.attrs.length 4).flatMap blc) :: blk bk15 (.cells #[.int .i64 e.src.v, .int .i64 e.seq.v, .int .i64 e.time.v, .string e.typ.v, .slice pA1 e.attrs.length cA2] 33 (0, 0)) :: Attrs (.slice pA1 e.attrs.length cA2) e.attrs :: imi (0 < e.attrs.length) gA3 (.cells kA5 eA6 zA7) :: Row 4 1 (.slice pp27 (sizeU e.seq.v.toNat) cc28) (sizeU e.seq.v.toNat) ((natB e.seq.v.toNat).flatMap blc) :: Row 4 1 (.slice pp59 (sizeU e.typ.v.size + 8 * e.typ.v.size) cc60) (sizeU e.typ.v.size + 8 * e.typ.v.size) ((textB e.typ.v).flatMap blc) :: Row 4 1 (.slice pp44 (sizeU e.time.v.toNat) cc45) (sizeU e.time.v.toNat) ((natB e.time.v.toNat).flatMap blc) :: F) := ((((((((((((H148.move 8 rfl).move 8 rfl).move 8 rfl).move 8 rfl).move 8 rfl).move 8 rfl).move 8 rfl).move 11 rfl).drop 8 rfl).drop 8 rfl).drop 8 rfl).drop 8 rfl)
        have hnj : (headB e ++ (e.attrs.take (j2 + 1)).flatMap attrB).length = (headB e ++ (e.attrs.take j2).flatMap attrB).length + sizeU ((e.attrs.getD j2 default).name.v).size + 8 * ((e.attrs.getD j2 default).name.v).size + 2 + sizeU ((e.attrs.getD j2 default).s.v).size + 8 * ((e.attrs.getD j2 default).s.v).size := by rw [attrs_take (by omega), hAB]; simp only [List.length_append, lowB_len, natB_len, textB_len]; omega
        have H153 : St W w147 (Row 4 1 (.slice pp150 ((headB e ++ (e.attrs.take (j2 + 1)).flatMap attrB).length) cc151) ((headB e ++ (e.attrs.take (j2 + 1)).flatMap attrB).length) ((headB e ++ (e.attrs.take (j2 + 1)).flatMap attrB).flatMap blc) :: Row 4 1 (.slice pp74 4 cc75) 4 ((lowB e.attrs.length 4).flatMap blc) :: blk bk15 (.cells #[.int .i64 e.src.v, .int .i64 e.seq.v, .int .i64 e.time.v, .string e.typ.v, .slice pA1 e.attrs.length cA2] 33 (0, 0)) :: Attrs (.slice pA1 e.attrs.length cA2) e.attrs :: imi (0 < e.attrs.length) gA3 (.cells kA5 eA6 zA7) :: Row 4 1 (.slice pp27 (sizeU e.seq.v.toNat) cc28) (sizeU e.seq.v.toNat) ((natB e.seq.v.toNat).flatMap blc) :: Row 4 1 (.slice pp59 (sizeU e.typ.v.size + 8 * e.typ.v.size) cc60) (sizeU e.typ.v.size + 8 * e.typ.v.size) ((textB e.typ.v).flatMap blc) :: Row 4 1 (.slice pp44 (sizeU e.time.v.toNat) cc45) (sizeU e.time.v.toNat) ((natB e.time.v.toNat).flatMap blc) :: F) := by rw [hnj, attrs_take (by omega), hAB]; simp only [List.flatMap_append, List.append_assoc] at H152 ⊢; exact H152
        exact nx89 (j2 + 1, pp150, cc151) _ _ ⟨(by omega), H153⟩ (by first | (dsimp only; omega) | omega) ⟨by first | rfl | exact vint (by omega), by first | rfl | exact vint (by omega), congrArg (fun z_ => Value.slice pp150 z_ cc151) hnj.symm, by first | rfl | exact vint (by omega), trivial⟩
    · skip
      refine r_cons (s_lss false rfl rfl (dfalse hc90) rfl ?_)
      refine r_nil ?_
      refine g_false rfl ?_
      refine g_exit (by rfl) ?_
      refine g_seq ?_
      refine g_region ?_
      refine r_cons (s_move (.slice pq ((headB e ++ (e.attrs.take j2).flatMap attrB).length) cq) rfl rfl ?_)
      refine r_cons (s_assign (.slice pq ((headB e ++ (e.attrs.take j2).flatMap attrB).length) cq) rfl rfl ?_)
      refine r_nil ?_
      refine g_ret' [.slice pq ((headB e ++ (e.attrs.take j2).flatMap attrB).length) cq] Try.func40 Try.results40 ⟨rfl, trivial⟩ ?_
      have H154 : St W w87 (Row 4 1 (.slice pq ((headB e ++ (e.attrs.take j2).flatMap attrB).length) cq) ((headB e ++ (e.attrs.take j2).flatMap attrB).length) ((headB e ++ (e.attrs.take j2).flatMap attrB).flatMap blc) :: F) := (((((((H88.drop 1 rfl).drop 1 rfl).drop 1 rfl).drop 1 rfl).drop 1 rfl).drop 1 rfl).drop 1 rfl)
      obtain rfl : j2 = e.attrs.length := by omega
      have hfm : headB e ++ (e.attrs.take e.attrs.length).flatMap attrB = formB e := by rw [List.take_length]; rfl
      exact ⟨_, _, _, rfl, by rw [hfm], by rw [← hfm]; exact H154⟩
end Sl
