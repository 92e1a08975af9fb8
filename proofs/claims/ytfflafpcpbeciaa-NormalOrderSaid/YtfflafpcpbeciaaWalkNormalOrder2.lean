/- Walks of the program's functions. Printed by a program of this claim's author. No condition. -/
import Derived.Test.YtfflafpcpbeciaaSlCP
import Derived.Test.YtfflafpcpbeciaaSlQ
import Derived.Test.YtfflafpcpbeciaaProg
import Derived.Test.YtfflafpcpbeciaaWalkNormalOrder1
namespace Sl
open _root_.Go _root_.Go.RowKit _root_.Go.Proofs
set_option linter.all false
set_option maxHeartbeats 4000000 in
set_option maxRecDepth 100000 in
theorem symMerge__r (N_ : Nat) : ∀ (p : Option Addr) (N c : Nat) (L : List NodeD) (a m b : Nat), b - a < N_ → ∀ {W w : World} {F : List Atom} (hN : N ≤ 140737488355328) (h1 : a < m) (h2 : m < b) (h3 : b ≤ N) (hs1 : srt L a m) (hs2 : srt L m b) (H : St W w (DataA 25 p N c L :: F)), Calls Try.prog 78 #[.slice p N c, .int .i64 (a : Int), .int .i64 (m : Int), .int .i64 (b : Int), .func (.func 8) #[] #[]] w (Ret fun v w' => v = .tuple #[] ∧ ∃ K : List NodeD, (Seg a b L K ∧ srt K a b) ∧ St W w' (DataA 25 p N c K :: F)) := by
  induction N_ with | zero => exact fun p N c L a m b hN_ => absurd hN_ (Nat.not_lt_zero _) | succ N_ ih => ?_
  intro p N c L a m b hN_ W w F hN h1 h2 h3 hs1 hs2 H
  have hD := (DataA.open H).1
  refine calls_of_go (n := 220) Try.func78 rfl Try.ntmps78 rfl ?_
  refine g_seq ?_
  refine g_seq ?_
  refine g_region ?_
  refine r_cons (s_move (.int .i64 (m : Int)) rfl rfl ?_)
  refine r_cons (s_move (.int .i64 (a : Int)) rfl rfl ?_)
  refine r_cons (s_sub ((m : Int) - (a : Int)) rfl rfl (wi64 (by omega)) rfl ?_)
  by_cases hc1 : (m : Int) - (a : Int) = 1
  · skip
    refine r_cons (s_eql true rfl rfl (dtrue hc1) rfl ?_)
    refine r_nil ?_
    refine g_true rfl ?_
    refine g_seq ?_
    refine g_region ?_
    refine r_cons (s_move (.int .i64 (m : Int)) rfl rfl ?_)
    refine r_cons (s_assign (.int .i64 (m : Int)) rfl rfl ?_)
    refine r_nil ?_
    refine g_seq ?_
    refine g_region ?_
    refine r_cons (s_move (.int .i64 (b : Int)) rfl rfl ?_)
    refine r_cons (s_assign (.int .i64 (b : Int)) rfl rfl ?_)
    refine r_nil ?_
    refine g_seq ?_
    refine g_block ?_
    have H2 : St W w (DataA 25 p N c L :: F) := H
    refine g_loop_inv (fun (x_ : Nat × Nat) => match x_ with | (i, j) => [(0, .slice p N c), (1, .int .i64 (a : Int)), (2, .int .i64 (m : Int)), (3, .int .i64 (b : Int)), (4, .func (.func 8) #[] #[]), (10, .int .i64 (i : Int)), (11, .int .i64 (j : Int))]) (fun (x_ : Nat × Nat) w => match x_ with | (i, j) => (m ≤ i) ∧ (i ≤ j) ∧ (j ≤ b) ∧ (i = m ∨ cmpN (gd L (i - 1)) (gd L a) < 0) ∧ (j = b ∨ ¬ cmpN (gd L j) (gd L a) < 0) ∧ St W w (DataA 25 p N c L :: F)) (fun (x_ : Nat × Nat) => match x_ with | (i, j) => j - i) (m, b) ?_ ?_ ?_
    · exact ⟨by first | rfl | exact vint (by omega), by first | rfl | exact vint (by omega), by first | rfl | exact vint (by omega), by first | rfl | exact vint (by omega), by first | rfl | exact vint (by omega), by first | rfl | exact vint (by omega), by first | rfl | exact vint (by omega), trivial⟩
    · exact ⟨(by omega), (by omega), (by omega), (.inl rfl), (.inl rfl), H2⟩
    · rintro ⟨i, j⟩ ρ3 w4 ⟨hi, hij, hj, hA, hB, H5⟩ nx6
      change Ends _ _ (upds ρ3 [(0, .slice p N c), (1, .int .i64 (a : Int)), (2, .int .i64 (m : Int)), (3, .int .i64 (b : Int)), (4, .func (.func 8) #[] #[]), (10, .int .i64 (i : Int)), (11, .int .i64 (j : Int))]) w4
      refine g_seq ?_
      refine g_seq ?_
      refine g_region ?_
      refine r_cons (s_move (.int .i64 (i : Int)) rfl rfl ?_)
      refine r_cons (s_move (.int .i64 (j : Int)) rfl rfl ?_)
      by_cases hc7 : (i : Int) < (j : Int)
      · skip
        refine r_cons (s_lss true rfl rfl (dtrue hc7) rfl ?_)
        refine r_nil ?_
        refine g_true rfl ?_
        refine g_skip ?_
        refine g_block ?_
        refine g_seq ?_
        refine g_region ?_
        refine r_cons (s_move (.int .i64 (i : Int)) rfl rfl ?_)
        refine r_cons (s_move (.int .i64 (j : Int)) rfl rfl ?_)
        refine r_cons (s_add ((i + j : Nat) : Int) rfl rfl ((fun (z_ : Int) (hz_ : z_ = ((i + j : Nat) : Int)) => (congrArg IntKind.i64.wrap hz_).trans (wi64 (by omega))) _ (by omega)) rfl ?_)
        refine r_cons (s_conv ((i + j : Nat) : Int) rfl us_3 ik_96 (wu64 (by omega)) rfl ?_)
        refine r_cons (s_shr ((((i + j) / 2) : Nat) : Int) rfl rfl (by omega) (shr_nat (k := 1) rfl (by decide)) rfl ?_)
        refine r_cons (s_conv ((((i + j) / 2) : Nat) : Int) rfl us_96 ik_3 (wi64 (by omega)) rfl ?_)
        refine r_cons (s_assign (.int .i64 ((((i + j) / 2) : Nat) : Int)) rfl rfl ?_)
        refine r_nil ?_
        refine g_seq ?_
        obtain ⟨hD8, H9⟩ := DataA.open H5
        have H10 : St W w4 (Row 25 5 (.slice p N c) N (L.flatMap nodeCell) :: NodesA L :: F) := H9
        obtain ⟨bk11, cur12, hp13, h14, h15, h16, h17, h18, H19⟩ := Row.open2 H10 (i := 0) rfl (by omega)
        have H20 := NodesA.at H19 (i := 1) rfl (j := ((i + j) / 2)) (by omega)
        have H21 := NodesA.at H20 (i := 2) rfl (j := a) (by omega)
        refine g_mix (fun t_ w => St W w (NodeA (L.getD a default) :: NodeA (L.getD ((i + j) / 2) default) :: blk bk11 (.cells cur12 25 (0, 0)) :: NodesA L :: t_)) F mixed 11 rfl H21.drew ?_
        refine f_first 0 (listed' := #[true, false, false, false, false, false, false, false, false, false, false]) rfl (by kernel_rfl) (by kernel_rfl) (by kernel_rfl) rfl ?_
        refine f_val rfl rfl rfl (by intro t_ w hw; exact x_move (.func (.func 8) #[] #[]) rfl w) ?_
        refine f_first 1 (listed' := #[true, true, false, false, false, false, false, false, false, false, false]) rfl (by kernel_rfl) (by kernel_rfl) (by kernel_rfl) rfl ?_
        refine f_val rfl rfl rfl (by intro t_ w hw; exact x_move (.slice p N c) rfl w) ?_
        refine f_first 2 (listed' := #[true, true, true, false, false, false, false, false, false, false, false]) rfl (by kernel_rfl) (by kernel_rfl) (by kernel_rfl) rfl ?_
        refine f_val rfl rfl rfl (by intro t_ w hw; exact x_move (.int .i64 ((((i + j) / 2) : Nat) : Int)) rfl w) ?_
        refine f_first 3 (listed' := #[true, true, true, true, false, false, false, false, false, false, false]) rfl (by kernel_rfl) (by kernel_rfl) (by kernel_rfl) rfl ?_
        refine f_val rfl rfl rfl (by intro t_ w hw; exact x_indexAddr bk11 (off := 0) ((((i + j) / 2) : Nat) : Int) 5 (0 + ((i + j) / 2) * 5) (by exact congrArg (fun z_ => Value.slice z_ N c) ((fun (_ : 0 < 1) => hp13) (by omega))) rfl el_23 (by omega) rfl w) ?_
        refine f_first 4 (listed' := #[true, true, true, true, true, false, false, false, false, false, false]) rfl (by kernel_rfl) (by kernel_rfl) (by kernel_rfl) rfl ?_
        refine f_val rfl rfl rfl (by intro t_ w hw; exact x_loadAgg [.int .i64 ((L.getD ((i + j) / 2) default).kind.v), .string ((L.getD ((i + j) / 2) default).var.v), .string ((L.getD ((i + j) / 2) default).typ.v), .slice ((L.getD ((i + j) / 2) default).tp) ((L.getD ((i + j) / 2) default).tests.length) ((L.getD ((i + j) / 2) default).tc), .slice ((L.getD ((i + j) / 2) default).kp) ((L.getD ((i + j) / 2) default).kids.length) ((L.getD ((i + j) / 2) default).kc)] 5 ag_25 rfl (hw.blk_at (i := 2) rfl) (by have := elem_size (i := ((i + j) / 2)) (s := 5) (show 0 + L.length * 5 ≤ cur12.size by have := (show L.length * 5 ≤ cur12.size by rw [hD8, h16]; exact Nat.mul_le_mul_right 5 h14); omega) (by have hh : L.length = N := hD8; omega); omega) (elem_take nodeCell_len (by rw [hD8]; exact h17) (by have hh : L.length = N := hD8; omega) default)) ?_
        refine f_first 5 (listed' := #[true, true, true, true, true, true, false, false, false, false, false]) rfl (by kernel_rfl) (by kernel_rfl) (by kernel_rfl) rfl ?_
        refine f_val rfl rfl rfl (by intro t_ w hw; exact x_move (.slice p N c) rfl w) ?_
        refine f_first 6 (listed' := #[true, true, true, true, true, true, true, false, false, false, false]) rfl (by kernel_rfl) (by kernel_rfl) (by kernel_rfl) rfl ?_
        refine f_val rfl rfl rfl (by intro t_ w hw; exact x_move (.int .i64 (a : Int)) rfl w) ?_
        refine f_first 7 (listed' := #[true, true, true, true, true, true, true, true, false, false, false]) rfl (by kernel_rfl) (by kernel_rfl) (by kernel_rfl) rfl ?_
        refine f_val rfl rfl rfl (by intro t_ w hw; exact x_indexAddr bk11 (off := 0) (a : Int) 5 (0 + a * 5) (by exact congrArg (fun z_ => Value.slice z_ N c) ((fun (_ : 0 < 1) => hp13) (by omega))) rfl el_23 (by omega) rfl w) ?_
        refine f_first 8 (listed' := #[true, true, true, true, true, true, true, true, true, false, false]) rfl (by kernel_rfl) (by kernel_rfl) (by kernel_rfl) rfl ?_
        refine f_val rfl rfl rfl (by intro t_ w hw; exact x_loadAgg [.int .i64 ((L.getD a default).kind.v), .string ((L.getD a default).var.v), .string ((L.getD a default).typ.v), .slice ((L.getD a default).tp) ((L.getD a default).tests.length) ((L.getD a default).tc), .slice ((L.getD a default).kp) ((L.getD a default).kids.length) ((L.getD a default).kc)] 5 ag_25 rfl (hw.blk_at (i := 2) rfl) (by have := elem_size (i := a) (s := 5) (show 0 + L.length * 5 ≤ cur12.size by have := (show L.length * 5 ≤ cur12.size by rw [hD8, h16]; exact Nat.mul_le_mul_right 5 h14); omega) (by have hh : L.length = N := hD8; omega); omega) (elem_take nodeCell_len (by rw [hD8]; exact h17) (by have hh : L.length = N := hD8; omega) default)) ?_
        refine f_all (rs := [9]) (by kernel_rfl) (by simp) ?_
        refine a_cons ⟨_, rfl, ?_⟩ (fun x hx => absurd hx (by simp))
        intro w22 H23
        try dsimp only at H23
        refine s_callv [] [.agg #[.int .i64 ((L.getD ((i + j) / 2) default).kind.v), .string ((L.getD ((i + j) / 2) default).var.v), .string ((L.getD ((i + j) / 2) default).typ.v), .slice ((L.getD ((i + j) / 2) default).tp) ((L.getD ((i + j) / 2) default).tests.length) ((L.getD ((i + j) / 2) default).tc), .slice ((L.getD ((i + j) / 2) default).kp) ((L.getD ((i + j) / 2) default).kids.length) ((L.getD ((i + j) / 2) default).kc)], .agg #[.int .i64 ((L.getD a default).kind.v), .string ((L.getD a default).var.v), .string ((L.getD a default).typ.v), .slice ((L.getD a default).tp) ((L.getD a default).tests.length) ((L.getD a default).tc), .slice ((L.getD a default).kp) ((L.getD a default).kids.length) ((L.getD a default).kc)]] rfl pl_8 rfl rfl (normal_Compare (L.getD ((i + j) / 2) default) (L.getD a default) (i := 1) rfl (i2 := 0) rfl H23) ?_
        rintro _ w24 ⟨rfl, H25⟩
        refine ⟨F, ?_, H25⟩
        change FReg _ _ _ _ _ #[true, true, true, true, true, true, true, true, true, true, false] _ _
        refine f_first 10 (listed' := #[true, true, true, true, true, true, true, true, true, true, true]) rfl (by kernel_rfl) (by kernel_rfl) (by kernel_rfl) rfl ?_
        by_cases hc26 : cmpN (L.getD ((i + j) / 2) default) (L.getD a default) < 0
        · skip
          refine f_val rfl rfl rfl (by intro t_ w hw; exact x_lss true rfl rfl (dtrue hc26) w) ?_
          refine f_done (by kernel_rfl) ?_
          intro w27 H28
          refine g_true rfl ?_
          refine g_region ?_
          refine r_cons (s_move (.int .i64 ((((i + j) / 2) : Nat) : Int)) rfl rfl ?_)
          refine r_cons (s_add (((((i + j) / 2) : Nat) : Int) + 1) rfl rfl (wi64 (by omega)) rfl ?_)
          refine r_cons (s_assign (.int .i64 (((((i + j) / 2) : Nat) : Int) + 1)) rfl rfl ?_)
          refine r_nil ?_
          refine g_inBlock ?_
          have H29 := Row.shut2 (p := p) (n := N) (c := c) (size := 5) (xs := L.flatMap nodeCell) H28 (i := 2) rfl hp13 h14 h15 h16 (by have hh : (cur12.toList.drop 0).take (L.length * 5) = L.flatMap nodeCell := (by rw [hD8]; exact h17); have hk : L.length = N := hD8; rw [hk] at hh; exact hh) (fun x_ hx_ => by obtain ⟨a_, _, ha_⟩ := List.mem_flatMap.1 hx_; exact one_node a_ x_ ha_)
          have H30 : St W w27 (Row 25 5 (.slice p N c) N (L.flatMap nodeCell) :: NodesA L :: NodeA (L.getD a default) :: NodeA (L.getD ((i + j) / 2) default) :: F) := ((H29.move 3 rfl).move 3 rfl)
          have H31 : St W w27 (DataA 25 p N c L :: NodeA (L.getD a default) :: NodeA (L.getD ((i + j) / 2) default) :: F) := DataA.make hD8 H30
          have H32 : St W w27 (DataA 25 p N c L :: F) := ((H31.drop 1 rfl).drop 1 rfl)
          have H33 : St W w27 (DataA 25 p N c L :: F) := H32
          exact nx6 (((i + j) / 2) + 1, j) _ _ ⟨(by omega), (by omega), (by omega), (.inr (by rw [show ((i + j) / 2) + 1 - 1 = ((i + j) / 2) from by omega]; exact hc26)), hB, H33⟩ (by first | (dsimp only; omega) | omega) ⟨by first | rfl | exact vint (by omega), by first | rfl | exact vint (by omega), by first | rfl | exact vint (by omega), by first | rfl | exact vint (by omega), by first | rfl | exact vint (by omega), by first | rfl | exact vint (by omega), by first | rfl | exact vint (by omega), trivial⟩
        · skip
          refine f_val rfl rfl rfl (by intro t_ w hw; exact x_lss false rfl rfl (dfalse hc26) w) ?_
          refine f_done (by kernel_rfl) ?_
          intro w34 H35
          refine g_false rfl ?_
          refine g_region ?_
          refine r_cons (s_move (.int .i64 ((((i + j) / 2) : Nat) : Int)) rfl rfl ?_)
          refine r_cons (s_assign (.int .i64 ((((i + j) / 2) : Nat) : Int)) rfl rfl ?_)
          refine r_nil ?_
          refine g_inBlock ?_
          have H36 := Row.shut2 (p := p) (n := N) (c := c) (size := 5) (xs := L.flatMap nodeCell) H35 (i := 2) rfl hp13 h14 h15 h16 (by have hh : (cur12.toList.drop 0).take (L.length * 5) = L.flatMap nodeCell := (by rw [hD8]; exact h17); have hk : L.length = N := hD8; rw [hk] at hh; exact hh) (fun x_ hx_ => by obtain ⟨a_, _, ha_⟩ := List.mem_flatMap.1 hx_; exact one_node a_ x_ ha_)
          have H37 : St W w34 (Row 25 5 (.slice p N c) N (L.flatMap nodeCell) :: NodesA L :: NodeA (L.getD a default) :: NodeA (L.getD ((i + j) / 2) default) :: F) := ((H36.move 3 rfl).move 3 rfl)
          have H38 : St W w34 (DataA 25 p N c L :: NodeA (L.getD a default) :: NodeA (L.getD ((i + j) / 2) default) :: F) := DataA.make hD8 H37
          have H39 : St W w34 (DataA 25 p N c L :: F) := ((H38.drop 1 rfl).drop 1 rfl)
          have H40 : St W w34 (DataA 25 p N c L :: F) := H39
          exact nx6 (i, ((i + j) / 2)) _ _ ⟨(by omega), (by omega), (by omega), hA, (.inr hc26), H40⟩ (by first | (dsimp only; omega) | omega) ⟨by first | rfl | exact vint (by omega), by first | rfl | exact vint (by omega), by first | rfl | exact vint (by omega), by first | rfl | exact vint (by omega), by first | rfl | exact vint (by omega), by first | rfl | exact vint (by omega), by first | rfl | exact vint (by omega), trivial⟩
      · skip
        refine r_cons (s_lss false rfl rfl (dfalse hc7) rfl ?_)
        refine r_nil ?_
        refine g_false rfl ?_
        refine g_exit (by rfl) ?_
        refine g_seq ?_
        refine g_seq ?_
        refine g_region ?_
        refine r_cons (s_move (.int .i64 (a : Int)) rfl rfl ?_)
        refine r_cons (s_assign (.int .i64 (a : Int)) rfl rfl ?_)
        refine r_nil ?_
        refine g_block ?_
        have hij9 : i = j := by omega
        have H41 : St W w4 (DataA 25 p N c L :: F) := H5
        refine g_loop_inv (fun (x_ : (List NodeD) × Nat) => match x_ with | (K, k) => [(0, .slice p N c), (1, .int .i64 (a : Int)), (2, .int .i64 (m : Int)), (3, .int .i64 (b : Int)), (4, .func (.func 8) #[] #[]), (10, .int .i64 (i : Int)), (13, .int .i64 (k : Int))]) (fun (x_ : (List NodeD) × Nat) w => match x_ with | (K, k) => (a ≤ k) ∧ (k + 1 ≤ i) ∧ (Mv1 L K a k) ∧ St W w (DataA 25 p N c K :: F)) (fun (x_ : (List NodeD) × Nat) => match x_ with | (K, k) => i - k) (L, a) ?_ ?_ ?_
        · exact ⟨by first | rfl | exact vint (by omega), by first | rfl | exact vint (by omega), by first | rfl | exact vint (by omega), by first | rfl | exact vint (by omega), by first | rfl | exact vint (by omega), by first | rfl | exact vint (by omega), by first | rfl | exact vint (by omega), trivial⟩
        · exact ⟨(by omega), (by omega), (Mv1.zero L a), H41⟩
        · rintro ⟨K, k⟩ ρ42 w43 ⟨hk, hki, hmv, H44⟩ nx45
          change Ends _ _ (upds ρ42 [(0, .slice p N c), (1, .int .i64 (a : Int)), (2, .int .i64 (m : Int)), (3, .int .i64 (b : Int)), (4, .func (.func 8) #[] #[]), (10, .int .i64 (i : Int)), (13, .int .i64 (k : Int))]) w43
          refine g_seq ?_
          refine g_seq ?_
          refine g_region ?_
          refine r_cons (s_move (.int .i64 (k : Int)) rfl rfl ?_)
          refine r_cons (s_move (.int .i64 (i : Int)) rfl rfl ?_)
          refine r_cons (s_sub ((i : Int) - 1) rfl rfl (wi64 (by omega)) rfl ?_)
          by_cases hc46 : (k : Int) < (i : Int) - 1
          · skip
            refine r_cons (s_lss true rfl rfl (dtrue hc46) rfl ?_)
            refine r_nil ?_
            refine g_true rfl ?_
            refine g_skip ?_
            refine g_seq ?_
            refine g_block ?_
            have hlk := hmv.perm.length_eq
            obtain ⟨hD47, H48⟩ := DataA.open H44
            have H49 : St W w43 (Row 25 5 (.slice p N c) N (K.flatMap nodeCell) :: NodesA K :: F) := H48
            obtain ⟨bk50, cur51, hp52, h53, h54, h55, h56, h57, H58⟩ := Row.open2 H49 (i := 0) rfl (by omega)
            have H59 : St W w43 (NodesA K :: blk bk50 (.cells cur51 25 (0, 0)) :: F) := (H58.move 1 rfl)
            refine g_mix (fun t_ w => St W w (NodesA K :: t_)) (blk bk50 (.cells cur51 25 (0, 0)) :: F) mixed 18 rfl H59.drew ?_
            refine f_first 0 (listed' := #[true, false, false, false, false, false, false, false, false, false, false, false, false, false, false, false, false, false]) rfl (by kernel_rfl) (by kernel_rfl) (by kernel_rfl) rfl ?_
            refine f_val rfl rfl rfl (by intro t_ w hw; exact x_move (.slice p N c) rfl w) ?_
            refine f_first 1 (listed' := #[true, true, false, false, false, false, false, false, false, false, false, false, false, false, false, false, false, false]) rfl (by kernel_rfl) (by kernel_rfl) (by kernel_rfl) rfl ?_
            refine f_val rfl rfl rfl (by intro t_ w hw; exact x_move (.int .i64 (k : Int)) rfl w) ?_
            refine f_first 2 (listed' := #[true, true, true, false, false, false, false, false, false, false, false, false, false, false, false, false, false, false]) rfl (by kernel_rfl) (by kernel_rfl) (by kernel_rfl) rfl ?_
            refine f_val rfl rfl rfl (by intro t_ w hw; exact x_move (.slice p N c) rfl w) ?_
            refine f_first 3 (listed' := #[true, true, true, true, false, false, false, false, false, false, false, false, false, false, false, false, false, false]) rfl (by kernel_rfl) (by kernel_rfl) (by kernel_rfl) rfl ?_
            refine f_val rfl rfl rfl (by intro t_ w hw; exact x_move (.int .i64 (k : Int)) rfl w) ?_
            refine f_first 4 (listed' := #[true, true, true, true, true, false, false, false, false, false, false, false, false, false, false, false, false, false]) rfl (by kernel_rfl) (by kernel_rfl) (by kernel_rfl) rfl ?_
            refine f_val rfl rfl rfl (by intro t_ w hw; exact x_add ((k : Int) + 1) rfl rfl (wi64 (by omega)) w) ?_
            refine f_first 5 (listed' := #[true, true, true, true, true, true, false, false, false, false, false, false, false, false, false, false, false, false]) rfl (by kernel_rfl) (by kernel_rfl) (by kernel_rfl) rfl ?_
            refine f_val rfl rfl rfl (by intro t_ w hw; exact x_move (.slice p N c) rfl w) ?_
            refine f_first 6 (listed' := #[true, true, true, true, true, true, true, false, false, false, false, false, false, false, false, false, false, false]) rfl (by kernel_rfl) (by kernel_rfl) (by kernel_rfl) rfl ?_
            refine f_val rfl rfl rfl (by intro t_ w hw; exact x_move (.int .i64 (k : Int)) rfl w) ?_
            refine f_first 7 (listed' := #[true, true, true, true, true, true, true, true, false, false, false, false, false, false, false, false, false, false]) rfl (by kernel_rfl) (by kernel_rfl) (by kernel_rfl) rfl ?_
            refine f_val rfl rfl rfl (by intro t_ w hw; exact x_add ((k : Int) + 1) rfl rfl (wi64 (by omega)) w) ?_
            refine f_first 8 (listed' := #[true, true, true, true, true, true, true, true, true, false, false, false, false, false, false, false, false, false]) rfl (by kernel_rfl) (by kernel_rfl) (by kernel_rfl) rfl ?_
            refine f_val rfl rfl rfl (by intro t_ w hw; exact x_indexAddr bk50 (off := 0) ((k : Int) + 1) 5 (0 + (k + 1) * 5) (by exact congrArg (fun z_ => Value.slice z_ N c) ((fun (_ : 0 < 1) => hp52) (by omega))) rfl el_23 (by omega) (by rw [show ((k : Int) + 1 : Int).toNat = k + 1 from by omega]) w) ?_
            refine f_first 10 (listed' := #[true, true, true, true, true, true, true, true, true, false, true, false, false, false, false, false, false, false]) rfl (by kernel_rfl) (by kernel_rfl) (by kernel_rfl) rfl ?_
            refine f_val rfl rfl rfl (by intro t_ w hw; exact x_move (.slice p N c) rfl w) ?_
            refine f_first 11 (listed' := #[true, true, true, true, true, true, true, true, true, false, true, true, false, false, false, false, false, false]) rfl (by kernel_rfl) (by kernel_rfl) (by kernel_rfl) rfl ?_
            refine f_val rfl rfl rfl (by intro t_ w hw; exact x_move (.int .i64 (k : Int)) rfl w) ?_
            refine f_first 12 (listed' := #[true, true, true, true, true, true, true, true, true, false, true, true, true, false, false, false, false, false]) rfl (by kernel_rfl) (by kernel_rfl) (by kernel_rfl) rfl ?_
            refine f_val rfl rfl rfl (by intro t_ w hw; exact x_indexAddr bk50 (off := 0) (k : Int) 5 (0 + k * 5) (by exact congrArg (fun z_ => Value.slice z_ N c) ((fun (_ : 0 < 1) => hp52) (by omega))) rfl el_23 (by omega) rfl w) ?_
            refine f_all (rs := [9, 13]) (by kernel_rfl) (by simp) ?_
            refine a_cons ⟨_, rfl, ?_⟩ (a_cons ⟨_, rfl, ?_⟩ (fun x hx => absurd hx (by simp)))
            · skip
              intro w60 H61
              try dsimp only at H61
              refine s_loadAgg [.int .i64 ((K.getD (k + 1) default).kind.v), .string ((K.getD (k + 1) default).var.v), .string ((K.getD (k + 1) default).typ.v), .slice ((K.getD (k + 1) default).tp) ((K.getD (k + 1) default).tests.length) ((K.getD (k + 1) default).tc), .slice ((K.getD (k + 1) default).kp) ((K.getD (k + 1) default).kids.length) ((K.getD (k + 1) default).kc)] 5 ag_25 rfl (H61.blk_at (i := 1) rfl) (by have := elem_size (i := k + 1) (s := 5) (show 0 + K.length * 5 ≤ cur51.size by have := (show K.length * 5 ≤ cur51.size by rw [hD47, h55]; exact Nat.mul_le_mul_right 5 h53); omega) (by have hh : K.length = N := hD47; omega); omega) (elem_take nodeCell_len (by rw [hD47]; exact h56) (by have hh : K.length = N := hD47; omega) default) rfl ?_
              refine ⟨blk bk50 (.cells cur51 25 (0, 0)) :: F, ?_, H61⟩
              change FReg _ _ _ _ _ #[true, true, true, true, true, true, true, true, true, true, true, true, true, false, false, false, false, false] _ _
              refine f_all (rs := [13]) (by kernel_rfl) (by simp) ?_
              refine a_cons ⟨_, rfl, ?_⟩ (fun x hx => absurd hx (by simp))
              intro w62 H63
              try dsimp only at H63
              refine s_loadAgg [.int .i64 ((K.getD k default).kind.v), .string ((K.getD k default).var.v), .string ((K.getD k default).typ.v), .slice ((K.getD k default).tp) ((K.getD k default).tests.length) ((K.getD k default).tc), .slice ((K.getD k default).kp) ((K.getD k default).kids.length) ((K.getD k default).kc)] 5 ag_25 rfl (H63.blk_at (i := 1) rfl) (by have := elem_size (i := k) (s := 5) (show 0 + K.length * 5 ≤ cur51.size by have := (show K.length * 5 ≤ cur51.size by rw [hD47, h55]; exact Nat.mul_le_mul_right 5 h53); omega) (by have hh : K.length = N := hD47; omega); omega) (elem_take nodeCell_len (by rw [hD47]; exact h56) (by have hh : K.length = N := hD47; omega) default) rfl ?_
              refine ⟨blk bk50 (.cells cur51 25 (0, 0)) :: F, ?_, H63⟩
              change FReg _ _ _ _ _ #[true, true, true, true, true, true, true, true, true, true, true, true, true, true, false, false, false, false] _ _
              refine f_first 14 (listed' := #[true, true, true, true, true, true, true, true, true, true, true, true, true, true, true, false, false, false]) rfl (by kernel_rfl) (by kernel_rfl) (by kernel_rfl) rfl ?_
              refine f_val rfl rfl rfl (by intro t_ w hw; exact x_indexAddr bk50 (off := 0) (k : Int) 5 (0 + k * 5) (by exact congrArg (fun z_ => Value.slice z_ N c) ((fun (_ : 0 < 1) => hp52) (by omega))) rfl el_23 (by omega) rfl w) ?_
              refine f_all (rs := [15]) (by kernel_rfl) (by simp) ?_
              refine a_cons ⟨_, rfl, ?_⟩ (fun x hx => absurd hx (by simp))
              intro w64 H65
              try dsimp only at H65
              have hx68 := row_setN (f := nodeCell) (L := K) (cur := cur51) nodeCell_len (by decide) (by rw [hD47]; exact h56) (show K.length * 5 ≤ cur51.size by rw [hD47, h55]; exact Nat.mul_le_mul_right 5 h53) (j := k) (by have hh := hD47; omega) (K.getD (k + 1) default)
              refine s_storeAgg H65 1 #[.int .i64 ((K.getD (k + 1) default).kind.v), .string ((K.getD (k + 1) default).var.v), .string ((K.getD (k + 1) default).typ.v), .slice ((K.getD (k + 1) default).tp) ((K.getD (k + 1) default).tests.length) ((K.getD (k + 1) default).tc), .slice ((K.getD (k + 1) default).kp) ((K.getD (k + 1) default).kids.length) ((K.getD (k + 1) default).kc)] 5 rfl rfl rfl sz_25 rfl (fun v_ hv_ => one_node (K.getD (k + 1) default) v_ hv_) (by have hh := hD47; have hk := (show K.length * 5 ≤ cur51.size by rw [hD47, h55]; exact Nat.mul_le_mul_right 5 h53); omega) (fun o_ h1_ h2_ => by simp) (cs' := (writes cur51 (0 + k * 5) (nodeCell (K.getD (k + 1) default)))) rfl ?_; intro w66 H67
              refine ⟨blk bk50 (.cells (writes cur51 (0 + k * 5) (nodeCell (K.getD (k + 1) default))) 25 (0, 0)) :: F, ?_, H67⟩
              change FReg _ _ _ _ _ #[true, true, true, true, true, true, true, true, true, true, true, true, true, true, true, true, false, false] _ _
              refine f_first 16 (listed' := #[true, true, true, true, true, true, true, true, true, true, true, true, true, true, true, true, true, false]) rfl (by kernel_rfl) (by kernel_rfl) (by kernel_rfl) rfl ?_
              refine f_val rfl rfl rfl (by intro t_ w hw; exact x_indexAddr bk50 (off := 0) ((k : Int) + 1) 5 (0 + (k + 1) * 5) (by exact congrArg (fun z_ => Value.slice z_ N c) ((fun (_ : 0 < 1) => hp52) (by omega))) rfl el_23 (by omega) (by rw [show ((k : Int) + 1 : Int).toNat = k + 1 from by omega]) w) ?_
              refine f_all (rs := [17]) (by kernel_rfl) (by simp) ?_
              refine a_cons ⟨_, rfl, ?_⟩ (fun x hx => absurd hx (by simp))
              intro w69 H70
              try dsimp only at H70
              have hx73 := row_setN (f := nodeCell) (L := (K.set k (K.getD (k + 1) default))) (cur := (writes cur51 (0 + k * 5) (nodeCell (K.getD (k + 1) default)))) nodeCell_len (by decide) hx68 (show (K.set k (K.getD (k + 1) default)).length * 5 ≤ (writes cur51 (0 + k * 5) (nodeCell (K.getD (k + 1) default))).size by rw [(show ((K.set k (K.getD (k + 1) default))).length = N from by first | (rw [List.length_set]; exact hD47) | rw [List.length_set]), (show (writes cur51 (0 + k * 5) (nodeCell (K.getD (k + 1) default))).size = c * 5 from by rw [writes_size]; exact h55)]; exact Nat.mul_le_mul_right 5 h53) (j := k + 1) (by have hh := (show ((K.set k (K.getD (k + 1) default))).length = N from by first | (rw [List.length_set]; exact hD47) | rw [List.length_set]); omega) (K.getD k default)
              refine s_storeAgg H70 1 #[.int .i64 ((K.getD k default).kind.v), .string ((K.getD k default).var.v), .string ((K.getD k default).typ.v), .slice ((K.getD k default).tp) ((K.getD k default).tests.length) ((K.getD k default).tc), .slice ((K.getD k default).kp) ((K.getD k default).kids.length) ((K.getD k default).kc)] 5 rfl rfl rfl sz_25 rfl (fun v_ hv_ => one_node (K.getD k default) v_ hv_) (by have hh := (show ((K.set k (K.getD (k + 1) default))).length = N from by first | (rw [List.length_set]; exact hD47) | rw [List.length_set]); have hk := (show (K.set k (K.getD (k + 1) default)).length * 5 ≤ (writes cur51 (0 + k * 5) (nodeCell (K.getD (k + 1) default))).size by rw [(show ((K.set k (K.getD (k + 1) default))).length = N from by first | (rw [List.length_set]; exact hD47) | rw [List.length_set]), (show (writes cur51 (0 + k * 5) (nodeCell (K.getD (k + 1) default))).size = c * 5 from by rw [writes_size]; exact h55)]; exact Nat.mul_le_mul_right 5 h53); omega) (fun o_ h1_ h2_ => by simp) (cs' := (writes (writes cur51 (0 + k * 5) (nodeCell (K.getD (k + 1) default))) (0 + (k + 1) * 5) (nodeCell (K.getD k default)))) rfl ?_; intro w71 H72
              refine ⟨blk bk50 (.cells (writes (writes cur51 (0 + k * 5) (nodeCell (K.getD (k + 1) default))) (0 + (k + 1) * 5) (nodeCell (K.getD k default))) 25 (0, 0)) :: F, ?_, H72⟩
              change FReg _ _ _ _ _ #[true, true, true, true, true, true, true, true, true, true, true, true, true, true, true, true, true, true] _ _
              refine f_done (by kernel_rfl) ?_
              intro w74 H75
              refine g_inBlock ?_
              refine g_region ?_
              refine r_cons (s_move (.int .i64 (k : Int)) rfl rfl ?_)
              refine r_cons (s_add ((k : Int) + 1) rfl rfl (wi64 (by omega)) rfl ?_)
              refine r_cons (s_assign (.int .i64 ((k : Int) + 1)) rfl rfl ?_)
              refine r_nil ?_
              have hL76 : ((K.set k (K.getD (k + 1) default)).set (k + 1) (K.getD k default)) = (swapL K k (k + 1)) := by first | rfl | exact swapL_comm (by omega)
              have H77 := Row.shut2 (p := p) (n := N) (c := c) (size := 5) (xs := (swapL K k (k + 1)).flatMap nodeCell) H75 (i := 1) rfl hp52 h53 h54 (show (writes (writes cur51 (0 + k * 5) (nodeCell (K.getD (k + 1) default))) (0 + (k + 1) * 5) (nodeCell (K.getD k default))).size = c * 5 from by rw [writes_size]; exact (show (writes cur51 (0 + k * 5) (nodeCell (K.getD (k + 1) default))).size = c * 5 from by rw [writes_size]; exact h55)) (by have hh : ((writes (writes cur51 (0 + k * 5) (nodeCell (K.getD (k + 1) default))) (0 + (k + 1) * 5) (nodeCell (K.getD k default))).toList.drop 0).take (((K.set k (K.getD (k + 1) default)).set (k + 1) (K.getD k default)).length * 5) = ((K.set k (K.getD (k + 1) default)).set (k + 1) (K.getD k default)).flatMap nodeCell := hx73; have hk : ((K.set k (K.getD (k + 1) default)).set (k + 1) (K.getD k default)).length = N := (show (((K.set k (K.getD (k + 1) default)).set (k + 1) (K.getD k default))).length = N from by first | (rw [List.length_set]; exact (show ((K.set k (K.getD (k + 1) default))).length = N from by first | (rw [List.length_set]; exact hD47) | rw [List.length_set])) | rw [List.length_set]); rw [hk] at hh; rw [hL76] at hh; exact hh) (fun x_ hx_ => by obtain ⟨a_, _, ha_⟩ := List.mem_flatMap.1 hx_; exact one_node a_ x_ ha_)
              have H78 : St W w74 (NodesA (swapL K k (k + 1)) :: NodesA K :: Row 25 5 (.slice p N c) N ((swapL K k (k + 1)).flatMap nodeCell) :: F) := NodesA.sub H77 (i := 0) rfl (swapL_mem (by omega) (by omega))
              have H79 : St W w74 (Row 25 5 (.slice p N c) N ((swapL K k (k + 1)).flatMap nodeCell) :: NodesA (swapL K k (k + 1)) :: NodesA K :: F) := (H78.move 2 rfl)
              have H80 : St W w74 (DataA 25 p N c (swapL K k (k + 1)) :: NodesA K :: F) := DataA.make (by rw [swapL_len]; exact hD47) H79
              have H81 : St W w74 (DataA 25 p N c (swapL K k (k + 1)) :: F) := (H80.drop 1 rfl)
              have H82 : St W w74 (DataA 25 p N c (swapL K k (k + 1)) :: F) := H81
              exact nx45 ((swapL K k (k + 1)), k + 1) _ _ ⟨(by omega), (by omega), (hmv.step (by omega) (by omega)), H82⟩ (by first | (dsimp only; omega) | omega) ⟨by first | rfl | exact vint (by omega), by first | rfl | exact vint (by omega), by first | rfl | exact vint (by omega), by first | rfl | exact vint (by omega), by first | rfl | exact vint (by omega), by first | rfl | exact vint (by omega), by first | rfl | exact vint (by omega), trivial⟩
            · skip
              intro w83 H84
              try dsimp only at H84
              refine s_loadAgg [.int .i64 ((K.getD k default).kind.v), .string ((K.getD k default).var.v), .string ((K.getD k default).typ.v), .slice ((K.getD k default).tp) ((K.getD k default).tests.length) ((K.getD k default).tc), .slice ((K.getD k default).kp) ((K.getD k default).kids.length) ((K.getD k default).kc)] 5 ag_25 rfl (H84.blk_at (i := 1) rfl) (by have := elem_size (i := k) (s := 5) (show 0 + K.length * 5 ≤ cur51.size by have := (show K.length * 5 ≤ cur51.size by rw [hD47, h55]; exact Nat.mul_le_mul_right 5 h53); omega) (by have hh : K.length = N := hD47; omega); omega) (elem_take nodeCell_len (by rw [hD47]; exact h56) (by have hh : K.length = N := hD47; omega) default) rfl ?_
              refine ⟨blk bk50 (.cells cur51 25 (0, 0)) :: F, ?_, H84⟩
              change FReg _ _ _ _ _ #[true, true, true, true, true, true, true, true, true, false, true, true, true, true, false, false, false, false] _ _
              refine f_all (rs := [9]) (by kernel_rfl) (by simp) ?_
              refine a_cons ⟨_, rfl, ?_⟩ (fun x hx => absurd hx (by simp))
              intro w85 H86
              try dsimp only at H86
              refine s_loadAgg [.int .i64 ((K.getD (k + 1) default).kind.v), .string ((K.getD (k + 1) default).var.v), .string ((K.getD (k + 1) default).typ.v), .slice ((K.getD (k + 1) default).tp) ((K.getD (k + 1) default).tests.length) ((K.getD (k + 1) default).tc), .slice ((K.getD (k + 1) default).kp) ((K.getD (k + 1) default).kids.length) ((K.getD (k + 1) default).kc)] 5 ag_25 rfl (H86.blk_at (i := 1) rfl) (by have := elem_size (i := k + 1) (s := 5) (show 0 + K.length * 5 ≤ cur51.size by have := (show K.length * 5 ≤ cur51.size by rw [hD47, h55]; exact Nat.mul_le_mul_right 5 h53); omega) (by have hh : K.length = N := hD47; omega); omega) (elem_take nodeCell_len (by rw [hD47]; exact h56) (by have hh : K.length = N := hD47; omega) default) rfl ?_
              refine ⟨blk bk50 (.cells cur51 25 (0, 0)) :: F, ?_, H86⟩
              change FReg _ _ _ _ _ #[true, true, true, true, true, true, true, true, true, true, true, true, true, true, false, false, false, false] _ _
              refine f_first 14 (listed' := #[true, true, true, true, true, true, true, true, true, true, true, true, true, true, true, false, false, false]) rfl (by kernel_rfl) (by kernel_rfl) (by kernel_rfl) rfl ?_
              refine f_val rfl rfl rfl (by intro t_ w hw; exact x_indexAddr bk50 (off := 0) (k : Int) 5 (0 + k * 5) (by exact congrArg (fun z_ => Value.slice z_ N c) ((fun (_ : 0 < 1) => hp52) (by omega))) rfl el_23 (by omega) rfl w) ?_
              refine f_all (rs := [15]) (by kernel_rfl) (by simp) ?_
              refine a_cons ⟨_, rfl, ?_⟩ (fun x hx => absurd hx (by simp))
              intro w87 H88
              try dsimp only at H88
              have hx91 := row_setN (f := nodeCell) (L := K) (cur := cur51) nodeCell_len (by decide) (by rw [hD47]; exact h56) (show K.length * 5 ≤ cur51.size by rw [hD47, h55]; exact Nat.mul_le_mul_right 5 h53) (j := k) (by have hh := hD47; omega) (K.getD (k + 1) default)
              refine s_storeAgg H88 1 #[.int .i64 ((K.getD (k + 1) default).kind.v), .string ((K.getD (k + 1) default).var.v), .string ((K.getD (k + 1) default).typ.v), .slice ((K.getD (k + 1) default).tp) ((K.getD (k + 1) default).tests.length) ((K.getD (k + 1) default).tc), .slice ((K.getD (k + 1) default).kp) ((K.getD (k + 1) default).kids.length) ((K.getD (k + 1) default).kc)] 5 rfl rfl rfl sz_25 rfl (fun v_ hv_ => one_node (K.getD (k + 1) default) v_ hv_) (by have hh := hD47; have hk := (show K.length * 5 ≤ cur51.size by rw [hD47, h55]; exact Nat.mul_le_mul_right 5 h53); omega) (fun o_ h1_ h2_ => by simp) (cs' := (writes cur51 (0 + k * 5) (nodeCell (K.getD (k + 1) default)))) rfl ?_; intro w89 H90
              refine ⟨blk bk50 (.cells (writes cur51 (0 + k * 5) (nodeCell (K.getD (k + 1) default))) 25 (0, 0)) :: F, ?_, H90⟩
              change FReg _ _ _ _ _ #[true, true, true, true, true, true, true, true, true, true, true, true, true, true, true, true, false, false] _ _
              refine f_first 16 (listed' := #[true, true, true, true, true, true, true, true, true, true, true, true, true, true, true, true, true, false]) rfl (by kernel_rfl) (by kernel_rfl) (by kernel_rfl) rfl ?_
              refine f_val rfl rfl rfl (by intro t_ w hw; exact x_indexAddr bk50 (off := 0) ((k : Int) + 1) 5 (0 + (k + 1) * 5) (by exact congrArg (fun z_ => Value.slice z_ N c) ((fun (_ : 0 < 1) => hp52) (by omega))) rfl el_23 (by omega) (by rw [show ((k : Int) + 1 : Int).toNat = k + 1 from by omega]) w) ?_
              refine f_all (rs := [17]) (by kernel_rfl) (by simp) ?_
              refine a_cons ⟨_, rfl, ?_⟩ (fun x hx => absurd hx (by simp))
              intro w92 H93
              try dsimp only at H93
              have hx96 := row_setN (f := nodeCell) (L := (K.set k (K.getD (k + 1) default))) (cur := (writes cur51 (0 + k * 5) (nodeCell (K.getD (k + 1) default)))) nodeCell_len (by decide) hx91 (show (K.set k (K.getD (k + 1) default)).length * 5 ≤ (writes cur51 (0 + k * 5) (nodeCell (K.getD (k + 1) default))).size by rw [(show ((K.set k (K.getD (k + 1) default))).length = N from by first | (rw [List.length_set]; exact hD47) | rw [List.length_set]), (show (writes cur51 (0 + k * 5) (nodeCell (K.getD (k + 1) default))).size = c * 5 from by rw [writes_size]; exact h55)]; exact Nat.mul_le_mul_right 5 h53) (j := k + 1) (by have hh := (show ((K.set k (K.getD (k + 1) default))).length = N from by first | (rw [List.length_set]; exact hD47) | rw [List.length_set]); omega) (K.getD k default)
              refine s_storeAgg H93 1 #[.int .i64 ((K.getD k default).kind.v), .string ((K.getD k default).var.v), .string ((K.getD k default).typ.v), .slice ((K.getD k default).tp) ((K.getD k default).tests.length) ((K.getD k default).tc), .slice ((K.getD k default).kp) ((K.getD k default).kids.length) ((K.getD k default).kc)] 5 rfl rfl rfl sz_25 rfl (fun v_ hv_ => one_node (K.getD k default) v_ hv_) (by have hh := (show ((K.set k (K.getD (k + 1) default))).length = N from by first | (rw [List.length_set]; exact hD47) | rw [List.length_set]); have hk := (show (K.set k (K.getD (k + 1) default)).length * 5 ≤ (writes cur51 (0 + k * 5) (nodeCell (K.getD (k + 1) default))).size by rw [(show ((K.set k (K.getD (k + 1) default))).length = N from by first | (rw [List.length_set]; exact hD47) | rw [List.length_set]), (show (writes cur51 (0 + k * 5) (nodeCell (K.getD (k + 1) default))).size = c * 5 from by rw [writes_size]; exact h55)]; exact Nat.mul_le_mul_right 5 h53); omega) (fun o_ h1_ h2_ => by simp) (cs' := (writes (writes cur51 (0 + k * 5) (nodeCell (K.getD (k + 1) default))) (0 + (k + 1) * 5) (nodeCell (K.getD k default)))) rfl ?_; intro w94 H95
              refine ⟨blk bk50 (.cells (writes (writes cur51 (0 + k * 5) (nodeCell (K.getD (k + 1) default))) (0 + (k + 1) * 5) (nodeCell (K.getD k default))) 25 (0, 0)) :: F, ?_, H95⟩
              change FReg _ _ _ _ _ #[true, true, true, true, true, true, true, true, true, true, true, true, true, true, true, true, true, true] _ _
              refine f_done (by kernel_rfl) ?_
              intro w97 H98
              refine g_inBlock ?_
              refine g_region ?_
              refine r_cons (s_move (.int .i64 (k : Int)) rfl rfl ?_)
              refine r_cons (s_add ((k : Int) + 1) rfl rfl (wi64 (by omega)) rfl ?_)
              refine r_cons (s_assign (.int .i64 ((k : Int) + 1)) rfl rfl ?_)
              refine r_nil ?_
              have hL99 : ((K.set k (K.getD (k + 1) default)).set (k + 1) (K.getD k default)) = (swapL K k (k + 1)) := by first | rfl | exact swapL_comm (by omega)
              have H100 := Row.shut2 (p := p) (n := N) (c := c) (size := 5) (xs := (swapL K k (k + 1)).flatMap nodeCell) H98 (i := 1) rfl hp52 h53 h54 (show (writes (writes cur51 (0 + k * 5) (nodeCell (K.getD (k + 1) default))) (0 + (k + 1) * 5) (nodeCell (K.getD k default))).size = c * 5 from by rw [writes_size]; exact (show (writes cur51 (0 + k * 5) (nodeCell (K.getD (k + 1) default))).size = c * 5 from by rw [writes_size]; exact h55)) (by have hh : ((writes (writes cur51 (0 + k * 5) (nodeCell (K.getD (k + 1) default))) (0 + (k + 1) * 5) (nodeCell (K.getD k default))).toList.drop 0).take (((K.set k (K.getD (k + 1) default)).set (k + 1) (K.getD k default)).length * 5) = ((K.set k (K.getD (k + 1) default)).set (k + 1) (K.getD k default)).flatMap nodeCell := hx96; have hk : ((K.set k (K.getD (k + 1) default)).set (k + 1) (K.getD k default)).length = N := (show (((K.set k (K.getD (k + 1) default)).set (k + 1) (K.getD k default))).length = N from by first | (rw [List.length_set]; exact (show ((K.set k (K.getD (k + 1) default))).length = N from by first | (rw [List.length_set]; exact hD47) | rw [List.length_set])) | rw [List.length_set]); rw [hk] at hh; rw [hL99] at hh; exact hh) (fun x_ hx_ => by obtain ⟨a_, _, ha_⟩ := List.mem_flatMap.1 hx_; exact one_node a_ x_ ha_)
              have H101 : St W w97 (NodesA (swapL K k (k + 1)) :: NodesA K :: Row 25 5 (.slice p N c) N ((swapL K k (k + 1)).flatMap nodeCell) :: F) := NodesA.sub H100 (i := 0) rfl (swapL_mem (by omega) (by omega))
              have H102 : St W w97 (Row 25 5 (.slice p N c) N ((swapL K k (k + 1)).flatMap nodeCell) :: NodesA (swapL K k (k + 1)) :: NodesA K :: F) := (H101.move 2 rfl)
              have H103 : St W w97 (DataA 25 p N c (swapL K k (k + 1)) :: NodesA K :: F) := DataA.make (by rw [swapL_len]; exact hD47) H102
              have H104 : St W w97 (DataA 25 p N c (swapL K k (k + 1)) :: F) := (H103.drop 1 rfl)
              have H105 : St W w97 (DataA 25 p N c (swapL K k (k + 1)) :: F) := H104
              exact nx45 ((swapL K k (k + 1)), k + 1) _ _ ⟨(by omega), (by omega), (hmv.step (by omega) (by omega)), H105⟩ (by first | (dsimp only; omega) | omega) ⟨by first | rfl | exact vint (by omega), by first | rfl | exact vint (by omega), by first | rfl | exact vint (by omega), by first | rfl | exact vint (by omega), by first | rfl | exact vint (by omega), by first | rfl | exact vint (by omega), by first | rfl | exact vint (by omega), trivial⟩
          · skip
            refine r_cons (s_lss false rfl rfl (dfalse hc46) rfl ?_)
            refine r_nil ?_
            refine g_false rfl ?_
            refine g_exit (by rfl) ?_
            refine g_ret' [] Try.func78 Try.results78 trivial ?_
            have H106 : St W w43 (DataA 25 p N c K :: F) := H44
            exact ⟨rfl, K, ⟨hmv.seg (by omega) (by omega), merge1 (K := K) (by rw [show i - 1 = k from by omega]; exact hmv) (by omega) (by omega) (by omega) hs2 hA (by rw [hij9]; exact hB)⟩, H106⟩
  · skip
    refine r_cons (s_eql false rfl rfl (dfalse hc1) rfl ?_)
    refine r_nil ?_
    refine g_false rfl ?_
    refine g_skip ?_
    refine g_seq ?_
    refine g_seq ?_
    refine g_region ?_
    refine r_cons (s_move (.int .i64 (b : Int)) rfl rfl ?_)
    refine r_cons (s_move (.int .i64 (m : Int)) rfl rfl ?_)
    refine r_cons (s_sub ((b : Int) - (m : Int)) rfl rfl (wi64 (by omega)) rfl ?_)
    by_cases hc107 : (b : Int) - (m : Int) = 1
    · skip
      refine r_cons (s_eql true rfl rfl (dtrue hc107) rfl ?_)
      refine r_nil ?_
      refine g_true rfl ?_
      refine g_seq ?_
      refine g_region ?_
      refine r_cons (s_move (.int .i64 (a : Int)) rfl rfl ?_)
      refine r_cons (s_assign (.int .i64 (a : Int)) rfl rfl ?_)
      refine r_nil ?_
      refine g_seq ?_
      refine g_region ?_
      refine r_cons (s_move (.int .i64 (m : Int)) rfl rfl ?_)
      refine r_cons (s_assign (.int .i64 (m : Int)) rfl rfl ?_)
      refine r_nil ?_
      refine g_seq ?_
      refine g_block ?_
      have H108 : St W w (DataA 25 p N c L :: F) := H
      refine g_loop_inv (fun (x_ : Nat × Nat) => match x_ with | (i, j) => [(0, .slice p N c), (1, .int .i64 (a : Int)), (2, .int .i64 (m : Int)), (3, .int .i64 (b : Int)), (4, .func (.func 8) #[] #[]), (14, .int .i64 (i : Int)), (15, .int .i64 (j : Int))]) (fun (x_ : Nat × Nat) w => match x_ with | (i, j) => (a ≤ i) ∧ (i ≤ j) ∧ (j ≤ m) ∧ (i = a ∨ ¬ cmpN (gd L m) (gd L (i - 1)) < 0) ∧ (j = m ∨ cmpN (gd L m) (gd L j) < 0) ∧ St W w (DataA 25 p N c L :: F)) (fun (x_ : Nat × Nat) => match x_ with | (i, j) => j - i) (a, m) ?_ ?_ ?_
      · exact ⟨by first | rfl | exact vint (by omega), by first | rfl | exact vint (by omega), by first | rfl | exact vint (by omega), by first | rfl | exact vint (by omega), by first | rfl | exact vint (by omega), by first | rfl | exact vint (by omega), by first | rfl | exact vint (by omega), trivial⟩
      · exact ⟨(by omega), (by omega), (by omega), (.inl rfl), (.inl rfl), H108⟩
      · rintro ⟨i, j⟩ ρ109 w110 ⟨hi, hij, hj, hA, hB, H111⟩ nx112
        change Ends _ _ (upds ρ109 [(0, .slice p N c), (1, .int .i64 (a : Int)), (2, .int .i64 (m : Int)), (3, .int .i64 (b : Int)), (4, .func (.func 8) #[] #[]), (14, .int .i64 (i : Int)), (15, .int .i64 (j : Int))]) w110
        refine g_seq ?_
        refine g_seq ?_
        refine g_region ?_
        refine r_cons (s_move (.int .i64 (i : Int)) rfl rfl ?_)
        refine r_cons (s_move (.int .i64 (j : Int)) rfl rfl ?_)
        by_cases hc113 : (i : Int) < (j : Int)
        · skip
          refine r_cons (s_lss true rfl rfl (dtrue hc113) rfl ?_)
          refine r_nil ?_
          refine g_true rfl ?_
          refine g_skip ?_
          refine g_block ?_
          refine g_seq ?_
          refine g_region ?_
          refine r_cons (s_move (.int .i64 (i : Int)) rfl rfl ?_)
          refine r_cons (s_move (.int .i64 (j : Int)) rfl rfl ?_)
          refine r_cons (s_add ((i + j : Nat) : Int) rfl rfl ((fun (z_ : Int) (hz_ : z_ = ((i + j : Nat) : Int)) => (congrArg IntKind.i64.wrap hz_).trans (wi64 (by omega))) _ (by omega)) rfl ?_)
          refine r_cons (s_conv ((i + j : Nat) : Int) rfl us_3 ik_96 (wu64 (by omega)) rfl ?_)
          refine r_cons (s_shr ((((i + j) / 2) : Nat) : Int) rfl rfl (by omega) (shr_nat (k := 1) rfl (by decide)) rfl ?_)
          refine r_cons (s_conv ((((i + j) / 2) : Nat) : Int) rfl us_96 ik_3 (wi64 (by omega)) rfl ?_)
          refine r_cons (s_assign (.int .i64 ((((i + j) / 2) : Nat) : Int)) rfl rfl ?_)
          refine r_nil ?_
          refine g_seq ?_
          obtain ⟨hD114, H115⟩ := DataA.open H111
          have H116 : St W w110 (Row 25 5 (.slice p N c) N (L.flatMap nodeCell) :: NodesA L :: F) := H115
          obtain ⟨bk117, cur118, hp119, h120, h121, h122, h123, h124, H125⟩ := Row.open2 H116 (i := 0) rfl (by omega)
          have H126 := NodesA.at H125 (i := 1) rfl (j := m) (by omega)
          have H127 := NodesA.at H126 (i := 2) rfl (j := ((i + j) / 2)) (by omega)
          refine g_mix (fun t_ w => St W w (NodeA (L.getD ((i + j) / 2) default) :: NodeA (L.getD m default) :: blk bk117 (.cells cur118 25 (0, 0)) :: NodesA L :: t_)) F mixed 12 rfl H127.drew ?_
          refine f_first 0 (listed' := #[true, false, false, false, false, false, false, false, false, false, false, false]) rfl (by kernel_rfl) (by kernel_rfl) (by kernel_rfl) rfl ?_
          refine f_val rfl rfl rfl (by intro t_ w hw; exact x_move (.func (.func 8) #[] #[]) rfl w) ?_
          refine f_first 1 (listed' := #[true, true, false, false, false, false, false, false, false, false, false, false]) rfl (by kernel_rfl) (by kernel_rfl) (by kernel_rfl) rfl ?_
          refine f_val rfl rfl rfl (by intro t_ w hw; exact x_move (.slice p N c) rfl w) ?_
          refine f_first 2 (listed' := #[true, true, true, false, false, false, false, false, false, false, false, false]) rfl (by kernel_rfl) (by kernel_rfl) (by kernel_rfl) rfl ?_
          refine f_val rfl rfl rfl (by intro t_ w hw; exact x_move (.int .i64 (m : Int)) rfl w) ?_
          refine f_first 3 (listed' := #[true, true, true, true, false, false, false, false, false, false, false, false]) rfl (by kernel_rfl) (by kernel_rfl) (by kernel_rfl) rfl ?_
          refine f_val rfl rfl rfl (by intro t_ w hw; exact x_indexAddr bk117 (off := 0) (m : Int) 5 (0 + m * 5) (by exact congrArg (fun z_ => Value.slice z_ N c) ((fun (_ : 0 < 1) => hp119) (by omega))) rfl el_23 (by omega) rfl w) ?_
          refine f_first 4 (listed' := #[true, true, true, true, true, false, false, false, false, false, false, false]) rfl (by kernel_rfl) (by kernel_rfl) (by kernel_rfl) rfl ?_
          refine f_val rfl rfl rfl (by intro t_ w hw; exact x_loadAgg [.int .i64 ((L.getD m default).kind.v), .string ((L.getD m default).var.v), .string ((L.getD m default).typ.v), .slice ((L.getD m default).tp) ((L.getD m default).tests.length) ((L.getD m default).tc), .slice ((L.getD m default).kp) ((L.getD m default).kids.length) ((L.getD m default).kc)] 5 ag_25 rfl (hw.blk_at (i := 2) rfl) (by have := elem_size (i := m) (s := 5) (show 0 + L.length * 5 ≤ cur118.size by have := (show L.length * 5 ≤ cur118.size by rw [hD114, h122]; exact Nat.mul_le_mul_right 5 h120); omega) (by have hh : L.length = N := hD114; omega); omega) (elem_take nodeCell_len (by rw [hD114]; exact h123) (by have hh : L.length = N := hD114; omega) default)) ?_
          refine f_first 5 (listed' := #[true, true, true, true, true, true, false, false, false, false, false, false]) rfl (by kernel_rfl) (by kernel_rfl) (by kernel_rfl) rfl ?_
          refine f_val rfl rfl rfl (by intro t_ w hw; exact x_move (.slice p N c) rfl w) ?_
          refine f_first 6 (listed' := #[true, true, true, true, true, true, true, false, false, false, false, false]) rfl (by kernel_rfl) (by kernel_rfl) (by kernel_rfl) rfl ?_
          refine f_val rfl rfl rfl (by intro t_ w hw; exact x_move (.int .i64 ((((i + j) / 2) : Nat) : Int)) rfl w) ?_
          refine f_first 7 (listed' := #[true, true, true, true, true, true, true, true, false, false, false, false]) rfl (by kernel_rfl) (by kernel_rfl) (by kernel_rfl) rfl ?_
          refine f_val rfl rfl rfl (by intro t_ w hw; exact x_indexAddr bk117 (off := 0) ((((i + j) / 2) : Nat) : Int) 5 (0 + ((i + j) / 2) * 5) (by exact congrArg (fun z_ => Value.slice z_ N c) ((fun (_ : 0 < 1) => hp119) (by omega))) rfl el_23 (by omega) rfl w) ?_
          refine f_first 8 (listed' := #[true, true, true, true, true, true, true, true, true, false, false, false]) rfl (by kernel_rfl) (by kernel_rfl) (by kernel_rfl) rfl ?_
          refine f_val rfl rfl rfl (by intro t_ w hw; exact x_loadAgg [.int .i64 ((L.getD ((i + j) / 2) default).kind.v), .string ((L.getD ((i + j) / 2) default).var.v), .string ((L.getD ((i + j) / 2) default).typ.v), .slice ((L.getD ((i + j) / 2) default).tp) ((L.getD ((i + j) / 2) default).tests.length) ((L.getD ((i + j) / 2) default).tc), .slice ((L.getD ((i + j) / 2) default).kp) ((L.getD ((i + j) / 2) default).kids.length) ((L.getD ((i + j) / 2) default).kc)] 5 ag_25 rfl (hw.blk_at (i := 2) rfl) (by have := elem_size (i := ((i + j) / 2)) (s := 5) (show 0 + L.length * 5 ≤ cur118.size by have := (show L.length * 5 ≤ cur118.size by rw [hD114, h122]; exact Nat.mul_le_mul_right 5 h120); omega) (by have hh : L.length = N := hD114; omega); omega) (elem_take nodeCell_len (by rw [hD114]; exact h123) (by have hh : L.length = N := hD114; omega) default)) ?_
          refine f_all (rs := [9]) (by kernel_rfl) (by simp) ?_
          refine a_cons ⟨_, rfl, ?_⟩ (fun x hx => absurd hx (by simp))
          intro w128 H129
          try dsimp only at H129
          refine s_callv [] [.agg #[.int .i64 ((L.getD m default).kind.v), .string ((L.getD m default).var.v), .string ((L.getD m default).typ.v), .slice ((L.getD m default).tp) ((L.getD m default).tests.length) ((L.getD m default).tc), .slice ((L.getD m default).kp) ((L.getD m default).kids.length) ((L.getD m default).kc)], .agg #[.int .i64 ((L.getD ((i + j) / 2) default).kind.v), .string ((L.getD ((i + j) / 2) default).var.v), .string ((L.getD ((i + j) / 2) default).typ.v), .slice ((L.getD ((i + j) / 2) default).tp) ((L.getD ((i + j) / 2) default).tests.length) ((L.getD ((i + j) / 2) default).tc), .slice ((L.getD ((i + j) / 2) default).kp) ((L.getD ((i + j) / 2) default).kids.length) ((L.getD ((i + j) / 2) default).kc)]] rfl pl_8 rfl rfl (normal_Compare (L.getD m default) (L.getD ((i + j) / 2) default) (i := 1) rfl (i2 := 0) rfl H129) ?_
          rintro _ w130 ⟨rfl, H131⟩
          refine ⟨F, ?_, H131⟩
          change FReg _ _ _ _ _ #[true, true, true, true, true, true, true, true, true, true, false, false] _ _
          refine f_first 10 (listed' := #[true, true, true, true, true, true, true, true, true, true, true, false]) rfl (by kernel_rfl) (by kernel_rfl) (by kernel_rfl) rfl ?_
          by_cases hc132 : cmpN (L.getD m default) (L.getD ((i + j) / 2) default) < 0
          · skip
            refine f_val rfl rfl rfl (by intro t_ w hw; exact x_lss true rfl rfl (dtrue hc132) w) ?_
            refine f_first 11 (listed' := #[true, true, true, true, true, true, true, true, true, true, true, true]) rfl (by kernel_rfl) (by kernel_rfl) (by kernel_rfl) rfl ?_
            refine f_val rfl rfl rfl (by intro t_ w hw; exact x_not true rfl false rfl w) ?_
            refine f_done (by kernel_rfl) ?_
            intro w133 H134
            refine g_false rfl ?_
            refine g_region ?_
            refine r_cons (s_move (.int .i64 ((((i + j) / 2) : Nat) : Int)) rfl rfl ?_)
            refine r_cons (s_assign (.int .i64 ((((i + j) / 2) : Nat) : Int)) rfl rfl ?_)
            refine r_nil ?_
            refine g_inBlock ?_
            have H135 := Row.shut2 (p := p) (n := N) (c := c) (size := 5) (xs := L.flatMap nodeCell) H134 (i := 2) rfl hp119 h120 h121 h122 (by have hh : (cur118.toList.drop 0).take (L.length * 5) = L.flatMap nodeCell := (by rw [hD114]; exact h123); have hk : L.length = N := hD114; rw [hk] at hh; exact hh) (fun x_ hx_ => by obtain ⟨a_, _, ha_⟩ := List.mem_flatMap.1 hx_; exact one_node a_ x_ ha_)
            have H136 : St W w133 (Row 25 5 (.slice p N c) N (L.flatMap nodeCell) :: NodesA L :: NodeA (L.getD ((i + j) / 2) default) :: NodeA (L.getD m default) :: F) := ((H135.move 3 rfl).move 3 rfl)
            have H137 : St W w133 (DataA 25 p N c L :: NodeA (L.getD ((i + j) / 2) default) :: NodeA (L.getD m default) :: F) := DataA.make hD114 H136
            have H138 : St W w133 (DataA 25 p N c L :: F) := ((H137.drop 1 rfl).drop 1 rfl)
            have H139 : St W w133 (DataA 25 p N c L :: F) := H138
            exact nx112 (i, ((i + j) / 2)) _ _ ⟨(by omega), (by omega), (by omega), hA, (.inr hc132), H139⟩ (by first | (dsimp only; omega) | omega) ⟨by first | rfl | exact vint (by omega), by first | rfl | exact vint (by omega), by first | rfl | exact vint (by omega), by first | rfl | exact vint (by omega), by first | rfl | exact vint (by omega), by first | rfl | exact vint (by omega), by first | rfl | exact vint (by omega), trivial⟩
          · skip
            refine f_val rfl rfl rfl (by intro t_ w hw; exact x_lss false rfl rfl (dfalse hc132) w) ?_
            refine f_first 11 (listed' := #[true, true, true, true, true, true, true, true, true, true, true, true]) rfl (by kernel_rfl) (by kernel_rfl) (by kernel_rfl) rfl ?_
            refine f_val rfl rfl rfl (by intro t_ w hw; exact x_not false rfl true rfl w) ?_
            refine f_done (by kernel_rfl) ?_
            intro w140 H141
            refine g_true rfl ?_
            refine g_region ?_
            refine r_cons (s_move (.int .i64 ((((i + j) / 2) : Nat) : Int)) rfl rfl ?_)
            refine r_cons (s_add (((((i + j) / 2) : Nat) : Int) + 1) rfl rfl (wi64 (by omega)) rfl ?_)
            refine r_cons (s_assign (.int .i64 (((((i + j) / 2) : Nat) : Int) + 1)) rfl rfl ?_)
            refine r_nil ?_
            refine g_inBlock ?_
            have H142 := Row.shut2 (p := p) (n := N) (c := c) (size := 5) (xs := L.flatMap nodeCell) H141 (i := 2) rfl hp119 h120 h121 h122 (by have hh : (cur118.toList.drop 0).take (L.length * 5) = L.flatMap nodeCell := (by rw [hD114]; exact h123); have hk : L.length = N := hD114; rw [hk] at hh; exact hh) (fun x_ hx_ => by obtain ⟨a_, _, ha_⟩ := List.mem_flatMap.1 hx_; exact one_node a_ x_ ha_)
            have H143 : St W w140 (Row 25 5 (.slice p N c) N (L.flatMap nodeCell) :: NodesA L :: NodeA (L.getD ((i + j) / 2) default) :: NodeA (L.getD m default) :: F) := ((H142.move 3 rfl).move 3 rfl)
            have H144 : St W w140 (DataA 25 p N c L :: NodeA (L.getD ((i + j) / 2) default) :: NodeA (L.getD m default) :: F) := DataA.make hD114 H143
            have H145 : St W w140 (DataA 25 p N c L :: F) := ((H144.drop 1 rfl).drop 1 rfl)
            have H146 : St W w140 (DataA 25 p N c L :: F) := H145
            exact nx112 (((i + j) / 2) + 1, j) _ _ ⟨(by omega), (by omega), (by omega), (.inr (by rw [show ((i + j) / 2) + 1 - 1 = ((i + j) / 2) from by omega]; exact hc132)), hB, H146⟩ (by first | (dsimp only; omega) | omega) ⟨by first | rfl | exact vint (by omega), by first | rfl | exact vint (by omega), by first | rfl | exact vint (by omega), by first | rfl | exact vint (by omega), by first | rfl | exact vint (by omega), by first | rfl | exact vint (by omega), by first | rfl | exact vint (by omega), trivial⟩
        · skip
          refine r_cons (s_lss false rfl rfl (dfalse hc113) rfl ?_)
          refine r_nil ?_
          refine g_false rfl ?_
          refine g_exit (by rfl) ?_
          refine g_seq ?_
          refine g_seq ?_
          refine g_region ?_
          refine r_cons (s_move (.int .i64 (m : Int)) rfl rfl ?_)
          refine r_cons (s_assign (.int .i64 (m : Int)) rfl rfl ?_)
          refine r_nil ?_
          refine g_block ?_
          have hij9 : i = j := by omega
          have H147 : St W w110 (DataA 25 p N c L :: F) := H111
          refine g_loop_inv (fun (x_ : (List NodeD) × Nat) => match x_ with | (K, k) => [(0, .slice p N c), (1, .int .i64 (a : Int)), (2, .int .i64 (m : Int)), (3, .int .i64 (b : Int)), (4, .func (.func 8) #[] #[]), (14, .int .i64 (i : Int)), (17, .int .i64 (k : Int))]) (fun (x_ : (List NodeD) × Nat) w => match x_ with | (K, k) => (i ≤ k) ∧ (k ≤ m) ∧ (Mv2 L K k m) ∧ St W w (DataA 25 p N c K :: F)) (fun (x_ : (List NodeD) × Nat) => match x_ with | (K, k) => k) (L, m) ?_ ?_ ?_
          · exact ⟨by first | rfl | exact vint (by omega), by first | rfl | exact vint (by omega), by first | rfl | exact vint (by omega), by first | rfl | exact vint (by omega), by first | rfl | exact vint (by omega), by first | rfl | exact vint (by omega), by first | rfl | exact vint (by omega), trivial⟩
          · exact ⟨(by omega), (by omega), (Mv2.zero L m), H147⟩
          · rintro ⟨K, k⟩ ρ148 w149 ⟨hk, hkm, hmv, H150⟩ nx151
            change Ends _ _ (upds ρ148 [(0, .slice p N c), (1, .int .i64 (a : Int)), (2, .int .i64 (m : Int)), (3, .int .i64 (b : Int)), (4, .func (.func 8) #[] #[]), (14, .int .i64 (i : Int)), (17, .int .i64 (k : Int))]) w149
            refine g_seq ?_
            refine g_seq ?_
            refine g_region ?_
            refine r_cons (s_move (.int .i64 (k : Int)) rfl rfl ?_)
            refine r_cons (s_move (.int .i64 (i : Int)) rfl rfl ?_)
            by_cases hc152 : (i : Int) < (k : Int)
            · skip
              refine r_cons (s_gtr true rfl rfl (dtrue hc152) rfl ?_)
              refine r_nil ?_
              refine g_true rfl ?_
              refine g_skip ?_
              refine g_seq ?_
              refine g_block ?_
              have hlk := hmv.perm.length_eq
              obtain ⟨hD153, H154⟩ := DataA.open H150
              have H155 : St W w149 (Row 25 5 (.slice p N c) N (K.flatMap nodeCell) :: NodesA K :: F) := H154
              obtain ⟨bk156, cur157, hp158, h159, h160, h161, h162, h163, H164⟩ := Row.open2 H155 (i := 0) rfl (by omega)
              have H165 : St W w149 (NodesA K :: blk bk156 (.cells cur157 25 (0, 0)) :: F) := (H164.move 1 rfl)
              refine g_mix (fun t_ w => St W w (NodesA K :: t_)) (blk bk156 (.cells cur157 25 (0, 0)) :: F) mixed 18 rfl H165.drew ?_
              refine f_first 0 (listed' := #[true, false, false, false, false, false, false, false, false, false, false, false, false, false, false, false, false, false]) rfl (by kernel_rfl) (by kernel_rfl) (by kernel_rfl) rfl ?_
              refine f_val rfl rfl rfl (by intro t_ w hw; exact x_move (.slice p N c) rfl w) ?_
              refine f_first 1 (listed' := #[true, true, false, false, false, false, false, false, false, false, false, false, false, false, false, false, false, false]) rfl (by kernel_rfl) (by kernel_rfl) (by kernel_rfl) rfl ?_
              refine f_val rfl rfl rfl (by intro t_ w hw; exact x_move (.int .i64 (k : Int)) rfl w) ?_
              refine f_first 2 (listed' := #[true, true, true, false, false, false, false, false, false, false, false, false, false, false, false, false, false, false]) rfl (by kernel_rfl) (by kernel_rfl) (by kernel_rfl) rfl ?_
              refine f_val rfl rfl rfl (by intro t_ w hw; exact x_move (.slice p N c) rfl w) ?_
              refine f_first 3 (listed' := #[true, true, true, true, false, false, false, false, false, false, false, false, false, false, false, false, false, false]) rfl (by kernel_rfl) (by kernel_rfl) (by kernel_rfl) rfl ?_
              refine f_val rfl rfl rfl (by intro t_ w hw; exact x_move (.int .i64 (k : Int)) rfl w) ?_
              refine f_first 4 (listed' := #[true, true, true, true, true, false, false, false, false, false, false, false, false, false, false, false, false, false]) rfl (by kernel_rfl) (by kernel_rfl) (by kernel_rfl) rfl ?_
              refine f_val rfl rfl rfl (by intro t_ w hw; exact x_sub ((k : Int) - 1) rfl rfl (wi64 (by omega)) w) ?_
              refine f_first 5 (listed' := #[true, true, true, true, true, true, false, false, false, false, false, false, false, false, false, false, false, false]) rfl (by kernel_rfl) (by kernel_rfl) (by kernel_rfl) rfl ?_
              refine f_val rfl rfl rfl (by intro t_ w hw; exact x_move (.slice p N c) rfl w) ?_
              refine f_first 6 (listed' := #[true, true, true, true, true, true, true, false, false, false, false, false, false, false, false, false, false, false]) rfl (by kernel_rfl) (by kernel_rfl) (by kernel_rfl) rfl ?_
              refine f_val rfl rfl rfl (by intro t_ w hw; exact x_move (.int .i64 (k : Int)) rfl w) ?_
              refine f_first 7 (listed' := #[true, true, true, true, true, true, true, true, false, false, false, false, false, false, false, false, false, false]) rfl (by kernel_rfl) (by kernel_rfl) (by kernel_rfl) rfl ?_
              refine f_val rfl rfl rfl (by intro t_ w hw; exact x_sub ((k : Int) - 1) rfl rfl (wi64 (by omega)) w) ?_
              refine f_first 8 (listed' := #[true, true, true, true, true, true, true, true, true, false, false, false, false, false, false, false, false, false]) rfl (by kernel_rfl) (by kernel_rfl) (by kernel_rfl) rfl ?_
              refine f_val rfl rfl rfl (by intro t_ w hw; exact x_indexAddr bk156 (off := 0) ((k : Int) - 1) 5 (0 + (k - 1) * 5) (by exact congrArg (fun z_ => Value.slice z_ N c) ((fun (_ : 0 < 1) => hp158) (by omega))) rfl el_23 (by omega) (by rw [show ((k : Int) - 1 : Int).toNat = k - 1 from by omega]) w) ?_
              refine f_first 10 (listed' := #[true, true, true, true, true, true, true, true, true, false, true, false, false, false, false, false, false, false]) rfl (by kernel_rfl) (by kernel_rfl) (by kernel_rfl) rfl ?_
              refine f_val rfl rfl rfl (by intro t_ w hw; exact x_move (.slice p N c) rfl w) ?_
              refine f_first 11 (listed' := #[true, true, true, true, true, true, true, true, true, false, true, true, false, false, false, false, false, false]) rfl (by kernel_rfl) (by kernel_rfl) (by kernel_rfl) rfl ?_
              refine f_val rfl rfl rfl (by intro t_ w hw; exact x_move (.int .i64 (k : Int)) rfl w) ?_
              refine f_first 12 (listed' := #[true, true, true, true, true, true, true, true, true, false, true, true, true, false, false, false, false, false]) rfl (by kernel_rfl) (by kernel_rfl) (by kernel_rfl) rfl ?_
              refine f_val rfl rfl rfl (by intro t_ w hw; exact x_indexAddr bk156 (off := 0) (k : Int) 5 (0 + k * 5) (by exact congrArg (fun z_ => Value.slice z_ N c) ((fun (_ : 0 < 1) => hp158) (by omega))) rfl el_23 (by omega) rfl w) ?_
              refine f_all (rs := [9, 13]) (by kernel_rfl) (by simp) ?_
              refine a_cons ⟨_, rfl, ?_⟩ (a_cons ⟨_, rfl, ?_⟩ (fun x hx => absurd hx (by simp)))
              · skip
                intro w166 H167
                try dsimp only at H167
                refine s_loadAgg [.int .i64 ((K.getD (k - 1) default).kind.v), .string ((K.getD (k - 1) default).var.v), .string ((K.getD (k - 1) default).typ.v), .slice ((K.getD (k - 1) default).tp) ((K.getD (k - 1) default).tests.length) ((K.getD (k - 1) default).tc), .slice ((K.getD (k - 1) default).kp) ((K.getD (k - 1) default).kids.length) ((K.getD (k - 1) default).kc)] 5 ag_25 rfl (H167.blk_at (i := 1) rfl) (by have := elem_size (i := k - 1) (s := 5) (show 0 + K.length * 5 ≤ cur157.size by have := (show K.length * 5 ≤ cur157.size by rw [hD153, h161]; exact Nat.mul_le_mul_right 5 h159); omega) (by have hh : K.length = N := hD153; omega); omega) (elem_take nodeCell_len (by rw [hD153]; exact h162) (by have hh : K.length = N := hD153; omega) default) rfl ?_
                refine ⟨blk bk156 (.cells cur157 25 (0, 0)) :: F, ?_, H167⟩
                change FReg _ _ _ _ _ #[true, true, true, true, true, true, true, true, true, true, true, true, true, false, false, false, false, false] _ _
                refine f_all (rs := [13]) (by kernel_rfl) (by simp) ?_
                refine a_cons ⟨_, rfl, ?_⟩ (fun x hx => absurd hx (by simp))
                intro w168 H169
                try dsimp only at H169
                refine s_loadAgg [.int .i64 ((K.getD k default).kind.v), .string ((K.getD k default).var.v), .string ((K.getD k default).typ.v), .slice ((K.getD k default).tp) ((K.getD k default).tests.length) ((K.getD k default).tc), .slice ((K.getD k default).kp) ((K.getD k default).kids.length) ((K.getD k default).kc)] 5 ag_25 rfl (H169.blk_at (i := 1) rfl) (by have := elem_size (i := k) (s := 5) (show 0 + K.length * 5 ≤ cur157.size by have := (show K.length * 5 ≤ cur157.size by rw [hD153, h161]; exact Nat.mul_le_mul_right 5 h159); omega) (by have hh : K.length = N := hD153; omega); omega) (elem_take nodeCell_len (by rw [hD153]; exact h162) (by have hh : K.length = N := hD153; omega) default) rfl ?_
                refine ⟨blk bk156 (.cells cur157 25 (0, 0)) :: F, ?_, H169⟩
                change FReg _ _ _ _ _ #[true, true, true, true, true, true, true, true, true, true, true, true, true, true, false, false, false, false] _ _
                refine f_first 14 (listed' := #[true, true, true, true, true, true, true, true, true, true, true, true, true, true, true, false, false, false]) rfl (by kernel_rfl) (by kernel_rfl) (by kernel_rfl) rfl ?_
                refine f_val rfl rfl rfl (by intro t_ w hw; exact x_indexAddr bk156 (off := 0) (k : Int) 5 (0 + k * 5) (by exact congrArg (fun z_ => Value.slice z_ N c) ((fun (_ : 0 < 1) => hp158) (by omega))) rfl el_23 (by omega) rfl w) ?_
                refine f_all (rs := [15]) (by kernel_rfl) (by simp) ?_
                refine a_cons ⟨_, rfl, ?_⟩ (fun x hx => absurd hx (by simp))
                intro w170 H171
                try dsimp only at H171
                have hx174 := row_setN (f := nodeCell) (L := K) (cur := cur157) nodeCell_len (by decide) (by rw [hD153]; exact h162) (show K.length * 5 ≤ cur157.size by rw [hD153, h161]; exact Nat.mul_le_mul_right 5 h159) (j := k) (by have hh := hD153; omega) (K.getD (k - 1) default)
                refine s_storeAgg H171 1 #[.int .i64 ((K.getD (k - 1) default).kind.v), .string ((K.getD (k - 1) default).var.v), .string ((K.getD (k - 1) default).typ.v), .slice ((K.getD (k - 1) default).tp) ((K.getD (k - 1) default).tests.length) ((K.getD (k - 1) default).tc), .slice ((K.getD (k - 1) default).kp) ((K.getD (k - 1) default).kids.length) ((K.getD (k - 1) default).kc)] 5 rfl rfl rfl sz_25 rfl (fun v_ hv_ => one_node (K.getD (k - 1) default) v_ hv_) (by have hh := hD153; have hk := (show K.length * 5 ≤ cur157.size by rw [hD153, h161]; exact Nat.mul_le_mul_right 5 h159); omega) (fun o_ h1_ h2_ => by simp) (cs' := (writes cur157 (0 + k * 5) (nodeCell (K.getD (k - 1) default)))) rfl ?_; intro w172 H173
                refine ⟨blk bk156 (.cells (writes cur157 (0 + k * 5) (nodeCell (K.getD (k - 1) default))) 25 (0, 0)) :: F, ?_, H173⟩
                change FReg _ _ _ _ _ #[true, true, true, true, true, true, true, true, true, true, true, true, true, true, true, true, false, false] _ _
                refine f_first 16 (listed' := #[true, true, true, true, true, true, true, true, true, true, true, true, true, true, true, true, true, false]) rfl (by kernel_rfl) (by kernel_rfl) (by kernel_rfl) rfl ?_
                refine f_val rfl rfl rfl (by intro t_ w hw; exact x_indexAddr bk156 (off := 0) ((k : Int) - 1) 5 (0 + (k - 1) * 5) (by exact congrArg (fun z_ => Value.slice z_ N c) ((fun (_ : 0 < 1) => hp158) (by omega))) rfl el_23 (by omega) (by rw [show ((k : Int) - 1 : Int).toNat = k - 1 from by omega]) w) ?_
                refine f_all (rs := [17]) (by kernel_rfl) (by simp) ?_
                refine a_cons ⟨_, rfl, ?_⟩ (fun x hx => absurd hx (by simp))
                intro w175 H176
                try dsimp only at H176
                have hx179 := row_setN (f := nodeCell) (L := (K.set k (K.getD (k - 1) default))) (cur := (writes cur157 (0 + k * 5) (nodeCell (K.getD (k - 1) default)))) nodeCell_len (by decide) hx174 (show (K.set k (K.getD (k - 1) default)).length * 5 ≤ (writes cur157 (0 + k * 5) (nodeCell (K.getD (k - 1) default))).size by rw [(show ((K.set k (K.getD (k - 1) default))).length = N from by first | (rw [List.length_set]; exact hD153) | rw [List.length_set]), (show (writes cur157 (0 + k * 5) (nodeCell (K.getD (k - 1) default))).size = c * 5 from by rw [writes_size]; exact h161)]; exact Nat.mul_le_mul_right 5 h159) (j := k - 1) (by have hh := (show ((K.set k (K.getD (k - 1) default))).length = N from by first | (rw [List.length_set]; exact hD153) | rw [List.length_set]); omega) (K.getD k default)
                refine s_storeAgg H176 1 #[.int .i64 ((K.getD k default).kind.v), .string ((K.getD k default).var.v), .string ((K.getD k default).typ.v), .slice ((K.getD k default).tp) ((K.getD k default).tests.length) ((K.getD k default).tc), .slice ((K.getD k default).kp) ((K.getD k default).kids.length) ((K.getD k default).kc)] 5 rfl rfl rfl sz_25 rfl (fun v_ hv_ => one_node (K.getD k default) v_ hv_) (by have hh := (show ((K.set k (K.getD (k - 1) default))).length = N from by first | (rw [List.length_set]; exact hD153) | rw [List.length_set]); have hk := (show (K.set k (K.getD (k - 1) default)).length * 5 ≤ (writes cur157 (0 + k * 5) (nodeCell (K.getD (k - 1) default))).size by rw [(show ((K.set k (K.getD (k - 1) default))).length = N from by first | (rw [List.length_set]; exact hD153) | rw [List.length_set]), (show (writes cur157 (0 + k * 5) (nodeCell (K.getD (k - 1) default))).size = c * 5 from by rw [writes_size]; exact h161)]; exact Nat.mul_le_mul_right 5 h159); omega) (fun o_ h1_ h2_ => by simp) (cs' := (writes (writes cur157 (0 + k * 5) (nodeCell (K.getD (k - 1) default))) (0 + (k - 1) * 5) (nodeCell (K.getD k default)))) rfl ?_; intro w177 H178
                refine ⟨blk bk156 (.cells (writes (writes cur157 (0 + k * 5) (nodeCell (K.getD (k - 1) default))) (0 + (k - 1) * 5) (nodeCell (K.getD k default))) 25 (0, 0)) :: F, ?_, H178⟩
                change FReg _ _ _ _ _ #[true, true, true, true, true, true, true, true, true, true, true, true, true, true, true, true, true, true] _ _
                refine f_done (by kernel_rfl) ?_
                intro w180 H181
                refine g_inBlock ?_
                refine g_region ?_
                refine r_cons (s_move (.int .i64 (k : Int)) rfl rfl ?_)
                refine r_cons (s_sub ((k : Int) - 1) rfl rfl (wi64 (by omega)) rfl ?_)
                refine r_cons (s_assign (.int .i64 ((k : Int) - 1)) rfl rfl ?_)
                refine r_nil ?_
                have hL182 : ((K.set k (K.getD (k - 1) default)).set (k - 1) (K.getD k default)) = (swapL K k (k - 1)) := by first | rfl | exact swapL_comm (by omega)
                have H183 := Row.shut2 (p := p) (n := N) (c := c) (size := 5) (xs := (swapL K k (k - 1)).flatMap nodeCell) H181 (i := 1) rfl hp158 h159 h160 (show (writes (writes cur157 (0 + k * 5) (nodeCell (K.getD (k - 1) default))) (0 + (k - 1) * 5) (nodeCell (K.getD k default))).size = c * 5 from by rw [writes_size]; exact (show (writes cur157 (0 + k * 5) (nodeCell (K.getD (k - 1) default))).size = c * 5 from by rw [writes_size]; exact h161)) (by have hh : ((writes (writes cur157 (0 + k * 5) (nodeCell (K.getD (k - 1) default))) (0 + (k - 1) * 5) (nodeCell (K.getD k default))).toList.drop 0).take (((K.set k (K.getD (k - 1) default)).set (k - 1) (K.getD k default)).length * 5) = ((K.set k (K.getD (k - 1) default)).set (k - 1) (K.getD k default)).flatMap nodeCell := hx179; have hk : ((K.set k (K.getD (k - 1) default)).set (k - 1) (K.getD k default)).length = N := (show (((K.set k (K.getD (k - 1) default)).set (k - 1) (K.getD k default))).length = N from by first | (rw [List.length_set]; exact (show ((K.set k (K.getD (k - 1) default))).length = N from by first | (rw [List.length_set]; exact hD153) | rw [List.length_set])) | rw [List.length_set]); rw [hk] at hh; rw [hL182] at hh; exact hh) (fun x_ hx_ => by obtain ⟨a_, _, ha_⟩ := List.mem_flatMap.1 hx_; exact one_node a_ x_ ha_)
                have H184 : St W w180 (NodesA (swapL K k (k - 1)) :: NodesA K :: Row 25 5 (.slice p N c) N ((swapL K k (k - 1)).flatMap nodeCell) :: F) := NodesA.sub H183 (i := 0) rfl (swapL_mem (by omega) (by omega))
                have H185 : St W w180 (Row 25 5 (.slice p N c) N ((swapL K k (k - 1)).flatMap nodeCell) :: NodesA (swapL K k (k - 1)) :: NodesA K :: F) := (H184.move 2 rfl)
                have H186 : St W w180 (DataA 25 p N c (swapL K k (k - 1)) :: NodesA K :: F) := DataA.make (by rw [swapL_len]; exact hD153) H185
                have H187 : St W w180 (DataA 25 p N c (swapL K k (k - 1)) :: F) := (H186.drop 1 rfl)
                have H188 : St W w180 (DataA 25 p N c (swapL K k (k - 1)) :: F) := H187
                exact nx151 ((swapL K k (k - 1)), k - 1) _ _ ⟨(by omega), (by omega), (hmv.step (by omega) (by omega) (by omega)), H188⟩ (by first | (dsimp only; omega) | omega) ⟨by first | rfl | exact vint (by omega), by first | rfl | exact vint (by omega), by first | rfl | exact vint (by omega), by first | rfl | exact vint (by omega), by first | rfl | exact vint (by omega), by first | rfl | exact vint (by omega), by first | rfl | exact vint (by omega), trivial⟩
              · skip
                intro w189 H190
                try dsimp only at H190
                refine s_loadAgg [.int .i64 ((K.getD k default).kind.v), .string ((K.getD k default).var.v), .string ((K.getD k default).typ.v), .slice ((K.getD k default).tp) ((K.getD k default).tests.length) ((K.getD k default).tc), .slice ((K.getD k default).kp) ((K.getD k default).kids.length) ((K.getD k default).kc)] 5 ag_25 rfl (H190.blk_at (i := 1) rfl) (by have := elem_size (i := k) (s := 5) (show 0 + K.length * 5 ≤ cur157.size by have := (show K.length * 5 ≤ cur157.size by rw [hD153, h161]; exact Nat.mul_le_mul_right 5 h159); omega) (by have hh : K.length = N := hD153; omega); omega) (elem_take nodeCell_len (by rw [hD153]; exact h162) (by have hh : K.length = N := hD153; omega) default) rfl ?_
                refine ⟨blk bk156 (.cells cur157 25 (0, 0)) :: F, ?_, H190⟩
                change FReg _ _ _ _ _ #[true, true, true, true, true, true, true, true, true, false, true, true, true, true, false, false, false, false] _ _
                refine f_all (rs := [9]) (by kernel_rfl) (by simp) ?_
                refine a_cons ⟨_, rfl, ?_⟩ (fun x hx => absurd hx (by simp))
                intro w191 H192
                try dsimp only at H192
                refine s_loadAgg [.int .i64 ((K.getD (k - 1) default).kind.v), .string ((K.getD (k - 1) default).var.v), .string ((K.getD (k - 1) default).typ.v), .slice ((K.getD (k - 1) default).tp) ((K.getD (k - 1) default).tests.length) ((K.getD (k - 1) default).tc), .slice ((K.getD (k - 1) default).kp) ((K.getD (k - 1) default).kids.length) ((K.getD (k - 1) default).kc)] 5 ag_25 rfl (H192.blk_at (i := 1) rfl) (by have := elem_size (i := k - 1) (s := 5) (show 0 + K.length * 5 ≤ cur157.size by have := (show K.length * 5 ≤ cur157.size by rw [hD153, h161]; exact Nat.mul_le_mul_right 5 h159); omega) (by have hh : K.length = N := hD153; omega); omega) (elem_take nodeCell_len (by rw [hD153]; exact h162) (by have hh : K.length = N := hD153; omega) default) rfl ?_
                refine ⟨blk bk156 (.cells cur157 25 (0, 0)) :: F, ?_, H192⟩
                change FReg _ _ _ _ _ #[true, true, true, true, true, true, true, true, true, true, true, true, true, true, false, false, false, false] _ _
                refine f_first 14 (listed' := #[true, true, true, true, true, true, true, true, true, true, true, true, true, true, true, false, false, false]) rfl (by kernel_rfl) (by kernel_rfl) (by kernel_rfl) rfl ?_
                refine f_val rfl rfl rfl (by intro t_ w hw; exact x_indexAddr bk156 (off := 0) (k : Int) 5 (0 + k * 5) (by exact congrArg (fun z_ => Value.slice z_ N c) ((fun (_ : 0 < 1) => hp158) (by omega))) rfl el_23 (by omega) rfl w) ?_
                refine f_all (rs := [15]) (by kernel_rfl) (by simp) ?_
                refine a_cons ⟨_, rfl, ?_⟩ (fun x hx => absurd hx (by simp))
                intro w193 H194
                try dsimp only at H194
                have hx197 := row_setN (f := nodeCell) (L := K) (cur := cur157) nodeCell_len (by decide) (by rw [hD153]; exact h162) (show K.length * 5 ≤ cur157.size by rw [hD153, h161]; exact Nat.mul_le_mul_right 5 h159) (j := k) (by have hh := hD153; omega) (K.getD (k - 1) default)
                refine s_storeAgg H194 1 #[.int .i64 ((K.getD (k - 1) default).kind.v), .string ((K.getD (k - 1) default).var.v), .string ((K.getD (k - 1) default).typ.v), .slice ((K.getD (k - 1) default).tp) ((K.getD (k - 1) default).tests.length) ((K.getD (k - 1) default).tc), .slice ((K.getD (k - 1) default).kp) ((K.getD (k - 1) default).kids.length) ((K.getD (k - 1) default).kc)] 5 rfl rfl rfl sz_25 rfl (fun v_ hv_ => one_node (K.getD (k - 1) default) v_ hv_) (by have hh := hD153; have hk := (show K.length * 5 ≤ cur157.size by rw [hD153, h161]; exact Nat.mul_le_mul_right 5 h159); omega) (fun o_ h1_ h2_ => by simp) (cs' := (writes cur157 (0 + k * 5) (nodeCell (K.getD (k - 1) default)))) rfl ?_; intro w195 H196
                refine ⟨blk bk156 (.cells (writes cur157 (0 + k * 5) (nodeCell (K.getD (k - 1) default))) 25 (0, 0)) :: F, ?_, H196⟩
                change FReg _ _ _ _ _ #[true, true, true, true, true, true, true, true, true, true, true, true, true, true, true, true, false, false] _ _
                refine f_first 16 (listed' := #[true, true, true, true, true, true, true, true, true, true, true, true, true, true, true, true, true, false]) rfl (by kernel_rfl) (by kernel_rfl) (by kernel_rfl) rfl ?_
                refine f_val rfl rfl rfl (by intro t_ w hw; exact x_indexAddr bk156 (off := 0) ((k : Int) - 1) 5 (0 + (k - 1) * 5) (by exact congrArg (fun z_ => Value.slice z_ N c) ((fun (_ : 0 < 1) => hp158) (by omega))) rfl el_23 (by omega) (by rw [show ((k : Int) - 1 : Int).toNat = k - 1 from by omega]) w) ?_
                refine f_all (rs := [17]) (by kernel_rfl) (by simp) ?_
                refine a_cons ⟨_, rfl, ?_⟩ (fun x hx => absurd hx (by simp))
                intro w198 H199
                try dsimp only at H199
                have hx202 := row_setN (f := nodeCell) (L := (K.set k (K.getD (k - 1) default))) (cur := (writes cur157 (0 + k * 5) (nodeCell (K.getD (k - 1) default)))) nodeCell_len (by decide) hx197 (show (K.set k (K.getD (k - 1) default)).length * 5 ≤ (writes cur157 (0 + k * 5) (nodeCell (K.getD (k - 1) default))).size by rw [(show ((K.set k (K.getD (k - 1) default))).length = N from by first | (rw [List.length_set]; exact hD153) | rw [List.length_set]), (show (writes cur157 (0 + k * 5) (nodeCell (K.getD (k - 1) default))).size = c * 5 from by rw [writes_size]; exact h161)]; exact Nat.mul_le_mul_right 5 h159) (j := k - 1) (by have hh := (show ((K.set k (K.getD (k - 1) default))).length = N from by first | (rw [List.length_set]; exact hD153) | rw [List.length_set]); omega) (K.getD k default)
                refine s_storeAgg H199 1 #[.int .i64 ((K.getD k default).kind.v), .string ((K.getD k default).var.v), .string ((K.getD k default).typ.v), .slice ((K.getD k default).tp) ((K.getD k default).tests.length) ((K.getD k default).tc), .slice ((K.getD k default).kp) ((K.getD k default).kids.length) ((K.getD k default).kc)] 5 rfl rfl rfl sz_25 rfl (fun v_ hv_ => one_node (K.getD k default) v_ hv_) (by have hh := (show ((K.set k (K.getD (k - 1) default))).length = N from by first | (rw [List.length_set]; exact hD153) | rw [List.length_set]); have hk := (show (K.set k (K.getD (k - 1) default)).length * 5 ≤ (writes cur157 (0 + k * 5) (nodeCell (K.getD (k - 1) default))).size by rw [(show ((K.set k (K.getD (k - 1) default))).length = N from by first | (rw [List.length_set]; exact hD153) | rw [List.length_set]), (show (writes cur157 (0 + k * 5) (nodeCell (K.getD (k - 1) default))).size = c * 5 from by rw [writes_size]; exact h161)]; exact Nat.mul_le_mul_right 5 h159); omega) (fun o_ h1_ h2_ => by simp) (cs' := (writes (writes cur157 (0 + k * 5) (nodeCell (K.getD (k - 1) default))) (0 + (k - 1) * 5) (nodeCell (K.getD k default)))) rfl ?_; intro w200 H201
                refine ⟨blk bk156 (.cells (writes (writes cur157 (0 + k * 5) (nodeCell (K.getD (k - 1) default))) (0 + (k - 1) * 5) (nodeCell (K.getD k default))) 25 (0, 0)) :: F, ?_, H201⟩
                change FReg _ _ _ _ _ #[true, true, true, true, true, true, true, true, true, true, true, true, true, true, true, true, true, true] _ _
                refine f_done (by kernel_rfl) ?_
                intro w203 H204
                refine g_inBlock ?_
                refine g_region ?_
                refine r_cons (s_move (.int .i64 (k : Int)) rfl rfl ?_)
                refine r_cons (s_sub ((k : Int) - 1) rfl rfl (wi64 (by omega)) rfl ?_)
                refine r_cons (s_assign (.int .i64 ((k : Int) - 1)) rfl rfl ?_)
                refine r_nil ?_
                have hL205 : ((K.set k (K.getD (k - 1) default)).set (k - 1) (K.getD k default)) = (swapL K k (k - 1)) := by first | rfl | exact swapL_comm (by omega)
                have H206 := Row.shut2 (p := p) (n := N) (c := c) (size := 5) (xs := (swapL K k (k - 1)).flatMap nodeCell) H204 (i := 1) rfl hp158 h159 h160 (show (writes (writes cur157 (0 + k * 5) (nodeCell (K.getD (k - 1) default))) (0 + (k - 1) * 5) (nodeCell (K.getD k default))).size = c * 5 from by rw [writes_size]; exact (show (writes cur157 (0 + k * 5) (nodeCell (K.getD (k - 1) default))).size = c * 5 from by rw [writes_size]; exact h161)) (by have hh : ((writes (writes cur157 (0 + k * 5) (nodeCell (K.getD (k - 1) default))) (0 + (k - 1) * 5) (nodeCell (K.getD k default))).toList.drop 0).take (((K.set k (K.getD (k - 1) default)).set (k - 1) (K.getD k default)).length * 5) = ((K.set k (K.getD (k - 1) default)).set (k - 1) (K.getD k default)).flatMap nodeCell := hx202; have hk : ((K.set k (K.getD (k - 1) default)).set (k - 1) (K.getD k default)).length = N := (show (((K.set k (K.getD (k - 1) default)).set (k - 1) (K.getD k default))).length = N from by first | (rw [List.length_set]; exact (show ((K.set k (K.getD (k - 1) default))).length = N from by first | (rw [List.length_set]; exact hD153) | rw [List.length_set])) | rw [List.length_set]); rw [hk] at hh; rw [hL205] at hh; exact hh) (fun x_ hx_ => by obtain ⟨a_, _, ha_⟩ := List.mem_flatMap.1 hx_; exact one_node a_ x_ ha_)
                have H207 : St W w203 (NodesA (swapL K k (k - 1)) :: NodesA K :: Row 25 5 (.slice p N c) N ((swapL K k (k - 1)).flatMap nodeCell) :: F) := NodesA.sub H206 (i := 0) rfl (swapL_mem (by omega) (by omega))
                have H208 : St W w203 (Row 25 5 (.slice p N c) N ((swapL K k (k - 1)).flatMap nodeCell) :: NodesA (swapL K k (k - 1)) :: NodesA K :: F) := (H207.move 2 rfl)
                have H209 : St W w203 (DataA 25 p N c (swapL K k (k - 1)) :: NodesA K :: F) := DataA.make (by rw [swapL_len]; exact hD153) H208
                have H210 : St W w203 (DataA 25 p N c (swapL K k (k - 1)) :: F) := (H209.drop 1 rfl)
                have H211 : St W w203 (DataA 25 p N c (swapL K k (k - 1)) :: F) := H210
                exact nx151 ((swapL K k (k - 1)), k - 1) _ _ ⟨(by omega), (by omega), (hmv.step (by omega) (by omega) (by omega)), H211⟩ (by first | (dsimp only; omega) | omega) ⟨by first | rfl | exact vint (by omega), by first | rfl | exact vint (by omega), by first | rfl | exact vint (by omega), by first | rfl | exact vint (by omega), by first | rfl | exact vint (by omega), by first | rfl | exact vint (by omega), by first | rfl | exact vint (by omega), trivial⟩
            · skip
              refine r_cons (s_gtr false rfl rfl (dfalse hc152) rfl ?_)
              refine r_nil ?_
              refine g_false rfl ?_
              refine g_exit (by rfl) ?_
              refine g_ret' [] Try.func78 Try.results78 trivial ?_
              have H212 : St W w149 (DataA 25 p N c K :: F) := H150
              exact ⟨rfl, K, ⟨hmv.seg (by omega) (by omega) (by omega), merge2 (K := K) (by rw [show i = k from by omega]; exact hmv) (by omega) (by omega) (by omega) hs1 hA (by rw [hij9]; exact hB)⟩, H212⟩
    · skip
      refine r_cons (s_eql false rfl rfl (dfalse hc107) rfl ?_)
      refine r_nil ?_
      refine g_false rfl ?_
      refine g_skip ?_
      refine g_seq ?_
      refine g_region ?_
      refine r_cons (s_move (.int .i64 (a : Int)) rfl rfl ?_)
      refine r_cons (s_move (.int .i64 (b : Int)) rfl rfl ?_)
      refine r_cons (s_add ((a + b : Nat) : Int) rfl rfl ((fun (z_ : Int) (hz_ : z_ = ((a + b : Nat) : Int)) => (congrArg IntKind.i64.wrap hz_).trans (wi64 (by omega))) _ (by omega)) rfl ?_)
      refine r_cons (s_conv ((a + b : Nat) : Int) rfl us_3 ik_96 (wu64 (by omega)) rfl ?_)
      refine r_cons (s_shr ((((a + b) / 2) : Nat) : Int) rfl rfl (by omega) (shr_nat (k := 1) rfl (by decide)) rfl ?_)
      refine r_cons (s_conv ((((a + b) / 2) : Nat) : Int) rfl us_96 ik_3 (wi64 (by omega)) rfl ?_)
      refine r_cons (s_assign (.int .i64 ((((a + b) / 2) : Nat) : Int)) rfl rfl ?_)
      refine r_nil ?_
      refine g_seq ?_
      refine g_region ?_
      refine r_cons (s_move (.int .i64 ((((a + b) / 2) : Nat) : Int)) rfl rfl ?_)
      refine r_cons (s_move (.int .i64 (m : Int)) rfl rfl ?_)
      refine r_cons (s_add ((((a + b) / 2) + m : Nat) : Int) rfl rfl ((fun (z_ : Int) (hz_ : z_ = ((((a + b) / 2) + m : Nat) : Int)) => (congrArg IntKind.i64.wrap hz_).trans (wi64 (by omega))) _ (by omega)) rfl ?_)
      refine r_cons (s_assign (.int .i64 ((((a + b) / 2) + m : Nat) : Int)) rfl rfl ?_)
      refine r_nil ?_
      refine g_seq ?_
      refine g_region ?_
      refine r_cons (s_assign (.int .i64 0) rfl rfl ?_)
      refine r_cons (s_assign (.int .i64 0) rfl rfl ?_)
      refine r_nil ?_
      refine g_seq ?_
      refine g_seq ?_
      refine g_region ?_
      refine r_cons (s_move (.int .i64 (m : Int)) rfl rfl ?_)
      refine r_cons (s_move (.int .i64 ((((a + b) / 2) : Nat) : Int)) rfl rfl ?_)
      by_cases hc213 : ((((a + b) / 2) : Nat) : Int) < (m : Int)
      · skip
        refine r_cons (s_gtr true rfl rfl (dtrue hc213) rfl ?_)
        refine r_nil ?_
        refine g_true rfl ?_
        refine g_seq ?_
        refine g_region ?_
        refine r_cons (s_move (.int .i64 ((((a + b) / 2) + m : Nat) : Int)) rfl rfl ?_)
        refine r_cons (s_move (.int .i64 (b : Int)) rfl rfl ?_)
        refine r_cons (s_sub (((((a + b) / 2) + m) - b : Nat) : Int) rfl rfl ((fun (z_ : Int) (hz_ : z_ = (((((a + b) / 2) + m) - b : Nat) : Int)) => (congrArg IntKind.i64.wrap hz_).trans (wi64 (by omega))) _ (by omega)) rfl ?_)
        refine r_cons (s_assign (.int .i64 (((((a + b) / 2) + m) - b : Nat) : Int)) rfl rfl ?_)
        refine r_nil ?_
        refine g_region ?_
        refine r_cons (s_move (.int .i64 ((((a + b) / 2) : Nat) : Int)) rfl rfl ?_)
        refine r_cons (s_assign (.int .i64 ((((a + b) / 2) : Nat) : Int)) rfl rfl ?_)
        refine r_nil ?_
        refine g_seq ?_
        refine g_region ?_
        refine r_cons (s_move (.int .i64 ((((a + b) / 2) + m : Nat) : Int)) rfl rfl ?_)
        refine r_cons (s_sub (((((a + b) / 2) + m) - 1 : Nat) : Int) rfl rfl ((fun (z_ : Int) (hz_ : z_ = (((((a + b) / 2) + m) - 1 : Nat) : Int)) => (congrArg IntKind.i64.wrap hz_).trans (wi64 (by omega))) _ (by omega)) rfl ?_)
        refine r_cons (s_assign (.int .i64 (((((a + b) / 2) + m) - 1 : Nat) : Int)) rfl rfl ?_)
        refine r_nil ?_
        refine g_seq ?_
        refine g_block ?_
        have H214 : St W w (DataA 25 p N c L :: F) := H
        refine g_loop_inv (fun (x_ : Nat × Nat) => match x_ with | (s, r) => [(0, .slice p N c), (1, .int .i64 (a : Int)), (2, .int .i64 (m : Int)), (3, .int .i64 (b : Int)), (4, .func (.func 8) #[] #[]), (18, .int .i64 ((((a + b) / 2) : Nat) : Int)), (19, .int .i64 ((((a + b) / 2) + m : Nat) : Int)), (20, .int .i64 (s : Int)), (21, .int .i64 (r : Int)), (22, .int .i64 (((((a + b) / 2) + m) - 1 : Nat) : Int))]) (fun (x_ : Nat × Nat) w => match x_ with | (s, r) => ((((a + b) / 2) + m) - b ≤ s) ∧ (s ≤ r) ∧ (r ≤ ((a + b) / 2)) ∧ (s = (((a + b) / 2) + m) - b ∨ leN (gd L (s - 1)) (gd L (((a + b) / 2) + m - s))) ∧ (r = ((a + b) / 2) ∨ leN (gd L (((a + b) / 2) + m - 1 - r)) (gd L r)) ∧ St W w (DataA 25 p N c L :: F)) (fun (x_ : Nat × Nat) => match x_ with | (s, r) => r - s) ((((a + b) / 2) + m) - b, ((a + b) / 2)) ?_ ?_ ?_
        · exact ⟨by first | rfl | exact vint (by omega), by first | rfl | exact vint (by omega), by first | rfl | exact vint (by omega), by first | rfl | exact vint (by omega), by first | rfl | exact vint (by omega), by first | rfl | exact vint (by omega), by first | rfl | exact vint (by omega), by first | rfl | exact vint (by omega), by first | rfl | exact vint (by omega), by first | rfl | exact vint (by omega), trivial⟩
        · exact ⟨(by omega), (by omega), (by omega), (.inl (by omega)), (.inl rfl), H214⟩
        · rintro ⟨s, r⟩ ρ215 w216 ⟨hs0, hsr, hr0, hA, hB, H217⟩ nx218
          change Ends _ _ (upds ρ215 [(0, .slice p N c), (1, .int .i64 (a : Int)), (2, .int .i64 (m : Int)), (3, .int .i64 (b : Int)), (4, .func (.func 8) #[] #[]), (18, .int .i64 ((((a + b) / 2) : Nat) : Int)), (19, .int .i64 ((((a + b) / 2) + m : Nat) : Int)), (20, .int .i64 (s : Int)), (21, .int .i64 (r : Int)), (22, .int .i64 (((((a + b) / 2) + m) - 1 : Nat) : Int))]) w216
          refine g_seq ?_
          refine g_seq ?_
          refine g_region ?_
          refine r_cons (s_move (.int .i64 (s : Int)) rfl rfl ?_)
          refine r_cons (s_move (.int .i64 (r : Int)) rfl rfl ?_)
          by_cases hc219 : (s : Int) < (r : Int)
          · skip
            refine r_cons (s_lss true rfl rfl (dtrue hc219) rfl ?_)
            refine r_nil ?_
            refine g_true rfl ?_
            refine g_skip ?_
            refine g_block ?_
            refine g_seq ?_
            refine g_region ?_
            refine r_cons (s_move (.int .i64 (s : Int)) rfl rfl ?_)
            refine r_cons (s_move (.int .i64 (r : Int)) rfl rfl ?_)
            refine r_cons (s_add ((s + r : Nat) : Int) rfl rfl ((fun (z_ : Int) (hz_ : z_ = ((s + r : Nat) : Int)) => (congrArg IntKind.i64.wrap hz_).trans (wi64 (by omega))) _ (by omega)) rfl ?_)
            refine r_cons (s_conv ((s + r : Nat) : Int) rfl us_3 ik_96 (wu64 (by omega)) rfl ?_)
            refine r_cons (s_shr ((((s + r) / 2) : Nat) : Int) rfl rfl (by omega) (shr_nat (k := 1) rfl (by decide)) rfl ?_)
            refine r_cons (s_conv ((((s + r) / 2) : Nat) : Int) rfl us_96 ik_3 (wi64 (by omega)) rfl ?_)
            refine r_cons (s_assign (.int .i64 ((((s + r) / 2) : Nat) : Int)) rfl rfl ?_)
            refine r_nil ?_
            refine g_seq ?_
            obtain ⟨hD220, H221⟩ := DataA.open H217
            have H222 : St W w216 (Row 25 5 (.slice p N c) N (L.flatMap nodeCell) :: NodesA L :: F) := H221
            obtain ⟨bk223, cur224, hp225, h226, h227, h228, h229, h230, H231⟩ := Row.open2 H222 (i := 0) rfl (by omega)
            have H232 := NodesA.at H231 (i := 1) rfl (j := (((a + b) / 2) + m - 1 - ((s + r) / 2))) (by omega)
            have H233 := NodesA.at H232 (i := 2) rfl (j := ((s + r) / 2)) (by omega)
            refine g_mix (fun t_ w => St W w (NodeA (L.getD ((s + r) / 2) default) :: NodeA (L.getD (((a + b) / 2) + m - 1 - ((s + r) / 2)) default) :: blk bk223 (.cells cur224 25 (0, 0)) :: NodesA L :: t_)) F mixed 14 rfl H233.drew ?_
            refine f_first 0 (listed' := #[true, false, false, false, false, false, false, false, false, false, false, false, false, false]) rfl (by kernel_rfl) (by kernel_rfl) (by kernel_rfl) rfl ?_
            refine f_val rfl rfl rfl (by intro t_ w hw; exact x_move (.func (.func 8) #[] #[]) rfl w) ?_
            refine f_first 1 (listed' := #[true, true, false, false, false, false, false, false, false, false, false, false, false, false]) rfl (by kernel_rfl) (by kernel_rfl) (by kernel_rfl) rfl ?_
            refine f_val rfl rfl rfl (by intro t_ w hw; exact x_move (.slice p N c) rfl w) ?_
            refine f_first 2 (listed' := #[true, true, true, false, false, false, false, false, false, false, false, false, false, false]) rfl (by kernel_rfl) (by kernel_rfl) (by kernel_rfl) rfl ?_
            refine f_val rfl rfl rfl (by intro t_ w hw; exact x_move (.int .i64 (((((a + b) / 2) + m) - 1 : Nat) : Int)) rfl w) ?_
            refine f_first 3 (listed' := #[true, true, true, true, false, false, false, false, false, false, false, false, false, false]) rfl (by kernel_rfl) (by kernel_rfl) (by kernel_rfl) rfl ?_
            refine f_val rfl rfl rfl (by intro t_ w hw; exact x_move (.int .i64 ((((s + r) / 2) : Nat) : Int)) rfl w) ?_
            refine f_first 4 (listed' := #[true, true, true, true, true, false, false, false, false, false, false, false, false, false]) rfl (by kernel_rfl) (by kernel_rfl) (by kernel_rfl) rfl ?_
            refine f_val rfl rfl rfl (by intro t_ w hw; exact x_sub (((((a + b) / 2) + m - 1) - ((s + r) / 2) : Nat) : Int) rfl rfl ((fun (z_ : Int) (hz_ : z_ = (((((a + b) / 2) + m - 1) - ((s + r) / 2) : Nat) : Int)) => (congrArg IntKind.i64.wrap hz_).trans (wi64 (by omega))) _ (by omega)) w) ?_
            refine f_first 5 (listed' := #[true, true, true, true, true, true, false, false, false, false, false, false, false, false]) rfl (by kernel_rfl) (by kernel_rfl) (by kernel_rfl) rfl ?_
            refine f_val rfl rfl rfl (by intro t_ w hw; exact x_indexAddr bk223 (off := 0) (((((a + b) / 2) + m - 1) - ((s + r) / 2) : Nat) : Int) 5 (0 + ((((a + b) / 2) + m - 1) - ((s + r) / 2)) * 5) (by exact congrArg (fun z_ => Value.slice z_ N c) ((fun (_ : 0 < 1) => hp225) (by omega))) rfl el_23 (by omega) rfl w) ?_
            refine f_first 6 (listed' := #[true, true, true, true, true, true, true, false, false, false, false, false, false, false]) rfl (by kernel_rfl) (by kernel_rfl) (by kernel_rfl) rfl ?_
            refine f_val rfl rfl rfl (by intro t_ w hw; exact x_loadAgg [.int .i64 ((L.getD ((((a + b) / 2) + m - 1) - ((s + r) / 2)) default).kind.v), .string ((L.getD ((((a + b) / 2) + m - 1) - ((s + r) / 2)) default).var.v), .string ((L.getD ((((a + b) / 2) + m - 1) - ((s + r) / 2)) default).typ.v), .slice ((L.getD ((((a + b) / 2) + m - 1) - ((s + r) / 2)) default).tp) ((L.getD ((((a + b) / 2) + m - 1) - ((s + r) / 2)) default).tests.length) ((L.getD ((((a + b) / 2) + m - 1) - ((s + r) / 2)) default).tc), .slice ((L.getD ((((a + b) / 2) + m - 1) - ((s + r) / 2)) default).kp) ((L.getD ((((a + b) / 2) + m - 1) - ((s + r) / 2)) default).kids.length) ((L.getD ((((a + b) / 2) + m - 1) - ((s + r) / 2)) default).kc)] 5 ag_25 rfl (hw.blk_at (i := 2) rfl) (by have := elem_size (i := (((a + b) / 2) + m - 1) - ((s + r) / 2)) (s := 5) (show 0 + L.length * 5 ≤ cur224.size by have := (show L.length * 5 ≤ cur224.size by rw [hD220, h228]; exact Nat.mul_le_mul_right 5 h226); omega) (by have hh : L.length = N := hD220; omega); omega) (elem_take nodeCell_len (by rw [hD220]; exact h229) (by have hh : L.length = N := hD220; omega) default)) ?_
            refine f_first 7 (listed' := #[true, true, true, true, true, true, true, true, false, false, false, false, false, false]) rfl (by kernel_rfl) (by kernel_rfl) (by kernel_rfl) rfl ?_
            refine f_val rfl rfl rfl (by intro t_ w hw; exact x_move (.slice p N c) rfl w) ?_
            refine f_first 8 (listed' := #[true, true, true, true, true, true, true, true, true, false, false, false, false, false]) rfl (by kernel_rfl) (by kernel_rfl) (by kernel_rfl) rfl ?_
            refine f_val rfl rfl rfl (by intro t_ w hw; exact x_move (.int .i64 ((((s + r) / 2) : Nat) : Int)) rfl w) ?_
            refine f_first 9 (listed' := #[true, true, true, true, true, true, true, true, true, true, false, false, false, false]) rfl (by kernel_rfl) (by kernel_rfl) (by kernel_rfl) rfl ?_
            refine f_val rfl rfl rfl (by intro t_ w hw; exact x_indexAddr bk223 (off := 0) ((((s + r) / 2) : Nat) : Int) 5 (0 + ((s + r) / 2) * 5) (by exact congrArg (fun z_ => Value.slice z_ N c) ((fun (_ : 0 < 1) => hp225) (by omega))) rfl el_23 (by omega) rfl w) ?_
            refine f_first 10 (listed' := #[true, true, true, true, true, true, true, true, true, true, true, false, false, false]) rfl (by kernel_rfl) (by kernel_rfl) (by kernel_rfl) rfl ?_
            refine f_val rfl rfl rfl (by intro t_ w hw; exact x_loadAgg [.int .i64 ((L.getD ((s + r) / 2) default).kind.v), .string ((L.getD ((s + r) / 2) default).var.v), .string ((L.getD ((s + r) / 2) default).typ.v), .slice ((L.getD ((s + r) / 2) default).tp) ((L.getD ((s + r) / 2) default).tests.length) ((L.getD ((s + r) / 2) default).tc), .slice ((L.getD ((s + r) / 2) default).kp) ((L.getD ((s + r) / 2) default).kids.length) ((L.getD ((s + r) / 2) default).kc)] 5 ag_25 rfl (hw.blk_at (i := 2) rfl) (by have := elem_size (i := ((s + r) / 2)) (s := 5) (show 0 + L.length * 5 ≤ cur224.size by have := (show L.length * 5 ≤ cur224.size by rw [hD220, h228]; exact Nat.mul_le_mul_right 5 h226); omega) (by have hh : L.length = N := hD220; omega); omega) (elem_take nodeCell_len (by rw [hD220]; exact h229) (by have hh : L.length = N := hD220; omega) default)) ?_
            refine f_all (rs := [11]) (by kernel_rfl) (by simp) ?_
            refine a_cons ⟨_, rfl, ?_⟩ (fun x hx => absurd hx (by simp))
            intro w234 H235
            try dsimp only at H235
            have H236 := NodesA.at H235 (i := 3) rfl (j := ((((a + b) / 2) + m - 1) - ((s + r) / 2))) (by omega)
            refine s_callv [] [.agg #[.int .i64 ((L.getD ((((a + b) / 2) + m - 1) - ((s + r) / 2)) default).kind.v), .string ((L.getD ((((a + b) / 2) + m - 1) - ((s + r) / 2)) default).var.v), .string ((L.getD ((((a + b) / 2) + m - 1) - ((s + r) / 2)) default).typ.v), .slice ((L.getD ((((a + b) / 2) + m - 1) - ((s + r) / 2)) default).tp) ((L.getD ((((a + b) / 2) + m - 1) - ((s + r) / 2)) default).tests.length) ((L.getD ((((a + b) / 2) + m - 1) - ((s + r) / 2)) default).tc), .slice ((L.getD ((((a + b) / 2) + m - 1) - ((s + r) / 2)) default).kp) ((L.getD ((((a + b) / 2) + m - 1) - ((s + r) / 2)) default).kids.length) ((L.getD ((((a + b) / 2) + m - 1) - ((s + r) / 2)) default).kc)], .agg #[.int .i64 ((L.getD ((s + r) / 2) default).kind.v), .string ((L.getD ((s + r) / 2) default).var.v), .string ((L.getD ((s + r) / 2) default).typ.v), .slice ((L.getD ((s + r) / 2) default).tp) ((L.getD ((s + r) / 2) default).tests.length) ((L.getD ((s + r) / 2) default).tc), .slice ((L.getD ((s + r) / 2) default).kp) ((L.getD ((s + r) / 2) default).kids.length) ((L.getD ((s + r) / 2) default).kc)]] rfl pl_8 rfl rfl (normal_Compare (L.getD ((((a + b) / 2) + m - 1) - ((s + r) / 2)) default) (L.getD ((s + r) / 2) default) (i := 0) rfl (i2 := 1) rfl H236) ?_
            rintro _ w237 ⟨rfl, H238⟩
            have H239 : St W w237 (NodeA (L.getD ((s + r) / 2) default) :: NodeA (L.getD (((a + b) / 2) + m - 1 - ((s + r) / 2)) default) :: blk bk223 (.cells cur224 25 (0, 0)) :: NodesA L :: NodeA (L.getD ((((a + b) / 2) + m - 1) - ((s + r) / 2)) default) :: F) := ((((H238.move 4 rfl).move 4 rfl).move 4 rfl).move 4 rfl)
            refine ⟨NodeA (L.getD ((((a + b) / 2) + m - 1) - ((s + r) / 2)) default) :: F, ?_, H239⟩
            change FReg _ _ _ _ _ #[true, true, true, true, true, true, true, true, true, true, true, true, false, false] _ _
            refine f_first 12 (listed' := #[true, true, true, true, true, true, true, true, true, true, true, true, true, false]) rfl (by kernel_rfl) (by kernel_rfl) (by kernel_rfl) rfl ?_
            by_cases hc240 : cmpN (L.getD ((((a + b) / 2) + m - 1) - ((s + r) / 2)) default) (L.getD ((s + r) / 2) default) < 0
            · skip
              refine f_val rfl rfl rfl (by intro t_ w hw; exact x_lss true rfl rfl (dtrue hc240) w) ?_
              refine f_first 13 (listed' := #[true, true, true, true, true, true, true, true, true, true, true, true, true, true]) rfl (by kernel_rfl) (by kernel_rfl) (by kernel_rfl) rfl ?_
              refine f_val rfl rfl rfl (by intro t_ w hw; exact x_not true rfl false rfl w) ?_
              refine f_done (by kernel_rfl) ?_
              intro w241 H242
              refine g_false rfl ?_
              refine g_region ?_
              refine r_cons (s_move (.int .i64 ((((s + r) / 2) : Nat) : Int)) rfl rfl ?_)
              refine r_cons (s_assign (.int .i64 ((((s + r) / 2) : Nat) : Int)) rfl rfl ?_)
              refine r_nil ?_
              refine g_inBlock ?_
              have H243 := Row.shut2 (p := p) (n := N) (c := c) (size := 5) (xs := L.flatMap nodeCell) H242 (i := 2) rfl hp225 h226 h227 h228 (by have hh : (cur224.toList.drop 0).take (L.length * 5) = L.flatMap nodeCell := (by rw [hD220]; exact h229); have hk : L.length = N := hD220; rw [hk] at hh; exact hh) (fun x_ hx_ => by obtain ⟨a_, _, ha_⟩ := List.mem_flatMap.1 hx_; exact one_node a_ x_ ha_)
              have H244 : St W w241 (Row 25 5 (.slice p N c) N (L.flatMap nodeCell) :: NodesA L :: NodeA (L.getD ((s + r) / 2) default) :: NodeA (L.getD (((a + b) / 2) + m - 1 - ((s + r) / 2)) default) :: NodeA (L.getD ((((a + b) / 2) + m - 1) - ((s + r) / 2)) default) :: F) := ((H243.move 3 rfl).move 3 rfl)
              have H245 : St W w241 (DataA 25 p N c L :: NodeA (L.getD ((s + r) / 2) default) :: NodeA (L.getD (((a + b) / 2) + m - 1 - ((s + r) / 2)) default) :: NodeA (L.getD ((((a + b) / 2) + m - 1) - ((s + r) / 2)) default) :: F) := DataA.make hD220 H244
              have H246 : St W w241 (DataA 25 p N c L :: F) := (((H245.drop 1 rfl).drop 1 rfl).drop 1 rfl)
              have H247 : St W w241 (DataA 25 p N c L :: F) := H246
              exact nx218 (s, ((s + r) / 2)) _ _ ⟨(by omega), (by omega), (by omega), hA, (.inr (leN_of_lt hc240)), H247⟩ (by first | (dsimp only; omega) | omega) ⟨by first | rfl | exact vint (by omega), by first | rfl | exact vint (by omega), by first | rfl | exact vint (by omega), by first | rfl | exact vint (by omega), by first | rfl | exact vint (by omega), by first | rfl | exact vint (by omega), by first | rfl | exact vint (by omega), by first | rfl | exact vint (by omega), by first | rfl | exact vint (by omega), by first | rfl | exact vint (by omega), trivial⟩
            · skip
              refine f_val rfl rfl rfl (by intro t_ w hw; exact x_lss false rfl rfl (dfalse hc240) w) ?_
              refine f_first 13 (listed' := #[true, true, true, true, true, true, true, true, true, true, true, true, true, true]) rfl (by kernel_rfl) (by kernel_rfl) (by kernel_rfl) rfl ?_
              refine f_val rfl rfl rfl (by intro t_ w hw; exact x_not false rfl true rfl w) ?_
              refine f_done (by kernel_rfl) ?_
              intro w248 H249
              refine g_true rfl ?_
              refine g_region ?_
              refine r_cons (s_move (.int .i64 ((((s + r) / 2) : Nat) : Int)) rfl rfl ?_)
              refine r_cons (s_add (((((s + r) / 2) : Nat) : Int) + 1) rfl rfl (wi64 (by omega)) rfl ?_)
              refine r_cons (s_assign (.int .i64 (((((s + r) / 2) : Nat) : Int) + 1)) rfl rfl ?_)
              refine r_nil ?_
              refine g_inBlock ?_
              have H250 := Row.shut2 (p := p) (n := N) (c := c) (size := 5) (xs := L.flatMap nodeCell) H249 (i := 2) rfl hp225 h226 h227 h228 (by have hh : (cur224.toList.drop 0).take (L.length * 5) = L.flatMap nodeCell := (by rw [hD220]; exact h229); have hk : L.length = N := hD220; rw [hk] at hh; exact hh) (fun x_ hx_ => by obtain ⟨a_, _, ha_⟩ := List.mem_flatMap.1 hx_; exact one_node a_ x_ ha_)
              have H251 : St W w248 (Row 25 5 (.slice p N c) N (L.flatMap nodeCell) :: NodesA L :: NodeA (L.getD ((s + r) / 2) default) :: NodeA (L.getD (((a + b) / 2) + m - 1 - ((s + r) / 2)) default) :: NodeA (L.getD ((((a + b) / 2) + m - 1) - ((s + r) / 2)) default) :: F) := ((H250.move 3 rfl).move 3 rfl)
              have H252 : St W w248 (DataA 25 p N c L :: NodeA (L.getD ((s + r) / 2) default) :: NodeA (L.getD (((a + b) / 2) + m - 1 - ((s + r) / 2)) default) :: NodeA (L.getD ((((a + b) / 2) + m - 1) - ((s + r) / 2)) default) :: F) := DataA.make hD220 H251
              have H253 : St W w248 (DataA 25 p N c L :: F) := (((H252.drop 1 rfl).drop 1 rfl).drop 1 rfl)
              have H254 : St W w248 (DataA 25 p N c L :: F) := H253
              exact nx218 (((s + r) / 2) + 1, r) _ _ ⟨(by omega), (by omega), (by omega), (.inr (by have h9 := leN_of_not hc240; rw [show ((s + r) / 2) + 1 - 1 = ((s + r) / 2) from by omega, show ((a + b) / 2) + m - (((s + r) / 2) + 1) = ((a + b) / 2) + m - 1 - ((s + r) / 2) from by omega]; exact h9)), hB, H254⟩ (by first | (dsimp only; omega) | omega) ⟨by first | rfl | exact vint (by omega), by first | rfl | exact vint (by omega), by first | rfl | exact vint (by omega), by first | rfl | exact vint (by omega), by first | rfl | exact vint (by omega), by first | rfl | exact vint (by omega), by first | rfl | exact vint (by omega), by first | rfl | exact vint (by omega), by first | rfl | exact vint (by omega), by first | rfl | exact vint (by omega), trivial⟩
          · skip
            refine r_cons (s_lss false rfl rfl (dfalse hc219) rfl ?_)
            refine r_nil ?_
            refine g_false rfl ?_
            refine g_exit (by rfl) ?_
            refine g_seq ?_
            refine g_region ?_
            refine r_cons (s_move (.int .i64 ((((a + b) / 2) + m : Nat) : Int)) rfl rfl ?_)
            refine r_cons (s_move (.int .i64 (s : Int)) rfl rfl ?_)
            refine r_cons (s_sub (((((a + b) / 2) + m) - s : Nat) : Int) rfl rfl ((fun (z_ : Int) (hz_ : z_ = (((((a + b) / 2) + m) - s : Nat) : Int)) => (congrArg IntKind.i64.wrap hz_).trans (wi64 (by omega))) _ (by omega)) rfl ?_)
            refine r_cons (s_assign (.int .i64 (((((a + b) / 2) + m) - s : Nat) : Int)) rfl rfl ?_)
            refine r_nil ?_
            refine g_seq ?_
            refine g_seq ?_
            refine g_region ?_
            have hsr9 : s = r := by omega
            have hcut : Cut L a m b s ((a + b) / 2) (((a + b) / 2) + m - s) := ⟨rfl, rfl, by omega, by omega, by omega, by omega, by omega, fun g1 g2 => hA.resolve_left (by omega), fun g1 g2 => by rw [show (((a + b) / 2) + m - s) - 1 = ((a + b) / 2) + m - 1 - s from by omega]; have h9 := hB.resolve_left (by omega); rw [← hsr9] at h9; exact h9⟩
            refine r_cons (s_move (.int .i64 (s : Int)) rfl rfl ?_)
            refine r_cons (s_move (.int .i64 (m : Int)) rfl rfl ?_)
            by_cases hc255 : (s : Int) < (m : Int)
            · skip
              refine r_cons (s_lss true rfl rfl (dtrue hc255) rfl ?_)
              refine r_cons (s_move (.bool true) rfl rfl ?_)
              refine r_cons (r_take rfl rfl ?_)
              refine s_move (.int .i64 (m : Int)) rfl rfl ?_
              refine r_cons (r_take rfl rfl ?_)
              refine s_move (.int .i64 (((((a + b) / 2) + m) - s : Nat) : Int)) rfl rfl ?_
              refine r_cons (r_take rfl rfl ?_)
              by_cases hc256 : (m : Int) < (((((a + b) / 2) + m) - s : Nat) : Int)
              · skip
                refine s_lss true rfl rfl (dtrue hc256) rfl ?_
                refine r_cons (s_pick_t (.bool true) rfl rfl rfl ?_)
                refine r_nil ?_
                refine g_true rfl ?_
                refine g_region ?_
                refine r_cons (s_move (.slice p N c) rfl rfl ?_)
                refine r_cons (s_move (.int .i64 (s : Int)) rfl rfl ?_)
                refine r_cons (s_move (.int .i64 (m : Int)) rfl rfl ?_)
                refine r_cons (s_move (.int .i64 (((((a + b) / 2) + m) - s : Nat) : Int)) rfl rfl ?_)
                refine r_cons (s_move (.func (.func 8) #[] #[]) rfl rfl ?_)
                refine r_cons (s_call [.slice p N c, .int .i64 (s : Int), .int .i64 (m : Int), .int .i64 (((((a + b) / 2) + m) - s : Nat) : Int), .func (.func 8) #[] #[]] pl_82 rfl rfl (rotate_ L s m ((((a + b) / 2) + m) - s) hN (by omega) (by omega) (by omega) H217) ?_)
                rintro _ w259 ⟨rfl, K257, hf258, H260⟩
                refine r_nil ?_
                refine g_seq ?_
                refine g_seq ?_
                refine g_region ?_
                have hp261 : Parted K257 a s ((a + b) / 2) (((a + b) / 2) + m - s) b := parted hcut hs1 hs2 (.inl ⟨by omega, by omega, hf258⟩)
                have hg262 : Seg a b L K257 := (Rot.seg hf258 (by omega) (by omega)).mono (by omega) (by omega)
                have hlkhg262 := hg262.len
                refine r_cons (s_move (.int .i64 (a : Int)) rfl rfl ?_)
                refine r_cons (s_move (.int .i64 (s : Int)) rfl rfl ?_)
                by_cases hc263 : (a : Int) < (s : Int)
                · skip
                  refine r_cons (s_lss true rfl rfl (dtrue hc263) rfl ?_)
                  refine r_cons (s_move (.bool true) rfl rfl ?_)
                  refine r_cons (r_take rfl rfl ?_)
                  refine s_move (.int .i64 (s : Int)) rfl rfl ?_
                  refine r_cons (r_take rfl rfl ?_)
                  refine s_move (.int .i64 ((((a + b) / 2) : Nat) : Int)) rfl rfl ?_
                  refine r_cons (r_take rfl rfl ?_)
                  by_cases hc264 : (s : Int) < ((((a + b) / 2) : Nat) : Int)
                  · skip
                    refine s_lss true rfl rfl (dtrue hc264) rfl ?_
                    refine r_cons (s_pick_t (.bool true) rfl rfl rfl ?_)
                    refine r_nil ?_
                    refine g_true rfl ?_
                    refine g_region ?_
                    refine r_cons (s_move (.slice p N c) rfl rfl ?_)
                    refine r_cons (s_move (.int .i64 (a : Int)) rfl rfl ?_)
                    refine r_cons (s_move (.int .i64 (s : Int)) rfl rfl ?_)
                    refine r_cons (s_move (.int .i64 ((((a + b) / 2) : Nat) : Int)) rfl rfl ?_)
                    refine r_cons (s_move (.func (.func 8) #[] #[]) rfl rfl ?_)
                    refine r_cons (s_call [.slice p N c, .int .i64 (a : Int), .int .i64 (s : Int), .int .i64 ((((a + b) / 2) : Nat) : Int), .func (.func 8) #[] #[]] pl_78 rfl rfl (ih p N c K257 a s ((a + b) / 2) (by omega) hN (by omega) (by omega) (by omega) hp261.p1 hp261.p2 H260) ?_)
                    rintro _ w268 ⟨rfl, K265, ⟨hf266, hf267⟩, H269⟩
                    refine r_nil ?_
                    refine g_seq ?_
                    refine g_region ?_
                    have hp270 := parted_lo hp261 hf266 hf267 (by omega) (by omega) (by omega) (by omega)
                    have hg271 := hg262.trans (hf266.mono (Nat.le_refl a) (show ((a + b) / 2) ≤ b by omega))
                    have hlo272 : srt K265 a ((a + b) / 2) := hf267
                    have hlkhg271 := hg271.len
                    refine r_cons (s_move (.int .i64 ((((a + b) / 2) : Nat) : Int)) rfl rfl ?_)
                    refine r_cons (s_move (.int .i64 (((((a + b) / 2) + m) - s : Nat) : Int)) rfl rfl ?_)
                    by_cases hc273 : ((((a + b) / 2) : Nat) : Int) < (((((a + b) / 2) + m) - s : Nat) : Int)
                    · skip
                      refine r_cons (s_lss true rfl rfl (dtrue hc273) rfl ?_)
                      refine r_cons (s_move (.bool true) rfl rfl ?_)
                      refine r_cons (r_take rfl rfl ?_)
                      refine s_move (.int .i64 (((((a + b) / 2) + m) - s : Nat) : Int)) rfl rfl ?_
                      refine r_cons (r_take rfl rfl ?_)
                      refine s_move (.int .i64 (b : Int)) rfl rfl ?_
                      refine r_cons (r_take rfl rfl ?_)
                      by_cases hc274 : (((((a + b) / 2) + m) - s : Nat) : Int) < (b : Int)
                      · skip
                        refine s_lss true rfl rfl (dtrue hc274) rfl ?_
                        refine r_cons (s_pick_t (.bool true) rfl rfl rfl ?_)
                        refine r_nil ?_
                        refine g_true rfl ?_
                        refine g_region ?_
                        refine r_cons (s_move (.slice p N c) rfl rfl ?_)
                        refine r_cons (s_move (.int .i64 ((((a + b) / 2) : Nat) : Int)) rfl rfl ?_)
                        refine r_cons (s_move (.int .i64 (((((a + b) / 2) + m) - s : Nat) : Int)) rfl rfl ?_)
                        refine r_cons (s_move (.int .i64 (b : Int)) rfl rfl ?_)
                        refine r_cons (s_move (.func (.func 8) #[] #[]) rfl rfl ?_)
                        refine r_cons (s_call [.slice p N c, .int .i64 ((((a + b) / 2) : Nat) : Int), .int .i64 (((((a + b) / 2) + m) - s : Nat) : Int), .int .i64 (b : Int), .func (.func 8) #[] #[]] pl_78 rfl rfl (ih p N c K265 ((a + b) / 2) ((((a + b) / 2) + m) - s) b (by omega) hN (by omega) (by omega) (by omega) hp270.p3 hp270.p4 H269) ?_)
                        rintro _ w278 ⟨rfl, K275, ⟨hf276, hf277⟩, H279⟩
                        refine r_nil ?_
                        refine g_end' [] Try.func78 Try.results78 trivial ?_
                        have H280 : St W w278 (DataA 25 p N c K275 :: F) := H279
                        exact ⟨rfl, K275, ⟨hg271.trans (hf276.mono (show a ≤ ((a + b) / 2) by omega) (Nat.le_refl b)), parted_hi hp270 hf276 hf277 hlo272⟩, H280⟩
                      · skip
                        refine s_lss false rfl rfl (dfalse hc274) rfl ?_
                        refine r_cons (s_pick_t (.bool false) rfl rfl rfl ?_)
                        refine r_nil ?_
                        refine g_false rfl ?_
                        refine g_skip ?_
                        refine g_end' [] Try.func78 Try.results78 trivial ?_
                        have H281 : St W w268 (DataA 25 p N c K265 :: F) := H269
                        exact ⟨rfl, K265, ⟨hg271, parted_hi hp270 (Seg.refl ((a + b) / 2) b K265) ((Nat.lt_or_ge ((a + b) / 2) (((a + b) / 2) + m - s)).elim (fun h9 => hp270.p3.sub (by omega) (by omega)) (fun h9 => hp270.p4.sub (by omega) (by omega))) hlo272⟩, H281⟩
                    · skip
                      refine r_cons (s_lss false rfl rfl (dfalse hc273) rfl ?_)
                      refine r_cons (s_move (.bool false) rfl rfl ?_)
                      refine r_cons (r_pass rfl rfl rfl rfl rfl ?_)
                      refine r_cons (r_pass rfl rfl rfl rfl rfl ?_)
                      refine r_cons (r_pass rfl rfl rfl rfl rfl ?_)
                      refine r_cons (s_pick_f (.bool false) rfl rfl rfl ?_)
                      refine r_nil ?_
                      refine g_false rfl ?_
                      refine g_skip ?_
                      refine g_end' [] Try.func78 Try.results78 trivial ?_
                      have H282 : St W w268 (DataA 25 p N c K265 :: F) := H269
                      exact ⟨rfl, K265, ⟨hg271, parted_hi hp270 (Seg.refl ((a + b) / 2) b K265) ((Nat.lt_or_ge ((a + b) / 2) (((a + b) / 2) + m - s)).elim (fun h9 => hp270.p3.sub (by omega) (by omega)) (fun h9 => hp270.p4.sub (by omega) (by omega))) hlo272⟩, H282⟩
                  · skip
                    refine s_lss false rfl rfl (dfalse hc264) rfl ?_
                    refine r_cons (s_pick_t (.bool false) rfl rfl rfl ?_)
                    refine r_nil ?_
                    refine g_false rfl ?_
                    refine g_skip ?_
                    refine g_seq ?_
                    refine g_region ?_
                    have hp283 := hp261
                    have hg284 := hg262
                    have hlo285 : srt K257 a ((a + b) / 2) := (Nat.lt_or_ge a s).elim (fun h9 => hp261.p1.sub (by omega) (by omega)) (fun h9 => hp261.p2.sub (by omega) (by omega))
                    have hlkhg284 := hg284.len
                    refine r_cons (s_move (.int .i64 ((((a + b) / 2) : Nat) : Int)) rfl rfl ?_)
                    refine r_cons (s_move (.int .i64 (((((a + b) / 2) + m) - s : Nat) : Int)) rfl rfl ?_)
                    by_cases hc286 : ((((a + b) / 2) : Nat) : Int) < (((((a + b) / 2) + m) - s : Nat) : Int)
                    · skip
                      refine r_cons (s_lss true rfl rfl (dtrue hc286) rfl ?_)
                      refine r_cons (s_move (.bool true) rfl rfl ?_)
                      refine r_cons (r_take rfl rfl ?_)
                      refine s_move (.int .i64 (((((a + b) / 2) + m) - s : Nat) : Int)) rfl rfl ?_
                      refine r_cons (r_take rfl rfl ?_)
                      refine s_move (.int .i64 (b : Int)) rfl rfl ?_
                      refine r_cons (r_take rfl rfl ?_)
                      by_cases hc287 : (((((a + b) / 2) + m) - s : Nat) : Int) < (b : Int)
                      · skip
                        refine s_lss true rfl rfl (dtrue hc287) rfl ?_
                        refine r_cons (s_pick_t (.bool true) rfl rfl rfl ?_)
                        refine r_nil ?_
                        refine g_true rfl ?_
                        refine g_region ?_
                        refine r_cons (s_move (.slice p N c) rfl rfl ?_)
                        refine r_cons (s_move (.int .i64 ((((a + b) / 2) : Nat) : Int)) rfl rfl ?_)
                        refine r_cons (s_move (.int .i64 (((((a + b) / 2) + m) - s : Nat) : Int)) rfl rfl ?_)
                        refine r_cons (s_move (.int .i64 (b : Int)) rfl rfl ?_)
                        refine r_cons (s_move (.func (.func 8) #[] #[]) rfl rfl ?_)
                        refine r_cons (s_call [.slice p N c, .int .i64 ((((a + b) / 2) : Nat) : Int), .int .i64 (((((a + b) / 2) + m) - s : Nat) : Int), .int .i64 (b : Int), .func (.func 8) #[] #[]] pl_78 rfl rfl (ih p N c K257 ((a + b) / 2) ((((a + b) / 2) + m) - s) b (by omega) hN (by omega) (by omega) (by omega) hp283.p3 hp283.p4 H260) ?_)
                        rintro _ w291 ⟨rfl, K288, ⟨hf289, hf290⟩, H292⟩
                        refine r_nil ?_
                        refine g_end' [] Try.func78 Try.results78 trivial ?_
                        have H293 : St W w291 (DataA 25 p N c K288 :: F) := H292
                        exact ⟨rfl, K288, ⟨hg284.trans (hf289.mono (show a ≤ ((a + b) / 2) by omega) (Nat.le_refl b)), parted_hi hp283 hf289 hf290 hlo285⟩, H293⟩
                      · skip
                        refine s_lss false rfl rfl (dfalse hc287) rfl ?_
                        refine r_cons (s_pick_t (.bool false) rfl rfl rfl ?_)
                        refine r_nil ?_
                        refine g_false rfl ?_
                        refine g_skip ?_
                        refine g_end' [] Try.func78 Try.results78 trivial ?_
                        have H294 : St W w259 (DataA 25 p N c K257 :: F) := H260
                        exact ⟨rfl, K257, ⟨hg284, parted_hi hp283 (Seg.refl ((a + b) / 2) b K257) ((Nat.lt_or_ge ((a + b) / 2) (((a + b) / 2) + m - s)).elim (fun h9 => hp283.p3.sub (by omega) (by omega)) (fun h9 => hp283.p4.sub (by omega) (by omega))) hlo285⟩, H294⟩
                    · skip
                      refine r_cons (s_lss false rfl rfl (dfalse hc286) rfl ?_)
                      refine r_cons (s_move (.bool false) rfl rfl ?_)
                      refine r_cons (r_pass rfl rfl rfl rfl rfl ?_)
                      refine r_cons (r_pass rfl rfl rfl rfl rfl ?_)
                      refine r_cons (r_pass rfl rfl rfl rfl rfl ?_)
                      refine r_cons (s_pick_f (.bool false) rfl rfl rfl ?_)
                      refine r_nil ?_
                      refine g_false rfl ?_
                      refine g_skip ?_
                      refine g_end' [] Try.func78 Try.results78 trivial ?_
                      have H295 : St W w259 (DataA 25 p N c K257 :: F) := H260
                      exact ⟨rfl, K257, ⟨hg284, parted_hi hp283 (Seg.refl ((a + b) / 2) b K257) ((Nat.lt_or_ge ((a + b) / 2) (((a + b) / 2) + m - s)).elim (fun h9 => hp283.p3.sub (by omega) (by omega)) (fun h9 => hp283.p4.sub (by omega) (by omega))) hlo285⟩, H295⟩
                · skip
                  refine r_cons (s_lss false rfl rfl (dfalse hc263) rfl ?_)
                  refine r_cons (s_move (.bool false) rfl rfl ?_)
                  refine r_cons (r_pass rfl rfl rfl rfl rfl ?_)
                  refine r_cons (r_pass rfl rfl rfl rfl rfl ?_)
                  refine r_cons (r_pass rfl rfl rfl rfl rfl ?_)
                  refine r_cons (s_pick_f (.bool false) rfl rfl rfl ?_)
                  refine r_nil ?_
                  refine g_false rfl ?_
                  refine g_skip ?_
                  refine g_seq ?_
                  refine g_region ?_
                  have hp296 := hp261
                  have hg297 := hg262
                  have hlo298 : srt K257 a ((a + b) / 2) := (Nat.lt_or_ge a s).elim (fun h9 => hp261.p1.sub (by omega) (by omega)) (fun h9 => hp261.p2.sub (by omega) (by omega))
                  have hlkhg297 := hg297.len
                  refine r_cons (s_move (.int .i64 ((((a + b) / 2) : Nat) : Int)) rfl rfl ?_)
                  refine r_cons (s_move (.int .i64 (((((a + b) / 2) + m) - s : Nat) : Int)) rfl rfl ?_)
                  by_cases hc299 : ((((a + b) / 2) : Nat) : Int) < (((((a + b) / 2) + m) - s : Nat) : Int)
                  · skip
                    refine r_cons (s_lss true rfl rfl (dtrue hc299) rfl ?_)
                    refine r_cons (s_move (.bool true) rfl rfl ?_)
                    refine r_cons (r_take rfl rfl ?_)
                    refine s_move (.int .i64 (((((a + b) / 2) + m) - s : Nat) : Int)) rfl rfl ?_
                    refine r_cons (r_take rfl rfl ?_)
                    refine s_move (.int .i64 (b : Int)) rfl rfl ?_
                    refine r_cons (r_take rfl rfl ?_)
                    by_cases hc300 : (((((a + b) / 2) + m) - s : Nat) : Int) < (b : Int)
                    · skip
                      refine s_lss true rfl rfl (dtrue hc300) rfl ?_
                      refine r_cons (s_pick_t (.bool true) rfl rfl rfl ?_)
                      refine r_nil ?_
                      refine g_true rfl ?_
                      refine g_region ?_
                      refine r_cons (s_move (.slice p N c) rfl rfl ?_)
                      refine r_cons (s_move (.int .i64 ((((a + b) / 2) : Nat) : Int)) rfl rfl ?_)
                      refine r_cons (s_move (.int .i64 (((((a + b) / 2) + m) - s : Nat) : Int)) rfl rfl ?_)
                      refine r_cons (s_move (.int .i64 (b : Int)) rfl rfl ?_)
                      refine r_cons (s_move (.func (.func 8) #[] #[]) rfl rfl ?_)
                      refine r_cons (s_call [.slice p N c, .int .i64 ((((a + b) / 2) : Nat) : Int), .int .i64 (((((a + b) / 2) + m) - s : Nat) : Int), .int .i64 (b : Int), .func (.func 8) #[] #[]] pl_78 rfl rfl (ih p N c K257 ((a + b) / 2) ((((a + b) / 2) + m) - s) b (by omega) hN (by omega) (by omega) (by omega) hp296.p3 hp296.p4 H260) ?_)
                      rintro _ w304 ⟨rfl, K301, ⟨hf302, hf303⟩, H305⟩
                      refine r_nil ?_
                      refine g_end' [] Try.func78 Try.results78 trivial ?_
                      have H306 : St W w304 (DataA 25 p N c K301 :: F) := H305
                      exact ⟨rfl, K301, ⟨hg297.trans (hf302.mono (show a ≤ ((a + b) / 2) by omega) (Nat.le_refl b)), parted_hi hp296 hf302 hf303 hlo298⟩, H306⟩
                    · skip
                      refine s_lss false rfl rfl (dfalse hc300) rfl ?_
                      refine r_cons (s_pick_t (.bool false) rfl rfl rfl ?_)
                      refine r_nil ?_
                      refine g_false rfl ?_
                      refine g_skip ?_
                      refine g_end' [] Try.func78 Try.results78 trivial ?_
                      have H307 : St W w259 (DataA 25 p N c K257 :: F) := H260
                      exact ⟨rfl, K257, ⟨hg297, parted_hi hp296 (Seg.refl ((a + b) / 2) b K257) ((Nat.lt_or_ge ((a + b) / 2) (((a + b) / 2) + m - s)).elim (fun h9 => hp296.p3.sub (by omega) (by omega)) (fun h9 => hp296.p4.sub (by omega) (by omega))) hlo298⟩, H307⟩
                  · skip
                    refine r_cons (s_lss false rfl rfl (dfalse hc299) rfl ?_)
                    refine r_cons (s_move (.bool false) rfl rfl ?_)
                    refine r_cons (r_pass rfl rfl rfl rfl rfl ?_)
                    refine r_cons (r_pass rfl rfl rfl rfl rfl ?_)
                    refine r_cons (r_pass rfl rfl rfl rfl rfl ?_)
                    refine r_cons (s_pick_f (.bool false) rfl rfl rfl ?_)
                    refine r_nil ?_
                    refine g_false rfl ?_
                    refine g_skip ?_
                    refine g_end' [] Try.func78 Try.results78 trivial ?_
                    have H308 : St W w259 (DataA 25 p N c K257 :: F) := H260
                    exact ⟨rfl, K257, ⟨hg297, parted_hi hp296 (Seg.refl ((a + b) / 2) b K257) ((Nat.lt_or_ge ((a + b) / 2) (((a + b) / 2) + m - s)).elim (fun h9 => hp296.p3.sub (by omega) (by omega)) (fun h9 => hp296.p4.sub (by omega) (by omega))) hlo298⟩, H308⟩
              · skip
                refine s_lss false rfl rfl (dfalse hc256) rfl ?_
                refine r_cons (s_pick_t (.bool false) rfl rfl rfl ?_)
                refine r_nil ?_
                refine g_false rfl ?_
                refine g_skip ?_
                refine g_seq ?_
                refine g_seq ?_
                refine g_region ?_
                have hp309 : Parted L a s ((a + b) / 2) (((a + b) / 2) + m - s) b := parted hcut hs1 hs2 (.inr ⟨by omega, rfl⟩)
                have hg310 : Seg a b L L := Seg.refl a b L
                have hlkhg310 := hg310.len
                refine r_cons (s_move (.int .i64 (a : Int)) rfl rfl ?_)
                refine r_cons (s_move (.int .i64 (s : Int)) rfl rfl ?_)
                by_cases hc311 : (a : Int) < (s : Int)
                · skip
                  refine r_cons (s_lss true rfl rfl (dtrue hc311) rfl ?_)
                  refine r_cons (s_move (.bool true) rfl rfl ?_)
                  refine r_cons (r_take rfl rfl ?_)
                  refine s_move (.int .i64 (s : Int)) rfl rfl ?_
                  refine r_cons (r_take rfl rfl ?_)
                  refine s_move (.int .i64 ((((a + b) / 2) : Nat) : Int)) rfl rfl ?_
                  refine r_cons (r_take rfl rfl ?_)
                  by_cases hc312 : (s : Int) < ((((a + b) / 2) : Nat) : Int)
                  · skip
                    refine s_lss true rfl rfl (dtrue hc312) rfl ?_
                    refine r_cons (s_pick_t (.bool true) rfl rfl rfl ?_)
                    refine r_nil ?_
                    refine g_true rfl ?_
                    refine g_region ?_
                    refine r_cons (s_move (.slice p N c) rfl rfl ?_)
                    refine r_cons (s_move (.int .i64 (a : Int)) rfl rfl ?_)
                    refine r_cons (s_move (.int .i64 (s : Int)) rfl rfl ?_)
                    refine r_cons (s_move (.int .i64 ((((a + b) / 2) : Nat) : Int)) rfl rfl ?_)
                    refine r_cons (s_move (.func (.func 8) #[] #[]) rfl rfl ?_)
                    refine r_cons (s_call [.slice p N c, .int .i64 (a : Int), .int .i64 (s : Int), .int .i64 ((((a + b) / 2) : Nat) : Int), .func (.func 8) #[] #[]] pl_78 rfl rfl (ih p N c L a s ((a + b) / 2) (by omega) hN (by omega) (by omega) (by omega) hp309.p1 hp309.p2 H217) ?_)
                    rintro _ w316 ⟨rfl, K313, ⟨hf314, hf315⟩, H317⟩
                    refine r_nil ?_
                    refine g_seq ?_
                    refine g_region ?_
                    have hp318 := parted_lo hp309 hf314 hf315 (by omega) (by omega) (by omega) (by omega)
                    have hg319 := hg310.trans (hf314.mono (Nat.le_refl a) (show ((a + b) / 2) ≤ b by omega))
                    have hlo320 : srt K313 a ((a + b) / 2) := hf315
                    have hlkhg319 := hg319.len
                    refine r_cons (s_move (.int .i64 ((((a + b) / 2) : Nat) : Int)) rfl rfl ?_)
                    refine r_cons (s_move (.int .i64 (((((a + b) / 2) + m) - s : Nat) : Int)) rfl rfl ?_)
                    by_cases hc321 : ((((a + b) / 2) : Nat) : Int) < (((((a + b) / 2) + m) - s : Nat) : Int)
                    · skip
                      refine r_cons (s_lss true rfl rfl (dtrue hc321) rfl ?_)
                      refine r_cons (s_move (.bool true) rfl rfl ?_)
                      refine r_cons (r_take rfl rfl ?_)
                      refine s_move (.int .i64 (((((a + b) / 2) + m) - s : Nat) : Int)) rfl rfl ?_
                      refine r_cons (r_take rfl rfl ?_)
                      refine s_move (.int .i64 (b : Int)) rfl rfl ?_
                      refine r_cons (r_take rfl rfl ?_)
                      by_cases hc322 : (((((a + b) / 2) + m) - s : Nat) : Int) < (b : Int)
                      · skip
                        refine s_lss true rfl rfl (dtrue hc322) rfl ?_
                        refine r_cons (s_pick_t (.bool true) rfl rfl rfl ?_)
                        refine r_nil ?_
                        refine g_true rfl ?_
                        refine g_region ?_
                        refine r_cons (s_move (.slice p N c) rfl rfl ?_)
                        refine r_cons (s_move (.int .i64 ((((a + b) / 2) : Nat) : Int)) rfl rfl ?_)
                        refine r_cons (s_move (.int .i64 (((((a + b) / 2) + m) - s : Nat) : Int)) rfl rfl ?_)
                        refine r_cons (s_move (.int .i64 (b : Int)) rfl rfl ?_)
                        refine r_cons (s_move (.func (.func 8) #[] #[]) rfl rfl ?_)
                        refine r_cons (s_call [.slice p N c, .int .i64 ((((a + b) / 2) : Nat) : Int), .int .i64 (((((a + b) / 2) + m) - s : Nat) : Int), .int .i64 (b : Int), .func (.func 8) #[] #[]] pl_78 rfl rfl (ih p N c K313 ((a + b) / 2) ((((a + b) / 2) + m) - s) b (by omega) hN (by omega) (by omega) (by omega) hp318.p3 hp318.p4 H317) ?_)
                        rintro _ w326 ⟨rfl, K323, ⟨hf324, hf325⟩, H327⟩
                        refine r_nil ?_
                        refine g_end' [] Try.func78 Try.results78 trivial ?_
                        have H328 : St W w326 (DataA 25 p N c K323 :: F) := H327
                        exact ⟨rfl, K323, ⟨hg319.trans (hf324.mono (show a ≤ ((a + b) / 2) by omega) (Nat.le_refl b)), parted_hi hp318 hf324 hf325 hlo320⟩, H328⟩
                      · skip
                        refine s_lss false rfl rfl (dfalse hc322) rfl ?_
                        refine r_cons (s_pick_t (.bool false) rfl rfl rfl ?_)
                        refine r_nil ?_
                        refine g_false rfl ?_
                        refine g_skip ?_
                        refine g_end' [] Try.func78 Try.results78 trivial ?_
                        have H329 : St W w316 (DataA 25 p N c K313 :: F) := H317
                        exact ⟨rfl, K313, ⟨hg319, parted_hi hp318 (Seg.refl ((a + b) / 2) b K313) ((Nat.lt_or_ge ((a + b) / 2) (((a + b) / 2) + m - s)).elim (fun h9 => hp318.p3.sub (by omega) (by omega)) (fun h9 => hp318.p4.sub (by omega) (by omega))) hlo320⟩, H329⟩
                    · skip
                      refine r_cons (s_lss false rfl rfl (dfalse hc321) rfl ?_)
                      refine r_cons (s_move (.bool false) rfl rfl ?_)
                      refine r_cons (r_pass rfl rfl rfl rfl rfl ?_)
                      refine r_cons (r_pass rfl rfl rfl rfl rfl ?_)
                      refine r_cons (r_pass rfl rfl rfl rfl rfl ?_)
                      refine r_cons (s_pick_f (.bool false) rfl rfl rfl ?_)
                      refine r_nil ?_
                      refine g_false rfl ?_
                      refine g_skip ?_
                      refine g_end' [] Try.func78 Try.results78 trivial ?_
                      have H330 : St W w316 (DataA 25 p N c K313 :: F) := H317
                      exact ⟨rfl, K313, ⟨hg319, parted_hi hp318 (Seg.refl ((a + b) / 2) b K313) ((Nat.lt_or_ge ((a + b) / 2) (((a + b) / 2) + m - s)).elim (fun h9 => hp318.p3.sub (by omega) (by omega)) (fun h9 => hp318.p4.sub (by omega) (by omega))) hlo320⟩, H330⟩
                  · skip
                    refine s_lss false rfl rfl (dfalse hc312) rfl ?_
                    refine r_cons (s_pick_t (.bool false) rfl rfl rfl ?_)
                    refine r_nil ?_
                    refine g_false rfl ?_
                    refine g_skip ?_
                    refine g_seq ?_
                    refine g_region ?_
                    have hp331 := hp309
                    have hg332 := hg310
                    have hlo333 : srt L a ((a + b) / 2) := (Nat.lt_or_ge a s).elim (fun h9 => hp309.p1.sub (by omega) (by omega)) (fun h9 => hp309.p2.sub (by omega) (by omega))
                    have hlkhg332 := hg332.len
                    refine r_cons (s_move (.int .i64 ((((a + b) / 2) : Nat) : Int)) rfl rfl ?_)
                    refine r_cons (s_move (.int .i64 (((((a + b) / 2) + m) - s : Nat) : Int)) rfl rfl ?_)
                    by_cases hc334 : ((((a + b) / 2) : Nat) : Int) < (((((a + b) / 2) + m) - s : Nat) : Int)
                    · skip
                      refine r_cons (s_lss true rfl rfl (dtrue hc334) rfl ?_)
                      refine r_cons (s_move (.bool true) rfl rfl ?_)
                      refine r_cons (r_take rfl rfl ?_)
                      refine s_move (.int .i64 (((((a + b) / 2) + m) - s : Nat) : Int)) rfl rfl ?_
                      refine r_cons (r_take rfl rfl ?_)
                      refine s_move (.int .i64 (b : Int)) rfl rfl ?_
                      refine r_cons (r_take rfl rfl ?_)
                      by_cases hc335 : (((((a + b) / 2) + m) - s : Nat) : Int) < (b : Int)
                      · skip
                        refine s_lss true rfl rfl (dtrue hc335) rfl ?_
                        refine r_cons (s_pick_t (.bool true) rfl rfl rfl ?_)
                        refine r_nil ?_
                        refine g_true rfl ?_
                        refine g_region ?_
                        refine r_cons (s_move (.slice p N c) rfl rfl ?_)
                        refine r_cons (s_move (.int .i64 ((((a + b) / 2) : Nat) : Int)) rfl rfl ?_)
                        refine r_cons (s_move (.int .i64 (((((a + b) / 2) + m) - s : Nat) : Int)) rfl rfl ?_)
                        refine r_cons (s_move (.int .i64 (b : Int)) rfl rfl ?_)
                        refine r_cons (s_move (.func (.func 8) #[] #[]) rfl rfl ?_)
                        refine r_cons (s_call [.slice p N c, .int .i64 ((((a + b) / 2) : Nat) : Int), .int .i64 (((((a + b) / 2) + m) - s : Nat) : Int), .int .i64 (b : Int), .func (.func 8) #[] #[]] pl_78 rfl rfl (ih p N c L ((a + b) / 2) ((((a + b) / 2) + m) - s) b (by omega) hN (by omega) (by omega) (by omega) hp331.p3 hp331.p4 H217) ?_)
                        rintro _ w339 ⟨rfl, K336, ⟨hf337, hf338⟩, H340⟩
                        refine r_nil ?_
                        refine g_end' [] Try.func78 Try.results78 trivial ?_
                        have H341 : St W w339 (DataA 25 p N c K336 :: F) := H340
                        exact ⟨rfl, K336, ⟨hg332.trans (hf337.mono (show a ≤ ((a + b) / 2) by omega) (Nat.le_refl b)), parted_hi hp331 hf337 hf338 hlo333⟩, H341⟩
                      · skip
                        refine s_lss false rfl rfl (dfalse hc335) rfl ?_
                        refine r_cons (s_pick_t (.bool false) rfl rfl rfl ?_)
                        refine r_nil ?_
                        refine g_false rfl ?_
                        refine g_skip ?_
                        refine g_end' [] Try.func78 Try.results78 trivial ?_
                        have H342 : St W w216 (DataA 25 p N c L :: F) := H217
                        exact ⟨rfl, L, ⟨hg332, parted_hi hp331 (Seg.refl ((a + b) / 2) b L) ((Nat.lt_or_ge ((a + b) / 2) (((a + b) / 2) + m - s)).elim (fun h9 => hp331.p3.sub (by omega) (by omega)) (fun h9 => hp331.p4.sub (by omega) (by omega))) hlo333⟩, H342⟩
                    · skip
                      refine r_cons (s_lss false rfl rfl (dfalse hc334) rfl ?_)
                      refine r_cons (s_move (.bool false) rfl rfl ?_)
                      refine r_cons (r_pass rfl rfl rfl rfl rfl ?_)
                      refine r_cons (r_pass rfl rfl rfl rfl rfl ?_)
                      refine r_cons (r_pass rfl rfl rfl rfl rfl ?_)
                      refine r_cons (s_pick_f (.bool false) rfl rfl rfl ?_)
                      refine r_nil ?_
                      refine g_false rfl ?_
                      refine g_skip ?_
                      refine g_end' [] Try.func78 Try.results78 trivial ?_
                      have H343 : St W w216 (DataA 25 p N c L :: F) := H217
                      exact ⟨rfl, L, ⟨hg332, parted_hi hp331 (Seg.refl ((a + b) / 2) b L) ((Nat.lt_or_ge ((a + b) / 2) (((a + b) / 2) + m - s)).elim (fun h9 => hp331.p3.sub (by omega) (by omega)) (fun h9 => hp331.p4.sub (by omega) (by omega))) hlo333⟩, H343⟩
                · skip
                  refine r_cons (s_lss false rfl rfl (dfalse hc311) rfl ?_)
                  refine r_cons (s_move (.bool false) rfl rfl ?_)
                  refine r_cons (r_pass rfl rfl rfl rfl rfl ?_)
                  refine r_cons (r_pass rfl rfl rfl rfl rfl ?_)
                  refine r_cons (r_pass rfl rfl rfl rfl rfl ?_)
                  refine r_cons (s_pick_f (.bool false) rfl rfl rfl ?_)
                  refine r_nil ?_
                  refine g_false rfl ?_
                  refine g_skip ?_
                  refine g_seq ?_
                  refine g_region ?_
                  have hp344 := hp309
                  have hg345 := hg310
                  have hlo346 : srt L a ((a + b) / 2) := (Nat.lt_or_ge a s).elim (fun h9 => hp309.p1.sub (by omega) (by omega)) (fun h9 => hp309.p2.sub (by omega) (by omega))
                  have hlkhg345 := hg345.len
                  refine r_cons (s_move (.int .i64 ((((a + b) / 2) : Nat) : Int)) rfl rfl ?_)
                  refine r_cons (s_move (.int .i64 (((((a + b) / 2) + m) - s : Nat) : Int)) rfl rfl ?_)
                  by_cases hc347 : ((((a + b) / 2) : Nat) : Int) < (((((a + b) / 2) + m) - s : Nat) : Int)
                  · skip
                    refine r_cons (s_lss true rfl rfl (dtrue hc347) rfl ?_)
                    refine r_cons (s_move (.bool true) rfl rfl ?_)
                    refine r_cons (r_take rfl rfl ?_)
                    refine s_move (.int .i64 (((((a + b) / 2) + m) - s : Nat) : Int)) rfl rfl ?_
                    refine r_cons (r_take rfl rfl ?_)
                    refine s_move (.int .i64 (b : Int)) rfl rfl ?_
                    refine r_cons (r_take rfl rfl ?_)
                    by_cases hc348 : (((((a + b) / 2) + m) - s : Nat) : Int) < (b : Int)
                    · skip
                      refine s_lss true rfl rfl (dtrue hc348) rfl ?_
                      refine r_cons (s_pick_t (.bool true) rfl rfl rfl ?_)
                      refine r_nil ?_
                      refine g_true rfl ?_
                      refine g_region ?_
                      refine r_cons (s_move (.slice p N c) rfl rfl ?_)
                      refine r_cons (s_move (.int .i64 ((((a + b) / 2) : Nat) : Int)) rfl rfl ?_)
                      refine r_cons (s_move (.int .i64 (((((a + b) / 2) + m) - s : Nat) : Int)) rfl rfl ?_)
                      refine r_cons (s_move (.int .i64 (b : Int)) rfl rfl ?_)
                      refine r_cons (s_move (.func (.func 8) #[] #[]) rfl rfl ?_)
                      refine r_cons (s_call [.slice p N c, .int .i64 ((((a + b) / 2) : Nat) : Int), .int .i64 (((((a + b) / 2) + m) - s : Nat) : Int), .int .i64 (b : Int), .func (.func 8) #[] #[]] pl_78 rfl rfl (ih p N c L ((a + b) / 2) ((((a + b) / 2) + m) - s) b (by omega) hN (by omega) (by omega) (by omega) hp344.p3 hp344.p4 H217) ?_)
                      rintro _ w352 ⟨rfl, K349, ⟨hf350, hf351⟩, H353⟩
                      refine r_nil ?_
                      refine g_end' [] Try.func78 Try.results78 trivial ?_
                      have H354 : St W w352 (DataA 25 p N c K349 :: F) := H353
                      exact ⟨rfl, K349, ⟨hg345.trans (hf350.mono (show a ≤ ((a + b) / 2) by omega) (Nat.le_refl b)), parted_hi hp344 hf350 hf351 hlo346⟩, H354⟩
                    · skip
                      refine s_lss false rfl rfl (dfalse hc348) rfl ?_
                      refine r_cons (s_pick_t (.bool false) rfl rfl rfl ?_)
                      refine r_nil ?_
                      refine g_false rfl ?_
                      refine g_skip ?_
                      refine g_end' [] Try.func78 Try.results78 trivial ?_
                      have H355 : St W w216 (DataA 25 p N c L :: F) := H217
                      exact ⟨rfl, L, ⟨hg345, parted_hi hp344 (Seg.refl ((a + b) / 2) b L) ((Nat.lt_or_ge ((a + b) / 2) (((a + b) / 2) + m - s)).elim (fun h9 => hp344.p3.sub (by omega) (by omega)) (fun h9 => hp344.p4.sub (by omega) (by omega))) hlo346⟩, H355⟩
                  · skip
                    refine r_cons (s_lss false rfl rfl (dfalse hc347) rfl ?_)
                    refine r_cons (s_move (.bool false) rfl rfl ?_)
                    refine r_cons (r_pass rfl rfl rfl rfl rfl ?_)
                    refine r_cons (r_pass rfl rfl rfl rfl rfl ?_)
                    refine r_cons (r_pass rfl rfl rfl rfl rfl ?_)
                    refine r_cons (s_pick_f (.bool false) rfl rfl rfl ?_)
                    refine r_nil ?_
                    refine g_false rfl ?_
                    refine g_skip ?_
                    refine g_end' [] Try.func78 Try.results78 trivial ?_
                    have H356 : St W w216 (DataA 25 p N c L :: F) := H217
                    exact ⟨rfl, L, ⟨hg345, parted_hi hp344 (Seg.refl ((a + b) / 2) b L) ((Nat.lt_or_ge ((a + b) / 2) (((a + b) / 2) + m - s)).elim (fun h9 => hp344.p3.sub (by omega) (by omega)) (fun h9 => hp344.p4.sub (by omega) (by omega))) hlo346⟩, H356⟩
            · skip
              refine r_cons (s_lss false rfl rfl (dfalse hc255) rfl ?_)
              refine r_cons (s_move (.bool false) rfl rfl ?_)
              refine r_cons (r_pass rfl rfl rfl rfl rfl ?_)
              refine r_cons (r_pass rfl rfl rfl rfl rfl ?_)
              refine r_cons (r_pass rfl rfl rfl rfl rfl ?_)
              refine r_cons (s_pick_f (.bool false) rfl rfl rfl ?_)
              refine r_nil ?_
              refine g_false rfl ?_
              refine g_skip ?_
              refine g_seq ?_
              refine g_seq ?_
              refine g_region ?_
              have hp357 : Parted L a s ((a + b) / 2) (((a + b) / 2) + m - s) b := parted hcut hs1 hs2 (.inr ⟨by omega, rfl⟩)
              have hg358 : Seg a b L L := Seg.refl a b L
              have hlkhg358 := hg358.len
              refine r_cons (s_move (.int .i64 (a : Int)) rfl rfl ?_)
              refine r_cons (s_move (.int .i64 (s : Int)) rfl rfl ?_)
              by_cases hc359 : (a : Int) < (s : Int)
              · skip
                refine r_cons (s_lss true rfl rfl (dtrue hc359) rfl ?_)
                refine r_cons (s_move (.bool true) rfl rfl ?_)
                refine r_cons (r_take rfl rfl ?_)
                refine s_move (.int .i64 (s : Int)) rfl rfl ?_
                refine r_cons (r_take rfl rfl ?_)
                refine s_move (.int .i64 ((((a + b) / 2) : Nat) : Int)) rfl rfl ?_
                refine r_cons (r_take rfl rfl ?_)
                by_cases hc360 : (s : Int) < ((((a + b) / 2) : Nat) : Int)
                · skip
                  refine s_lss true rfl rfl (dtrue hc360) rfl ?_
                  refine r_cons (s_pick_t (.bool true) rfl rfl rfl ?_)
                  refine r_nil ?_
                  refine g_true rfl ?_
                  refine g_region ?_
                  refine r_cons (s_move (.slice p N c) rfl rfl ?_)
                  refine r_cons (s_move (.int .i64 (a : Int)) rfl rfl ?_)
                  refine r_cons (s_move (.int .i64 (s : Int)) rfl rfl ?_)
                  refine r_cons (s_move (.int .i64 ((((a + b) / 2) : Nat) : Int)) rfl rfl ?_)
                  refine r_cons (s_move (.func (.func 8) #[] #[]) rfl rfl ?_)
                  refine r_cons (s_call [.slice p N c, .int .i64 (a : Int), .int .i64 (s : Int), .int .i64 ((((a + b) / 2) : Nat) : Int), .func (.func 8) #[] #[]] pl_78 rfl rfl (ih p N c L a s ((a + b) / 2) (by omega) hN (by omega) (by omega) (by omega) hp357.p1 hp357.p2 H217) ?_)
                  rintro _ w364 ⟨rfl, K361, ⟨hf362, hf363⟩, H365⟩
                  refine r_nil ?_
                  refine g_seq ?_
                  refine g_region ?_
                  have hp366 := parted_lo hp357 hf362 hf363 (by omega) (by omega) (by omega) (by omega)
                  have hg367 := hg358.trans (hf362.mono (Nat.le_refl a) (show ((a + b) / 2) ≤ b by omega))
                  have hlo368 : srt K361 a ((a + b) / 2) := hf363
                  have hlkhg367 := hg367.len
                  refine r_cons (s_move (.int .i64 ((((a + b) / 2) : Nat) : Int)) rfl rfl ?_)
                  refine r_cons (s_move (.int .i64 (((((a + b) / 2) + m) - s : Nat) : Int)) rfl rfl ?_)
                  by_cases hc369 : ((((a + b) / 2) : Nat) : Int) < (((((a + b) / 2) + m) - s : Nat) : Int)
                  · skip
                    refine r_cons (s_lss true rfl rfl (dtrue hc369) rfl ?_)
                    refine r_cons (s_move (.bool true) rfl rfl ?_)
                    refine r_cons (r_take rfl rfl ?_)
                    refine s_move (.int .i64 (((((a + b) / 2) + m) - s : Nat) : Int)) rfl rfl ?_
                    refine r_cons (r_take rfl rfl ?_)
                    refine s_move (.int .i64 (b : Int)) rfl rfl ?_
                    refine r_cons (r_take rfl rfl ?_)
                    by_cases hc370 : (((((a + b) / 2) + m) - s : Nat) : Int) < (b : Int)
                    · skip
                      refine s_lss true rfl rfl (dtrue hc370) rfl ?_
                      refine r_cons (s_pick_t (.bool true) rfl rfl rfl ?_)
                      refine r_nil ?_
                      refine g_true rfl ?_
                      refine g_region ?_
                      refine r_cons (s_move (.slice p N c) rfl rfl ?_)
                      refine r_cons (s_move (.int .i64 ((((a + b) / 2) : Nat) : Int)) rfl rfl ?_)
                      refine r_cons (s_move (.int .i64 (((((a + b) / 2) + m) - s : Nat) : Int)) rfl rfl ?_)
                      refine r_cons (s_move (.int .i64 (b : Int)) rfl rfl ?_)
                      refine r_cons (s_move (.func (.func 8) #[] #[]) rfl rfl ?_)
                      refine r_cons (s_call [.slice p N c, .int .i64 ((((a + b) / 2) : Nat) : Int), .int .i64 (((((a + b) / 2) + m) - s : Nat) : Int), .int .i64 (b : Int), .func (.func 8) #[] #[]] pl_78 rfl rfl (ih p N c K361 ((a + b) / 2) ((((a + b) / 2) + m) - s) b (by omega) hN (by omega) (by omega) (by omega) hp366.p3 hp366.p4 H365) ?_)
                      rintro _ w374 ⟨rfl, K371, ⟨hf372, hf373⟩, H375⟩
                      refine r_nil ?_
                      refine g_end' [] Try.func78 Try.results78 trivial ?_
                      have H376 : St W w374 (DataA 25 p N c K371 :: F) := H375
                      exact ⟨rfl, K371, ⟨hg367.trans (hf372.mono (show a ≤ ((a + b) / 2) by omega) (Nat.le_refl b)), parted_hi hp366 hf372 hf373 hlo368⟩, H376⟩
                    · skip
                      refine s_lss false rfl rfl (dfalse hc370) rfl ?_
                      refine r_cons (s_pick_t (.bool false) rfl rfl rfl ?_)
                      refine r_nil ?_
                      refine g_false rfl ?_
                      refine g_skip ?_
                      refine g_end' [] Try.func78 Try.results78 trivial ?_
                      have H377 : St W w364 (DataA 25 p N c K361 :: F) := H365
                      exact ⟨rfl, K361, ⟨hg367, parted_hi hp366 (Seg.refl ((a + b) / 2) b K361) ((Nat.lt_or_ge ((a + b) / 2) (((a + b) / 2) + m - s)).elim (fun h9 => hp366.p3.sub (by omega) (by omega)) (fun h9 => hp366.p4.sub (by omega) (by omega))) hlo368⟩, H377⟩
                  · skip
                    refine r_cons (s_lss false rfl rfl (dfalse hc369) rfl ?_)
                    refine r_cons (s_move (.bool false) rfl rfl ?_)
                    refine r_cons (r_pass rfl rfl rfl rfl rfl ?_)
                    refine r_cons (r_pass rfl rfl rfl rfl rfl ?_)
                    refine r_cons (r_pass rfl rfl rfl rfl rfl ?_)
                    refine r_cons (s_pick_f (.bool false) rfl rfl rfl ?_)
                    refine r_nil ?_
                    refine g_false rfl ?_
                    refine g_skip ?_
                    refine g_end' [] Try.func78 Try.results78 trivial ?_
                    have H378 : St W w364 (DataA 25 p N c K361 :: F) := H365
                    exact ⟨rfl, K361, ⟨hg367, parted_hi hp366 (Seg.refl ((a + b) / 2) b K361) ((Nat.lt_or_ge ((a + b) / 2) (((a + b) / 2) + m - s)).elim (fun h9 => hp366.p3.sub (by omega) (by omega)) (fun h9 => hp366.p4.sub (by omega) (by omega))) hlo368⟩, H378⟩
                · skip
                  refine s_lss false rfl rfl (dfalse hc360) rfl ?_
                  refine r_cons (s_pick_t (.bool false) rfl rfl rfl ?_)
                  refine r_nil ?_
                  refine g_false rfl ?_
                  refine g_skip ?_
                  refine g_seq ?_
                  refine g_region ?_
                  have hp379 := hp357
                  have hg380 := hg358
                  have hlo381 : srt L a ((a + b) / 2) := (Nat.lt_or_ge a s).elim (fun h9 => hp357.p1.sub (by omega) (by omega)) (fun h9 => hp357.p2.sub (by omega) (by omega))
                  have hlkhg380 := hg380.len
                  refine r_cons (s_move (.int .i64 ((((a + b) / 2) : Nat) : Int)) rfl rfl ?_)
                  refine r_cons (s_move (.int .i64 (((((a + b) / 2) + m) - s : Nat) : Int)) rfl rfl ?_)
                  by_cases hc382 : ((((a + b) / 2) : Nat) : Int) < (((((a + b) / 2) + m) - s : Nat) : Int)
                  · skip
                    refine r_cons (s_lss true rfl rfl (dtrue hc382) rfl ?_)
                    refine r_cons (s_move (.bool true) rfl rfl ?_)
                    refine r_cons (r_take rfl rfl ?_)
                    refine s_move (.int .i64 (((((a + b) / 2) + m) - s : Nat) : Int)) rfl rfl ?_
                    refine r_cons (r_take rfl rfl ?_)
                    refine s_move (.int .i64 (b : Int)) rfl rfl ?_
                    refine r_cons (r_take rfl rfl ?_)
                    by_cases hc383 : (((((a + b) / 2) + m) - s : Nat) : Int) < (b : Int)
                    · skip
                      refine s_lss true rfl rfl (dtrue hc383) rfl ?_
                      refine r_cons (s_pick_t (.bool true) rfl rfl rfl ?_)
                      refine r_nil ?_
                      refine g_true rfl ?_
                      refine g_region ?_
                      refine r_cons (s_move (.slice p N c) rfl rfl ?_)
                      refine r_cons (s_move (.int .i64 ((((a + b) / 2) : Nat) : Int)) rfl rfl ?_)
                      refine r_cons (s_move (.int .i64 (((((a + b) / 2) + m) - s : Nat) : Int)) rfl rfl ?_)
                      refine r_cons (s_move (.int .i64 (b : Int)) rfl rfl ?_)
                      refine r_cons (s_move (.func (.func 8) #[] #[]) rfl rfl ?_)
                      refine r_cons (s_call [.slice p N c, .int .i64 ((((a + b) / 2) : Nat) : Int), .int .i64 (((((a + b) / 2) + m) - s : Nat) : Int), .int .i64 (b : Int), .func (.func 8) #[] #[]] pl_78 rfl rfl (ih p N c L ((a + b) / 2) ((((a + b) / 2) + m) - s) b (by omega) hN (by omega) (by omega) (by omega) hp379.p3 hp379.p4 H217) ?_)
                      rintro _ w387 ⟨rfl, K384, ⟨hf385, hf386⟩, H388⟩
                      refine r_nil ?_
                      refine g_end' [] Try.func78 Try.results78 trivial ?_
                      have H389 : St W w387 (DataA 25 p N c K384 :: F) := H388
                      exact ⟨rfl, K384, ⟨hg380.trans (hf385.mono (show a ≤ ((a + b) / 2) by omega) (Nat.le_refl b)), parted_hi hp379 hf385 hf386 hlo381⟩, H389⟩
                    · skip
                      refine s_lss false rfl rfl (dfalse hc383) rfl ?_
                      refine r_cons (s_pick_t (.bool false) rfl rfl rfl ?_)
                      refine r_nil ?_
                      refine g_false rfl ?_
                      refine g_skip ?_
                      refine g_end' [] Try.func78 Try.results78 trivial ?_
                      have H390 : St W w216 (DataA 25 p N c L :: F) := H217
                      exact ⟨rfl, L, ⟨hg380, parted_hi hp379 (Seg.refl ((a + b) / 2) b L) ((Nat.lt_or_ge ((a + b) / 2) (((a + b) / 2) + m - s)).elim (fun h9 => hp379.p3.sub (by omega) (by omega)) (fun h9 => hp379.p4.sub (by omega) (by omega))) hlo381⟩, H390⟩
                  · skip
                    refine r_cons (s_lss false rfl rfl (dfalse hc382) rfl ?_)
                    refine r_cons (s_move (.bool false) rfl rfl ?_)
                    refine r_cons (r_pass rfl rfl rfl rfl rfl ?_)
                    refine r_cons (r_pass rfl rfl rfl rfl rfl ?_)
                    refine r_cons (r_pass rfl rfl rfl rfl rfl ?_)
                    refine r_cons (s_pick_f (.bool false) rfl rfl rfl ?_)
                    refine r_nil ?_
                    refine g_false rfl ?_
                    refine g_skip ?_
                    refine g_end' [] Try.func78 Try.results78 trivial ?_
                    have H391 : St W w216 (DataA 25 p N c L :: F) := H217
                    exact ⟨rfl, L, ⟨hg380, parted_hi hp379 (Seg.refl ((a + b) / 2) b L) ((Nat.lt_or_ge ((a + b) / 2) (((a + b) / 2) + m - s)).elim (fun h9 => hp379.p3.sub (by omega) (by omega)) (fun h9 => hp379.p4.sub (by omega) (by omega))) hlo381⟩, H391⟩
              · skip
                refine r_cons (s_lss false rfl rfl (dfalse hc359) rfl ?_)
                refine r_cons (s_move (.bool false) rfl rfl ?_)
                refine r_cons (r_pass rfl rfl rfl rfl rfl ?_)
                refine r_cons (r_pass rfl rfl rfl rfl rfl ?_)
                refine r_cons (r_pass rfl rfl rfl rfl rfl ?_)
                refine r_cons (s_pick_f (.bool false) rfl rfl rfl ?_)
                refine r_nil ?_
                refine g_false rfl ?_
                refine g_skip ?_
                refine g_seq ?_
                refine g_region ?_
                have hp392 := hp357
                have hg393 := hg358
                have hlo394 : srt L a ((a + b) / 2) := (Nat.lt_or_ge a s).elim (fun h9 => hp357.p1.sub (by omega) (by omega)) (fun h9 => hp357.p2.sub (by omega) (by omega))
                have hlkhg393 := hg393.len
                refine r_cons (s_move (.int .i64 ((((a + b) / 2) : Nat) : Int)) rfl rfl ?_)
                refine r_cons (s_move (.int .i64 (((((a + b) / 2) + m) - s : Nat) : Int)) rfl rfl ?_)
                by_cases hc395 : ((((a + b) / 2) : Nat) : Int) < (((((a + b) / 2) + m) - s : Nat) : Int)
                · skip
                  refine r_cons (s_lss true rfl rfl (dtrue hc395) rfl ?_)
                  refine r_cons (s_move (.bool true) rfl rfl ?_)
                  refine r_cons (r_take rfl rfl ?_)
                  refine s_move (.int .i64 (((((a + b) / 2) + m) - s : Nat) : Int)) rfl rfl ?_
                  refine r_cons (r_take rfl rfl ?_)
                  refine s_move (.int .i64 (b : Int)) rfl rfl ?_
                  refine r_cons (r_take rfl rfl ?_)
                  by_cases hc396 : (((((a + b) / 2) + m) - s : Nat) : Int) < (b : Int)
                  · skip
                    refine s_lss true rfl rfl (dtrue hc396) rfl ?_
                    refine r_cons (s_pick_t (.bool true) rfl rfl rfl ?_)
                    refine r_nil ?_
                    refine g_true rfl ?_
                    refine g_region ?_
                    refine r_cons (s_move (.slice p N c) rfl rfl ?_)
                    refine r_cons (s_move (.int .i64 ((((a + b) / 2) : Nat) : Int)) rfl rfl ?_)
                    refine r_cons (s_move (.int .i64 (((((a + b) / 2) + m) - s : Nat) : Int)) rfl rfl ?_)
                    refine r_cons (s_move (.int .i64 (b : Int)) rfl rfl ?_)
                    refine r_cons (s_move (.func (.func 8) #[] #[]) rfl rfl ?_)
                    refine r_cons (s_call [.slice p N c, .int .i64 ((((a + b) / 2) : Nat) : Int), .int .i64 (((((a + b) / 2) + m) - s : Nat) : Int), .int .i64 (b : Int), .func (.func 8) #[] #[]] pl_78 rfl rfl (ih p N c L ((a + b) / 2) ((((a + b) / 2) + m) - s) b (by omega) hN (by omega) (by omega) (by omega) hp392.p3 hp392.p4 H217) ?_)
                    rintro _ w400 ⟨rfl, K397, ⟨hf398, hf399⟩, H401⟩
                    refine r_nil ?_
                    refine g_end' [] Try.func78 Try.results78 trivial ?_
                    have H402 : St W w400 (DataA 25 p N c K397 :: F) := H401
                    exact ⟨rfl, K397, ⟨hg393.trans (hf398.mono (show a ≤ ((a + b) / 2) by omega) (Nat.le_refl b)), parted_hi hp392 hf398 hf399 hlo394⟩, H402⟩
                  · skip
                    refine s_lss false rfl rfl (dfalse hc396) rfl ?_
                    refine r_cons (s_pick_t (.bool false) rfl rfl rfl ?_)
                    refine r_nil ?_
                    refine g_false rfl ?_
                    refine g_skip ?_
                    refine g_end' [] Try.func78 Try.results78 trivial ?_
                    have H403 : St W w216 (DataA 25 p N c L :: F) := H217
                    exact ⟨rfl, L, ⟨hg393, parted_hi hp392 (Seg.refl ((a + b) / 2) b L) ((Nat.lt_or_ge ((a + b) / 2) (((a + b) / 2) + m - s)).elim (fun h9 => hp392.p3.sub (by omega) (by omega)) (fun h9 => hp392.p4.sub (by omega) (by omega))) hlo394⟩, H403⟩
                · skip
                  refine r_cons (s_lss false rfl rfl (dfalse hc395) rfl ?_)
                  refine r_cons (s_move (.bool false) rfl rfl ?_)
                  refine r_cons (r_pass rfl rfl rfl rfl rfl ?_)
                  refine r_cons (r_pass rfl rfl rfl rfl rfl ?_)
                  refine r_cons (r_pass rfl rfl rfl rfl rfl ?_)
                  refine r_cons (s_pick_f (.bool false) rfl rfl rfl ?_)
                  refine r_nil ?_
                  refine g_false rfl ?_
                  refine g_skip ?_
                  refine g_end' [] Try.func78 Try.results78 trivial ?_
                  have H404 : St W w216 (DataA 25 p N c L :: F) := H217
                  exact ⟨rfl, L, ⟨hg393, parted_hi hp392 (Seg.refl ((a + b) / 2) b L) ((Nat.lt_or_ge ((a + b) / 2) (((a + b) / 2) + m - s)).elim (fun h9 => hp392.p3.sub (by omega) (by omega)) (fun h9 => hp392.p4.sub (by omega) (by omega))) hlo394⟩, H404⟩
      · skip
        refine r_cons (s_gtr false rfl rfl (dfalse hc213) rfl ?_)
        refine r_nil ?_
        refine g_false rfl ?_
        refine g_seq ?_
        refine g_region ?_
        refine r_cons (s_move (.int .i64 (a : Int)) rfl rfl ?_)
        refine r_cons (s_assign (.int .i64 (a : Int)) rfl rfl ?_)
        refine r_nil ?_
        refine g_region ?_
        refine r_cons (s_move (.int .i64 (m : Int)) rfl rfl ?_)
        refine r_cons (s_assign (.int .i64 (m : Int)) rfl rfl ?_)
        refine r_nil ?_
        refine g_seq ?_
        refine g_region ?_
        refine r_cons (s_move (.int .i64 ((((a + b) / 2) + m : Nat) : Int)) rfl rfl ?_)
        refine r_cons (s_sub (((((a + b) / 2) + m) - 1 : Nat) : Int) rfl rfl ((fun (z_ : Int) (hz_ : z_ = (((((a + b) / 2) + m) - 1 : Nat) : Int)) => (congrArg IntKind.i64.wrap hz_).trans (wi64 (by omega))) _ (by omega)) rfl ?_)
        refine r_cons (s_assign (.int .i64 (((((a + b) / 2) + m) - 1 : Nat) : Int)) rfl rfl ?_)
        refine r_nil ?_
        refine g_seq ?_
        refine g_block ?_
        have H405 : St W w (DataA 25 p N c L :: F) := H
        refine g_loop_inv (fun (x_ : Nat × Nat) => match x_ with | (s, r) => [(0, .slice p N c), (1, .int .i64 (a : Int)), (2, .int .i64 (m : Int)), (3, .int .i64 (b : Int)), (4, .func (.func 8) #[] #[]), (18, .int .i64 ((((a + b) / 2) : Nat) : Int)), (19, .int .i64 ((((a + b) / 2) + m : Nat) : Int)), (20, .int .i64 (s : Int)), (21, .int .i64 (r : Int)), (22, .int .i64 (((((a + b) / 2) + m) - 1 : Nat) : Int))]) (fun (x_ : Nat × Nat) w => match x_ with | (s, r) => (a ≤ s) ∧ (s ≤ r) ∧ (r ≤ m) ∧ (s = a ∨ leN (gd L (s - 1)) (gd L (((a + b) / 2) + m - s))) ∧ (r = m ∨ leN (gd L (((a + b) / 2) + m - 1 - r)) (gd L r)) ∧ St W w (DataA 25 p N c L :: F)) (fun (x_ : Nat × Nat) => match x_ with | (s, r) => r - s) (a, m) ?_ ?_ ?_
        · exact ⟨by first | rfl | exact vint (by omega), by first | rfl | exact vint (by omega), by first | rfl | exact vint (by omega), by first | rfl | exact vint (by omega), by first | rfl | exact vint (by omega), by first | rfl | exact vint (by omega), by first | rfl | exact vint (by omega), by first | rfl | exact vint (by omega), by first | rfl | exact vint (by omega), by first | rfl | exact vint (by omega), trivial⟩
        · exact ⟨(by omega), (by omega), (by omega), (.inl (by omega)), (.inl rfl), H405⟩
        · rintro ⟨s, r⟩ ρ406 w407 ⟨hs0, hsr, hr0, hA, hB, H408⟩ nx409
          change Ends _ _ (upds ρ406 [(0, .slice p N c), (1, .int .i64 (a : Int)), (2, .int .i64 (m : Int)), (3, .int .i64 (b : Int)), (4, .func (.func 8) #[] #[]), (18, .int .i64 ((((a + b) / 2) : Nat) : Int)), (19, .int .i64 ((((a + b) / 2) + m : Nat) : Int)), (20, .int .i64 (s : Int)), (21, .int .i64 (r : Int)), (22, .int .i64 (((((a + b) / 2) + m) - 1 : Nat) : Int))]) w407
          refine g_seq ?_
          refine g_seq ?_
          refine g_region ?_
          refine r_cons (s_move (.int .i64 (s : Int)) rfl rfl ?_)
          refine r_cons (s_move (.int .i64 (r : Int)) rfl rfl ?_)
          by_cases hc410 : (s : Int) < (r : Int)
          · skip
            refine r_cons (s_lss true rfl rfl (dtrue hc410) rfl ?_)
            refine r_nil ?_
            refine g_true rfl ?_
            refine g_skip ?_
            refine g_block ?_
            refine g_seq ?_
            refine g_region ?_
            refine r_cons (s_move (.int .i64 (s : Int)) rfl rfl ?_)
            refine r_cons (s_move (.int .i64 (r : Int)) rfl rfl ?_)
            refine r_cons (s_add ((s + r : Nat) : Int) rfl rfl ((fun (z_ : Int) (hz_ : z_ = ((s + r : Nat) : Int)) => (congrArg IntKind.i64.wrap hz_).trans (wi64 (by omega))) _ (by omega)) rfl ?_)
            refine r_cons (s_conv ((s + r : Nat) : Int) rfl us_3 ik_96 (wu64 (by omega)) rfl ?_)
            refine r_cons (s_shr ((((s + r) / 2) : Nat) : Int) rfl rfl (by omega) (shr_nat (k := 1) rfl (by decide)) rfl ?_)
            refine r_cons (s_conv ((((s + r) / 2) : Nat) : Int) rfl us_96 ik_3 (wi64 (by omega)) rfl ?_)
            refine r_cons (s_assign (.int .i64 ((((s + r) / 2) : Nat) : Int)) rfl rfl ?_)
            refine r_nil ?_
            refine g_seq ?_
            obtain ⟨hD411, H412⟩ := DataA.open H408
            have H413 : St W w407 (Row 25 5 (.slice p N c) N (L.flatMap nodeCell) :: NodesA L :: F) := H412
            obtain ⟨bk414, cur415, hp416, h417, h418, h419, h420, h421, H422⟩ := Row.open2 H413 (i := 0) rfl (by omega)
            have H423 := NodesA.at H422 (i := 1) rfl (j := (((a + b) / 2) + m - 1 - ((s + r) / 2))) (by omega)
            have H424 := NodesA.at H423 (i := 2) rfl (j := ((s + r) / 2)) (by omega)
            refine g_mix (fun t_ w => St W w (NodeA (L.getD ((s + r) / 2) default) :: NodeA (L.getD (((a + b) / 2) + m - 1 - ((s + r) / 2)) default) :: blk bk414 (.cells cur415 25 (0, 0)) :: NodesA L :: t_)) F mixed 14 rfl H424.drew ?_
            refine f_first 0 (listed' := #[true, false, false, false, false, false, false, false, false, false, false, false, false, false]) rfl (by kernel_rfl) (by kernel_rfl) (by kernel_rfl) rfl ?_
            refine f_val rfl rfl rfl (by intro t_ w hw; exact x_move (.func (.func 8) #[] #[]) rfl w) ?_
            refine f_first 1 (listed' := #[true, true, false, false, false, false, false, false, false, false, false, false, false, false]) rfl (by kernel_rfl) (by kernel_rfl) (by kernel_rfl) rfl ?_
            refine f_val rfl rfl rfl (by intro t_ w hw; exact x_move (.slice p N c) rfl w) ?_
            refine f_first 2 (listed' := #[true, true, true, false, false, false, false, false, false, false, false, false, false, false]) rfl (by kernel_rfl) (by kernel_rfl) (by kernel_rfl) rfl ?_
            refine f_val rfl rfl rfl (by intro t_ w hw; exact x_move (.int .i64 (((((a + b) / 2) + m) - 1 : Nat) : Int)) rfl w) ?_
            refine f_first 3 (listed' := #[true, true, true, true, false, false, false, false, false, false, false, false, false, false]) rfl (by kernel_rfl) (by kernel_rfl) (by kernel_rfl) rfl ?_
            refine f_val rfl rfl rfl (by intro t_ w hw; exact x_move (.int .i64 ((((s + r) / 2) : Nat) : Int)) rfl w) ?_
            refine f_first 4 (listed' := #[true, true, true, true, true, false, false, false, false, false, false, false, false, false]) rfl (by kernel_rfl) (by kernel_rfl) (by kernel_rfl) rfl ?_
            refine f_val rfl rfl rfl (by intro t_ w hw; exact x_sub (((((a + b) / 2) + m - 1) - ((s + r) / 2) : Nat) : Int) rfl rfl ((fun (z_ : Int) (hz_ : z_ = (((((a + b) / 2) + m - 1) - ((s + r) / 2) : Nat) : Int)) => (congrArg IntKind.i64.wrap hz_).trans (wi64 (by omega))) _ (by omega)) w) ?_
            refine f_first 5 (listed' := #[true, true, true, true, true, true, false, false, false, false, false, false, false, false]) rfl (by kernel_rfl) (by kernel_rfl) (by kernel_rfl) rfl ?_
            refine f_val rfl rfl rfl (by intro t_ w hw; exact x_indexAddr bk414 (off := 0) (((((a + b) / 2) + m - 1) - ((s + r) / 2) : Nat) : Int) 5 (0 + ((((a + b) / 2) + m - 1) - ((s + r) / 2)) * 5) (by exact congrArg (fun z_ => Value.slice z_ N c) ((fun (_ : 0 < 1) => hp416) (by omega))) rfl el_23 (by omega) rfl w) ?_
            refine f_first 6 (listed' := #[true, true, true, true, true, true, true, false, false, false, false, false, false, false]) rfl (by kernel_rfl) (by kernel_rfl) (by kernel_rfl) rfl ?_
            refine f_val rfl rfl rfl (by intro t_ w hw; exact x_loadAgg [.int .i64 ((L.getD ((((a + b) / 2) + m - 1) - ((s + r) / 2)) default).kind.v), .string ((L.getD ((((a + b) / 2) + m - 1) - ((s + r) / 2)) default).var.v), .string ((L.getD ((((a + b) / 2) + m - 1) - ((s + r) / 2)) default).typ.v), .slice ((L.getD ((((a + b) / 2) + m - 1) - ((s + r) / 2)) default).tp) ((L.getD ((((a + b) / 2) + m - 1) - ((s + r) / 2)) default).tests.length) ((L.getD ((((a + b) / 2) + m - 1) - ((s + r) / 2)) default).tc), .slice ((L.getD ((((a + b) / 2) + m - 1) - ((s + r) / 2)) default).kp) ((L.getD ((((a + b) / 2) + m - 1) - ((s + r) / 2)) default).kids.length) ((L.getD ((((a + b) / 2) + m - 1) - ((s + r) / 2)) default).kc)] 5 ag_25 rfl (hw.blk_at (i := 2) rfl) (by have := elem_size (i := (((a + b) / 2) + m - 1) - ((s + r) / 2)) (s := 5) (show 0 + L.length * 5 ≤ cur415.size by have := (show L.length * 5 ≤ cur415.size by rw [hD411, h419]; exact Nat.mul_le_mul_right 5 h417); omega) (by have hh : L.length = N := hD411; omega); omega) (elem_take nodeCell_len (by rw [hD411]; exact h420) (by have hh : L.length = N := hD411; omega) default)) ?_
            refine f_first 7 (listed' := #[true, true, true, true, true, true, true, true, false, false, false, false, false, false]) rfl (by kernel_rfl) (by kernel_rfl) (by kernel_rfl) rfl ?_
            refine f_val rfl rfl rfl (by intro t_ w hw; exact x_move (.slice p N c) rfl w) ?_
            refine f_first 8 (listed' := #[true, true, true, true, true, true, true, true, true, false, false, false, false, false]) rfl (by kernel_rfl) (by kernel_rfl) (by kernel_rfl) rfl ?_
            refine f_val rfl rfl rfl (by intro t_ w hw; exact x_move (.int .i64 ((((s + r) / 2) : Nat) : Int)) rfl w) ?_
            refine f_first 9 (listed' := #[true, true, true, true, true, true, true, true, true, true, false, false, false, false]) rfl (by kernel_rfl) (by kernel_rfl) (by kernel_rfl) rfl ?_
            refine f_val rfl rfl rfl (by intro t_ w hw; exact x_indexAddr bk414 (off := 0) ((((s + r) / 2) : Nat) : Int) 5 (0 + ((s + r) / 2) * 5) (by exact congrArg (fun z_ => Value.slice z_ N c) ((fun (_ : 0 < 1) => hp416) (by omega))) rfl el_23 (by omega) rfl w) ?_
            refine f_first 10 (listed' := #[true, true, true, true, true, true, true, true, true, true, true, false, false, false]) rfl (by kernel_rfl) (by kernel_rfl) (by kernel_rfl) rfl ?_
            refine f_val rfl rfl rfl (by intro t_ w hw; exact x_loadAgg [.int .i64 ((L.getD ((s + r) / 2) default).kind.v), .string ((L.getD ((s + r) / 2) default).var.v), .string ((L.getD ((s + r) / 2) default).typ.v), .slice ((L.getD ((s + r) / 2) default).tp) ((L.getD ((s + r) / 2) default).tests.length) ((L.getD ((s + r) / 2) default).tc), .slice ((L.getD ((s + r) / 2) default).kp) ((L.getD ((s + r) / 2) default).kids.length) ((L.getD ((s + r) / 2) default).kc)] 5 ag_25 rfl (hw.blk_at (i := 2) rfl) (by have := elem_size (i := ((s + r) / 2)) (s := 5) (show 0 + L.length * 5 ≤ cur415.size by have := (show L.length * 5 ≤ cur415.size by rw [hD411, h419]; exact Nat.mul_le_mul_right 5 h417); omega) (by have hh : L.length = N := hD411; omega); omega) (elem_take nodeCell_len (by rw [hD411]; exact h420) (by have hh : L.length = N := hD411; omega) default)) ?_
            refine f_all (rs := [11]) (by kernel_rfl) (by simp) ?_
            refine a_cons ⟨_, rfl, ?_⟩ (fun x hx => absurd hx (by simp))
            intro w425 H426
            try dsimp only at H426
            have H427 := NodesA.at H426 (i := 3) rfl (j := ((((a + b) / 2) + m - 1) - ((s + r) / 2))) (by omega)
            refine s_callv [] [.agg #[.int .i64 ((L.getD ((((a + b) / 2) + m - 1) - ((s + r) / 2)) default).kind.v), .string ((L.getD ((((a + b) / 2) + m - 1) - ((s + r) / 2)) default).var.v), .string ((L.getD ((((a + b) / 2) + m - 1) - ((s + r) / 2)) default).typ.v), .slice ((L.getD ((((a + b) / 2) + m - 1) - ((s + r) / 2)) default).tp) ((L.getD ((((a + b) / 2) + m - 1) - ((s + r) / 2)) default).tests.length) ((L.getD ((((a + b) / 2) + m - 1) - ((s + r) / 2)) default).tc), .slice ((L.getD ((((a + b) / 2) + m - 1) - ((s + r) / 2)) default).kp) ((L.getD ((((a + b) / 2) + m - 1) - ((s + r) / 2)) default).kids.length) ((L.getD ((((a + b) / 2) + m - 1) - ((s + r) / 2)) default).kc)], .agg #[.int .i64 ((L.getD ((s + r) / 2) default).kind.v), .string ((L.getD ((s + r) / 2) default).var.v), .string ((L.getD ((s + r) / 2) default).typ.v), .slice ((L.getD ((s + r) / 2) default).tp) ((L.getD ((s + r) / 2) default).tests.length) ((L.getD ((s + r) / 2) default).tc), .slice ((L.getD ((s + r) / 2) default).kp) ((L.getD ((s + r) / 2) default).kids.length) ((L.getD ((s + r) / 2) default).kc)]] rfl pl_8 rfl rfl (normal_Compare (L.getD ((((a + b) / 2) + m - 1) - ((s + r) / 2)) default) (L.getD ((s + r) / 2) default) (i := 0) rfl (i2 := 1) rfl H427) ?_
            rintro _ w428 ⟨rfl, H429⟩
            have H430 : St W w428 (NodeA (L.getD ((s + r) / 2) default) :: NodeA (L.getD (((a + b) / 2) + m - 1 - ((s + r) / 2)) default) :: blk bk414 (.cells cur415 25 (0, 0)) :: NodesA L :: NodeA (L.getD ((((a + b) / 2) + m - 1) - ((s + r) / 2)) default) :: F) := ((((H429.move 4 rfl).move 4 rfl).move 4 rfl).move 4 rfl)
            refine ⟨NodeA (L.getD ((((a + b) / 2) + m - 1) - ((s + r) / 2)) default) :: F, ?_, H430⟩
            change FReg _ _ _ _ _ #[true, true, true, true, true, true, true, true, true, true, true, true, false, false] _ _
            refine f_first 12 (listed' := #[true, true, true, true, true, true, true, true, true, true, true, true, true, false]) rfl (by kernel_rfl) (by kernel_rfl) (by kernel_rfl) rfl ?_
            by_cases hc431 : cmpN (L.getD ((((a + b) / 2) + m - 1) - ((s + r) / 2)) default) (L.getD ((s + r) / 2) default) < 0
            · skip
              refine f_val rfl rfl rfl (by intro t_ w hw; exact x_lss true rfl rfl (dtrue hc431) w) ?_
              refine f_first 13 (listed' := #[true, true, true, true, true, true, true, true, true, true, true, true, true, true]) rfl (by kernel_rfl) (by kernel_rfl) (by kernel_rfl) rfl ?_
              refine f_val rfl rfl rfl (by intro t_ w hw; exact x_not true rfl false rfl w) ?_
              refine f_done (by kernel_rfl) ?_
              intro w432 H433
              refine g_false rfl ?_
              refine g_region ?_
              refine r_cons (s_move (.int .i64 ((((s + r) / 2) : Nat) : Int)) rfl rfl ?_)
              refine r_cons (s_assign (.int .i64 ((((s + r) / 2) : Nat) : Int)) rfl rfl ?_)
              refine r_nil ?_
              refine g_inBlock ?_
              have H434 := Row.shut2 (p := p) (n := N) (c := c) (size := 5) (xs := L.flatMap nodeCell) H433 (i := 2) rfl hp416 h417 h418 h419 (by have hh : (cur415.toList.drop 0).take (L.length * 5) = L.flatMap nodeCell := (by rw [hD411]; exact h420); have hk : L.length = N := hD411; rw [hk] at hh; exact hh) (fun x_ hx_ => by obtain ⟨a_, _, ha_⟩ := List.mem_flatMap.1 hx_; exact one_node a_ x_ ha_)
              have H435 : St W w432 (Row 25 5 (.slice p N c) N (L.flatMap nodeCell) :: NodesA L :: NodeA (L.getD ((s + r) / 2) default) :: NodeA (L.getD (((a + b) / 2) + m - 1 - ((s + r) / 2)) default) :: NodeA (L.getD ((((a + b) / 2) + m - 1) - ((s + r) / 2)) default) :: F) := ((H434.move 3 rfl).move 3 rfl)
              have H436 : St W w432 (DataA 25 p N c L :: NodeA (L.getD ((s + r) / 2) default) :: NodeA (L.getD (((a + b) / 2) + m - 1 - ((s + r) / 2)) default) :: NodeA (L.getD ((((a + b) / 2) + m - 1) - ((s + r) / 2)) default) :: F) := DataA.make hD411 H435
              have H437 : St W w432 (DataA 25 p N c L :: F) := (((H436.drop 1 rfl).drop 1 rfl).drop 1 rfl)
              have H438 : St W w432 (DataA 25 p N c L :: F) := H437
              exact nx409 (s, ((s + r) / 2)) _ _ ⟨(by omega), (by omega), (by omega), hA, (.inr (leN_of_lt hc431)), H438⟩ (by first | (dsimp only; omega) | omega) ⟨by first | rfl | exact vint (by omega), by first | rfl | exact vint (by omega), by first | rfl | exact vint (by omega), by first | rfl | exact vint (by omega), by first | rfl | exact vint (by omega), by first | rfl | exact vint (by omega), by first | rfl | exact vint (by omega), by first | rfl | exact vint (by omega), by first | rfl | exact vint (by omega), by first | rfl | exact vint (by omega), trivial⟩
            · skip
              refine f_val rfl rfl rfl (by intro t_ w hw; exact x_lss false rfl rfl (dfalse hc431) w) ?_
              refine f_first 13 (listed' := #[true, true, true, true, true, true, true, true, true, true, true, true, true, true]) rfl (by kernel_rfl) (by kernel_rfl) (by kernel_rfl) rfl ?_
              refine f_val rfl rfl rfl (by intro t_ w hw; exact x_not false rfl true rfl w) ?_
              refine f_done (by kernel_rfl) ?_
              intro w439 H440
              refine g_true rfl ?_
              refine g_region ?_
              refine r_cons (s_move (.int .i64 ((((s + r) / 2) : Nat) : Int)) rfl rfl ?_)
              refine r_cons (s_add (((((s + r) / 2) : Nat) : Int) + 1) rfl rfl (wi64 (by omega)) rfl ?_)
              refine r_cons (s_assign (.int .i64 (((((s + r) / 2) : Nat) : Int) + 1)) rfl rfl ?_)
              refine r_nil ?_
              refine g_inBlock ?_
              have H441 := Row.shut2 (p := p) (n := N) (c := c) (size := 5) (xs := L.flatMap nodeCell) H440 (i := 2) rfl hp416 h417 h418 h419 (by have hh : (cur415.toList.drop 0).take (L.length * 5) = L.flatMap nodeCell := (by rw [hD411]; exact h420); have hk : L.length = N := hD411; rw [hk] at hh; exact hh) (fun x_ hx_ => by obtain ⟨a_, _, ha_⟩ := List.mem_flatMap.1 hx_; exact one_node a_ x_ ha_)
              have H442 : St W w439 (Row 25 5 (.slice p N c) N (L.flatMap nodeCell) :: NodesA L :: NodeA (L.getD ((s + r) / 2) default) :: NodeA (L.getD (((a + b) / 2) + m - 1 - ((s + r) / 2)) default) :: NodeA (L.getD ((((a + b) / 2) + m - 1) - ((s + r) / 2)) default) :: F) := ((H441.move 3 rfl).move 3 rfl)
              have H443 : St W w439 (DataA 25 p N c L :: NodeA (L.getD ((s + r) / 2) default) :: NodeA (L.getD (((a + b) / 2) + m - 1 - ((s + r) / 2)) default) :: NodeA (L.getD ((((a + b) / 2) + m - 1) - ((s + r) / 2)) default) :: F) := DataA.make hD411 H442
              have H444 : St W w439 (DataA 25 p N c L :: F) := (((H443.drop 1 rfl).drop 1 rfl).drop 1 rfl)
              have H445 : St W w439 (DataA 25 p N c L :: F) := H444
              exact nx409 (((s + r) / 2) + 1, r) _ _ ⟨(by omega), (by omega), (by omega), (.inr (by have h9 := leN_of_not hc431; rw [show ((s + r) / 2) + 1 - 1 = ((s + r) / 2) from by omega, show ((a + b) / 2) + m - (((s + r) / 2) + 1) = ((a + b) / 2) + m - 1 - ((s + r) / 2) from by omega]; exact h9)), hB, H445⟩ (by first | (dsimp only; omega) | omega) ⟨by first | rfl | exact vint (by omega), by first | rfl | exact vint (by omega), by first | rfl | exact vint (by omega), by first | rfl | exact vint (by omega), by first | rfl | exact vint (by omega), by first | rfl | exact vint (by omega), by first | rfl | exact vint (by omega), by first | rfl | exact vint (by omega), by first | rfl | exact vint (by omega), by first | rfl | exact vint (by omega), trivial⟩
          · skip
            refine r_cons (s_lss false rfl rfl (dfalse hc410) rfl ?_)
            refine r_nil ?_
            refine g_false rfl ?_
            refine g_exit (by rfl) ?_
            refine g_seq ?_
            refine g_region ?_
            refine r_cons (s_move (.int .i64 ((((a + b) / 2) + m : Nat) : Int)) rfl rfl ?_)
            refine r_cons (s_move (.int .i64 (s : Int)) rfl rfl ?_)
            refine r_cons (s_sub (((((a + b) / 2) + m) - s : Nat) : Int) rfl rfl ((fun (z_ : Int) (hz_ : z_ = (((((a + b) / 2) + m) - s : Nat) : Int)) => (congrArg IntKind.i64.wrap hz_).trans (wi64 (by omega))) _ (by omega)) rfl ?_)
            refine r_cons (s_assign (.int .i64 (((((a + b) / 2) + m) - s : Nat) : Int)) rfl rfl ?_)
            refine r_nil ?_
            refine g_seq ?_
            refine g_seq ?_
            refine g_region ?_
            have hsr9 : s = r := by omega
            have hcut : Cut L a m b s ((a + b) / 2) (((a + b) / 2) + m - s) := ⟨rfl, rfl, by omega, by omega, by omega, by omega, by omega, fun g1 g2 => hA.resolve_left (by omega), fun g1 g2 => by rw [show (((a + b) / 2) + m - s) - 1 = ((a + b) / 2) + m - 1 - s from by omega]; have h9 := hB.resolve_left (by omega); rw [← hsr9] at h9; exact h9⟩
            refine r_cons (s_move (.int .i64 (s : Int)) rfl rfl ?_)
            refine r_cons (s_move (.int .i64 (m : Int)) rfl rfl ?_)
            by_cases hc446 : (s : Int) < (m : Int)
            · skip
              refine r_cons (s_lss true rfl rfl (dtrue hc446) rfl ?_)
              refine r_cons (s_move (.bool true) rfl rfl ?_)
              refine r_cons (r_take rfl rfl ?_)
              refine s_move (.int .i64 (m : Int)) rfl rfl ?_
              refine r_cons (r_take rfl rfl ?_)
              refine s_move (.int .i64 (((((a + b) / 2) + m) - s : Nat) : Int)) rfl rfl ?_
              refine r_cons (r_take rfl rfl ?_)
              by_cases hc447 : (m : Int) < (((((a + b) / 2) + m) - s : Nat) : Int)
              · skip
                refine s_lss true rfl rfl (dtrue hc447) rfl ?_
                refine r_cons (s_pick_t (.bool true) rfl rfl rfl ?_)
                refine r_nil ?_
                refine g_true rfl ?_
                refine g_region ?_
                refine r_cons (s_move (.slice p N c) rfl rfl ?_)
                refine r_cons (s_move (.int .i64 (s : Int)) rfl rfl ?_)
                refine r_cons (s_move (.int .i64 (m : Int)) rfl rfl ?_)
                refine r_cons (s_move (.int .i64 (((((a + b) / 2) + m) - s : Nat) : Int)) rfl rfl ?_)
                refine r_cons (s_move (.func (.func 8) #[] #[]) rfl rfl ?_)
                refine r_cons (s_call [.slice p N c, .int .i64 (s : Int), .int .i64 (m : Int), .int .i64 (((((a + b) / 2) + m) - s : Nat) : Int), .func (.func 8) #[] #[]] pl_82 rfl rfl (rotate_ L s m ((((a + b) / 2) + m) - s) hN (by omega) (by omega) (by omega) H408) ?_)
                rintro _ w450 ⟨rfl, K448, hf449, H451⟩
                refine r_nil ?_
                refine g_seq ?_
                refine g_seq ?_
                refine g_region ?_
                have hp452 : Parted K448 a s ((a + b) / 2) (((a + b) / 2) + m - s) b := parted hcut hs1 hs2 (.inl ⟨by omega, by omega, hf449⟩)
                have hg453 : Seg a b L K448 := (Rot.seg hf449 (by omega) (by omega)).mono (by omega) (by omega)
                have hlkhg453 := hg453.len
                refine r_cons (s_move (.int .i64 (a : Int)) rfl rfl ?_)
                refine r_cons (s_move (.int .i64 (s : Int)) rfl rfl ?_)
                by_cases hc454 : (a : Int) < (s : Int)
                · skip
                  refine r_cons (s_lss true rfl rfl (dtrue hc454) rfl ?_)
                  refine r_cons (s_move (.bool true) rfl rfl ?_)
                  refine r_cons (r_take rfl rfl ?_)
                  refine s_move (.int .i64 (s : Int)) rfl rfl ?_
                  refine r_cons (r_take rfl rfl ?_)
                  refine s_move (.int .i64 ((((a + b) / 2) : Nat) : Int)) rfl rfl ?_
                  refine r_cons (r_take rfl rfl ?_)
                  by_cases hc455 : (s : Int) < ((((a + b) / 2) : Nat) : Int)
                  · skip
                    refine s_lss true rfl rfl (dtrue hc455) rfl ?_
                    refine r_cons (s_pick_t (.bool true) rfl rfl rfl ?_)
                    refine r_nil ?_
                    refine g_true rfl ?_
                    refine g_region ?_
                    refine r_cons (s_move (.slice p N c) rfl rfl ?_)
                    refine r_cons (s_move (.int .i64 (a : Int)) rfl rfl ?_)
                    refine r_cons (s_move (.int .i64 (s : Int)) rfl rfl ?_)
                    refine r_cons (s_move (.int .i64 ((((a + b) / 2) : Nat) : Int)) rfl rfl ?_)
                    refine r_cons (s_move (.func (.func 8) #[] #[]) rfl rfl ?_)
                    refine r_cons (s_call [.slice p N c, .int .i64 (a : Int), .int .i64 (s : Int), .int .i64 ((((a + b) / 2) : Nat) : Int), .func (.func 8) #[] #[]] pl_78 rfl rfl (ih p N c K448 a s ((a + b) / 2) (by omega) hN (by omega) (by omega) (by omega) hp452.p1 hp452.p2 H451) ?_)
                    rintro _ w459 ⟨rfl, K456, ⟨hf457, hf458⟩, H460⟩
                    refine r_nil ?_
                    refine g_seq ?_
                    refine g_region ?_
                    have hp461 := parted_lo hp452 hf457 hf458 (by omega) (by omega) (by omega) (by omega)
                    have hg462 := hg453.trans (hf457.mono (Nat.le_refl a) (show ((a + b) / 2) ≤ b by omega))
                    have hlo463 : srt K456 a ((a + b) / 2) := hf458
                    have hlkhg462 := hg462.len
                    refine r_cons (s_move (.int .i64 ((((a + b) / 2) : Nat) : Int)) rfl rfl ?_)
                    refine r_cons (s_move (.int .i64 (((((a + b) / 2) + m) - s : Nat) : Int)) rfl rfl ?_)
                    by_cases hc464 : ((((a + b) / 2) : Nat) : Int) < (((((a + b) / 2) + m) - s : Nat) : Int)
                    · skip
                      refine r_cons (s_lss true rfl rfl (dtrue hc464) rfl ?_)
                      refine r_cons (s_move (.bool true) rfl rfl ?_)
                      refine r_cons (r_take rfl rfl ?_)
                      refine s_move (.int .i64 (((((a + b) / 2) + m) - s : Nat) : Int)) rfl rfl ?_
                      refine r_cons (r_take rfl rfl ?_)
                      refine s_move (.int .i64 (b : Int)) rfl rfl ?_
                      refine r_cons (r_take rfl rfl ?_)
                      by_cases hc465 : (((((a + b) / 2) + m) - s : Nat) : Int) < (b : Int)
                      · skip
                        refine s_lss true rfl rfl (dtrue hc465) rfl ?_
                        refine r_cons (s_pick_t (.bool true) rfl rfl rfl ?_)
                        refine r_nil ?_
                        refine g_true rfl ?_
                        refine g_region ?_
                        refine r_cons (s_move (.slice p N c) rfl rfl ?_)
                        refine r_cons (s_move (.int .i64 ((((a + b) / 2) : Nat) : Int)) rfl rfl ?_)
                        refine r_cons (s_move (.int .i64 (((((a + b) / 2) + m) - s : Nat) : Int)) rfl rfl ?_)
                        refine r_cons (s_move (.int .i64 (b : Int)) rfl rfl ?_)
                        refine r_cons (s_move (.func (.func 8) #[] #[]) rfl rfl ?_)
                        refine r_cons (s_call [.slice p N c, .int .i64 ((((a + b) / 2) : Nat) : Int), .int .i64 (((((a + b) / 2) + m) - s : Nat) : Int), .int .i64 (b : Int), .func (.func 8) #[] #[]] pl_78 rfl rfl (ih p N c K456 ((a + b) / 2) ((((a + b) / 2) + m) - s) b (by omega) hN (by omega) (by omega) (by omega) hp461.p3 hp461.p4 H460) ?_)
                        rintro _ w469 ⟨rfl, K466, ⟨hf467, hf468⟩, H470⟩
                        refine r_nil ?_
                        refine g_end' [] Try.func78 Try.results78 trivial ?_
                        have H471 : St W w469 (DataA 25 p N c K466 :: F) := H470
                        exact ⟨rfl, K466, ⟨hg462.trans (hf467.mono (show a ≤ ((a + b) / 2) by omega) (Nat.le_refl b)), parted_hi hp461 hf467 hf468 hlo463⟩, H471⟩
                      · skip
                        refine s_lss false rfl rfl (dfalse hc465) rfl ?_
                        refine r_cons (s_pick_t (.bool false) rfl rfl rfl ?_)
                        refine r_nil ?_
                        refine g_false rfl ?_
                        refine g_skip ?_
                        refine g_end' [] Try.func78 Try.results78 trivial ?_
                        have H472 : St W w459 (DataA 25 p N c K456 :: F) := H460
                        exact ⟨rfl, K456, ⟨hg462, parted_hi hp461 (Seg.refl ((a + b) / 2) b K456) ((Nat.lt_or_ge ((a + b) / 2) (((a + b) / 2) + m - s)).elim (fun h9 => hp461.p3.sub (by omega) (by omega)) (fun h9 => hp461.p4.sub (by omega) (by omega))) hlo463⟩, H472⟩
                    · skip
                      refine r_cons (s_lss false rfl rfl (dfalse hc464) rfl ?_)
                      refine r_cons (s_move (.bool false) rfl rfl ?_)
                      refine r_cons (r_pass rfl rfl rfl rfl rfl ?_)
                      refine r_cons (r_pass rfl rfl rfl rfl rfl ?_)
                      refine r_cons (r_pass rfl rfl rfl rfl rfl ?_)
                      refine r_cons (s_pick_f (.bool false) rfl rfl rfl ?_)
                      refine r_nil ?_
                      refine g_false rfl ?_
                      refine g_skip ?_
                      refine g_end' [] Try.func78 Try.results78 trivial ?_
                      have H473 : St W w459 (DataA 25 p N c K456 :: F) := H460
                      exact ⟨rfl, K456, ⟨hg462, parted_hi hp461 (Seg.refl ((a + b) / 2) b K456) ((Nat.lt_or_ge ((a + b) / 2) (((a + b) / 2) + m - s)).elim (fun h9 => hp461.p3.sub (by omega) (by omega)) (fun h9 => hp461.p4.sub (by omega) (by omega))) hlo463⟩, H473⟩
                  · skip
                    refine s_lss false rfl rfl (dfalse hc455) rfl ?_
                    refine r_cons (s_pick_t (.bool false) rfl rfl rfl ?_)
                    refine r_nil ?_
                    refine g_false rfl ?_
                    refine g_skip ?_
                    refine g_seq ?_
                    refine g_region ?_
                    have hp474 := hp452
                    have hg475 := hg453
                    have hlo476 : srt K448 a ((a + b) / 2) := (Nat.lt_or_ge a s).elim (fun h9 => hp452.p1.sub (by omega) (by omega)) (fun h9 => hp452.p2.sub (by omega) (by omega))
                    have hlkhg475 := hg475.len
                    refine r_cons (s_move (.int .i64 ((((a + b) / 2) : Nat) : Int)) rfl rfl ?_)
                    refine r_cons (s_move (.int .i64 (((((a + b) / 2) + m) - s : Nat) : Int)) rfl rfl ?_)
                    by_cases hc477 : ((((a + b) / 2) : Nat) : Int) < (((((a + b) / 2) + m) - s : Nat) : Int)
                    · skip
                      refine r_cons (s_lss true rfl rfl (dtrue hc477) rfl ?_)
                      refine r_cons (s_move (.bool true) rfl rfl ?_)
                      refine r_cons (r_take rfl rfl ?_)
                      refine s_move (.int .i64 (((((a + b) / 2) + m) - s : Nat) : Int)) rfl rfl ?_
                      refine r_cons (r_take rfl rfl ?_)
                      refine s_move (.int .i64 (b : Int)) rfl rfl ?_
                      refine r_cons (r_take rfl rfl ?_)
                      by_cases hc478 : (((((a + b) / 2) + m) - s : Nat) : Int) < (b : Int)
                      · skip
                        refine s_lss true rfl rfl (dtrue hc478) rfl ?_
                        refine r_cons (s_pick_t (.bool true) rfl rfl rfl ?_)
                        refine r_nil ?_
                        refine g_true rfl ?_
                        refine g_region ?_
                        refine r_cons (s_move (.slice p N c) rfl rfl ?_)
                        refine r_cons (s_move (.int .i64 ((((a + b) / 2) : Nat) : Int)) rfl rfl ?_)
                        refine r_cons (s_move (.int .i64 (((((a + b) / 2) + m) - s : Nat) : Int)) rfl rfl ?_)
                        refine r_cons (s_move (.int .i64 (b : Int)) rfl rfl ?_)
                        refine r_cons (s_move (.func (.func 8) #[] #[]) rfl rfl ?_)
                        refine r_cons (s_call [.slice p N c, .int .i64 ((((a + b) / 2) : Nat) : Int), .int .i64 (((((a + b) / 2) + m) - s : Nat) : Int), .int .i64 (b : Int), .func (.func 8) #[] #[]] pl_78 rfl rfl (ih p N c K448 ((a + b) / 2) ((((a + b) / 2) + m) - s) b (by omega) hN (by omega) (by omega) (by omega) hp474.p3 hp474.p4 H451) ?_)
                        rintro _ w482 ⟨rfl, K479, ⟨hf480, hf481⟩, H483⟩
                        refine r_nil ?_
                        refine g_end' [] Try.func78 Try.results78 trivial ?_
                        have H484 : St W w482 (DataA 25 p N c K479 :: F) := H483
                        exact ⟨rfl, K479, ⟨hg475.trans (hf480.mono (show a ≤ ((a + b) / 2) by omega) (Nat.le_refl b)), parted_hi hp474 hf480 hf481 hlo476⟩, H484⟩
                      · skip
                        refine s_lss false rfl rfl (dfalse hc478) rfl ?_
                        refine r_cons (s_pick_t (.bool false) rfl rfl rfl ?_)
                        refine r_nil ?_
                        refine g_false rfl ?_
                        refine g_skip ?_
                        refine g_end' [] Try.func78 Try.results78 trivial ?_
                        have H485 : St W w450 (DataA 25 p N c K448 :: F) := H451
                        exact ⟨rfl, K448, ⟨hg475, parted_hi hp474 (Seg.refl ((a + b) / 2) b K448) ((Nat.lt_or_ge ((a + b) / 2) (((a + b) / 2) + m - s)).elim (fun h9 => hp474.p3.sub (by omega) (by omega)) (fun h9 => hp474.p4.sub (by omega) (by omega))) hlo476⟩, H485⟩
                    · skip
                      refine r_cons (s_lss false rfl rfl (dfalse hc477) rfl ?_)
                      refine r_cons (s_move (.bool false) rfl rfl ?_)
                      refine r_cons (r_pass rfl rfl rfl rfl rfl ?_)
                      refine r_cons (r_pass rfl rfl rfl rfl rfl ?_)
                      refine r_cons (r_pass rfl rfl rfl rfl rfl ?_)
                      refine r_cons (s_pick_f (.bool false) rfl rfl rfl ?_)
                      refine r_nil ?_
                      refine g_false rfl ?_
                      refine g_skip ?_
                      refine g_end' [] Try.func78 Try.results78 trivial ?_
                      have H486 : St W w450 (DataA 25 p N c K448 :: F) := H451
                      exact ⟨rfl, K448, ⟨hg475, parted_hi hp474 (Seg.refl ((a + b) / 2) b K448) ((Nat.lt_or_ge ((a + b) / 2) (((a + b) / 2) + m - s)).elim (fun h9 => hp474.p3.sub (by omega) (by omega)) (fun h9 => hp474.p4.sub (by omega) (by omega))) hlo476⟩, H486⟩
                · skip
                  refine r_cons (s_lss false rfl rfl (dfalse hc454) rfl ?_)
                  refine r_cons (s_move (.bool false) rfl rfl ?_)
                  refine r_cons (r_pass rfl rfl rfl rfl rfl ?_)
                  refine r_cons (r_pass rfl rfl rfl rfl rfl ?_)
                  refine r_cons (r_pass rfl rfl rfl rfl rfl ?_)
                  refine r_cons (s_pick_f (.bool false) rfl rfl rfl ?_)
                  refine r_nil ?_
                  refine g_false rfl ?_
                  refine g_skip ?_
                  refine g_seq ?_
                  refine g_region ?_
                  have hp487 := hp452
                  have hg488 := hg453
                  have hlo489 : srt K448 a ((a + b) / 2) := (Nat.lt_or_ge a s).elim (fun h9 => hp452.p1.sub (by omega) (by omega)) (fun h9 => hp452.p2.sub (by omega) (by omega))
                  have hlkhg488 := hg488.len
                  refine r_cons (s_move (.int .i64 ((((a + b) / 2) : Nat) : Int)) rfl rfl ?_)
                  refine r_cons (s_move (.int .i64 (((((a + b) / 2) + m) - s : Nat) : Int)) rfl rfl ?_)
                  by_cases hc490 : ((((a + b) / 2) : Nat) : Int) < (((((a + b) / 2) + m) - s : Nat) : Int)
                  · skip
                    refine r_cons (s_lss true rfl rfl (dtrue hc490) rfl ?_)
                    refine r_cons (s_move (.bool true) rfl rfl ?_)
                    refine r_cons (r_take rfl rfl ?_)
                    refine s_move (.int .i64 (((((a + b) / 2) + m) - s : Nat) : Int)) rfl rfl ?_
                    refine r_cons (r_take rfl rfl ?_)
                    refine s_move (.int .i64 (b : Int)) rfl rfl ?_
                    refine r_cons (r_take rfl rfl ?_)
                    by_cases hc491 : (((((a + b) / 2) + m) - s : Nat) : Int) < (b : Int)
                    · skip
                      refine s_lss true rfl rfl (dtrue hc491) rfl ?_
                      refine r_cons (s_pick_t (.bool true) rfl rfl rfl ?_)
                      refine r_nil ?_
                      refine g_true rfl ?_
                      refine g_region ?_
                      refine r_cons (s_move (.slice p N c) rfl rfl ?_)
                      refine r_cons (s_move (.int .i64 ((((a + b) / 2) : Nat) : Int)) rfl rfl ?_)
                      refine r_cons (s_move (.int .i64 (((((a + b) / 2) + m) - s : Nat) : Int)) rfl rfl ?_)
                      refine r_cons (s_move (.int .i64 (b : Int)) rfl rfl ?_)
                      refine r_cons (s_move (.func (.func 8) #[] #[]) rfl rfl ?_)
                      refine r_cons (s_call [.slice p N c, .int .i64 ((((a + b) / 2) : Nat) : Int), .int .i64 (((((a + b) / 2) + m) - s : Nat) : Int), .int .i64 (b : Int), .func (.func 8) #[] #[]] pl_78 rfl rfl (ih p N c K448 ((a + b) / 2) ((((a + b) / 2) + m) - s) b (by omega) hN (by omega) (by omega) (by omega) hp487.p3 hp487.p4 H451) ?_)
                      rintro _ w495 ⟨rfl, K492, ⟨hf493, hf494⟩, H496⟩
                      refine r_nil ?_
                      refine g_end' [] Try.func78 Try.results78 trivial ?_
                      have H497 : St W w495 (DataA 25 p N c K492 :: F) := H496
                      exact ⟨rfl, K492, ⟨hg488.trans (hf493.mono (show a ≤ ((a + b) / 2) by omega) (Nat.le_refl b)), parted_hi hp487 hf493 hf494 hlo489⟩, H497⟩
                    · skip
                      refine s_lss false rfl rfl (dfalse hc491) rfl ?_
                      refine r_cons (s_pick_t (.bool false) rfl rfl rfl ?_)
                      refine r_nil ?_
                      refine g_false rfl ?_
                      refine g_skip ?_
                      refine g_end' [] Try.func78 Try.results78 trivial ?_
                      have H498 : St W w450 (DataA 25 p N c K448 :: F) := H451
                      exact ⟨rfl, K448, ⟨hg488, parted_hi hp487 (Seg.refl ((a + b) / 2) b K448) ((Nat.lt_or_ge ((a + b) / 2) (((a + b) / 2) + m - s)).elim (fun h9 => hp487.p3.sub (by omega) (by omega)) (fun h9 => hp487.p4.sub (by omega) (by omega))) hlo489⟩, H498⟩
                  · skip
                    refine r_cons (s_lss false rfl rfl (dfalse hc490) rfl ?_)
                    refine r_cons (s_move (.bool false) rfl rfl ?_)
                    refine r_cons (r_pass rfl rfl rfl rfl rfl ?_)
                    refine r_cons (r_pass rfl rfl rfl rfl rfl ?_)
                    refine r_cons (r_pass rfl rfl rfl rfl rfl ?_)
                    refine r_cons (s_pick_f (.bool false) rfl rfl rfl ?_)
                    refine r_nil ?_
                    refine g_false rfl ?_
                    refine g_skip ?_
                    refine g_end' [] Try.func78 Try.results78 trivial ?_
                    have H499 : St W w450 (DataA 25 p N c K448 :: F) := H451
                    exact ⟨rfl, K448, ⟨hg488, parted_hi hp487 (Seg.refl ((a + b) / 2) b K448) ((Nat.lt_or_ge ((a + b) / 2) (((a + b) / 2) + m - s)).elim (fun h9 => hp487.p3.sub (by omega) (by omega)) (fun h9 => hp487.p4.sub (by omega) (by omega))) hlo489⟩, H499⟩
              · skip
                refine s_lss false rfl rfl (dfalse hc447) rfl ?_
                refine r_cons (s_pick_t (.bool false) rfl rfl rfl ?_)
                refine r_nil ?_
                refine g_false rfl ?_
                refine g_skip ?_
                refine g_seq ?_
                refine g_seq ?_
                refine g_region ?_
                have hp500 : Parted L a s ((a + b) / 2) (((a + b) / 2) + m - s) b := parted hcut hs1 hs2 (.inr ⟨by omega, rfl⟩)
                have hg501 : Seg a b L L := Seg.refl a b L
                have hlkhg501 := hg501.len
                refine r_cons (s_move (.int .i64 (a : Int)) rfl rfl ?_)
                refine r_cons (s_move (.int .i64 (s : Int)) rfl rfl ?_)
                by_cases hc502 : (a : Int) < (s : Int)
                · skip
                  refine r_cons (s_lss true rfl rfl (dtrue hc502) rfl ?_)
                  refine r_cons (s_move (.bool true) rfl rfl ?_)
                  refine r_cons (r_take rfl rfl ?_)
                  refine s_move (.int .i64 (s : Int)) rfl rfl ?_
                  refine r_cons (r_take rfl rfl ?_)
                  refine s_move (.int .i64 ((((a + b) / 2) : Nat) : Int)) rfl rfl ?_
                  refine r_cons (r_take rfl rfl ?_)
                  by_cases hc503 : (s : Int) < ((((a + b) / 2) : Nat) : Int)
                  · skip
                    refine s_lss true rfl rfl (dtrue hc503) rfl ?_
                    refine r_cons (s_pick_t (.bool true) rfl rfl rfl ?_)
                    refine r_nil ?_
                    refine g_true rfl ?_
                    refine g_region ?_
                    refine r_cons (s_move (.slice p N c) rfl rfl ?_)
                    refine r_cons (s_move (.int .i64 (a : Int)) rfl rfl ?_)
                    refine r_cons (s_move (.int .i64 (s : Int)) rfl rfl ?_)
                    refine r_cons (s_move (.int .i64 ((((a + b) / 2) : Nat) : Int)) rfl rfl ?_)
                    refine r_cons (s_move (.func (.func 8) #[] #[]) rfl rfl ?_)
                    refine r_cons (s_call [.slice p N c, .int .i64 (a : Int), .int .i64 (s : Int), .int .i64 ((((a + b) / 2) : Nat) : Int), .func (.func 8) #[] #[]] pl_78 rfl rfl (ih p N c L a s ((a + b) / 2) (by omega) hN (by omega) (by omega) (by omega) hp500.p1 hp500.p2 H408) ?_)
                    rintro _ w507 ⟨rfl, K504, ⟨hf505, hf506⟩, H508⟩
                    refine r_nil ?_
                    refine g_seq ?_
                    refine g_region ?_
                    have hp509 := parted_lo hp500 hf505 hf506 (by omega) (by omega) (by omega) (by omega)
                    have hg510 := hg501.trans (hf505.mono (Nat.le_refl a) (show ((a + b) / 2) ≤ b by omega))
                    have hlo511 : srt K504 a ((a + b) / 2) := hf506
                    have hlkhg510 := hg510.len
                    refine r_cons (s_move (.int .i64 ((((a + b) / 2) : Nat) : Int)) rfl rfl ?_)
                    refine r_cons (s_move (.int .i64 (((((a + b) / 2) + m) - s : Nat) : Int)) rfl rfl ?_)
                    by_cases hc512 : ((((a + b) / 2) : Nat) : Int) < (((((a + b) / 2) + m) - s : Nat) : Int)
                    · skip
                      refine r_cons (s_lss true rfl rfl (dtrue hc512) rfl ?_)
                      refine r_cons (s_move (.bool true) rfl rfl ?_)
                      refine r_cons (r_take rfl rfl ?_)
                      refine s_move (.int .i64 (((((a + b) / 2) + m) - s : Nat) : Int)) rfl rfl ?_
                      refine r_cons (r_take rfl rfl ?_)
                      refine s_move (.int .i64 (b : Int)) rfl rfl ?_
                      refine r_cons (r_take rfl rfl ?_)
                      by_cases hc513 : (((((a + b) / 2) + m) - s : Nat) : Int) < (b : Int)
                      · skip
                        refine s_lss true rfl rfl (dtrue hc513) rfl ?_
                        refine r_cons (s_pick_t (.bool true) rfl rfl rfl ?_)
                        refine r_nil ?_
                        refine g_true rfl ?_
                        refine g_region ?_
                        refine r_cons (s_move (.slice p N c) rfl rfl ?_)
                        refine r_cons (s_move (.int .i64 ((((a + b) / 2) : Nat) : Int)) rfl rfl ?_)
                        refine r_cons (s_move (.int .i64 (((((a + b) / 2) + m) - s : Nat) : Int)) rfl rfl ?_)
                        refine r_cons (s_move (.int .i64 (b : Int)) rfl rfl ?_)
                        refine r_cons (s_move (.func (.func 8) #[] #[]) rfl rfl ?_)
                        refine r_cons (s_call [.slice p N c, .int .i64 ((((a + b) / 2) : Nat) : Int), .int .i64 (((((a + b) / 2) + m) - s : Nat) : Int), .int .i64 (b : Int), .func (.func 8) #[] #[]] pl_78 rfl rfl (ih p N c K504 ((a + b) / 2) ((((a + b) / 2) + m) - s) b (by omega) hN (by omega) (by omega) (by omega) hp509.p3 hp509.p4 H508) ?_)
                        rintro _ w517 ⟨rfl, K514, ⟨hf515, hf516⟩, H518⟩
                        refine r_nil ?_
                        refine g_end' [] Try.func78 Try.results78 trivial ?_
                        have H519 : St W w517 (DataA 25 p N c K514 :: F) := H518
                        exact ⟨rfl, K514, ⟨hg510.trans (hf515.mono (show a ≤ ((a + b) / 2) by omega) (Nat.le_refl b)), parted_hi hp509 hf515 hf516 hlo511⟩, H519⟩
                      · skip
                        refine s_lss false rfl rfl (dfalse hc513) rfl ?_
                        refine r_cons (s_pick_t (.bool false) rfl rfl rfl ?_)
                        refine r_nil ?_
                        refine g_false rfl ?_
                        refine g_skip ?_
                        refine g_end' [] Try.func78 Try.results78 trivial ?_
                        have H520 : St W w507 (DataA 25 p N c K504 :: F) := H508
                        exact ⟨rfl, K504, ⟨hg510, parted_hi hp509 (Seg.refl ((a + b) / 2) b K504) ((Nat.lt_or_ge ((a + b) / 2) (((a + b) / 2) + m - s)).elim (fun h9 => hp509.p3.sub (by omega) (by omega)) (fun h9 => hp509.p4.sub (by omega) (by omega))) hlo511⟩, H520⟩
                    · skip
                      refine r_cons (s_lss false rfl rfl (dfalse hc512) rfl ?_)
                      refine r_cons (s_move (.bool false) rfl rfl ?_)
                      refine r_cons (r_pass rfl rfl rfl rfl rfl ?_)
                      refine r_cons (r_pass rfl rfl rfl rfl rfl ?_)
                      refine r_cons (r_pass rfl rfl rfl rfl rfl ?_)
                      refine r_cons (s_pick_f (.bool false) rfl rfl rfl ?_)
                      refine r_nil ?_
                      refine g_false rfl ?_
                      refine g_skip ?_
                      refine g_end' [] Try.func78 Try.results78 trivial ?_
                      have H521 : St W w507 (DataA 25 p N c K504 :: F) := H508
                      exact ⟨rfl, K504, ⟨hg510, parted_hi hp509 (Seg.refl ((a + b) / 2) b K504) ((Nat.lt_or_ge ((a + b) / 2) (((a + b) / 2) + m - s)).elim (fun h9 => hp509.p3.sub (by omega) (by omega)) (fun h9 => hp509.p4.sub (by omega) (by omega))) hlo511⟩, H521⟩
                  · skip
                    refine s_lss false rfl rfl (dfalse hc503) rfl ?_
                    refine r_cons (s_pick_t (.bool false) rfl rfl rfl ?_)
                    refine r_nil ?_
                    refine g_false rfl ?_
                    refine g_skip ?_
                    refine g_seq ?_
                    refine g_region ?_
                    have hp522 := hp500
                    have hg523 := hg501
                    have hlo524 : srt L a ((a + b) / 2) := (Nat.lt_or_ge a s).elim (fun h9 => hp500.p1.sub (by omega) (by omega)) (fun h9 => hp500.p2.sub (by omega) (by omega))
                    have hlkhg523 := hg523.len
                    refine r_cons (s_move (.int .i64 ((((a + b) / 2) : Nat) : Int)) rfl rfl ?_)
                    refine r_cons (s_move (.int .i64 (((((a + b) / 2) + m) - s : Nat) : Int)) rfl rfl ?_)
                    by_cases hc525 : ((((a + b) / 2) : Nat) : Int) < (((((a + b) / 2) + m) - s : Nat) : Int)
                    · skip
                      refine r_cons (s_lss true rfl rfl (dtrue hc525) rfl ?_)
                      refine r_cons (s_move (.bool true) rfl rfl ?_)
                      refine r_cons (r_take rfl rfl ?_)
                      refine s_move (.int .i64 (((((a + b) / 2) + m) - s : Nat) : Int)) rfl rfl ?_
                      refine r_cons (r_take rfl rfl ?_)
                      refine s_move (.int .i64 (b : Int)) rfl rfl ?_
                      refine r_cons (r_take rfl rfl ?_)
                      by_cases hc526 : (((((a + b) / 2) + m) - s : Nat) : Int) < (b : Int)
                      · skip
                        refine s_lss true rfl rfl (dtrue hc526) rfl ?_
                        refine r_cons (s_pick_t (.bool true) rfl rfl rfl ?_)
                        refine r_nil ?_
                        refine g_true rfl ?_
                        refine g_region ?_
                        refine r_cons (s_move (.slice p N c) rfl rfl ?_)
                        refine r_cons (s_move (.int .i64 ((((a + b) / 2) : Nat) : Int)) rfl rfl ?_)
                        refine r_cons (s_move (.int .i64 (((((a + b) / 2) + m) - s : Nat) : Int)) rfl rfl ?_)
                        refine r_cons (s_move (.int .i64 (b : Int)) rfl rfl ?_)
                        refine r_cons (s_move (.func (.func 8) #[] #[]) rfl rfl ?_)
                        refine r_cons (s_call [.slice p N c, .int .i64 ((((a + b) / 2) : Nat) : Int), .int .i64 (((((a + b) / 2) + m) - s : Nat) : Int), .int .i64 (b : Int), .func (.func 8) #[] #[]] pl_78 rfl rfl (ih p N c L ((a + b) / 2) ((((a + b) / 2) + m) - s) b (by omega) hN (by omega) (by omega) (by omega) hp522.p3 hp522.p4 H408) ?_)
                        rintro _ w530 ⟨rfl, K527, ⟨hf528, hf529⟩, H531⟩
                        refine r_nil ?_
                        refine g_end' [] Try.func78 Try.results78 trivial ?_
                        have H532 : St W w530 (DataA 25 p N c K527 :: F) := H531
                        exact ⟨rfl, K527, ⟨hg523.trans (hf528.mono (show a ≤ ((a + b) / 2) by omega) (Nat.le_refl b)), parted_hi hp522 hf528 hf529 hlo524⟩, H532⟩
                      · skip
                        refine s_lss false rfl rfl (dfalse hc526) rfl ?_
                        refine r_cons (s_pick_t (.bool false) rfl rfl rfl ?_)
                        refine r_nil ?_
                        refine g_false rfl ?_
                        refine g_skip ?_
                        refine g_end' [] Try.func78 Try.results78 trivial ?_
                        have H533 : St W w407 (DataA 25 p N c L :: F) := H408
                        exact ⟨rfl, L, ⟨hg523, parted_hi hp522 (Seg.refl ((a + b) / 2) b L) ((Nat.lt_or_ge ((a + b) / 2) (((a + b) / 2) + m - s)).elim (fun h9 => hp522.p3.sub (by omega) (by omega)) (fun h9 => hp522.p4.sub (by omega) (by omega))) hlo524⟩, H533⟩
                    · skip
                      refine r_cons (s_lss false rfl rfl (dfalse hc525) rfl ?_)
                      refine r_cons (s_move (.bool false) rfl rfl ?_)
                      refine r_cons (r_pass rfl rfl rfl rfl rfl ?_)
                      refine r_cons (r_pass rfl rfl rfl rfl rfl ?_)
                      refine r_cons (r_pass rfl rfl rfl rfl rfl ?_)
                      refine r_cons (s_pick_f (.bool false) rfl rfl rfl ?_)
                      refine r_nil ?_
                      refine g_false rfl ?_
                      refine g_skip ?_
                      refine g_end' [] Try.func78 Try.results78 trivial ?_
                      have H534 : St W w407 (DataA 25 p N c L :: F) := H408
                      exact ⟨rfl, L, ⟨hg523, parted_hi hp522 (Seg.refl ((a + b) / 2) b L) ((Nat.lt_or_ge ((a + b) / 2) (((a + b) / 2) + m - s)).elim (fun h9 => hp522.p3.sub (by omega) (by omega)) (fun h9 => hp522.p4.sub (by omega) (by omega))) hlo524⟩, H534⟩
                · skip
                  refine r_cons (s_lss false rfl rfl (dfalse hc502) rfl ?_)
                  refine r_cons (s_move (.bool false) rfl rfl ?_)
                  refine r_cons (r_pass rfl rfl rfl rfl rfl ?_)
                  refine r_cons (r_pass rfl rfl rfl rfl rfl ?_)
                  refine r_cons (r_pass rfl rfl rfl rfl rfl ?_)
                  refine r_cons (s_pick_f (.bool false) rfl rfl rfl ?_)
                  refine r_nil ?_
                  refine g_false rfl ?_
                  refine g_skip ?_
                  refine g_seq ?_
                  refine g_region ?_
                  have hp535 := hp500
                  have hg536 := hg501
                  have hlo537 : srt L a ((a + b) / 2) := (Nat.lt_or_ge a s).elim (fun h9 => hp500.p1.sub (by omega) (by omega)) (fun h9 => hp500.p2.sub (by omega) (by omega))
                  have hlkhg536 := hg536.len
                  refine r_cons (s_move (.int .i64 ((((a + b) / 2) : Nat) : Int)) rfl rfl ?_)
                  refine r_cons (s_move (.int .i64 (((((a + b) / 2) + m) - s : Nat) : Int)) rfl rfl ?_)
                  by_cases hc538 : ((((a + b) / 2) : Nat) : Int) < (((((a + b) / 2) + m) - s : Nat) : Int)
                  · skip
                    refine r_cons (s_lss true rfl rfl (dtrue hc538) rfl ?_)
                    refine r_cons (s_move (.bool true) rfl rfl ?_)
                    refine r_cons (r_take rfl rfl ?_)
                    refine s_move (.int .i64 (((((a + b) / 2) + m) - s : Nat) : Int)) rfl rfl ?_
                    refine r_cons (r_take rfl rfl ?_)
                    refine s_move (.int .i64 (b : Int)) rfl rfl ?_
                    refine r_cons (r_take rfl rfl ?_)
                    by_cases hc539 : (((((a + b) / 2) + m) - s : Nat) : Int) < (b : Int)
                    · skip
                      refine s_lss true rfl rfl (dtrue hc539) rfl ?_
                      refine r_cons (s_pick_t (.bool true) rfl rfl rfl ?_)
                      refine r_nil ?_
                      refine g_true rfl ?_
                      refine g_region ?_
                      refine r_cons (s_move (.slice p N c) rfl rfl ?_)
                      refine r_cons (s_move (.int .i64 ((((a + b) / 2) : Nat) : Int)) rfl rfl ?_)
                      refine r_cons (s_move (.int .i64 (((((a + b) / 2) + m) - s : Nat) : Int)) rfl rfl ?_)
                      refine r_cons (s_move (.int .i64 (b : Int)) rfl rfl ?_)
                      refine r_cons (s_move (.func (.func 8) #[] #[]) rfl rfl ?_)
                      refine r_cons (s_call [.slice p N c, .int .i64 ((((a + b) / 2) : Nat) : Int), .int .i64 (((((a + b) / 2) + m) - s : Nat) : Int), .int .i64 (b : Int), .func (.func 8) #[] #[]] pl_78 rfl rfl (ih p N c L ((a + b) / 2) ((((a + b) / 2) + m) - s) b (by omega) hN (by omega) (by omega) (by omega) hp535.p3 hp535.p4 H408) ?_)
                      rintro _ w543 ⟨rfl, K540, ⟨hf541, hf542⟩, H544⟩
                      refine r_nil ?_
                      refine g_end' [] Try.func78 Try.results78 trivial ?_
                      have H545 : St W w543 (DataA 25 p N c K540 :: F) := H544
                      exact ⟨rfl, K540, ⟨hg536.trans (hf541.mono (show a ≤ ((a + b) / 2) by omega) (Nat.le_refl b)), parted_hi hp535 hf541 hf542 hlo537⟩, H545⟩
                    · skip
                      refine s_lss false rfl rfl (dfalse hc539) rfl ?_
                      refine r_cons (s_pick_t (.bool false) rfl rfl rfl ?_)
                      refine r_nil ?_
                      refine g_false rfl ?_
                      refine g_skip ?_
                      refine g_end' [] Try.func78 Try.results78 trivial ?_
                      have H546 : St W w407 (DataA 25 p N c L :: F) := H408
                      exact ⟨rfl, L, ⟨hg536, parted_hi hp535 (Seg.refl ((a + b) / 2) b L) ((Nat.lt_or_ge ((a + b) / 2) (((a + b) / 2) + m - s)).elim (fun h9 => hp535.p3.sub (by omega) (by omega)) (fun h9 => hp535.p4.sub (by omega) (by omega))) hlo537⟩, H546⟩
                  · skip
                    refine r_cons (s_lss false rfl rfl (dfalse hc538) rfl ?_)
                    refine r_cons (s_move (.bool false) rfl rfl ?_)
                    refine r_cons (r_pass rfl rfl rfl rfl rfl ?_)
                    refine r_cons (r_pass rfl rfl rfl rfl rfl ?_)
                    refine r_cons (r_pass rfl rfl rfl rfl rfl ?_)
                    refine r_cons (s_pick_f (.bool false) rfl rfl rfl ?_)
                    refine r_nil ?_
                    refine g_false rfl ?_
                    refine g_skip ?_
                    refine g_end' [] Try.func78 Try.results78 trivial ?_
                    have H547 : St W w407 (DataA 25 p N c L :: F) := H408
                    exact ⟨rfl, L, ⟨hg536, parted_hi hp535 (Seg.refl ((a + b) / 2) b L) ((Nat.lt_or_ge ((a + b) / 2) (((a + b) / 2) + m - s)).elim (fun h9 => hp535.p3.sub (by omega) (by omega)) (fun h9 => hp535.p4.sub (by omega) (by omega))) hlo537⟩, H547⟩
            · skip
              refine r_cons (s_lss false rfl rfl (dfalse hc446) rfl ?_)
              refine r_cons (s_move (.bool false) rfl rfl ?_)
              refine r_cons (r_pass rfl rfl rfl rfl rfl ?_)
              refine r_cons (r_pass rfl rfl rfl rfl rfl ?_)
              refine r_cons (r_pass rfl rfl rfl rfl rfl ?_)
              refine r_cons (s_pick_f (.bool false) rfl rfl rfl ?_)
              refine r_nil ?_
              refine g_false rfl ?_
              refine g_skip ?_
              refine g_seq ?_
              refine g_seq ?_
              refine g_region ?_
              have hp548 : Parted L a s ((a + b) / 2) (((a + b) / 2) + m - s) b := parted hcut hs1 hs2 (.inr ⟨by omega, rfl⟩)
              have hg549 : Seg a b L L := Seg.refl a b L
              have hlkhg549 := hg549.len
              refine r_cons (s_move (.int .i64 (a : Int)) rfl rfl ?_)
              refine r_cons (s_move (.int .i64 (s : Int)) rfl rfl ?_)
              by_cases hc550 : (a : Int) < (s : Int)
              · skip
                refine r_cons (s_lss true rfl rfl (dtrue hc550) rfl ?_)
                refine r_cons (s_move (.bool true) rfl rfl ?_)
                refine r_cons (r_take rfl rfl ?_)
                refine s_move (.int .i64 (s : Int)) rfl rfl ?_
                refine r_cons (r_take rfl rfl ?_)
                refine s_move (.int .i64 ((((a + b) / 2) : Nat) : Int)) rfl rfl ?_
                refine r_cons (r_take rfl rfl ?_)
                by_cases hc551 : (s : Int) < ((((a + b) / 2) : Nat) : Int)
                · skip
                  refine s_lss true rfl rfl (dtrue hc551) rfl ?_
                  refine r_cons (s_pick_t (.bool true) rfl rfl rfl ?_)
                  refine r_nil ?_
                  refine g_true rfl ?_
                  refine g_region ?_
                  refine r_cons (s_move (.slice p N c) rfl rfl ?_)
                  refine r_cons (s_move (.int .i64 (a : Int)) rfl rfl ?_)
                  refine r_cons (s_move (.int .i64 (s : Int)) rfl rfl ?_)
                  refine r_cons (s_move (.int .i64 ((((a + b) / 2) : Nat) : Int)) rfl rfl ?_)
                  refine r_cons (s_move (.func (.func 8) #[] #[]) rfl rfl ?_)
                  refine r_cons (s_call [.slice p N c, .int .i64 (a : Int), .int .i64 (s : Int), .int .i64 ((((a + b) / 2) : Nat) : Int), .func (.func 8) #[] #[]] pl_78 rfl rfl (ih p N c L a s ((a + b) / 2) (by omega) hN (by omega) (by omega) (by omega) hp548.p1 hp548.p2 H408) ?_)
                  rintro _ w555 ⟨rfl, K552, ⟨hf553, hf554⟩, H556⟩
                  refine r_nil ?_
                  refine g_seq ?_
                  refine g_region ?_
                  have hp557 := parted_lo hp548 hf553 hf554 (by omega) (by omega) (by omega) (by omega)
                  have hg558 := hg549.trans (hf553.mono (Nat.le_refl a) (show ((a + b) / 2) ≤ b by omega))
                  have hlo559 : srt K552 a ((a + b) / 2) := hf554
                  have hlkhg558 := hg558.len
                  refine r_cons (s_move (.int .i64 ((((a + b) / 2) : Nat) : Int)) rfl rfl ?_)
                  refine r_cons (s_move (.int .i64 (((((a + b) / 2) + m) - s : Nat) : Int)) rfl rfl ?_)
                  by_cases hc560 : ((((a + b) / 2) : Nat) : Int) < (((((a + b) / 2) + m) - s : Nat) : Int)
                  · skip
                    refine r_cons (s_lss true rfl rfl (dtrue hc560) rfl ?_)
                    refine r_cons (s_move (.bool true) rfl rfl ?_)
                    refine r_cons (r_take rfl rfl ?_)
                    refine s_move (.int .i64 (((((a + b) / 2) + m) - s : Nat) : Int)) rfl rfl ?_
                    refine r_cons (r_take rfl rfl ?_)
                    refine s_move (.int .i64 (b : Int)) rfl rfl ?_
                    refine r_cons (r_take rfl rfl ?_)
                    by_cases hc561 : (((((a + b) / 2) + m) - s : Nat) : Int) < (b : Int)
                    · skip
                      refine s_lss true rfl rfl (dtrue hc561) rfl ?_
                      refine r_cons (s_pick_t (.bool true) rfl rfl rfl ?_)
                      refine r_nil ?_
                      refine g_true rfl ?_
                      refine g_region ?_
                      refine r_cons (s_move (.slice p N c) rfl rfl ?_)
                      refine r_cons (s_move (.int .i64 ((((a + b) / 2) : Nat) : Int)) rfl rfl ?_)
                      refine r_cons (s_move (.int .i64 (((((a + b) / 2) + m) - s : Nat) : Int)) rfl rfl ?_)
                      refine r_cons (s_move (.int .i64 (b : Int)) rfl rfl ?_)
                      refine r_cons (s_move (.func (.func 8) #[] #[]) rfl rfl ?_)
                      refine r_cons (s_call [.slice p N c, .int .i64 ((((a + b) / 2) : Nat) : Int), .int .i64 (((((a + b) / 2) + m) - s : Nat) : Int), .int .i64 (b : Int), .func (.func 8) #[] #[]] pl_78 rfl rfl (ih p N c K552 ((a + b) / 2) ((((a + b) / 2) + m) - s) b (by omega) hN (by omega) (by omega) (by omega) hp557.p3 hp557.p4 H556) ?_)
                      rintro _ w565 ⟨rfl, K562, ⟨hf563, hf564⟩, H566⟩
                      refine r_nil ?_
                      refine g_end' [] Try.func78 Try.results78 trivial ?_
                      have H567 : St W w565 (DataA 25 p N c K562 :: F) := H566
                      exact ⟨rfl, K562, ⟨hg558.trans (hf563.mono (show a ≤ ((a + b) / 2) by omega) (Nat.le_refl b)), parted_hi hp557 hf563 hf564 hlo559⟩, H567⟩
                    · skip
                      refine s_lss false rfl rfl (dfalse hc561) rfl ?_
                      refine r_cons (s_pick_t (.bool false) rfl rfl rfl ?_)
                      refine r_nil ?_
                      refine g_false rfl ?_
                      refine g_skip ?_
                      refine g_end' [] Try.func78 Try.results78 trivial ?_
                      have H568 : St W w555 (DataA 25 p N c K552 :: F) := H556
                      exact ⟨rfl, K552, ⟨hg558, parted_hi hp557 (Seg.refl ((a + b) / 2) b K552) ((Nat.lt_or_ge ((a + b) / 2) (((a + b) / 2) + m - s)).elim (fun h9 => hp557.p3.sub (by omega) (by omega)) (fun h9 => hp557.p4.sub (by omega) (by omega))) hlo559⟩, H568⟩
                  · skip
                    refine r_cons (s_lss false rfl rfl (dfalse hc560) rfl ?_)
                    refine r_cons (s_move (.bool false) rfl rfl ?_)
                    refine r_cons (r_pass rfl rfl rfl rfl rfl ?_)
                    refine r_cons (r_pass rfl rfl rfl rfl rfl ?_)
                    refine r_cons (r_pass rfl rfl rfl rfl rfl ?_)
                    refine r_cons (s_pick_f (.bool false) rfl rfl rfl ?_)
                    refine r_nil ?_
                    refine g_false rfl ?_
                    refine g_skip ?_
                    refine g_end' [] Try.func78 Try.results78 trivial ?_
                    have H569 : St W w555 (DataA 25 p N c K552 :: F) := H556
                    exact ⟨rfl, K552, ⟨hg558, parted_hi hp557 (Seg.refl ((a + b) / 2) b K552) ((Nat.lt_or_ge ((a + b) / 2) (((a + b) / 2) + m - s)).elim (fun h9 => hp557.p3.sub (by omega) (by omega)) (fun h9 => hp557.p4.sub (by omega) (by omega))) hlo559⟩, H569⟩
                · skip
                  refine s_lss false rfl rfl (dfalse hc551) rfl ?_
                  refine r_cons (s_pick_t (.bool false) rfl rfl rfl ?_)
                  refine r_nil ?_
                  refine g_false rfl ?_
                  refine g_skip ?_
                  refine g_seq ?_
                  refine g_region ?_
                  have hp570 := hp548
                  have hg571 := hg549
                  have hlo572 : srt L a ((a + b) / 2) := (Nat.lt_or_ge a s).elim (fun h9 => hp548.p1.sub (by omega) (by omega)) (fun h9 => hp548.p2.sub (by omega) (by omega))
                  have hlkhg571 := hg571.len
                  refine r_cons (s_move (.int .i64 ((((a + b) / 2) : Nat) : Int)) rfl rfl ?_)
                  refine r_cons (s_move (.int .i64 (((((a + b) / 2) + m) - s : Nat) : Int)) rfl rfl ?_)
                  by_cases hc573 : ((((a + b) / 2) : Nat) : Int) < (((((a + b) / 2) + m) - s : Nat) : Int)
                  · skip
                    refine r_cons (s_lss true rfl rfl (dtrue hc573) rfl ?_)
                    refine r_cons (s_move (.bool true) rfl rfl ?_)
                    refine r_cons (r_take rfl rfl ?_)
                    refine s_move (.int .i64 (((((a + b) / 2) + m) - s : Nat) : Int)) rfl rfl ?_
                    refine r_cons (r_take rfl rfl ?_)
                    refine s_move (.int .i64 (b : Int)) rfl rfl ?_
                    refine r_cons (r_take rfl rfl ?_)
                    by_cases hc574 : (((((a + b) / 2) + m) - s : Nat) : Int) < (b : Int)
                    · skip
                      refine s_lss true rfl rfl (dtrue hc574) rfl ?_
                      refine r_cons (s_pick_t (.bool true) rfl rfl rfl ?_)
                      refine r_nil ?_
                      refine g_true rfl ?_
                      refine g_region ?_
                      refine r_cons (s_move (.slice p N c) rfl rfl ?_)
                      refine r_cons (s_move (.int .i64 ((((a + b) / 2) : Nat) : Int)) rfl rfl ?_)
                      refine r_cons (s_move (.int .i64 (((((a + b) / 2) + m) - s : Nat) : Int)) rfl rfl ?_)
                      refine r_cons (s_move (.int .i64 (b : Int)) rfl rfl ?_)
                      refine r_cons (s_move (.func (.func 8) #[] #[]) rfl rfl ?_)
                      refine r_cons (s_call [.slice p N c, .int .i64 ((((a + b) / 2) : Nat) : Int), .int .i64 (((((a + b) / 2) + m) - s : Nat) : Int), .int .i64 (b : Int), .func (.func 8) #[] #[]] pl_78 rfl rfl (ih p N c L ((a + b) / 2) ((((a + b) / 2) + m) - s) b (by omega) hN (by omega) (by omega) (by omega) hp570.p3 hp570.p4 H408) ?_)
                      rintro _ w578 ⟨rfl, K575, ⟨hf576, hf577⟩, H579⟩
                      refine r_nil ?_
                      refine g_end' [] Try.func78 Try.results78 trivial ?_
                      have H580 : St W w578 (DataA 25 p N c K575 :: F) := H579
                      exact ⟨rfl, K575, ⟨hg571.trans (hf576.mono (show a ≤ ((a + b) / 2) by omega) (Nat.le_refl b)), parted_hi hp570 hf576 hf577 hlo572⟩, H580⟩
                    · skip
                      refine s_lss false rfl rfl (dfalse hc574) rfl ?_
                      refine r_cons (s_pick_t (.bool false) rfl rfl rfl ?_)
                      refine r_nil ?_
                      refine g_false rfl ?_
                      refine g_skip ?_
                      refine g_end' [] Try.func78 Try.results78 trivial ?_
                      have H581 : St W w407 (DataA 25 p N c L :: F) := H408
                      exact ⟨rfl, L, ⟨hg571, parted_hi hp570 (Seg.refl ((a + b) / 2) b L) ((Nat.lt_or_ge ((a + b) / 2) (((a + b) / 2) + m - s)).elim (fun h9 => hp570.p3.sub (by omega) (by omega)) (fun h9 => hp570.p4.sub (by omega) (by omega))) hlo572⟩, H581⟩
                  · skip
                    refine r_cons (s_lss false rfl rfl (dfalse hc573) rfl ?_)
                    refine r_cons (s_move (.bool false) rfl rfl ?_)
                    refine r_cons (r_pass rfl rfl rfl rfl rfl ?_)
                    refine r_cons (r_pass rfl rfl rfl rfl rfl ?_)
                    refine r_cons (r_pass rfl rfl rfl rfl rfl ?_)
                    refine r_cons (s_pick_f (.bool false) rfl rfl rfl ?_)
                    refine r_nil ?_
                    refine g_false rfl ?_
                    refine g_skip ?_
                    refine g_end' [] Try.func78 Try.results78 trivial ?_
                    have H582 : St W w407 (DataA 25 p N c L :: F) := H408
                    exact ⟨rfl, L, ⟨hg571, parted_hi hp570 (Seg.refl ((a + b) / 2) b L) ((Nat.lt_or_ge ((a + b) / 2) (((a + b) / 2) + m - s)).elim (fun h9 => hp570.p3.sub (by omega) (by omega)) (fun h9 => hp570.p4.sub (by omega) (by omega))) hlo572⟩, H582⟩
              · skip
                refine r_cons (s_lss false rfl rfl (dfalse hc550) rfl ?_)
                refine r_cons (s_move (.bool false) rfl rfl ?_)
                refine r_cons (r_pass rfl rfl rfl rfl rfl ?_)
                refine r_cons (r_pass rfl rfl rfl rfl rfl ?_)
                refine r_cons (r_pass rfl rfl rfl rfl rfl ?_)
                refine r_cons (s_pick_f (.bool false) rfl rfl rfl ?_)
                refine r_nil ?_
                refine g_false rfl ?_
                refine g_skip ?_
                refine g_seq ?_
                refine g_region ?_
                have hp583 := hp548
                have hg584 := hg549
                have hlo585 : srt L a ((a + b) / 2) := (Nat.lt_or_ge a s).elim (fun h9 => hp548.p1.sub (by omega) (by omega)) (fun h9 => hp548.p2.sub (by omega) (by omega))
                have hlkhg584 := hg584.len
                refine r_cons (s_move (.int .i64 ((((a + b) / 2) : Nat) : Int)) rfl rfl ?_)
                refine r_cons (s_move (.int .i64 (((((a + b) / 2) + m) - s : Nat) : Int)) rfl rfl ?_)
                by_cases hc586 : ((((a + b) / 2) : Nat) : Int) < (((((a + b) / 2) + m) - s : Nat) : Int)
                · skip
                  refine r_cons (s_lss true rfl rfl (dtrue hc586) rfl ?_)
                  refine r_cons (s_move (.bool true) rfl rfl ?_)
                  refine r_cons (r_take rfl rfl ?_)
                  refine s_move (.int .i64 (((((a + b) / 2) + m) - s : Nat) : Int)) rfl rfl ?_
                  refine r_cons (r_take rfl rfl ?_)
                  refine s_move (.int .i64 (b : Int)) rfl rfl ?_
                  refine r_cons (r_take rfl rfl ?_)
                  by_cases hc587 : (((((a + b) / 2) + m) - s : Nat) : Int) < (b : Int)
                  · skip
                    refine s_lss true rfl rfl (dtrue hc587) rfl ?_
                    refine r_cons (s_pick_t (.bool true) rfl rfl rfl ?_)
                    refine r_nil ?_
                    refine g_true rfl ?_
                    refine g_region ?_
                    refine r_cons (s_move (.slice p N c) rfl rfl ?_)
                    refine r_cons (s_move (.int .i64 ((((a + b) / 2) : Nat) : Int)) rfl rfl ?_)
                    refine r_cons (s_move (.int .i64 (((((a + b) / 2) + m) - s : Nat) : Int)) rfl rfl ?_)
                    refine r_cons (s_move (.int .i64 (b : Int)) rfl rfl ?_)
                    refine r_cons (s_move (.func (.func 8) #[] #[]) rfl rfl ?_)
                    refine r_cons (s_call [.slice p N c, .int .i64 ((((a + b) / 2) : Nat) : Int), .int .i64 (((((a + b) / 2) + m) - s : Nat) : Int), .int .i64 (b : Int), .func (.func 8) #[] #[]] pl_78 rfl rfl (ih p N c L ((a + b) / 2) ((((a + b) / 2) + m) - s) b (by omega) hN (by omega) (by omega) (by omega) hp583.p3 hp583.p4 H408) ?_)
                    rintro _ w591 ⟨rfl, K588, ⟨hf589, hf590⟩, H592⟩
                    refine r_nil ?_
                    refine g_end' [] Try.func78 Try.results78 trivial ?_
                    have H593 : St W w591 (DataA 25 p N c K588 :: F) := H592
                    exact ⟨rfl, K588, ⟨hg584.trans (hf589.mono (show a ≤ ((a + b) / 2) by omega) (Nat.le_refl b)), parted_hi hp583 hf589 hf590 hlo585⟩, H593⟩
                  · skip
                    refine s_lss false rfl rfl (dfalse hc587) rfl ?_
                    refine r_cons (s_pick_t (.bool false) rfl rfl rfl ?_)
                    refine r_nil ?_
                    refine g_false rfl ?_
                    refine g_skip ?_
                    refine g_end' [] Try.func78 Try.results78 trivial ?_
                    have H594 : St W w407 (DataA 25 p N c L :: F) := H408
                    exact ⟨rfl, L, ⟨hg584, parted_hi hp583 (Seg.refl ((a + b) / 2) b L) ((Nat.lt_or_ge ((a + b) / 2) (((a + b) / 2) + m - s)).elim (fun h9 => hp583.p3.sub (by omega) (by omega)) (fun h9 => hp583.p4.sub (by omega) (by omega))) hlo585⟩, H594⟩
                · skip
                  refine r_cons (s_lss false rfl rfl (dfalse hc586) rfl ?_)
                  refine r_cons (s_move (.bool false) rfl rfl ?_)
                  refine r_cons (r_pass rfl rfl rfl rfl rfl ?_)
                  refine r_cons (r_pass rfl rfl rfl rfl rfl ?_)
                  refine r_cons (r_pass rfl rfl rfl rfl rfl ?_)
                  refine r_cons (s_pick_f (.bool false) rfl rfl rfl ?_)
                  refine r_nil ?_
                  refine g_false rfl ?_
                  refine g_skip ?_
                  refine g_end' [] Try.func78 Try.results78 trivial ?_
                  have H595 : St W w407 (DataA 25 p N c L :: F) := H408
                  exact ⟨rfl, L, ⟨hg584, parted_hi hp583 (Seg.refl ((a + b) / 2) b L) ((Nat.lt_or_ge ((a + b) / 2) (((a + b) / 2) + m - s)).elim (fun h9 => hp583.p3.sub (by omega) (by omega)) (fun h9 => hp583.p4.sub (by omega) (by omega))) hlo585⟩, H595⟩
theorem symMerge_ {W w : World} {F : List Atom} (p : Option Addr) (N c : Nat) (L : List NodeD) (a m b : Nat) (hN : N ≤ 140737488355328) (h1 : a < m) (h2 : m < b) (h3 : b ≤ N) (hs1 : srt L a m) (hs2 : srt L m b) (H : St W w (DataA 25 p N c L :: F)) : Calls Try.prog 78 #[.slice p N c, .int .i64 (a : Int), .int .i64 (m : Int), .int .i64 (b : Int), .func (.func 8) #[] #[]] w (Ret fun v w' => v = .tuple #[] ∧ ∃ K : List NodeD, (Seg a b L K ∧ srt K a b) ∧ St W w' (DataA 25 p N c K :: F)) := symMerge__r (b - a + 1) p N c L a m b (Nat.lt_succ_self _) hN h1 h2 h3 hs1 hs2 H
set_option maxHeartbeats 4000000 in
set_option maxRecDepth 100000 in
theorem stable_ {W w : World} {F : List Atom} {p : Option Addr} {N c : Nat} (L : List NodeD) (hN : N ≤ 140737488355328) (H : St W w (DataA 25 p N c L :: F)) : Calls Try.prog 67 #[.slice p N c, .int .i64 (N : Int), .func (.func 8) #[] #[]] w (Ret fun v w' => v = .tuple #[] ∧ ∃ K : List NodeD, (K.Perm L ∧ srt K 0 N) ∧ St W w' (DataA 25 p N c K :: F)) := by
  have hD := (DataA.open H).1
  refine calls_of_go (n := 63) Try.func67 rfl Try.ntmps67 rfl ?_
  refine g_seq ?_
  refine g_region ?_
  refine r_cons (s_assign (.int .i64 20) rfl rfl ?_)
  refine r_nil ?_
  refine g_seq ?_
  refine g_region ?_
  refine r_cons (s_move (.int .i64 20) rfl rfl ?_)
  refine r_cons (s_assign (.int .i64 0) rfl rfl ?_)
  refine r_cons (s_assign (.int .i64 20) rfl rfl ?_)
  refine r_nil ?_
  refine g_seq ?_
  refine g_block ?_
  have H1 : St W w (DataA 25 p N c L :: F) := H
  refine g_loop_inv (fun (x_ : (List NodeD) × Nat × Nat) => match x_ with | (K, a, t) => [(0, .slice p N c), (1, .int .i64 (N : Int)), (2, .func (.func 8) #[] #[]), (6, .int .i64 20), (7, .int .i64 (a : Int)), (8, .int .i64 ((a + 20 : Nat) : Int))]) (fun (x_ : (List NodeD) × Nat × Nat) w => match x_ with | (K, a, t) => (a ≤ N) ∧ (a = t * 20) ∧ (Blks K 20 a) ∧ (K.Perm L) ∧ St W w (DataA 25 p N c K :: F)) (fun (x_ : (List NodeD) × Nat × Nat) => match x_ with | (K, a, t) => N - a) (L, 0, 0) ?_ ?_ ?_
  · exact ⟨by first | rfl | exact vint (by omega), by first | rfl | exact vint (by omega), by first | rfl | exact vint (by omega), by first | rfl | exact vint (by omega), by first | rfl | exact vint (by omega), by first | rfl | exact vint (by omega), trivial⟩
  · exact ⟨(by omega), (by omega), (Blks.zero' L 20), (List.Perm.refl _), H1⟩
  · rintro ⟨K, a, t⟩ ρ2 w3 ⟨han, ha, hbk, hpm, H4⟩ nx5
    change Ends _ _ (upds ρ2 [(0, .slice p N c), (1, .int .i64 (N : Int)), (2, .func (.func 8) #[] #[]), (6, .int .i64 20), (7, .int .i64 (a : Int)), (8, .int .i64 ((a + 20 : Nat) : Int))]) w3
    refine g_seq ?_
    refine g_seq ?_
    refine g_region ?_
    refine r_cons (s_move (.int .i64 ((a + 20 : Nat) : Int)) rfl rfl ?_)
    refine r_cons (s_move (.int .i64 (N : Int)) rfl rfl ?_)
    by_cases hc6 : ((a + 20 : Nat) : Int) ≤ (N : Int)
    · skip
      refine r_cons (s_leq true rfl rfl (dtrue hc6) rfl ?_)
      refine r_nil ?_
      refine g_true rfl ?_
      refine g_skip ?_
      refine g_block ?_
      refine g_seq ?_
      refine g_region ?_
      refine r_cons (s_move (.slice p N c) rfl rfl ?_)
      refine r_cons (s_move (.int .i64 (a : Int)) rfl rfl ?_)
      refine r_cons (s_move (.int .i64 ((a + 20 : Nat) : Int)) rfl rfl ?_)
      refine r_cons (s_move (.func (.func 8) #[] #[]) rfl rfl ?_)
      refine r_cons (s_call [.slice p N c, .int .i64 (a : Int), .int .i64 ((a + 20 : Nat) : Int), .func (.func 8) #[] #[]] pl_77 rfl rfl (insertion_ K a (a + 20) hN (by omega) (by omega) H4) ?_)
      rintro _ w9 ⟨rfl, K7, hf8, H10⟩
      refine r_nil ?_
      refine g_seq ?_
      refine g_region ?_
      refine r_cons (s_move (.int .i64 ((a + 20 : Nat) : Int)) rfl rfl ?_)
      refine r_cons (s_assign (.int .i64 ((a + 20 : Nat) : Int)) rfl rfl ?_)
      refine r_nil ?_
      refine g_region ?_
      refine r_cons (s_move (.int .i64 ((a + 20 : Nat) : Int)) rfl rfl ?_)
      refine r_cons (s_move (.int .i64 20) rfl rfl ?_)
      refine r_cons (s_add (((a + 20) + 20 : Nat) : Int) rfl rfl ((fun (z_ : Int) (hz_ : z_ = (((a + 20) + 20 : Nat) : Int)) => (congrArg IntKind.i64.wrap hz_).trans (wi64 (by omega))) _ (by omega)) rfl ?_)
      refine r_cons (s_assign (.int .i64 (((a + 20) + 20 : Nat) : Int)) rfl rfl ?_)
      refine r_nil ?_
      refine g_inBlock ?_
      have H11 : St W w9 (DataA 25 p N c K7 :: F) := H10
      exact nx5 (K7, a + 20, t + 1) _ _ ⟨(by omega), (by omega), (Blks.next' ha hbk hf8.1 hf8.2 (by omega)), (hf8.1.perm.trans hpm), H11⟩ (by first | (dsimp only; omega) | omega) ⟨by first | rfl | exact vint (by omega), by first | rfl | exact vint (by omega), by first | rfl | exact vint (by omega), by first | rfl | exact vint (by omega), by first | rfl | exact vint (by omega), by first | rfl | exact vint (by omega), trivial⟩
    · skip
      refine r_cons (s_leq false rfl rfl (dfalse hc6) rfl ?_)
      refine r_nil ?_
      refine g_false rfl ?_
      refine g_exit (by rfl) ?_
      refine g_seq ?_
      refine g_region ?_
      refine r_cons (s_move (.slice p N c) rfl rfl ?_)
      refine r_cons (s_move (.int .i64 (a : Int)) rfl rfl ?_)
      refine r_cons (s_move (.int .i64 (N : Int)) rfl rfl ?_)
      refine r_cons (s_move (.func (.func 8) #[] #[]) rfl rfl ?_)
      refine r_cons (s_call [.slice p N c, .int .i64 (a : Int), .int .i64 (N : Int), .func (.func 8) #[] #[]] pl_77 rfl rfl (insertion_ K a N hN (by omega) (by omega) H4) ?_)
      rintro _ w14 ⟨rfl, K12, hf13, H15⟩
      refine r_nil ?_
      refine g_block ?_
      have hb16 : Blks K12 20 N := Blks.next' ha hbk hf13.1 hf13.2 (by omega)
      have hp17 : K12.Perm L := hf13.1.perm.trans hpm
      have H18 : St W w14 (DataA 25 p N c K12 :: F) := H15
      refine g_loop_inv (fun (x_ : (List NodeD) × Nat) => match x_ with | (K, bs) => [(0, .slice p N c), (1, .int .i64 (N : Int)), (2, .func (.func 8) #[] #[]), (6, .int .i64 (bs : Int))]) (fun (x_ : (List NodeD) × Nat) w => match x_ with | (K, bs) => (20 ≤ bs) ∧ (bs ≤ 2 * N + 40) ∧ (Blks K bs N) ∧ (K.Perm L) ∧ St W w (DataA 25 p N c K :: F)) (fun (x_ : (List NodeD) × Nat) => match x_ with | (K, bs) => N - bs) (K12, 20) ?_ ?_ ?_
      · exact ⟨by first | rfl | exact vint (by omega), by first | rfl | exact vint (by omega), by first | rfl | exact vint (by omega), by first | rfl | exact vint (by omega), trivial⟩
      · exact ⟨(by omega), (by omega), hb16, hp17, H18⟩
      · rintro ⟨K, bs⟩ ρ19 w20 ⟨hbs, hbs2, hbb, hpp, H21⟩ nx22
        change Ends _ _ (upds ρ19 [(0, .slice p N c), (1, .int .i64 (N : Int)), (2, .func (.func 8) #[] #[]), (6, .int .i64 (bs : Int))]) w20
        refine g_seq ?_
        refine g_seq ?_
        refine g_region ?_
        refine r_cons (s_move (.int .i64 (bs : Int)) rfl rfl ?_)
        refine r_cons (s_move (.int .i64 (N : Int)) rfl rfl ?_)
        by_cases hc23 : (bs : Int) < (N : Int)
        · skip
          refine r_cons (s_lss true rfl rfl (dtrue hc23) rfl ?_)
          refine r_nil ?_
          refine g_true rfl ?_
          refine g_skip ?_
          refine g_block ?_
          refine g_seq ?_
          refine g_region ?_
          refine r_cons (s_move (.int .i64 (bs : Int)) rfl rfl ?_)
          refine r_cons (s_mul ((2 * bs : Nat) : Int) rfl rfl ((fun (z_ : Int) (hz_ : z_ = ((2 * bs : Nat) : Int)) => (congrArg IntKind.i64.wrap hz_).trans (wi64 (by omega))) _ (by omega)) rfl ?_)
          refine r_cons (s_assign (.int .i64 0) rfl rfl ?_)
          refine r_cons (s_assign (.int .i64 ((2 * bs : Nat) : Int)) rfl rfl ?_)
          refine r_nil ?_
          refine g_seq ?_
          refine g_block ?_
          have H24 : St W w20 (DataA 25 p N c K :: F) := H21
          refine g_loop_inv (fun (x_ : (List NodeD) × Nat × Nat) => match x_ with | (M, e, u) => [(0, .slice p N c), (1, .int .i64 (N : Int)), (2, .func (.func 8) #[] #[]), (6, .int .i64 (bs : Int)), (7, .int .i64 (e : Int)), (8, .int .i64 ((e + 2 * bs : Nat) : Int))]) (fun (x_ : (List NodeD) × Nat × Nat) w => match x_ with | (M, e, u) => (e ≤ N) ∧ (e = u * (2 * bs)) ∧ (Blks M (2 * bs) e) ∧ (Later M bs e N) ∧ (M.Perm L) ∧ St W w (DataA 25 p N c M :: F)) (fun (x_ : (List NodeD) × Nat × Nat) => match x_ with | (M, e, u) => N - e) (K, 0, 0) ?_ ?_ ?_
          · exact ⟨by first | rfl | exact vint (by omega), by first | rfl | exact vint (by omega), by first | rfl | exact vint (by omega), by first | rfl | exact vint (by omega), by first | rfl | exact vint (by omega), by first | rfl | exact vint (by omega), trivial⟩
          · exact ⟨(by omega), (by omega), (Blks.zero' K (2 * bs)), (hbb.later 0), hpp, H24⟩
          · rintro ⟨M, e, u⟩ ρ25 w26 ⟨hen, he, hbl, hlt, hpl, H27⟩ nx28
            change Ends _ _ (upds ρ25 [(0, .slice p N c), (1, .int .i64 (N : Int)), (2, .func (.func 8) #[] #[]), (6, .int .i64 (bs : Int)), (7, .int .i64 (e : Int)), (8, .int .i64 ((e + 2 * bs : Nat) : Int))]) w26
            refine g_seq ?_
            refine g_seq ?_
            refine g_region ?_
            refine r_cons (s_move (.int .i64 ((e + 2 * bs : Nat) : Int)) rfl rfl ?_)
            refine r_cons (s_move (.int .i64 (N : Int)) rfl rfl ?_)
            by_cases hc29 : ((e + 2 * bs : Nat) : Int) ≤ (N : Int)
            · skip
              refine r_cons (s_leq true rfl rfl (dtrue hc29) rfl ?_)
              refine r_nil ?_
              refine g_true rfl ?_
              refine g_skip ?_
              refine g_block ?_
              refine g_seq ?_
              refine g_region ?_
              refine r_cons (s_move (.slice p N c) rfl rfl ?_)
              refine r_cons (s_move (.int .i64 (e : Int)) rfl rfl ?_)
              refine r_cons (s_move (.int .i64 (e : Int)) rfl rfl ?_)
              refine r_cons (s_move (.int .i64 (bs : Int)) rfl rfl ?_)
              refine r_cons (s_add ((e + bs : Nat) : Int) rfl rfl ((fun (z_ : Int) (hz_ : z_ = ((e + bs : Nat) : Int)) => (congrArg IntKind.i64.wrap hz_).trans (wi64 (by omega))) _ (by omega)) rfl ?_)
              refine r_cons (s_move (.int .i64 ((e + 2 * bs : Nat) : Int)) rfl rfl ?_)
              refine r_cons (s_move (.func (.func 8) #[] #[]) rfl rfl ?_)
              have htw := Later.two' he hlt
              refine r_cons (s_call [.slice p N c, .int .i64 (e : Int), .int .i64 ((e + bs : Nat) : Int), .int .i64 ((e + 2 * bs : Nat) : Int), .func (.func 8) #[] #[]] pl_78 rfl rfl (symMerge_ p N c M e (e + bs) (e + 2 * bs) hN (by omega) (by omega) (by omega) (htw.1.sub (Nat.le_refl _) (by omega)) (htw.2.sub (by omega) (by omega)) H27) ?_)
              rintro _ w33 ⟨rfl, K30, ⟨hf31, hf32⟩, H34⟩
              refine r_nil ?_
              refine g_seq ?_
              refine g_region ?_
              refine r_cons (s_move (.int .i64 ((e + 2 * bs : Nat) : Int)) rfl rfl ?_)
              refine r_cons (s_assign (.int .i64 ((e + 2 * bs : Nat) : Int)) rfl rfl ?_)
              refine r_nil ?_
              refine g_region ?_
              refine r_cons (s_move (.int .i64 ((e + 2 * bs : Nat) : Int)) rfl rfl ?_)
              refine r_cons (s_move (.int .i64 (bs : Int)) rfl rfl ?_)
              refine r_cons (s_mul ((2 * bs : Nat) : Int) rfl rfl ((fun (z_ : Int) (hz_ : z_ = ((2 * bs : Nat) : Int)) => (congrArg IntKind.i64.wrap hz_).trans (wi64 (by omega))) _ (by omega)) rfl ?_)
              refine r_cons (s_add (((e + 2 * bs) + 2 * bs : Nat) : Int) rfl rfl ((fun (z_ : Int) (hz_ : z_ = (((e + 2 * bs) + 2 * bs : Nat) : Int)) => (congrArg IntKind.i64.wrap hz_).trans (wi64 (by omega))) _ (by omega)) rfl ?_)
              refine r_cons (s_assign (.int .i64 (((e + 2 * bs) + 2 * bs : Nat) : Int)) rfl rfl ?_)
              refine r_nil ?_
              refine g_inBlock ?_
              have H35 : St W w33 (DataA 25 p N c K30 :: F) := H34
              exact nx28 (K30, e + 2 * bs, u + 1) _ _ ⟨(by omega), (mul_next he), (Blks.next' he hbl hf31 hf32 (by omega)), (Later.next' he hlt hf31 rfl), (hf31.perm.trans hpl), H35⟩ (by first | (dsimp only; omega) | omega) ⟨by first | rfl | exact vint (by omega), by first | rfl | exact vint (by omega), by first | rfl | exact vint (by omega), by first | rfl | exact vint (by omega), by first | rfl | exact vint (by omega), by first | rfl | exact vint (by omega), trivial⟩
            · skip
              refine r_cons (s_leq false rfl rfl (dfalse hc29) rfl ?_)
              refine r_nil ?_
              refine g_false rfl ?_
              refine g_exit (by rfl) ?_
              refine g_seq ?_
              refine g_seq ?_
              refine g_region ?_
              refine r_cons (s_move (.int .i64 (e : Int)) rfl rfl ?_)
              refine r_cons (s_move (.int .i64 (bs : Int)) rfl rfl ?_)
              refine r_cons (s_add ((e + bs : Nat) : Int) rfl rfl ((fun (z_ : Int) (hz_ : z_ = ((e + bs : Nat) : Int)) => (congrArg IntKind.i64.wrap hz_).trans (wi64 (by omega))) _ (by omega)) rfl ?_)
              refine r_cons (s_assign (.int .i64 ((e + bs : Nat) : Int)) rfl rfl ?_)
              refine r_nil ?_
              refine g_seq ?_
              refine g_region ?_
              refine r_cons (s_move (.int .i64 ((e + bs : Nat) : Int)) rfl rfl ?_)
              refine r_cons (s_move (.int .i64 (N : Int)) rfl rfl ?_)
              by_cases hc36 : ((e + bs : Nat) : Int) < (N : Int)
              · skip
                refine r_cons (s_lss true rfl rfl (dtrue hc36) rfl ?_)
                refine r_nil ?_
                refine g_true rfl ?_
                refine g_region ?_
                refine r_cons (s_move (.slice p N c) rfl rfl ?_)
                refine r_cons (s_move (.int .i64 (e : Int)) rfl rfl ?_)
                refine r_cons (s_move (.int .i64 ((e + bs : Nat) : Int)) rfl rfl ?_)
                refine r_cons (s_move (.int .i64 (N : Int)) rfl rfl ?_)
                refine r_cons (s_move (.func (.func 8) #[] #[]) rfl rfl ?_)
                have htw := Later.two' he hlt
                refine r_cons (s_call [.slice p N c, .int .i64 (e : Int), .int .i64 ((e + bs : Nat) : Int), .int .i64 (N : Int), .func (.func 8) #[] #[]] pl_78 rfl rfl (symMerge_ p N c M e (e + bs) N hN (by omega) (by omega) (by omega) (htw.1.sub (Nat.le_refl _) (by omega)) (htw.2.sub (by omega) (by omega)) H27) ?_)
                rintro _ w40 ⟨rfl, K37, ⟨hf38, hf39⟩, H41⟩
                refine r_nil ?_
                refine g_region ?_
                have hb42 : Blks K37 (2 * bs) N := Blks.next' he hbl hf38 hf39 (by omega)
                have hp43 : K37.Perm L := hf38.perm.trans hpl
                refine r_cons (s_move (.int .i64 (bs : Int)) rfl rfl ?_)
                refine r_cons (s_mul ((2 * bs : Nat) : Int) rfl rfl ((fun (z_ : Int) (hz_ : z_ = ((2 * bs : Nat) : Int)) => (congrArg IntKind.i64.wrap hz_).trans (wi64 (by omega))) _ (by omega)) rfl ?_)
                refine r_cons (s_assign (.int .i64 ((2 * bs : Nat) : Int)) rfl rfl ?_)
                refine r_nil ?_
                refine g_inBlock ?_
                have H44 : St W w40 (DataA 25 p N c K37 :: F) := H41
                exact nx22 (K37, 2 * bs) _ _ ⟨(by omega), (by omega), hb42, hp43, H44⟩ (by first | (dsimp only; omega) | omega) ⟨by first | rfl | exact vint (by omega), by first | rfl | exact vint (by omega), by first | rfl | exact vint (by omega), by first | rfl | exact vint (by omega), trivial⟩
              · skip
                refine r_cons (s_lss false rfl rfl (dfalse hc36) rfl ?_)
                refine r_nil ?_
                refine g_false rfl ?_
                refine g_skip ?_
                refine g_region ?_
                have hb45 : Blks M (2 * bs) N := Blks.next' he hbl (Seg.refl e N M) ((Later.two' he hlt).1.sub (Nat.le_refl _) (by omega)) (by omega)
                have hp46 : M.Perm L := hpl
                refine r_cons (s_move (.int .i64 (bs : Int)) rfl rfl ?_)
                refine r_cons (s_mul ((2 * bs : Nat) : Int) rfl rfl ((fun (z_ : Int) (hz_ : z_ = ((2 * bs : Nat) : Int)) => (congrArg IntKind.i64.wrap hz_).trans (wi64 (by omega))) _ (by omega)) rfl ?_)
                refine r_cons (s_assign (.int .i64 ((2 * bs : Nat) : Int)) rfl rfl ?_)
                refine r_nil ?_
                refine g_inBlock ?_
                have H47 : St W w26 (DataA 25 p N c M :: F) := H27
                exact nx22 (M, 2 * bs) _ _ ⟨(by omega), (by omega), hb45, hp46, H47⟩ (by first | (dsimp only; omega) | omega) ⟨by first | rfl | exact vint (by omega), by first | rfl | exact vint (by omega), by first | rfl | exact vint (by omega), by first | rfl | exact vint (by omega), trivial⟩
        · skip
          refine r_cons (s_lss false rfl rfl (dfalse hc23) rfl ?_)
          refine r_nil ?_
          refine g_false rfl ?_
          refine g_exit (by rfl) ?_
          refine g_end' [] Try.func67 Try.results67 trivial ?_
          have H48 : St W w20 (DataA 25 p N c K :: F) := H21
          exact ⟨rfl, K, ⟨hpp, blks_all hbb (by omega)⟩, H48⟩
set_option maxHeartbeats 4000000 in
set_option maxRecDepth 100000 in
theorem SortStable_ {W w : World} {F : List Atom} {p : Option Addr} {N c : Nat} (L : List NodeD) (hN : N ≤ 140737488355328) (H : St W w (DataA 25 p N c L :: F)) : Calls Try.prog 49 #[.slice p N c, .func (.func 8) #[] #[]] w (Ret fun v w' => v = .tuple #[] ∧ ∃ K : List NodeD, (K.Perm L ∧ srt K 0 N) ∧ St W w' (DataA 25 p N c K :: F)) := by
  have hD := (DataA.open H).1
  refine calls_of_go (n := 9) Try.func49 rfl Try.ntmps49 rfl ?_
  refine g_region ?_
  refine r_cons (s_move (.slice p N c) rfl rfl ?_)
  refine r_cons (s_move (.slice p N c) rfl rfl ?_)
  refine r_cons (s_len N rfl ⟨_, un_23⟩ rfl ?_)
  refine r_cons (s_move (.func (.func 8) #[] #[]) rfl rfl ?_)
  refine r_cons (s_call [.slice p N c, .int .i64 (N : Int), .func (.func 8) #[] #[]] pl_67 rfl rfl (stable_ L hN H) ?_)
  rintro _ w3 ⟨rfl, K1, hf2, H4⟩
  refine r_nil ?_
  refine g_end' [] Try.func49 Try.results49 trivial ?_
  have H5 : St W w3 (DataA 25 p N c K1 :: F) := H4
  exact ⟨rfl, K1, hf2, H5⟩
end Sl
