/- Walks of the program's functions. Printed by a program of this claim's author. No condition. -/
import Derived.Test.YtfflafpcpbeciaaSlCP
import Derived.Test.YtfflafpcpbeciaaSlQ
import Derived.Test.YtfflafpcpbeciaaProg
import Derived.Test.YtfflafpcpbeciaaWalkNormalOrder0
namespace Sl
open _root_.Go _root_.Go.RowKit _root_.Go.Proofs
set_option linter.all false
set_option maxHeartbeats 4000000 in
set_option maxRecDepth 100000 in
theorem swapRange_ {W w : World} {F : List Atom} {p : Option Addr} {N c : Nat} (L : List NodeD) (a b n : Nat) (hN : N ≤ 140737488355328) (hab : a + n ≤ b) (hbn : b + n ≤ N) (H : St W w (DataA 25 p N c L :: F)) : Calls Try.prog 83 #[.slice p N c, .int .i64 (a : Int), .int .i64 (b : Int), .int .i64 (n : Int), .func (.func 8) #[] #[]] w (Ret fun v w' => v = .tuple #[] ∧ ∃ K : List NodeD, SwR L K a b n ∧ St W w' (DataA 25 p N c K :: F)) := by
  have hD := (DataA.open H).1
  refine calls_of_go (n := 38) Try.func83 rfl Try.ntmps83 rfl ?_
  refine g_seq ?_
  refine g_region ?_
  refine r_cons (s_assign (.int .i64 0) rfl rfl ?_)
  refine r_nil ?_
  refine g_block ?_
  have H1 : St W w (DataA 25 p N c L :: F) := H
  refine g_loop_inv (fun (x_ : (List NodeD) × Nat) => match x_ with | (K, i) => [(0, .slice p N c), (1, .int .i64 (a : Int)), (2, .int .i64 (b : Int)), (3, .int .i64 (n : Int)), (10, .int .i64 (i : Int))]) (fun (x_ : (List NodeD) × Nat) w => match x_ with | (K, i) => (i ≤ n) ∧ (SwR L K a b i) ∧ St W w (DataA 25 p N c K :: F)) (fun (x_ : (List NodeD) × Nat) => match x_ with | (K, i) => n - i) (L, 0) ?_ ?_ ?_
  · exact ⟨by first | rfl | exact vint (by omega), by first | rfl | exact vint (by omega), by first | rfl | exact vint (by omega), by first | rfl | exact vint (by omega), by first | rfl | exact vint (by omega), trivial⟩
  · exact ⟨(by omega), (SwR.zero L a b), H1⟩
  · rintro ⟨K, i⟩ ρ2 w3 ⟨hi, hsw, H4⟩ nx5
    change Ends _ _ (upds ρ2 [(0, .slice p N c), (1, .int .i64 (a : Int)), (2, .int .i64 (b : Int)), (3, .int .i64 (n : Int)), (10, .int .i64 (i : Int))]) w3
    refine g_seq ?_
    refine g_seq ?_
    refine g_region ?_
    refine r_cons (s_move (.int .i64 (i : Int)) rfl rfl ?_)
    refine r_cons (s_move (.int .i64 (n : Int)) rfl rfl ?_)
    by_cases hc6 : (i : Int) < (n : Int)
    · skip
      refine r_cons (s_lss true rfl rfl (dtrue hc6) rfl ?_)
      refine r_nil ?_
      refine g_true rfl ?_
      refine g_skip ?_
      refine g_seq ?_
      refine g_block ?_
      have hlk := hsw.len
      obtain ⟨hD7, H8⟩ := DataA.open H4
      have H9 : St W w3 (Row 25 5 (.slice p N c) N (K.flatMap nodeCell) :: NodesA K :: F) := H8
      obtain ⟨bk10, cur11, hp12, h13, h14, h15, h16, h17, H18⟩ := Row.open2 H9 (i := 0) rfl (by omega)
      have H19 : St W w3 (NodesA K :: blk bk10 (.cells cur11 25 (0, 0)) :: F) := (H18.move 1 rfl)
      refine g_mix (fun t_ w => St W w (NodesA K :: t_)) (blk bk10 (.cells cur11 25 (0, 0)) :: F) mixed 24 rfl H19.drew ?_
      refine f_first 0 (listed' := #[true, false, false, false, false, false, false, false, false, false, false, false, false, false, false, false, false, false, false, false, false, false, false, false]) rfl (by kernel_rfl) (by kernel_rfl) (by kernel_rfl) rfl ?_
      refine f_val rfl rfl rfl (by intro t_ w hw; exact x_move (.slice p N c) rfl w) ?_
      refine f_first 1 (listed' := #[true, true, false, false, false, false, false, false, false, false, false, false, false, false, false, false, false, false, false, false, false, false, false, false]) rfl (by kernel_rfl) (by kernel_rfl) (by kernel_rfl) rfl ?_
      refine f_val rfl rfl rfl (by intro t_ w hw; exact x_move (.int .i64 (a : Int)) rfl w) ?_
      refine f_first 2 (listed' := #[true, true, true, false, false, false, false, false, false, false, false, false, false, false, false, false, false, false, false, false, false, false, false, false]) rfl (by kernel_rfl) (by kernel_rfl) (by kernel_rfl) rfl ?_
      refine f_val rfl rfl rfl (by intro t_ w hw; exact x_move (.int .i64 (i : Int)) rfl w) ?_
      refine f_first 3 (listed' := #[true, true, true, true, false, false, false, false, false, false, false, false, false, false, false, false, false, false, false, false, false, false, false, false]) rfl (by kernel_rfl) (by kernel_rfl) (by kernel_rfl) rfl ?_
      refine f_val rfl rfl rfl (by intro t_ w hw; exact x_add ((a : Int) + (i : Int)) rfl rfl (wi64 (by omega)) w) ?_
      refine f_first 4 (listed' := #[true, true, true, true, true, false, false, false, false, false, false, false, false, false, false, false, false, false, false, false, false, false, false, false]) rfl (by kernel_rfl) (by kernel_rfl) (by kernel_rfl) rfl ?_
      refine f_val rfl rfl rfl (by intro t_ w hw; exact x_move (.slice p N c) rfl w) ?_
      refine f_first 5 (listed' := #[true, true, true, true, true, true, false, false, false, false, false, false, false, false, false, false, false, false, false, false, false, false, false, false]) rfl (by kernel_rfl) (by kernel_rfl) (by kernel_rfl) rfl ?_
      refine f_val rfl rfl rfl (by intro t_ w hw; exact x_move (.int .i64 (b : Int)) rfl w) ?_
      refine f_first 6 (listed' := #[true, true, true, true, true, true, true, false, false, false, false, false, false, false, false, false, false, false, false, false, false, false, false, false]) rfl (by kernel_rfl) (by kernel_rfl) (by kernel_rfl) rfl ?_
      refine f_val rfl rfl rfl (by intro t_ w hw; exact x_move (.int .i64 (i : Int)) rfl w) ?_
      refine f_first 7 (listed' := #[true, true, true, true, true, true, true, true, false, false, false, false, false, false, false, false, false, false, false, false, false, false, false, false]) rfl (by kernel_rfl) (by kernel_rfl) (by kernel_rfl) rfl ?_
      refine f_val rfl rfl rfl (by intro t_ w hw; exact x_add ((b : Int) + (i : Int)) rfl rfl (wi64 (by omega)) w) ?_
      refine f_first 8 (listed' := #[true, true, true, true, true, true, true, true, true, false, false, false, false, false, false, false, false, false, false, false, false, false, false, false]) rfl (by kernel_rfl) (by kernel_rfl) (by kernel_rfl) rfl ?_
      refine f_val rfl rfl rfl (by intro t_ w hw; exact x_move (.slice p N c) rfl w) ?_
      refine f_first 9 (listed' := #[true, true, true, true, true, true, true, true, true, true, false, false, false, false, false, false, false, false, false, false, false, false, false, false]) rfl (by kernel_rfl) (by kernel_rfl) (by kernel_rfl) rfl ?_
      refine f_val rfl rfl rfl (by intro t_ w hw; exact x_move (.int .i64 (b : Int)) rfl w) ?_
      refine f_first 10 (listed' := #[true, true, true, true, true, true, true, true, true, true, true, false, false, false, false, false, false, false, false, false, false, false, false, false]) rfl (by kernel_rfl) (by kernel_rfl) (by kernel_rfl) rfl ?_
      refine f_val rfl rfl rfl (by intro t_ w hw; exact x_move (.int .i64 (i : Int)) rfl w) ?_
      refine f_first 11 (listed' := #[true, true, true, true, true, true, true, true, true, true, true, true, false, false, false, false, false, false, false, false, false, false, false, false]) rfl (by kernel_rfl) (by kernel_rfl) (by kernel_rfl) rfl ?_
      refine f_val rfl rfl rfl (by intro t_ w hw; exact x_add ((b : Int) + (i : Int)) rfl rfl (wi64 (by omega)) w) ?_
      refine f_first 12 (listed' := #[true, true, true, true, true, true, true, true, true, true, true, true, true, false, false, false, false, false, false, false, false, false, false, false]) rfl (by kernel_rfl) (by kernel_rfl) (by kernel_rfl) rfl ?_
      refine f_val rfl rfl rfl (by intro t_ w hw; exact x_indexAddr bk10 (off := 0) ((b : Int) + (i : Int)) 5 (0 + (b + i) * 5) (by exact congrArg (fun z_ => Value.slice z_ N c) ((fun (_ : 0 < 1) => hp12) (by omega))) rfl el_23 (by omega) (by rw [show ((b : Int) + (i : Int) : Int).toNat = b + i from by omega]) w) ?_
      refine f_first 14 (listed' := #[true, true, true, true, true, true, true, true, true, true, true, true, true, false, true, false, false, false, false, false, false, false, false, false]) rfl (by kernel_rfl) (by kernel_rfl) (by kernel_rfl) rfl ?_
      refine f_val rfl rfl rfl (by intro t_ w hw; exact x_move (.slice p N c) rfl w) ?_
      refine f_first 15 (listed' := #[true, true, true, true, true, true, true, true, true, true, true, true, true, false, true, true, false, false, false, false, false, false, false, false]) rfl (by kernel_rfl) (by kernel_rfl) (by kernel_rfl) rfl ?_
      refine f_val rfl rfl rfl (by intro t_ w hw; exact x_move (.int .i64 (a : Int)) rfl w) ?_
      refine f_first 16 (listed' := #[true, true, true, true, true, true, true, true, true, true, true, true, true, false, true, true, true, false, false, false, false, false, false, false]) rfl (by kernel_rfl) (by kernel_rfl) (by kernel_rfl) rfl ?_
      refine f_val rfl rfl rfl (by intro t_ w hw; exact x_move (.int .i64 (i : Int)) rfl w) ?_
      refine f_first 17 (listed' := #[true, true, true, true, true, true, true, true, true, true, true, true, true, false, true, true, true, true, false, false, false, false, false, false]) rfl (by kernel_rfl) (by kernel_rfl) (by kernel_rfl) rfl ?_
      refine f_val rfl rfl rfl (by intro t_ w hw; exact x_add ((a : Int) + (i : Int)) rfl rfl (wi64 (by omega)) w) ?_
      refine f_first 18 (listed' := #[true, true, true, true, true, true, true, true, true, true, true, true, true, false, true, true, true, true, true, false, false, false, false, false]) rfl (by kernel_rfl) (by kernel_rfl) (by kernel_rfl) rfl ?_
      refine f_val rfl rfl rfl (by intro t_ w hw; exact x_indexAddr bk10 (off := 0) ((a : Int) + (i : Int)) 5 (0 + (a + i) * 5) (by exact congrArg (fun z_ => Value.slice z_ N c) ((fun (_ : 0 < 1) => hp12) (by omega))) rfl el_23 (by omega) (by rw [show ((a : Int) + (i : Int) : Int).toNat = a + i from by omega]) w) ?_
      refine f_all (rs := [13, 19]) (by kernel_rfl) (by simp) ?_
      refine a_cons ⟨_, rfl, ?_⟩ (a_cons ⟨_, rfl, ?_⟩ (fun x hx => absurd hx (by simp)))
      · skip
        intro w20 H21
        try dsimp only at H21
        refine s_loadAgg [.int .i64 ((K.getD (b + i) default).kind.v), .string ((K.getD (b + i) default).var.v), .string ((K.getD (b + i) default).typ.v), .slice ((K.getD (b + i) default).tp) ((K.getD (b + i) default).tests.length) ((K.getD (b + i) default).tc), .slice ((K.getD (b + i) default).kp) ((K.getD (b + i) default).kids.length) ((K.getD (b + i) default).kc)] 5 ag_25 rfl (H21.blk_at (i := 1) rfl) (by have := elem_size (i := b + i) (s := 5) (show 0 + K.length * 5 ≤ cur11.size by have := (show K.length * 5 ≤ cur11.size by rw [hD7, h15]; exact Nat.mul_le_mul_right 5 h13); omega) (by have hh : K.length = N := hD7; omega); omega) (elem_take nodeCell_len (by rw [hD7]; exact h16) (by have hh : K.length = N := hD7; omega) default) rfl ?_
        refine ⟨blk bk10 (.cells cur11 25 (0, 0)) :: F, ?_, H21⟩
        change FReg _ _ _ _ _ #[true, true, true, true, true, true, true, true, true, true, true, true, true, true, true, true, true, true, true, false, false, false, false, false] _ _
        refine f_all (rs := [19]) (by kernel_rfl) (by simp) ?_
        refine a_cons ⟨_, rfl, ?_⟩ (fun x hx => absurd hx (by simp))
        intro w22 H23
        try dsimp only at H23
        refine s_loadAgg [.int .i64 ((K.getD (a + i) default).kind.v), .string ((K.getD (a + i) default).var.v), .string ((K.getD (a + i) default).typ.v), .slice ((K.getD (a + i) default).tp) ((K.getD (a + i) default).tests.length) ((K.getD (a + i) default).tc), .slice ((K.getD (a + i) default).kp) ((K.getD (a + i) default).kids.length) ((K.getD (a + i) default).kc)] 5 ag_25 rfl (H23.blk_at (i := 1) rfl) (by have := elem_size (i := a + i) (s := 5) (show 0 + K.length * 5 ≤ cur11.size by have := (show K.length * 5 ≤ cur11.size by rw [hD7, h15]; exact Nat.mul_le_mul_right 5 h13); omega) (by have hh : K.length = N := hD7; omega); omega) (elem_take nodeCell_len (by rw [hD7]; exact h16) (by have hh : K.length = N := hD7; omega) default) rfl ?_
        refine ⟨blk bk10 (.cells cur11 25 (0, 0)) :: F, ?_, H23⟩
        change FReg _ _ _ _ _ #[true, true, true, true, true, true, true, true, true, true, true, true, true, true, true, true, true, true, true, true, false, false, false, false] _ _
        refine f_first 20 (listed' := #[true, true, true, true, true, true, true, true, true, true, true, true, true, true, true, true, true, true, true, true, true, false, false, false]) rfl (by kernel_rfl) (by kernel_rfl) (by kernel_rfl) rfl ?_
        refine f_val rfl rfl rfl (by intro t_ w hw; exact x_indexAddr bk10 (off := 0) ((a : Int) + (i : Int)) 5 (0 + (a + i) * 5) (by exact congrArg (fun z_ => Value.slice z_ N c) ((fun (_ : 0 < 1) => hp12) (by omega))) rfl el_23 (by omega) (by rw [show ((a : Int) + (i : Int) : Int).toNat = a + i from by omega]) w) ?_
        refine f_all (rs := [21]) (by kernel_rfl) (by simp) ?_
        refine a_cons ⟨_, rfl, ?_⟩ (fun x hx => absurd hx (by simp))
        intro w24 H25
        try dsimp only at H25
        have hx28 := row_setN (f := nodeCell) (L := K) (cur := cur11) nodeCell_len (by decide) (by rw [hD7]; exact h16) (show K.length * 5 ≤ cur11.size by rw [hD7, h15]; exact Nat.mul_le_mul_right 5 h13) (j := a + i) (by have hh := hD7; omega) (K.getD (b + i) default)
        refine s_storeAgg H25 1 #[.int .i64 ((K.getD (b + i) default).kind.v), .string ((K.getD (b + i) default).var.v), .string ((K.getD (b + i) default).typ.v), .slice ((K.getD (b + i) default).tp) ((K.getD (b + i) default).tests.length) ((K.getD (b + i) default).tc), .slice ((K.getD (b + i) default).kp) ((K.getD (b + i) default).kids.length) ((K.getD (b + i) default).kc)] 5 rfl rfl rfl sz_25 rfl (fun v_ hv_ => one_node (K.getD (b + i) default) v_ hv_) (by have hh := hD7; have hk := (show K.length * 5 ≤ cur11.size by rw [hD7, h15]; exact Nat.mul_le_mul_right 5 h13); omega) (fun o_ h1_ h2_ => by simp) (cs' := (writes cur11 (0 + (a + i) * 5) (nodeCell (K.getD (b + i) default)))) rfl ?_; intro w26 H27
        refine ⟨blk bk10 (.cells (writes cur11 (0 + (a + i) * 5) (nodeCell (K.getD (b + i) default))) 25 (0, 0)) :: F, ?_, H27⟩
        change FReg _ _ _ _ _ #[true, true, true, true, true, true, true, true, true, true, true, true, true, true, true, true, true, true, true, true, true, true, false, false] _ _
        refine f_first 22 (listed' := #[true, true, true, true, true, true, true, true, true, true, true, true, true, true, true, true, true, true, true, true, true, true, true, false]) rfl (by kernel_rfl) (by kernel_rfl) (by kernel_rfl) rfl ?_
        refine f_val rfl rfl rfl (by intro t_ w hw; exact x_indexAddr bk10 (off := 0) ((b : Int) + (i : Int)) 5 (0 + (b + i) * 5) (by exact congrArg (fun z_ => Value.slice z_ N c) ((fun (_ : 0 < 1) => hp12) (by omega))) rfl el_23 (by omega) (by rw [show ((b : Int) + (i : Int) : Int).toNat = b + i from by omega]) w) ?_
        refine f_all (rs := [23]) (by kernel_rfl) (by simp) ?_
        refine a_cons ⟨_, rfl, ?_⟩ (fun x hx => absurd hx (by simp))
        intro w29 H30
        try dsimp only at H30
        have hx33 := row_setN (f := nodeCell) (L := (K.set (a + i) (K.getD (b + i) default))) (cur := (writes cur11 (0 + (a + i) * 5) (nodeCell (K.getD (b + i) default)))) nodeCell_len (by decide) hx28 (show (K.set (a + i) (K.getD (b + i) default)).length * 5 ≤ (writes cur11 (0 + (a + i) * 5) (nodeCell (K.getD (b + i) default))).size by rw [(show ((K.set (a + i) (K.getD (b + i) default))).length = N from by first | (rw [List.length_set]; exact hD7) | rw [List.length_set]), (show (writes cur11 (0 + (a + i) * 5) (nodeCell (K.getD (b + i) default))).size = c * 5 from by rw [writes_size]; exact h15)]; exact Nat.mul_le_mul_right 5 h13) (j := b + i) (by have hh := (show ((K.set (a + i) (K.getD (b + i) default))).length = N from by first | (rw [List.length_set]; exact hD7) | rw [List.length_set]); omega) (K.getD (a + i) default)
        refine s_storeAgg H30 1 #[.int .i64 ((K.getD (a + i) default).kind.v), .string ((K.getD (a + i) default).var.v), .string ((K.getD (a + i) default).typ.v), .slice ((K.getD (a + i) default).tp) ((K.getD (a + i) default).tests.length) ((K.getD (a + i) default).tc), .slice ((K.getD (a + i) default).kp) ((K.getD (a + i) default).kids.length) ((K.getD (a + i) default).kc)] 5 rfl rfl rfl sz_25 rfl (fun v_ hv_ => one_node (K.getD (a + i) default) v_ hv_) (by have hh := (show ((K.set (a + i) (K.getD (b + i) default))).length = N from by first | (rw [List.length_set]; exact hD7) | rw [List.length_set]); have hk := (show (K.set (a + i) (K.getD (b + i) default)).length * 5 ≤ (writes cur11 (0 + (a + i) * 5) (nodeCell (K.getD (b + i) default))).size by rw [(show ((K.set (a + i) (K.getD (b + i) default))).length = N from by first | (rw [List.length_set]; exact hD7) | rw [List.length_set]), (show (writes cur11 (0 + (a + i) * 5) (nodeCell (K.getD (b + i) default))).size = c * 5 from by rw [writes_size]; exact h15)]; exact Nat.mul_le_mul_right 5 h13); omega) (fun o_ h1_ h2_ => by simp) (cs' := (writes (writes cur11 (0 + (a + i) * 5) (nodeCell (K.getD (b + i) default))) (0 + (b + i) * 5) (nodeCell (K.getD (a + i) default)))) rfl ?_; intro w31 H32
        refine ⟨blk bk10 (.cells (writes (writes cur11 (0 + (a + i) * 5) (nodeCell (K.getD (b + i) default))) (0 + (b + i) * 5) (nodeCell (K.getD (a + i) default))) 25 (0, 0)) :: F, ?_, H32⟩
        change FReg _ _ _ _ _ #[true, true, true, true, true, true, true, true, true, true, true, true, true, true, true, true, true, true, true, true, true, true, true, true] _ _
        refine f_done (by kernel_rfl) ?_
        intro w34 H35
        refine g_inBlock ?_
        refine g_region ?_
        refine r_cons (s_move (.int .i64 (i : Int)) rfl rfl ?_)
        refine r_cons (s_add ((i : Int) + 1) rfl rfl (wi64 (by omega)) rfl ?_)
        refine r_cons (s_assign (.int .i64 ((i : Int) + 1)) rfl rfl ?_)
        refine r_nil ?_
        have hL36 : ((K.set (a + i) (K.getD (b + i) default)).set (b + i) (K.getD (a + i) default)) = (swapL K (a + i) (b + i)) := by first | rfl | exact swapL_comm (by omega)
        have H37 := Row.shut2 (p := p) (n := N) (c := c) (size := 5) (xs := (swapL K (a + i) (b + i)).flatMap nodeCell) H35 (i := 1) rfl hp12 h13 h14 (show (writes (writes cur11 (0 + (a + i) * 5) (nodeCell (K.getD (b + i) default))) (0 + (b + i) * 5) (nodeCell (K.getD (a + i) default))).size = c * 5 from by rw [writes_size]; exact (show (writes cur11 (0 + (a + i) * 5) (nodeCell (K.getD (b + i) default))).size = c * 5 from by rw [writes_size]; exact h15)) (by have hh : ((writes (writes cur11 (0 + (a + i) * 5) (nodeCell (K.getD (b + i) default))) (0 + (b + i) * 5) (nodeCell (K.getD (a + i) default))).toList.drop 0).take (((K.set (a + i) (K.getD (b + i) default)).set (b + i) (K.getD (a + i) default)).length * 5) = ((K.set (a + i) (K.getD (b + i) default)).set (b + i) (K.getD (a + i) default)).flatMap nodeCell := hx33; have hk : ((K.set (a + i) (K.getD (b + i) default)).set (b + i) (K.getD (a + i) default)).length = N := (show (((K.set (a + i) (K.getD (b + i) default)).set (b + i) (K.getD (a + i) default))).length = N from by first | (rw [List.length_set]; exact (show ((K.set (a + i) (K.getD (b + i) default))).length = N from by first | (rw [List.length_set]; exact hD7) | rw [List.length_set])) | rw [List.length_set]); rw [hk] at hh; rw [hL36] at hh; exact hh) (fun x_ hx_ => by obtain ⟨a_, _, ha_⟩ := List.mem_flatMap.1 hx_; exact one_node a_ x_ ha_)
        have H38 : St W w34 (NodesA (swapL K (a + i) (b + i)) :: NodesA K :: Row 25 5 (.slice p N c) N ((swapL K (a + i) (b + i)).flatMap nodeCell) :: F) := NodesA.sub H37 (i := 0) rfl (swapL_mem (by omega) (by omega))
        have H39 : St W w34 (Row 25 5 (.slice p N c) N ((swapL K (a + i) (b + i)).flatMap nodeCell) :: NodesA (swapL K (a + i) (b + i)) :: NodesA K :: F) := (H38.move 2 rfl)
        have H40 : St W w34 (DataA 25 p N c (swapL K (a + i) (b + i)) :: NodesA K :: F) := DataA.make (by rw [swapL_len]; exact hD7) H39
        have H41 : St W w34 (DataA 25 p N c (swapL K (a + i) (b + i)) :: F) := (H40.drop 1 rfl)
        have H42 : St W w34 (DataA 25 p N c (swapL K (a + i) (b + i)) :: F) := H41
        exact nx5 ((swapL K (a + i) (b + i)), i + 1) _ _ ⟨(by omega), (hsw.step (by omega) hab (by omega)), H42⟩ (by first | (dsimp only; omega) | omega) ⟨by first | rfl | exact vint (by omega), by first | rfl | exact vint (by omega), by first | rfl | exact vint (by omega), by first | rfl | exact vint (by omega), by first | rfl | exact vint (by omega), trivial⟩
      · skip
        intro w43 H44
        try dsimp only at H44
        refine s_loadAgg [.int .i64 ((K.getD (a + i) default).kind.v), .string ((K.getD (a + i) default).var.v), .string ((K.getD (a + i) default).typ.v), .slice ((K.getD (a + i) default).tp) ((K.getD (a + i) default).tests.length) ((K.getD (a + i) default).tc), .slice ((K.getD (a + i) default).kp) ((K.getD (a + i) default).kids.length) ((K.getD (a + i) default).kc)] 5 ag_25 rfl (H44.blk_at (i := 1) rfl) (by have := elem_size (i := a + i) (s := 5) (show 0 + K.length * 5 ≤ cur11.size by have := (show K.length * 5 ≤ cur11.size by rw [hD7, h15]; exact Nat.mul_le_mul_right 5 h13); omega) (by have hh : K.length = N := hD7; omega); omega) (elem_take nodeCell_len (by rw [hD7]; exact h16) (by have hh : K.length = N := hD7; omega) default) rfl ?_
        refine ⟨blk bk10 (.cells cur11 25 (0, 0)) :: F, ?_, H44⟩
        change FReg _ _ _ _ _ #[true, true, true, true, true, true, true, true, true, true, true, true, true, false, true, true, true, true, true, true, false, false, false, false] _ _
        refine f_all (rs := [13]) (by kernel_rfl) (by simp) ?_
        refine a_cons ⟨_, rfl, ?_⟩ (fun x hx => absurd hx (by simp))
        intro w45 H46
        try dsimp only at H46
        refine s_loadAgg [.int .i64 ((K.getD (b + i) default).kind.v), .string ((K.getD (b + i) default).var.v), .string ((K.getD (b + i) default).typ.v), .slice ((K.getD (b + i) default).tp) ((K.getD (b + i) default).tests.length) ((K.getD (b + i) default).tc), .slice ((K.getD (b + i) default).kp) ((K.getD (b + i) default).kids.length) ((K.getD (b + i) default).kc)] 5 ag_25 rfl (H46.blk_at (i := 1) rfl) (by have := elem_size (i := b + i) (s := 5) (show 0 + K.length * 5 ≤ cur11.size by have := (show K.length * 5 ≤ cur11.size by rw [hD7, h15]; exact Nat.mul_le_mul_right 5 h13); omega) (by have hh : K.length = N := hD7; omega); omega) (elem_take nodeCell_len (by rw [hD7]; exact h16) (by have hh : K.length = N := hD7; omega) default) rfl ?_
        refine ⟨blk bk10 (.cells cur11 25 (0, 0)) :: F, ?_, H46⟩
        change FReg _ _ _ _ _ #[true, true, true, true, true, true, true, true, true, true, true, true, true, true, true, true, true, true, true, true, false, false, false, false] _ _
        refine f_first 20 (listed' := #[true, true, true, true, true, true, true, true, true, true, true, true, true, true, true, true, true, true, true, true, true, false, false, false]) rfl (by kernel_rfl) (by kernel_rfl) (by kernel_rfl) rfl ?_
        refine f_val rfl rfl rfl (by intro t_ w hw; exact x_indexAddr bk10 (off := 0) ((a : Int) + (i : Int)) 5 (0 + (a + i) * 5) (by exact congrArg (fun z_ => Value.slice z_ N c) ((fun (_ : 0 < 1) => hp12) (by omega))) rfl el_23 (by omega) (by rw [show ((a : Int) + (i : Int) : Int).toNat = a + i from by omega]) w) ?_
        refine f_all (rs := [21]) (by kernel_rfl) (by simp) ?_
        refine a_cons ⟨_, rfl, ?_⟩ (fun x hx => absurd hx (by simp))
        intro w47 H48
        try dsimp only at H48
        have hx51 := row_setN (f := nodeCell) (L := K) (cur := cur11) nodeCell_len (by decide) (by rw [hD7]; exact h16) (show K.length * 5 ≤ cur11.size by rw [hD7, h15]; exact Nat.mul_le_mul_right 5 h13) (j := a + i) (by have hh := hD7; omega) (K.getD (b + i) default)
        refine s_storeAgg H48 1 #[.int .i64 ((K.getD (b + i) default).kind.v), .string ((K.getD (b + i) default).var.v), .string ((K.getD (b + i) default).typ.v), .slice ((K.getD (b + i) default).tp) ((K.getD (b + i) default).tests.length) ((K.getD (b + i) default).tc), .slice ((K.getD (b + i) default).kp) ((K.getD (b + i) default).kids.length) ((K.getD (b + i) default).kc)] 5 rfl rfl rfl sz_25 rfl (fun v_ hv_ => one_node (K.getD (b + i) default) v_ hv_) (by have hh := hD7; have hk := (show K.length * 5 ≤ cur11.size by rw [hD7, h15]; exact Nat.mul_le_mul_right 5 h13); omega) (fun o_ h1_ h2_ => by simp) (cs' := (writes cur11 (0 + (a + i) * 5) (nodeCell (K.getD (b + i) default)))) rfl ?_; intro w49 H50
        refine ⟨blk bk10 (.cells (writes cur11 (0 + (a + i) * 5) (nodeCell (K.getD (b + i) default))) 25 (0, 0)) :: F, ?_, H50⟩
        change FReg _ _ _ _ _ #[true, true, true, true, true, true, true, true, true, true, true, true, true, true, true, true, true, true, true, true, true, true, false, false] _ _
        refine f_first 22 (listed' := #[true, true, true, true, true, true, true, true, true, true, true, true, true, true, true, true, true, true, true, true, true, true, true, false]) rfl (by kernel_rfl) (by kernel_rfl) (by kernel_rfl) rfl ?_
        refine f_val rfl rfl rfl (by intro t_ w hw; exact x_indexAddr bk10 (off := 0) ((b : Int) + (i : Int)) 5 (0 + (b + i) * 5) (by exact congrArg (fun z_ => Value.slice z_ N c) ((fun (_ : 0 < 1) => hp12) (by omega))) rfl el_23 (by omega) (by rw [show ((b : Int) + (i : Int) : Int).toNat = b + i from by omega]) w) ?_
        refine f_all (rs := [23]) (by kernel_rfl) (by simp) ?_
        refine a_cons ⟨_, rfl, ?_⟩ (fun x hx => absurd hx (by simp))
        intro w52 H53
        try dsimp only at H53
        have hx56 := row_setN (f := nodeCell) (L := (K.set (a + i) (K.getD (b + i) default))) (cur := (writes cur11 (0 + (a + i) * 5) (nodeCell (K.getD (b + i) default)))) nodeCell_len (by decide) hx51 (show (K.set (a + i) (K.getD (b + i) default)).length * 5 ≤ (writes cur11 (0 + (a + i) * 5) (nodeCell (K.getD (b + i) default))).size by rw [(show ((K.set (a + i) (K.getD (b + i) default))).length = N from by first | (rw [List.length_set]; exact hD7) | rw [List.length_set]), (show (writes cur11 (0 + (a + i) * 5) (nodeCell (K.getD (b + i) default))).size = c * 5 from by rw [writes_size]; exact h15)]; exact Nat.mul_le_mul_right 5 h13) (j := b + i) (by have hh := (show ((K.set (a + i) (K.getD (b + i) default))).length = N from by first | (rw [List.length_set]; exact hD7) | rw [List.length_set]); omega) (K.getD (a + i) default)
        refine s_storeAgg H53 1 #[.int .i64 ((K.getD (a + i) default).kind.v), .string ((K.getD (a + i) default).var.v), .string ((K.getD (a + i) default).typ.v), .slice ((K.getD (a + i) default).tp) ((K.getD (a + i) default).tests.length) ((K.getD (a + i) default).tc), .slice ((K.getD (a + i) default).kp) ((K.getD (a + i) default).kids.length) ((K.getD (a + i) default).kc)] 5 rfl rfl rfl sz_25 rfl (fun v_ hv_ => one_node (K.getD (a + i) default) v_ hv_) (by have hh := (show ((K.set (a + i) (K.getD (b + i) default))).length = N from by first | (rw [List.length_set]; exact hD7) | rw [List.length_set]); have hk := (show (K.set (a + i) (K.getD (b + i) default)).length * 5 ≤ (writes cur11 (0 + (a + i) * 5) (nodeCell (K.getD (b + i) default))).size by rw [(show ((K.set (a + i) (K.getD (b + i) default))).length = N from by first | (rw [List.length_set]; exact hD7) | rw [List.length_set]), (show (writes cur11 (0 + (a + i) * 5) (nodeCell (K.getD (b + i) default))).size = c * 5 from by rw [writes_size]; exact h15)]; exact Nat.mul_le_mul_right 5 h13); omega) (fun o_ h1_ h2_ => by simp) (cs' := (writes (writes cur11 (0 + (a + i) * 5) (nodeCell (K.getD (b + i) default))) (0 + (b + i) * 5) (nodeCell (K.getD (a + i) default)))) rfl ?_; intro w54 H55
        refine ⟨blk bk10 (.cells (writes (writes cur11 (0 + (a + i) * 5) (nodeCell (K.getD (b + i) default))) (0 + (b + i) * 5) (nodeCell (K.getD (a + i) default))) 25 (0, 0)) :: F, ?_, H55⟩
        change FReg _ _ _ _ _ #[true, true, true, true, true, true, true, true, true, true, true, true, true, true, true, true, true, true, true, true, true, true, true, true] _ _
        refine f_done (by kernel_rfl) ?_
        intro w57 H58
        refine g_inBlock ?_
        refine g_region ?_
        refine r_cons (s_move (.int .i64 (i : Int)) rfl rfl ?_)
        refine r_cons (s_add ((i : Int) + 1) rfl rfl (wi64 (by omega)) rfl ?_)
        refine r_cons (s_assign (.int .i64 ((i : Int) + 1)) rfl rfl ?_)
        refine r_nil ?_
        have hL59 : ((K.set (a + i) (K.getD (b + i) default)).set (b + i) (K.getD (a + i) default)) = (swapL K (a + i) (b + i)) := by first | rfl | exact swapL_comm (by omega)
        have H60 := Row.shut2 (p := p) (n := N) (c := c) (size := 5) (xs := (swapL K (a + i) (b + i)).flatMap nodeCell) H58 (i := 1) rfl hp12 h13 h14 (show (writes (writes cur11 (0 + (a + i) * 5) (nodeCell (K.getD (b + i) default))) (0 + (b + i) * 5) (nodeCell (K.getD (a + i) default))).size = c * 5 from by rw [writes_size]; exact (show (writes cur11 (0 + (a + i) * 5) (nodeCell (K.getD (b + i) default))).size = c * 5 from by rw [writes_size]; exact h15)) (by have hh : ((writes (writes cur11 (0 + (a + i) * 5) (nodeCell (K.getD (b + i) default))) (0 + (b + i) * 5) (nodeCell (K.getD (a + i) default))).toList.drop 0).take (((K.set (a + i) (K.getD (b + i) default)).set (b + i) (K.getD (a + i) default)).length * 5) = ((K.set (a + i) (K.getD (b + i) default)).set (b + i) (K.getD (a + i) default)).flatMap nodeCell := hx56; have hk : ((K.set (a + i) (K.getD (b + i) default)).set (b + i) (K.getD (a + i) default)).length = N := (show (((K.set (a + i) (K.getD (b + i) default)).set (b + i) (K.getD (a + i) default))).length = N from by first | (rw [List.length_set]; exact (show ((K.set (a + i) (K.getD (b + i) default))).length = N from by first | (rw [List.length_set]; exact hD7) | rw [List.length_set])) | rw [List.length_set]); rw [hk] at hh; rw [hL59] at hh; exact hh) (fun x_ hx_ => by obtain ⟨a_, _, ha_⟩ := List.mem_flatMap.1 hx_; exact one_node a_ x_ ha_)
        have H61 : St W w57 (NodesA (swapL K (a + i) (b + i)) :: NodesA K :: Row 25 5 (.slice p N c) N ((swapL K (a + i) (b + i)).flatMap nodeCell) :: F) := NodesA.sub H60 (i := 0) rfl (swapL_mem (by omega) (by omega))
        have H62 : St W w57 (Row 25 5 (.slice p N c) N ((swapL K (a + i) (b + i)).flatMap nodeCell) :: NodesA (swapL K (a + i) (b + i)) :: NodesA K :: F) := (H61.move 2 rfl)
        have H63 : St W w57 (DataA 25 p N c (swapL K (a + i) (b + i)) :: NodesA K :: F) := DataA.make (by rw [swapL_len]; exact hD7) H62
        have H64 : St W w57 (DataA 25 p N c (swapL K (a + i) (b + i)) :: F) := (H63.drop 1 rfl)
        have H65 : St W w57 (DataA 25 p N c (swapL K (a + i) (b + i)) :: F) := H64
        exact nx5 ((swapL K (a + i) (b + i)), i + 1) _ _ ⟨(by omega), (hsw.step (by omega) hab (by omega)), H65⟩ (by first | (dsimp only; omega) | omega) ⟨by first | rfl | exact vint (by omega), by first | rfl | exact vint (by omega), by first | rfl | exact vint (by omega), by first | rfl | exact vint (by omega), by first | rfl | exact vint (by omega), trivial⟩
    · skip
      refine r_cons (s_lss false rfl rfl (dfalse hc6) rfl ?_)
      refine r_nil ?_
      refine g_false rfl ?_
      refine g_exit (by rfl) ?_
      refine g_end' [] Try.func83 Try.results83 trivial ?_
      have H66 : St W w3 (DataA 25 p N c K :: F) := H4
      exact ⟨rfl, K, (by rw [show n = i from by omega]; exact hsw), H66⟩
set_option maxHeartbeats 4000000 in
set_option maxRecDepth 100000 in
theorem rotate_ {W w : World} {F : List Atom} {p : Option Addr} {N c : Nat} (L : List NodeD) (a m b : Nat) (hN : N ≤ 140737488355328) (h1 : a < m) (h2 : m < b) (h3 : b ≤ N) (H : St W w (DataA 25 p N c L :: F)) : Calls Try.prog 82 #[.slice p N c, .int .i64 (a : Int), .int .i64 (m : Int), .int .i64 (b : Int), .func (.func 8) #[] #[]] w (Ret fun v w' => v = .tuple #[] ∧ ∃ K : List NodeD, Rot L K a m b ∧ St W w' (DataA 25 p N c K :: F)) := by
  have hD := (DataA.open H).1
  refine calls_of_go (n := 58) Try.func82 rfl Try.ntmps82 rfl ?_
  refine g_seq ?_
  refine g_region ?_
  refine r_cons (s_move (.int .i64 (m : Int)) rfl rfl ?_)
  refine r_cons (s_move (.int .i64 (a : Int)) rfl rfl ?_)
  refine r_cons (s_sub ((m : Int) - (a : Int)) rfl rfl (wi64 (by omega)) rfl ?_)
  refine r_cons (s_assign (.int .i64 ((m : Int) - (a : Int))) rfl rfl ?_)
  refine r_nil ?_
  refine g_seq ?_
  refine g_region ?_
  refine r_cons (s_move (.int .i64 (b : Int)) rfl rfl ?_)
  refine r_cons (s_move (.int .i64 (m : Int)) rfl rfl ?_)
  refine r_cons (s_sub ((b : Int) - (m : Int)) rfl rfl (wi64 (by omega)) rfl ?_)
  refine r_cons (s_assign (.int .i64 ((b : Int) - (m : Int))) rfl rfl ?_)
  refine r_nil ?_
  refine g_seq ?_
  refine g_block ?_
  have H1 : St W w (DataA 25 p N c L :: F) := H
  refine g_loop_inv (fun (x_ : (List NodeD) × Nat × Nat) => match x_ with | (K, i, j) => [(0, .slice p N c), (2, .int .i64 (m : Int)), (4, .func (.func 8) #[] #[]), (10, .int .i64 (i : Int)), (11, .int .i64 (j : Int))]) (fun (x_ : (List NodeD) × Nat × Nat) w => match x_ with | (K, i, j) => (0 < i) ∧ (a + i ≤ m) ∧ (0 < j) ∧ (m + j ≤ b) ∧ (∀ p, gd L (rotI a m b p) = gd K (rotI (m - i) m (m + j) p)) ∧ (K.Perm L) ∧ St W w (DataA 25 p N c K :: F)) (fun (x_ : (List NodeD) × Nat × Nat) => match x_ with | (K, i, j) => i + j) (L, m - a, b - m) ?_ ?_ ?_
  · exact ⟨by first | rfl | exact vint (by omega), by first | rfl | exact vint (by omega), by first | rfl | exact vint (by omega), by first | rfl | exact vint (by omega), by first | rfl | exact vint (by omega), trivial⟩
  · exact ⟨(by omega), (by omega), (by omega), (by omega), (fun p => by rw [show m - (m - a) = a from by omega, show m + (b - m) = b from by omega]), (List.Perm.refl _), H1⟩
  · rintro ⟨K, i, j⟩ ρ2 w3 ⟨hi, hi2, hj, hj2, hrot, hpm, H4⟩ nx5
    change Ends _ _ (upds ρ2 [(0, .slice p N c), (2, .int .i64 (m : Int)), (4, .func (.func 8) #[] #[]), (10, .int .i64 (i : Int)), (11, .int .i64 (j : Int))]) w3
    refine g_seq ?_
    refine g_seq ?_
    refine g_region ?_
    refine r_cons (s_move (.int .i64 (i : Int)) rfl rfl ?_)
    refine r_cons (s_move (.int .i64 (j : Int)) rfl rfl ?_)
    by_cases hc6 : (i : Int) = (j : Int)
    · skip
      refine r_cons (s_neq false rfl rfl (ntrue hc6) rfl ?_)
      refine r_nil ?_
      refine g_false rfl ?_
      refine g_exit (by rfl) ?_
      refine g_region ?_
      refine r_cons (s_move (.slice p N c) rfl rfl ?_)
      refine r_cons (s_move (.int .i64 (m : Int)) rfl rfl ?_)
      refine r_cons (s_move (.int .i64 (i : Int)) rfl rfl ?_)
      refine r_cons (s_sub ((m - i : Nat) : Int) rfl rfl ((fun (z_ : Int) (hz_ : z_ = ((m - i : Nat) : Int)) => (congrArg IntKind.i64.wrap hz_).trans (wi64 (by omega))) _ (by omega)) rfl ?_)
      refine r_cons (s_move (.int .i64 (m : Int)) rfl rfl ?_)
      refine r_cons (s_move (.int .i64 (i : Int)) rfl rfl ?_)
      refine r_cons (s_move (.func (.func 8) #[] #[]) rfl rfl ?_)
      refine r_cons (s_call [.slice p N c, .int .i64 ((m - i : Nat) : Int), .int .i64 (m : Int), .int .i64 (i : Int), .func (.func 8) #[] #[]] pl_83 rfl rfl (swapRange_ K (m - i) m i hN (by omega) (by omega) H4) ?_)
      rintro _ w9 ⟨rfl, K7, hf8, H10⟩
      refine r_nil ?_
      refine g_end' [] Try.func82 Try.results82 trivial ?_
      have H11 : St W w9 (DataA 25 p N c K7 :: F) := H10
      exact ⟨rfl, K7, ⟨hf8.perm.trans hpm, rot_end hrot hf8 (by omega) (by omega)⟩, H11⟩
    · skip
      refine r_cons (s_neq true rfl rfl (nfalse hc6) rfl ?_)
      refine r_nil ?_
      refine g_true rfl ?_
      refine g_skip ?_
      refine g_block ?_
      refine g_seq ?_
      refine g_region ?_
      refine r_cons (s_move (.int .i64 (i : Int)) rfl rfl ?_)
      refine r_cons (s_move (.int .i64 (j : Int)) rfl rfl ?_)
      by_cases hc12 : (j : Int) < (i : Int)
      · skip
        refine r_cons (s_gtr true rfl rfl (dtrue hc12) rfl ?_)
        refine r_nil ?_
        refine g_true rfl ?_
        refine g_seq ?_
        refine g_region ?_
        refine r_cons (s_move (.slice p N c) rfl rfl ?_)
        refine r_cons (s_move (.int .i64 (m : Int)) rfl rfl ?_)
        refine r_cons (s_move (.int .i64 (i : Int)) rfl rfl ?_)
        refine r_cons (s_sub ((m - i : Nat) : Int) rfl rfl ((fun (z_ : Int) (hz_ : z_ = ((m - i : Nat) : Int)) => (congrArg IntKind.i64.wrap hz_).trans (wi64 (by omega))) _ (by omega)) rfl ?_)
        refine r_cons (s_move (.int .i64 (m : Int)) rfl rfl ?_)
        refine r_cons (s_move (.int .i64 (j : Int)) rfl rfl ?_)
        refine r_cons (s_move (.func (.func 8) #[] #[]) rfl rfl ?_)
        refine r_cons (s_call [.slice p N c, .int .i64 ((m - i : Nat) : Int), .int .i64 (m : Int), .int .i64 (j : Int), .func (.func 8) #[] #[]] pl_83 rfl rfl (swapRange_ K (m - i) m j hN (by omega) (by omega) H4) ?_)
        rintro _ w15 ⟨rfl, K13, hf14, H16⟩
        refine r_nil ?_
        refine g_region ?_
        refine r_cons (s_move (.int .i64 (i : Int)) rfl rfl ?_)
        refine r_cons (s_move (.int .i64 (j : Int)) rfl rfl ?_)
        refine r_cons (s_sub ((i : Int) - (j : Int)) rfl rfl (wi64 (by omega)) rfl ?_)
        refine r_cons (s_assign (.int .i64 ((i : Int) - (j : Int))) rfl rfl ?_)
        refine r_nil ?_
        refine g_inBlock ?_
        have H17 : St W w15 (DataA 25 p N c K13 :: F) := H16
        exact nx5 (K13, i - j, j) _ _ ⟨(by omega), (by omega), (by omega), (by omega), (rot_hi hrot hf14 (by omega) (by omega) (by omega)), (hf14.perm.trans hpm), H17⟩ (by first | (dsimp only; omega) | omega) ⟨by first | rfl | exact vint (by omega), by first | rfl | exact vint (by omega), by first | rfl | exact vint (by omega), by first | rfl | exact vint (by omega), by first | rfl | exact vint (by omega), trivial⟩
      · skip
        refine r_cons (s_gtr false rfl rfl (dfalse hc12) rfl ?_)
        refine r_nil ?_
        refine g_false rfl ?_
        refine g_seq ?_
        refine g_region ?_
        refine r_cons (s_move (.slice p N c) rfl rfl ?_)
        refine r_cons (s_move (.int .i64 (m : Int)) rfl rfl ?_)
        refine r_cons (s_move (.int .i64 (i : Int)) rfl rfl ?_)
        refine r_cons (s_sub ((m - i : Nat) : Int) rfl rfl ((fun (z_ : Int) (hz_ : z_ = ((m - i : Nat) : Int)) => (congrArg IntKind.i64.wrap hz_).trans (wi64 (by omega))) _ (by omega)) rfl ?_)
        refine r_cons (s_move (.int .i64 (m : Int)) rfl rfl ?_)
        refine r_cons (s_move (.int .i64 (j : Int)) rfl rfl ?_)
        refine r_cons (s_add ((m + j : Nat) : Int) rfl rfl ((fun (z_ : Int) (hz_ : z_ = ((m + j : Nat) : Int)) => (congrArg IntKind.i64.wrap hz_).trans (wi64 (by omega))) _ (by omega)) rfl ?_)
        refine r_cons (s_move (.int .i64 (i : Int)) rfl rfl ?_)
        refine r_cons (s_sub (((m + j) - i : Nat) : Int) rfl rfl ((fun (z_ : Int) (hz_ : z_ = (((m + j) - i : Nat) : Int)) => (congrArg IntKind.i64.wrap hz_).trans (wi64 (by omega))) _ (by omega)) rfl ?_)
        refine r_cons (s_move (.int .i64 (i : Int)) rfl rfl ?_)
        refine r_cons (s_move (.func (.func 8) #[] #[]) rfl rfl ?_)
        refine r_cons (s_call [.slice p N c, .int .i64 ((m - i : Nat) : Int), .int .i64 (((m + j) - i : Nat) : Int), .int .i64 (i : Int), .func (.func 8) #[] #[]] pl_83 rfl rfl (swapRange_ K (m - i) ((m + j) - i) i hN (by omega) (by omega) H4) ?_)
        rintro _ w20 ⟨rfl, K18, hf19, H21⟩
        refine r_nil ?_
        refine g_region ?_
        refine r_cons (s_move (.int .i64 (j : Int)) rfl rfl ?_)
        refine r_cons (s_move (.int .i64 (i : Int)) rfl rfl ?_)
        refine r_cons (s_sub ((j : Int) - (i : Int)) rfl rfl (wi64 (by omega)) rfl ?_)
        refine r_cons (s_assign (.int .i64 ((j : Int) - (i : Int))) rfl rfl ?_)
        refine r_nil ?_
        refine g_inBlock ?_
        have H22 : St W w20 (DataA 25 p N c K18 :: F) := H21
        exact nx5 (K18, i, j - i) _ _ ⟨(by omega), (by omega), (by omega), (by omega), (rot_lo hrot hf19 (by omega) (by omega) (by omega)), (hf19.perm.trans hpm), H22⟩ (by first | (dsimp only; omega) | omega) ⟨by first | rfl | exact vint (by omega), by first | rfl | exact vint (by omega), by first | rfl | exact vint (by omega), by first | rfl | exact vint (by omega), by first | rfl | exact vint (by omega), trivial⟩
set_option maxHeartbeats 4000000 in
set_option maxRecDepth 100000 in
theorem insertion_ {W w : World} {F : List Atom} {p : Option Addr} {N c : Nat} (L : List NodeD) (a b : Nat) (hN : N ≤ 140737488355328) (h1 : a ≤ b) (h3 : b ≤ N) (H : St W w (DataA 25 p N c L :: F)) : Calls Try.prog 77 #[.slice p N c, .int .i64 (a : Int), .int .i64 (b : Int), .func (.func 8) #[] #[]] w (Ret fun v w' => v = .tuple #[] ∧ ∃ K : List NodeD, (Seg a b L K ∧ srt K a b) ∧ St W w' (DataA 25 p N c K :: F)) := by
  have hD := (DataA.open H).1
  refine calls_of_go (n := 53) Try.func77 rfl Try.ntmps77 rfl ?_
  refine g_seq ?_
  refine g_region ?_
  refine r_cons (s_move (.int .i64 (a : Int)) rfl rfl ?_)
  refine r_cons (s_add ((a : Int) + 1) rfl rfl (wi64 (by omega)) rfl ?_)
  refine r_cons (s_assign (.int .i64 ((a : Int) + 1)) rfl rfl ?_)
  refine r_nil ?_
  refine g_block ?_
  have H1 : St W w (DataA 25 p N c L :: F) := H
  refine g_loop_inv (fun (x_ : (List NodeD) × Nat) => match x_ with | (K, i) => [(0, .slice p N c), (1, .int .i64 (a : Int)), (2, .int .i64 (b : Int)), (3, .func (.func 8) #[] #[]), (8, .int .i64 (i : Int))]) (fun (x_ : (List NodeD) × Nat) w => match x_ with | (K, i) => (a + 1 ≤ i) ∧ (i ≤ b ∨ i = a + 1) ∧ (Seg a b L K) ∧ (srt K a i) ∧ St W w (DataA 25 p N c K :: F)) (fun (x_ : (List NodeD) × Nat) => match x_ with | (K, i) => b + a + 1 - i) (L, a + 1) ?_ ?_ ?_
  · exact ⟨by first | rfl | exact vint (by omega), by first | rfl | exact vint (by omega), by first | rfl | exact vint (by omega), by first | rfl | exact vint (by omega), by first | rfl | exact vint (by omega), trivial⟩
  · exact ⟨(by omega), (by omega), (Seg.refl a b L), (fun p q h1 h2 h3 => by omega), H1⟩
  · rintro ⟨K, i⟩ ρ2 w3 ⟨hi, hib, hseg, hs, H4⟩ nx5
    change Ends _ _ (upds ρ2 [(0, .slice p N c), (1, .int .i64 (a : Int)), (2, .int .i64 (b : Int)), (3, .func (.func 8) #[] #[]), (8, .int .i64 (i : Int))]) w3
    refine g_seq ?_
    refine g_seq ?_
    refine g_region ?_
    refine r_cons (s_move (.int .i64 (i : Int)) rfl rfl ?_)
    refine r_cons (s_move (.int .i64 (b : Int)) rfl rfl ?_)
    by_cases hc6 : (i : Int) < (b : Int)
    · skip
      refine r_cons (s_lss true rfl rfl (dtrue hc6) rfl ?_)
      refine r_nil ?_
      refine g_true rfl ?_
      refine g_skip ?_
      refine g_seq ?_
      refine g_block ?_
      refine g_seq ?_
      refine g_region ?_
      refine r_cons (s_move (.int .i64 (i : Int)) rfl rfl ?_)
      refine r_cons (s_assign (.int .i64 (i : Int)) rfl rfl ?_)
      refine r_nil ?_
      refine g_block ?_
      have H7 : St W w3 (DataA 25 p N c K :: F) := H4
      refine g_loop_inv (fun (x_ : (List NodeD) × Nat) => match x_ with | (M, j) => [(0, .slice p N c), (1, .int .i64 (a : Int)), (2, .int .i64 (b : Int)), (3, .func (.func 8) #[] #[]), (8, .int .i64 (i : Int)), (9, .int .i64 (j : Int))]) (fun (x_ : (List NodeD) × Nat) w => match x_ with | (M, j) => (a ≤ j) ∧ (j ≤ i) ∧ (Seg a b K M) ∧ (InsAt M a i j) ∧ St W w (DataA 25 p N c M :: F)) (fun (x_ : (List NodeD) × Nat) => match x_ with | (M, j) => j) (K, i) ?_ ?_ ?_
      · exact ⟨by first | rfl | exact vint (by omega), by first | rfl | exact vint (by omega), by first | rfl | exact vint (by omega), by first | rfl | exact vint (by omega), by first | rfl | exact vint (by omega), by first | rfl | exact vint (by omega), trivial⟩
      · exact ⟨(by omega), (by omega), (Seg.refl a b K), (ins_start hs), H7⟩
      · rintro ⟨M, j⟩ ρ8 w9 ⟨hj, hji, hseg2, hins, H10⟩ nx11
        change Ends _ _ (upds ρ8 [(0, .slice p N c), (1, .int .i64 (a : Int)), (2, .int .i64 (b : Int)), (3, .func (.func 8) #[] #[]), (8, .int .i64 (i : Int)), (9, .int .i64 (j : Int))]) w9
        refine g_seq ?_
        refine g_seq ?_
        have hlk := hseg.len
        have hlm := hseg2.len
        obtain ⟨hD12, H13⟩ := DataA.open H10
        have H14 : St W w9 (Row 25 5 (.slice p N c) N (M.flatMap nodeCell) :: NodesA M :: F) := H13
        obtain ⟨bk15, cur16, hp17, h18, h19, h20, h21, h22, H23⟩ := Row.open2 H14 (i := 0) rfl (by omega)
        have H24 := NodesA.at H23 (i := 1) rfl (j := j) (by omega)
        have H25 := NodesA.at H24 (i := 2) rfl (j := (j - 1)) (by omega)
        refine g_mix (fun t_ w => St W w (NodeA (M.getD (j - 1) default) :: NodeA (M.getD j default) :: blk bk15 (.cells cur16 25 (0, 0)) :: NodesA M :: t_)) F mixed 17 rfl H25.drew ?_
        refine f_first 0 (listed' := #[true, false, false, false, false, false, false, false, false, false, false, false, false, false, false, false, false]) rfl (by kernel_rfl) (by kernel_rfl) (by kernel_rfl) rfl ?_
        refine f_val rfl rfl rfl (by intro t_ w hw; exact x_move (.int .i64 (j : Int)) rfl w) ?_
        refine f_first 1 (listed' := #[true, true, false, false, false, false, false, false, false, false, false, false, false, false, false, false, false]) rfl (by kernel_rfl) (by kernel_rfl) (by kernel_rfl) rfl ?_
        refine f_val rfl rfl rfl (by intro t_ w hw; exact x_move (.int .i64 (a : Int)) rfl w) ?_
        refine f_first 2 (listed' := #[true, true, true, false, false, false, false, false, false, false, false, false, false, false, false, false, false]) rfl (by kernel_rfl) (by kernel_rfl) (by kernel_rfl) rfl ?_
        by_cases hc26 : (a : Int) < (j : Int)
        · skip
          refine f_val rfl rfl rfl (by intro t_ w hw; exact x_gtr true rfl rfl (dtrue hc26) w) ?_
          refine f_first 3 (listed' := #[true, true, true, true, false, false, false, false, false, false, false, false, false, false, false, false, false]) rfl (by kernel_rfl) (by kernel_rfl) (by kernel_rfl) rfl ?_
          refine f_val rfl rfl rfl (by intro t_ w hw; exact x_move (.bool true) rfl w) ?_
          refine f_first 4 (listed' := #[true, true, true, true, true, false, false, false, false, false, false, false, false, false, false, false, false]) rfl (by kernel_rfl) (by kernel_rfl) (by kernel_rfl) rfl ?_
          refine f_take rfl rfl ?_
          refine f_val rfl rfl rfl (by intro t_ w hw; exact x_move (.func (.func 8) #[] #[]) rfl w) ?_
          refine f_first 5 (listed' := #[true, true, true, true, true, true, false, false, false, false, false, false, false, false, false, false, false]) rfl (by kernel_rfl) (by kernel_rfl) (by kernel_rfl) rfl ?_
          refine f_take rfl rfl ?_
          refine f_val rfl rfl rfl (by intro t_ w hw; exact x_move (.slice p N c) rfl w) ?_
          refine f_first 6 (listed' := #[true, true, true, true, true, true, true, false, false, false, false, false, false, false, false, false, false]) rfl (by kernel_rfl) (by kernel_rfl) (by kernel_rfl) rfl ?_
          refine f_take rfl rfl ?_
          refine f_val rfl rfl rfl (by intro t_ w hw; exact x_move (.int .i64 (j : Int)) rfl w) ?_
          refine f_first 7 (listed' := #[true, true, true, true, true, true, true, true, false, false, false, false, false, false, false, false, false]) rfl (by kernel_rfl) (by kernel_rfl) (by kernel_rfl) rfl ?_
          refine f_take rfl rfl ?_
          refine f_val rfl rfl rfl (by intro t_ w hw; exact x_indexAddr bk15 (off := 0) (j : Int) 5 (0 + j * 5) (by exact congrArg (fun z_ => Value.slice z_ N c) ((fun (_ : 0 < 1) => hp17) (by omega))) rfl el_23 (by omega) rfl w) ?_
          refine f_first 8 (listed' := #[true, true, true, true, true, true, true, true, true, false, false, false, false, false, false, false, false]) rfl (by kernel_rfl) (by kernel_rfl) (by kernel_rfl) rfl ?_
          refine f_take rfl rfl ?_
          refine f_val rfl rfl rfl (by intro t_ w hw; exact x_loadAgg [.int .i64 ((M.getD j default).kind.v), .string ((M.getD j default).var.v), .string ((M.getD j default).typ.v), .slice ((M.getD j default).tp) ((M.getD j default).tests.length) ((M.getD j default).tc), .slice ((M.getD j default).kp) ((M.getD j default).kids.length) ((M.getD j default).kc)] 5 ag_25 rfl (hw.blk_at (i := 2) rfl) (by have := elem_size (i := j) (s := 5) (show 0 + M.length * 5 ≤ cur16.size by have := (show M.length * 5 ≤ cur16.size by rw [hD12, h20]; exact Nat.mul_le_mul_right 5 h18); omega) (by have hh : M.length = N := hD12; omega); omega) (elem_take nodeCell_len (by rw [hD12]; exact h21) (by have hh : M.length = N := hD12; omega) default)) ?_
          refine f_first 9 (listed' := #[true, true, true, true, true, true, true, true, true, true, false, false, false, false, false, false, false]) rfl (by kernel_rfl) (by kernel_rfl) (by kernel_rfl) rfl ?_
          refine f_take rfl rfl ?_
          refine f_val rfl rfl rfl (by intro t_ w hw; exact x_move (.slice p N c) rfl w) ?_
          refine f_first 10 (listed' := #[true, true, true, true, true, true, true, true, true, true, true, false, false, false, false, false, false]) rfl (by kernel_rfl) (by kernel_rfl) (by kernel_rfl) rfl ?_
          refine f_take rfl rfl ?_
          refine f_val rfl rfl rfl (by intro t_ w hw; exact x_move (.int .i64 (j : Int)) rfl w) ?_
          refine f_first 11 (listed' := #[true, true, true, true, true, true, true, true, true, true, true, true, false, false, false, false, false]) rfl (by kernel_rfl) (by kernel_rfl) (by kernel_rfl) rfl ?_
          refine f_take rfl rfl ?_
          refine f_val rfl rfl rfl (by intro t_ w hw; exact x_sub ((j : Int) - 1) rfl rfl (wi64 (by omega)) w) ?_
          refine f_first 12 (listed' := #[true, true, true, true, true, true, true, true, true, true, true, true, true, false, false, false, false]) rfl (by kernel_rfl) (by kernel_rfl) (by kernel_rfl) rfl ?_
          refine f_take rfl rfl ?_
          refine f_val rfl rfl rfl (by intro t_ w hw; exact x_indexAddr bk15 (off := 0) ((j : Int) - 1) 5 (0 + (j - 1) * 5) (by exact congrArg (fun z_ => Value.slice z_ N c) ((fun (_ : 0 < 1) => hp17) (by omega))) rfl el_23 (by omega) (by rw [show ((j : Int) - 1 : Int).toNat = j - 1 from by omega]) w) ?_
          refine f_first 13 (listed' := #[true, true, true, true, true, true, true, true, true, true, true, true, true, true, false, false, false]) rfl (by kernel_rfl) (by kernel_rfl) (by kernel_rfl) rfl ?_
          refine f_take rfl rfl ?_
          refine f_val rfl rfl rfl (by intro t_ w hw; exact x_loadAgg [.int .i64 ((M.getD (j - 1) default).kind.v), .string ((M.getD (j - 1) default).var.v), .string ((M.getD (j - 1) default).typ.v), .slice ((M.getD (j - 1) default).tp) ((M.getD (j - 1) default).tests.length) ((M.getD (j - 1) default).tc), .slice ((M.getD (j - 1) default).kp) ((M.getD (j - 1) default).kids.length) ((M.getD (j - 1) default).kc)] 5 ag_25 rfl (hw.blk_at (i := 2) rfl) (by have := elem_size (i := j - 1) (s := 5) (show 0 + M.length * 5 ≤ cur16.size by have := (show M.length * 5 ≤ cur16.size by rw [hD12, h20]; exact Nat.mul_le_mul_right 5 h18); omega) (by have hh : M.length = N := hD12; omega); omega) (elem_take nodeCell_len (by rw [hD12]; exact h21) (by have hh : M.length = N := hD12; omega) default)) ?_
          refine f_all (rs := [14]) (by kernel_rfl) (by simp) ?_
          refine a_cons ⟨_, rfl, ?_⟩ (fun x hx => absurd hx (by simp))
          intro w27 H28
          try dsimp only at H28
          refine r_take rfl rfl ?_
          refine s_callv [] [.agg #[.int .i64 ((M.getD j default).kind.v), .string ((M.getD j default).var.v), .string ((M.getD j default).typ.v), .slice ((M.getD j default).tp) ((M.getD j default).tests.length) ((M.getD j default).tc), .slice ((M.getD j default).kp) ((M.getD j default).kids.length) ((M.getD j default).kc)], .agg #[.int .i64 ((M.getD (j - 1) default).kind.v), .string ((M.getD (j - 1) default).var.v), .string ((M.getD (j - 1) default).typ.v), .slice ((M.getD (j - 1) default).tp) ((M.getD (j - 1) default).tests.length) ((M.getD (j - 1) default).tc), .slice ((M.getD (j - 1) default).kp) ((M.getD (j - 1) default).kids.length) ((M.getD (j - 1) default).kc)]] rfl pl_8 rfl rfl (normal_Compare (M.getD j default) (M.getD (j - 1) default) (i := 1) rfl (i2 := 0) rfl H28) ?_
          rintro _ w29 ⟨rfl, H30⟩
          refine ⟨F, ?_, H30⟩
          change FReg _ _ _ _ _ #[true, true, true, true, true, true, true, true, true, true, true, true, true, true, true, false, false] _ _
          refine f_first 15 (listed' := #[true, true, true, true, true, true, true, true, true, true, true, true, true, true, true, true, false]) rfl (by kernel_rfl) (by kernel_rfl) (by kernel_rfl) rfl ?_
          refine f_take rfl rfl ?_
          by_cases hc31 : cmpN (M.getD j default) (M.getD (j - 1) default) < 0
          · skip
            refine f_val rfl rfl rfl (by intro t_ w hw; exact x_lss true rfl rfl (dtrue hc31) w) ?_
            refine f_first 16 (listed' := #[true, true, true, true, true, true, true, true, true, true, true, true, true, true, true, true, true]) rfl (by kernel_rfl) (by kernel_rfl) (by kernel_rfl) rfl ?_
            refine f_val rfl rfl rfl (by intro t_ w hw; exact x_pick_t (.bool true) rfl rfl w) ?_
            refine f_done (by kernel_rfl) ?_
            intro w32 H33
            refine g_true rfl ?_
            refine g_skip ?_
            refine g_seq ?_
            refine g_block ?_
            have H34 : St W w32 (NodeA (M.getD (j - 1) default) :: NodeA (M.getD j default) :: NodesA M :: blk bk15 (.cells cur16 25 (0, 0)) :: F) := ((((H33.move 2 rfl).move 3 rfl).move 3 rfl).move 3 rfl)
            refine g_mix (fun t_ w => St W w (NodeA (M.getD (j - 1) default) :: NodeA (M.getD j default) :: NodesA M :: t_)) (blk bk15 (.cells cur16 25 (0, 0)) :: F) mixed 18 rfl H34.drew ?_
            refine f_first 0 (listed' := #[true, false, false, false, false, false, false, false, false, false, false, false, false, false, false, false, false, false]) rfl (by kernel_rfl) (by kernel_rfl) (by kernel_rfl) rfl ?_
            refine f_val rfl rfl rfl (by intro t_ w hw; exact x_move (.slice p N c) rfl w) ?_
            refine f_first 1 (listed' := #[true, true, false, false, false, false, false, false, false, false, false, false, false, false, false, false, false, false]) rfl (by kernel_rfl) (by kernel_rfl) (by kernel_rfl) rfl ?_
            refine f_val rfl rfl rfl (by intro t_ w hw; exact x_move (.int .i64 (j : Int)) rfl w) ?_
            refine f_first 2 (listed' := #[true, true, true, false, false, false, false, false, false, false, false, false, false, false, false, false, false, false]) rfl (by kernel_rfl) (by kernel_rfl) (by kernel_rfl) rfl ?_
            refine f_val rfl rfl rfl (by intro t_ w hw; exact x_move (.slice p N c) rfl w) ?_
            refine f_first 3 (listed' := #[true, true, true, true, false, false, false, false, false, false, false, false, false, false, false, false, false, false]) rfl (by kernel_rfl) (by kernel_rfl) (by kernel_rfl) rfl ?_
            refine f_val rfl rfl rfl (by intro t_ w hw; exact x_move (.int .i64 (j : Int)) rfl w) ?_
            refine f_first 4 (listed' := #[true, true, true, true, true, false, false, false, false, false, false, false, false, false, false, false, false, false]) rfl (by kernel_rfl) (by kernel_rfl) (by kernel_rfl) rfl ?_
            refine f_val rfl rfl rfl (by intro t_ w hw; exact x_sub ((j : Int) - 1) rfl rfl (wi64 (by omega)) w) ?_
            refine f_first 5 (listed' := #[true, true, true, true, true, true, false, false, false, false, false, false, false, false, false, false, false, false]) rfl (by kernel_rfl) (by kernel_rfl) (by kernel_rfl) rfl ?_
            refine f_val rfl rfl rfl (by intro t_ w hw; exact x_move (.slice p N c) rfl w) ?_
            refine f_first 6 (listed' := #[true, true, true, true, true, true, true, false, false, false, false, false, false, false, false, false, false, false]) rfl (by kernel_rfl) (by kernel_rfl) (by kernel_rfl) rfl ?_
            refine f_val rfl rfl rfl (by intro t_ w hw; exact x_move (.int .i64 (j : Int)) rfl w) ?_
            refine f_first 7 (listed' := #[true, true, true, true, true, true, true, true, false, false, false, false, false, false, false, false, false, false]) rfl (by kernel_rfl) (by kernel_rfl) (by kernel_rfl) rfl ?_
            refine f_val rfl rfl rfl (by intro t_ w hw; exact x_sub ((j : Int) - 1) rfl rfl (wi64 (by omega)) w) ?_
            refine f_first 8 (listed' := #[true, true, true, true, true, true, true, true, true, false, false, false, false, false, false, false, false, false]) rfl (by kernel_rfl) (by kernel_rfl) (by kernel_rfl) rfl ?_
            refine f_val rfl rfl rfl (by intro t_ w hw; exact x_indexAddr bk15 (off := 0) ((j : Int) - 1) 5 (0 + (j - 1) * 5) (by exact congrArg (fun z_ => Value.slice z_ N c) ((fun (_ : 0 < 1) => hp17) (by omega))) rfl el_23 (by omega) (by rw [show ((j : Int) - 1 : Int).toNat = j - 1 from by omega]) w) ?_
            refine f_first 10 (listed' := #[true, true, true, true, true, true, true, true, true, false, true, false, false, false, false, false, false, false]) rfl (by kernel_rfl) (by kernel_rfl) (by kernel_rfl) rfl ?_
            refine f_val rfl rfl rfl (by intro t_ w hw; exact x_move (.slice p N c) rfl w) ?_
            refine f_first 11 (listed' := #[true, true, true, true, true, true, true, true, true, false, true, true, false, false, false, false, false, false]) rfl (by kernel_rfl) (by kernel_rfl) (by kernel_rfl) rfl ?_
            refine f_val rfl rfl rfl (by intro t_ w hw; exact x_move (.int .i64 (j : Int)) rfl w) ?_
            refine f_first 12 (listed' := #[true, true, true, true, true, true, true, true, true, false, true, true, true, false, false, false, false, false]) rfl (by kernel_rfl) (by kernel_rfl) (by kernel_rfl) rfl ?_
            refine f_val rfl rfl rfl (by intro t_ w hw; exact x_indexAddr bk15 (off := 0) (j : Int) 5 (0 + j * 5) (by exact congrArg (fun z_ => Value.slice z_ N c) ((fun (_ : 0 < 1) => hp17) (by omega))) rfl el_23 (by omega) rfl w) ?_
            refine f_all (rs := [9, 13]) (by kernel_rfl) (by simp) ?_
            refine a_cons ⟨_, rfl, ?_⟩ (a_cons ⟨_, rfl, ?_⟩ (fun x hx => absurd hx (by simp)))
            · skip
              intro w35 H36
              try dsimp only at H36
              refine s_loadAgg [.int .i64 ((M.getD (j - 1) default).kind.v), .string ((M.getD (j - 1) default).var.v), .string ((M.getD (j - 1) default).typ.v), .slice ((M.getD (j - 1) default).tp) ((M.getD (j - 1) default).tests.length) ((M.getD (j - 1) default).tc), .slice ((M.getD (j - 1) default).kp) ((M.getD (j - 1) default).kids.length) ((M.getD (j - 1) default).kc)] 5 ag_25 rfl (H36.blk_at (i := 3) rfl) (by have := elem_size (i := j - 1) (s := 5) (show 0 + M.length * 5 ≤ cur16.size by have := (show M.length * 5 ≤ cur16.size by rw [hD12, h20]; exact Nat.mul_le_mul_right 5 h18); omega) (by have hh : M.length = N := hD12; omega); omega) (elem_take nodeCell_len (by rw [hD12]; exact h21) (by have hh : M.length = N := hD12; omega) default) rfl ?_
              refine ⟨blk bk15 (.cells cur16 25 (0, 0)) :: F, ?_, H36⟩
              change FReg _ _ _ _ _ #[true, true, true, true, true, true, true, true, true, true, true, true, true, false, false, false, false, false] _ _
              refine f_all (rs := [13]) (by kernel_rfl) (by simp) ?_
              refine a_cons ⟨_, rfl, ?_⟩ (fun x hx => absurd hx (by simp))
              intro w37 H38
              try dsimp only at H38
              refine s_loadAgg [.int .i64 ((M.getD j default).kind.v), .string ((M.getD j default).var.v), .string ((M.getD j default).typ.v), .slice ((M.getD j default).tp) ((M.getD j default).tests.length) ((M.getD j default).tc), .slice ((M.getD j default).kp) ((M.getD j default).kids.length) ((M.getD j default).kc)] 5 ag_25 rfl (H38.blk_at (i := 3) rfl) (by have := elem_size (i := j) (s := 5) (show 0 + M.length * 5 ≤ cur16.size by have := (show M.length * 5 ≤ cur16.size by rw [hD12, h20]; exact Nat.mul_le_mul_right 5 h18); omega) (by have hh : M.length = N := hD12; omega); omega) (elem_take nodeCell_len (by rw [hD12]; exact h21) (by have hh : M.length = N := hD12; omega) default) rfl ?_
              refine ⟨blk bk15 (.cells cur16 25 (0, 0)) :: F, ?_, H38⟩
              change FReg _ _ _ _ _ #[true, true, true, true, true, true, true, true, true, true, true, true, true, true, false, false, false, false] _ _
              refine f_first 14 (listed' := #[true, true, true, true, true, true, true, true, true, true, true, true, true, true, true, false, false, false]) rfl (by kernel_rfl) (by kernel_rfl) (by kernel_rfl) rfl ?_
              refine f_val rfl rfl rfl (by intro t_ w hw; exact x_indexAddr bk15 (off := 0) (j : Int) 5 (0 + j * 5) (by exact congrArg (fun z_ => Value.slice z_ N c) ((fun (_ : 0 < 1) => hp17) (by omega))) rfl el_23 (by omega) rfl w) ?_
              refine f_all (rs := [15]) (by kernel_rfl) (by simp) ?_
              refine a_cons ⟨_, rfl, ?_⟩ (fun x hx => absurd hx (by simp))
              intro w39 H40
              try dsimp only at H40
              have hx43 := row_setN (f := nodeCell) (L := M) (cur := cur16) nodeCell_len (by decide) (by rw [hD12]; exact h21) (show M.length * 5 ≤ cur16.size by rw [hD12, h20]; exact Nat.mul_le_mul_right 5 h18) (j := j) (by have hh := hD12; omega) (M.getD (j - 1) default)
              refine s_storeAgg H40 3 #[.int .i64 ((M.getD (j - 1) default).kind.v), .string ((M.getD (j - 1) default).var.v), .string ((M.getD (j - 1) default).typ.v), .slice ((M.getD (j - 1) default).tp) ((M.getD (j - 1) default).tests.length) ((M.getD (j - 1) default).tc), .slice ((M.getD (j - 1) default).kp) ((M.getD (j - 1) default).kids.length) ((M.getD (j - 1) default).kc)] 5 rfl rfl rfl sz_25 rfl (fun v_ hv_ => one_node (M.getD (j - 1) default) v_ hv_) (by have hh := hD12; have hk := (show M.length * 5 ≤ cur16.size by rw [hD12, h20]; exact Nat.mul_le_mul_right 5 h18); omega) (fun o_ h1_ h2_ => by simp) (cs' := (writes cur16 (0 + j * 5) (nodeCell (M.getD (j - 1) default)))) rfl ?_; intro w41 H42
              refine ⟨blk bk15 (.cells (writes cur16 (0 + j * 5) (nodeCell (M.getD (j - 1) default))) 25 (0, 0)) :: F, ?_, H42⟩
              change FReg _ _ _ _ _ #[true, true, true, true, true, true, true, true, true, true, true, true, true, true, true, true, false, false] _ _
              refine f_first 16 (listed' := #[true, true, true, true, true, true, true, true, true, true, true, true, true, true, true, true, true, false]) rfl (by kernel_rfl) (by kernel_rfl) (by kernel_rfl) rfl ?_
              refine f_val rfl rfl rfl (by intro t_ w hw; exact x_indexAddr bk15 (off := 0) ((j : Int) - 1) 5 (0 + (j - 1) * 5) (by exact congrArg (fun z_ => Value.slice z_ N c) ((fun (_ : 0 < 1) => hp17) (by omega))) rfl el_23 (by omega) (by rw [show ((j : Int) - 1 : Int).toNat = j - 1 from by omega]) w) ?_
              refine f_all (rs := [17]) (by kernel_rfl) (by simp) ?_
              refine a_cons ⟨_, rfl, ?_⟩ (fun x hx => absurd hx (by simp))
              intro w44 H45
              try dsimp only at H45
              have hx48 := row_setN (f := nodeCell) (L := (M.set j (M.getD (j - 1) default))) (cur := (writes cur16 (0 + j * 5) (nodeCell (M.getD (j - 1) default)))) nodeCell_len (by decide) hx43 (show (M.set j (M.getD (j - 1) default)).length * 5 ≤ (writes cur16 (0 + j * 5) (nodeCell (M.getD (j - 1) default))).size by rw [(show ((M.set j (M.getD (j - 1) default))).length = N from by first | (rw [List.length_set]; exact hD12) | rw [List.length_set]), (show (writes cur16 (0 + j * 5) (nodeCell (M.getD (j - 1) default))).size = c * 5 from by rw [writes_size]; exact h20)]; exact Nat.mul_le_mul_right 5 h18) (j := j - 1) (by have hh := (show ((M.set j (M.getD (j - 1) default))).length = N from by first | (rw [List.length_set]; exact hD12) | rw [List.length_set]); omega) (M.getD j default)
              refine s_storeAgg H45 3 #[.int .i64 ((M.getD j default).kind.v), .string ((M.getD j default).var.v), .string ((M.getD j default).typ.v), .slice ((M.getD j default).tp) ((M.getD j default).tests.length) ((M.getD j default).tc), .slice ((M.getD j default).kp) ((M.getD j default).kids.length) ((M.getD j default).kc)] 5 rfl rfl rfl sz_25 rfl (fun v_ hv_ => one_node (M.getD j default) v_ hv_) (by have hh := (show ((M.set j (M.getD (j - 1) default))).length = N from by first | (rw [List.length_set]; exact hD12) | rw [List.length_set]); have hk := (show (M.set j (M.getD (j - 1) default)).length * 5 ≤ (writes cur16 (0 + j * 5) (nodeCell (M.getD (j - 1) default))).size by rw [(show ((M.set j (M.getD (j - 1) default))).length = N from by first | (rw [List.length_set]; exact hD12) | rw [List.length_set]), (show (writes cur16 (0 + j * 5) (nodeCell (M.getD (j - 1) default))).size = c * 5 from by rw [writes_size]; exact h20)]; exact Nat.mul_le_mul_right 5 h18); omega) (fun o_ h1_ h2_ => by simp) (cs' := (writes (writes cur16 (0 + j * 5) (nodeCell (M.getD (j - 1) default))) (0 + (j - 1) * 5) (nodeCell (M.getD j default)))) rfl ?_; intro w46 H47
              refine ⟨blk bk15 (.cells (writes (writes cur16 (0 + j * 5) (nodeCell (M.getD (j - 1) default))) (0 + (j - 1) * 5) (nodeCell (M.getD j default))) 25 (0, 0)) :: F, ?_, H47⟩
              change FReg _ _ _ _ _ #[true, true, true, true, true, true, true, true, true, true, true, true, true, true, true, true, true, true] _ _
              refine f_done (by kernel_rfl) ?_
              intro w49 H50
              refine g_inBlock ?_
              refine g_region ?_
              refine r_cons (s_move (.int .i64 (j : Int)) rfl rfl ?_)
              refine r_cons (s_sub ((j : Int) - 1) rfl rfl (wi64 (by omega)) rfl ?_)
              refine r_cons (s_assign (.int .i64 ((j : Int) - 1)) rfl rfl ?_)
              refine r_nil ?_
              have hL51 : ((M.set j (M.getD (j - 1) default)).set (j - 1) (M.getD j default)) = (swapL M j (j - 1)) := by first | rfl | exact swapL_comm (by omega)
              have H52 := Row.shut2 (p := p) (n := N) (c := c) (size := 5) (xs := (swapL M j (j - 1)).flatMap nodeCell) H50 (i := 3) rfl hp17 h18 h19 (show (writes (writes cur16 (0 + j * 5) (nodeCell (M.getD (j - 1) default))) (0 + (j - 1) * 5) (nodeCell (M.getD j default))).size = c * 5 from by rw [writes_size]; exact (show (writes cur16 (0 + j * 5) (nodeCell (M.getD (j - 1) default))).size = c * 5 from by rw [writes_size]; exact h20)) (by have hh : ((writes (writes cur16 (0 + j * 5) (nodeCell (M.getD (j - 1) default))) (0 + (j - 1) * 5) (nodeCell (M.getD j default))).toList.drop 0).take (((M.set j (M.getD (j - 1) default)).set (j - 1) (M.getD j default)).length * 5) = ((M.set j (M.getD (j - 1) default)).set (j - 1) (M.getD j default)).flatMap nodeCell := hx48; have hk : ((M.set j (M.getD (j - 1) default)).set (j - 1) (M.getD j default)).length = N := (show (((M.set j (M.getD (j - 1) default)).set (j - 1) (M.getD j default))).length = N from by first | (rw [List.length_set]; exact (show ((M.set j (M.getD (j - 1) default))).length = N from by first | (rw [List.length_set]; exact hD12) | rw [List.length_set])) | rw [List.length_set]); rw [hk] at hh; rw [hL51] at hh; exact hh) (fun x_ hx_ => by obtain ⟨a_, _, ha_⟩ := List.mem_flatMap.1 hx_; exact one_node a_ x_ ha_)
              have H53 : St W w49 (NodesA (swapL M j (j - 1)) :: NodeA (M.getD (j - 1) default) :: NodeA (M.getD j default) :: NodesA M :: Row 25 5 (.slice p N c) N ((swapL M j (j - 1)).flatMap nodeCell) :: F) := NodesA.sub H52 (i := 2) rfl (swapL_mem (by omega) (by omega))
              have H54 : St W w49 (Row 25 5 (.slice p N c) N ((swapL M j (j - 1)).flatMap nodeCell) :: NodesA (swapL M j (j - 1)) :: NodeA (M.getD (j - 1) default) :: NodeA (M.getD j default) :: NodesA M :: F) := (H53.move 4 rfl)
              have H55 : St W w49 (DataA 25 p N c (swapL M j (j - 1)) :: NodeA (M.getD (j - 1) default) :: NodeA (M.getD j default) :: NodesA M :: F) := DataA.make (by rw [swapL_len]; exact hD12) H54
              have H56 : St W w49 (DataA 25 p N c (swapL M j (j - 1)) :: F) := (((H55.drop 1 rfl).drop 1 rfl).drop 1 rfl)
              have H57 : St W w49 (DataA 25 p N c (swapL M j (j - 1)) :: F) := H56
              exact nx11 ((swapL M j (j - 1)), j - 1) _ _ ⟨(by omega), (by omega), (hseg2.trans (Seg.swap (by omega) (by omega) (by omega) (by omega) (by omega))), (ins_step hins (by omega) (by omega) (by omega) hc31), H57⟩ (by first | (dsimp only; omega) | omega) ⟨by first | rfl | exact vint (by omega), by first | rfl | exact vint (by omega), by first | rfl | exact vint (by omega), by first | rfl | exact vint (by omega), by first | rfl | exact vint (by omega), by first | rfl | exact vint (by omega), trivial⟩
            · skip
              intro w58 H59
              try dsimp only at H59
              refine s_loadAgg [.int .i64 ((M.getD j default).kind.v), .string ((M.getD j default).var.v), .string ((M.getD j default).typ.v), .slice ((M.getD j default).tp) ((M.getD j default).tests.length) ((M.getD j default).tc), .slice ((M.getD j default).kp) ((M.getD j default).kids.length) ((M.getD j default).kc)] 5 ag_25 rfl (H59.blk_at (i := 3) rfl) (by have := elem_size (i := j) (s := 5) (show 0 + M.length * 5 ≤ cur16.size by have := (show M.length * 5 ≤ cur16.size by rw [hD12, h20]; exact Nat.mul_le_mul_right 5 h18); omega) (by have hh : M.length = N := hD12; omega); omega) (elem_take nodeCell_len (by rw [hD12]; exact h21) (by have hh : M.length = N := hD12; omega) default) rfl ?_
              refine ⟨blk bk15 (.cells cur16 25 (0, 0)) :: F, ?_, H59⟩
              change FReg _ _ _ _ _ #[true, true, true, true, true, true, true, true, true, false, true, true, true, true, false, false, false, false] _ _
              refine f_all (rs := [9]) (by kernel_rfl) (by simp) ?_
              refine a_cons ⟨_, rfl, ?_⟩ (fun x hx => absurd hx (by simp))
              intro w60 H61
              try dsimp only at H61
              refine s_loadAgg [.int .i64 ((M.getD (j - 1) default).kind.v), .string ((M.getD (j - 1) default).var.v), .string ((M.getD (j - 1) default).typ.v), .slice ((M.getD (j - 1) default).tp) ((M.getD (j - 1) default).tests.length) ((M.getD (j - 1) default).tc), .slice ((M.getD (j - 1) default).kp) ((M.getD (j - 1) default).kids.length) ((M.getD (j - 1) default).kc)] 5 ag_25 rfl (H61.blk_at (i := 3) rfl) (by have := elem_size (i := j - 1) (s := 5) (show 0 + M.length * 5 ≤ cur16.size by have := (show M.length * 5 ≤ cur16.size by rw [hD12, h20]; exact Nat.mul_le_mul_right 5 h18); omega) (by have hh : M.length = N := hD12; omega); omega) (elem_take nodeCell_len (by rw [hD12]; exact h21) (by have hh : M.length = N := hD12; omega) default) rfl ?_
              refine ⟨blk bk15 (.cells cur16 25 (0, 0)) :: F, ?_, H61⟩
              change FReg _ _ _ _ _ #[true, true, true, true, true, true, true, true, true, true, true, true, true, true, false, false, false, false] _ _
              refine f_first 14 (listed' := #[true, true, true, true, true, true, true, true, true, true, true, true, true, true, true, false, false, false]) rfl (by kernel_rfl) (by kernel_rfl) (by kernel_rfl) rfl ?_
              refine f_val rfl rfl rfl (by intro t_ w hw; exact x_indexAddr bk15 (off := 0) (j : Int) 5 (0 + j * 5) (by exact congrArg (fun z_ => Value.slice z_ N c) ((fun (_ : 0 < 1) => hp17) (by omega))) rfl el_23 (by omega) rfl w) ?_
              refine f_all (rs := [15]) (by kernel_rfl) (by simp) ?_
              refine a_cons ⟨_, rfl, ?_⟩ (fun x hx => absurd hx (by simp))
              intro w62 H63
              try dsimp only at H63
              have hx66 := row_setN (f := nodeCell) (L := M) (cur := cur16) nodeCell_len (by decide) (by rw [hD12]; exact h21) (show M.length * 5 ≤ cur16.size by rw [hD12, h20]; exact Nat.mul_le_mul_right 5 h18) (j := j) (by have hh := hD12; omega) (M.getD (j - 1) default)
              refine s_storeAgg H63 3 #[.int .i64 ((M.getD (j - 1) default).kind.v), .string ((M.getD (j - 1) default).var.v), .string ((M.getD (j - 1) default).typ.v), .slice ((M.getD (j - 1) default).tp) ((M.getD (j - 1) default).tests.length) ((M.getD (j - 1) default).tc), .slice ((M.getD (j - 1) default).kp) ((M.getD (j - 1) default).kids.length) ((M.getD (j - 1) default).kc)] 5 rfl rfl rfl sz_25 rfl (fun v_ hv_ => one_node (M.getD (j - 1) default) v_ hv_) (by have hh := hD12; have hk := (show M.length * 5 ≤ cur16.size by rw [hD12, h20]; exact Nat.mul_le_mul_right 5 h18); omega) (fun o_ h1_ h2_ => by simp) (cs' := (writes cur16 (0 + j * 5) (nodeCell (M.getD (j - 1) default)))) rfl ?_; intro w64 H65
              refine ⟨blk bk15 (.cells (writes cur16 (0 + j * 5) (nodeCell (M.getD (j - 1) default))) 25 (0, 0)) :: F, ?_, H65⟩
              change FReg _ _ _ _ _ #[true, true, true, true, true, true, true, true, true, true, true, true, true, true, true, true, false, false] _ _
              refine f_first 16 (listed' := #[true, true, true, true, true, true, true, true, true, true, true, true, true, true, true, true, true, false]) rfl (by kernel_rfl) (by kernel_rfl) (by kernel_rfl) rfl ?_
              refine f_val rfl rfl rfl (by intro t_ w hw; exact x_indexAddr bk15 (off := 0) ((j : Int) - 1) 5 (0 + (j - 1) * 5) (by exact congrArg (fun z_ => Value.slice z_ N c) ((fun (_ : 0 < 1) => hp17) (by omega))) rfl el_23 (by omega) (by rw [show ((j : Int) - 1 : Int).toNat = j - 1 from by omega]) w) ?_
              refine f_all (rs := [17]) (by kernel_rfl) (by simp) ?_
              refine a_cons ⟨_, rfl, ?_⟩ (fun x hx => absurd hx (by simp))
              intro w67 H68
              try dsimp only at H68
              have hx71 := row_setN (f := nodeCell) (L := (M.set j (M.getD (j - 1) default))) (cur := (writes cur16 (0 + j * 5) (nodeCell (M.getD (j - 1) default)))) nodeCell_len (by decide) hx66 (show (M.set j (M.getD (j - 1) default)).length * 5 ≤ (writes cur16 (0 + j * 5) (nodeCell (M.getD (j - 1) default))).size by rw [(show ((M.set j (M.getD (j - 1) default))).length = N from by first | (rw [List.length_set]; exact hD12) | rw [List.length_set]), (show (writes cur16 (0 + j * 5) (nodeCell (M.getD (j - 1) default))).size = c * 5 from by rw [writes_size]; exact h20)]; exact Nat.mul_le_mul_right 5 h18) (j := j - 1) (by have hh := (show ((M.set j (M.getD (j - 1) default))).length = N from by first | (rw [List.length_set]; exact hD12) | rw [List.length_set]); omega) (M.getD j default)
              refine s_storeAgg H68 3 #[.int .i64 ((M.getD j default).kind.v), .string ((M.getD j default).var.v), .string ((M.getD j default).typ.v), .slice ((M.getD j default).tp) ((M.getD j default).tests.length) ((M.getD j default).tc), .slice ((M.getD j default).kp) ((M.getD j default).kids.length) ((M.getD j default).kc)] 5 rfl rfl rfl sz_25 rfl (fun v_ hv_ => one_node (M.getD j default) v_ hv_) (by have hh := (show ((M.set j (M.getD (j - 1) default))).length = N from by first | (rw [List.length_set]; exact hD12) | rw [List.length_set]); have hk := (show (M.set j (M.getD (j - 1) default)).length * 5 ≤ (writes cur16 (0 + j * 5) (nodeCell (M.getD (j - 1) default))).size by rw [(show ((M.set j (M.getD (j - 1) default))).length = N from by first | (rw [List.length_set]; exact hD12) | rw [List.length_set]), (show (writes cur16 (0 + j * 5) (nodeCell (M.getD (j - 1) default))).size = c * 5 from by rw [writes_size]; exact h20)]; exact Nat.mul_le_mul_right 5 h18); omega) (fun o_ h1_ h2_ => by simp) (cs' := (writes (writes cur16 (0 + j * 5) (nodeCell (M.getD (j - 1) default))) (0 + (j - 1) * 5) (nodeCell (M.getD j default)))) rfl ?_; intro w69 H70
              refine ⟨blk bk15 (.cells (writes (writes cur16 (0 + j * 5) (nodeCell (M.getD (j - 1) default))) (0 + (j - 1) * 5) (nodeCell (M.getD j default))) 25 (0, 0)) :: F, ?_, H70⟩
              change FReg _ _ _ _ _ #[true, true, true, true, true, true, true, true, true, true, true, true, true, true, true, true, true, true] _ _
              refine f_done (by kernel_rfl) ?_
              intro w72 H73
              refine g_inBlock ?_
              refine g_region ?_
              refine r_cons (s_move (.int .i64 (j : Int)) rfl rfl ?_)
              refine r_cons (s_sub ((j : Int) - 1) rfl rfl (wi64 (by omega)) rfl ?_)
              refine r_cons (s_assign (.int .i64 ((j : Int) - 1)) rfl rfl ?_)
              refine r_nil ?_
              have hL74 : ((M.set j (M.getD (j - 1) default)).set (j - 1) (M.getD j default)) = (swapL M j (j - 1)) := by first | rfl | exact swapL_comm (by omega)
              have H75 := Row.shut2 (p := p) (n := N) (c := c) (size := 5) (xs := (swapL M j (j - 1)).flatMap nodeCell) H73 (i := 3) rfl hp17 h18 h19 (show (writes (writes cur16 (0 + j * 5) (nodeCell (M.getD (j - 1) default))) (0 + (j - 1) * 5) (nodeCell (M.getD j default))).size = c * 5 from by rw [writes_size]; exact (show (writes cur16 (0 + j * 5) (nodeCell (M.getD (j - 1) default))).size = c * 5 from by rw [writes_size]; exact h20)) (by have hh : ((writes (writes cur16 (0 + j * 5) (nodeCell (M.getD (j - 1) default))) (0 + (j - 1) * 5) (nodeCell (M.getD j default))).toList.drop 0).take (((M.set j (M.getD (j - 1) default)).set (j - 1) (M.getD j default)).length * 5) = ((M.set j (M.getD (j - 1) default)).set (j - 1) (M.getD j default)).flatMap nodeCell := hx71; have hk : ((M.set j (M.getD (j - 1) default)).set (j - 1) (M.getD j default)).length = N := (show (((M.set j (M.getD (j - 1) default)).set (j - 1) (M.getD j default))).length = N from by first | (rw [List.length_set]; exact (show ((M.set j (M.getD (j - 1) default))).length = N from by first | (rw [List.length_set]; exact hD12) | rw [List.length_set])) | rw [List.length_set]); rw [hk] at hh; rw [hL74] at hh; exact hh) (fun x_ hx_ => by obtain ⟨a_, _, ha_⟩ := List.mem_flatMap.1 hx_; exact one_node a_ x_ ha_)
              have H76 : St W w72 (NodesA (swapL M j (j - 1)) :: NodeA (M.getD (j - 1) default) :: NodeA (M.getD j default) :: NodesA M :: Row 25 5 (.slice p N c) N ((swapL M j (j - 1)).flatMap nodeCell) :: F) := NodesA.sub H75 (i := 2) rfl (swapL_mem (by omega) (by omega))
              have H77 : St W w72 (Row 25 5 (.slice p N c) N ((swapL M j (j - 1)).flatMap nodeCell) :: NodesA (swapL M j (j - 1)) :: NodeA (M.getD (j - 1) default) :: NodeA (M.getD j default) :: NodesA M :: F) := (H76.move 4 rfl)
              have H78 : St W w72 (DataA 25 p N c (swapL M j (j - 1)) :: NodeA (M.getD (j - 1) default) :: NodeA (M.getD j default) :: NodesA M :: F) := DataA.make (by rw [swapL_len]; exact hD12) H77
              have H79 : St W w72 (DataA 25 p N c (swapL M j (j - 1)) :: F) := (((H78.drop 1 rfl).drop 1 rfl).drop 1 rfl)
              have H80 : St W w72 (DataA 25 p N c (swapL M j (j - 1)) :: F) := H79
              exact nx11 ((swapL M j (j - 1)), j - 1) _ _ ⟨(by omega), (by omega), (hseg2.trans (Seg.swap (by omega) (by omega) (by omega) (by omega) (by omega))), (ins_step hins (by omega) (by omega) (by omega) hc31), H80⟩ (by first | (dsimp only; omega) | omega) ⟨by first | rfl | exact vint (by omega), by first | rfl | exact vint (by omega), by first | rfl | exact vint (by omega), by first | rfl | exact vint (by omega), by first | rfl | exact vint (by omega), by first | rfl | exact vint (by omega), trivial⟩
          · skip
            refine f_val rfl rfl rfl (by intro t_ w hw; exact x_lss false rfl rfl (dfalse hc31) w) ?_
            refine f_first 16 (listed' := #[true, true, true, true, true, true, true, true, true, true, true, true, true, true, true, true, true]) rfl (by kernel_rfl) (by kernel_rfl) (by kernel_rfl) rfl ?_
            refine f_val rfl rfl rfl (by intro t_ w hw; exact x_pick_t (.bool false) rfl rfl w) ?_
            refine f_done (by kernel_rfl) ?_
            intro w81 H82
            refine g_false rfl ?_
            refine g_exit (by rfl) ?_
            refine g_inBlock ?_
            refine g_region ?_
            have he83 : j = a ∨ ¬ cmpN (gd M j) (gd M (j - 1)) < 0 := .inr hc31
            refine r_cons (s_move (.int .i64 (i : Int)) rfl rfl ?_)
            refine r_cons (s_add ((i : Int) + 1) rfl rfl (wi64 (by omega)) rfl ?_)
            refine r_cons (s_assign (.int .i64 ((i : Int) + 1)) rfl rfl ?_)
            refine r_nil ?_
            have H84 := Row.shut2 (p := p) (n := N) (c := c) (size := 5) (xs := M.flatMap nodeCell) H82 (i := 2) rfl hp17 h18 h19 h20 (by have hh : (cur16.toList.drop 0).take (M.length * 5) = M.flatMap nodeCell := (by rw [hD12]; exact h21); have hk : M.length = N := hD12; rw [hk] at hh; exact hh) (fun x_ hx_ => by obtain ⟨a_, _, ha_⟩ := List.mem_flatMap.1 hx_; exact one_node a_ x_ ha_)
            have H85 : St W w81 (Row 25 5 (.slice p N c) N (M.flatMap nodeCell) :: NodesA M :: NodeA (M.getD (j - 1) default) :: NodeA (M.getD j default) :: F) := ((H84.move 3 rfl).move 3 rfl)
            have H86 : St W w81 (DataA 25 p N c M :: NodeA (M.getD (j - 1) default) :: NodeA (M.getD j default) :: F) := DataA.make hD12 H85
            have H87 : St W w81 (DataA 25 p N c M :: F) := ((H86.drop 1 rfl).drop 1 rfl)
            have H88 : St W w81 (DataA 25 p N c M :: F) := H87
            exact nx5 (M, i + 1) _ _ ⟨(by omega), (by omega), (hseg.trans hseg2), (ins_done hins (by omega) he83), H88⟩ (by first | (dsimp only; omega) | omega) ⟨by first | rfl | exact vint (by omega), by first | rfl | exact vint (by omega), by first | rfl | exact vint (by omega), by first | rfl | exact vint (by omega), by first | rfl | exact vint (by omega), trivial⟩
        · skip
          refine f_val rfl rfl rfl (by intro t_ w hw; exact x_gtr false rfl rfl (dfalse hc26) w) ?_
          refine f_first 3 (listed' := #[true, true, true, true, false, false, false, false, false, false, false, false, false, false, false, false, false]) rfl (by kernel_rfl) (by kernel_rfl) (by kernel_rfl) rfl ?_
          refine f_val rfl rfl rfl (by intro t_ w hw; exact x_move (.bool false) rfl w) ?_
          refine f_first 4 (listed' := #[true, true, true, true, true, false, false, false, false, false, false, false, false, false, false, false, false]) rfl (by kernel_rfl) (by kernel_rfl) (by kernel_rfl) rfl ?_
          refine f_pass rfl rfl rfl rfl rfl ?_
          refine f_first 5 (listed' := #[true, true, true, true, true, true, false, false, false, false, false, false, false, false, false, false, false]) rfl (by kernel_rfl) (by kernel_rfl) (by kernel_rfl) rfl ?_
          refine f_pass rfl rfl rfl rfl rfl ?_
          refine f_first 6 (listed' := #[true, true, true, true, true, true, true, false, false, false, false, false, false, false, false, false, false]) rfl (by kernel_rfl) (by kernel_rfl) (by kernel_rfl) rfl ?_
          refine f_pass rfl rfl rfl rfl rfl ?_
          refine f_first 7 (listed' := #[true, true, true, true, true, true, true, true, false, false, false, false, false, false, false, false, false]) rfl (by kernel_rfl) (by kernel_rfl) (by kernel_rfl) rfl ?_
          refine f_pass rfl rfl rfl rfl rfl ?_
          refine f_first 8 (listed' := #[true, true, true, true, true, true, true, true, true, false, false, false, false, false, false, false, false]) rfl (by kernel_rfl) (by kernel_rfl) (by kernel_rfl) rfl ?_
          refine f_pass rfl rfl rfl rfl rfl ?_
          refine f_first 9 (listed' := #[true, true, true, true, true, true, true, true, true, true, false, false, false, false, false, false, false]) rfl (by kernel_rfl) (by kernel_rfl) (by kernel_rfl) rfl ?_
          refine f_pass rfl rfl rfl rfl rfl ?_
          refine f_first 10 (listed' := #[true, true, true, true, true, true, true, true, true, true, true, false, false, false, false, false, false]) rfl (by kernel_rfl) (by kernel_rfl) (by kernel_rfl) rfl ?_
          refine f_pass rfl rfl rfl rfl rfl ?_
          refine f_first 11 (listed' := #[true, true, true, true, true, true, true, true, true, true, true, true, false, false, false, false, false]) rfl (by kernel_rfl) (by kernel_rfl) (by kernel_rfl) rfl ?_
          refine f_pass rfl rfl rfl rfl rfl ?_
          refine f_first 12 (listed' := #[true, true, true, true, true, true, true, true, true, true, true, true, true, false, false, false, false]) rfl (by kernel_rfl) (by kernel_rfl) (by kernel_rfl) rfl ?_
          refine f_pass rfl rfl rfl rfl rfl ?_
          refine f_first 13 (listed' := #[true, true, true, true, true, true, true, true, true, true, true, true, true, true, false, false, false]) rfl (by kernel_rfl) (by kernel_rfl) (by kernel_rfl) rfl ?_
          refine f_pass rfl rfl rfl rfl rfl ?_
          refine f_first 14 (listed' := #[true, true, true, true, true, true, true, true, true, true, true, true, true, true, true, false, false]) rfl (by kernel_rfl) (by kernel_rfl) (by kernel_rfl) rfl ?_
          refine f_pass rfl rfl rfl rfl rfl ?_
          refine f_first 15 (listed' := #[true, true, true, true, true, true, true, true, true, true, true, true, true, true, true, true, false]) rfl (by kernel_rfl) (by kernel_rfl) (by kernel_rfl) rfl ?_
          refine f_pass rfl rfl rfl rfl rfl ?_
          refine f_first 16 (listed' := #[true, true, true, true, true, true, true, true, true, true, true, true, true, true, true, true, true]) rfl (by kernel_rfl) (by kernel_rfl) (by kernel_rfl) rfl ?_
          refine f_val rfl rfl rfl (by intro t_ w hw; exact x_pick_f (.bool false) rfl rfl w) ?_
          refine f_done (by kernel_rfl) ?_
          intro w89 H90
          refine g_false rfl ?_
          refine g_exit (by rfl) ?_
          refine g_inBlock ?_
          refine g_region ?_
          have he91 : j = a ∨ ¬ cmpN (gd M j) (gd M (j - 1)) < 0 := .inl (by omega)
          refine r_cons (s_move (.int .i64 (i : Int)) rfl rfl ?_)
          refine r_cons (s_add ((i : Int) + 1) rfl rfl (wi64 (by omega)) rfl ?_)
          refine r_cons (s_assign (.int .i64 ((i : Int) + 1)) rfl rfl ?_)
          refine r_nil ?_
          have H92 := Row.shut2 (p := p) (n := N) (c := c) (size := 5) (xs := M.flatMap nodeCell) H90 (i := 2) rfl hp17 h18 h19 h20 (by have hh : (cur16.toList.drop 0).take (M.length * 5) = M.flatMap nodeCell := (by rw [hD12]; exact h21); have hk : M.length = N := hD12; rw [hk] at hh; exact hh) (fun x_ hx_ => by obtain ⟨a_, _, ha_⟩ := List.mem_flatMap.1 hx_; exact one_node a_ x_ ha_)
          have H93 : St W w89 (Row 25 5 (.slice p N c) N (M.flatMap nodeCell) :: NodesA M :: NodeA (M.getD (j - 1) default) :: NodeA (M.getD j default) :: F) := ((H92.move 3 rfl).move 3 rfl)
          have H94 : St W w89 (DataA 25 p N c M :: NodeA (M.getD (j - 1) default) :: NodeA (M.getD j default) :: F) := DataA.make hD12 H93
          have H95 : St W w89 (DataA 25 p N c M :: F) := ((H94.drop 1 rfl).drop 1 rfl)
          have H96 : St W w89 (DataA 25 p N c M :: F) := H95
          exact nx5 (M, i + 1) _ _ ⟨(by omega), (by omega), (hseg.trans hseg2), (ins_done hins (by omega) he91), H96⟩ (by first | (dsimp only; omega) | omega) ⟨by first | rfl | exact vint (by omega), by first | rfl | exact vint (by omega), by first | rfl | exact vint (by omega), by first | rfl | exact vint (by omega), by first | rfl | exact vint (by omega), trivial⟩
    · skip
      refine r_cons (s_lss false rfl rfl (dfalse hc6) rfl ?_)
      refine r_nil ?_
      refine g_false rfl ?_
      refine g_exit (by rfl) ?_
      refine g_end' [] Try.func77 Try.results77 trivial ?_
      have H97 : St W w3 (DataA 25 p N c K :: F) := H4
      exact ⟨rfl, K, ⟨hseg, hs.sub (by omega) (by omega)⟩, H97⟩
end Sl
