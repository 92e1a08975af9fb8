/- Walks of the program's functions. Printed by a program of this claim's author. No condition. -/
import Derived.Test.YtfflafpcpbeciaaSlCP
import Derived.Test.YtfflafpcpbeciaaSlQ
import Derived.Test.YtfflafpcpbeciaaProg
import Derived.Test.YtfflafpcpbeciaaWalkNormalOrder2
namespace Sl
open _root_.Go _root_.Go.RowKit _root_.Go.Proofs
set_option linter.all false
set_option maxHeartbeats 4000000 in
set_option maxRecDepth 100000 in
theorem once_eq {W w : World} {F : List Atom} (n m : NodeD) {i : Nat} (hi : F[i]? = some (NodeA n)) {i2 : Nat} (hi2 : F[i2]? = some (NodeA m)) (H : St W w F) : Calls Try.prog 69 #[.agg #[.int .i64 n.kind.v, .string n.var.v, .string n.typ.v, .slice n.tp n.tests.length n.tc, .slice n.kp n.kids.length n.kc], .agg #[.int .i64 m.kind.v, .string m.var.v, .string m.typ.v, .slice m.tp m.tests.length m.tc, .slice m.kp m.kids.length m.kc]] w (Ret fun v w' => v = .bool (decide (cmpN n m = 0)) ∧ St W w' F) := by
  have H1 := H.dup (i := i + 0) (by exact hi) (NodeA_pers _)
  have H2 : St W w (NodeA n :: F) := H1
  have H3 := H2.dup (i := i2 + 1) (by exact hi2) (NodeA_pers _)
  have H4 : St W w (NodeA m :: NodeA n :: F) := H3
  refine calls_of_go (n := 9) Try.func69 rfl Try.ntmps69 rfl ?_
  refine g_seq ?_
  refine g_region ?_
  refine r_cons (s_box H4 25 (.agg #[.int .i64 n.kind.v, .string n.var.v, .string n.typ.v, .slice n.tp n.tests.length n.tc, .slice n.kp n.kids.length n.kc]) rfl (cs := #[.int .i64 n.kind.v, .string n.var.v, .string n.typ.v, .slice n.tp n.tests.length n.tc, .slice n.kp n.kids.length n.kc]) rfl rfl ?_); intro bk5 w6 H7
  refine r_cons (s_box H7 25 (.agg #[.int .i64 m.kind.v, .string m.var.v, .string m.typ.v, .slice m.tp m.tests.length m.tc, .slice m.kp m.kids.length m.kc]) rfl (cs := #[.int .i64 m.kind.v, .string m.var.v, .string m.typ.v, .slice m.tp m.tests.length m.tc, .slice m.kp m.kids.length m.kc]) rfl rfl ?_); intro bk8 w9 H10
  refine r_cons (s_assign (.bool false) rfl rfl ?_)
  refine r_nil ?_
  refine g_seq ?_
  refine g_region ?_
  refine r_cons (s_loadAgg [.int .i64 n.kind.v, .string n.var.v, .string n.typ.v, .slice n.tp n.tests.length n.tc, .slice n.kp n.kids.length n.kc] 5 ag_25 rfl (H10.blk_at (i := 1) rfl) (Nat.le_of_ble_eq_true rfl) rfl rfl ?_)
  refine r_cons (s_loadAgg [.int .i64 m.kind.v, .string m.var.v, .string m.typ.v, .slice m.tp m.tests.length m.tc, .slice m.kp m.kids.length m.kc] 5 ag_25 rfl (H10.blk_at (i := 0) rfl) (Nat.le_of_ble_eq_true rfl) rfl rfl ?_)
  refine r_cons (s_call [.agg #[.int .i64 n.kind.v, .string n.var.v, .string n.typ.v, .slice n.tp n.tests.length n.tc, .slice n.kp n.kids.length n.kc], .agg #[.int .i64 m.kind.v, .string m.var.v, .string m.typ.v, .slice m.tp m.tests.length m.tc, .slice m.kp m.kids.length m.kc]] pl_8 rfl rfl (normal_Compare n m (i := 3) rfl (i2 := 2) rfl H10) ?_)
  rintro _ w11 ⟨rfl, H12⟩
  by_cases hc13 : cmpN n m = 0
  · skip
    refine r_cons (s_eql true rfl rfl (dtrue hc13) rfl ?_)
    refine r_cons (s_assign (.bool true) rfl rfl ?_)
    refine r_nil ?_
    refine g_ret' [.bool true] Try.func69 Try.results69 ⟨rfl, trivial⟩ ?_
    have H14 : St W w11 F := ((((H12.drop 0 rfl).drop 0 rfl).drop 0 rfl).drop 0 rfl)
    exact ⟨congrArg Value.bool (by simp [hc13]), H14⟩
  · skip
    refine r_cons (s_eql false rfl rfl (dfalse hc13) rfl ?_)
    refine r_cons (s_assign (.bool false) rfl rfl ?_)
    refine r_nil ?_
    refine g_ret' [.bool false] Try.func69 Try.results69 ⟨rfl, trivial⟩ ?_
    have H15 : St W w11 F := ((((H12.drop 0 rfl).drop 0 rfl).drop 0 rfl).drop 0 rfl)
    exact ⟨congrArg Value.bool (by simp [hc13]), H15⟩
set_option maxHeartbeats 4000000 in
set_option maxRecDepth 100000 in
theorem Compact_ {W w : World} {F : List Atom} {p : Option Addr} {N c : Nat} (L : List NodeD) (hN : N ≤ 140737488355328) (H : St W w (DataA 25 p N c L :: F)) : Calls Try.prog 68 #[.slice p N c, .func (.func 69) #[] #[]] w (Ret fun v w' => v = .slice p (compact L).length c ∧ St W w' (DataA 25 p (compact L).length c (compact L) :: F)) := by
  have hD := (DataA.open H).1
  refine calls_of_go (n := 66) Try.func68 rfl Try.ntmps68 rfl ?_
  refine g_seq ?_
  refine g_region ?_
  refine r_cons (s_assign (.slice none 0 0) rfl rfl ?_)
  refine r_nil ?_
  refine g_seq ?_
  refine g_seq ?_
  refine g_region ?_
  refine r_cons (s_move (.slice p N c) rfl rfl ?_)
  refine r_cons (s_len N rfl ⟨_, un_23⟩ rfl ?_)
  by_cases hc1 : (N : Int) < 2
  · skip
    refine r_cons (s_lss true rfl rfl (dtrue hc1) rfl ?_)
    refine r_nil ?_
    refine g_true rfl ?_
    refine g_seq ?_
    refine g_region ?_
    refine r_cons (s_move (.slice p N c) rfl rfl ?_)
    refine r_cons (s_assign (.slice p N c) rfl rfl ?_)
    refine r_nil ?_
    refine g_ret' [.slice p N c] Try.func68 Try.results68 ⟨rfl, trivial⟩ ?_
    have H2 : St W w (DataA 25 p N c L :: F) := H
    have hc9 : compact L = L := compact_short (by omega)
    exact ⟨by rw [hc9, hD]; rfl, by rw [hc9, hD]; exact H2⟩
  · skip
    refine r_cons (s_lss false rfl rfl (dfalse hc1) rfl ?_)
    refine r_nil ?_
    refine g_false rfl ?_
    refine g_skip ?_
    refine g_seq ?_
    refine g_seq ?_
    refine g_region ?_
    refine r_cons (s_assign (.int .i64 1) rfl rfl ?_)
    refine r_nil ?_
    refine g_block ?_
    have H3 : St W w (DataA 25 p N c L :: F) := H
    refine g_loop_inv (fun (x_ : Nat) => match x_ with | k => [(0, .slice p N c), (1, .func (.func 69) #[] #[]), (4, .slice none 0 0), (5, .int .i64 (k : Int))]) (fun (x_ : Nat) w => match x_ with | k => (1 ≤ k) ∧ (k ≤ N) ∧ (∀ q, 1 ≤ q → q < k → ¬ cmpN (gd L q) (gd L (q - 1)) = 0) ∧ St W w (DataA 25 p N c L :: F)) (fun (x_ : Nat) => match x_ with | k => N - k) (1) ?_ ?_ ?_
    · exact ⟨by first | rfl | exact vint (by omega), by first | rfl | exact vint (by omega), by first | rfl | exact vint (by omega), by first | rfl | exact vint (by omega), trivial⟩
    · exact ⟨(by omega), (by omega), (fun q h1 h2 => by omega), H3⟩
    · rintro k ρ4 w5 ⟨hk, hkN, hz, H6⟩ nx7
      change Ends _ _ (upds ρ4 [(0, .slice p N c), (1, .func (.func 69) #[] #[]), (4, .slice none 0 0), (5, .int .i64 (k : Int))]) w5
      refine g_seq ?_
      refine g_seq ?_
      refine g_region ?_
      refine r_cons (s_move (.int .i64 (k : Int)) rfl rfl ?_)
      refine r_cons (s_move (.slice p N c) rfl rfl ?_)
      refine r_cons (s_len N rfl ⟨_, un_23⟩ rfl ?_)
      by_cases hc8 : (k : Int) < (N : Int)
      · skip
        refine r_cons (s_lss true rfl rfl (dtrue hc8) rfl ?_)
        refine r_nil ?_
        refine g_true rfl ?_
        refine g_skip ?_
        refine g_seq ?_
        refine g_block ?_
        refine g_seq ?_
        obtain ⟨hD9, H10⟩ := DataA.open H6
        have H11 : St W w5 (Row 25 5 (.slice p N c) N (L.flatMap nodeCell) :: NodesA L :: F) := H10
        obtain ⟨bk12, cur13, hp14, h15, h16, h17, h18, h19, H20⟩ := Row.open2 H11 (i := 0) rfl (by omega)
        have H21 := NodesA.at H20 (i := 1) rfl (j := k) (by omega)
        have H22 := NodesA.at H21 (i := 2) rfl (j := (k - 1)) (by omega)
        refine g_mix (fun t_ w => St W w (NodeA (L.getD (k - 1) default) :: NodeA (L.getD k default) :: blk bk12 (.cells cur13 25 (0, 0)) :: NodesA L :: t_)) F mixed 11 rfl H22.drew ?_
        refine f_first 0 (listed' := #[true, false, false, false, false, false, false, false, false, false, false]) rfl (by kernel_rfl) (by kernel_rfl) (by kernel_rfl) rfl ?_
        refine f_val rfl rfl rfl (by intro t_ w hw; exact x_move (.func (.func 69) #[] #[]) rfl w) ?_
        refine f_first 1 (listed' := #[true, true, false, false, false, false, false, false, false, false, false]) rfl (by kernel_rfl) (by kernel_rfl) (by kernel_rfl) rfl ?_
        refine f_val rfl rfl rfl (by intro t_ w hw; exact x_move (.slice p N c) rfl w) ?_
        refine f_first 2 (listed' := #[true, true, true, false, false, false, false, false, false, false, false]) rfl (by kernel_rfl) (by kernel_rfl) (by kernel_rfl) rfl ?_
        refine f_val rfl rfl rfl (by intro t_ w hw; exact x_move (.int .i64 (k : Int)) rfl w) ?_
        refine f_first 3 (listed' := #[true, true, true, true, false, false, false, false, false, false, false]) rfl (by kernel_rfl) (by kernel_rfl) (by kernel_rfl) rfl ?_
        refine f_val rfl rfl rfl (by intro t_ w hw; exact x_indexAddr bk12 (off := 0) (k : Int) 5 (0 + k * 5) (by exact congrArg (fun z_ => Value.slice z_ N c) ((fun (_ : 0 < 1) => hp14) (by omega))) rfl el_23 (by omega) rfl w) ?_
        refine f_first 4 (listed' := #[true, true, true, true, true, false, false, false, false, false, false]) rfl (by kernel_rfl) (by kernel_rfl) (by kernel_rfl) rfl ?_
        refine f_val rfl rfl rfl (by intro t_ w hw; exact x_loadAgg [.int .i64 ((L.getD k default).kind.v), .string ((L.getD k default).var.v), .string ((L.getD k default).typ.v), .slice ((L.getD k default).tp) ((L.getD k default).tests.length) ((L.getD k default).tc), .slice ((L.getD k default).kp) ((L.getD k default).kids.length) ((L.getD k default).kc)] 5 ag_25 rfl (hw.blk_at (i := 2) rfl) (by have := elem_size (i := k) (s := 5) (show 0 + L.length * 5 ≤ cur13.size by have := (show L.length * 5 ≤ cur13.size by rw [hD9, h17]; exact Nat.mul_le_mul_right 5 h15); omega) (by have hh : L.length = N := hD9; omega); omega) (elem_take nodeCell_len (by rw [hD9]; exact h18) (by have hh : L.length = N := hD9; omega) default)) ?_
        refine f_first 5 (listed' := #[true, true, true, true, true, true, false, false, false, false, false]) rfl (by kernel_rfl) (by kernel_rfl) (by kernel_rfl) rfl ?_
        refine f_val rfl rfl rfl (by intro t_ w hw; exact x_move (.slice p N c) rfl w) ?_
        refine f_first 6 (listed' := #[true, true, true, true, true, true, true, false, false, false, false]) rfl (by kernel_rfl) (by kernel_rfl) (by kernel_rfl) rfl ?_
        refine f_val rfl rfl rfl (by intro t_ w hw; exact x_move (.int .i64 (k : Int)) rfl w) ?_
        refine f_first 7 (listed' := #[true, true, true, true, true, true, true, true, false, false, false]) rfl (by kernel_rfl) (by kernel_rfl) (by kernel_rfl) rfl ?_
        refine f_val rfl rfl rfl (by intro t_ w hw; exact x_sub ((k : Int) - 1) rfl rfl (wi64 (by omega)) w) ?_
        refine f_first 8 (listed' := #[true, true, true, true, true, true, true, true, true, false, false]) rfl (by kernel_rfl) (by kernel_rfl) (by kernel_rfl) rfl ?_
        refine f_val rfl rfl rfl (by intro t_ w hw; exact x_indexAddr bk12 (off := 0) ((k : Int) - 1) 5 (0 + (k - 1) * 5) (by exact congrArg (fun z_ => Value.slice z_ N c) ((fun (_ : 0 < 1) => hp14) (by omega))) rfl el_23 (by omega) (by rw [show ((k : Int) - 1 : Int).toNat = k - 1 from by omega]) w) ?_
        refine f_first 9 (listed' := #[true, true, true, true, true, true, true, true, true, true, false]) rfl (by kernel_rfl) (by kernel_rfl) (by kernel_rfl) rfl ?_
        refine f_val rfl rfl rfl (by intro t_ w hw; exact x_loadAgg [.int .i64 ((L.getD (k - 1) default).kind.v), .string ((L.getD (k - 1) default).var.v), .string ((L.getD (k - 1) default).typ.v), .slice ((L.getD (k - 1) default).tp) ((L.getD (k - 1) default).tests.length) ((L.getD (k - 1) default).tc), .slice ((L.getD (k - 1) default).kp) ((L.getD (k - 1) default).kids.length) ((L.getD (k - 1) default).kc)] 5 ag_25 rfl (hw.blk_at (i := 2) rfl) (by have := elem_size (i := k - 1) (s := 5) (show 0 + L.length * 5 ≤ cur13.size by have := (show L.length * 5 ≤ cur13.size by rw [hD9, h17]; exact Nat.mul_le_mul_right 5 h15); omega) (by have hh : L.length = N := hD9; omega); omega) (elem_take nodeCell_len (by rw [hD9]; exact h18) (by have hh : L.length = N := hD9; omega) default)) ?_
        refine f_all (rs := [10]) (by kernel_rfl) (by simp) ?_
        refine a_cons ⟨_, rfl, ?_⟩ (fun x hx => absurd hx (by simp))
        intro w23 H24
        try dsimp only at H24
        refine s_callv [] [.agg #[.int .i64 ((L.getD k default).kind.v), .string ((L.getD k default).var.v), .string ((L.getD k default).typ.v), .slice ((L.getD k default).tp) ((L.getD k default).tests.length) ((L.getD k default).tc), .slice ((L.getD k default).kp) ((L.getD k default).kids.length) ((L.getD k default).kc)], .agg #[.int .i64 ((L.getD (k - 1) default).kind.v), .string ((L.getD (k - 1) default).var.v), .string ((L.getD (k - 1) default).typ.v), .slice ((L.getD (k - 1) default).tp) ((L.getD (k - 1) default).tests.length) ((L.getD (k - 1) default).tc), .slice ((L.getD (k - 1) default).kp) ((L.getD (k - 1) default).kids.length) ((L.getD (k - 1) default).kc)]] rfl pl_69 rfl rfl (once_eq (L.getD k default) (L.getD (k - 1) default) (i := 1) rfl (i2 := 0) rfl H24) ?_
        rintro _ w25 ⟨rfl, H26⟩
        refine ⟨F, ?_, H26⟩
        change FReg _ _ _ _ _ #[true, true, true, true, true, true, true, true, true, true, true] _ _
        refine f_done (by kernel_rfl) ?_
        intro w27 H28
        by_cases hb29 : (decide (cmpN (L.getD k default) (L.getD (k - 1) default) = 0)) = true
        · skip
          refine g_true (congrArg Value.bool hb29) ?_
          refine g_seq ?_
          refine g_region ?_
          refine r_cons (s_move (.slice p N c) rfl rfl ?_)
          refine r_cons (s_move (.int .i64 (k : Int)) rfl rfl ?_)
          obtain ⟨M, hM⟩ : ∃ z_ : Nat, z_ = N - k := ⟨_, rfl⟩
          refine r_cons (s_slice_l p (k : Int) 5 (.slice (cutAt p k c 5) M (c - k)) rfl rfl el_23 (by omega) (by rw [hM]; rfl) rfl ?_)
          refine r_cons (s_assign (.slice (cutAt p k c 5) M (c - k)) rfl rfl ?_)
          refine r_nil ?_
          refine g_seq ?_
          refine g_seq ?_
          refine g_region ?_
          refine r_cons (s_assign (.int .i64 1) rfl rfl ?_)
          refine r_nil ?_
          refine g_block ?_
          have hct0 : Cpt L L k (k + 1) := Cpt.start hz (by omega) (by omega) (of_decide_eq_true hb29)
          have H30 := Row.shut2 (p := p) (n := N) (c := c) (size := 5) (xs := L.flatMap nodeCell) H28 (i := 2) rfl hp14 h15 h16 h17 (by have hh : (cur13.toList.drop 0).take (L.length * 5) = L.flatMap nodeCell := (by rw [hD9]; exact h18); have hk : L.length = N := hD9; rw [hk] at hh; exact hh) (fun x_ hx_ => by obtain ⟨a_, _, ha_⟩ := List.mem_flatMap.1 hx_; exact one_node a_ x_ ha_)
          have H31 : St W w27 (Row 25 5 (.slice p N c) N (L.flatMap nodeCell) :: NodesA L :: NodeA (L.getD (k - 1) default) :: NodeA (L.getD k default) :: F) := ((H30.move 3 rfl).move 3 rfl)
          have H32 : St W w27 (DataA 25 p N c L :: NodeA (L.getD (k - 1) default) :: NodeA (L.getD k default) :: F) := DataA.make hD9 H31
          have H33 : St W w27 (DataA 25 p N c L :: F) := ((H32.drop 1 rfl).drop 1 rfl)
          have H34 : St W w27 (DataA 25 p N c L :: F) := H33
          refine g_loop_inv (fun (x_ : (List NodeD) × Nat × Nat) => match x_ with | (K, i, j) => [(0, .slice p N c), (1, .func (.func 69) #[] #[]), (4, .slice none 0 0), (5, .int .i64 (i : Int)), (6, .slice (cutAt p k c 5) M (c - k)), (7, .int .i64 (j : Int))]) (fun (x_ : (List NodeD) × Nat × Nat) w => match x_ with | (K, i, j) => (1 ≤ j) ∧ (Cpt L K i (k + j)) ∧ St W w (DataA 25 p N c K :: F)) (fun (x_ : (List NodeD) × Nat × Nat) => match x_ with | (K, i, j) => M - j) (L, k, 1) ?_ ?_ ?_
          · exact ⟨by first | rfl | exact vint (by omega), by first | rfl | exact vint (by omega), by first | rfl | exact vint (by omega), by first | rfl | exact vint (by omega), by first | rfl | exact vint (by omega), by first | rfl | exact vint (by omega), trivial⟩
          · exact ⟨(by omega), hct0, H34⟩
          · rintro ⟨K, i, j⟩ ρ35 w36 ⟨hj, hct, H37⟩ nx38
            change Ends _ _ (upds ρ35 [(0, .slice p N c), (1, .func (.func 69) #[] #[]), (4, .slice none 0 0), (5, .int .i64 (i : Int)), (6, .slice (cutAt p k c 5) M (c - k)), (7, .int .i64 (j : Int))]) w36
            refine g_seq ?_
            refine g_seq ?_
            refine g_region ?_
            refine r_cons (s_move (.int .i64 (j : Int)) rfl rfl ?_)
            refine r_cons (s_move (.slice (cutAt p k c 5) M (c - k)) rfl rfl ?_)
            refine r_cons (s_len M rfl ⟨_, un_23⟩ rfl ?_)
            by_cases hc39 : (j : Int) < (M : Int)
            · skip
              refine r_cons (s_lss true rfl rfl (dtrue hc39) rfl ?_)
              refine r_nil ?_
              refine g_true rfl ?_
              refine g_skip ?_
              refine g_seq ?_
              refine g_block ?_
              refine g_seq ?_
              have hlk := hct.len; have hle := hct.le; have hlt := hct.lt
              obtain ⟨hD40, H41⟩ := DataA.open H37
              have H42 : St W w36 (Row 25 5 (.slice p N c) N (K.flatMap nodeCell) :: NodesA K :: F) := H41
              obtain ⟨bk43, cur44, hp45, h46, h47, h48, h49, h50, H51⟩ := Row.open2 H42 (i := 0) rfl (by omega)
              have H52 := NodesA.at H51 (i := 1) rfl (j := (k + j)) (by omega)
              have H53 := NodesA.at H52 (i := 2) rfl (j := (k + j - 1)) (by omega)
              refine g_mix (fun t_ w => St W w (NodeA (K.getD (k + j - 1) default) :: NodeA (K.getD (k + j) default) :: blk bk43 (.cells cur44 25 (0, 0)) :: NodesA K :: t_)) F mixed 12 rfl H53.drew ?_
              refine f_first 0 (listed' := #[true, false, false, false, false, false, false, false, false, false, false, false]) rfl (by kernel_rfl) (by kernel_rfl) (by kernel_rfl) rfl ?_
              refine f_val rfl rfl rfl (by intro t_ w hw; exact x_move (.func (.func 69) #[] #[]) rfl w) ?_
              refine f_first 1 (listed' := #[true, true, false, false, false, false, false, false, false, false, false, false]) rfl (by kernel_rfl) (by kernel_rfl) (by kernel_rfl) rfl ?_
              refine f_val rfl rfl rfl (by intro t_ w hw; exact x_move (.slice (cutAt p k c 5) M (c - k)) rfl w) ?_
              refine f_first 2 (listed' := #[true, true, true, false, false, false, false, false, false, false, false, false]) rfl (by kernel_rfl) (by kernel_rfl) (by kernel_rfl) rfl ?_
              refine f_val rfl rfl rfl (by intro t_ w hw; exact x_move (.int .i64 (j : Int)) rfl w) ?_
              refine f_first 3 (listed' := #[true, true, true, true, false, false, false, false, false, false, false, false]) rfl (by kernel_rfl) (by kernel_rfl) (by kernel_rfl) rfl ?_
              refine f_val rfl rfl rfl (by intro t_ w hw; exact x_indexAddr bk43 (off := k * 5) (j : Int) 5 (0 + (k + j) * 5) (by exact congrArg (fun z_ => Value.slice z_ M (c - k)) (cut_at ((fun (_ : 0 < 1) => hp45) (by omega)) (by have h9 := h46; omega))) rfl el_23 (by omega) (by omega) w) ?_
              refine f_first 4 (listed' := #[true, true, true, true, true, false, false, false, false, false, false, false]) rfl (by kernel_rfl) (by kernel_rfl) (by kernel_rfl) rfl ?_
              refine f_val rfl rfl rfl (by intro t_ w hw; exact x_loadAgg [.int .i64 ((K.getD (k + j) default).kind.v), .string ((K.getD (k + j) default).var.v), .string ((K.getD (k + j) default).typ.v), .slice ((K.getD (k + j) default).tp) ((K.getD (k + j) default).tests.length) ((K.getD (k + j) default).tc), .slice ((K.getD (k + j) default).kp) ((K.getD (k + j) default).kids.length) ((K.getD (k + j) default).kc)] 5 ag_25 rfl (hw.blk_at (i := 2) rfl) (by have := elem_size (i := k + j) (s := 5) (show 0 + K.length * 5 ≤ cur44.size by have := (show K.length * 5 ≤ cur44.size by rw [hD40, h48]; exact Nat.mul_le_mul_right 5 h46); omega) (by have hh : K.length = N := hD40; omega); omega) (elem_take nodeCell_len (by rw [hD40]; exact h49) (by have hh : K.length = N := hD40; omega) default)) ?_
              refine f_first 5 (listed' := #[true, true, true, true, true, true, false, false, false, false, false, false]) rfl (by kernel_rfl) (by kernel_rfl) (by kernel_rfl) rfl ?_
              refine f_val rfl rfl rfl (by intro t_ w hw; exact x_move (.slice (cutAt p k c 5) M (c - k)) rfl w) ?_
              refine f_first 6 (listed' := #[true, true, true, true, true, true, true, false, false, false, false, false]) rfl (by kernel_rfl) (by kernel_rfl) (by kernel_rfl) rfl ?_
              refine f_val rfl rfl rfl (by intro t_ w hw; exact x_move (.int .i64 (j : Int)) rfl w) ?_
              refine f_first 7 (listed' := #[true, true, true, true, true, true, true, true, false, false, false, false]) rfl (by kernel_rfl) (by kernel_rfl) (by kernel_rfl) rfl ?_
              refine f_val rfl rfl rfl (by intro t_ w hw; exact x_sub ((j : Int) - 1) rfl rfl (wi64 (by omega)) w) ?_
              refine f_first 8 (listed' := #[true, true, true, true, true, true, true, true, true, false, false, false]) rfl (by kernel_rfl) (by kernel_rfl) (by kernel_rfl) rfl ?_
              refine f_val rfl rfl rfl (by intro t_ w hw; exact x_indexAddr bk43 (off := k * 5) ((j : Int) - 1) 5 (0 + (k + j - 1) * 5) (by exact congrArg (fun z_ => Value.slice z_ M (c - k)) (cut_at ((fun (_ : 0 < 1) => hp45) (by omega)) (by have h9 := h46; omega))) rfl el_23 (by omega) (by omega) w) ?_
              refine f_first 9 (listed' := #[true, true, true, true, true, true, true, true, true, true, false, false]) rfl (by kernel_rfl) (by kernel_rfl) (by kernel_rfl) rfl ?_
              refine f_val rfl rfl rfl (by intro t_ w hw; exact x_loadAgg [.int .i64 ((K.getD (k + j - 1) default).kind.v), .string ((K.getD (k + j - 1) default).var.v), .string ((K.getD (k + j - 1) default).typ.v), .slice ((K.getD (k + j - 1) default).tp) ((K.getD (k + j - 1) default).tests.length) ((K.getD (k + j - 1) default).tc), .slice ((K.getD (k + j - 1) default).kp) ((K.getD (k + j - 1) default).kids.length) ((K.getD (k + j - 1) default).kc)] 5 ag_25 rfl (hw.blk_at (i := 2) rfl) (by have := elem_size (i := k + j - 1) (s := 5) (show 0 + K.length * 5 ≤ cur44.size by have := (show K.length * 5 ≤ cur44.size by rw [hD40, h48]; exact Nat.mul_le_mul_right 5 h46); omega) (by have hh : K.length = N := hD40; omega); omega) (elem_take nodeCell_len (by rw [hD40]; exact h49) (by have hh : K.length = N := hD40; omega) default)) ?_
              refine f_all (rs := [10]) (by kernel_rfl) (by simp) ?_
              refine a_cons ⟨_, rfl, ?_⟩ (fun x hx => absurd hx (by simp))
              intro w54 H55
              try dsimp only at H55
              refine s_callv [] [.agg #[.int .i64 ((K.getD (k + j) default).kind.v), .string ((K.getD (k + j) default).var.v), .string ((K.getD (k + j) default).typ.v), .slice ((K.getD (k + j) default).tp) ((K.getD (k + j) default).tests.length) ((K.getD (k + j) default).tc), .slice ((K.getD (k + j) default).kp) ((K.getD (k + j) default).kids.length) ((K.getD (k + j) default).kc)], .agg #[.int .i64 ((K.getD (k + j - 1) default).kind.v), .string ((K.getD (k + j - 1) default).var.v), .string ((K.getD (k + j - 1) default).typ.v), .slice ((K.getD (k + j - 1) default).tp) ((K.getD (k + j - 1) default).tests.length) ((K.getD (k + j - 1) default).tc), .slice ((K.getD (k + j - 1) default).kp) ((K.getD (k + j - 1) default).kids.length) ((K.getD (k + j - 1) default).kc)]] rfl pl_69 rfl rfl (once_eq (K.getD (k + j) default) (K.getD (k + j - 1) default) (i := 1) rfl (i2 := 0) rfl H55) ?_
              rintro _ w56 ⟨rfl, H57⟩
              refine ⟨F, ?_, H57⟩
              change FReg _ _ _ _ _ #[true, true, true, true, true, true, true, true, true, true, true, false] _ _
              refine f_first 11 (listed' := #[true, true, true, true, true, true, true, true, true, true, true, true]) rfl (by kernel_rfl) (by kernel_rfl) (by kernel_rfl) rfl ?_
              refine f_val rfl rfl rfl (by intro t_ w hw; exact x_not (decide (cmpN (K.getD (k + j) default) (K.getD (k + j - 1) default) = 0)) rfl (!(decide (cmpN (K.getD (k + j) default) (K.getD (k + j - 1) default) = 0))) rfl w) ?_
              refine f_done (by kernel_rfl) ?_
              intro w58 H59
              by_cases hb60 : (!(decide (cmpN (K.getD (k + j) default) (K.getD (k + j - 1) default) = 0))) = true
              · skip
                refine g_true (congrArg Value.bool hb60) ?_
                refine g_seq ?_
                refine g_region ?_
                refine r_cons (s_move (.slice p N c) rfl rfl ?_)
                refine r_cons (s_move (.int .i64 (i : Int)) rfl rfl ?_)
                refine r_cons (s_move (.slice (cutAt p k c 5) M (c - k)) rfl rfl ?_)
                refine r_cons (s_move (.int .i64 (j : Int)) rfl rfl ?_)
                refine r_cons (s_indexAddr bk43 (off := k * 5) (j : Int) 5 (0 + (k + j) * 5) (by exact congrArg (fun z_ => Value.slice z_ M (c - k)) (cut_at ((fun (_ : 0 < 1) => hp45) (by omega)) (by have h9 := h46; omega))) rfl el_23 (by omega) (by omega) rfl ?_)
                refine r_cons (s_loadAgg [.int .i64 ((K.getD (k + j) default).kind.v), .string ((K.getD (k + j) default).var.v), .string ((K.getD (k + j) default).typ.v), .slice ((K.getD (k + j) default).tp) ((K.getD (k + j) default).tests.length) ((K.getD (k + j) default).tc), .slice ((K.getD (k + j) default).kp) ((K.getD (k + j) default).kids.length) ((K.getD (k + j) default).kc)] 5 ag_25 rfl (H59.blk_at (i := 2) rfl) (by have := elem_size (i := k + j) (s := 5) (show 0 + K.length * 5 ≤ cur44.size by have := (show K.length * 5 ≤ cur44.size by rw [hD40, h48]; exact Nat.mul_le_mul_right 5 h46); omega) (by have hh : K.length = N := hD40; omega); omega) (elem_take nodeCell_len (by rw [hD40]; exact h49) (by have hh : K.length = N := hD40; omega) default) rfl ?_)
                refine r_cons (s_indexAddr bk43 (off := 0) (i : Int) 5 (0 + i * 5) (by exact congrArg (fun z_ => Value.slice z_ N c) ((fun (_ : 0 < 1) => hp45) (by omega))) rfl el_23 (by omega) rfl rfl ?_)
                have hx63 := row_setN (f := nodeCell) (L := K) (cur := cur44) nodeCell_len (by decide) (by rw [hD40]; exact h49) (show K.length * 5 ≤ cur44.size by rw [hD40, h48]; exact Nat.mul_le_mul_right 5 h46) (j := i) (by have hh := hD40; omega) (K.getD (k + j) default)
                refine r_cons (s_storeAgg H59 2 #[.int .i64 ((K.getD (k + j) default).kind.v), .string ((K.getD (k + j) default).var.v), .string ((K.getD (k + j) default).typ.v), .slice ((K.getD (k + j) default).tp) ((K.getD (k + j) default).tests.length) ((K.getD (k + j) default).tc), .slice ((K.getD (k + j) default).kp) ((K.getD (k + j) default).kids.length) ((K.getD (k + j) default).kc)] 5 rfl rfl rfl sz_25 rfl (fun v_ hv_ => one_node (K.getD (k + j) default) v_ hv_) (by have hh := hD40; have hk := (show K.length * 5 ≤ cur44.size by rw [hD40, h48]; exact Nat.mul_le_mul_right 5 h46); omega) (fun o_ h1_ h2_ => by simp) (cs' := (writes cur44 (0 + i * 5) (nodeCell (K.getD (k + j) default)))) rfl ?_); intro w61 H62
                refine r_nil ?_
                refine g_region ?_
                refine r_cons (s_move (.int .i64 (i : Int)) rfl rfl ?_)
                refine r_cons (s_add ((i : Int) + 1) rfl rfl (wi64 (by omega)) rfl ?_)
                refine r_cons (s_assign (.int .i64 ((i : Int) + 1)) rfl rfl ?_)
                refine r_nil ?_
                refine g_inBlock ?_
                refine g_region ?_
                refine r_cons (s_move (.int .i64 (j : Int)) rfl rfl ?_)
                refine r_cons (s_add ((j : Int) + 1) rfl rfl (wi64 (by omega)) rfl ?_)
                refine r_cons (s_assign (.int .i64 ((j : Int) + 1)) rfl rfl ?_)
                refine r_nil ?_
                have hL64 : (K.set i (K.getD (k + j) default)) = (K.set i (K.getD (k + j) default)) := rfl
                have H65 := Row.shut2 (p := p) (n := N) (c := c) (size := 5) (xs := (K.set i (K.getD (k + j) default)).flatMap nodeCell) H62 (i := 2) rfl hp45 h46 h47 (show (writes cur44 (0 + i * 5) (nodeCell (K.getD (k + j) default))).size = c * 5 from by rw [writes_size]; exact h48) (by have hh : ((writes cur44 (0 + i * 5) (nodeCell (K.getD (k + j) default))).toList.drop 0).take ((K.set i (K.getD (k + j) default)).length * 5) = (K.set i (K.getD (k + j) default)).flatMap nodeCell := hx63; have hk : (K.set i (K.getD (k + j) default)).length = N := (show ((K.set i (K.getD (k + j) default))).length = N from by first | (rw [List.length_set]; exact hD40) | rw [List.length_set]); rw [hk] at hh; rw [hL64] at hh; exact hh) (fun x_ hx_ => by obtain ⟨a_, _, ha_⟩ := List.mem_flatMap.1 hx_; exact one_node a_ x_ ha_)
                have H66 : St W w61 (NodesA (K.set i (K.getD (k + j) default)) :: NodeA (K.getD (k + j - 1) default) :: NodeA (K.getD (k + j) default) :: Row 25 5 (.slice p N c) N ((K.set i (K.getD (k + j) default)).flatMap nodeCell) :: NodesA K :: F) := NodesA.sub H65 (i := 3) rfl (Cpt.mem (by omega))
                have H67 : St W w61 (Row 25 5 (.slice p N c) N ((K.set i (K.getD (k + j) default)).flatMap nodeCell) :: NodesA (K.set i (K.getD (k + j) default)) :: NodeA (K.getD (k + j - 1) default) :: NodeA (K.getD (k + j) default) :: NodesA K :: F) := (H66.move 3 rfl)
                have H68 : St W w61 (DataA 25 p N c (K.set i (K.getD (k + j) default)) :: NodeA (K.getD (k + j - 1) default) :: NodeA (K.getD (k + j) default) :: NodesA K :: F) := DataA.make (by rw [List.length_set]; exact hD40) H67
                have H69 : St W w61 (DataA 25 p N c (K.set i (K.getD (k + j) default)) :: F) := (((H68.drop 1 rfl).drop 1 rfl).drop 1 rfl)
                have H70 : St W w61 (DataA 25 p N c (K.set i (K.getD (k + j) default)) :: F) := H69
                exact nx38 ((K.set i (K.getD (k + j) default)), i + 1, j + 1) _ _ ⟨(by omega), (hct.put (by omega) (by simpa using hb60)), H70⟩ (by first | (dsimp only; omega) | omega) ⟨by first | rfl | exact vint (by omega), by first | rfl | exact vint (by omega), by first | rfl | exact vint (by omega), by first | rfl | exact vint (by omega), by first | rfl | exact vint (by omega), by first | rfl | exact vint (by omega), trivial⟩
              · have hb60 := eq_false_of_ne_true hb60
                refine g_false (congrArg Value.bool hb60) ?_
                refine g_skip ?_
                refine g_inBlock ?_
                refine g_region ?_
                refine r_cons (s_move (.int .i64 (j : Int)) rfl rfl ?_)
                refine r_cons (s_add ((j : Int) + 1) rfl rfl (wi64 (by omega)) rfl ?_)
                refine r_cons (s_assign (.int .i64 ((j : Int) + 1)) rfl rfl ?_)
                refine r_nil ?_
                have H71 := Row.shut2 (p := p) (n := N) (c := c) (size := 5) (xs := K.flatMap nodeCell) H59 (i := 2) rfl hp45 h46 h47 h48 (by have hh : (cur44.toList.drop 0).take (K.length * 5) = K.flatMap nodeCell := (by rw [hD40]; exact h49); have hk : K.length = N := hD40; rw [hk] at hh; exact hh) (fun x_ hx_ => by obtain ⟨a_, _, ha_⟩ := List.mem_flatMap.1 hx_; exact one_node a_ x_ ha_)
                have H72 : St W w58 (Row 25 5 (.slice p N c) N (K.flatMap nodeCell) :: NodesA K :: NodeA (K.getD (k + j - 1) default) :: NodeA (K.getD (k + j) default) :: F) := ((H71.move 3 rfl).move 3 rfl)
                have H73 : St W w58 (DataA 25 p N c K :: NodeA (K.getD (k + j - 1) default) :: NodeA (K.getD (k + j) default) :: F) := DataA.make hD40 H72
                have H74 : St W w58 (DataA 25 p N c K :: F) := ((H73.drop 1 rfl).drop 1 rfl)
                have H75 : St W w58 (DataA 25 p N c K :: F) := H74
                exact nx38 (K, i, j + 1) _ _ ⟨(by omega), (hct.skip (by omega) (by simpa using hb60)), H75⟩ (by first | (dsimp only; omega) | omega) ⟨by first | rfl | exact vint (by omega), by first | rfl | exact vint (by omega), by first | rfl | exact vint (by omega), by first | rfl | exact vint (by omega), by first | rfl | exact vint (by omega), by first | rfl | exact vint (by omega), trivial⟩
            · skip
              refine r_cons (s_lss false rfl rfl (dfalse hc39) rfl ?_)
              refine r_nil ?_
              refine g_false rfl ?_
              refine g_exit (by rfl) ?_
              refine g_seq ?_
              refine g_region ?_
              refine r_cons (s_move (.slice p N c) rfl rfl ?_)
              refine r_cons (s_move (.int .i64 (i : Int)) rfl rfl ?_)
              have hlk := hct.len; have hle := hct.le; have hlt := hct.lt
              have hMj : N ≤ k + j := by omega
              obtain ⟨hD76, H77⟩ := DataA.open H37
              have H78 : St W w36 (Row 25 5 (.slice p N c) N (K.flatMap nodeCell) :: NodesA K :: F) := H77
              obtain ⟨bk79, cur80, hp81, h82, h83, h84, h85, h86, H87⟩ := Row.open2 H78 (i := 0) rfl (by omega)
              have hNc := h82
              obtain ⟨M2, hM2⟩ : ∃ z_ : Nat, z_ = N - i := ⟨_, rfl⟩
              refine r_cons (s_slice_l p (i : Int) 5 (.slice (cutAt p i c 5) M2 (c - i)) rfl rfl el_23 (by omega) (by rw [hM2]; rfl) rfl ?_)
              refine r_cons (s_clear H87 0 (off := i * 5) (n := M2) rfl (by exact congrArg (fun z_ => Value.slice z_ M2 (c - i)) (cut_at hp81 (by omega))) (by omega) un_23 in_25 (fun v_ hv_ => zero_cells (by decide +kernel) M2 v_ hv_) (show i * 5 + M2 * 5 ≤ _ from by rw [h84]; omega) (cs' := _) rfl ?_); intro w88 H89
              have H90 := Row.shut2 (p := p) (n := i) (c := c) (size := 5) (xs := (K.take i).flatMap nodeCell) H89 (i := 0) rfl hp81 (by omega) h83 (by rw [writes_size]; exact h84) (clear_take (by rw [hD76]; exact h85) (by omega) (by rw [zero_len]; show i * 5 + M2 * 5 ≤ _; rw [h84]; omega)) (fun x_ hx_ => by obtain ⟨a_, _, ha_⟩ := List.mem_flatMap.1 hx_; exact one_node a_ x_ ha_)
              have H91 : St W w88 (Row 25 5 (.slice p i c) i ((K.take i).flatMap nodeCell) :: NodesA K :: F) := H90
              refine r_nil ?_
              refine g_seq ?_
              refine g_region ?_
              refine r_cons (s_move (.slice p N c) rfl rfl ?_)
              refine r_cons (s_move (.int .i64 (i : Int)) rfl rfl ?_)
              refine r_cons (s_slice_h p (i : Int) 5 (.slice p i c) rfl rfl el_23 (by omega) rfl rfl ?_)
              refine r_cons (s_assign (.slice p i c) rfl rfl ?_)
              refine r_nil ?_
              refine g_ret' [.slice p i c] Try.func68 Try.results68 ⟨rfl, trivial⟩ ?_
              have H92 : St W w88 (NodesA (K.take i) :: Row 25 5 (.slice p i c) i ((K.take i).flatMap nodeCell) :: NodesA K :: F) := NodesA.sub H91 (i := 1) rfl (take_mem (i := i))
              have H93 : St W w88 (Row 25 5 (.slice p i c) i ((K.take i).flatMap nodeCell) :: NodesA (K.take i) :: NodesA K :: F) := (H92.move 1 rfl)
              have hcm := hct.done (by omega)
              have hcl := hct.ilen (by omega)
              have H95 : St W w88 (DataA 25 p i c (K.take i) :: NodesA K :: F) := DataA.make (by rw [List.length_take]; omega) H93
              have H96 : St W w88 (DataA 25 p i c (K.take i) :: F) := (H95.drop 1 rfl)
              exact ⟨by rw [hcl]; rfl, by rw [hcl, ← hcm]; exact H96⟩
        · have hb29 := eq_false_of_ne_true hb29
          refine g_false (congrArg Value.bool hb29) ?_
          refine g_skip ?_
          refine g_inBlock ?_
          refine g_region ?_
          refine r_cons (s_move (.int .i64 (k : Int)) rfl rfl ?_)
          refine r_cons (s_add ((k : Int) + 1) rfl rfl (wi64 (by omega)) rfl ?_)
          refine r_cons (s_assign (.int .i64 ((k : Int) + 1)) rfl rfl ?_)
          refine r_nil ?_
          have H97 := Row.shut2 (p := p) (n := N) (c := c) (size := 5) (xs := L.flatMap nodeCell) H28 (i := 2) rfl hp14 h15 h16 h17 (by have hh : (cur13.toList.drop 0).take (L.length * 5) = L.flatMap nodeCell := (by rw [hD9]; exact h18); have hk : L.length = N := hD9; rw [hk] at hh; exact hh) (fun x_ hx_ => by obtain ⟨a_, _, ha_⟩ := List.mem_flatMap.1 hx_; exact one_node a_ x_ ha_)
          have H98 : St W w27 (Row 25 5 (.slice p N c) N (L.flatMap nodeCell) :: NodesA L :: NodeA (L.getD (k - 1) default) :: NodeA (L.getD k default) :: F) := ((H97.move 3 rfl).move 3 rfl)
          have H99 : St W w27 (DataA 25 p N c L :: NodeA (L.getD (k - 1) default) :: NodeA (L.getD k default) :: F) := DataA.make hD9 H98
          have H100 : St W w27 (DataA 25 p N c L :: F) := ((H99.drop 1 rfl).drop 1 rfl)
          have H101 : St W w27 (DataA 25 p N c L :: F) := H100
          exact nx7 (k + 1) _ _ ⟨(by omega), (by omega), (fun q h1 h2 => (Nat.lt_or_ge q k).elim (hz q h1) (fun h => by rw [show q = k from by omega]; exact (of_decide_eq_false hb29))), H101⟩ (by first | (dsimp only; omega) | omega) ⟨by first | rfl | exact vint (by omega), by first | rfl | exact vint (by omega), by first | rfl | exact vint (by omega), by first | rfl | exact vint (by omega), trivial⟩
      · skip
        refine r_cons (s_lss false rfl rfl (dfalse hc8) rfl ?_)
        refine r_nil ?_
        refine g_false rfl ?_
        refine g_exit (by rfl) ?_
        refine g_seq ?_
        refine g_region ?_
        refine r_cons (s_move (.slice p N c) rfl rfl ?_)
        refine r_cons (s_assign (.slice p N c) rfl rfl ?_)
        refine r_nil ?_
        refine g_ret' [.slice p N c] Try.func68 Try.results68 ⟨rfl, trivial⟩ ?_
        have H102 : St W w5 (DataA 25 p N c L :: F) := H6
        have hc9 : compact L = L := compact_self hz (by omega)
        exact ⟨by rw [hc9, hD]; rfl, by rw [hc9, hD]; exact H102⟩
set_option maxHeartbeats 4000000 in
set_option maxRecDepth 100000 in
theorem once_ {W w : World} {F : List Atom} {p : Option Addr} {N c : Nat} (L : List NodeD) (hN : N ≤ 140737488355328) (H : St W w (DataA 25 p N c L :: F)) : Calls Try.prog 50 #[.slice p N c] w (Ret fun v w' => v = .slice p (compact L).length c ∧ St W w' (DataA 25 p (compact L).length c (compact L) :: F)) := by
  have hD := (DataA.open H).1
  refine calls_of_go (n := 5) Try.func50 rfl Try.ntmps50 rfl ?_
  refine g_seq ?_
  refine g_region ?_
  refine r_cons (s_assign (.slice none 0 0) rfl rfl ?_)
  refine r_nil ?_
  refine g_seq ?_
  refine g_region ?_
  refine r_cons (s_move (.slice p N c) rfl rfl ?_)
  refine r_cons (s_call [.slice p N c, .func (.func 69) #[] #[]] pl_68 rfl rfl (Compact_ L hN H) ?_)
  rintro _ w1 ⟨rfl, H2⟩
  refine r_cons (s_assign (.slice p ((compact L).length) c) rfl rfl ?_)
  refine r_nil ?_
  refine g_ret' [.slice p ((compact L).length) c] Try.func50 Try.results50 ⟨rfl, trivial⟩ ?_
  have H3 : St W w1 (DataA 25 p (compact L).length c (compact L) :: F) := H2
  exact ⟨rfl, H3⟩
set_option maxHeartbeats 4000000 in
set_option maxRecDepth 100000 in
theorem Clone_cond {W w : World} {F : List Atom} (L : List CondV) (lv : Value) {m : Nat} (hm : F[m]? = some (Im 11 lv L.length (L.flatMap condCell))) (hb : L.length * 136 ≤ 140737488355328) (H : St W w F) : Calls Try.prog 79 #[lv] w (Ret fun v w' => ∃ p c, v = .slice p L.length c ∧ St W w' (Row 46 11 (.slice p L.length c) L.length (L.flatMap condCell) :: F)) := by
  obtain ⟨pp1, cc2, rfl, hn3⟩ := Rd.shape (Im.rd H (i := m) hm)
  have H4 := H.dup hm (Im_pers _ _ _ _)
  have H5 : St W w (Im 11 (.slice pp1 L.length cc2) L.length (L.flatMap condCell) :: F) := H4
  refine calls_of_go (n := 8) Try.func79 rfl Try.ntmps79 rfl ?_
  refine g_seq ?_
  refine g_region ?_
  refine r_cons (s_assign (.slice none 0 0) rfl rfl ?_)
  refine r_nil ?_
  refine g_seq ?_
  refine g_seq ?_
  refine g_region ?_
  refine r_cons (s_move (.slice pp1 L.length cc2) rfl rfl ?_)
  by_cases hc6 : pp1 = none
  · skip
    refine r_cons (s_sleql true un_22 rfl rfl (isNone_t hc6) rfl ?_)
    refine r_nil ?_
    refine g_true rfl ?_
    refine g_seq ?_
    refine g_region ?_
    refine r_cons (s_assign (.slice none 0 0) rfl rfl ?_)
    refine r_nil ?_
    refine g_ret' [.slice none 0 0] Try.func79 Try.results79 ⟨rfl, trivial⟩ ?_
    have H7 : St W w F := (H5.drop 0 rfl)
    obtain rfl : L = [] := List.eq_nil_of_length_eq_zero (by have h9 := hn3 ‹_›; omega)
    exact ⟨none, 0, rfl, Row.nil_intro H7 46 11⟩
  · skip
    refine r_cons (s_sleql false un_22 rfl rfl (isNone_f hc6) rfl ?_)
    refine r_nil ?_
    refine g_false rfl ?_
    refine g_skip ?_
    refine g_seq ?_
    refine g_region ?_
    refine r_cons (s_buildSlice0 H5 11 el_22 rfl ?_); intro bk8 w9 H10
    have H11 := Row.of_blk (n := 0) (size := 11) H10 (i := 0) rfl (by unfold maxLen; omega) (by simp) (by simp)
    refine r_cons (s_move (.slice pp1 L.length cc2) rfl rfl ?_)
    refine r_cons (s_append H11 0 rfl rfl rfl (Im.rd H11 (i := 1) rfl) ap_22 (by decide) (by unfold maxLen; omega) (by omega) (n' := L.length) (xs' := L.flatMap condCell) (by omega) (by first | rfl | simp) rfl ?_); intro vv12 w13 H14 hn15
    obtain ⟨pp16, cc17, rfl⟩ := Row.slice H14 (i := 0) rfl
    refine r_cons (s_assign (.slice pp16 L.length cc17) rfl rfl ?_)
    refine r_nil ?_
    refine g_ret' [.slice pp16 L.length cc17] Try.func79 Try.results79 ⟨rfl, trivial⟩ ?_
    have H18 : St W w13 (Row 46 11 (.slice pp16 L.length cc17) L.length (L.flatMap condCell) :: F) := (H14.drop 1 rfl)
    exact ⟨_, _, rfl, H18⟩
set_option maxHeartbeats 4000000 in
set_option maxRecDepth 100000 in
theorem Clone_node {W w : World} {F : List Atom} (L : List NodeD) (lv : Value) {m : Nat} (hm : F[m]? = some (Im 5 lv L.length (L.flatMap nodeCell))) (hb : L.length * 88 ≤ 140737488355328) (H : St W w F) : Calls Try.prog 48 #[lv] w (Ret fun v w' => ∃ p c, v = .slice p L.length c ∧ St W w' (Row 25 5 (.slice p L.length c) L.length (L.flatMap nodeCell) :: F)) := by
  obtain ⟨pp1, cc2, rfl, hn3⟩ := Rd.shape (Im.rd H (i := m) hm)
  have H4 := H.dup hm (Im_pers _ _ _ _)
  have H5 : St W w (Im 5 (.slice pp1 L.length cc2) L.length (L.flatMap nodeCell) :: F) := H4
  refine calls_of_go (n := 8) Try.func48 rfl Try.ntmps48 rfl ?_
  refine g_seq ?_
  refine g_region ?_
  refine r_cons (s_assign (.slice none 0 0) rfl rfl ?_)
  refine r_nil ?_
  refine g_seq ?_
  refine g_seq ?_
  refine g_region ?_
  refine r_cons (s_move (.slice pp1 L.length cc2) rfl rfl ?_)
  by_cases hc6 : pp1 = none
  · skip
    refine r_cons (s_sleql true un_23 rfl rfl (isNone_t hc6) rfl ?_)
    refine r_nil ?_
    refine g_true rfl ?_
    refine g_seq ?_
    refine g_region ?_
    refine r_cons (s_assign (.slice none 0 0) rfl rfl ?_)
    refine r_nil ?_
    refine g_ret' [.slice none 0 0] Try.func48 Try.results48 ⟨rfl, trivial⟩ ?_
    have H7 : St W w F := (H5.drop 0 rfl)
    obtain rfl : L = [] := List.eq_nil_of_length_eq_zero (by have h9 := hn3 ‹_›; omega)
    exact ⟨none, 0, rfl, Row.nil_intro H7 25 5⟩
  · skip
    refine r_cons (s_sleql false un_23 rfl rfl (isNone_f hc6) rfl ?_)
    refine r_nil ?_
    refine g_false rfl ?_
    refine g_skip ?_
    refine g_seq ?_
    refine g_region ?_
    refine r_cons (s_buildSlice0 H5 5 el_23 rfl ?_); intro bk8 w9 H10
    have H11 := Row.of_blk (n := 0) (size := 5) H10 (i := 0) rfl (by unfold maxLen; omega) (by simp) (by simp)
    refine r_cons (s_move (.slice pp1 L.length cc2) rfl rfl ?_)
    refine r_cons (s_append H11 0 rfl rfl rfl (Im.rd H11 (i := 1) rfl) ap_23 (by decide) (by unfold maxLen; omega) (by omega) (n' := L.length) (xs' := L.flatMap nodeCell) (by omega) (by first | rfl | simp) rfl ?_); intro vv12 w13 H14 hn15
    obtain ⟨pp16, cc17, rfl⟩ := Row.slice H14 (i := 0) rfl
    refine r_cons (s_assign (.slice pp16 L.length cc17) rfl rfl ?_)
    refine r_nil ?_
    refine g_ret' [.slice pp16 L.length cc17] Try.func48 Try.results48 ⟨rfl, trivial⟩ ?_
    have H18 : St W w13 (Row 25 5 (.slice pp16 L.length cc17) L.length (L.flatMap nodeCell) :: F) := (H14.drop 1 rfl)
    exact ⟨_, _, rfl, H18⟩
set_option maxHeartbeats 4000000 in
set_option maxRecDepth 100000 in
theorem normal_with {W w : World} {F : List Atom} (n : NodeD) (kq : Option Addr) (kn kz : Nat) {i : Nat} (hi : F[i]? = some (NodeA n)) (H : St W w F) : Calls Try.prog 70 #[.agg #[.int .i64 n.kind.v, .string n.var.v, .string n.typ.v, .slice n.tp n.tests.length n.tc, .slice n.kp n.kids.length n.kc], .slice kq kn kz] w (Ret fun v w' => ∃ tp tc, v = .agg #[.int .i64 n.kind.v, .string n.var.v, .string n.typ.v, .slice tp n.tests.length tc, .slice kq kn kz] ∧ St W w' (Im 11 (.slice tp n.tests.length tc) n.tests.length (n.tests.flatMap condCell) :: F)) := by
  have hbd := NodeA.bounds H hi
  have H1 := NodeA.kids H (i := i + 0) (by exact hi)
  have H2 := NodeA.tests H1 (i := i + 2) (by exact hi)
  have H3 : St W w (Im 11 (.slice n.tp n.tests.length n.tc) n.tests.length (n.tests.flatMap condCell) :: Im 5 (.slice n.kp n.kids.length n.kc) n.kids.length (n.kids.flatMap nodeCell) :: NodesA n.kids :: F) := H2
  refine calls_of_go (n := 12) Try.func70 rfl Try.ntmps70 rfl ?_
  refine g_seq ?_
  refine g_region ?_
  refine r_cons (s_box H3 25 (.agg #[.int .i64 n.kind.v, .string n.var.v, .string n.typ.v, .slice n.tp n.tests.length n.tc, .slice n.kp n.kids.length n.kc]) rfl (cs := #[.int .i64 n.kind.v, .string n.var.v, .string n.typ.v, .slice n.tp n.tests.length n.tc, .slice n.kp n.kids.length n.kc]) rfl rfl ?_); intro bk4 w5 H6
  refine r_cons (s_alloc H6 25 ze_25 rfl ?_); intro bk7 w8 H9
  refine r_nil ?_
  refine g_seq ?_
  refine g_region ?_
  refine r_cons (s_fieldAddr 25 3 3 3 22 rfl fi_25_3 rfl rfl ?_)
  refine r_cons (s_load (.slice n.tp n.tests.length n.tc) ag_22 rfl (H9.blk_at (i := 1) rfl) rfl rfl ?_)
  refine r_cons (s_call [.slice n.tp n.tests.length n.tc] pl_79 rfl rfl (Clone_cond n.tests (.slice n.tp n.tests.length n.tc) (m := 2) rfl (by omega) H9) ?_)
  rintro _ w12 ⟨pp10, cc11, rfl, H13⟩
  refine r_cons (s_move (.slice kq kn kz) rfl rfl ?_)
  refine r_cons (s_fieldAddr 25 3 3 3 22 rfl fi_25_3 rfl rfl ?_)
  refine r_cons (s_store H13 2 (.slice pp10 n.tests.length cc11) rfl rfl rfl sz_22 rfl (Nat.le_of_ble_eq_true rfl) rfl (cs' := #[.int .i64 n.kind.v, .string n.var.v, .string n.typ.v, .slice pp10 n.tests.length cc11, .slice n.kp n.kids.length n.kc]) rfl ?_); intro w14 H15
  refine r_cons (s_fieldAddr 25 4 4 4 23 rfl fi_25_4 rfl rfl ?_)
  refine r_cons (s_store H15 2 (.slice kq kn kz) rfl rfl rfl sz_23 rfl (Nat.le_of_ble_eq_true rfl) rfl (cs' := #[.int .i64 n.kind.v, .string n.var.v, .string n.typ.v, .slice pp10 n.tests.length cc11, .slice kq kn kz]) rfl ?_); intro w16 H17
  refine r_nil ?_
  refine g_seq ?_
  refine g_region ?_
  refine r_cons (s_loadAgg [.int .i64 n.kind.v, .string n.var.v, .string n.typ.v, .slice pp10 n.tests.length cc11, .slice kq kn kz] 5 ag_25 rfl (H17.blk_at (i := 2) rfl) (Nat.le_of_ble_eq_true rfl) rfl rfl ?_)
  refine r_cons (s_storeAgg H17 1 #[.int .i64 n.kind.v, .string n.var.v, .string n.typ.v, .slice pp10 n.tests.length cc11, .slice kq kn kz] 5 rfl rfl rfl sz_25 rfl (by simp [Value.oneCell']) (Nat.le_of_ble_eq_true rfl) (fun o h1 h2 => by first | (simp; done) | (simp; omega)) (cs' := #[.int .i64 n.kind.v, .string n.var.v, .string n.typ.v, .slice pp10 n.tests.length cc11, .slice kq kn kz]) rfl ?_); intro w18 H19
  refine r_nil ?_
  refine g_ret' [.agg #[.int .i64 n.kind.v, .string n.var.v, .string n.typ.v, .slice pp10 n.tests.length cc11, .slice kq kn kz]] Try.func70 Try.results70 ⟨(res_cellN rfl ag_25 (H19.blk_at (i := 1) rfl) (Nat.le_of_ble_eq_true rfl) rfl), trivial⟩ ?_
  have H20 : St W w18 (Row 46 11 (.slice pp10 n.tests.length cc11) n.tests.length (n.tests.flatMap condCell) :: F) := (((((H19.drop 1 rfl).drop 1 rfl).drop 1 rfl).drop 1 rfl).drop 1 rfl)
  exact ⟨pp10, cc11, rfl, Row.im H20 (i := 0) rfl⟩
set_option maxHeartbeats 4000000 in
set_option maxRecDepth 100000 in
theorem normal_each_flat {W w : World} {F : List Atom} (n : NodeD) {i : Nat} (hi : F[i]? = some (NodeA n)) (hz : sizeN n ≤ 1048576) (hf : ∀ x ∈ n.kids, ∀ {W w : World} {F : List Atom} {i : Nat}, F[i]? = some (NodeA x) → St W w F → Calls Try.prog 17 #[.agg #[.int .i64 x.kind.v, .string x.var.v, .string x.typ.v, .slice x.tp x.tests.length x.tc, .slice x.kp x.kids.length x.kc]] w (Ret fun v w' => ∃ r : NodeD, v = .agg #[.int .i64 r.kind.v, .string r.var.v, .string r.typ.v, .slice r.tp r.tests.length r.tc, .slice r.kp r.kids.length r.kc] ∧ eraseN r = flatN x ∧ St W w' (NodeA r :: F))) (H : St W w F) : Calls Try.prog 52 #[.agg #[.int .i64 n.kind.v, .string n.var.v, .string n.typ.v, .slice n.tp n.tests.length n.tc, .slice n.kp n.kids.length n.kc], .func (.func 17) #[] #[]] w (Ret fun v w' => ∃ tp tc kq kz, ∃ C : List NodeD, v = .agg #[.int .i64 n.kind.v, .string n.var.v, .string n.typ.v, .slice tp n.tests.length tc, .slice kq C.length kz] ∧ C.map eraseN = n.kids.map flatN ∧ St W w' (Im 11 (.slice tp n.tests.length tc) n.tests.length (n.tests.flatMap condCell) :: Row 25 5 (.slice kq C.length kz) C.length (C.flatMap nodeCell) :: NodesA C :: F)) := by
  have H1 := NodeA.kids H (i := i + 0) (by exact hi)
  have H2 : St W w (Im 5 (.slice n.kp n.kids.length n.kc) n.kids.length (n.kids.flatMap nodeCell) :: NodesA n.kids :: F) := H1
  have H3 := H2.dup (i := i + 2) (by exact hi) (NodeA_pers _)
  have H4 : St W w (NodeA n :: Im 5 (.slice n.kp n.kids.length n.kc) n.kids.length (n.kids.flatMap nodeCell) :: NodesA n.kids :: F) := H3
  have hkl := kids_len n
  refine calls_of_go (n := 25) Try.func52 rfl Try.ntmps52 rfl ?_
  refine g_seq ?_
  refine g_region ?_
  refine r_cons (s_box H4 25 (.agg #[.int .i64 n.kind.v, .string n.var.v, .string n.typ.v, .slice n.tp n.tests.length n.tc, .slice n.kp n.kids.length n.kc]) rfl (cs := #[.int .i64 n.kind.v, .string n.var.v, .string n.typ.v, .slice n.tp n.tests.length n.tc, .slice n.kp n.kids.length n.kc]) rfl rfl ?_); intro bk5 w6 H7
  refine r_cons (s_alloc H7 25 ze_25 rfl ?_); intro bk8 w9 H10
  refine r_nil ?_
  refine g_seq ?_
  refine g_region ?_
  refine r_cons (s_assign (.slice none 0 0) rfl rfl ?_)
  refine r_nil ?_
  refine g_seq ?_
  refine g_seq ?_
  refine g_region ?_
  refine r_cons (s_fieldAddr 25 4 4 4 23 rfl fi_25_4 rfl rfl ?_)
  refine r_cons (s_load (.slice n.kp n.kids.length n.kc) ag_23 rfl (H10.blk_at (i := 1) rfl) rfl rfl ?_)
  refine r_cons (s_len n.kids.length rfl ⟨_, un_23⟩ rfl ?_)
  refine r_cons (s_move (.int .i64 0) rfl rfl ?_)
  refine r_nil ?_
  refine g_block ?_
  have H11 := Row.nil_intro H10 25 5
  have H12 : St W w9 (NodesA [] :: Row 25 5 (.slice none 0 0) 0 [] :: blk bk8 (.cells #[.int .i64 0, .string ByteArray.empty, .string ByteArray.empty, .slice none 0 0, .slice none 0 0] 25 (0, 0)) :: blk bk5 (.cells #[.int .i64 n.kind.v, .string n.var.v, .string n.typ.v, .slice n.tp n.tests.length n.tc, .slice n.kp n.kids.length n.kc] 25 (0, 0)) :: NodeA n :: Im 5 (.slice n.kp n.kids.length n.kc) n.kids.length (n.kids.flatMap nodeCell) :: NodesA n.kids :: F) := NodesA.nil H11
  obtain ⟨pA13, cA14, gA15, oA16, kA17, eA18, zA19, he25, hn20, hp21, hx22, hs23, hml, H24⟩ := Im.open_ H12 (i := 5) rfl
  obtain ⟨rfl, rfl⟩ : n.kp = pA13 ∧ n.kc = cA14 := by injection he25 with a_ b_ c_; exact ⟨a_, c_⟩
  have H26 : St W w9 (imi (0 < n.kids.length) gA15 (.cells kA17 eA18 zA19) :: NodesA [] :: Row 25 5 (.slice none 0 0) 0 [] :: blk bk8 (.cells #[.int .i64 0, .string ByteArray.empty, .string ByteArray.empty, .slice none 0 0, .slice none 0 0] 25 (0, 0)) :: blk bk5 (.cells #[.int .i64 n.kind.v, .string n.var.v, .string n.typ.v, .slice n.tp n.tests.length n.tc, .slice n.kp n.kids.length n.kc] 25 (0, 0)) :: NodeA n :: Im 5 (.slice n.kp n.kids.length n.kc) n.kids.length (n.kids.flatMap nodeCell) :: NodesA n.kids :: F) := ((((((((H24.move 7 rfl).move 7 rfl).move 7 rfl).move 7 rfl).move 7 rfl).move 7 rfl).move 7 rfl).move 7 rfl)
  refine g_loop_inv (fun (x_ : (Option Addr) × Nat × (List NodeD) × Nat) => match x_ with | (lp, lc, C, j) => [(1, .func (.func 17) #[] #[]), (2, .pointer (some ⟨bk5, 0, none⟩)), (4, .pointer (some ⟨bk8, 0, none⟩)), (5, .slice lp C.length lc), (9, .slice n.kp n.kids.length n.kc), (10, .int .i64 (n.kids.length : Int)), (11, .int .i64 (j : Int))]) (fun (x_ : (Option Addr) × Nat × (List NodeD) × Nat) w => match x_ with | (lp, lc, C, j) => (j ≤ n.kids.length) ∧ (C.length = j) ∧ (C.map eraseN = (n.kids.take j).map flatN) ∧ St W w (imi (0 < n.kids.length) gA15 (.cells kA17 eA18 zA19) :: NodesA C :: Row 25 5 (.slice lp C.length lc) C.length (C.flatMap nodeCell) :: blk bk8 (.cells #[.int .i64 0, .string ByteArray.empty, .string ByteArray.empty, .slice none 0 0, .slice none 0 0] 25 (0, 0)) :: blk bk5 (.cells #[.int .i64 n.kind.v, .string n.var.v, .string n.typ.v, .slice n.tp n.tests.length n.tc, .slice n.kp n.kids.length n.kc] 25 (0, 0)) :: NodeA n :: Im 5 (.slice n.kp n.kids.length n.kc) n.kids.length (n.kids.flatMap nodeCell) :: NodesA n.kids :: F)) (fun (x_ : (Option Addr) × Nat × (List NodeD) × Nat) => match x_ with | (lp, lc, C, j) => n.kids.length - j) (none, 0, [], 0) ?_ ?_ ?_
  · exact ⟨by first | rfl | exact vint (by omega), by first | rfl | exact vint (by omega), by first | rfl | exact vint (by omega), by first | rfl | exact vint (by omega), by first | rfl | exact vint (by omega), by first | rfl | exact vint (by omega), by first | rfl | exact vint (by omega), trivial⟩
  · exact ⟨(by omega), rfl, rfl, H26⟩
  · rintro ⟨lp, lc, C, j⟩ ρ27 w28 ⟨hjl, hCl, hC, H29⟩ nx30
    change Ends _ _ (upds ρ27 [(1, .func (.func 17) #[] #[]), (2, .pointer (some ⟨bk5, 0, none⟩)), (4, .pointer (some ⟨bk8, 0, none⟩)), (5, .slice lp C.length lc), (9, .slice n.kp n.kids.length n.kc), (10, .int .i64 (n.kids.length : Int)), (11, .int .i64 (j : Int))]) w28
    refine g_seq ?_
    refine g_region ?_
    by_cases hc31 : (j : Int) < (n.kids.length : Int)
    · skip
      refine r_cons (s_lss true rfl rfl (dtrue hc31) rfl ?_)
      refine r_nil ?_
      refine g_seq ?_
      refine g_true rfl ?_
      refine g_skip ?_
      refine g_seq ?_
      refine g_block ?_
      refine g_seq ?_
      refine g_region ?_
      refine r_cons (s_indexAddr gA15 (off := oA16) (j : Int) 5 (oA16 + j * 5) (by exact congrArg (fun z_ => Value.slice z_ n.kids.length n.kc) (hp21 (by omega))) rfl el_23 (by omega) rfl rfl ?_)
      refine r_cons (s_loadAgg [.int .i64 ((n.kids.getD j default).kind.v), .string ((n.kids.getD j default).var.v), .string ((n.kids.getD j default).typ.v), .slice ((n.kids.getD j default).tp) ((n.kids.getD j default).tests.length) ((n.kids.getD j default).tc), .slice ((n.kids.getD j default).kp) ((n.kids.getD j default).kids.length) ((n.kids.getD j default).kc)] 5 ag_25 rfl (H29.imi_at (i := 0) rfl (by omega)) (by have := elem_size (i := j) (s := 5) (hs23 (by omega)) (by omega); omega) (elem_take nodeCell_len (hx22 (by omega)) (by omega) default) rfl ?_)
      refine r_cons (s_alloc H29 25 ze_25 rfl ?_); intro bk32 w33 H34
      refine r_cons (s_storeAgg H34 0 #[.int .i64 ((n.kids.getD j default).kind.v), .string ((n.kids.getD j default).var.v), .string ((n.kids.getD j default).typ.v), .slice ((n.kids.getD j default).tp) ((n.kids.getD j default).tests.length) ((n.kids.getD j default).tc), .slice ((n.kids.getD j default).kp) ((n.kids.getD j default).kids.length) ((n.kids.getD j default).kc)] 5 rfl rfl rfl sz_25 rfl (by simp [Value.oneCell']) (Nat.le_of_ble_eq_true rfl) (fun o h1 h2 => by first | (simp; done) | (simp; omega)) (cs' := #[.int .i64 ((n.kids.getD j default).kind.v), .string ((n.kids.getD j default).var.v), .string ((n.kids.getD j default).typ.v), .slice ((n.kids.getD j default).tp) ((n.kids.getD j default).tests.length) ((n.kids.getD j default).tc), .slice ((n.kids.getD j default).kp) ((n.kids.getD j default).kids.length) ((n.kids.getD j default).kc)]) rfl ?_); intro w35 H36
      refine r_nil ?_
      refine g_region ?_
      refine r_cons (s_move (.slice lp C.length lc) rfl rfl ?_)
      refine r_cons (s_move (.func (.func 17) #[] #[]) rfl rfl ?_)
      refine r_cons (s_loadAgg [.int .i64 ((n.kids.getD j default).kind.v), .string ((n.kids.getD j default).var.v), .string ((n.kids.getD j default).typ.v), .slice ((n.kids.getD j default).tp) ((n.kids.getD j default).tests.length) ((n.kids.getD j default).tc), .slice ((n.kids.getD j default).kp) ((n.kids.getD j default).kids.length) ((n.kids.getD j default).kc)] 5 ag_25 rfl (H36.blk_at (i := 0) rfl) (Nat.le_of_ble_eq_true rfl) rfl rfl ?_)
      have H37 := NodesA.at H36 (i := 8) rfl (j := j) (by omega)
      refine r_cons (s_callv [] [.agg #[.int .i64 ((n.kids.getD j default).kind.v), .string ((n.kids.getD j default).var.v), .string ((n.kids.getD j default).typ.v), .slice ((n.kids.getD j default).tp) ((n.kids.getD j default).tests.length) ((n.kids.getD j default).tc), .slice ((n.kids.getD j default).kp) ((n.kids.getD j default).kids.length) ((n.kids.getD j default).kc)]] rfl pl_17 rfl rfl (hf (n.kids.getD j default) (getD_mem' (by omega)) (i := 0) rfl H37) ?_)
      rintro _ w40 ⟨nn38, rfl, hq39, H41⟩
      refine r_cons (s_buildSlice H41 5 1 (cs := #[.int .i64 nn38.kind.v, .string nn38.var.v, .string nn38.typ.v, .slice nn38.tp nn38.tests.length nn38.tc, .slice nn38.kp nn38.kids.length nn38.kc]) #[.int .i64 0, .string ByteArray.empty, .string ByteArray.empty, .slice none 0 0, .slice none 0 0] el_23 ze_25 (by decide) (by decide) (by kernel_rfl) rfl ?_); intro bk42 w43 H44
      refine r_cons (s_append H44 6 rfl rfl rfl (rd_blk (H44.blk_at (i := 0) rfl) rfl (Nat.le_of_ble_eq_true rfl) (by simp [Value.oneCell'])) ap_23 (by decide) (by unfold maxLen; omega) (by omega) (n' := C.length + 1) (xs' := C.flatMap nodeCell ++ ([.int .i64 nn38.kind.v, .string nn38.var.v, .string nn38.typ.v, .slice nn38.tp nn38.tests.length nn38.tc, .slice nn38.kp nn38.kids.length nn38.kc] : List Value)) (by omega) (by first | rfl | simp) rfl ?_); intro vv45 w46 H47 hn48
      obtain ⟨pp49, cc50, rfl⟩ := Row.slice H47 (i := 6) rfl
      refine r_cons (s_assign (.slice pp49 (C.length + 1) cc50) rfl rfl ?_)
      refine r_nil ?_
      refine g_inBlock ?_
      refine g_region ?_
      refine r_cons (s_add ((j : Int) + 1) rfl rfl (wi64 (by omega)) rfl ?_)
      refine r_cons (s_move (.int .i64 ((j : Int) + 1)) rfl rfl ?_)
      refine r_nil ?_
      have hl51 : (C ++ [nn38]).length = C.length + 1 := by simp
      have H52 : St W w46 (blk bk42 (.cells #[.int .i64 nn38.kind.v, .string nn38.var.v, .string nn38.typ.v, .slice nn38.tp nn38.tests.length nn38.tc, .slice nn38.kp nn38.kids.length nn38.kc] 25 (0, 0)) :: NodeA nn38 :: NodeA (n.kids.getD j default) :: blk bk32 (.cells #[.int .i64 ((n.kids.getD j default).kind.v), .string ((n.kids.getD j default).var.v), .string ((n.kids.getD j default).typ.v), .slice ((n.kids.getD j default).tp) ((n.kids.getD j default).tests.length) ((n.kids.getD j default).tc), .slice ((n.kids.getD j default).kp) ((n.kids.getD j default).kids.length) ((n.kids.getD j default).kc)] 25 (0, 0)) :: imi (0 < n.kids.length) gA15 (.cells kA17 eA18 zA19) :: NodesA C :: Row 25 5 (.slice pp49 ((C ++ [nn38]).length) cc50) ((C ++ [nn38]).length) ((C ++ [nn38]).flatMap nodeCell) :: blk bk8 (.cells #[.int .i64 0, .string ByteArray.empty, .string ByteArray.empty, .slice none 0 0, .slice none 0 0] 25 (0, 0)) :: blk bk5 (.cells #[.int .i64 n.kind.v, .string n.var.v, .string n.typ.v, .slice n.tp n.tests.length n.tc, .slice n.kp n.kids.length n.kc] 25 (0, 0)) :: NodeA n :: Im 5 (.slice n.kp n.kids.length n.kc) n.kids.length (n.kids.flatMap nodeCell) :: NodesA n.kids :: F) := by rw [hl51, List.flatMap_append]; first | exact H47 | simpa using H47
      have H53 : St W w46 (NodesA (C ++ [nn38]) :: blk bk42 (.cells #[.int .i64 nn38.kind.v, .string nn38.var.v, .string nn38.typ.v, .slice nn38.tp nn38.tests.length nn38.tc, .slice nn38.kp nn38.kids.length nn38.kc] 25 (0, 0)) :: NodeA nn38 :: NodeA (n.kids.getD j default) :: blk bk32 (.cells #[.int .i64 ((n.kids.getD j default).kind.v), .string ((n.kids.getD j default).var.v), .string ((n.kids.getD j default).typ.v), .slice ((n.kids.getD j default).tp) ((n.kids.getD j default).tests.length) ((n.kids.getD j default).tc), .slice ((n.kids.getD j default).kp) ((n.kids.getD j default).kids.length) ((n.kids.getD j default).kc)] 25 (0, 0)) :: imi (0 < n.kids.length) gA15 (.cells kA17 eA18 zA19) :: NodesA C :: Row 25 5 (.slice pp49 ((C ++ [nn38]).length) cc50) ((C ++ [nn38]).length) ((C ++ [nn38]).flatMap nodeCell) :: blk bk8 (.cells #[.int .i64 0, .string ByteArray.empty, .string ByteArray.empty, .slice none 0 0, .slice none 0 0] 25 (0, 0)) :: blk bk5 (.cells #[.int .i64 n.kind.v, .string n.var.v, .string n.typ.v, .slice n.tp n.tests.length n.tc, .slice n.kp n.kids.length n.kc] 25 (0, 0)) :: NodeA n :: Im 5 (.slice n.kp n.kids.length n.kc) n.kids.length (n.kids.flatMap nodeCell) :: NodesA n.kids :: F) := NodesA.snoc' H52 (a := 5) (b := 1) rfl rfl
      have H54 : St W w46 (imi (0 < n.kids.length) gA15 (.cells kA17 eA18 zA19) :: NodesA (C ++ [nn38]) :: Row 25 5 (.slice pp49 ((C ++ [nn38]).length) cc50) ((C ++ [nn38]).length) ((C ++ [nn38]).flatMap nodeCell) :: blk bk8 (.cells #[.int .i64 0, .string ByteArray.empty, .string ByteArray.empty, .slice none 0 0, .slice none 0 0] 25 (0, 0)) :: blk bk5 (.cells #[.int .i64 n.kind.v, .string n.var.v, .string n.typ.v, .slice n.tp n.tests.length n.tc, .slice n.kp n.kids.length n.kc] 25 (0, 0)) :: NodeA n :: Im 5 (.slice n.kp n.kids.length n.kc) n.kids.length (n.kids.flatMap nodeCell) :: NodesA n.kids :: F) := (((((((((((((H53.move 12 rfl).move 12 rfl).move 12 rfl).move 12 rfl).move 12 rfl).move 12 rfl).move 6 rfl).move 11 rfl).drop 8 rfl).drop 8 rfl).drop 8 rfl).drop 8 rfl).drop 8 rfl)
      exact nx30 (pp49, cc50, (C ++ [nn38]), j + 1) _ _ ⟨(by omega), (by rw [hl51]; omega), (res_snoc hC (by omega) hq39), H54⟩ (by first | (dsimp only; omega) | omega) ⟨by first | rfl | exact vint (by omega), by first | rfl | exact vint (by omega), by first | rfl | exact vint (by omega), (show (.slice pp49 (C.length + 1) cc50 : Value) = .slice pp49 ((C ++ [nn38]).length) cc50 from by rw [hl51]), by first | rfl | exact vint (by omega), by first | rfl | exact vint (by omega), by first | rfl | exact vint (by omega), trivial⟩
    · skip
      refine r_cons (s_lss false rfl rfl (dfalse hc31) rfl ?_)
      refine r_nil ?_
      refine g_seq ?_
      refine g_false rfl ?_
      refine g_exit (by rfl) ?_
      refine g_seq ?_
      refine g_region ?_
      refine r_cons (s_loadAgg [.int .i64 n.kind.v, .string n.var.v, .string n.typ.v, .slice n.tp n.tests.length n.tc, .slice n.kp n.kids.length n.kc] 5 ag_25 rfl (H29.blk_at (i := 4) rfl) (Nat.le_of_ble_eq_true rfl) rfl rfl ?_)
      refine r_cons (s_move (.slice lp C.length lc) rfl rfl ?_)
      refine r_cons (s_call [.agg #[.int .i64 n.kind.v, .string n.var.v, .string n.typ.v, .slice n.tp n.tests.length n.tc, .slice n.kp n.kids.length n.kc], .slice lp C.length lc] pl_70 rfl rfl (normal_with n lp C.length lc (i := 5) rfl H29) ?_)
      rintro _ w57 ⟨pp55, cc56, rfl, H58⟩
      refine r_cons (s_storeAgg H58 4 #[.int .i64 n.kind.v, .string n.var.v, .string n.typ.v, .slice pp55 n.tests.length cc56, .slice lp C.length lc] 5 rfl rfl rfl sz_25 rfl (by simp [Value.oneCell']) (Nat.le_of_ble_eq_true rfl) (fun o h1 h2 => by first | (simp; done) | (simp; omega)) (cs' := #[.int .i64 n.kind.v, .string n.var.v, .string n.typ.v, .slice pp55 n.tests.length cc56, .slice lp C.length lc]) rfl ?_); intro w59 H60
      refine r_nil ?_
      refine g_ret' [.agg #[.int .i64 n.kind.v, .string n.var.v, .string n.typ.v, .slice pp55 n.tests.length cc56, .slice lp C.length lc]] Try.func52 Try.results52 ⟨(res_cellN rfl ag_25 (H60.blk_at (i := 4) rfl) (Nat.le_of_ble_eq_true rfl) rfl), trivial⟩ ?_
      have H61 : St W w59 (Im 11 (.slice pp55 n.tests.length cc56) n.tests.length (n.tests.flatMap condCell) :: Row 25 5 (.slice lp C.length lc) C.length (C.flatMap nodeCell) :: NodesA C :: F) := (((((((((H60.move 2 rfl).move 3 rfl).move 2 rfl).drop 3 rfl).drop 3 rfl).drop 3 rfl).drop 3 rfl).drop 3 rfl).drop 3 rfl)
      exact ⟨pp55, cc56, lp, lc, C, rfl, by rw [hC, List.take_of_length_le (by omega)], H61⟩
set_option maxHeartbeats 4000000 in
set_option maxRecDepth 100000 in
theorem normal_Flat_r (N : Nat) : ∀ (n : NodeD), sizeOf n < N → ∀ {W w : World} {F : List Atom}  {i : Nat} (hi : F[i]? = some (NodeA n)) (hz : sizeN n ≤ 1048576) (H : St W w F), Calls Try.prog 17 #[.agg #[.int .i64 n.kind.v, .string n.var.v, .string n.typ.v, .slice n.tp n.tests.length n.tc, .slice n.kp n.kids.length n.kc]] w (Ret fun v w' => ∃ r : NodeD, v = .agg #[.int .i64 r.kind.v, .string r.var.v, .string r.typ.v, .slice r.tp r.tests.length r.tc, .slice r.kp r.kids.length r.kc] ∧ eraseN r = flatN n ∧ St W w' (NodeA r :: F)) := by
  induction N with | zero => exact fun n hN => absurd hN (Nat.not_lt_zero _) | succ N ih => ?_
  intro n hN W w F i hi hz H
  have hbd := NodeA.bounds H hi
  have H1 := H.dup (i := i + 0) (by exact hi) (NodeA_pers _)
  have H2 : St W w (NodeA n :: F) := H1
  refine calls_of_go (n := 46) Try.func17 rfl Try.ntmps17 rfl ?_
  refine g_seq ?_
  refine g_region ?_
  refine r_cons (s_box H2 25 (.agg #[.int .i64 n.kind.v, .string n.var.v, .string n.typ.v, .slice n.tp n.tests.length n.tc, .slice n.kp n.kids.length n.kc]) rfl (cs := #[.int .i64 n.kind.v, .string n.var.v, .string n.typ.v, .slice n.tp n.tests.length n.tc, .slice n.kp n.kids.length n.kc]) rfl rfl ?_); intro bk3 w4 H5
  refine r_cons (s_alloc H5 25 ze_25 rfl ?_); intro bk6 w7 H8
  refine r_nil ?_
  refine g_seq ?_
  refine g_region ?_
  refine r_cons (s_loadAgg [.int .i64 n.kind.v, .string n.var.v, .string n.typ.v, .slice n.tp n.tests.length n.tc, .slice n.kp n.kids.length n.kc] 5 ag_25 rfl (H8.blk_at (i := 1) rfl) (Nat.le_of_ble_eq_true rfl) rfl rfl ?_)
  refine r_cons (s_call [.agg #[.int .i64 n.kind.v, .string n.var.v, .string n.typ.v, .slice n.tp n.tests.length n.tc, .slice n.kp n.kids.length n.kc], .func (.func 17) #[] #[]] pl_52 rfl rfl (normal_each_flat n (i := 2) rfl hz (fun x hx _ _ _ _ h1 h2 => ih x (by have h9 := kid_mem_lt hx; omega) h1 (by have h9 := sizeN_mem hx; omega) h2) H8) ?_)
  rintro _ w15 ⟨pp9, cc10, pp11, cc12, C13, rfl, hC14, H16⟩
  refine r_cons (s_storeAgg H16 4 #[.int .i64 n.kind.v, .string n.var.v, .string n.typ.v, .slice pp9 n.tests.length cc10, .slice pp11 C13.length cc12] 5 rfl rfl rfl sz_25 rfl (by simp [Value.oneCell']) (Nat.le_of_ble_eq_true rfl) (fun o h1 h2 => by first | (simp; done) | (simp; omega)) (cs' := #[.int .i64 n.kind.v, .string n.var.v, .string n.typ.v, .slice pp9 n.tests.length cc10, .slice pp11 C13.length cc12]) rfl ?_); intro w17 H18
  refine r_nil ?_
  refine g_seq ?_
  refine g_seq ?_
  refine g_region ?_
  have H19 : St W w17 (Im 11 (.slice pp9 n.tests.length cc10) n.tests.length (n.tests.flatMap condCell) :: Im 5 (.slice pp11 C13.length cc12) C13.length (C13.flatMap nodeCell) :: NodesA C13 :: blk bk6 (.cells #[.int .i64 0, .string ByteArray.empty, .string ByteArray.empty, .slice none 0 0, .slice none 0 0] 25 (0, 0)) :: blk bk3 (.cells #[.int .i64 n.kind.v, .string n.var.v, .string n.typ.v, .slice pp9 n.tests.length cc10, .slice pp11 C13.length cc12] 25 (0, 0)) :: NodeA n :: F) := Row.im H18 (i := 1) rfl
  have hsz9 := res_size hC14 (fun k hk => flatN_size k)
  have hse9 := sizeN_eq (n := n)
  refine r_cons (s_fieldAddr 25 0 0 0 3 rfl fi_25_0 rfl rfl ?_)
  refine r_cons (s_load (.int .i64 n.kind.v) ag_3 rfl (H19.blk_at (i := 4) rfl) rfl rfl ?_)
  by_cases hc20 : n.kind.v = 2
  · skip
    refine r_cons (s_neq false rfl rfl (ntrue hc20) rfl ?_)
    refine r_cons (s_move (.bool false) rfl rfl ?_)
    refine r_cons (r_pass rfl rfl rfl rfl rfl ?_)
    refine r_cons (r_pass rfl rfl rfl rfl rfl ?_)
    refine r_cons (r_pass rfl rfl rfl rfl rfl ?_)
    refine r_cons (s_pick_f (.bool false) rfl rfl rfl ?_)
    refine r_cons (s_move (.bool false) rfl rfl ?_)
    refine r_cons (r_pass rfl rfl rfl rfl rfl ?_)
    refine r_cons (r_pass rfl rfl rfl rfl rfl ?_)
    refine r_cons (r_pass rfl rfl rfl rfl rfl ?_)
    refine r_cons (s_pick_f (.bool false) rfl rfl rfl ?_)
    refine r_nil ?_
    refine g_false rfl ?_
    refine g_skip ?_
    refine g_seq ?_
    refine g_region ?_
    refine r_cons (s_assign (.slice none 0 0) rfl rfl ?_)
    refine r_nil ?_
    refine g_seq ?_
    refine g_seq ?_
    refine g_region ?_
    refine r_cons (s_fieldAddr 25 4 4 4 23 rfl fi_25_4 rfl rfl ?_)
    refine r_cons (s_load (.slice pp11 C13.length cc12) ag_23 rfl (H19.blk_at (i := 4) rfl) rfl rfl ?_)
    refine r_cons (s_len C13.length rfl ⟨_, un_23⟩ rfl ?_)
    refine r_cons (s_move (.int .i64 0) rfl rfl ?_)
    refine r_nil ?_
    refine g_block ?_
    obtain ⟨pA21, cA22, gA23, oA24, kA25, eA26, zA27, he33, hn28, hp29, hx30, hs31, hml, H32⟩ := Im.open_ H19 (i := 1) rfl
    obtain ⟨rfl, rfl⟩ : pp11 = pA21 ∧ cc12 = cA22 := by injection he33 with a_ b_ c_; exact ⟨a_, c_⟩
    have H34 := Row.nil_intro H32 25 5
    have H35 : St W w17 (NodesA [] :: Row 25 5 (.slice none 0 0) 0 [] :: imi (0 < C13.length) gA23 (.cells kA25 eA26 zA27) :: Im 11 (.slice pp9 n.tests.length cc10) n.tests.length (n.tests.flatMap condCell) :: Im 5 (.slice pp11 C13.length cc12) C13.length (C13.flatMap nodeCell) :: NodesA C13 :: blk bk6 (.cells #[.int .i64 0, .string ByteArray.empty, .string ByteArray.empty, .slice none 0 0, .slice none 0 0] 25 (0, 0)) :: blk bk3 (.cells #[.int .i64 n.kind.v, .string n.var.v, .string n.typ.v, .slice pp9 n.tests.length cc10, .slice pp11 C13.length cc12] 25 (0, 0)) :: NodeA n :: F) := NodesA.nil H34
    have H36 : St W w17 (NodesA [] :: Row 25 5 (.slice none 0 0) 0 [] :: imi (0 < C13.length) gA23 (.cells kA25 eA26 zA27) :: Im 11 (.slice pp9 n.tests.length cc10) n.tests.length (n.tests.flatMap condCell) :: Im 5 (.slice pp11 C13.length cc12) C13.length (C13.flatMap nodeCell) :: NodesA C13 :: blk bk6 (.cells #[.int .i64 0, .string ByteArray.empty, .string ByteArray.empty, .slice none 0 0, .slice none 0 0] 25 (0, 0)) :: blk bk3 (.cells #[.int .i64 n.kind.v, .string n.var.v, .string n.typ.v, .slice pp9 n.tests.length cc10, .slice pp11 C13.length cc12] 25 (0, 0)) :: NodeA n :: F) := (((((((((H35.move 8 rfl).move 8 rfl).move 8 rfl).move 8 rfl).move 8 rfl).move 8 rfl).move 8 rfl).move 8 rfl).move 8 rfl)
    refine g_loop_inv (fun (x_ : (Option Addr) × Nat × Nat) => match x_ with | (lp, lc, j) => [(1, .pointer (some ⟨bk3, 0, none⟩)), (2, .pointer (some ⟨bk6, 0, none⟩)), (3, .slice lp ((flatJ n.kind.v (C13.take j)).length) lc), (23, .slice pp11 C13.length cc12), (24, .int .i64 (C13.length : Int)), (25, .int .i64 (j : Int))]) (fun (x_ : (Option Addr) × Nat × Nat) w => match x_ with | (lp, lc, j) => (j ≤ C13.length) ∧ St W w (NodesA (flatJ n.kind.v (C13.take j)) :: Row 25 5 (.slice lp ((flatJ n.kind.v (C13.take j)).length) lc) ((flatJ n.kind.v (C13.take j)).length) ((flatJ n.kind.v (C13.take j)).flatMap nodeCell) :: imi (0 < C13.length) gA23 (.cells kA25 eA26 zA27) :: Im 11 (.slice pp9 n.tests.length cc10) n.tests.length (n.tests.flatMap condCell) :: Im 5 (.slice pp11 C13.length cc12) C13.length (C13.flatMap nodeCell) :: NodesA C13 :: blk bk6 (.cells #[.int .i64 0, .string ByteArray.empty, .string ByteArray.empty, .slice none 0 0, .slice none 0 0] 25 (0, 0)) :: blk bk3 (.cells #[.int .i64 n.kind.v, .string n.var.v, .string n.typ.v, .slice pp9 n.tests.length cc10, .slice pp11 C13.length cc12] 25 (0, 0)) :: NodeA n :: F)) (fun (x_ : (Option Addr) × Nat × Nat) => match x_ with | (lp, lc, j) => C13.length - j) (none, 0, 0) ?_ ?_ ?_
    · exact ⟨by first | rfl | exact vint (by omega), by first | rfl | exact vint (by omega), by first | rfl | exact vint (by omega), by first | rfl | exact vint (by omega), by first | rfl | exact vint (by omega), by first | rfl | exact vint (by omega), trivial⟩
    · exact ⟨(by omega), H36⟩
    · rintro ⟨lp, lc, j⟩ ρ37 w38 ⟨hjl, H39⟩ nx40
      change Ends _ _ (upds ρ37 [(1, .pointer (some ⟨bk3, 0, none⟩)), (2, .pointer (some ⟨bk6, 0, none⟩)), (3, .slice lp ((flatJ n.kind.v (C13.take j)).length) lc), (23, .slice pp11 C13.length cc12), (24, .int .i64 (C13.length : Int)), (25, .int .i64 (j : Int))]) w38
      refine g_seq ?_
      refine g_region ?_
      by_cases hc41 : (j : Int) < (C13.length : Int)
      · skip
        refine r_cons (s_lss true rfl rfl (dtrue hc41) rfl ?_)
        refine r_nil ?_
        refine g_seq ?_
        refine g_true rfl ?_
        refine g_skip ?_
        refine g_seq ?_
        refine g_block ?_
        refine g_seq ?_
        refine g_region ?_
        refine r_cons (s_indexAddr gA23 (off := oA24) (j : Int) 5 (oA24 + j * 5) (by exact congrArg (fun z_ => Value.slice z_ C13.length cc12) (hp29 (by omega))) rfl el_23 (by omega) rfl rfl ?_)
        refine r_cons (s_loadAgg [.int .i64 ((C13.getD j default).kind.v), .string ((C13.getD j default).var.v), .string ((C13.getD j default).typ.v), .slice ((C13.getD j default).tp) ((C13.getD j default).tests.length) ((C13.getD j default).tc), .slice ((C13.getD j default).kp) ((C13.getD j default).kids.length) ((C13.getD j default).kc)] 5 ag_25 rfl (H39.imi_at (i := 2) rfl (by omega)) (by have := elem_size (i := j) (s := 5) (hs31 (by omega)) (by omega); omega) (elem_take nodeCell_len (hx30 (by omega)) (by omega) default) rfl ?_)
        refine r_cons (s_alloc H39 25 ze_25 rfl ?_); intro bk42 w43 H44
        refine r_cons (s_storeAgg H44 0 #[.int .i64 ((C13.getD j default).kind.v), .string ((C13.getD j default).var.v), .string ((C13.getD j default).typ.v), .slice ((C13.getD j default).tp) ((C13.getD j default).tests.length) ((C13.getD j default).tc), .slice ((C13.getD j default).kp) ((C13.getD j default).kids.length) ((C13.getD j default).kc)] 5 rfl rfl rfl sz_25 rfl (by simp [Value.oneCell']) (Nat.le_of_ble_eq_true rfl) (fun o h1 h2 => by first | (simp; done) | (simp; omega)) (cs' := #[.int .i64 ((C13.getD j default).kind.v), .string ((C13.getD j default).var.v), .string ((C13.getD j default).typ.v), .slice ((C13.getD j default).tp) ((C13.getD j default).tests.length) ((C13.getD j default).tc), .slice ((C13.getD j default).kp) ((C13.getD j default).kids.length) ((C13.getD j default).kc)]) rfl ?_); intro w45 H46
        refine r_nil ?_
        refine g_seq ?_
        refine g_region ?_
        refine r_cons (s_fieldAddr 25 0 0 0 3 rfl fi_25_0 rfl rfl ?_)
        refine r_cons (s_load (.int .i64 ((C13.getD j default).kind.v)) ag_3 rfl (H46.blk_at (i := 0) rfl) rfl rfl ?_)
        refine r_cons (s_fieldAddr 25 0 0 0 3 rfl fi_25_0 rfl rfl ?_)
        refine r_cons (s_load (.int .i64 n.kind.v) ag_3 rfl (H46.blk_at (i := 8) rfl) rfl rfl ?_)
        have H47 := NodesA.at H46 (i := 6) rfl (j := j) (by omega)
        have hfl9 := flatJ_len n.kind.v (C13.take (j + 1))
        have hst9 := sizeL_take C13 (j + 1)
        rw [flatJ_step (by omega), List.length_append] at hfl9
        have H48 := NodeA.kids H47 (i := 0) rfl
        have H49 : St W w45 (Im 5 (.slice ((C13.getD j default).kp) ((C13.getD j default).kids.length) ((C13.getD j default).kc)) ((C13.getD j default).kids.length) ((C13.getD j default).kids.flatMap nodeCell) :: NodesA ((C13.getD j default).kids) :: NodeA (C13.getD j default) :: blk bk42 (.cells #[.int .i64 ((C13.getD j default).kind.v), .string ((C13.getD j default).var.v), .string ((C13.getD j default).typ.v), .slice ((C13.getD j default).tp) ((C13.getD j default).tests.length) ((C13.getD j default).tc), .slice ((C13.getD j default).kp) ((C13.getD j default).kids.length) ((C13.getD j default).kc)] 25 (0, 0)) :: NodesA (flatJ n.kind.v (C13.take j)) :: Row 25 5 (.slice lp ((flatJ n.kind.v (C13.take j)).length) lc) ((flatJ n.kind.v (C13.take j)).length) ((flatJ n.kind.v (C13.take j)).flatMap nodeCell) :: imi (0 < C13.length) gA23 (.cells kA25 eA26 zA27) :: Im 11 (.slice pp9 n.tests.length cc10) n.tests.length (n.tests.flatMap condCell) :: Im 5 (.slice pp11 C13.length cc12) C13.length (C13.flatMap nodeCell) :: NodesA C13 :: blk bk6 (.cells #[.int .i64 0, .string ByteArray.empty, .string ByteArray.empty, .slice none 0 0, .slice none 0 0] 25 (0, 0)) :: blk bk3 (.cells #[.int .i64 n.kind.v, .string n.var.v, .string n.typ.v, .slice pp9 n.tests.length cc10, .slice pp11 C13.length cc12] 25 (0, 0)) :: NodeA n :: F) := H48
        by_cases hc50 : (C13.getD j default).kind.v = n.kind.v
        · skip
          refine r_cons (s_eql true rfl rfl (dtrue hc50) rfl ?_)
          refine r_nil ?_
          refine g_true rfl ?_
          refine g_region ?_
          refine r_cons (s_move (.slice lp ((flatJ n.kind.v (C13.take j)).length) lc) rfl rfl ?_)
          refine r_cons (s_fieldAddr 25 4 4 4 23 rfl fi_25_4 rfl rfl ?_)
          refine r_cons (s_load (.slice ((C13.getD j default).kp) ((C13.getD j default).kids.length) ((C13.getD j default).kc)) ag_23 rfl (H49.blk_at (i := 3) rfl) rfl rfl ?_)
          rw [if_pos hc50] at hfl9
          try simp only [List.length_cons, List.length_nil] at hfl9
          refine r_cons (s_append H49 5 rfl rfl rfl (Im.rd H49 (i := 0) rfl) ap_23 (by decide) (by unfold maxLen; omega) (by omega) (n' := (flatJ n.kind.v (C13.take j)).length + (C13.getD j default).kids.length) (xs' := (flatJ n.kind.v (C13.take j)).flatMap nodeCell ++ (C13.getD j default).kids.flatMap nodeCell) (by omega) (by first | rfl | simp) rfl ?_); intro vv51 w52 H53 hn54
          obtain ⟨pp55, cc56, rfl⟩ := Row.slice H53 (i := 5) rfl
          refine r_cons (s_assign (.slice pp55 ((flatJ n.kind.v (C13.take j)).length + (C13.getD j default).kids.length) cc56) rfl rfl ?_)
          refine r_nil ?_
          refine g_inBlock ?_
          refine g_region ?_
          refine r_cons (s_add ((j : Int) + 1) rfl rfl (wi64 (by omega)) rfl ?_)
          refine r_cons (s_move (.int .i64 ((j : Int) + 1)) rfl rfl ?_)
          refine r_nil ?_
          have hl57 : ((flatJ n.kind.v (C13.take j)) ++ (C13.getD j default).kids).length = (flatJ n.kind.v (C13.take j)).length + (C13.getD j default).kids.length := by simp only [List.length_append, List.length_cons, List.length_nil]
          have H58 : St W w52 (Im 5 (.slice ((C13.getD j default).kp) ((C13.getD j default).kids.length) ((C13.getD j default).kc)) ((C13.getD j default).kids.length) ((C13.getD j default).kids.flatMap nodeCell) :: NodesA ((C13.getD j default).kids) :: NodeA (C13.getD j default) :: blk bk42 (.cells #[.int .i64 ((C13.getD j default).kind.v), .string ((C13.getD j default).var.v), .string ((C13.getD j default).typ.v), .slice ((C13.getD j default).tp) ((C13.getD j default).tests.length) ((C13.getD j default).tc), .slice ((C13.getD j default).kp) ((C13.getD j default).kids.length) ((C13.getD j default).kc)] 25 (0, 0)) :: NodesA (flatJ n.kind.v (C13.take j)) :: Row 25 5 (.slice pp55 (((flatJ n.kind.v (C13.take j)) ++ (C13.getD j default).kids).length) cc56) (((flatJ n.kind.v (C13.take j)) ++ (C13.getD j default).kids).length) (((flatJ n.kind.v (C13.take j)) ++ (C13.getD j default).kids).flatMap nodeCell) :: imi (0 < C13.length) gA23 (.cells kA25 eA26 zA27) :: Im 11 (.slice pp9 n.tests.length cc10) n.tests.length (n.tests.flatMap condCell) :: Im 5 (.slice pp11 C13.length cc12) C13.length (C13.flatMap nodeCell) :: NodesA C13 :: blk bk6 (.cells #[.int .i64 0, .string ByteArray.empty, .string ByteArray.empty, .slice none 0 0, .slice none 0 0] 25 (0, 0)) :: blk bk3 (.cells #[.int .i64 n.kind.v, .string n.var.v, .string n.typ.v, .slice pp9 n.tests.length cc10, .slice pp11 C13.length cc12] 25 (0, 0)) :: NodeA n :: F) := by rw [hl57, List.flatMap_append]; first | exact H53 | simpa using H53
          have hJ59 : ((flatJ n.kind.v (C13.take j)) ++ (C13.getD j default).kids) = (flatJ n.kind.v (C13.take (j + 1))) := by rw [flatJ_step (by omega), if_pos hc50]
          have H60 : St W w52 (NodesA ((flatJ n.kind.v (C13.take j)) ++ (C13.getD j default).kids) :: Im 5 (.slice ((C13.getD j default).kp) ((C13.getD j default).kids.length) ((C13.getD j default).kc)) ((C13.getD j default).kids.length) ((C13.getD j default).kids.flatMap nodeCell) :: NodesA ((C13.getD j default).kids) :: NodeA (C13.getD j default) :: blk bk42 (.cells #[.int .i64 ((C13.getD j default).kind.v), .string ((C13.getD j default).var.v), .string ((C13.getD j default).typ.v), .slice ((C13.getD j default).tp) ((C13.getD j default).tests.length) ((C13.getD j default).tc), .slice ((C13.getD j default).kp) ((C13.getD j default).kids.length) ((C13.getD j default).kc)] 25 (0, 0)) :: NodesA (flatJ n.kind.v (C13.take j)) :: Row 25 5 (.slice pp55 (((flatJ n.kind.v (C13.take j)) ++ (C13.getD j default).kids).length) cc56) (((flatJ n.kind.v (C13.take j)) ++ (C13.getD j default).kids).length) (((flatJ n.kind.v (C13.take j)) ++ (C13.getD j default).kids).flatMap nodeCell) :: imi (0 < C13.length) gA23 (.cells kA25 eA26 zA27) :: Im 11 (.slice pp9 n.tests.length cc10) n.tests.length (n.tests.flatMap condCell) :: Im 5 (.slice pp11 C13.length cc12) C13.length (C13.flatMap nodeCell) :: NodesA C13 :: blk bk6 (.cells #[.int .i64 0, .string ByteArray.empty, .string ByteArray.empty, .slice none 0 0, .slice none 0 0] 25 (0, 0)) :: blk bk3 (.cells #[.int .i64 n.kind.v, .string n.var.v, .string n.typ.v, .slice pp9 n.tests.length cc10, .slice pp11 C13.length cc12] 25 (0, 0)) :: NodeA n :: F) := NodesA.app H58 (a := 4) (b := 1) rfl rfl
          have H61 : St W w52 (NodesA (flatJ n.kind.v (C13.take (j + 1))) :: Im 5 (.slice ((C13.getD j default).kp) ((C13.getD j default).kids.length) ((C13.getD j default).kc)) ((C13.getD j default).kids.length) ((C13.getD j default).kids.flatMap nodeCell) :: NodesA ((C13.getD j default).kids) :: NodeA (C13.getD j default) :: blk bk42 (.cells #[.int .i64 ((C13.getD j default).kind.v), .string ((C13.getD j default).var.v), .string ((C13.getD j default).typ.v), .slice ((C13.getD j default).tp) ((C13.getD j default).tests.length) ((C13.getD j default).tc), .slice ((C13.getD j default).kp) ((C13.getD j default).kids.length) ((C13.getD j default).kc)] 25 (0, 0)) :: NodesA (flatJ n.kind.v (C13.take j)) :: Row 25 5 (.slice pp55 ((flatJ n.kind.v (C13.take (j + 1))).length) cc56) ((flatJ n.kind.v (C13.take (j + 1))).length) ((flatJ n.kind.v (C13.take (j + 1))).flatMap nodeCell) :: imi (0 < C13.length) gA23 (.cells kA25 eA26 zA27) :: Im 11 (.slice pp9 n.tests.length cc10) n.tests.length (n.tests.flatMap condCell) :: Im 5 (.slice pp11 C13.length cc12) C13.length (C13.flatMap nodeCell) :: NodesA C13 :: blk bk6 (.cells #[.int .i64 0, .string ByteArray.empty, .string ByteArray.empty, .slice none 0 0, .slice none 0 0] 25 (0, 0)) :: blk bk3 (.cells #[.int .i64 n.kind.v, .string n.var.v, .string n.typ.v, .slice pp9 n.tests.length cc10, .slice pp11 C13.length cc12] 25 (0, 0)) :: NodeA n :: F) := by rw [← hJ59]; exact H60
          have H62 : St W w52 (NodesA (flatJ n.kind.v (C13.take (j + 1))) :: Row 25 5 (.slice pp55 ((flatJ n.kind.v (C13.take (j + 1))).length) cc56) ((flatJ n.kind.v (C13.take (j + 1))).length) ((flatJ n.kind.v (C13.take (j + 1))).flatMap nodeCell) :: imi (0 < C13.length) gA23 (.cells kA25 eA26 zA27) :: Im 11 (.slice pp9 n.tests.length cc10) n.tests.length (n.tests.flatMap condCell) :: Im 5 (.slice pp11 C13.length cc12) C13.length (C13.flatMap nodeCell) :: NodesA C13 :: blk bk6 (.cells #[.int .i64 0, .string ByteArray.empty, .string ByteArray.empty, .slice none 0 0, .slice none 0 0] 25 (0, 0)) :: blk bk3 (.cells #[.int .i64 n.kind.v, .string n.var.v, .string n.typ.v, .slice pp9 n.tests.length cc10, .slice pp11 C13.length cc12] 25 (0, 0)) :: NodeA n :: F) := ((((((((((((((H61.move 13 rfl).move 13 rfl).move 13 rfl).move 13 rfl).move 13 rfl).move 13 rfl).move 13 rfl).move 13 rfl).move 8 rfl).drop 9 rfl).drop 9 rfl).drop 9 rfl).drop 9 rfl).drop 9 rfl)
          exact nx40 (pp55, cc56, j + 1) _ _ ⟨(by omega), H62⟩ (by first | (dsimp only; omega) | omega) ⟨by first | rfl | exact vint (by omega), by first | rfl | exact vint (by omega), (show (.slice pp55 ((flatJ n.kind.v (C13.take j)).length + (C13.getD j default).kids.length) cc56 : Value) = .slice pp55 ((flatJ n.kind.v (C13.take (j + 1))).length) cc56 from by rw [← hJ59, hl57]), by first | rfl | exact vint (by omega), by first | rfl | exact vint (by omega), by first | rfl | exact vint (by omega), trivial⟩
        · skip
          refine r_cons (s_eql false rfl rfl (dfalse hc50) rfl ?_)
          refine r_nil ?_
          refine g_false rfl ?_
          refine g_region ?_
          refine r_cons (s_move (.slice lp ((flatJ n.kind.v (C13.take j)).length) lc) rfl rfl ?_)
          refine r_cons (s_loadAgg [.int .i64 ((C13.getD j default).kind.v), .string ((C13.getD j default).var.v), .string ((C13.getD j default).typ.v), .slice ((C13.getD j default).tp) ((C13.getD j default).tests.length) ((C13.getD j default).tc), .slice ((C13.getD j default).kp) ((C13.getD j default).kids.length) ((C13.getD j default).kc)] 5 ag_25 rfl (H49.blk_at (i := 3) rfl) (Nat.le_of_ble_eq_true rfl) rfl rfl ?_)
          refine r_cons (s_buildSlice H49 5 1 (cs := #[.int .i64 ((C13.getD j default).kind.v), .string ((C13.getD j default).var.v), .string ((C13.getD j default).typ.v), .slice ((C13.getD j default).tp) ((C13.getD j default).tests.length) ((C13.getD j default).tc), .slice ((C13.getD j default).kp) ((C13.getD j default).kids.length) ((C13.getD j default).kc)]) #[.int .i64 0, .string ByteArray.empty, .string ByteArray.empty, .slice none 0 0, .slice none 0 0] el_23 ze_25 (by decide) (by decide) (by kernel_rfl) rfl ?_); intro bk63 w64 H65
          rw [if_neg hc50] at hfl9
          try simp only [List.length_cons, List.length_nil] at hfl9
          refine r_cons (s_append H65 6 rfl rfl rfl (rd_blk (H65.blk_at (i := 0) rfl) rfl (Nat.le_of_ble_eq_true rfl) (by simp [Value.oneCell'])) ap_23 (by decide) (by unfold maxLen; omega) (by omega) (n' := (flatJ n.kind.v (C13.take j)).length + 1) (xs' := (flatJ n.kind.v (C13.take j)).flatMap nodeCell ++ ([.int .i64 ((C13.getD j default).kind.v), .string ((C13.getD j default).var.v), .string ((C13.getD j default).typ.v), .slice ((C13.getD j default).tp) ((C13.getD j default).tests.length) ((C13.getD j default).tc), .slice ((C13.getD j default).kp) ((C13.getD j default).kids.length) ((C13.getD j default).kc)] : List Value)) (by omega) (by first | rfl | simp) rfl ?_); intro vv66 w67 H68 hn69
          obtain ⟨pp70, cc71, rfl⟩ := Row.slice H68 (i := 6) rfl
          refine r_cons (s_assign (.slice pp70 ((flatJ n.kind.v (C13.take j)).length + 1) cc71) rfl rfl ?_)
          refine r_nil ?_
          refine g_inBlock ?_
          refine g_region ?_
          refine r_cons (s_add ((j : Int) + 1) rfl rfl (wi64 (by omega)) rfl ?_)
          refine r_cons (s_move (.int .i64 ((j : Int) + 1)) rfl rfl ?_)
          refine r_nil ?_
          have hl72 : ((flatJ n.kind.v (C13.take j)) ++ [(C13.getD j default)]).length = (flatJ n.kind.v (C13.take j)).length + 1 := by simp only [List.length_append, List.length_cons, List.length_nil]
          have H73 : St W w67 (blk bk63 (.cells #[.int .i64 ((C13.getD j default).kind.v), .string ((C13.getD j default).var.v), .string ((C13.getD j default).typ.v), .slice ((C13.getD j default).tp) ((C13.getD j default).tests.length) ((C13.getD j default).tc), .slice ((C13.getD j default).kp) ((C13.getD j default).kids.length) ((C13.getD j default).kc)] 25 (0, 0)) :: Im 5 (.slice ((C13.getD j default).kp) ((C13.getD j default).kids.length) ((C13.getD j default).kc)) ((C13.getD j default).kids.length) ((C13.getD j default).kids.flatMap nodeCell) :: NodesA ((C13.getD j default).kids) :: NodeA (C13.getD j default) :: blk bk42 (.cells #[.int .i64 ((C13.getD j default).kind.v), .string ((C13.getD j default).var.v), .string ((C13.getD j default).typ.v), .slice ((C13.getD j default).tp) ((C13.getD j default).tests.length) ((C13.getD j default).tc), .slice ((C13.getD j default).kp) ((C13.getD j default).kids.length) ((C13.getD j default).kc)] 25 (0, 0)) :: NodesA (flatJ n.kind.v (C13.take j)) :: Row 25 5 (.slice pp70 (((flatJ n.kind.v (C13.take j)) ++ [(C13.getD j default)]).length) cc71) (((flatJ n.kind.v (C13.take j)) ++ [(C13.getD j default)]).length) (((flatJ n.kind.v (C13.take j)) ++ [(C13.getD j default)]).flatMap nodeCell) :: imi (0 < C13.length) gA23 (.cells kA25 eA26 zA27) :: Im 11 (.slice pp9 n.tests.length cc10) n.tests.length (n.tests.flatMap condCell) :: Im 5 (.slice pp11 C13.length cc12) C13.length (C13.flatMap nodeCell) :: NodesA C13 :: blk bk6 (.cells #[.int .i64 0, .string ByteArray.empty, .string ByteArray.empty, .slice none 0 0, .slice none 0 0] 25 (0, 0)) :: blk bk3 (.cells #[.int .i64 n.kind.v, .string n.var.v, .string n.typ.v, .slice pp9 n.tests.length cc10, .slice pp11 C13.length cc12] 25 (0, 0)) :: NodeA n :: F) := by rw [hl72, List.flatMap_append]; first | exact H68 | simpa using H68
          have hJ74 : ((flatJ n.kind.v (C13.take j)) ++ [(C13.getD j default)]) = (flatJ n.kind.v (C13.take (j + 1))) := by rw [flatJ_step (by omega), if_neg hc50]
          have H75 : St W w67 (NodesA ((flatJ n.kind.v (C13.take j)) ++ [(C13.getD j default)]) :: blk bk63 (.cells #[.int .i64 ((C13.getD j default).kind.v), .string ((C13.getD j default).var.v), .string ((C13.getD j default).typ.v), .slice ((C13.getD j default).tp) ((C13.getD j default).tests.length) ((C13.getD j default).tc), .slice ((C13.getD j default).kp) ((C13.getD j default).kids.length) ((C13.getD j default).kc)] 25 (0, 0)) :: Im 5 (.slice ((C13.getD j default).kp) ((C13.getD j default).kids.length) ((C13.getD j default).kc)) ((C13.getD j default).kids.length) ((C13.getD j default).kids.flatMap nodeCell) :: NodesA ((C13.getD j default).kids) :: NodeA (C13.getD j default) :: blk bk42 (.cells #[.int .i64 ((C13.getD j default).kind.v), .string ((C13.getD j default).var.v), .string ((C13.getD j default).typ.v), .slice ((C13.getD j default).tp) ((C13.getD j default).tests.length) ((C13.getD j default).tc), .slice ((C13.getD j default).kp) ((C13.getD j default).kids.length) ((C13.getD j default).kc)] 25 (0, 0)) :: NodesA (flatJ n.kind.v (C13.take j)) :: Row 25 5 (.slice pp70 (((flatJ n.kind.v (C13.take j)) ++ [(C13.getD j default)]).length) cc71) (((flatJ n.kind.v (C13.take j)) ++ [(C13.getD j default)]).length) (((flatJ n.kind.v (C13.take j)) ++ [(C13.getD j default)]).flatMap nodeCell) :: imi (0 < C13.length) gA23 (.cells kA25 eA26 zA27) :: Im 11 (.slice pp9 n.tests.length cc10) n.tests.length (n.tests.flatMap condCell) :: Im 5 (.slice pp11 C13.length cc12) C13.length (C13.flatMap nodeCell) :: NodesA C13 :: blk bk6 (.cells #[.int .i64 0, .string ByteArray.empty, .string ByteArray.empty, .slice none 0 0, .slice none 0 0] 25 (0, 0)) :: blk bk3 (.cells #[.int .i64 n.kind.v, .string n.var.v, .string n.typ.v, .slice pp9 n.tests.length cc10, .slice pp11 C13.length cc12] 25 (0, 0)) :: NodeA n :: F) := NodesA.snoc' H73 (a := 5) (b := 3) rfl rfl
          have H76 : St W w67 (NodesA (flatJ n.kind.v (C13.take (j + 1))) :: blk bk63 (.cells #[.int .i64 ((C13.getD j default).kind.v), .string ((C13.getD j default).var.v), .string ((C13.getD j default).typ.v), .slice ((C13.getD j default).tp) ((C13.getD j default).tests.length) ((C13.getD j default).tc), .slice ((C13.getD j default).kp) ((C13.getD j default).kids.length) ((C13.getD j default).kc)] 25 (0, 0)) :: Im 5 (.slice ((C13.getD j default).kp) ((C13.getD j default).kids.length) ((C13.getD j default).kc)) ((C13.getD j default).kids.length) ((C13.getD j default).kids.flatMap nodeCell) :: NodesA ((C13.getD j default).kids) :: NodeA (C13.getD j default) :: blk bk42 (.cells #[.int .i64 ((C13.getD j default).kind.v), .string ((C13.getD j default).var.v), .string ((C13.getD j default).typ.v), .slice ((C13.getD j default).tp) ((C13.getD j default).tests.length) ((C13.getD j default).tc), .slice ((C13.getD j default).kp) ((C13.getD j default).kids.length) ((C13.getD j default).kc)] 25 (0, 0)) :: NodesA (flatJ n.kind.v (C13.take j)) :: Row 25 5 (.slice pp70 ((flatJ n.kind.v (C13.take (j + 1))).length) cc71) ((flatJ n.kind.v (C13.take (j + 1))).length) ((flatJ n.kind.v (C13.take (j + 1))).flatMap nodeCell) :: imi (0 < C13.length) gA23 (.cells kA25 eA26 zA27) :: Im 11 (.slice pp9 n.tests.length cc10) n.tests.length (n.tests.flatMap condCell) :: Im 5 (.slice pp11 C13.length cc12) C13.length (C13.flatMap nodeCell) :: NodesA C13 :: blk bk6 (.cells #[.int .i64 0, .string ByteArray.empty, .string ByteArray.empty, .slice none 0 0, .slice none 0 0] 25 (0, 0)) :: blk bk3 (.cells #[.int .i64 n.kind.v, .string n.var.v, .string n.typ.v, .slice pp9 n.tests.length cc10, .slice pp11 C13.length cc12] 25 (0, 0)) :: NodeA n :: F) := by rw [← hJ74]; exact H75
          have H77 : St W w67 (NodesA (flatJ n.kind.v (C13.take (j + 1))) :: Row 25 5 (.slice pp70 ((flatJ n.kind.v (C13.take (j + 1))).length) cc71) ((flatJ n.kind.v (C13.take (j + 1))).length) ((flatJ n.kind.v (C13.take (j + 1))).flatMap nodeCell) :: imi (0 < C13.length) gA23 (.cells kA25 eA26 zA27) :: Im 11 (.slice pp9 n.tests.length cc10) n.tests.length (n.tests.flatMap condCell) :: Im 5 (.slice pp11 C13.length cc12) C13.length (C13.flatMap nodeCell) :: NodesA C13 :: blk bk6 (.cells #[.int .i64 0, .string ByteArray.empty, .string ByteArray.empty, .slice none 0 0, .slice none 0 0] 25 (0, 0)) :: blk bk3 (.cells #[.int .i64 n.kind.v, .string n.var.v, .string n.typ.v, .slice pp9 n.tests.length cc10, .slice pp11 C13.length cc12] 25 (0, 0)) :: NodeA n :: F) := (((((((((((((((H76.move 14 rfl).move 14 rfl).move 14 rfl).move 14 rfl).move 14 rfl).move 14 rfl).move 14 rfl).move 14 rfl).move 8 rfl).drop 9 rfl).drop 9 rfl).drop 9 rfl).drop 9 rfl).drop 9 rfl).drop 9 rfl)
          exact nx40 (pp70, cc71, j + 1) _ _ ⟨(by omega), H77⟩ (by first | (dsimp only; omega) | omega) ⟨by first | rfl | exact vint (by omega), by first | rfl | exact vint (by omega), (show (.slice pp70 ((flatJ n.kind.v (C13.take j)).length + 1) cc71 : Value) = .slice pp70 ((flatJ n.kind.v (C13.take (j + 1))).length) cc71 from by rw [← hJ74, hl72]), by first | rfl | exact vint (by omega), by first | rfl | exact vint (by omega), by first | rfl | exact vint (by omega), trivial⟩
      · skip
        refine r_cons (s_lss false rfl rfl (dfalse hc41) rfl ?_)
        refine r_nil ?_
        refine g_seq ?_
        refine g_false rfl ?_
        refine g_exit (by rfl) ?_
        refine g_seq ?_
        refine g_region ?_
        refine r_cons (s_move (.slice lp ((flatJ n.kind.v (C13.take j)).length) lc) rfl rfl ?_)
        refine r_cons (s_fieldAddr 25 4 4 4 23 rfl fi_25_4 rfl rfl ?_)
        refine r_cons (s_store H39 7 (.slice lp ((flatJ n.kind.v (C13.take j)).length) lc) rfl rfl rfl sz_23 rfl (Nat.le_of_ble_eq_true rfl) rfl (cs' := #[.int .i64 n.kind.v, .string n.var.v, .string n.typ.v, .slice pp9 n.tests.length cc10, .slice lp ((flatJ n.kind.v (C13.take j)).length) lc]) rfl ?_); intro w78 H79
        refine r_nil ?_
        refine g_seq ?_
        refine g_region ?_
        refine r_cons (s_loadAgg [.int .i64 n.kind.v, .string n.var.v, .string n.typ.v, .slice pp9 n.tests.length cc10, .slice lp ((flatJ n.kind.v (C13.take j)).length) lc] 5 ag_25 rfl (H79.blk_at (i := 7) rfl) (Nat.le_of_ble_eq_true rfl) rfl rfl ?_)
        refine r_cons (s_storeAgg H79 6 #[.int .i64 n.kind.v, .string n.var.v, .string n.typ.v, .slice pp9 n.tests.length cc10, .slice lp ((flatJ n.kind.v (C13.take j)).length) lc] 5 rfl rfl rfl sz_25 rfl (by simp [Value.oneCell']) (Nat.le_of_ble_eq_true rfl) (fun o h1 h2 => by first | (simp; done) | (simp; omega)) (cs' := #[.int .i64 n.kind.v, .string n.var.v, .string n.typ.v, .slice pp9 n.tests.length cc10, .slice lp ((flatJ n.kind.v (C13.take j)).length) lc]) rfl ?_); intro w80 H81
        refine r_nil ?_
        refine g_ret' [.agg #[.int .i64 n.kind.v, .string n.var.v, .string n.typ.v, .slice pp9 n.tests.length cc10, .slice lp ((flatJ n.kind.v (C13.take j)).length) lc]] Try.func17 Try.results17 ⟨(res_cellN rfl ag_25 (H81.blk_at (i := 6) rfl) (Nat.le_of_ble_eq_true rfl) rfl), trivial⟩ ?_
        have hT82 : C13.take j = C13 := List.take_of_length_le (by omega)
        have H83 := H81
        rw [hT82] at H83
        have H84 : St W w80 (NodesA (flatJ n.kind.v C13) :: Row 25 5 (.slice lp ((flatJ n.kind.v C13).length) lc) ((flatJ n.kind.v C13).length) ((flatJ n.kind.v C13).flatMap nodeCell) :: Im 11 (.slice pp9 n.tests.length cc10) n.tests.length (n.tests.flatMap condCell) :: F) := (((((((((H83.move 3 rfl).move 2 rfl).move 2 rfl).drop 3 rfl).drop 3 rfl).drop 3 rfl).drop 3 rfl).drop 3 rfl).drop 3 rfl)
        have H85 : St W w80 (NodesA (flatJ n.kind.v C13) :: Im 5 (.slice lp ((flatJ n.kind.v C13).length) lc) ((flatJ n.kind.v C13).length) ((flatJ n.kind.v C13).flatMap nodeCell) :: Im 11 (.slice pp9 n.tests.length cc10) n.tests.length (n.tests.flatMap condCell) :: F) := Row.im H84 (i := 1) rfl
        have H86 : St W w80 (NodeA (NodeD.mk n.kind n.var n.typ pp9 cc10 n.tests lp lc (flatJ n.kind.v C13)) :: NodesA (flatJ n.kind.v C13) :: Im 5 (.slice lp ((flatJ n.kind.v C13).length) lc) ((flatJ n.kind.v C13).length) ((flatJ n.kind.v C13).flatMap nodeCell) :: Im 11 (.slice pp9 n.tests.length cc10) n.tests.length (n.tests.flatMap condCell) :: F) := NodeA.make (a := 2) (b := 1) (c := 0) (.mk n.kind n.var n.typ pp9 cc10 n.tests lp lc (flatJ n.kind.v C13)) H85 rfl rfl rfl (by have h9 := flatJ_len n.kind.v C13; exact ⟨by show n.tests.length * 136 ≤ _; omega, by show (flatJ n.kind.v C13).length * 88 ≤ _; omega⟩)
        have H87 : St W w80 (NodeA (NodeD.mk n.kind n.var n.typ pp9 cc10 n.tests lp lc (flatJ n.kind.v C13)) :: F) := (((H86.drop 1 rfl).drop 1 rfl).drop 1 rfl)
        exact ⟨(.mk n.kind n.var n.typ pp9 cc10 n.tests lp lc (flatJ n.kind.v C13)), by rw [hT82]; rfl, by rw [flatN_eq]; show NodeD.mk _ _ _ _ _ _ _ _ (eraseL (flatJ n.kind.v C13)) = _; rw [eraseL_map, flatJ_erase, hC14]; unfold flatK; rw [if_pos (by unfold innerB; simp [hc20])], H87⟩
  · skip
    refine r_cons (s_neq true rfl rfl (nfalse hc20) rfl ?_)
    refine r_cons (s_move (.bool true) rfl rfl ?_)
    refine r_cons (r_take rfl rfl ?_)
    refine s_fieldAddr 25 0 0 0 3 rfl fi_25_0 rfl rfl ?_
    refine r_cons (r_take rfl rfl ?_)
    refine s_load (.int .i64 n.kind.v) ag_3 rfl (H19.blk_at (i := 4) rfl) rfl rfl ?_
    refine r_cons (r_take rfl rfl ?_)
    by_cases hc88 : n.kind.v = 3
    · skip
      refine s_neq false rfl rfl (ntrue hc88) rfl ?_
      refine r_cons (s_pick_t (.bool false) rfl rfl rfl ?_)
      refine r_cons (s_move (.bool false) rfl rfl ?_)
      refine r_cons (r_pass rfl rfl rfl rfl rfl ?_)
      refine r_cons (r_pass rfl rfl rfl rfl rfl ?_)
      refine r_cons (r_pass rfl rfl rfl rfl rfl ?_)
      refine r_cons (s_pick_f (.bool false) rfl rfl rfl ?_)
      refine r_nil ?_
      refine g_false rfl ?_
      refine g_skip ?_
      refine g_seq ?_
      refine g_region ?_
      refine r_cons (s_assign (.slice none 0 0) rfl rfl ?_)
      refine r_nil ?_
      refine g_seq ?_
      refine g_seq ?_
      refine g_region ?_
      refine r_cons (s_fieldAddr 25 4 4 4 23 rfl fi_25_4 rfl rfl ?_)
      refine r_cons (s_load (.slice pp11 C13.length cc12) ag_23 rfl (H19.blk_at (i := 4) rfl) rfl rfl ?_)
      refine r_cons (s_len C13.length rfl ⟨_, un_23⟩ rfl ?_)
      refine r_cons (s_move (.int .i64 0) rfl rfl ?_)
      refine r_nil ?_
      refine g_block ?_
      obtain ⟨pA89, cA90, gA91, oA92, kA93, eA94, zA95, he101, hn96, hp97, hx98, hs99, hml, H100⟩ := Im.open_ H19 (i := 1) rfl
      obtain ⟨rfl, rfl⟩ : pp11 = pA89 ∧ cc12 = cA90 := by injection he101 with a_ b_ c_; exact ⟨a_, c_⟩
      have H102 := Row.nil_intro H100 25 5
      have H103 : St W w17 (NodesA [] :: Row 25 5 (.slice none 0 0) 0 [] :: imi (0 < C13.length) gA91 (.cells kA93 eA94 zA95) :: Im 11 (.slice pp9 n.tests.length cc10) n.tests.length (n.tests.flatMap condCell) :: Im 5 (.slice pp11 C13.length cc12) C13.length (C13.flatMap nodeCell) :: NodesA C13 :: blk bk6 (.cells #[.int .i64 0, .string ByteArray.empty, .string ByteArray.empty, .slice none 0 0, .slice none 0 0] 25 (0, 0)) :: blk bk3 (.cells #[.int .i64 n.kind.v, .string n.var.v, .string n.typ.v, .slice pp9 n.tests.length cc10, .slice pp11 C13.length cc12] 25 (0, 0)) :: NodeA n :: F) := NodesA.nil H102
      have H104 : St W w17 (NodesA [] :: Row 25 5 (.slice none 0 0) 0 [] :: imi (0 < C13.length) gA91 (.cells kA93 eA94 zA95) :: Im 11 (.slice pp9 n.tests.length cc10) n.tests.length (n.tests.flatMap condCell) :: Im 5 (.slice pp11 C13.length cc12) C13.length (C13.flatMap nodeCell) :: NodesA C13 :: blk bk6 (.cells #[.int .i64 0, .string ByteArray.empty, .string ByteArray.empty, .slice none 0 0, .slice none 0 0] 25 (0, 0)) :: blk bk3 (.cells #[.int .i64 n.kind.v, .string n.var.v, .string n.typ.v, .slice pp9 n.tests.length cc10, .slice pp11 C13.length cc12] 25 (0, 0)) :: NodeA n :: F) := (((((((((H103.move 8 rfl).move 8 rfl).move 8 rfl).move 8 rfl).move 8 rfl).move 8 rfl).move 8 rfl).move 8 rfl).move 8 rfl)
      refine g_loop_inv (fun (x_ : (Option Addr) × Nat × Nat) => match x_ with | (lp, lc, j) => [(1, .pointer (some ⟨bk3, 0, none⟩)), (2, .pointer (some ⟨bk6, 0, none⟩)), (3, .slice lp ((flatJ n.kind.v (C13.take j)).length) lc), (23, .slice pp11 C13.length cc12), (24, .int .i64 (C13.length : Int)), (25, .int .i64 (j : Int))]) (fun (x_ : (Option Addr) × Nat × Nat) w => match x_ with | (lp, lc, j) => (j ≤ C13.length) ∧ St W w (NodesA (flatJ n.kind.v (C13.take j)) :: Row 25 5 (.slice lp ((flatJ n.kind.v (C13.take j)).length) lc) ((flatJ n.kind.v (C13.take j)).length) ((flatJ n.kind.v (C13.take j)).flatMap nodeCell) :: imi (0 < C13.length) gA91 (.cells kA93 eA94 zA95) :: Im 11 (.slice pp9 n.tests.length cc10) n.tests.length (n.tests.flatMap condCell) :: Im 5 (.slice pp11 C13.length cc12) C13.length (C13.flatMap nodeCell) :: NodesA C13 :: blk bk6 (.cells #[.int .i64 0, .string ByteArray.empty, .string ByteArray.empty, .slice none 0 0, .slice none 0 0] 25 (0, 0)) :: blk bk3 (.cells #[.int .i64 n.kind.v, .string n.var.v, .string n.typ.v, .slice pp9 n.tests.length cc10, .slice pp11 C13.length cc12] 25 (0, 0)) :: NodeA n :: F)) (fun (x_ : (Option Addr) × Nat × Nat) => match x_ with | (lp, lc, j) => C13.length - j) (none, 0, 0) ?_ ?_ ?_
      · exact ⟨by first | rfl | exact vint (by omega), by first | rfl | exact vint (by omega), by first | rfl | exact vint (by omega), by first | rfl | exact vint (by omega), by first | rfl | exact vint (by omega), by first | rfl | exact vint (by omega), trivial⟩
      · exact ⟨(by omega), H104⟩
      · rintro ⟨lp, lc, j⟩ ρ105 w106 ⟨hjl, H107⟩ nx108
        change Ends _ _ (upds ρ105 [(1, .pointer (some ⟨bk3, 0, none⟩)), (2, .pointer (some ⟨bk6, 0, none⟩)), (3, .slice lp ((flatJ n.kind.v (C13.take j)).length) lc), (23, .slice pp11 C13.length cc12), (24, .int .i64 (C13.length : Int)), (25, .int .i64 (j : Int))]) w106
        refine g_seq ?_
        refine g_region ?_
        by_cases hc109 : (j : Int) < (C13.length : Int)
        · skip
          refine r_cons (s_lss true rfl rfl (dtrue hc109) rfl ?_)
          refine r_nil ?_
          refine g_seq ?_
          refine g_true rfl ?_
          refine g_skip ?_
          refine g_seq ?_
          refine g_block ?_
          refine g_seq ?_
          refine g_region ?_
          refine r_cons (s_indexAddr gA91 (off := oA92) (j : Int) 5 (oA92 + j * 5) (by exact congrArg (fun z_ => Value.slice z_ C13.length cc12) (hp97 (by omega))) rfl el_23 (by omega) rfl rfl ?_)
          refine r_cons (s_loadAgg [.int .i64 ((C13.getD j default).kind.v), .string ((C13.getD j default).var.v), .string ((C13.getD j default).typ.v), .slice ((C13.getD j default).tp) ((C13.getD j default).tests.length) ((C13.getD j default).tc), .slice ((C13.getD j default).kp) ((C13.getD j default).kids.length) ((C13.getD j default).kc)] 5 ag_25 rfl (H107.imi_at (i := 2) rfl (by omega)) (by have := elem_size (i := j) (s := 5) (hs99 (by omega)) (by omega); omega) (elem_take nodeCell_len (hx98 (by omega)) (by omega) default) rfl ?_)
          refine r_cons (s_alloc H107 25 ze_25 rfl ?_); intro bk110 w111 H112
          refine r_cons (s_storeAgg H112 0 #[.int .i64 ((C13.getD j default).kind.v), .string ((C13.getD j default).var.v), .string ((C13.getD j default).typ.v), .slice ((C13.getD j default).tp) ((C13.getD j default).tests.length) ((C13.getD j default).tc), .slice ((C13.getD j default).kp) ((C13.getD j default).kids.length) ((C13.getD j default).kc)] 5 rfl rfl rfl sz_25 rfl (by simp [Value.oneCell']) (Nat.le_of_ble_eq_true rfl) (fun o h1 h2 => by first | (simp; done) | (simp; omega)) (cs' := #[.int .i64 ((C13.getD j default).kind.v), .string ((C13.getD j default).var.v), .string ((C13.getD j default).typ.v), .slice ((C13.getD j default).tp) ((C13.getD j default).tests.length) ((C13.getD j default).tc), .slice ((C13.getD j default).kp) ((C13.getD j default).kids.length) ((C13.getD j default).kc)]) rfl ?_); intro w113 H114
          refine r_nil ?_
          refine g_seq ?_
          refine g_region ?_
          refine r_cons (s_fieldAddr 25 0 0 0 3 rfl fi_25_0 rfl rfl ?_)
          refine r_cons (s_load (.int .i64 ((C13.getD j default).kind.v)) ag_3 rfl (H114.blk_at (i := 0) rfl) rfl rfl ?_)
          refine r_cons (s_fieldAddr 25 0 0 0 3 rfl fi_25_0 rfl rfl ?_)
          refine r_cons (s_load (.int .i64 n.kind.v) ag_3 rfl (H114.blk_at (i := 8) rfl) rfl rfl ?_)
          have H115 := NodesA.at H114 (i := 6) rfl (j := j) (by omega)
          have hfl9 := flatJ_len n.kind.v (C13.take (j + 1))
          have hst9 := sizeL_take C13 (j + 1)
          rw [flatJ_step (by omega), List.length_append] at hfl9
          have H116 := NodeA.kids H115 (i := 0) rfl
          have H117 : St W w113 (Im 5 (.slice ((C13.getD j default).kp) ((C13.getD j default).kids.length) ((C13.getD j default).kc)) ((C13.getD j default).kids.length) ((C13.getD j default).kids.flatMap nodeCell) :: NodesA ((C13.getD j default).kids) :: NodeA (C13.getD j default) :: blk bk110 (.cells #[.int .i64 ((C13.getD j default).kind.v), .string ((C13.getD j default).var.v), .string ((C13.getD j default).typ.v), .slice ((C13.getD j default).tp) ((C13.getD j default).tests.length) ((C13.getD j default).tc), .slice ((C13.getD j default).kp) ((C13.getD j default).kids.length) ((C13.getD j default).kc)] 25 (0, 0)) :: NodesA (flatJ n.kind.v (C13.take j)) :: Row 25 5 (.slice lp ((flatJ n.kind.v (C13.take j)).length) lc) ((flatJ n.kind.v (C13.take j)).length) ((flatJ n.kind.v (C13.take j)).flatMap nodeCell) :: imi (0 < C13.length) gA91 (.cells kA93 eA94 zA95) :: Im 11 (.slice pp9 n.tests.length cc10) n.tests.length (n.tests.flatMap condCell) :: Im 5 (.slice pp11 C13.length cc12) C13.length (C13.flatMap nodeCell) :: NodesA C13 :: blk bk6 (.cells #[.int .i64 0, .string ByteArray.empty, .string ByteArray.empty, .slice none 0 0, .slice none 0 0] 25 (0, 0)) :: blk bk3 (.cells #[.int .i64 n.kind.v, .string n.var.v, .string n.typ.v, .slice pp9 n.tests.length cc10, .slice pp11 C13.length cc12] 25 (0, 0)) :: NodeA n :: F) := H116
          by_cases hc118 : (C13.getD j default).kind.v = n.kind.v
          · skip
            refine r_cons (s_eql true rfl rfl (dtrue hc118) rfl ?_)
            refine r_nil ?_
            refine g_true rfl ?_
            refine g_region ?_
            refine r_cons (s_move (.slice lp ((flatJ n.kind.v (C13.take j)).length) lc) rfl rfl ?_)
            refine r_cons (s_fieldAddr 25 4 4 4 23 rfl fi_25_4 rfl rfl ?_)
            refine r_cons (s_load (.slice ((C13.getD j default).kp) ((C13.getD j default).kids.length) ((C13.getD j default).kc)) ag_23 rfl (H117.blk_at (i := 3) rfl) rfl rfl ?_)
            rw [if_pos hc118] at hfl9
            try simp only [List.length_cons, List.length_nil] at hfl9
            refine r_cons (s_append H117 5 rfl rfl rfl (Im.rd H117 (i := 0) rfl) ap_23 (by decide) (by unfold maxLen; omega) (by omega) (n' := (flatJ n.kind.v (C13.take j)).length + (C13.getD j default).kids.length) (xs' := (flatJ n.kind.v (C13.take j)).flatMap nodeCell ++ (C13.getD j default).kids.flatMap nodeCell) (by omega) (by first | rfl | simp) rfl ?_); intro vv119 w120 H121 hn122
            obtain ⟨pp123, cc124, rfl⟩ := Row.slice H121 (i := 5) rfl
            refine r_cons (s_assign (.slice pp123 ((flatJ n.kind.v (C13.take j)).length + (C13.getD j default).kids.length) cc124) rfl rfl ?_)
            refine r_nil ?_
            refine g_inBlock ?_
            refine g_region ?_
            refine r_cons (s_add ((j : Int) + 1) rfl rfl (wi64 (by omega)) rfl ?_)
            refine r_cons (s_move (.int .i64 ((j : Int) + 1)) rfl rfl ?_)
            refine r_nil ?_
            have hl125 : ((flatJ n.kind.v (C13.take j)) ++ (C13.getD j default).kids).length = (flatJ n.kind.v (C13.take j)).length + (C13.getD j default).kids.length := by simp only [List.length_append, List.length_cons, List.length_nil]
            have H126 : St W w120 (Im 5 (.slice ((C13.getD j default).kp) ((C13.getD j default).kids.length) ((C13.getD j default).kc)) ((C13.getD j default).kids.length) ((C13.getD j default).kids.flatMap nodeCell) :: NodesA ((C13.getD j default).kids) :: NodeA (C13.getD j default) :: blk bk110 (.cells #[.int .i64 ((C13.getD j default).kind.v), .string ((C13.getD j default).var.v), .string ((C13.getD j default).typ.v), .slice ((C13.getD j default).tp) ((C13.getD j default).tests.length) ((C13.getD j default).tc), .slice ((C13.getD j default).kp) ((C13.getD j default).kids.length) ((C13.getD j default).kc)] 25 (0, 0)) :: NodesA (flatJ n.kind.v (C13.take j)) :: Row 25 5 (.slice pp123 (((flatJ n.kind.v (C13.take j)) ++ (C13.getD j default).kids).length) cc124) (((flatJ n.kind.v (C13.take j)) ++ (C13.getD j default).kids).length) (((flatJ n.kind.v (C13.take j)) ++ (C13.getD j default).kids).flatMap nodeCell) :: imi (0 < C13.length) gA91 (.cells kA93 eA94 zA95) :: Im 11 (.slice pp9 n.tests.length cc10) n.tests.length (n.tests.flatMap condCell) :: Im 5 (.slice pp11 C13.length cc12) C13.length (C13.flatMap nodeCell) :: NodesA C13 :: blk bk6 (.cells #[.int .i64 0, .string ByteArray.empty, .string ByteArray.empty, .slice none 0 0, .slice none 0 0] 25 (0, 0)) :: blk bk3 (.cells #[.int .i64 n.kind.v, .string n.var.v, .string n.typ.v, .slice pp9 n.tests.length cc10, .slice pp11 C13.length cc12] 25 (0, 0)) :: NodeA n :: F) := by rw [hl125, List.flatMap_append]; first | exact H121 | simpa using H121
            have hJ127 : ((flatJ n.kind.v (C13.take j)) ++ (C13.getD j default).kids) = (flatJ n.kind.v (C13.take (j + 1))) := by rw [flatJ_step (by omega), if_pos hc118]
            have H128 : St W w120 (NodesA ((flatJ n.kind.v (C13.take j)) ++ (C13.getD j default).kids) :: Im 5 (.slice ((C13.getD j default).kp) ((C13.getD j default).kids.length) ((C13.getD j default).kc)) ((C13.getD j default).kids.length) ((C13.getD j default).kids.flatMap nodeCell) :: NodesA ((C13.getD j default).kids) :: NodeA (C13.getD j default) :: blk bk110 (.cells #[.int .i64 ((C13.getD j default).kind.v), .string ((C13.getD j default).var.v), .string ((C13.getD j default).typ.v), .slice ((C13.getD j default).tp) ((C13.getD j default).tests.length) ((C13.getD j default).tc), .slice ((C13.getD j default).kp) ((C13.getD j default).kids.length) ((C13.getD j default).kc)] 25 (0, 0)) :: NodesA (flatJ n.kind.v (C13.take j)) :: Row 25 5 (.slice pp123 (((flatJ n.kind.v (C13.take j)) ++ (C13.getD j default).kids).length) cc124) (((flatJ n.kind.v (C13.take j)) ++ (C13.getD j default).kids).length) (((flatJ n.kind.v (C13.take j)) ++ (C13.getD j default).kids).flatMap nodeCell) :: imi (0 < C13.length) gA91 (.cells kA93 eA94 zA95) :: Im 11 (.slice pp9 n.tests.length cc10) n.tests.length (n.tests.flatMap condCell) :: Im 5 (.slice pp11 C13.length cc12) C13.length (C13.flatMap nodeCell) :: NodesA C13 :: blk bk6 (.cells #[.int .i64 0, .string ByteArray.empty, .string ByteArray.empty, .slice none 0 0, .slice none 0 0] 25 (0, 0)) :: blk bk3 (.cells #[.int .i64 n.kind.v, .string n.var.v, .string n.typ.v, .slice pp9 n.tests.length cc10, .slice pp11 C13.length cc12] 25 (0, 0)) :: NodeA n :: F) := NodesA.app H126 (a := 4) (b := 1) rfl rfl
            have H129 : St W w120 (NodesA (flatJ n.kind.v (C13.take (j + 1))) :: Im 5 (.slice ((C13.getD j default).kp) ((C13.getD j default).kids.length) ((C13.getD j default).kc)) ((C13.getD j default).kids.length) ((C13.getD j default).kids.flatMap nodeCell) :: NodesA ((C13.getD j default).kids) :: NodeA (C13.getD j default) :: blk bk110 (.cells #[.int .i64 ((C13.getD j default).kind.v), .string ((C13.getD j default).var.v), .string ((C13.getD j default).typ.v), .slice ((C13.getD j default).tp) ((C13.getD j default).tests.length) ((C13.getD j default).tc), .slice ((C13.getD j default).kp) ((C13.getD j default).kids.length) ((C13.getD j default).kc)] 25 (0, 0)) :: NodesA (flatJ n.kind.v (C13.take j)) :: Row 25 5 (.slice pp123 ((flatJ n.kind.v (C13.take (j + 1))).length) cc124) ((flatJ n.kind.v (C13.take (j + 1))).length) ((flatJ n.kind.v (C13.take (j + 1))).flatMap nodeCell) :: imi (0 < C13.length) gA91 (.cells kA93 eA94 zA95) :: Im 11 (.slice pp9 n.tests.length cc10) n.tests.length (n.tests.flatMap condCell) :: Im 5 (.slice pp11 C13.length cc12) C13.length (C13.flatMap nodeCell) :: NodesA C13 :: blk bk6 (.cells #[.int .i64 0, .string ByteArray.empty, .string ByteArray.empty, .slice none 0 0, .slice none 0 0] 25 (0, 0)) :: blk bk3 (.cells #[.int .i64 n.kind.v, .string n.var.v, .string n.typ.v, .slice pp9 n.tests.length cc10, .slice pp11 C13.length cc12] 25 (0, 0)) :: NodeA n :: F) := by rw [← hJ127]; exact H128
            have H130 : St W w120 (NodesA (flatJ n.kind.v (C13.take (j + 1))) :: Row 25 5 (.slice pp123 ((flatJ n.kind.v (C13.take (j + 1))).length) cc124) ((flatJ n.kind.v (C13.take (j + 1))).length) ((flatJ n.kind.v (C13.take (j + 1))).flatMap nodeCell) :: imi (0 < C13.length) gA91 (.cells kA93 eA94 zA95) :: Im 11 (.slice pp9 n.tests.length cc10) n.tests.length (n.tests.flatMap condCell) :: Im 5 (.slice pp11 C13.length cc12) C13.length (C13.flatMap nodeCell) :: NodesA C13 :: blk bk6 (.cells #[.int .i64 0, .string ByteArray.empty, .string ByteArray.empty, .slice none 0 0, .slice none 0 0] 25 (0, 0)) :: blk bk3 (.cells #[.int .i64 n.kind.v, .string n.var.v, .string n.typ.v, .slice pp9 n.tests.length cc10, .slice pp11 C13.length cc12] 25 (0, 0)) :: NodeA n :: F) := ((((((((((((((H129.move 13 rfl).move 13 rfl).move 13 rfl).move 13 rfl).move 13 rfl).move 13 rfl).move 13 rfl).move 13 rfl).move 8 rfl).drop 9 rfl).drop 9 rfl).drop 9 rfl).drop 9 rfl).drop 9 rfl)
            exact nx108 (pp123, cc124, j + 1) _ _ ⟨(by omega), H130⟩ (by first | (dsimp only; omega) | omega) ⟨by first | rfl | exact vint (by omega), by first | rfl | exact vint (by omega), (show (.slice pp123 ((flatJ n.kind.v (C13.take j)).length + (C13.getD j default).kids.length) cc124 : Value) = .slice pp123 ((flatJ n.kind.v (C13.take (j + 1))).length) cc124 from by rw [← hJ127, hl125]), by first | rfl | exact vint (by omega), by first | rfl | exact vint (by omega), by first | rfl | exact vint (by omega), trivial⟩
          · skip
            refine r_cons (s_eql false rfl rfl (dfalse hc118) rfl ?_)
            refine r_nil ?_
            refine g_false rfl ?_
            refine g_region ?_
            refine r_cons (s_move (.slice lp ((flatJ n.kind.v (C13.take j)).length) lc) rfl rfl ?_)
            refine r_cons (s_loadAgg [.int .i64 ((C13.getD j default).kind.v), .string ((C13.getD j default).var.v), .string ((C13.getD j default).typ.v), .slice ((C13.getD j default).tp) ((C13.getD j default).tests.length) ((C13.getD j default).tc), .slice ((C13.getD j default).kp) ((C13.getD j default).kids.length) ((C13.getD j default).kc)] 5 ag_25 rfl (H117.blk_at (i := 3) rfl) (Nat.le_of_ble_eq_true rfl) rfl rfl ?_)
            refine r_cons (s_buildSlice H117 5 1 (cs := #[.int .i64 ((C13.getD j default).kind.v), .string ((C13.getD j default).var.v), .string ((C13.getD j default).typ.v), .slice ((C13.getD j default).tp) ((C13.getD j default).tests.length) ((C13.getD j default).tc), .slice ((C13.getD j default).kp) ((C13.getD j default).kids.length) ((C13.getD j default).kc)]) #[.int .i64 0, .string ByteArray.empty, .string ByteArray.empty, .slice none 0 0, .slice none 0 0] el_23 ze_25 (by decide) (by decide) (by kernel_rfl) rfl ?_); intro bk131 w132 H133
            rw [if_neg hc118] at hfl9
            try simp only [List.length_cons, List.length_nil] at hfl9
            refine r_cons (s_append H133 6 rfl rfl rfl (rd_blk (H133.blk_at (i := 0) rfl) rfl (Nat.le_of_ble_eq_true rfl) (by simp [Value.oneCell'])) ap_23 (by decide) (by unfold maxLen; omega) (by omega) (n' := (flatJ n.kind.v (C13.take j)).length + 1) (xs' := (flatJ n.kind.v (C13.take j)).flatMap nodeCell ++ ([.int .i64 ((C13.getD j default).kind.v), .string ((C13.getD j default).var.v), .string ((C13.getD j default).typ.v), .slice ((C13.getD j default).tp) ((C13.getD j default).tests.length) ((C13.getD j default).tc), .slice ((C13.getD j default).kp) ((C13.getD j default).kids.length) ((C13.getD j default).kc)] : List Value)) (by omega) (by first | rfl | simp) rfl ?_); intro vv134 w135 H136 hn137
            obtain ⟨pp138, cc139, rfl⟩ := Row.slice H136 (i := 6) rfl
            refine r_cons (s_assign (.slice pp138 ((flatJ n.kind.v (C13.take j)).length + 1) cc139) rfl rfl ?_)
            refine r_nil ?_
            refine g_inBlock ?_
            refine g_region ?_
            refine r_cons (s_add ((j : Int) + 1) rfl rfl (wi64 (by omega)) rfl ?_)
            refine r_cons (s_move (.int .i64 ((j : Int) + 1)) rfl rfl ?_)
            refine r_nil ?_
            have hl140 : ((flatJ n.kind.v (C13.take j)) ++ [(C13.getD j default)]).length = (flatJ n.kind.v (C13.take j)).length + 1 := by simp only [List.length_append, List.length_cons, List.length_nil]
            have H141 : St W w135 (blk bk131 (.cells #[.int .i64 ((C13.getD j default).kind.v), .string ((C13.getD j default).var.v), .string ((C13.getD j default).typ.v), .slice ((C13.getD j default).tp) ((C13.getD j default).tests.length) ((C13.getD j default).tc), .slice ((C13.getD j default).kp) ((C13.getD j default).kids.length) ((C13.getD j default).kc)] 25 (0, 0)) :: Im 5 (.slice ((C13.getD j default).kp) ((C13.getD j default).kids.length) ((C13.getD j default).kc)) ((C13.getD j default).kids.length) ((C13.getD j default).kids.flatMap nodeCell) :: NodesA ((C13.getD j default).kids) :: NodeA (C13.getD j default) :: blk bk110 (.cells #[.int .i64 ((C13.getD j default).kind.v), .string ((C13.getD j default).var.v), .string ((C13.getD j default).typ.v), .slice ((C13.getD j default).tp) ((C13.getD j default).tests.length) ((C13.getD j default).tc), .slice ((C13.getD j default).kp) ((C13.getD j default).kids.length) ((C13.getD j default).kc)] 25 (0, 0)) :: NodesA (flatJ n.kind.v (C13.take j)) :: Row 25 5 (.slice pp138 (((flatJ n.kind.v (C13.take j)) ++ [(C13.getD j default)]).length) cc139) (((flatJ n.kind.v (C13.take j)) ++ [(C13.getD j default)]).length) (((flatJ n.kind.v (C13.take j)) ++ [(C13.getD j default)]).flatMap nodeCell) :: imi (0 < C13.length) gA91 (.cells kA93 eA94 zA95) :: Im 11 (.slice pp9 n.tests.length cc10) n.tests.length (n.tests.flatMap condCell) :: Im 5 (.slice pp11 C13.length cc12) C13.length (C13.flatMap nodeCell) :: NodesA C13 :: blk bk6 (.cells #[.int .i64 0, .string ByteArray.empty, .string ByteArray.empty, .slice none 0 0, .slice none 0 0] 25 (0, 0)) :: blk bk3 (.cells #[.int .i64 n.kind.v, .string n.var.v, .string n.typ.v, .slice pp9 n.tests.length cc10, .slice pp11 C13.length cc12] 25 (0, 0)) :: NodeA n :: F) := by rw [hl140, List.flatMap_append]; first | exact H136 | simpa using H136
            have hJ142 : ((flatJ n.kind.v (C13.take j)) ++ [(C13.getD j default)]) = (flatJ n.kind.v (C13.take (j + 1))) := by rw [flatJ_step (by omega), if_neg hc118]
            have H143 : St W w135 (NodesA ((flatJ n.kind.v (C13.take j)) ++ [(C13.getD j default)]) :: blk bk131 (.cells #[.int .i64 ((C13.getD j default).kind.v), .string ((C13.getD j default).var.v), .string ((C13.getD j default).typ.v), .slice ((C13.getD j default).tp) ((C13.getD j default).tests.length) ((C13.getD j default).tc), .slice ((C13.getD j default).kp) ((C13.getD j default).kids.length) ((C13.getD j default).kc)] 25 (0, 0)) :: Im 5 (.slice ((C13.getD j default).kp) ((C13.getD j default).kids.length) ((C13.getD j default).kc)) ((C13.getD j default).kids.length) ((C13.getD j default).kids.flatMap nodeCell) :: NodesA ((C13.getD j default).kids) :: NodeA (C13.getD j default) :: blk bk110 (.cells #[.int .i64 ((C13.getD j default).kind.v), .string ((C13.getD j default).var.v), .string ((C13.getD j default).typ.v), .slice ((C13.getD j default).tp) ((C13.getD j default).tests.length) ((C13.getD j default).tc), .slice ((C13.getD j default).kp) ((C13.getD j default).kids.length) ((C13.getD j default).kc)] 25 (0, 0)) :: NodesA (flatJ n.kind.v (C13.take j)) :: Row 25 5 (.slice pp138 (((flatJ n.kind.v (C13.take j)) ++ [(C13.getD j default)]).length) cc139) (((flatJ n.kind.v (C13.take j)) ++ [(C13.getD j default)]).length) (((flatJ n.kind.v (C13.take j)) ++ [(C13.getD j default)]).flatMap nodeCell) :: imi (0 < C13.length) gA91 (.cells kA93 eA94 zA95) :: Im 11 (.slice pp9 n.tests.length cc10) n.tests.length (n.tests.flatMap condCell) :: Im 5 (.slice pp11 C13.length cc12) C13.length (C13.flatMap nodeCell) :: NodesA C13 :: blk bk6 (.cells #[.int .i64 0, .string ByteArray.empty, .string ByteArray.empty, .slice none 0 0, .slice none 0 0] 25 (0, 0)) :: blk bk3 (.cells #[.int .i64 n.kind.v, .string n.var.v, .string n.typ.v, .slice pp9 n.tests.length cc10, .slice pp11 C13.length cc12] 25 (0, 0)) :: NodeA n :: F) := NodesA.snoc' H141 (a := 5) (b := 3) rfl rfl
            have H144 : St W w135 (NodesA (flatJ n.kind.v (C13.take (j + 1))) :: blk bk131 (.cells #[.int .i64 ((C13.getD j default).kind.v), .string ((C13.getD j default).var.v), .string ((C13.getD j default).typ.v), .slice ((C13.getD j default).tp) ((C13.getD j default).tests.length) ((C13.getD j default).tc), .slice ((C13.getD j default).kp) ((C13.getD j default).kids.length) ((C13.getD j default).kc)] 25 (0, 0)) :: Im 5 (.slice ((C13.getD j default).kp) ((C13.getD j default).kids.length) ((C13.getD j default).kc)) ((C13.getD j default).kids.length) ((C13.getD j default).kids.flatMap nodeCell) :: NodesA ((C13.getD j default).kids) :: NodeA (C13.getD j default) :: blk bk110 (.cells #[.int .i64 ((C13.getD j default).kind.v), .string ((C13.getD j default).var.v), .string ((C13.getD j default).typ.v), .slice ((C13.getD j default).tp) ((C13.getD j default).tests.length) ((C13.getD j default).tc), .slice ((C13.getD j default).kp) ((C13.getD j default).kids.length) ((C13.getD j default).kc)] 25 (0, 0)) :: NodesA (flatJ n.kind.v (C13.take j)) :: Row 25 5 (.slice pp138 ((flatJ n.kind.v (C13.take (j + 1))).length) cc139) ((flatJ n.kind.v (C13.take (j + 1))).length) ((flatJ n.kind.v (C13.take (j + 1))).flatMap nodeCell) :: imi (0 < C13.length) gA91 (.cells kA93 eA94 zA95) :: Im 11 (.slice pp9 n.tests.length cc10) n.tests.length (n.tests.flatMap condCell) :: Im 5 (.slice pp11 C13.length cc12) C13.length (C13.flatMap nodeCell) :: NodesA C13 :: blk bk6 (.cells #[.int .i64 0, .string ByteArray.empty, .string ByteArray.empty, .slice none 0 0, .slice none 0 0] 25 (0, 0)) :: blk bk3 (.cells #[.int .i64 n.kind.v, .string n.var.v, .string n.typ.v, .slice pp9 n.tests.length cc10, .slice pp11 C13.length cc12] 25 (0, 0)) :: NodeA n :: F) := by rw [← hJ142]; exact H143
            have H145 : St W w135 (NodesA (flatJ n.kind.v (C13.take (j + 1))) :: Row 25 5 (.slice pp138 ((flatJ n.kind.v (C13.take (j + 1))).length) cc139) ((flatJ n.kind.v (C13.take (j + 1))).length) ((flatJ n.kind.v (C13.take (j + 1))).flatMap nodeCell) :: imi (0 < C13.length) gA91 (.cells kA93 eA94 zA95) :: Im 11 (.slice pp9 n.tests.length cc10) n.tests.length (n.tests.flatMap condCell) :: Im 5 (.slice pp11 C13.length cc12) C13.length (C13.flatMap nodeCell) :: NodesA C13 :: blk bk6 (.cells #[.int .i64 0, .string ByteArray.empty, .string ByteArray.empty, .slice none 0 0, .slice none 0 0] 25 (0, 0)) :: blk bk3 (.cells #[.int .i64 n.kind.v, .string n.var.v, .string n.typ.v, .slice pp9 n.tests.length cc10, .slice pp11 C13.length cc12] 25 (0, 0)) :: NodeA n :: F) := (((((((((((((((H144.move 14 rfl).move 14 rfl).move 14 rfl).move 14 rfl).move 14 rfl).move 14 rfl).move 14 rfl).move 14 rfl).move 8 rfl).drop 9 rfl).drop 9 rfl).drop 9 rfl).drop 9 rfl).drop 9 rfl).drop 9 rfl)
            exact nx108 (pp138, cc139, j + 1) _ _ ⟨(by omega), H145⟩ (by first | (dsimp only; omega) | omega) ⟨by first | rfl | exact vint (by omega), by first | rfl | exact vint (by omega), (show (.slice pp138 ((flatJ n.kind.v (C13.take j)).length + 1) cc139 : Value) = .slice pp138 ((flatJ n.kind.v (C13.take (j + 1))).length) cc139 from by rw [← hJ142, hl140]), by first | rfl | exact vint (by omega), by first | rfl | exact vint (by omega), by first | rfl | exact vint (by omega), trivial⟩
        · skip
          refine r_cons (s_lss false rfl rfl (dfalse hc109) rfl ?_)
          refine r_nil ?_
          refine g_seq ?_
          refine g_false rfl ?_
          refine g_exit (by rfl) ?_
          refine g_seq ?_
          refine g_region ?_
          refine r_cons (s_move (.slice lp ((flatJ n.kind.v (C13.take j)).length) lc) rfl rfl ?_)
          refine r_cons (s_fieldAddr 25 4 4 4 23 rfl fi_25_4 rfl rfl ?_)
          refine r_cons (s_store H107 7 (.slice lp ((flatJ n.kind.v (C13.take j)).length) lc) rfl rfl rfl sz_23 rfl (Nat.le_of_ble_eq_true rfl) rfl (cs' := #[.int .i64 n.kind.v, .string n.var.v, .string n.typ.v, .slice pp9 n.tests.length cc10, .slice lp ((flatJ n.kind.v (C13.take j)).length) lc]) rfl ?_); intro w146 H147
          refine r_nil ?_
          refine g_seq ?_
          refine g_region ?_
          refine r_cons (s_loadAgg [.int .i64 n.kind.v, .string n.var.v, .string n.typ.v, .slice pp9 n.tests.length cc10, .slice lp ((flatJ n.kind.v (C13.take j)).length) lc] 5 ag_25 rfl (H147.blk_at (i := 7) rfl) (Nat.le_of_ble_eq_true rfl) rfl rfl ?_)
          refine r_cons (s_storeAgg H147 6 #[.int .i64 n.kind.v, .string n.var.v, .string n.typ.v, .slice pp9 n.tests.length cc10, .slice lp ((flatJ n.kind.v (C13.take j)).length) lc] 5 rfl rfl rfl sz_25 rfl (by simp [Value.oneCell']) (Nat.le_of_ble_eq_true rfl) (fun o h1 h2 => by first | (simp; done) | (simp; omega)) (cs' := #[.int .i64 n.kind.v, .string n.var.v, .string n.typ.v, .slice pp9 n.tests.length cc10, .slice lp ((flatJ n.kind.v (C13.take j)).length) lc]) rfl ?_); intro w148 H149
          refine r_nil ?_
          refine g_ret' [.agg #[.int .i64 n.kind.v, .string n.var.v, .string n.typ.v, .slice pp9 n.tests.length cc10, .slice lp ((flatJ n.kind.v (C13.take j)).length) lc]] Try.func17 Try.results17 ⟨(res_cellN rfl ag_25 (H149.blk_at (i := 6) rfl) (Nat.le_of_ble_eq_true rfl) rfl), trivial⟩ ?_
          have hT150 : C13.take j = C13 := List.take_of_length_le (by omega)
          have H151 := H149
          rw [hT150] at H151
          have H152 : St W w148 (NodesA (flatJ n.kind.v C13) :: Row 25 5 (.slice lp ((flatJ n.kind.v C13).length) lc) ((flatJ n.kind.v C13).length) ((flatJ n.kind.v C13).flatMap nodeCell) :: Im 11 (.slice pp9 n.tests.length cc10) n.tests.length (n.tests.flatMap condCell) :: F) := (((((((((H151.move 3 rfl).move 2 rfl).move 2 rfl).drop 3 rfl).drop 3 rfl).drop 3 rfl).drop 3 rfl).drop 3 rfl).drop 3 rfl)
          have H153 : St W w148 (NodesA (flatJ n.kind.v C13) :: Im 5 (.slice lp ((flatJ n.kind.v C13).length) lc) ((flatJ n.kind.v C13).length) ((flatJ n.kind.v C13).flatMap nodeCell) :: Im 11 (.slice pp9 n.tests.length cc10) n.tests.length (n.tests.flatMap condCell) :: F) := Row.im H152 (i := 1) rfl
          have H154 : St W w148 (NodeA (NodeD.mk n.kind n.var n.typ pp9 cc10 n.tests lp lc (flatJ n.kind.v C13)) :: NodesA (flatJ n.kind.v C13) :: Im 5 (.slice lp ((flatJ n.kind.v C13).length) lc) ((flatJ n.kind.v C13).length) ((flatJ n.kind.v C13).flatMap nodeCell) :: Im 11 (.slice pp9 n.tests.length cc10) n.tests.length (n.tests.flatMap condCell) :: F) := NodeA.make (a := 2) (b := 1) (c := 0) (.mk n.kind n.var n.typ pp9 cc10 n.tests lp lc (flatJ n.kind.v C13)) H153 rfl rfl rfl (by have h9 := flatJ_len n.kind.v C13; exact ⟨by show n.tests.length * 136 ≤ _; omega, by show (flatJ n.kind.v C13).length * 88 ≤ _; omega⟩)
          have H155 : St W w148 (NodeA (NodeD.mk n.kind n.var n.typ pp9 cc10 n.tests lp lc (flatJ n.kind.v C13)) :: F) := (((H154.drop 1 rfl).drop 1 rfl).drop 1 rfl)
          exact ⟨(.mk n.kind n.var n.typ pp9 cc10 n.tests lp lc (flatJ n.kind.v C13)), by rw [hT150]; rfl, by rw [flatN_eq]; show NodeD.mk _ _ _ _ _ _ _ _ (eraseL (flatJ n.kind.v C13)) = _; rw [eraseL_map, flatJ_erase, hC14]; unfold flatK; rw [if_pos (by unfold innerB; simp [hc88])], H155⟩
    · skip
      refine s_neq true rfl rfl (nfalse hc88) rfl ?_
      refine r_cons (s_pick_t (.bool true) rfl rfl rfl ?_)
      refine r_cons (s_move (.bool true) rfl rfl ?_)
      refine r_cons (r_take rfl rfl ?_)
      refine s_fieldAddr 25 0 0 0 3 rfl fi_25_0 rfl rfl ?_
      refine r_cons (r_take rfl rfl ?_)
      refine s_load (.int .i64 n.kind.v) ag_3 rfl (H19.blk_at (i := 4) rfl) rfl rfl ?_
      refine r_cons (r_take rfl rfl ?_)
      by_cases hc156 : n.kind.v = 4
      · skip
        refine s_neq false rfl rfl (ntrue hc156) rfl ?_
        refine r_cons (s_pick_t (.bool false) rfl rfl rfl ?_)
        refine r_nil ?_
        refine g_false rfl ?_
        refine g_skip ?_
        refine g_seq ?_
        refine g_region ?_
        refine r_cons (s_assign (.slice none 0 0) rfl rfl ?_)
        refine r_nil ?_
        refine g_seq ?_
        refine g_seq ?_
        refine g_region ?_
        refine r_cons (s_fieldAddr 25 4 4 4 23 rfl fi_25_4 rfl rfl ?_)
        refine r_cons (s_load (.slice pp11 C13.length cc12) ag_23 rfl (H19.blk_at (i := 4) rfl) rfl rfl ?_)
        refine r_cons (s_len C13.length rfl ⟨_, un_23⟩ rfl ?_)
        refine r_cons (s_move (.int .i64 0) rfl rfl ?_)
        refine r_nil ?_
        refine g_block ?_
        obtain ⟨pA157, cA158, gA159, oA160, kA161, eA162, zA163, he169, hn164, hp165, hx166, hs167, hml, H168⟩ := Im.open_ H19 (i := 1) rfl
        obtain ⟨rfl, rfl⟩ : pp11 = pA157 ∧ cc12 = cA158 := by injection he169 with a_ b_ c_; exact ⟨a_, c_⟩
        have H170 := Row.nil_intro H168 25 5
        have H171 : St W w17 (NodesA [] :: Row 25 5 (.slice none 0 0) 0 [] :: imi (0 < C13.length) gA159 (.cells kA161 eA162 zA163) :: Im 11 (.slice pp9 n.tests.length cc10) n.tests.length (n.tests.flatMap condCell) :: Im 5 (.slice pp11 C13.length cc12) C13.length (C13.flatMap nodeCell) :: NodesA C13 :: blk bk6 (.cells #[.int .i64 0, .string ByteArray.empty, .string ByteArray.empty, .slice none 0 0, .slice none 0 0] 25 (0, 0)) :: blk bk3 (.cells #[.int .i64 n.kind.v, .string n.var.v, .string n.typ.v, .slice pp9 n.tests.length cc10, .slice pp11 C13.length cc12] 25 (0, 0)) :: NodeA n :: F) := NodesA.nil H170
        have H172 : St W w17 (NodesA [] :: Row 25 5 (.slice none 0 0) 0 [] :: imi (0 < C13.length) gA159 (.cells kA161 eA162 zA163) :: Im 11 (.slice pp9 n.tests.length cc10) n.tests.length (n.tests.flatMap condCell) :: Im 5 (.slice pp11 C13.length cc12) C13.length (C13.flatMap nodeCell) :: NodesA C13 :: blk bk6 (.cells #[.int .i64 0, .string ByteArray.empty, .string ByteArray.empty, .slice none 0 0, .slice none 0 0] 25 (0, 0)) :: blk bk3 (.cells #[.int .i64 n.kind.v, .string n.var.v, .string n.typ.v, .slice pp9 n.tests.length cc10, .slice pp11 C13.length cc12] 25 (0, 0)) :: NodeA n :: F) := (((((((((H171.move 8 rfl).move 8 rfl).move 8 rfl).move 8 rfl).move 8 rfl).move 8 rfl).move 8 rfl).move 8 rfl).move 8 rfl)
        refine g_loop_inv (fun (x_ : (Option Addr) × Nat × Nat) => match x_ with | (lp, lc, j) => [(1, .pointer (some ⟨bk3, 0, none⟩)), (2, .pointer (some ⟨bk6, 0, none⟩)), (3, .slice lp ((flatJ n.kind.v (C13.take j)).length) lc), (23, .slice pp11 C13.length cc12), (24, .int .i64 (C13.length : Int)), (25, .int .i64 (j : Int))]) (fun (x_ : (Option Addr) × Nat × Nat) w => match x_ with | (lp, lc, j) => (j ≤ C13.length) ∧ St W w (NodesA (flatJ n.kind.v (C13.take j)) :: Row 25 5 (.slice lp ((flatJ n.kind.v (C13.take j)).length) lc) ((flatJ n.kind.v (C13.take j)).length) ((flatJ n.kind.v (C13.take j)).flatMap nodeCell) :: imi (0 < C13.length) gA159 (.cells kA161 eA162 zA163) :: Im 11 (.slice pp9 n.tests.length cc10) n.tests.length (n.tests.flatMap condCell) :: Im 5 (.slice pp11 C13.length cc12) C13.length (C13.flatMap nodeCell) :: NodesA C13 :: blk bk6 (.cells #[.int .i64 0, .string ByteArray.empty, .string ByteArray.empty, .slice none 0 0, .slice none 0 0] 25 (0, 0)) :: blk bk3 (.cells #[.int .i64 n.kind.v, .string n.var.v, .string n.typ.v, .slice pp9 n.tests.length cc10, .slice pp11 C13.length cc12] 25 (0, 0)) :: NodeA n :: F)) (fun (x_ : (Option Addr) × Nat × Nat) => match x_ with | (lp, lc, j) => C13.length - j) (none, 0, 0) ?_ ?_ ?_
        · exact ⟨by first | rfl | exact vint (by omega), by first | rfl | exact vint (by omega), by first | rfl | exact vint (by omega), by first | rfl | exact vint (by omega), by first | rfl | exact vint (by omega), by first | rfl | exact vint (by omega), trivial⟩
        · exact ⟨(by omega), H172⟩
        · rintro ⟨lp, lc, j⟩ ρ173 w174 ⟨hjl, H175⟩ nx176
          change Ends _ _ (upds ρ173 [(1, .pointer (some ⟨bk3, 0, none⟩)), (2, .pointer (some ⟨bk6, 0, none⟩)), (3, .slice lp ((flatJ n.kind.v (C13.take j)).length) lc), (23, .slice pp11 C13.length cc12), (24, .int .i64 (C13.length : Int)), (25, .int .i64 (j : Int))]) w174
          refine g_seq ?_
          refine g_region ?_
          by_cases hc177 : (j : Int) < (C13.length : Int)
          · skip
            refine r_cons (s_lss true rfl rfl (dtrue hc177) rfl ?_)
            refine r_nil ?_
            refine g_seq ?_
            refine g_true rfl ?_
            refine g_skip ?_
            refine g_seq ?_
            refine g_block ?_
            refine g_seq ?_
            refine g_region ?_
            refine r_cons (s_indexAddr gA159 (off := oA160) (j : Int) 5 (oA160 + j * 5) (by exact congrArg (fun z_ => Value.slice z_ C13.length cc12) (hp165 (by omega))) rfl el_23 (by omega) rfl rfl ?_)
            refine r_cons (s_loadAgg [.int .i64 ((C13.getD j default).kind.v), .string ((C13.getD j default).var.v), .string ((C13.getD j default).typ.v), .slice ((C13.getD j default).tp) ((C13.getD j default).tests.length) ((C13.getD j default).tc), .slice ((C13.getD j default).kp) ((C13.getD j default).kids.length) ((C13.getD j default).kc)] 5 ag_25 rfl (H175.imi_at (i := 2) rfl (by omega)) (by have := elem_size (i := j) (s := 5) (hs167 (by omega)) (by omega); omega) (elem_take nodeCell_len (hx166 (by omega)) (by omega) default) rfl ?_)
            refine r_cons (s_alloc H175 25 ze_25 rfl ?_); intro bk178 w179 H180
            refine r_cons (s_storeAgg H180 0 #[.int .i64 ((C13.getD j default).kind.v), .string ((C13.getD j default).var.v), .string ((C13.getD j default).typ.v), .slice ((C13.getD j default).tp) ((C13.getD j default).tests.length) ((C13.getD j default).tc), .slice ((C13.getD j default).kp) ((C13.getD j default).kids.length) ((C13.getD j default).kc)] 5 rfl rfl rfl sz_25 rfl (by simp [Value.oneCell']) (Nat.le_of_ble_eq_true rfl) (fun o h1 h2 => by first | (simp; done) | (simp; omega)) (cs' := #[.int .i64 ((C13.getD j default).kind.v), .string ((C13.getD j default).var.v), .string ((C13.getD j default).typ.v), .slice ((C13.getD j default).tp) ((C13.getD j default).tests.length) ((C13.getD j default).tc), .slice ((C13.getD j default).kp) ((C13.getD j default).kids.length) ((C13.getD j default).kc)]) rfl ?_); intro w181 H182
            refine r_nil ?_
            refine g_seq ?_
            refine g_region ?_
            refine r_cons (s_fieldAddr 25 0 0 0 3 rfl fi_25_0 rfl rfl ?_)
            refine r_cons (s_load (.int .i64 ((C13.getD j default).kind.v)) ag_3 rfl (H182.blk_at (i := 0) rfl) rfl rfl ?_)
            refine r_cons (s_fieldAddr 25 0 0 0 3 rfl fi_25_0 rfl rfl ?_)
            refine r_cons (s_load (.int .i64 n.kind.v) ag_3 rfl (H182.blk_at (i := 8) rfl) rfl rfl ?_)
            have H183 := NodesA.at H182 (i := 6) rfl (j := j) (by omega)
            have hfl9 := flatJ_len n.kind.v (C13.take (j + 1))
            have hst9 := sizeL_take C13 (j + 1)
            rw [flatJ_step (by omega), List.length_append] at hfl9
            have H184 := NodeA.kids H183 (i := 0) rfl
            have H185 : St W w181 (Im 5 (.slice ((C13.getD j default).kp) ((C13.getD j default).kids.length) ((C13.getD j default).kc)) ((C13.getD j default).kids.length) ((C13.getD j default).kids.flatMap nodeCell) :: NodesA ((C13.getD j default).kids) :: NodeA (C13.getD j default) :: blk bk178 (.cells #[.int .i64 ((C13.getD j default).kind.v), .string ((C13.getD j default).var.v), .string ((C13.getD j default).typ.v), .slice ((C13.getD j default).tp) ((C13.getD j default).tests.length) ((C13.getD j default).tc), .slice ((C13.getD j default).kp) ((C13.getD j default).kids.length) ((C13.getD j default).kc)] 25 (0, 0)) :: NodesA (flatJ n.kind.v (C13.take j)) :: Row 25 5 (.slice lp ((flatJ n.kind.v (C13.take j)).length) lc) ((flatJ n.kind.v (C13.take j)).length) ((flatJ n.kind.v (C13.take j)).flatMap nodeCell) :: imi (0 < C13.length) gA159 (.cells kA161 eA162 zA163) :: Im 11 (.slice pp9 n.tests.length cc10) n.tests.length (n.tests.flatMap condCell) :: Im 5 (.slice pp11 C13.length cc12) C13.length (C13.flatMap nodeCell) :: NodesA C13 :: blk bk6 (.cells #[.int .i64 0, .string ByteArray.empty, .string ByteArray.empty, .slice none 0 0, .slice none 0 0] 25 (0, 0)) :: blk bk3 (.cells #[.int .i64 n.kind.v, .string n.var.v, .string n.typ.v, .slice pp9 n.tests.length cc10, .slice pp11 C13.length cc12] 25 (0, 0)) :: NodeA n :: F) := H184
            by_cases hc186 : (C13.getD j default).kind.v = n.kind.v
            · skip
              refine r_cons (s_eql true rfl rfl (dtrue hc186) rfl ?_)
              refine r_nil ?_
              refine g_true rfl ?_
              refine g_region ?_
              refine r_cons (s_move (.slice lp ((flatJ n.kind.v (C13.take j)).length) lc) rfl rfl ?_)
              refine r_cons (s_fieldAddr 25 4 4 4 23 rfl fi_25_4 rfl rfl ?_)
              refine r_cons (s_load (.slice ((C13.getD j default).kp) ((C13.getD j default).kids.length) ((C13.getD j default).kc)) ag_23 rfl (H185.blk_at (i := 3) rfl) rfl rfl ?_)
              rw [if_pos hc186] at hfl9
              try simp only [List.length_cons, List.length_nil] at hfl9
              refine r_cons (s_append H185 5 rfl rfl rfl (Im.rd H185 (i := 0) rfl) ap_23 (by decide) (by unfold maxLen; omega) (by omega) (n' := (flatJ n.kind.v (C13.take j)).length + (C13.getD j default).kids.length) (xs' := (flatJ n.kind.v (C13.take j)).flatMap nodeCell ++ (C13.getD j default).kids.flatMap nodeCell) (by omega) (by first | rfl | simp) rfl ?_); intro vv187 w188 H189 hn190
              obtain ⟨pp191, cc192, rfl⟩ := Row.slice H189 (i := 5) rfl
              refine r_cons (s_assign (.slice pp191 ((flatJ n.kind.v (C13.take j)).length + (C13.getD j default).kids.length) cc192) rfl rfl ?_)
              refine r_nil ?_
              refine g_inBlock ?_
              refine g_region ?_
              refine r_cons (s_add ((j : Int) + 1) rfl rfl (wi64 (by omega)) rfl ?_)
              refine r_cons (s_move (.int .i64 ((j : Int) + 1)) rfl rfl ?_)
              refine r_nil ?_
              have hl193 : ((flatJ n.kind.v (C13.take j)) ++ (C13.getD j default).kids).length = (flatJ n.kind.v (C13.take j)).length + (C13.getD j default).kids.length := by simp only [List.length_append, List.length_cons, List.length_nil]
              have H194 : St W w188 (Im 5 (.slice ((C13.getD j default).kp) ((C13.getD j default).kids.length) ((C13.getD j default).kc)) ((C13.getD j default).kids.length) ((C13.getD j default).kids.flatMap nodeCell) :: NodesA ((C13.getD j default).kids) :: NodeA (C13.getD j default) :: blk bk178 (.cells #[.int .i64 ((C13.getD j default).kind.v), .string ((C13.getD j default).var.v), .string ((C13.getD j default).typ.v), .slice ((C13.getD j default).tp) ((C13.getD j default).tests.length) ((C13.getD j default).tc), .slice ((C13.getD j default).kp) ((C13.getD j default).kids.length) ((C13.getD j default).kc)] 25 (0, 0)) :: NodesA (flatJ n.kind.v (C13.take j)) :: Row 25 5 (.slice pp191 (((flatJ n.kind.v (C13.take j)) ++ (C13.getD j default).kids).length) cc192) (((flatJ n.kind.v (C13.take j)) ++ (C13.getD j default).kids).length) (((flatJ n.kind.v (C13.take j)) ++ (C13.getD j default).kids).flatMap nodeCell) :: imi (0 < C13.length) gA159 (.cells kA161 eA162 zA163) :: Im 11 (.slice pp9 n.tests.length cc10) n.tests.length (n.tests.flatMap condCell) :: Im 5 (.slice pp11 C13.length cc12) C13.length (C13.flatMap nodeCell) :: NodesA C13 :: blk bk6 (.cells #[.int .i64 0, .string ByteArray.empty, .string ByteArray.empty, .slice none 0 0, .slice none 0 0] 25 (0, 0)) :: blk bk3 (.cells #[.int .i64 n.kind.v, .string n.var.v, .string n.typ.v, .slice pp9 n.tests.length cc10, .slice pp11 C13.length cc12] 25 (0, 0)) :: NodeA n :: F) := by rw [hl193, List.flatMap_append]; first | exact H189 | simpa using H189
              have hJ195 : ((flatJ n.kind.v (C13.take j)) ++ (C13.getD j default).kids) = (flatJ n.kind.v (C13.take (j + 1))) := by rw [flatJ_step (by omega), if_pos hc186]
              have H196 : St W w188 (NodesA ((flatJ n.kind.v (C13.take j)) ++ (C13.getD j default).kids) :: Im 5 (.slice ((C13.getD j default).kp) ((C13.getD j default).kids.length) ((C13.getD j default).kc)) ((C13.getD j default).kids.length) ((C13.getD j default).kids.flatMap nodeCell) :: NodesA ((C13.getD j default).kids) :: NodeA (C13.getD j default) :: blk bk178 (.cells #[.int .i64 ((C13.getD j default).kind.v), .string ((C13.getD j default).var.v), .string ((C13.getD j default).typ.v), .slice ((C13.getD j default).tp) ((C13.getD j default).tests.length) ((C13.getD j default).tc), .slice ((C13.getD j default).kp) ((C13.getD j default).kids.length) ((C13.getD j default).kc)] 25 (0, 0)) :: NodesA (flatJ n.kind.v (C13.take j)) :: Row 25 5 (.slice pp191 (((flatJ n.kind.v (C13.take j)) ++ (C13.getD j default).kids).length) cc192) (((flatJ n.kind.v (C13.take j)) ++ (C13.getD j default).kids).length) (((flatJ n.kind.v (C13.take j)) ++ (C13.getD j default).kids).flatMap nodeCell) :: imi (0 < C13.length) gA159 (.cells kA161 eA162 zA163) :: Im 11 (.slice pp9 n.tests.length cc10) n.tests.length (n.tests.flatMap condCell) :: Im 5 (.slice pp11 C13.length cc12) C13.length (C13.flatMap nodeCell) :: NodesA C13 :: blk bk6 (.cells #[.int .i64 0, .string ByteArray.empty, .string ByteArray.empty, .slice none 0 0, .slice none 0 0] 25 (0, 0)) :: blk bk3 (.cells #[.int .i64 n.kind.v, .string n.var.v, .string n.typ.v, .slice pp9 n.tests.length cc10, .slice pp11 C13.length cc12] 25 (0, 0)) :: NodeA n :: F) := NodesA.app H194 (a := 4) (b := 1) rfl rfl
              have H197 : St W w188 (NodesA (flatJ n.kind.v (C13.take (j + 1))) :: Im 5 (.slice ((C13.getD j default).kp) ((C13.getD j default).kids.length) ((C13.getD j default).kc)) ((C13.getD j default).kids.length) ((C13.getD j default).kids.flatMap nodeCell) :: NodesA ((C13.getD j default).kids) :: NodeA (C13.getD j default) :: blk bk178 (.cells #[.int .i64 ((C13.getD j default).kind.v), .string ((C13.getD j default).var.v), .string ((C13.getD j default).typ.v), .slice ((C13.getD j default).tp) ((C13.getD j default).tests.length) ((C13.getD j default).tc), .slice ((C13.getD j default).kp) ((C13.getD j default).kids.length) ((C13.getD j default).kc)] 25 (0, 0)) :: NodesA (flatJ n.kind.v (C13.take j)) :: Row 25 5 (.slice pp191 ((flatJ n.kind.v (C13.take (j + 1))).length) cc192) ((flatJ n.kind.v (C13.take (j + 1))).length) ((flatJ n.kind.v (C13.take (j + 1))).flatMap nodeCell) :: imi (0 < C13.length) gA159 (.cells kA161 eA162 zA163) :: Im 11 (.slice pp9 n.tests.length cc10) n.tests.length (n.tests.flatMap condCell) :: Im 5 (.slice pp11 C13.length cc12) C13.length (C13.flatMap nodeCell) :: NodesA C13 :: blk bk6 (.cells #[.int .i64 0, .string ByteArray.empty, .string ByteArray.empty, .slice none 0 0, .slice none 0 0] 25 (0, 0)) :: blk bk3 (.cells #[.int .i64 n.kind.v, .string n.var.v, .string n.typ.v, .slice pp9 n.tests.length cc10, .slice pp11 C13.length cc12] 25 (0, 0)) :: NodeA n :: F) := by rw [← hJ195]; exact H196
              have H198 : St W w188 (NodesA (flatJ n.kind.v (C13.take (j + 1))) :: Row 25 5 (.slice pp191 ((flatJ n.kind.v (C13.take (j + 1))).length) cc192) ((flatJ n.kind.v (C13.take (j + 1))).length) ((flatJ n.kind.v (C13.take (j + 1))).flatMap nodeCell) :: imi (0 < C13.length) gA159 (.cells kA161 eA162 zA163) :: Im 11 (.slice pp9 n.tests.length cc10) n.tests.length (n.tests.flatMap condCell) :: Im 5 (.slice pp11 C13.length cc12) C13.length (C13.flatMap nodeCell) :: NodesA C13 :: blk bk6 (.cells #[.int .i64 0, .string ByteArray.empty, .string ByteArray.empty, .slice none 0 0, .slice none 0 0] 25 (0, 0)) :: blk bk3 (.cells #[.int .i64 n.kind.v, .string n.var.v, .string n.typ.v, .slice pp9 n.tests.length cc10, .slice pp11 C13.length cc12] 25 (0, 0)) :: NodeA n :: F) := ((((((((((((((H197.move 13 rfl).move 13 rfl).move 13 rfl).move 13 rfl).move 13 rfl).move 13 rfl).move 13 rfl).move 13 rfl).move 8 rfl).drop 9 rfl).drop 9 rfl).drop 9 rfl).drop 9 rfl).drop 9 rfl)
              exact nx176 (pp191, cc192, j + 1) _ _ ⟨(by omega), H198⟩ (by first | (dsimp only; omega) | omega) ⟨by first | rfl | exact vint (by omega), by first | rfl | exact vint (by omega), (show (.slice pp191 ((flatJ n.kind.v (C13.take j)).length + (C13.getD j default).kids.length) cc192 : Value) = .slice pp191 ((flatJ n.kind.v (C13.take (j + 1))).length) cc192 from by rw [← hJ195, hl193]), by first | rfl | exact vint (by omega), by first | rfl | exact vint (by omega), by first | rfl | exact vint (by omega), trivial⟩
            · skip
              refine r_cons (s_eql false rfl rfl (dfalse hc186) rfl ?_)
              refine r_nil ?_
              refine g_false rfl ?_
              refine g_region ?_
              refine r_cons (s_move (.slice lp ((flatJ n.kind.v (C13.take j)).length) lc) rfl rfl ?_)
              refine r_cons (s_loadAgg [.int .i64 ((C13.getD j default).kind.v), .string ((C13.getD j default).var.v), .string ((C13.getD j default).typ.v), .slice ((C13.getD j default).tp) ((C13.getD j default).tests.length) ((C13.getD j default).tc), .slice ((C13.getD j default).kp) ((C13.getD j default).kids.length) ((C13.getD j default).kc)] 5 ag_25 rfl (H185.blk_at (i := 3) rfl) (Nat.le_of_ble_eq_true rfl) rfl rfl ?_)
              refine r_cons (s_buildSlice H185 5 1 (cs := #[.int .i64 ((C13.getD j default).kind.v), .string ((C13.getD j default).var.v), .string ((C13.getD j default).typ.v), .slice ((C13.getD j default).tp) ((C13.getD j default).tests.length) ((C13.getD j default).tc), .slice ((C13.getD j default).kp) ((C13.getD j default).kids.length) ((C13.getD j default).kc)]) #[.int .i64 0, .string ByteArray.empty, .string ByteArray.empty, .slice none 0 0, .slice none 0 0] el_23 ze_25 (by decide) (by decide) (by kernel_rfl) rfl ?_); intro bk199 w200 H201
              rw [if_neg hc186] at hfl9
              try simp only [List.length_cons, List.length_nil] at hfl9
              refine r_cons (s_append H201 6 rfl rfl rfl (rd_blk (H201.blk_at (i := 0) rfl) rfl (Nat.le_of_ble_eq_true rfl) (by simp [Value.oneCell'])) ap_23 (by decide) (by unfold maxLen; omega) (by omega) (n' := (flatJ n.kind.v (C13.take j)).length + 1) (xs' := (flatJ n.kind.v (C13.take j)).flatMap nodeCell ++ ([.int .i64 ((C13.getD j default).kind.v), .string ((C13.getD j default).var.v), .string ((C13.getD j default).typ.v), .slice ((C13.getD j default).tp) ((C13.getD j default).tests.length) ((C13.getD j default).tc), .slice ((C13.getD j default).kp) ((C13.getD j default).kids.length) ((C13.getD j default).kc)] : List Value)) (by omega) (by first | rfl | simp) rfl ?_); intro vv202 w203 H204 hn205
              obtain ⟨pp206, cc207, rfl⟩ := Row.slice H204 (i := 6) rfl
              refine r_cons (s_assign (.slice pp206 ((flatJ n.kind.v (C13.take j)).length + 1) cc207) rfl rfl ?_)
              refine r_nil ?_
              refine g_inBlock ?_
              refine g_region ?_
              refine r_cons (s_add ((j : Int) + 1) rfl rfl (wi64 (by omega)) rfl ?_)
              refine r_cons (s_move (.int .i64 ((j : Int) + 1)) rfl rfl ?_)
              refine r_nil ?_
              have hl208 : ((flatJ n.kind.v (C13.take j)) ++ [(C13.getD j default)]).length = (flatJ n.kind.v (C13.take j)).length + 1 := by simp only [List.length_append, List.length_cons, List.length_nil]
              have H209 : St W w203 (blk bk199 (.cells #[.int .i64 ((C13.getD j default).kind.v), .string ((C13.getD j default).var.v), .string ((C13.getD j default).typ.v), .slice ((C13.getD j default).tp) ((C13.getD j default).tests.length) ((C13.getD j default).tc), .slice ((C13.getD j default).kp) ((C13.getD j default).kids.length) ((C13.getD j default).kc)] 25 (0, 0)) :: Im 5 (.slice ((C13.getD j default).kp) ((C13.getD j default).kids.length) ((C13.getD j default).kc)) ((C13.getD j default).kids.length) ((C13.getD j default).kids.flatMap nodeCell) :: NodesA ((C13.getD j default).kids) :: NodeA (C13.getD j default) :: blk bk178 (.cells #[.int .i64 ((C13.getD j default).kind.v), .string ((C13.getD j default).var.v), .string ((C13.getD j default).typ.v), .slice ((C13.getD j default).tp) ((C13.getD j default).tests.length) ((C13.getD j default).tc), .slice ((C13.getD j default).kp) ((C13.getD j default).kids.length) ((C13.getD j default).kc)] 25 (0, 0)) :: NodesA (flatJ n.kind.v (C13.take j)) :: Row 25 5 (.slice pp206 (((flatJ n.kind.v (C13.take j)) ++ [(C13.getD j default)]).length) cc207) (((flatJ n.kind.v (C13.take j)) ++ [(C13.getD j default)]).length) (((flatJ n.kind.v (C13.take j)) ++ [(C13.getD j default)]).flatMap nodeCell) :: imi (0 < C13.length) gA159 (.cells kA161 eA162 zA163) :: Im 11 (.slice pp9 n.tests.length cc10) n.tests.length (n.tests.flatMap condCell) :: Im 5 (.slice pp11 C13.length cc12) C13.length (C13.flatMap nodeCell) :: NodesA C13 :: blk bk6 (.cells #[.int .i64 0, .string ByteArray.empty, .string ByteArray.empty, .slice none 0 0, .slice none 0 0] 25 (0, 0)) :: blk bk3 (.cells #[.int .i64 n.kind.v, .string n.var.v, .string n.typ.v, .slice pp9 n.tests.length cc10, .slice pp11 C13.length cc12] 25 (0, 0)) :: NodeA n :: F) := by rw [hl208, List.flatMap_append]; first | exact H204 | simpa using H204
              have hJ210 : ((flatJ n.kind.v (C13.take j)) ++ [(C13.getD j default)]) = (flatJ n.kind.v (C13.take (j + 1))) := by rw [flatJ_step (by omega), if_neg hc186]
              have H211 : St W w203 (NodesA ((flatJ n.kind.v (C13.take j)) ++ [(C13.getD j default)]) :: blk bk199 (.cells #[.int .i64 ((C13.getD j default).kind.v), .string ((C13.getD j default).var.v), .string ((C13.getD j default).typ.v), .slice ((C13.getD j default).tp) ((C13.getD j default).tests.length) ((C13.getD j default).tc), .slice ((C13.getD j default).kp) ((C13.getD j default).kids.length) ((C13.getD j default).kc)] 25 (0, 0)) :: Im 5 (.slice ((C13.getD j default).kp) ((C13.getD j default).kids.length) ((C13.getD j default).kc)) ((C13.getD j default).kids.length) ((C13.getD j default).kids.flatMap nodeCell) :: NodesA ((C13.getD j default).kids) :: NodeA (C13.getD j default) :: blk bk178 (.cells #[.int .i64 ((C13.getD j default).kind.v), .string ((C13.getD j default).var.v), .string ((C13.getD j default).typ.v), .slice ((C13.getD j default).tp) ((C13.getD j default).tests.length) ((C13.getD j default).tc), .slice ((C13.getD j default).kp) ((C13.getD j default).kids.length) ((C13.getD j default).kc)] 25 (0, 0)) :: NodesA (flatJ n.kind.v (C13.take j)) :: Row 25 5 (.slice pp206 (((flatJ n.kind.v (C13.take j)) ++ [(C13.getD j default)]).length) cc207) (((flatJ n.kind.v (C13.take j)) ++ [(C13.getD j default)]).length) (((flatJ n.kind.v (C13.take j)) ++ [(C13.getD j default)]).flatMap nodeCell) :: imi (0 < C13.length) gA159 (.cells kA161 eA162 zA163) :: Im 11 (.slice pp9 n.tests.length cc10) n.tests.length (n.tests.flatMap condCell) :: Im 5 (.slice pp11 C13.length cc12) C13.length (C13.flatMap nodeCell) :: NodesA C13 :: blk bk6 (.cells #[.int .i64 0, .string ByteArray.empty, .string ByteArray.empty, .slice none 0 0, .slice none 0 0] 25 (0, 0)) :: blk bk3 (.cells #[.int .i64 n.kind.v, .string n.var.v, .string n.typ.v, .slice pp9 n.tests.length cc10, .slice pp11 C13.length cc12] 25 (0, 0)) :: NodeA n :: F) := NodesA.snoc' H209 (a := 5) (b := 3) rfl rfl
              have H212 : St W w203 (NodesA (flatJ n.kind.v (C13.take (j + 1))) :: blk bk199 (.cells #[.int .i64 ((C13.getD j default).kind.v), .string ((C13.getD j default).var.v), .string ((C13.getD j default).typ.v), .slice ((C13.getD j default).tp) ((C13.getD j default).tests.length) ((C13.getD j default).tc), .slice ((C13.getD j default).kp) ((C13.getD j default).kids.length) ((C13.getD j default).kc)] 25 (0, 0)) :: Im 5 (.slice ((C13.getD j default).kp) ((C13.getD j default).kids.length) ((C13.getD j default).kc)) ((C13.getD j default).kids.length) ((C13.getD j default).kids.flatMap nodeCell) :: NodesA ((C13.getD j default).kids) :: NodeA (C13.getD j default) :: blk bk178 (.cells #[.int .i64 ((C13.getD j default).kind.v), .string ((C13.getD j default).var.v), .string ((C13.getD j default).typ.v), .slice ((C13.getD j default).tp) ((C13.getD j default).tests.length) ((C13.getD j default).tc), .slice ((C13.getD j default).kp) ((C13.getD j default).kids.length) ((C13.getD j default).kc)] 25 (0, 0)) :: NodesA (flatJ n.kind.v (C13.take j)) :: Row 25 5 (.slice pp206 ((flatJ n.kind.v (C13.take (j + 1))).length) cc207) ((flatJ n.kind.v (C13.take (j + 1))).length) ((flatJ n.kind.v (C13.take (j + 1))).flatMap nodeCell) :: imi (0 < C13.length) gA159 (.cells kA161 eA162 zA163) :: Im 11 (.slice pp9 n.tests.length cc10) n.tests.length (n.tests.flatMap condCell) :: Im 5 (.slice pp11 C13.length cc12) C13.length (C13.flatMap nodeCell) :: NodesA C13 :: blk bk6 (.cells #[.int .i64 0, .string ByteArray.empty, .string ByteArray.empty, .slice none 0 0, .slice none 0 0] 25 (0, 0)) :: blk bk3 (.cells #[.int .i64 n.kind.v, .string n.var.v, .string n.typ.v, .slice pp9 n.tests.length cc10, .slice pp11 C13.length cc12] 25 (0, 0)) :: NodeA n :: F) := by rw [← hJ210]; exact H211
              have H213 : St W w203 (NodesA (flatJ n.kind.v (C13.take (j + 1))) :: Row 25 5 (.slice pp206 ((flatJ n.kind.v (C13.take (j + 1))).length) cc207) ((flatJ n.kind.v (C13.take (j + 1))).length) ((flatJ n.kind.v (C13.take (j + 1))).flatMap nodeCell) :: imi (0 < C13.length) gA159 (.cells kA161 eA162 zA163) :: Im 11 (.slice pp9 n.tests.length cc10) n.tests.length (n.tests.flatMap condCell) :: Im 5 (.slice pp11 C13.length cc12) C13.length (C13.flatMap nodeCell) :: NodesA C13 :: blk bk6 (.cells #[.int .i64 0, .string ByteArray.empty, .string ByteArray.empty, .slice none 0 0, .slice none 0 0] 25 (0, 0)) :: blk bk3 (.cells #[.int .i64 n.kind.v, .string n.var.v, .string n.typ.v, .slice pp9 n.tests.length cc10, .slice pp11 C13.length cc12] 25 (0, 0)) :: NodeA n :: F) := (((((((((((((((H212.move 14 rfl).move 14 rfl).move 14 rfl).move 14 rfl).move 14 rfl).move 14 rfl).move 14 rfl).move 14 rfl).move 8 rfl).drop 9 rfl).drop 9 rfl).drop 9 rfl).drop 9 rfl).drop 9 rfl).drop 9 rfl)
              exact nx176 (pp206, cc207, j + 1) _ _ ⟨(by omega), H213⟩ (by first | (dsimp only; omega) | omega) ⟨by first | rfl | exact vint (by omega), by first | rfl | exact vint (by omega), (show (.slice pp206 ((flatJ n.kind.v (C13.take j)).length + 1) cc207 : Value) = .slice pp206 ((flatJ n.kind.v (C13.take (j + 1))).length) cc207 from by rw [← hJ210, hl208]), by first | rfl | exact vint (by omega), by first | rfl | exact vint (by omega), by first | rfl | exact vint (by omega), trivial⟩
          · skip
            refine r_cons (s_lss false rfl rfl (dfalse hc177) rfl ?_)
            refine r_nil ?_
            refine g_seq ?_
            refine g_false rfl ?_
            refine g_exit (by rfl) ?_
            refine g_seq ?_
            refine g_region ?_
            refine r_cons (s_move (.slice lp ((flatJ n.kind.v (C13.take j)).length) lc) rfl rfl ?_)
            refine r_cons (s_fieldAddr 25 4 4 4 23 rfl fi_25_4 rfl rfl ?_)
            refine r_cons (s_store H175 7 (.slice lp ((flatJ n.kind.v (C13.take j)).length) lc) rfl rfl rfl sz_23 rfl (Nat.le_of_ble_eq_true rfl) rfl (cs' := #[.int .i64 n.kind.v, .string n.var.v, .string n.typ.v, .slice pp9 n.tests.length cc10, .slice lp ((flatJ n.kind.v (C13.take j)).length) lc]) rfl ?_); intro w214 H215
            refine r_nil ?_
            refine g_seq ?_
            refine g_region ?_
            refine r_cons (s_loadAgg [.int .i64 n.kind.v, .string n.var.v, .string n.typ.v, .slice pp9 n.tests.length cc10, .slice lp ((flatJ n.kind.v (C13.take j)).length) lc] 5 ag_25 rfl (H215.blk_at (i := 7) rfl) (Nat.le_of_ble_eq_true rfl) rfl rfl ?_)
            refine r_cons (s_storeAgg H215 6 #[.int .i64 n.kind.v, .string n.var.v, .string n.typ.v, .slice pp9 n.tests.length cc10, .slice lp ((flatJ n.kind.v (C13.take j)).length) lc] 5 rfl rfl rfl sz_25 rfl (by simp [Value.oneCell']) (Nat.le_of_ble_eq_true rfl) (fun o h1 h2 => by first | (simp; done) | (simp; omega)) (cs' := #[.int .i64 n.kind.v, .string n.var.v, .string n.typ.v, .slice pp9 n.tests.length cc10, .slice lp ((flatJ n.kind.v (C13.take j)).length) lc]) rfl ?_); intro w216 H217
            refine r_nil ?_
            refine g_ret' [.agg #[.int .i64 n.kind.v, .string n.var.v, .string n.typ.v, .slice pp9 n.tests.length cc10, .slice lp ((flatJ n.kind.v (C13.take j)).length) lc]] Try.func17 Try.results17 ⟨(res_cellN rfl ag_25 (H217.blk_at (i := 6) rfl) (Nat.le_of_ble_eq_true rfl) rfl), trivial⟩ ?_
            have hT218 : C13.take j = C13 := List.take_of_length_le (by omega)
            have H219 := H217
            rw [hT218] at H219
            have H220 : St W w216 (NodesA (flatJ n.kind.v C13) :: Row 25 5 (.slice lp ((flatJ n.kind.v C13).length) lc) ((flatJ n.kind.v C13).length) ((flatJ n.kind.v C13).flatMap nodeCell) :: Im 11 (.slice pp9 n.tests.length cc10) n.tests.length (n.tests.flatMap condCell) :: F) := (((((((((H219.move 3 rfl).move 2 rfl).move 2 rfl).drop 3 rfl).drop 3 rfl).drop 3 rfl).drop 3 rfl).drop 3 rfl).drop 3 rfl)
            have H221 : St W w216 (NodesA (flatJ n.kind.v C13) :: Im 5 (.slice lp ((flatJ n.kind.v C13).length) lc) ((flatJ n.kind.v C13).length) ((flatJ n.kind.v C13).flatMap nodeCell) :: Im 11 (.slice pp9 n.tests.length cc10) n.tests.length (n.tests.flatMap condCell) :: F) := Row.im H220 (i := 1) rfl
            have H222 : St W w216 (NodeA (NodeD.mk n.kind n.var n.typ pp9 cc10 n.tests lp lc (flatJ n.kind.v C13)) :: NodesA (flatJ n.kind.v C13) :: Im 5 (.slice lp ((flatJ n.kind.v C13).length) lc) ((flatJ n.kind.v C13).length) ((flatJ n.kind.v C13).flatMap nodeCell) :: Im 11 (.slice pp9 n.tests.length cc10) n.tests.length (n.tests.flatMap condCell) :: F) := NodeA.make (a := 2) (b := 1) (c := 0) (.mk n.kind n.var n.typ pp9 cc10 n.tests lp lc (flatJ n.kind.v C13)) H221 rfl rfl rfl (by have h9 := flatJ_len n.kind.v C13; exact ⟨by show n.tests.length * 136 ≤ _; omega, by show (flatJ n.kind.v C13).length * 88 ≤ _; omega⟩)
            have H223 : St W w216 (NodeA (NodeD.mk n.kind n.var n.typ pp9 cc10 n.tests lp lc (flatJ n.kind.v C13)) :: F) := (((H222.drop 1 rfl).drop 1 rfl).drop 1 rfl)
            exact ⟨(.mk n.kind n.var n.typ pp9 cc10 n.tests lp lc (flatJ n.kind.v C13)), by rw [hT218]; rfl, by rw [flatN_eq]; show NodeD.mk _ _ _ _ _ _ _ _ (eraseL (flatJ n.kind.v C13)) = _; rw [eraseL_map, flatJ_erase, hC14]; unfold flatK; rw [if_pos (by unfold innerB; simp [hc156])], H223⟩
      · skip
        refine s_neq true rfl rfl (nfalse hc156) rfl ?_
        refine r_cons (s_pick_t (.bool true) rfl rfl rfl ?_)
        refine r_nil ?_
        refine g_true rfl ?_
        refine g_seq ?_
        refine g_region ?_
        refine r_cons (s_loadAgg [.int .i64 n.kind.v, .string n.var.v, .string n.typ.v, .slice pp9 n.tests.length cc10, .slice pp11 C13.length cc12] 5 ag_25 rfl (H19.blk_at (i := 4) rfl) (Nat.le_of_ble_eq_true rfl) rfl rfl ?_)
        refine r_cons (s_storeAgg H19 3 #[.int .i64 n.kind.v, .string n.var.v, .string n.typ.v, .slice pp9 n.tests.length cc10, .slice pp11 C13.length cc12] 5 rfl rfl rfl sz_25 rfl (by simp [Value.oneCell']) (Nat.le_of_ble_eq_true rfl) (fun o h1 h2 => by first | (simp; done) | (simp; omega)) (cs' := #[.int .i64 n.kind.v, .string n.var.v, .string n.typ.v, .slice pp9 n.tests.length cc10, .slice pp11 C13.length cc12]) rfl ?_); intro w224 H225
        refine r_nil ?_
        refine g_ret' [.agg #[.int .i64 n.kind.v, .string n.var.v, .string n.typ.v, .slice pp9 n.tests.length cc10, .slice pp11 C13.length cc12]] Try.func17 Try.results17 ⟨(res_cellN rfl ag_25 (H225.blk_at (i := 3) rfl) (Nat.le_of_ble_eq_true rfl) rfl), trivial⟩ ?_
        have H226 : St W w224 (NodeA (NodeD.mk n.kind n.var n.typ pp9 cc10 n.tests pp11 cc12 C13) :: Im 11 (.slice pp9 n.tests.length cc10) n.tests.length (n.tests.flatMap condCell) :: Im 5 (.slice pp11 C13.length cc12) C13.length (C13.flatMap nodeCell) :: NodesA C13 :: blk bk6 (.cells #[.int .i64 n.kind.v, .string n.var.v, .string n.typ.v, .slice pp9 n.tests.length cc10, .slice pp11 C13.length cc12] 25 (0, 0)) :: blk bk3 (.cells #[.int .i64 n.kind.v, .string n.var.v, .string n.typ.v, .slice pp9 n.tests.length cc10, .slice pp11 C13.length cc12] 25 (0, 0)) :: NodeA n :: F) := NodeA.make (a := 0) (b := 1) (c := 2) (.mk n.kind n.var n.typ pp9 cc10 n.tests pp11 cc12 C13) H225 rfl rfl rfl (by have h9 := res_len hC14; have h8 := kids_len n; exact ⟨by show n.tests.length * 136 ≤ _; omega, by show C13.length * 88 ≤ _; omega⟩)
        have H227 : St W w224 (NodeA (NodeD.mk n.kind n.var n.typ pp9 cc10 n.tests pp11 cc12 C13) :: F) := ((((((H226.drop 1 rfl).drop 1 rfl).drop 1 rfl).drop 1 rfl).drop 1 rfl).drop 1 rfl)
        exact ⟨(.mk n.kind n.var n.typ pp9 cc10 n.tests pp11 cc12 C13), rfl, by rw [flatN_eq]; show NodeD.mk _ _ _ _ _ _ _ _ (eraseL C13) = _; rw [eraseL_map, hC14]; unfold flatK; rw [if_neg (by unfold innerB; simp [hc20, hc88, hc156])], H227⟩
theorem normal_Flat {W w : World} {F : List Atom} (n : NodeD)  {i : Nat} (hi : F[i]? = some (NodeA n)) (hz : sizeN n ≤ 1048576) (H : St W w F) : Calls Try.prog 17 #[.agg #[.int .i64 n.kind.v, .string n.var.v, .string n.typ.v, .slice n.tp n.tests.length n.tc, .slice n.kp n.kids.length n.kc]] w (Ret fun v w' => ∃ r : NodeD, v = .agg #[.int .i64 r.kind.v, .string r.var.v, .string r.typ.v, .slice r.tp r.tests.length r.tc, .slice r.kp r.kids.length r.kc] ∧ eraseN r = flatN n ∧ St W w' (NodeA r :: F)) := normal_Flat_r (sizeOf n + 1) n (Nat.lt_succ_self _) hi hz H
set_option maxHeartbeats 4000000 in
set_option maxRecDepth 100000 in
theorem normal_each_sort {W w : World} {F : List Atom} (n : NodeD) {i : Nat} (hi : F[i]? = some (NodeA n)) (hz : sizeN n ≤ 1048576) (hf : ∀ x ∈ n.kids, ∀ {W w : World} {F : List Atom} {i : Nat}, F[i]? = some (NodeA x) → St W w F → Calls Try.prog 18 #[.agg #[.int .i64 x.kind.v, .string x.var.v, .string x.typ.v, .slice x.tp x.tests.length x.tc, .slice x.kp x.kids.length x.kc]] w (Ret fun v w' => ∃ r : NodeD, v = .agg #[.int .i64 r.kind.v, .string r.var.v, .string r.typ.v, .slice r.tp r.tests.length r.tc, .slice r.kp r.kids.length r.kc] ∧ eraseN r = sortN x ∧ St W w' (NodeA r :: F))) (H : St W w F) : Calls Try.prog 52 #[.agg #[.int .i64 n.kind.v, .string n.var.v, .string n.typ.v, .slice n.tp n.tests.length n.tc, .slice n.kp n.kids.length n.kc], .func (.func 18) #[] #[]] w (Ret fun v w' => ∃ tp tc kq kz, ∃ C : List NodeD, v = .agg #[.int .i64 n.kind.v, .string n.var.v, .string n.typ.v, .slice tp n.tests.length tc, .slice kq C.length kz] ∧ C.map eraseN = n.kids.map sortN ∧ St W w' (Im 11 (.slice tp n.tests.length tc) n.tests.length (n.tests.flatMap condCell) :: Row 25 5 (.slice kq C.length kz) C.length (C.flatMap nodeCell) :: NodesA C :: F)) := by
  have H1 := NodeA.kids H (i := i + 0) (by exact hi)
  have H2 : St W w (Im 5 (.slice n.kp n.kids.length n.kc) n.kids.length (n.kids.flatMap nodeCell) :: NodesA n.kids :: F) := H1
  have H3 := H2.dup (i := i + 2) (by exact hi) (NodeA_pers _)
  have H4 : St W w (NodeA n :: Im 5 (.slice n.kp n.kids.length n.kc) n.kids.length (n.kids.flatMap nodeCell) :: NodesA n.kids :: F) := H3
  have hkl := kids_len n
  refine calls_of_go (n := 25) Try.func52 rfl Try.ntmps52 rfl ?_
  refine g_seq ?_
  refine g_region ?_
  refine r_cons (s_box H4 25 (.agg #[.int .i64 n.kind.v, .string n.var.v, .string n.typ.v, .slice n.tp n.tests.length n.tc, .slice n.kp n.kids.length n.kc]) rfl (cs := #[.int .i64 n.kind.v, .string n.var.v, .string n.typ.v, .slice n.tp n.tests.length n.tc, .slice n.kp n.kids.length n.kc]) rfl rfl ?_); intro bk5 w6 H7
  refine r_cons (s_alloc H7 25 ze_25 rfl ?_); intro bk8 w9 H10
  refine r_nil ?_
  refine g_seq ?_
  refine g_region ?_
  refine r_cons (s_assign (.slice none 0 0) rfl rfl ?_)
  refine r_nil ?_
  refine g_seq ?_
  refine g_seq ?_
  refine g_region ?_
  refine r_cons (s_fieldAddr 25 4 4 4 23 rfl fi_25_4 rfl rfl ?_)
  refine r_cons (s_load (.slice n.kp n.kids.length n.kc) ag_23 rfl (H10.blk_at (i := 1) rfl) rfl rfl ?_)
  refine r_cons (s_len n.kids.length rfl ⟨_, un_23⟩ rfl ?_)
  refine r_cons (s_move (.int .i64 0) rfl rfl ?_)
  refine r_nil ?_
  refine g_block ?_
  have H11 := Row.nil_intro H10 25 5
  have H12 : St W w9 (NodesA [] :: Row 25 5 (.slice none 0 0) 0 [] :: blk bk8 (.cells #[.int .i64 0, .string ByteArray.empty, .string ByteArray.empty, .slice none 0 0, .slice none 0 0] 25 (0, 0)) :: blk bk5 (.cells #[.int .i64 n.kind.v, .string n.var.v, .string n.typ.v, .slice n.tp n.tests.length n.tc, .slice n.kp n.kids.length n.kc] 25 (0, 0)) :: NodeA n :: Im 5 (.slice n.kp n.kids.length n.kc) n.kids.length (n.kids.flatMap nodeCell) :: NodesA n.kids :: F) := NodesA.nil H11
  obtain ⟨pA13, cA14, gA15, oA16, kA17, eA18, zA19, he25, hn20, hp21, hx22, hs23, hml, H24⟩ := Im.open_ H12 (i := 5) rfl
  obtain ⟨rfl, rfl⟩ : n.kp = pA13 ∧ n.kc = cA14 := by injection he25 with a_ b_ c_; exact ⟨a_, c_⟩
  have H26 : St W w9 (imi (0 < n.kids.length) gA15 (.cells kA17 eA18 zA19) :: NodesA [] :: Row 25 5 (.slice none 0 0) 0 [] :: blk bk8 (.cells #[.int .i64 0, .string ByteArray.empty, .string ByteArray.empty, .slice none 0 0, .slice none 0 0] 25 (0, 0)) :: blk bk5 (.cells #[.int .i64 n.kind.v, .string n.var.v, .string n.typ.v, .slice n.tp n.tests.length n.tc, .slice n.kp n.kids.length n.kc] 25 (0, 0)) :: NodeA n :: Im 5 (.slice n.kp n.kids.length n.kc) n.kids.length (n.kids.flatMap nodeCell) :: NodesA n.kids :: F) := ((((((((H24.move 7 rfl).move 7 rfl).move 7 rfl).move 7 rfl).move 7 rfl).move 7 rfl).move 7 rfl).move 7 rfl)
  refine g_loop_inv (fun (x_ : (Option Addr) × Nat × (List NodeD) × Nat) => match x_ with | (lp, lc, C, j) => [(1, .func (.func 18) #[] #[]), (2, .pointer (some ⟨bk5, 0, none⟩)), (4, .pointer (some ⟨bk8, 0, none⟩)), (5, .slice lp C.length lc), (9, .slice n.kp n.kids.length n.kc), (10, .int .i64 (n.kids.length : Int)), (11, .int .i64 (j : Int))]) (fun (x_ : (Option Addr) × Nat × (List NodeD) × Nat) w => match x_ with | (lp, lc, C, j) => (j ≤ n.kids.length) ∧ (C.length = j) ∧ (C.map eraseN = (n.kids.take j).map sortN) ∧ St W w (imi (0 < n.kids.length) gA15 (.cells kA17 eA18 zA19) :: NodesA C :: Row 25 5 (.slice lp C.length lc) C.length (C.flatMap nodeCell) :: blk bk8 (.cells #[.int .i64 0, .string ByteArray.empty, .string ByteArray.empty, .slice none 0 0, .slice none 0 0] 25 (0, 0)) :: blk bk5 (.cells #[.int .i64 n.kind.v, .string n.var.v, .string n.typ.v, .slice n.tp n.tests.length n.tc, .slice n.kp n.kids.length n.kc] 25 (0, 0)) :: NodeA n :: Im 5 (.slice n.kp n.kids.length n.kc) n.kids.length (n.kids.flatMap nodeCell) :: NodesA n.kids :: F)) (fun (x_ : (Option Addr) × Nat × (List NodeD) × Nat) => match x_ with | (lp, lc, C, j) => n.kids.length - j) (none, 0, [], 0) ?_ ?_ ?_
  · exact ⟨by first | rfl | exact vint (by omega), by first | rfl | exact vint (by omega), by first | rfl | exact vint (by omega), by first | rfl | exact vint (by omega), by first | rfl | exact vint (by omega), by first | rfl | exact vint (by omega), by first | rfl | exact vint (by omega), trivial⟩
  · exact ⟨(by omega), rfl, rfl, H26⟩
  · rintro ⟨lp, lc, C, j⟩ ρ27 w28 ⟨hjl, hCl, hC, H29⟩ nx30
    change Ends _ _ (upds ρ27 [(1, .func (.func 18) #[] #[]), (2, .pointer (some ⟨bk5, 0, none⟩)), (4, .pointer (some ⟨bk8, 0, none⟩)), (5, .slice lp C.length lc), (9, .slice n.kp n.kids.length n.kc), (10, .int .i64 (n.kids.length : Int)), (11, .int .i64 (j : Int))]) w28
    refine g_seq ?_
    refine g_region ?_
    by_cases hc31 : (j : Int) < (n.kids.length : Int)
    · skip
      refine r_cons (s_lss true rfl rfl (dtrue hc31) rfl ?_)
      refine r_nil ?_
      refine g_seq ?_
      refine g_true rfl ?_
      refine g_skip ?_
      refine g_seq ?_
      refine g_block ?_
      refine g_seq ?_
      refine g_region ?_
      refine r_cons (s_indexAddr gA15 (off := oA16) (j : Int) 5 (oA16 + j * 5) (by exact congrArg (fun z_ => Value.slice z_ n.kids.length n.kc) (hp21 (by omega))) rfl el_23 (by omega) rfl rfl ?_)
      refine r_cons (s_loadAgg [.int .i64 ((n.kids.getD j default).kind.v), .string ((n.kids.getD j default).var.v), .string ((n.kids.getD j default).typ.v), .slice ((n.kids.getD j default).tp) ((n.kids.getD j default).tests.length) ((n.kids.getD j default).tc), .slice ((n.kids.getD j default).kp) ((n.kids.getD j default).kids.length) ((n.kids.getD j default).kc)] 5 ag_25 rfl (H29.imi_at (i := 0) rfl (by omega)) (by have := elem_size (i := j) (s := 5) (hs23 (by omega)) (by omega); omega) (elem_take nodeCell_len (hx22 (by omega)) (by omega) default) rfl ?_)
      refine r_cons (s_alloc H29 25 ze_25 rfl ?_); intro bk32 w33 H34
      refine r_cons (s_storeAgg H34 0 #[.int .i64 ((n.kids.getD j default).kind.v), .string ((n.kids.getD j default).var.v), .string ((n.kids.getD j default).typ.v), .slice ((n.kids.getD j default).tp) ((n.kids.getD j default).tests.length) ((n.kids.getD j default).tc), .slice ((n.kids.getD j default).kp) ((n.kids.getD j default).kids.length) ((n.kids.getD j default).kc)] 5 rfl rfl rfl sz_25 rfl (by simp [Value.oneCell']) (Nat.le_of_ble_eq_true rfl) (fun o h1 h2 => by first | (simp; done) | (simp; omega)) (cs' := #[.int .i64 ((n.kids.getD j default).kind.v), .string ((n.kids.getD j default).var.v), .string ((n.kids.getD j default).typ.v), .slice ((n.kids.getD j default).tp) ((n.kids.getD j default).tests.length) ((n.kids.getD j default).tc), .slice ((n.kids.getD j default).kp) ((n.kids.getD j default).kids.length) ((n.kids.getD j default).kc)]) rfl ?_); intro w35 H36
      refine r_nil ?_
      refine g_region ?_
      refine r_cons (s_move (.slice lp C.length lc) rfl rfl ?_)
      refine r_cons (s_move (.func (.func 18) #[] #[]) rfl rfl ?_)
      refine r_cons (s_loadAgg [.int .i64 ((n.kids.getD j default).kind.v), .string ((n.kids.getD j default).var.v), .string ((n.kids.getD j default).typ.v), .slice ((n.kids.getD j default).tp) ((n.kids.getD j default).tests.length) ((n.kids.getD j default).tc), .slice ((n.kids.getD j default).kp) ((n.kids.getD j default).kids.length) ((n.kids.getD j default).kc)] 5 ag_25 rfl (H36.blk_at (i := 0) rfl) (Nat.le_of_ble_eq_true rfl) rfl rfl ?_)
      have H37 := NodesA.at H36 (i := 8) rfl (j := j) (by omega)
      refine r_cons (s_callv [] [.agg #[.int .i64 ((n.kids.getD j default).kind.v), .string ((n.kids.getD j default).var.v), .string ((n.kids.getD j default).typ.v), .slice ((n.kids.getD j default).tp) ((n.kids.getD j default).tests.length) ((n.kids.getD j default).tc), .slice ((n.kids.getD j default).kp) ((n.kids.getD j default).kids.length) ((n.kids.getD j default).kc)]] rfl pl_18 rfl rfl (hf (n.kids.getD j default) (getD_mem' (by omega)) (i := 0) rfl H37) ?_)
      rintro _ w40 ⟨nn38, rfl, hq39, H41⟩
      refine r_cons (s_buildSlice H41 5 1 (cs := #[.int .i64 nn38.kind.v, .string nn38.var.v, .string nn38.typ.v, .slice nn38.tp nn38.tests.length nn38.tc, .slice nn38.kp nn38.kids.length nn38.kc]) #[.int .i64 0, .string ByteArray.empty, .string ByteArray.empty, .slice none 0 0, .slice none 0 0] el_23 ze_25 (by decide) (by decide) (by kernel_rfl) rfl ?_); intro bk42 w43 H44
      refine r_cons (s_append H44 6 rfl rfl rfl (rd_blk (H44.blk_at (i := 0) rfl) rfl (Nat.le_of_ble_eq_true rfl) (by simp [Value.oneCell'])) ap_23 (by decide) (by unfold maxLen; omega) (by omega) (n' := C.length + 1) (xs' := C.flatMap nodeCell ++ ([.int .i64 nn38.kind.v, .string nn38.var.v, .string nn38.typ.v, .slice nn38.tp nn38.tests.length nn38.tc, .slice nn38.kp nn38.kids.length nn38.kc] : List Value)) (by omega) (by first | rfl | simp) rfl ?_); intro vv45 w46 H47 hn48
      obtain ⟨pp49, cc50, rfl⟩ := Row.slice H47 (i := 6) rfl
      refine r_cons (s_assign (.slice pp49 (C.length + 1) cc50) rfl rfl ?_)
      refine r_nil ?_
      refine g_inBlock ?_
      refine g_region ?_
      refine r_cons (s_add ((j : Int) + 1) rfl rfl (wi64 (by omega)) rfl ?_)
      refine r_cons (s_move (.int .i64 ((j : Int) + 1)) rfl rfl ?_)
      refine r_nil ?_
      have hl51 : (C ++ [nn38]).length = C.length + 1 := by simp
      have H52 : St W w46 (blk bk42 (.cells #[.int .i64 nn38.kind.v, .string nn38.var.v, .string nn38.typ.v, .slice nn38.tp nn38.tests.length nn38.tc, .slice nn38.kp nn38.kids.length nn38.kc] 25 (0, 0)) :: NodeA nn38 :: NodeA (n.kids.getD j default) :: blk bk32 (.cells #[.int .i64 ((n.kids.getD j default).kind.v), .string ((n.kids.getD j default).var.v), .string ((n.kids.getD j default).typ.v), .slice ((n.kids.getD j default).tp) ((n.kids.getD j default).tests.length) ((n.kids.getD j default).tc), .slice ((n.kids.getD j default).kp) ((n.kids.getD j default).kids.length) ((n.kids.getD j default).kc)] 25 (0, 0)) :: imi (0 < n.kids.length) gA15 (.cells kA17 eA18 zA19) :: NodesA C :: Row 25 5 (.slice pp49 ((C ++ [nn38]).length) cc50) ((C ++ [nn38]).length) ((C ++ [nn38]).flatMap nodeCell) :: blk bk8 (.cells #[.int .i64 0, .string ByteArray.empty, .string ByteArray.empty, .slice none 0 0, .slice none 0 0] 25 (0, 0)) :: blk bk5 (.cells #[.int .i64 n.kind.v, .string n.var.v, .string n.typ.v, .slice n.tp n.tests.length n.tc, .slice n.kp n.kids.length n.kc] 25 (0, 0)) :: NodeA n :: Im 5 (.slice n.kp n.kids.length n.kc) n.kids.length (n.kids.flatMap nodeCell) :: NodesA n.kids :: F) := by rw [hl51, List.flatMap_append]; first | exact H47 | simpa using H47
      have H53 : St W w46 (NodesA (C ++ [nn38]) :: blk bk42 (.cells #[.int .i64 nn38.kind.v, .string nn38.var.v, .string nn38.typ.v, .slice nn38.tp nn38.tests.length nn38.tc, .slice nn38.kp nn38.kids.length nn38.kc] 25 (0, 0)) :: NodeA nn38 :: NodeA (n.kids.getD j default) :: blk bk32 (.cells #[.int .i64 ((n.kids.getD j default).kind.v), .string ((n.kids.getD j default).var.v), .string ((n.kids.getD j default).typ.v), .slice ((n.kids.getD j default).tp) ((n.kids.getD j default).tests.length) ((n.kids.getD j default).tc), .slice ((n.kids.getD j default).kp) ((n.kids.getD j default).kids.length) ((n.kids.getD j default).kc)] 25 (0, 0)) :: imi (0 < n.kids.length) gA15 (.cells kA17 eA18 zA19) :: NodesA C :: Row 25 5 (.slice pp49 ((C ++ [nn38]).length) cc50) ((C ++ [nn38]).length) ((C ++ [nn38]).flatMap nodeCell) :: blk bk8 (.cells #[.int .i64 0, .string ByteArray.empty, .string ByteArray.empty, .slice none 0 0, .slice none 0 0] 25 (0, 0)) :: blk bk5 (.cells #[.int .i64 n.kind.v, .string n.var.v, .string n.typ.v, .slice n.tp n.tests.length n.tc, .slice n.kp n.kids.length n.kc] 25 (0, 0)) :: NodeA n :: Im 5 (.slice n.kp n.kids.length n.kc) n.kids.length (n.kids.flatMap nodeCell) :: NodesA n.kids :: F) := NodesA.snoc' H52 (a := 5) (b := 1) rfl rfl
      have H54 : St W w46 (imi (0 < n.kids.length) gA15 (.cells kA17 eA18 zA19) :: NodesA (C ++ [nn38]) :: Row 25 5 (.slice pp49 ((C ++ [nn38]).length) cc50) ((C ++ [nn38]).length) ((C ++ [nn38]).flatMap nodeCell) :: blk bk8 (.cells #[.int .i64 0, .string ByteArray.empty, .string ByteArray.empty, .slice none 0 0, .slice none 0 0] 25 (0, 0)) :: blk bk5 (.cells #[.int .i64 n.kind.v, .string n.var.v, .string n.typ.v, .slice n.tp n.tests.length n.tc, .slice n.kp n.kids.length n.kc] 25 (0, 0)) :: NodeA n :: Im 5 (.slice n.kp n.kids.length n.kc) n.kids.length (n.kids.flatMap nodeCell) :: NodesA n.kids :: F) := (((((((((((((H53.move 12 rfl).move 12 rfl).move 12 rfl).move 12 rfl).move 12 rfl).move 12 rfl).move 6 rfl).move 11 rfl).drop 8 rfl).drop 8 rfl).drop 8 rfl).drop 8 rfl).drop 8 rfl)
      exact nx30 (pp49, cc50, (C ++ [nn38]), j + 1) _ _ ⟨(by omega), (by rw [hl51]; omega), (res_snoc hC (by omega) hq39), H54⟩ (by first | (dsimp only; omega) | omega) ⟨by first | rfl | exact vint (by omega), by first | rfl | exact vint (by omega), by first | rfl | exact vint (by omega), (show (.slice pp49 (C.length + 1) cc50 : Value) = .slice pp49 ((C ++ [nn38]).length) cc50 from by rw [hl51]), by first | rfl | exact vint (by omega), by first | rfl | exact vint (by omega), by first | rfl | exact vint (by omega), trivial⟩
    · skip
      refine r_cons (s_lss false rfl rfl (dfalse hc31) rfl ?_)
      refine r_nil ?_
      refine g_seq ?_
      refine g_false rfl ?_
      refine g_exit (by rfl) ?_
      refine g_seq ?_
      refine g_region ?_
      refine r_cons (s_loadAgg [.int .i64 n.kind.v, .string n.var.v, .string n.typ.v, .slice n.tp n.tests.length n.tc, .slice n.kp n.kids.length n.kc] 5 ag_25 rfl (H29.blk_at (i := 4) rfl) (Nat.le_of_ble_eq_true rfl) rfl rfl ?_)
      refine r_cons (s_move (.slice lp C.length lc) rfl rfl ?_)
      refine r_cons (s_call [.agg #[.int .i64 n.kind.v, .string n.var.v, .string n.typ.v, .slice n.tp n.tests.length n.tc, .slice n.kp n.kids.length n.kc], .slice lp C.length lc] pl_70 rfl rfl (normal_with n lp C.length lc (i := 5) rfl H29) ?_)
      rintro _ w57 ⟨pp55, cc56, rfl, H58⟩
      refine r_cons (s_storeAgg H58 4 #[.int .i64 n.kind.v, .string n.var.v, .string n.typ.v, .slice pp55 n.tests.length cc56, .slice lp C.length lc] 5 rfl rfl rfl sz_25 rfl (by simp [Value.oneCell']) (Nat.le_of_ble_eq_true rfl) (fun o h1 h2 => by first | (simp; done) | (simp; omega)) (cs' := #[.int .i64 n.kind.v, .string n.var.v, .string n.typ.v, .slice pp55 n.tests.length cc56, .slice lp C.length lc]) rfl ?_); intro w59 H60
      refine r_nil ?_
      refine g_ret' [.agg #[.int .i64 n.kind.v, .string n.var.v, .string n.typ.v, .slice pp55 n.tests.length cc56, .slice lp C.length lc]] Try.func52 Try.results52 ⟨(res_cellN rfl ag_25 (H60.blk_at (i := 4) rfl) (Nat.le_of_ble_eq_true rfl) rfl), trivial⟩ ?_
      have H61 : St W w59 (Im 11 (.slice pp55 n.tests.length cc56) n.tests.length (n.tests.flatMap condCell) :: Row 25 5 (.slice lp C.length lc) C.length (C.flatMap nodeCell) :: NodesA C :: F) := (((((((((H60.move 2 rfl).move 3 rfl).move 2 rfl).drop 3 rfl).drop 3 rfl).drop 3 rfl).drop 3 rfl).drop 3 rfl).drop 3 rfl)
      exact ⟨pp55, cc56, lp, lc, C, rfl, by rw [hC, List.take_of_length_le (by omega)], H61⟩
set_option maxHeartbeats 4000000 in
set_option maxRecDepth 100000 in
theorem normal_Sort_r (N : Nat) : ∀ (n : NodeD), sizeOf n < N → ∀ {W w : World} {F : List Atom}  {i : Nat} (hi : F[i]? = some (NodeA n)) (hz : sizeN n ≤ 1048576) (H : St W w F), Calls Try.prog 18 #[.agg #[.int .i64 n.kind.v, .string n.var.v, .string n.typ.v, .slice n.tp n.tests.length n.tc, .slice n.kp n.kids.length n.kc]] w (Ret fun v w' => ∃ r : NodeD, v = .agg #[.int .i64 r.kind.v, .string r.var.v, .string r.typ.v, .slice r.tp r.tests.length r.tc, .slice r.kp r.kids.length r.kc] ∧ eraseN r = sortN n ∧ St W w' (NodeA r :: F)) := by
  induction N with | zero => exact fun n hN => absurd hN (Nat.not_lt_zero _) | succ N ih => ?_
  intro n hN W w F i hi hz H
  have hbd := NodeA.bounds H hi
  have H1 := H.dup (i := i + 0) (by exact hi) (NodeA_pers _)
  have H2 : St W w (NodeA n :: F) := H1
  refine calls_of_go (n := 24) Try.func18 rfl Try.ntmps18 rfl ?_
  refine g_seq ?_
  refine g_region ?_
  refine r_cons (s_box H2 25 (.agg #[.int .i64 n.kind.v, .string n.var.v, .string n.typ.v, .slice n.tp n.tests.length n.tc, .slice n.kp n.kids.length n.kc]) rfl (cs := #[.int .i64 n.kind.v, .string n.var.v, .string n.typ.v, .slice n.tp n.tests.length n.tc, .slice n.kp n.kids.length n.kc]) rfl rfl ?_); intro bk3 w4 H5
  refine r_cons (s_alloc H5 25 ze_25 rfl ?_); intro bk6 w7 H8
  refine r_nil ?_
  refine g_seq ?_
  refine g_region ?_
  refine r_cons (s_loadAgg [.int .i64 n.kind.v, .string n.var.v, .string n.typ.v, .slice n.tp n.tests.length n.tc, .slice n.kp n.kids.length n.kc] 5 ag_25 rfl (H8.blk_at (i := 1) rfl) (Nat.le_of_ble_eq_true rfl) rfl rfl ?_)
  refine r_cons (s_call [.agg #[.int .i64 n.kind.v, .string n.var.v, .string n.typ.v, .slice n.tp n.tests.length n.tc, .slice n.kp n.kids.length n.kc], .func (.func 18) #[] #[]] pl_52 rfl rfl (normal_each_sort n (i := 2) rfl hz (fun x hx _ _ _ _ h1 h2 => ih x (by have h9 := kid_mem_lt hx; omega) h1 (by have h9 := sizeN_mem hx; omega) h2) H8) ?_)
  rintro _ w15 ⟨pp9, cc10, pp11, cc12, C13, rfl, hC14, H16⟩
  refine r_cons (s_storeAgg H16 4 #[.int .i64 n.kind.v, .string n.var.v, .string n.typ.v, .slice pp9 n.tests.length cc10, .slice pp11 C13.length cc12] 5 rfl rfl rfl sz_25 rfl (by simp [Value.oneCell']) (Nat.le_of_ble_eq_true rfl) (fun o h1 h2 => by first | (simp; done) | (simp; omega)) (cs' := #[.int .i64 n.kind.v, .string n.var.v, .string n.typ.v, .slice pp9 n.tests.length cc10, .slice pp11 C13.length cc12]) rfl ?_); intro w17 H18
  refine r_nil ?_
  refine g_seq ?_
  refine g_seq ?_
  refine g_region ?_
  refine r_cons (s_fieldAddr 25 0 0 0 3 rfl fi_25_0 rfl rfl ?_)
  refine r_cons (s_load (.int .i64 n.kind.v) ag_3 rfl (H18.blk_at (i := 4) rfl) rfl rfl ?_)
  by_cases hc19 : n.kind.v = 3
  · skip
    refine r_cons (s_eql true rfl rfl (dtrue hc19) rfl ?_)
    refine r_cons (s_move (.bool true) rfl rfl ?_)
    refine r_cons (r_pass rfl rfl rfl rfl rfl ?_)
    refine r_cons (r_pass rfl rfl rfl rfl rfl ?_)
    refine r_cons (r_pass rfl rfl rfl rfl rfl ?_)
    refine r_cons (s_pick_t (.bool true) rfl rfl rfl ?_)
    refine r_nil ?_
    refine g_true rfl ?_
    refine g_region ?_
    refine r_cons (s_fieldAddr 25 4 4 4 23 rfl fi_25_4 rfl rfl ?_)
    refine r_cons (s_load (.slice pp11 C13.length cc12) ag_23 rfl (H18.blk_at (i := 4) rfl) rfl rfl ?_)
    have hlc9 := res_len hC14
    have H20 : St W w17 (Row 25 5 (.slice pp11 C13.length cc12) C13.length (C13.flatMap nodeCell) :: NodesA C13 :: Im 11 (.slice pp9 n.tests.length cc10) n.tests.length (n.tests.flatMap condCell) :: blk bk6 (.cells #[.int .i64 0, .string ByteArray.empty, .string ByteArray.empty, .slice none 0 0, .slice none 0 0] 25 (0, 0)) :: blk bk3 (.cells #[.int .i64 n.kind.v, .string n.var.v, .string n.typ.v, .slice pp9 n.tests.length cc10, .slice pp11 C13.length cc12] 25 (0, 0)) :: NodeA n :: F) := ((H18.move 2 rfl).move 2 rfl)
    have H21 : St W w17 (DataA 25 pp11 C13.length cc12 C13 :: Im 11 (.slice pp9 n.tests.length cc10) n.tests.length (n.tests.flatMap condCell) :: blk bk6 (.cells #[.int .i64 0, .string ByteArray.empty, .string ByteArray.empty, .slice none 0 0, .slice none 0 0] 25 (0, 0)) :: blk bk3 (.cells #[.int .i64 n.kind.v, .string n.var.v, .string n.typ.v, .slice pp9 n.tests.length cc10, .slice pp11 C13.length cc12] 25 (0, 0)) :: NodeA n :: F) := DataA.make (show C13.length = C13.length from rfl) H20
    refine r_cons (s_call [.slice pp11 C13.length cc12, .func (.func 8) #[] #[]] pl_49 rfl rfl (SortStable_ (p := pp11) (N := C13.length) (c := cc12) C13 (by omega) H21) ?_)
    rintro _ w24 ⟨rfl, K22, hf23, H25⟩
    obtain ⟨hD26, H27⟩ := DataA.open H25
    have H28 : St W w24 (Row 25 5 (.slice pp11 C13.length cc12) C13.length (K22.flatMap nodeCell) :: NodesA K22 :: Im 11 (.slice pp9 n.tests.length cc10) n.tests.length (n.tests.flatMap condCell) :: blk bk6 (.cells #[.int .i64 0, .string ByteArray.empty, .string ByteArray.empty, .slice none 0 0, .slice none 0 0] 25 (0, 0)) :: blk bk3 (.cells #[.int .i64 n.kind.v, .string n.var.v, .string n.typ.v, .slice pp9 n.tests.length cc10, .slice pp11 C13.length cc12] 25 (0, 0)) :: NodeA n :: F) := H27
    refine r_nil ?_
    refine g_seq ?_
    refine g_seq ?_
    refine g_region ?_
    refine r_cons (s_fieldAddr 25 0 0 0 3 rfl fi_25_0 rfl rfl ?_)
    refine r_cons (s_load (.int .i64 n.kind.v) ag_3 rfl (H28.blk_at (i := 4) rfl) rfl rfl ?_)
    refine r_cons (s_eql false rfl rfl (dfalse (by omega)) rfl ?_)
    refine r_nil ?_
    refine g_false rfl ?_
    refine g_skip ?_
    refine g_seq ?_
    refine g_region ?_
    refine r_cons (s_loadAgg [.int .i64 n.kind.v, .string n.var.v, .string n.typ.v, .slice pp9 n.tests.length cc10, .slice pp11 C13.length cc12] 5 ag_25 rfl (H28.blk_at (i := 4) rfl) (Nat.le_of_ble_eq_true rfl) rfl rfl ?_)
    refine r_cons (s_storeAgg H28 3 #[.int .i64 n.kind.v, .string n.var.v, .string n.typ.v, .slice pp9 n.tests.length cc10, .slice pp11 C13.length cc12] 5 rfl rfl rfl sz_25 rfl (by simp [Value.oneCell']) (Nat.le_of_ble_eq_true rfl) (fun o h1 h2 => by first | (simp; done) | (simp; omega)) (cs' := #[.int .i64 n.kind.v, .string n.var.v, .string n.typ.v, .slice pp9 n.tests.length cc10, .slice pp11 C13.length cc12]) rfl ?_); intro w29 H30
    refine r_nil ?_
    refine g_ret' [.agg #[.int .i64 n.kind.v, .string n.var.v, .string n.typ.v, .slice pp9 n.tests.length cc10, .slice pp11 C13.length cc12]] Try.func18 Try.results18 ⟨(res_cellN rfl ag_25 (H30.blk_at (i := 3) rfl) (Nat.le_of_ble_eq_true rfl) rfl), trivial⟩ ?_
    have hlc8 := res_len hC14
    have hkl8 := kids_len n
    have H32 : St W w29 (Row 25 5 (.slice pp11 C13.length cc12) C13.length (K22.flatMap nodeCell) :: NodesA K22 :: Im 11 (.slice pp9 n.tests.length cc10) n.tests.length (n.tests.flatMap condCell) :: F) := ((((((H30.move 2 rfl).move 2 rfl).move 2 rfl).drop 3 rfl).drop 3 rfl).drop 3 rfl)
    have hln9 : C13.length = K22.length := hD26.symm
    have H31 := H32
    rw [hln9] at H31
    have H33 : St W w29 (Row 25 5 (.slice pp11 K22.length cc12) K22.length (K22.flatMap nodeCell) :: NodesA K22 :: Im 11 (.slice pp9 n.tests.length cc10) n.tests.length (n.tests.flatMap condCell) :: F) := H31
    have H34 : St W w29 (Im 5 (.slice pp11 K22.length cc12) K22.length (K22.flatMap nodeCell) :: NodesA K22 :: Im 11 (.slice pp9 n.tests.length cc10) n.tests.length (n.tests.flatMap condCell) :: F) := Row.im H33 (i := 0) rfl
    have H35 : St W w29 (NodeA (NodeD.mk n.kind n.var n.typ pp9 cc10 n.tests pp11 cc12 K22) :: Im 5 (.slice pp11 K22.length cc12) K22.length (K22.flatMap nodeCell) :: NodesA K22 :: Im 11 (.slice pp9 n.tests.length cc10) n.tests.length (n.tests.flatMap condCell) :: F) := NodeA.make (a := 2) (b := 0) (c := 1) (.mk n.kind n.var n.typ pp9 cc10 n.tests pp11 cc12 K22) H34 rfl rfl rfl (by exact ⟨by show n.tests.length * 136 ≤ _; omega, by show K22.length * 88 ≤ _; omega⟩)
    have H36 : St W w29 (NodeA (NodeD.mk n.kind n.var n.typ pp9 cc10 n.tests pp11 cc12 K22) :: F) := (((H35.drop 1 rfl).drop 1 rfl).drop 1 rfl)
    exact ⟨(.mk n.kind n.var n.typ pp9 cc10 n.tests pp11 cc12 K22), by rw [hln9]; rfl, by rw [sortN_eq]; show NodeD.mk _ _ _ _ _ _ _ _ (eraseL K22) = _; rw [eraseL_map, srt_is hf23.2 rfl hf23.1, hC14]; unfold ordK; rw [if_neg (by omega), if_pos (by omega)], H36⟩
  · skip
    refine r_cons (s_eql false rfl rfl (dfalse hc19) rfl ?_)
    refine r_cons (s_move (.bool false) rfl rfl ?_)
    refine r_cons (r_take rfl rfl ?_)
    refine s_fieldAddr 25 0 0 0 3 rfl fi_25_0 rfl rfl ?_
    refine r_cons (r_take rfl rfl ?_)
    refine s_load (.int .i64 n.kind.v) ag_3 rfl (H18.blk_at (i := 4) rfl) rfl rfl ?_
    refine r_cons (r_take rfl rfl ?_)
    by_cases hc37 : n.kind.v = 4
    · skip
      refine s_eql true rfl rfl (dtrue hc37) rfl ?_
      refine r_cons (s_pick_f (.bool true) rfl rfl rfl ?_)
      refine r_nil ?_
      refine g_true rfl ?_
      refine g_region ?_
      refine r_cons (s_fieldAddr 25 4 4 4 23 rfl fi_25_4 rfl rfl ?_)
      refine r_cons (s_load (.slice pp11 C13.length cc12) ag_23 rfl (H18.blk_at (i := 4) rfl) rfl rfl ?_)
      have hlc9 := res_len hC14
      have H38 : St W w17 (Row 25 5 (.slice pp11 C13.length cc12) C13.length (C13.flatMap nodeCell) :: NodesA C13 :: Im 11 (.slice pp9 n.tests.length cc10) n.tests.length (n.tests.flatMap condCell) :: blk bk6 (.cells #[.int .i64 0, .string ByteArray.empty, .string ByteArray.empty, .slice none 0 0, .slice none 0 0] 25 (0, 0)) :: blk bk3 (.cells #[.int .i64 n.kind.v, .string n.var.v, .string n.typ.v, .slice pp9 n.tests.length cc10, .slice pp11 C13.length cc12] 25 (0, 0)) :: NodeA n :: F) := ((H18.move 2 rfl).move 2 rfl)
      have H39 : St W w17 (DataA 25 pp11 C13.length cc12 C13 :: Im 11 (.slice pp9 n.tests.length cc10) n.tests.length (n.tests.flatMap condCell) :: blk bk6 (.cells #[.int .i64 0, .string ByteArray.empty, .string ByteArray.empty, .slice none 0 0, .slice none 0 0] 25 (0, 0)) :: blk bk3 (.cells #[.int .i64 n.kind.v, .string n.var.v, .string n.typ.v, .slice pp9 n.tests.length cc10, .slice pp11 C13.length cc12] 25 (0, 0)) :: NodeA n :: F) := DataA.make (show C13.length = C13.length from rfl) H38
      refine r_cons (s_call [.slice pp11 C13.length cc12, .func (.func 8) #[] #[]] pl_49 rfl rfl (SortStable_ (p := pp11) (N := C13.length) (c := cc12) C13 (by omega) H39) ?_)
      rintro _ w42 ⟨rfl, K40, hf41, H43⟩
      obtain ⟨hD44, H45⟩ := DataA.open H43
      have H46 : St W w42 (Row 25 5 (.slice pp11 C13.length cc12) C13.length (K40.flatMap nodeCell) :: NodesA K40 :: Im 11 (.slice pp9 n.tests.length cc10) n.tests.length (n.tests.flatMap condCell) :: blk bk6 (.cells #[.int .i64 0, .string ByteArray.empty, .string ByteArray.empty, .slice none 0 0, .slice none 0 0] 25 (0, 0)) :: blk bk3 (.cells #[.int .i64 n.kind.v, .string n.var.v, .string n.typ.v, .slice pp9 n.tests.length cc10, .slice pp11 C13.length cc12] 25 (0, 0)) :: NodeA n :: F) := H45
      refine r_nil ?_
      refine g_seq ?_
      refine g_seq ?_
      refine g_region ?_
      refine r_cons (s_fieldAddr 25 0 0 0 3 rfl fi_25_0 rfl rfl ?_)
      refine r_cons (s_load (.int .i64 n.kind.v) ag_3 rfl (H46.blk_at (i := 4) rfl) rfl rfl ?_)
      refine r_cons (s_eql true rfl rfl (dtrue (by omega)) rfl ?_)
      refine r_nil ?_
      refine g_true rfl ?_
      refine g_region ?_
      refine r_cons (s_fieldAddr 25 4 4 4 23 rfl fi_25_4 rfl rfl ?_)
      refine r_cons (s_load (.slice pp11 C13.length cc12) ag_23 rfl (H46.blk_at (i := 4) rfl) rfl rfl ?_)
      have hlc9 := res_len hC14
      have H47 : St W w42 (DataA 25 pp11 C13.length cc12 K40 :: Im 11 (.slice pp9 n.tests.length cc10) n.tests.length (n.tests.flatMap condCell) :: blk bk6 (.cells #[.int .i64 0, .string ByteArray.empty, .string ByteArray.empty, .slice none 0 0, .slice none 0 0] 25 (0, 0)) :: blk bk3 (.cells #[.int .i64 n.kind.v, .string n.var.v, .string n.typ.v, .slice pp9 n.tests.length cc10, .slice pp11 C13.length cc12] 25 (0, 0)) :: NodeA n :: F) := DataA.make (show K40.length = C13.length from hD44) H46
      refine r_cons (s_call [.slice pp11 C13.length cc12] pl_50 rfl rfl (once_ (p := pp11) (N := C13.length) (c := cc12) K40 (by omega) H47) ?_)
      rintro _ w48 ⟨rfl, H49⟩
      have H50 := (DataA.open H49).2
      have H51 : St W w48 (Row 25 5 (.slice pp11 ((compact K40).length) cc12) ((compact K40).length) ((compact K40).flatMap nodeCell) :: NodesA (compact K40) :: Im 11 (.slice pp9 n.tests.length cc10) n.tests.length (n.tests.flatMap condCell) :: blk bk6 (.cells #[.int .i64 0, .string ByteArray.empty, .string ByteArray.empty, .slice none 0 0, .slice none 0 0] 25 (0, 0)) :: blk bk3 (.cells #[.int .i64 n.kind.v, .string n.var.v, .string n.typ.v, .slice pp9 n.tests.length cc10, .slice pp11 C13.length cc12] 25 (0, 0)) :: NodeA n :: F) := H50
      refine r_cons (s_fieldAddr 25 4 4 4 23 rfl fi_25_4 rfl rfl ?_)
      refine r_cons (s_store H51 4 (.slice pp11 ((compact K40).length) cc12) rfl rfl rfl sz_23 rfl (Nat.le_of_ble_eq_true rfl) rfl (cs' := #[.int .i64 n.kind.v, .string n.var.v, .string n.typ.v, .slice pp9 n.tests.length cc10, .slice pp11 ((compact K40).length) cc12]) rfl ?_); intro w52 H53
      refine r_nil ?_
      refine g_seq ?_
      refine g_region ?_
      refine r_cons (s_loadAgg [.int .i64 n.kind.v, .string n.var.v, .string n.typ.v, .slice pp9 n.tests.length cc10, .slice pp11 ((compact K40).length) cc12] 5 ag_25 rfl (H53.blk_at (i := 4) rfl) (Nat.le_of_ble_eq_true rfl) rfl rfl ?_)
      refine r_cons (s_storeAgg H53 3 #[.int .i64 n.kind.v, .string n.var.v, .string n.typ.v, .slice pp9 n.tests.length cc10, .slice pp11 ((compact K40).length) cc12] 5 rfl rfl rfl sz_25 rfl (by simp [Value.oneCell']) (Nat.le_of_ble_eq_true rfl) (fun o h1 h2 => by first | (simp; done) | (simp; omega)) (cs' := #[.int .i64 n.kind.v, .string n.var.v, .string n.typ.v, .slice pp9 n.tests.length cc10, .slice pp11 ((compact K40).length) cc12]) rfl ?_); intro w54 H55
      refine r_nil ?_
      refine g_ret' [.agg #[.int .i64 n.kind.v, .string n.var.v, .string n.typ.v, .slice pp9 n.tests.length cc10, .slice pp11 ((compact K40).length) cc12]] Try.func18 Try.results18 ⟨(res_cellN rfl ag_25 (H55.blk_at (i := 3) rfl) (Nat.le_of_ble_eq_true rfl) rfl), trivial⟩ ?_
      have hlc8 := res_len hC14
      have hkl8 := kids_len n
      have hcl8 := compact_len K40
      have H56 : St W w54 (Im 5 (.slice pp11 ((compact K40).length) cc12) ((compact K40).length) ((compact K40).flatMap nodeCell) :: NodesA (compact K40) :: Im 11 (.slice pp9 n.tests.length cc10) n.tests.length (n.tests.flatMap condCell) :: blk bk6 (.cells #[.int .i64 n.kind.v, .string n.var.v, .string n.typ.v, .slice pp9 n.tests.length cc10, .slice pp11 ((compact K40).length) cc12] 25 (0, 0)) :: blk bk3 (.cells #[.int .i64 n.kind.v, .string n.var.v, .string n.typ.v, .slice pp9 n.tests.length cc10, .slice pp11 ((compact K40).length) cc12] 25 (0, 0)) :: NodeA n :: F) := Row.im H55 (i := 0) rfl
      have H57 : St W w54 (NodeA (NodeD.mk n.kind n.var n.typ pp9 cc10 n.tests pp11 cc12 (compact K40)) :: Im 5 (.slice pp11 ((compact K40).length) cc12) ((compact K40).length) ((compact K40).flatMap nodeCell) :: NodesA (compact K40) :: Im 11 (.slice pp9 n.tests.length cc10) n.tests.length (n.tests.flatMap condCell) :: blk bk6 (.cells #[.int .i64 n.kind.v, .string n.var.v, .string n.typ.v, .slice pp9 n.tests.length cc10, .slice pp11 ((compact K40).length) cc12] 25 (0, 0)) :: blk bk3 (.cells #[.int .i64 n.kind.v, .string n.var.v, .string n.typ.v, .slice pp9 n.tests.length cc10, .slice pp11 ((compact K40).length) cc12] 25 (0, 0)) :: NodeA n :: F) := NodeA.make (a := 2) (b := 0) (c := 1) (.mk n.kind n.var n.typ pp9 cc10 n.tests pp11 cc12 (compact K40)) H56 rfl rfl rfl (by exact ⟨by show n.tests.length * 136 ≤ _; omega, by show (compact K40).length * 88 ≤ _; omega⟩)
      have H58 : St W w54 (NodeA (NodeD.mk n.kind n.var n.typ pp9 cc10 n.tests pp11 cc12 (compact K40)) :: F) := ((((((H57.drop 1 rfl).drop 1 rfl).drop 1 rfl).drop 1 rfl).drop 1 rfl).drop 1 rfl)
      exact ⟨(.mk n.kind n.var n.typ pp9 cc10 n.tests pp11 cc12 (compact K40)), rfl, by rw [sortN_eq]; show NodeD.mk _ _ _ _ _ _ _ _ (eraseL (compact K40)) = _; rw [eraseL_map, ← compact_erase, srt_is hf41.2 rfl hf41.1, hC14]; unfold ordK uniqL; rw [if_pos (by omega)], H58⟩
    · skip
      refine s_eql false rfl rfl (dfalse hc37) rfl ?_
      refine r_cons (s_pick_f (.bool false) rfl rfl rfl ?_)
      refine r_nil ?_
      refine g_false rfl ?_
      refine g_skip ?_
      refine g_seq ?_
      refine g_seq ?_
      refine g_region ?_
      refine r_cons (s_fieldAddr 25 0 0 0 3 rfl fi_25_0 rfl rfl ?_)
      refine r_cons (s_load (.int .i64 n.kind.v) ag_3 rfl (H18.blk_at (i := 4) rfl) rfl rfl ?_)
      refine r_cons (s_eql false rfl rfl (dfalse (by omega)) rfl ?_)
      refine r_nil ?_
      refine g_false rfl ?_
      refine g_skip ?_
      refine g_seq ?_
      refine g_region ?_
      refine r_cons (s_loadAgg [.int .i64 n.kind.v, .string n.var.v, .string n.typ.v, .slice pp9 n.tests.length cc10, .slice pp11 C13.length cc12] 5 ag_25 rfl (H18.blk_at (i := 4) rfl) (Nat.le_of_ble_eq_true rfl) rfl rfl ?_)
      refine r_cons (s_storeAgg H18 3 #[.int .i64 n.kind.v, .string n.var.v, .string n.typ.v, .slice pp9 n.tests.length cc10, .slice pp11 C13.length cc12] 5 rfl rfl rfl sz_25 rfl (by simp [Value.oneCell']) (Nat.le_of_ble_eq_true rfl) (fun o h1 h2 => by first | (simp; done) | (simp; omega)) (cs' := #[.int .i64 n.kind.v, .string n.var.v, .string n.typ.v, .slice pp9 n.tests.length cc10, .slice pp11 C13.length cc12]) rfl ?_); intro w59 H60
      refine r_nil ?_
      refine g_ret' [.agg #[.int .i64 n.kind.v, .string n.var.v, .string n.typ.v, .slice pp9 n.tests.length cc10, .slice pp11 C13.length cc12]] Try.func18 Try.results18 ⟨(res_cellN rfl ag_25 (H60.blk_at (i := 3) rfl) (Nat.le_of_ble_eq_true rfl) rfl), trivial⟩ ?_
      have hlc8 := res_len hC14
      have hkl8 := kids_len n
      have H61 : St W w59 (Im 11 (.slice pp9 n.tests.length cc10) n.tests.length (n.tests.flatMap condCell) :: Im 5 (.slice pp11 C13.length cc12) C13.length (C13.flatMap nodeCell) :: NodesA C13 :: blk bk6 (.cells #[.int .i64 n.kind.v, .string n.var.v, .string n.typ.v, .slice pp9 n.tests.length cc10, .slice pp11 C13.length cc12] 25 (0, 0)) :: blk bk3 (.cells #[.int .i64 n.kind.v, .string n.var.v, .string n.typ.v, .slice pp9 n.tests.length cc10, .slice pp11 C13.length cc12] 25 (0, 0)) :: NodeA n :: F) := Row.im H60 (i := 1) rfl
      have H62 : St W w59 (NodeA (NodeD.mk n.kind n.var n.typ pp9 cc10 n.tests pp11 cc12 C13) :: Im 11 (.slice pp9 n.tests.length cc10) n.tests.length (n.tests.flatMap condCell) :: Im 5 (.slice pp11 C13.length cc12) C13.length (C13.flatMap nodeCell) :: NodesA C13 :: blk bk6 (.cells #[.int .i64 n.kind.v, .string n.var.v, .string n.typ.v, .slice pp9 n.tests.length cc10, .slice pp11 C13.length cc12] 25 (0, 0)) :: blk bk3 (.cells #[.int .i64 n.kind.v, .string n.var.v, .string n.typ.v, .slice pp9 n.tests.length cc10, .slice pp11 C13.length cc12] 25 (0, 0)) :: NodeA n :: F) := NodeA.make (a := 0) (b := 1) (c := 2) (.mk n.kind n.var n.typ pp9 cc10 n.tests pp11 cc12 C13) H61 rfl rfl rfl (by exact ⟨by show n.tests.length * 136 ≤ _; omega, by show C13.length * 88 ≤ _; omega⟩)
      have H63 : St W w59 (NodeA (NodeD.mk n.kind n.var n.typ pp9 cc10 n.tests pp11 cc12 C13) :: F) := ((((((H62.drop 1 rfl).drop 1 rfl).drop 1 rfl).drop 1 rfl).drop 1 rfl).drop 1 rfl)
      exact ⟨(.mk n.kind n.var n.typ pp9 cc10 n.tests pp11 cc12 C13), rfl, by rw [sortN_eq]; show NodeD.mk _ _ _ _ _ _ _ _ (eraseL C13) = _; rw [eraseL_map, hC14]; unfold ordK; rw [if_neg (by omega), if_neg (by omega)], H63⟩
theorem normal_Sort {W w : World} {F : List Atom} (n : NodeD)  {i : Nat} (hi : F[i]? = some (NodeA n)) (hz : sizeN n ≤ 1048576) (H : St W w F) : Calls Try.prog 18 #[.agg #[.int .i64 n.kind.v, .string n.var.v, .string n.typ.v, .slice n.tp n.tests.length n.tc, .slice n.kp n.kids.length n.kc]] w (Ret fun v w' => ∃ r : NodeD, v = .agg #[.int .i64 r.kind.v, .string r.var.v, .string r.typ.v, .slice r.tp r.tests.length r.tc, .slice r.kp r.kids.length r.kc] ∧ eraseN r = sortN n ∧ St W w' (NodeA r :: F)) := normal_Sort_r (sizeOf n + 1) n (Nat.lt_succ_self _) hi hz H
end Sl
