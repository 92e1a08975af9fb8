/- Walks of the program's functions. Printed by a program of this claim's author. No condition. -/
import Derived.Test.YtfflafpcpbeciaaSlCP
import Derived.Test.YtfflafpcpbeciaaSlQ
import Derived.Test.YtfflafpcpbeciaaProg
namespace Sl
open _root_.Go _root_.Go.RowKit _root_.Go.Proofs
set_option linter.all false
theorem fi_42_0 : fieldOff Try.prog 42 0 = some (0, 3) := by kernel_rfl
theorem ag_3 : isAggB Try.prog 3 = false ∧ (Try.prog.underlying 3).isSome = true := ⟨by kernel_rfl, by kernel_rfl⟩
theorem fi_42_2 : fieldOff Try.prog 42 2 = some (2, 9) := by kernel_rfl
theorem ag_9 : isAggB Try.prog 9 = false ∧ (Try.prog.underlying 9).isSome = true := ⟨by kernel_rfl, by kernel_rfl⟩
theorem fi_42_1 : fieldOff Try.prog 42 1 = some (1, 2) := by kernel_rfl
theorem ag_2 : isAggB Try.prog 2 = false ∧ (Try.prog.underlying 2).isSome = true := ⟨by kernel_rfl, by kernel_rfl⟩
theorem fi_25_4 : fieldOff Try.prog 25 4 = some (4, 23) := by kernel_rfl
theorem ag_23 : isAggB Try.prog 23 = false ∧ (Try.prog.underlying 23).isSome = true := ⟨by kernel_rfl, by kernel_rfl⟩
theorem un_23 : Try.prog.underlying 23 = some (.slice 25) := by kernel_rfl
theorem el_23 : elemSize Try.prog 23 = some (25, 5) := by kernel_rfl
theorem ag_25 : isAggB Try.prog 25 = true ∧ (Try.prog.info? 25).map (·.size) = some 5 := ⟨by kernel_rfl, by kernel_rfl⟩
theorem ze_25 : zeroOf Try.prog 25 = some #[.int .i64 0, .string ByteArray.empty, .string ByteArray.empty, .slice none 0 0, .slice none 0 0] := by kernel_rfl
theorem sz_25 : (Try.prog.info? 25).map (·.size) = some 5 := by kernel_rfl
theorem pl_53 : plainFn Try.prog 53 = true := by kernel_rfl
theorem fi_25_0 : fieldOff Try.prog 25 0 = some (0, 3) := by kernel_rfl
theorem pl_61 : plainFn Try.prog 61 = true := by kernel_rfl
theorem pl_80 : plainFn Try.prog 80 = true := by kernel_rfl
theorem pl_62 : plainFn Try.prog 62 = true := by kernel_rfl
theorem un_69 : Try.prog.underlying 69 = some (.slice 3) := by kernel_rfl
theorem el_69 : elemSize Try.prog 69 = some (3, 1) := by kernel_rfl
theorem mixed : Try.prog.follows .mixedOrders = true := by kernel_rfl
theorem fi_44_0 : fieldOff Try.prog 44 0 = some (0, 9) := by kernel_rfl
theorem pl_35 : plainFn Try.prog 35 = true := by kernel_rfl
theorem fi_44_1 : fieldOff Try.prog 44 1 = some (1, 9) := by kernel_rfl
theorem fi_44_2 : fieldOff Try.prog 44 2 = some (2, 42) := by kernel_rfl
theorem pl_34 : plainFn Try.prog 34 = true := by kernel_rfl
theorem pl_74 : plainFn Try.prog 74 = true := by kernel_rfl
theorem ze_3 : zeroOf Try.prog 3 = some #[.int .i64 0] := by kernel_rfl
theorem pl_33 : plainFn Try.prog 33 = true := by kernel_rfl
theorem pl_42 : plainFn Try.prog 42 = true := by kernel_rfl
theorem pl_41 : plainFn Try.prog 41 = true := by kernel_rfl
theorem pl_40 : plainFn Try.prog 40 = true := by kernel_rfl
theorem fi_46_0 : fieldOff Try.prog 46 0 = some (0, 44) := by kernel_rfl
theorem ag_44 : isAggB Try.prog 44 = true ∧ (Try.prog.info? 44).map (·.size) = some 5 := ⟨by kernel_rfl, by kernel_rfl⟩
theorem pl_63 : plainFn Try.prog 63 = true := by kernel_rfl
theorem fi_46_1 : fieldOff Try.prog 46 1 = some (5, 3) := by kernel_rfl
theorem fi_46_2 : fieldOff Try.prog 46 2 = some (6, 44) := by kernel_rfl
theorem un_22 : Try.prog.underlying 22 = some (.slice 46) := by kernel_rfl
theorem el_22 : elemSize Try.prog 22 = some (46, 11) := by kernel_rfl
theorem ag_46 : isAggB Try.prog 46 = true ∧ (Try.prog.info? 46).map (·.size) = some 11 := ⟨by kernel_rfl, by kernel_rfl⟩
theorem ze_46 : zeroOf Try.prog 46 = some #[.string ByteArray.empty, .string ByteArray.empty, .int .i64 0, .int .i64 0, .string ByteArray.empty, .int .i64 0, .string ByteArray.empty, .string ByteArray.empty, .int .i64 0, .int .i64 0, .string ByteArray.empty] := by kernel_rfl
theorem sz_46 : (Try.prog.info? 46).map (·.size) = some 11 := by kernel_rfl
theorem pl_37 : plainFn Try.prog 37 = true := by kernel_rfl
theorem pl_64 : plainFn Try.prog 64 = true := by kernel_rfl
theorem pl_8 : plainFn Try.prog 8 = true := by kernel_rfl
theorem fi_25_2 : fieldOff Try.prog 25 2 = some (2, 9) := by kernel_rfl
theorem fi_25_1 : fieldOff Try.prog 25 1 = some (1, 9) := by kernel_rfl
theorem fi_25_3 : fieldOff Try.prog 25 3 = some (3, 22) := by kernel_rfl
theorem ag_22 : isAggB Try.prog 22 = false ∧ (Try.prog.underlying 22).isSome = true := ⟨by kernel_rfl, by kernel_rfl⟩
theorem pl_36 : plainFn Try.prog 36 = true := by kernel_rfl
theorem pl_38 : plainFn Try.prog 38 = true := by kernel_rfl
theorem pl_43 : plainFn Try.prog 43 = true := by kernel_rfl
theorem pl_10 : plainFn Try.prog 10 = true := by kernel_rfl
theorem pl_83 : plainFn Try.prog 83 = true := by kernel_rfl
theorem us_3 : (Try.prog.underlying 3).isSome = true := by kernel_rfl
theorem ik_96 : intKind Try.prog 96 = some .u64 := by kernel_rfl
theorem us_96 : (Try.prog.underlying 96).isSome = true := by kernel_rfl
theorem ik_3 : intKind Try.prog 3 = some .i64 := by kernel_rfl
theorem pl_82 : plainFn Try.prog 82 = true := by kernel_rfl
theorem pl_78 : plainFn Try.prog 78 = true := by kernel_rfl
theorem pl_77 : plainFn Try.prog 77 = true := by kernel_rfl
theorem pl_67 : plainFn Try.prog 67 = true := by kernel_rfl
theorem pl_69 : plainFn Try.prog 69 = true := by kernel_rfl
theorem in_25 : (Try.prog.info? 25).map (fun i => (i.zero, i.size, i.bytes)) = some (some (.agg #[.int .i64 0, .string ByteArray.empty, .string ByteArray.empty, .slice none 0 0, .slice none 0 0]), 5, 88) := by kernel_rfl
theorem pl_68 : plainFn Try.prog 68 = true := by kernel_rfl
theorem in_46 : (Try.prog.info? 46).map (fun i => (i.zero, i.size, i.bytes)) = some (some (.agg #[.string ByteArray.empty, .string ByteArray.empty, .int .i64 0, .int .i64 0, .string ByteArray.empty, .int .i64 0, .string ByteArray.empty, .string ByteArray.empty, .int .i64 0, .int .i64 0, .string ByteArray.empty]), 11, 136) := by kernel_rfl
theorem ap_22 : appInfo Try.prog 22 46 11 136 11 := appInfo_mk un_22 in_46 rfl
theorem ap_23 : appInfo Try.prog 23 25 5 88 5 := appInfo_mk un_23 in_25 rfl
theorem pl_79 : plainFn Try.prog 79 = true := by kernel_rfl
theorem sz_22 : (Try.prog.info? 22).map (·.size) = some 1 := by kernel_rfl
theorem sz_23 : (Try.prog.info? 23).map (·.size) = some 1 := by kernel_rfl
theorem pl_17 : plainFn Try.prog 17 = true := by kernel_rfl
theorem pl_70 : plainFn Try.prog 70 = true := by kernel_rfl
theorem pl_52 : plainFn Try.prog 52 = true := by kernel_rfl
theorem pl_18 : plainFn Try.prog 18 = true := by kernel_rfl
theorem pl_49 : plainFn Try.prog 49 = true := by kernel_rfl
theorem pl_50 : plainFn Try.prog 50 = true := by kernel_rfl
theorem un_86 : Try.prog.underlying 86 = some (.slice 23) := by kernel_rfl
theorem pl_48 : plainFn Try.prog 48 = true := by kernel_rfl
theorem pl_72 : plainFn Try.prog 72 = true := by kernel_rfl
theorem el_86 : elemSize Try.prog 86 = some (23, 1) := by kernel_rfl
theorem pl_71 : plainFn Try.prog 71 = true := by kernel_rfl
theorem ze_23 : zeroOf Try.prog 23 = some #[.slice none 0 0] := by kernel_rfl
theorem pl_54 : plainFn Try.prog 54 = true := by kernel_rfl
theorem in_23 : (Try.prog.info? 23).map (fun i => (i.zero, i.size, i.bytes)) = some (some (.slice none 0 0), 1, 24) := by kernel_rfl
theorem ap_86 : appInfo Try.prog 86 23 1 24 1 := appInfo_mk un_86 in_23 rfl
theorem pl_19 : plainFn Try.prog 19 = true := by kernel_rfl
theorem pl_39 : plainFn Try.prog 39 = true := by kernel_rfl
theorem pl_13 : plainFn Try.prog 13 = true := by kernel_rfl
theorem pl_9 : plainFn Try.prog 9 = true := by kernel_rfl
set_option maxHeartbeats 4000000 in
set_option maxRecDepth 100000 in
theorem check_Alts_r (N : Nat) : ∀ (n : NodeD), sizeOf n < N → ∀ {W w : World} {F : List Atom}  {i : Nat} (hi : F[i]? = some (NodeA n)) (H : St W w F), Calls Try.prog 53 #[.agg #[.int .i64 n.kind.v, .string n.var.v, .string n.typ.v, .slice n.tp n.tests.length n.tc, .slice n.kp n.kids.length n.kc]] w (Ret fun v w' => v = .int .i64 (altsN n) ∧ St W w' F) := by
  induction N with | zero => exact fun n hN => absurd hN (Nat.not_lt_zero _) | succ N ih => ?_
  intro n hN W w F i hi H
  have H1 := NodeA.kids H (i := i + 0) (by exact hi)
  have H2 : St W w (Im 5 (.slice n.kp n.kids.length n.kc) n.kids.length (n.kids.flatMap nodeCell) :: NodesA n.kids :: F) := H1
  refine calls_of_go (n := 35) Try.func53 rfl Try.ntmps53 rfl ?_
  refine g_seq ?_
  refine g_region ?_
  refine r_cons (s_box H2 25 (.agg #[.int .i64 n.kind.v, .string n.var.v, .string n.typ.v, .slice n.tp n.tests.length n.tc, .slice n.kp n.kids.length n.kc]) rfl (cs := #[.int .i64 n.kind.v, .string n.var.v, .string n.typ.v, .slice n.tp n.tests.length n.tc, .slice n.kp n.kids.length n.kc]) rfl rfl ?_); intro bk3 w4 H5
  refine r_cons (s_assign (.int .i64 0) rfl rfl ?_)
  refine r_nil ?_
  refine g_seq ?_
  refine g_seq ?_
  refine g_region ?_
  refine r_cons (s_fieldAddr 25 4 4 4 23 rfl fi_25_4 rfl rfl ?_)
  refine r_cons (s_load (.slice n.kp n.kids.length n.kc) ag_23 rfl (H5.blk_at (i := 0) rfl) rfl rfl ?_)
  refine r_cons (s_len n.kids.length rfl ⟨_, un_23⟩ rfl ?_)
  by_cases hc6 : (n.kids.length : Int) = 0
  · skip
    refine r_cons (s_eql true rfl rfl (dtrue hc6) rfl ?_)
    refine r_nil ?_
    refine g_true rfl ?_
    refine g_seq ?_
    refine g_region ?_
    refine r_cons (s_assign (.int .i64 1) rfl rfl ?_)
    refine r_nil ?_
    refine g_ret' [.int .i64 1] Try.func53 Try.results53 ⟨rfl, trivial⟩ ?_
    have H7 : St W w4 F := (((H5.drop 0 rfl).drop 0 rfl).drop 0 rfl)
    exact ⟨vint (by rw [altsN_eq, if_pos (by rw [List.isEmpty_iff]; exact List.eq_nil_of_length_eq_zero (by omega))]), H7⟩
  · skip
    refine r_cons (s_eql false rfl rfl (dfalse hc6) rfl ?_)
    refine r_nil ?_
    refine g_false rfl ?_
    refine g_skip ?_
    refine g_seq ?_
    refine g_region ?_
    refine r_cons (s_assign (.int .i64 0) rfl rfl ?_)
    refine r_cons (s_assign (.int .i64 1) rfl rfl ?_)
    refine r_nil ?_
    refine g_seq ?_
    refine g_seq ?_
    refine g_region ?_
    refine r_cons (s_fieldAddr 25 4 4 4 23 rfl fi_25_4 rfl rfl ?_)
    refine r_cons (s_load (.slice n.kp n.kids.length n.kc) ag_23 rfl (H5.blk_at (i := 0) rfl) rfl rfl ?_)
    refine r_cons (s_len n.kids.length rfl ⟨_, un_23⟩ rfl ?_)
    refine r_cons (s_move (.int .i64 0) rfl rfl ?_)
    refine r_nil ?_
    refine g_block ?_
    obtain ⟨pA8, cA9, gA10, oA11, kA12, eA13, zA14, he20, hn15, hp16, hx17, hs18, hml, H19⟩ := Im.open_ H5 (i := 1) rfl
    obtain ⟨rfl, rfl⟩ : n.kp = pA8 ∧ n.kc = cA9 := by injection he20 with a_ b_ c_; exact ⟨a_, c_⟩
    have H21 : St W w4 (imi (0 < n.kids.length) gA10 (.cells kA12 eA13 zA14) :: blk bk3 (.cells #[.int .i64 n.kind.v, .string n.var.v, .string n.typ.v, .slice n.tp n.tests.length n.tc, .slice n.kp n.kids.length n.kc] 25 (0, 0)) :: Im 5 (.slice n.kp n.kids.length n.kc) n.kids.length (n.kids.flatMap nodeCell) :: NodesA n.kids :: F) := ((((H19.move 3 rfl).move 3 rfl).move 3 rfl).move 3 rfl)
    refine g_loop_inv (fun (x_ : Nat) => match x_ with | j => [(1, .pointer (some ⟨bk3, 0, none⟩)), (2, .int .i64 0), (3, .int .i64 ((n.kids.take j).foldl (fun s k => min (s + altsN k) 65) 0)), (4, .int .i64 ((n.kids.take j).foldl (fun s k => min (s * altsN k) 65) 1)), (13, .slice n.kp n.kids.length n.kc), (14, .int .i64 (n.kids.length : Int)), (15, .int .i64 (j : Int))]) (fun (x_ : Nat) w => match x_ with | j => (j ≤ n.kids.length) ∧ St W w (imi (0 < n.kids.length) gA10 (.cells kA12 eA13 zA14) :: blk bk3 (.cells #[.int .i64 n.kind.v, .string n.var.v, .string n.typ.v, .slice n.tp n.tests.length n.tc, .slice n.kp n.kids.length n.kc] 25 (0, 0)) :: Im 5 (.slice n.kp n.kids.length n.kc) n.kids.length (n.kids.flatMap nodeCell) :: NodesA n.kids :: F)) (fun (x_ : Nat) => match x_ with | j => n.kids.length - j) (0) ?_ ?_ ?_
    · exact ⟨by first | rfl | exact vint (by omega), by first | rfl | exact vint (by omega), by first | rfl | exact vint (by omega), by first | rfl | exact vint (by omega), by first | rfl | exact vint (by omega), by first | rfl | exact vint (by omega), by first | rfl | exact vint (by omega), trivial⟩
    · exact ⟨(by omega), H21⟩
    · rintro j ρ22 w23 ⟨hjl, H24⟩ nx25
      change Ends _ _ (upds ρ22 [(1, .pointer (some ⟨bk3, 0, none⟩)), (2, .int .i64 0), (3, .int .i64 ((n.kids.take j).foldl (fun s k => min (s + altsN k) 65) 0)), (4, .int .i64 ((n.kids.take j).foldl (fun s k => min (s * altsN k) 65) 1)), (13, .slice n.kp n.kids.length n.kc), (14, .int .i64 (n.kids.length : Int)), (15, .int .i64 (j : Int))]) w23
      refine g_seq ?_
      refine g_region ?_
      by_cases hc26 : (j : Int) < (n.kids.length : Int)
      · skip
        refine r_cons (s_lss true rfl rfl (dtrue hc26) rfl ?_)
        refine r_nil ?_
        refine g_seq ?_
        refine g_true rfl ?_
        refine g_skip ?_
        refine g_seq ?_
        refine g_block ?_
        refine g_seq ?_
        refine g_region ?_
        refine r_cons (s_indexAddr gA10 (off := oA11) (j : Int) 5 (oA11 + j * 5) (by exact congrArg (fun z_ => Value.slice z_ n.kids.length n.kc) (hp16 (by omega))) rfl el_23 (by omega) rfl rfl ?_)
        refine r_cons (s_loadAgg [.int .i64 ((n.kids.getD j default).kind.v), .string ((n.kids.getD j default).var.v), .string ((n.kids.getD j default).typ.v), .slice ((n.kids.getD j default).tp) ((n.kids.getD j default).tests.length) ((n.kids.getD j default).tc), .slice ((n.kids.getD j default).kp) ((n.kids.getD j default).kids.length) ((n.kids.getD j default).kc)] 5 ag_25 rfl (H24.imi_at (i := 0) rfl (by omega)) (by have := elem_size (i := j) (s := 5) (hs18 (by omega)) (by omega); omega) (elem_take nodeCell_len (hx17 (by omega)) (by omega) default) rfl ?_)
        refine r_cons (s_alloc H24 25 ze_25 rfl ?_); intro bk27 w28 H29
        refine r_cons (s_storeAgg H29 0 #[.int .i64 ((n.kids.getD j default).kind.v), .string ((n.kids.getD j default).var.v), .string ((n.kids.getD j default).typ.v), .slice ((n.kids.getD j default).tp) ((n.kids.getD j default).tests.length) ((n.kids.getD j default).tc), .slice ((n.kids.getD j default).kp) ((n.kids.getD j default).kids.length) ((n.kids.getD j default).kc)] 5 rfl rfl rfl sz_25 rfl (by simp [Value.oneCell']) (Nat.le_of_ble_eq_true rfl) (fun o h1 h2 => by first | (simp; done) | (simp; omega)) (cs' := #[.int .i64 ((n.kids.getD j default).kind.v), .string ((n.kids.getD j default).var.v), .string ((n.kids.getD j default).typ.v), .slice ((n.kids.getD j default).tp) ((n.kids.getD j default).tests.length) ((n.kids.getD j default).tc), .slice ((n.kids.getD j default).kp) ((n.kids.getD j default).kids.length) ((n.kids.getD j default).kc)]) rfl ?_); intro w30 H31
        refine r_nil ?_
        refine g_seq ?_
        refine g_region ?_
        refine r_cons (s_loadAgg [.int .i64 ((n.kids.getD j default).kind.v), .string ((n.kids.getD j default).var.v), .string ((n.kids.getD j default).typ.v), .slice ((n.kids.getD j default).tp) ((n.kids.getD j default).tests.length) ((n.kids.getD j default).tc), .slice ((n.kids.getD j default).kp) ((n.kids.getD j default).kids.length) ((n.kids.getD j default).kc)] 5 ag_25 rfl (H31.blk_at (i := 0) rfl) (Nat.le_of_ble_eq_true rfl) rfl rfl ?_)
        have H32 := NodesA.at H31 (i := 4) rfl (j := j) (by omega)
        refine r_cons (s_call [.agg #[.int .i64 ((n.kids.getD j default).kind.v), .string ((n.kids.getD j default).var.v), .string ((n.kids.getD j default).typ.v), .slice ((n.kids.getD j default).tp) ((n.kids.getD j default).tests.length) ((n.kids.getD j default).tc), .slice ((n.kids.getD j default).kp) ((n.kids.getD j default).kids.length) ((n.kids.getD j default).kc)]] pl_53 rfl rfl (ih (n.kids.getD j default) (by have h9 := kid_lt (n := n) (j := j) (by omega); omega) (i := 0) rfl H32) ?_)
        rintro _ w33 ⟨rfl, H34⟩
        refine r_cons (s_assign (.int .i64 (altsN (n.kids.getD j default))) rfl rfl ?_)
        refine r_nil ?_
        refine g_seq ?_
        refine g_region ?_
        refine r_cons (s_move (.int .i64 ((n.kids.take j).foldl (fun s k => min (s + altsN k) 65) 0)) rfl rfl ?_)
        refine r_cons (s_move (.int .i64 (altsN (n.kids.getD j default))) rfl rfl ?_)
        have ha9 := altsN_range (n.kids.getD j default)
        have hs9 := sum_range (n.kids.take j)
        have hp9 := prod_range (n.kids.take j)
        refine r_cons (s_add ((n.kids.take j).foldl (fun s k => min (s + altsN k) 65) 0 + (altsN (n.kids.getD j default))) rfl rfl (wi64 (by omega)) rfl ?_)
        refine r_cons (s_min2 (min ((n.kids.take j).foldl (fun s k => min (s + altsN k) 65) 0 + (altsN (n.kids.getD j default))) 65) rfl rfl (by split <;> omega) rfl ?_)
        refine r_cons (s_assign (.int .i64 (min ((n.kids.take j).foldl (fun s k => min (s + altsN k) 65) 0 + (altsN (n.kids.getD j default))) 65)) rfl rfl ?_)
        refine r_nil ?_
        refine g_region ?_
        refine r_cons (s_move (.int .i64 ((n.kids.take j).foldl (fun s k => min (s * altsN k) 65) 1)) rfl rfl ?_)
        refine r_cons (s_move (.int .i64 (altsN (n.kids.getD j default))) rfl rfl ?_)
        have ha9 := altsN_range (n.kids.getD j default)
        have hs9 := sum_range (n.kids.take j)
        have hp9 := prod_range (n.kids.take j)
        have hm9 := mul_65 hp9.1 hp9.2 ha9.1 ha9.2
        refine r_cons (s_mul (((n.kids.take j).foldl (fun s k => min (s * altsN k) 65) 1) * (altsN (n.kids.getD j default))) rfl rfl (wi64 (by omega)) rfl ?_)
        refine r_cons (s_min2 (min (((n.kids.take j).foldl (fun s k => min (s * altsN k) 65) 1) * (altsN (n.kids.getD j default))) 65) rfl rfl (by split <;> omega) rfl ?_)
        refine r_cons (s_assign (.int .i64 (min (((n.kids.take j).foldl (fun s k => min (s * altsN k) 65) 1) * (altsN (n.kids.getD j default))) 65)) rfl rfl ?_)
        refine r_nil ?_
        refine g_inBlock ?_
        refine g_region ?_
        refine r_cons (s_add ((j : Int) + 1) rfl rfl (wi64 (by omega)) rfl ?_)
        refine r_cons (s_move (.int .i64 ((j : Int) + 1)) rfl rfl ?_)
        refine r_nil ?_
        have H35 : St W w33 (imi (0 < n.kids.length) gA10 (.cells kA12 eA13 zA14) :: blk bk3 (.cells #[.int .i64 n.kind.v, .string n.var.v, .string n.typ.v, .slice n.tp n.tests.length n.tc, .slice n.kp n.kids.length n.kc] 25 (0, 0)) :: Im 5 (.slice n.kp n.kids.length n.kc) n.kids.length (n.kids.flatMap nodeCell) :: NodesA n.kids :: F) := ((((((H34.move 5 rfl).move 5 rfl).move 5 rfl).move 5 rfl).drop 4 rfl).drop 4 rfl)
        exact nx25 (j + 1) _ _ ⟨(by omega), H35⟩ (by first | (dsimp only; omega) | omega) ⟨by first | rfl | exact vint (by omega), by first | rfl | exact vint (by omega), congrArg (Value.int .i64) (fold_step (fun s k => min (s + altsN k) 65) 0 (by omega)).symm, congrArg (Value.int .i64) (fold_step (fun s k => min (s * altsN k) 65) 1 (by omega)).symm, by first | rfl | exact vint (by omega), by first | rfl | exact vint (by omega), by first | rfl | exact vint (by omega), trivial⟩
      · skip
        refine r_cons (s_lss false rfl rfl (dfalse hc26) rfl ?_)
        refine r_nil ?_
        refine g_seq ?_
        refine g_false rfl ?_
        refine g_exit (by rfl) ?_
        refine g_seq ?_
        refine g_seq ?_
        refine g_region ?_
        refine r_cons (s_fieldAddr 25 0 0 0 3 rfl fi_25_0 rfl rfl ?_)
        refine r_cons (s_load (.int .i64 n.kind.v) ag_3 rfl (H24.blk_at (i := 1) rfl) rfl rfl ?_)
        by_cases hc36 : n.kind.v = 4
        · skip
          refine r_cons (s_eql true rfl rfl (dtrue hc36) rfl ?_)
          refine r_nil ?_
          refine g_true rfl ?_
          refine g_seq ?_
          refine g_region ?_
          refine r_cons (s_move (.int .i64 ((n.kids.take j).foldl (fun s k => min (s + altsN k) 65) 0)) rfl rfl ?_)
          refine r_cons (s_assign (.int .i64 ((n.kids.take j).foldl (fun s k => min (s + altsN k) 65) 0)) rfl rfl ?_)
          refine r_nil ?_
          refine g_ret' [.int .i64 ((n.kids.take j).foldl (fun s k => min (s + altsN k) 65) 0)] Try.func53 Try.results53 ⟨rfl, trivial⟩ ?_
          have H37 : St W w23 F := ((((H24.drop 0 rfl).drop 0 rfl).drop 0 rfl).drop 0 rfl)
          exact ⟨vint (by rw [altsN_eq, if_neg (Bool.eq_false_iff.1 (by rw [Bool.eq_false_iff, ne_eq, List.isEmpty_iff]; intro h9; have h8 := congrArg List.length h9; simp only [List.length_nil] at h8; omega)), if_pos (by omega), fold_all _ _ (by omega)]), H37⟩
        · skip
          refine r_cons (s_eql false rfl rfl (dfalse hc36) rfl ?_)
          refine r_nil ?_
          refine g_false rfl ?_
          refine g_skip ?_
          refine g_seq ?_
          refine g_region ?_
          refine r_cons (s_move (.int .i64 ((n.kids.take j).foldl (fun s k => min (s * altsN k) 65) 1)) rfl rfl ?_)
          refine r_cons (s_assign (.int .i64 ((n.kids.take j).foldl (fun s k => min (s * altsN k) 65) 1)) rfl rfl ?_)
          refine r_nil ?_
          refine g_ret' [.int .i64 ((n.kids.take j).foldl (fun s k => min (s * altsN k) 65) 1)] Try.func53 Try.results53 ⟨rfl, trivial⟩ ?_
          have H38 : St W w23 F := ((((H24.drop 0 rfl).drop 0 rfl).drop 0 rfl).drop 0 rfl)
          exact ⟨vint (by rw [altsN_eq, if_neg (Bool.eq_false_iff.1 (by rw [Bool.eq_false_iff, ne_eq, List.isEmpty_iff]; intro h9; have h8 := congrArg List.length h9; simp only [List.length_nil] at h8; omega)), if_neg (by omega), fold_all _ _ (by omega)]), H38⟩
theorem check_Alts {W w : World} {F : List Atom} (n : NodeD)  {i : Nat} (hi : F[i]? = some (NodeA n)) (H : St W w F) : Calls Try.prog 53 #[.agg #[.int .i64 n.kind.v, .string n.var.v, .string n.typ.v, .slice n.tp n.tests.length n.tc, .slice n.kp n.kids.length n.kc]] w (Ret fun v w' => v = .int .i64 (altsN n) ∧ St W w' F) := check_Alts_r (sizeOf n + 1) n (Nat.lt_succ_self _) hi H
set_option maxHeartbeats 4000000 in
set_option maxRecDepth 100000 in
theorem isNaN_int {W w : World} {F : List Atom} (x : Int) (H : St W w F) : Calls Try.prog 61 #[.int .i64 x] w (Ret fun v w' => v = .bool false ∧ St W w' F) := by
  refine calls_of_go (n := 6) Try.func61 rfl Try.ntmps61 rfl ?_
  refine g_seq ?_
  refine g_region ?_
  refine r_cons (s_assign (.bool false) rfl rfl ?_)
  refine r_nil ?_
  refine g_seq ?_
  refine g_region ?_
  refine r_cons (s_move (.int .i64 x) rfl rfl ?_)
  refine r_cons (s_move (.int .i64 x) rfl rfl ?_)
  refine r_cons (s_neq false rfl rfl (ntrue rfl) rfl ?_)
  refine r_cons (s_assign (.bool false) rfl rfl ?_)
  refine r_nil ?_
  refine g_ret' [.bool false] Try.func61 Try.results61 ⟨rfl, trivial⟩ ?_
  exact ⟨rfl, H⟩
set_option maxHeartbeats 4000000 in
set_option maxRecDepth 100000 in
theorem cmp_Compare_int {W w : World} {F : List Atom} (x y : Int) (H : St W w F) : Calls Try.prog 34 #[.int .i64 x, .int .i64 y] w (Ret fun v w' => v = .int .i64 (cmpI x y) ∧ St W w' F) := by
  refine calls_of_go (n := 20) Try.func34 rfl Try.ntmps34 rfl ?_
  refine g_seq ?_
  refine g_region ?_
  refine r_cons (s_assign (.int .i64 0) rfl rfl ?_)
  refine r_nil ?_
  refine g_seq ?_
  refine g_region ?_
  refine r_cons (s_move (.int .i64 x) rfl rfl ?_)
  refine r_cons (s_call [.int .i64 x] pl_61 rfl rfl (isNaN_int x H) ?_)
  rintro _ w1 ⟨rfl, H2⟩
  refine r_cons (s_assign (.bool false) rfl rfl ?_)
  refine r_nil ?_
  refine g_seq ?_
  refine g_region ?_
  refine r_cons (s_move (.int .i64 y) rfl rfl ?_)
  refine r_cons (s_call [.int .i64 y] pl_61 rfl rfl (isNaN_int y H2) ?_)
  rintro _ w3 ⟨rfl, H4⟩
  refine r_cons (s_assign (.bool false) rfl rfl ?_)
  refine r_nil ?_
  refine g_seq ?_
  refine g_seq ?_
  refine g_region ?_
  refine r_cons (s_move (.bool false) rfl rfl ?_)
  refine r_nil ?_
  refine g_false rfl ?_
  refine g_skip ?_
  refine g_seq ?_
  refine g_seq ?_
  refine g_region ?_
  refine r_cons (s_move (.bool false) rfl rfl ?_)
  refine r_nil ?_
  refine g_false rfl ?_
  refine g_skip ?_
  refine g_seq ?_
  refine g_seq ?_
  refine g_region ?_
  refine r_cons (s_move (.int .i64 x) rfl rfl ?_)
  refine r_cons (s_move (.int .i64 y) rfl rfl ?_)
  by_cases hc5 : x < y
  · skip
    refine r_cons (s_lss true rfl rfl (dtrue hc5) rfl ?_)
    refine r_nil ?_
    refine g_true rfl ?_
    refine g_seq ?_
    refine g_region ?_
    refine r_cons (s_assign (.int .i64 (-1)) rfl rfl ?_)
    refine r_nil ?_
    refine g_ret' [.int .i64 (-1)] Try.func34 Try.results34 ⟨rfl, trivial⟩ ?_
    have H6 : St W w3 F := H4
    exact ⟨vint (cmpI_lt (by omega)).symm, H6⟩
  · skip
    refine r_cons (s_lss false rfl rfl (dfalse hc5) rfl ?_)
    refine r_nil ?_
    refine g_false rfl ?_
    refine g_skip ?_
    refine g_seq ?_
    refine g_seq ?_
    refine g_region ?_
    refine r_cons (s_move (.int .i64 x) rfl rfl ?_)
    refine r_cons (s_move (.int .i64 y) rfl rfl ?_)
    by_cases hc7 : y < x
    · skip
      refine r_cons (s_gtr true rfl rfl (dtrue hc7) rfl ?_)
      refine r_nil ?_
      refine g_true rfl ?_
      refine g_seq ?_
      refine g_region ?_
      refine r_cons (s_assign (.int .i64 1) rfl rfl ?_)
      refine r_nil ?_
      refine g_ret' [.int .i64 1] Try.func34 Try.results34 ⟨rfl, trivial⟩ ?_
      have H8 : St W w3 F := H4
      exact ⟨vint (cmpI_gt (by omega)).symm, H8⟩
    · skip
      refine r_cons (s_gtr false rfl rfl (dfalse hc7) rfl ?_)
      refine r_nil ?_
      refine g_false rfl ?_
      refine g_skip ?_
      refine g_seq ?_
      refine g_region ?_
      refine r_cons (s_assign (.int .i64 0) rfl rfl ?_)
      refine r_nil ?_
      refine g_ret' [.int .i64 0] Try.func34 Try.results34 ⟨rfl, trivial⟩ ?_
      have H9 : St W w3 F := H4
      exact ⟨vint (cmpI_eq (by omega)).symm, H9⟩
set_option maxHeartbeats 4000000 in
set_option maxRecDepth 100000 in
theorem isNaN_int64 {W w : World} {F : List Atom} (x : Int) (H : St W w F) : Calls Try.prog 80 #[.int .i64 x] w (Ret fun v w' => v = .bool false ∧ St W w' F) := by
  refine calls_of_go (n := 6) Try.func80 rfl Try.ntmps80 rfl ?_
  refine g_seq ?_
  refine g_region ?_
  refine r_cons (s_assign (.bool false) rfl rfl ?_)
  refine r_nil ?_
  refine g_seq ?_
  refine g_region ?_
  refine r_cons (s_move (.int .i64 x) rfl rfl ?_)
  refine r_cons (s_move (.int .i64 x) rfl rfl ?_)
  refine r_cons (s_neq false rfl rfl (ntrue rfl) rfl ?_)
  refine r_cons (s_assign (.bool false) rfl rfl ?_)
  refine r_nil ?_
  refine g_ret' [.bool false] Try.func80 Try.results80 ⟨rfl, trivial⟩ ?_
  exact ⟨rfl, H⟩
set_option maxHeartbeats 4000000 in
set_option maxRecDepth 100000 in
theorem cmp_Compare_int64 {W w : World} {F : List Atom} (x y : Int) (H : St W w F) : Calls Try.prog 74 #[.int .i64 x, .int .i64 y] w (Ret fun v w' => v = .int .i64 (cmpI x y) ∧ St W w' F) := by
  refine calls_of_go (n := 20) Try.func74 rfl Try.ntmps74 rfl ?_
  refine g_seq ?_
  refine g_region ?_
  refine r_cons (s_assign (.int .i64 0) rfl rfl ?_)
  refine r_nil ?_
  refine g_seq ?_
  refine g_region ?_
  refine r_cons (s_move (.int .i64 x) rfl rfl ?_)
  refine r_cons (s_call [.int .i64 x] pl_80 rfl rfl (isNaN_int64 x H) ?_)
  rintro _ w1 ⟨rfl, H2⟩
  refine r_cons (s_assign (.bool false) rfl rfl ?_)
  refine r_nil ?_
  refine g_seq ?_
  refine g_region ?_
  refine r_cons (s_move (.int .i64 y) rfl rfl ?_)
  refine r_cons (s_call [.int .i64 y] pl_80 rfl rfl (isNaN_int64 y H2) ?_)
  rintro _ w3 ⟨rfl, H4⟩
  refine r_cons (s_assign (.bool false) rfl rfl ?_)
  refine r_nil ?_
  refine g_seq ?_
  refine g_seq ?_
  refine g_region ?_
  refine r_cons (s_move (.bool false) rfl rfl ?_)
  refine r_nil ?_
  refine g_false rfl ?_
  refine g_skip ?_
  refine g_seq ?_
  refine g_seq ?_
  refine g_region ?_
  refine r_cons (s_move (.bool false) rfl rfl ?_)
  refine r_nil ?_
  refine g_false rfl ?_
  refine g_skip ?_
  refine g_seq ?_
  refine g_seq ?_
  refine g_region ?_
  refine r_cons (s_move (.int .i64 x) rfl rfl ?_)
  refine r_cons (s_move (.int .i64 y) rfl rfl ?_)
  by_cases hc5 : x < y
  · skip
    refine r_cons (s_lss true rfl rfl (dtrue hc5) rfl ?_)
    refine r_nil ?_
    refine g_true rfl ?_
    refine g_seq ?_
    refine g_region ?_
    refine r_cons (s_assign (.int .i64 (-1)) rfl rfl ?_)
    refine r_nil ?_
    refine g_ret' [.int .i64 (-1)] Try.func74 Try.results74 ⟨rfl, trivial⟩ ?_
    have H6 : St W w3 F := H4
    exact ⟨vint (cmpI_lt (by omega)).symm, H6⟩
  · skip
    refine r_cons (s_lss false rfl rfl (dfalse hc5) rfl ?_)
    refine r_nil ?_
    refine g_false rfl ?_
    refine g_skip ?_
    refine g_seq ?_
    refine g_seq ?_
    refine g_region ?_
    refine r_cons (s_move (.int .i64 x) rfl rfl ?_)
    refine r_cons (s_move (.int .i64 y) rfl rfl ?_)
    by_cases hc7 : y < x
    · skip
      refine r_cons (s_gtr true rfl rfl (dtrue hc7) rfl ?_)
      refine r_nil ?_
      refine g_true rfl ?_
      refine g_seq ?_
      refine g_region ?_
      refine r_cons (s_assign (.int .i64 1) rfl rfl ?_)
      refine r_nil ?_
      refine g_ret' [.int .i64 1] Try.func74 Try.results74 ⟨rfl, trivial⟩ ?_
      have H8 : St W w3 F := H4
      exact ⟨vint (cmpI_gt (by omega)).symm, H8⟩
    · skip
      refine r_cons (s_gtr false rfl rfl (dfalse hc7) rfl ?_)
      refine r_nil ?_
      refine g_false rfl ?_
      refine g_skip ?_
      refine g_seq ?_
      refine g_region ?_
      refine r_cons (s_assign (.int .i64 0) rfl rfl ?_)
      refine r_nil ?_
      refine g_ret' [.int .i64 0] Try.func74 Try.results74 ⟨rfl, trivial⟩ ?_
      have H9 : St W w3 F := H4
      exact ⟨vint (cmpI_eq (by omega)).symm, H9⟩
set_option maxHeartbeats 4000000 in
set_option maxRecDepth 100000 in
theorem ref08_int64 {W w : World} {F : List Atom} (x y : Int) (H : St W w F) : Calls Try.prog 41 #[.int .i64 x, .int .i64 y] w (Ret fun v w' => v = .int .i64 (cmpI x y) ∧ St W w' F) := by
  refine calls_of_go (n := 13) Try.func41 rfl Try.ntmps41 rfl ?_
  refine g_seq ?_
  refine g_region ?_
  refine r_cons (s_assign (.int .i64 0) rfl rfl ?_)
  refine r_nil ?_
  refine g_seq ?_
  refine g_block ?_
  refine g_seq ?_
  refine g_region ?_
  refine r_cons (s_move (.int .i64 x) rfl rfl ?_)
  refine r_cons (s_move (.int .i64 y) rfl rfl ?_)
  by_cases hc1 : x < y
  · skip
    refine r_cons (s_lss true rfl rfl (dtrue hc1) rfl ?_)
    refine r_cons (s_assign (.bool true) rfl rfl ?_)
    refine r_nil ?_
    refine g_true rfl ?_
    refine g_seq ?_
    refine g_region ?_
    refine r_cons (s_assign (.int .i64 (-1)) rfl rfl ?_)
    refine r_nil ?_
    refine g_ret' [.int .i64 (-1)] Try.func41 Try.results41 ⟨rfl, trivial⟩ ?_
    have H2 : St W w F := H
    exact ⟨vint (cmpI_lt (by omega)).symm, H2⟩
  · skip
    refine r_cons (s_lss false rfl rfl (dfalse hc1) rfl ?_)
    refine r_cons (s_assign (.bool false) rfl rfl ?_)
    refine r_nil ?_
    refine g_false rfl ?_
    refine g_seq ?_
    refine g_region ?_
    refine r_cons (s_move (.int .i64 x) rfl rfl ?_)
    refine r_cons (s_move (.int .i64 y) rfl rfl ?_)
    by_cases hc3 : y < x
    · skip
      refine r_cons (s_gtr true rfl rfl (dtrue hc3) rfl ?_)
      refine r_cons (s_assign (.bool true) rfl rfl ?_)
      refine r_nil ?_
      refine g_true rfl ?_
      refine g_seq ?_
      refine g_region ?_
      refine r_cons (s_assign (.int .i64 1) rfl rfl ?_)
      refine r_nil ?_
      refine g_ret' [.int .i64 1] Try.func41 Try.results41 ⟨rfl, trivial⟩ ?_
      have H4 : St W w F := H
      exact ⟨vint (cmpI_gt (by omega)).symm, H4⟩
    · skip
      refine r_cons (s_gtr false rfl rfl (dfalse hc3) rfl ?_)
      refine r_cons (s_assign (.bool false) rfl rfl ?_)
      refine r_nil ?_
      refine g_false rfl ?_
      refine g_skip ?_
      refine g_inBlock ?_
      refine g_seq ?_
      refine g_region ?_
      refine r_cons (s_assign (.int .i64 0) rfl rfl ?_)
      refine r_nil ?_
      refine g_ret' [.int .i64 0] Try.func41 Try.results41 ⟨rfl, trivial⟩ ?_
      have H5 : St W w F := H
      exact ⟨vint (cmpI_eq (by omega)).symm, H5⟩
set_option maxHeartbeats 4000000 in
set_option maxRecDepth 100000 in
theorem isNaN_string {W w : World} {F : List Atom} (x : ByteArray) (H : St W w F) : Calls Try.prog 62 #[.string x] w (Ret fun v w' => v = .bool false ∧ St W w' F) := by
  refine calls_of_go (n := 6) Try.func62 rfl Try.ntmps62 rfl ?_
  refine g_seq ?_
  refine g_region ?_
  refine r_cons (s_assign (.bool false) rfl rfl ?_)
  refine r_nil ?_
  refine g_seq ?_
  refine g_region ?_
  refine r_cons (s_move (.string x) rfl rfl ?_)
  refine r_cons (s_move (.string x) rfl rfl ?_)
  refine r_cons (s_sneq false rfl rfl (ntrue rfl) rfl ?_)
  refine r_cons (s_assign (.bool false) rfl rfl ?_)
  refine r_nil ?_
  refine g_ret' [.bool false] Try.func62 Try.results62 ⟨rfl, trivial⟩ ?_
  exact ⟨rfl, H⟩
set_option maxHeartbeats 4000000 in
set_option maxRecDepth 100000 in
theorem cmp_Compare_string {W w : World} {F : List Atom} (x y : ByteArray) (H : St W w F) : Calls Try.prog 35 #[.string x, .string y] w (Ret fun v w' => v = .int .i64 (cmpSt x y) ∧ St W w' F) := by
  refine calls_of_go (n := 20) Try.func35 rfl Try.ntmps35 rfl ?_
  refine g_seq ?_
  refine g_region ?_
  refine r_cons (s_assign (.int .i64 0) rfl rfl ?_)
  refine r_nil ?_
  refine g_seq ?_
  refine g_region ?_
  refine r_cons (s_move (.string x) rfl rfl ?_)
  refine r_cons (s_call [.string x] pl_62 rfl rfl (isNaN_string x H) ?_)
  rintro _ w1 ⟨rfl, H2⟩
  refine r_cons (s_assign (.bool false) rfl rfl ?_)
  refine r_nil ?_
  refine g_seq ?_
  refine g_region ?_
  refine r_cons (s_move (.string y) rfl rfl ?_)
  refine r_cons (s_call [.string y] pl_62 rfl rfl (isNaN_string y H2) ?_)
  rintro _ w3 ⟨rfl, H4⟩
  refine r_cons (s_assign (.bool false) rfl rfl ?_)
  refine r_nil ?_
  refine g_seq ?_
  refine g_seq ?_
  refine g_region ?_
  refine r_cons (s_move (.bool false) rfl rfl ?_)
  refine r_nil ?_
  refine g_false rfl ?_
  refine g_skip ?_
  refine g_seq ?_
  refine g_seq ?_
  refine g_region ?_
  refine r_cons (s_move (.bool false) rfl rfl ?_)
  refine r_nil ?_
  refine g_false rfl ?_
  refine g_skip ?_
  refine g_seq ?_
  refine g_seq ?_
  refine g_region ?_
  refine r_cons (s_move (.string x) rfl rfl ?_)
  refine r_cons (s_move (.string y) rfl rfl ?_)
  refine r_cons (s_slss (sLt x y) rfl rfl rfl rfl ?_)
  refine r_nil ?_
  by_cases hb5 : (sLt x y) = true
  · skip
    refine g_true (congrArg Value.bool hb5) ?_
    refine g_seq ?_
    refine g_region ?_
    refine r_cons (s_assign (.int .i64 (-1)) rfl rfl ?_)
    refine r_nil ?_
    refine g_ret' [.int .i64 (-1)] Try.func35 Try.results35 ⟨rfl, trivial⟩ ?_
    have H6 : St W w3 F := H4
    exact ⟨vint (cmpSt_lt hb5).symm, H6⟩
  · have hb5 := eq_false_of_ne_true hb5
    refine g_false (congrArg Value.bool hb5) ?_
    refine g_skip ?_
    refine g_seq ?_
    refine g_seq ?_
    refine g_region ?_
    refine r_cons (s_move (.string x) rfl rfl ?_)
    refine r_cons (s_move (.string y) rfl rfl ?_)
    refine r_cons (s_sgtr (!(sLt x y || decide (x = y))) rfl rfl rfl rfl ?_)
    refine r_nil ?_
    by_cases hb7 : (!(sLt x y || decide (x = y))) = true
    · skip
      refine g_true (congrArg Value.bool hb7) ?_
      refine g_seq ?_
      refine g_region ?_
      refine r_cons (s_assign (.int .i64 1) rfl rfl ?_)
      refine r_nil ?_
      refine g_ret' [.int .i64 1] Try.func35 Try.results35 ⟨rfl, trivial⟩ ?_
      have H8 : St W w3 F := H4
      exact ⟨vint (cmpSt_is1 hb7).symm, H8⟩
    · have hb7 := eq_false_of_ne_true hb7
      refine g_false (congrArg Value.bool hb7) ?_
      refine g_skip ?_
      refine g_seq ?_
      refine g_region ?_
      refine r_cons (s_assign (.int .i64 0) rfl rfl ?_)
      refine r_nil ?_
      refine g_ret' [.int .i64 0] Try.func35 Try.results35 ⟨rfl, trivial⟩ ?_
      have H9 : St W w3 F := H4
      exact ⟨vint (cmpSt_is0 hb5 hb7).symm, H9⟩
set_option maxHeartbeats 4000000 in
set_option maxRecDepth 100000 in
theorem ref08_string {W w : World} {F : List Atom} (x y : ByteArray) (H : St W w F) : Calls Try.prog 42 #[.string x, .string y] w (Ret fun v w' => v = .int .i64 (cmpSt x y) ∧ St W w' F) := by
  refine calls_of_go (n := 13) Try.func42 rfl Try.ntmps42 rfl ?_
  refine g_seq ?_
  refine g_region ?_
  refine r_cons (s_assign (.int .i64 0) rfl rfl ?_)
  refine r_nil ?_
  refine g_seq ?_
  refine g_block ?_
  refine g_seq ?_
  refine g_region ?_
  refine r_cons (s_move (.string x) rfl rfl ?_)
  refine r_cons (s_move (.string y) rfl rfl ?_)
  refine r_cons (s_slss (sLt x y) rfl rfl rfl rfl ?_)
  refine r_cons (s_assign (.bool (sLt x y)) rfl rfl ?_)
  refine r_nil ?_
  by_cases hb1 : (sLt x y) = true
  · skip
    refine g_true (congrArg Value.bool hb1) ?_
    refine g_seq ?_
    refine g_region ?_
    refine r_cons (s_assign (.int .i64 (-1)) rfl rfl ?_)
    refine r_nil ?_
    refine g_ret' [.int .i64 (-1)] Try.func42 Try.results42 ⟨rfl, trivial⟩ ?_
    have H2 : St W w F := H
    exact ⟨vint (cmpSt_lt hb1).symm, H2⟩
  · have hb1 := eq_false_of_ne_true hb1
    refine g_false (congrArg Value.bool hb1) ?_
    refine g_seq ?_
    refine g_region ?_
    refine r_cons (s_move (.string x) rfl rfl ?_)
    refine r_cons (s_move (.string y) rfl rfl ?_)
    refine r_cons (s_sgtr (!(sLt x y || decide (x = y))) rfl rfl rfl rfl ?_)
    refine r_cons (s_assign (.bool (!(sLt x y || decide (x = y)))) rfl rfl ?_)
    refine r_nil ?_
    by_cases hb3 : (!(sLt x y || decide (x = y))) = true
    · skip
      refine g_true (congrArg Value.bool hb3) ?_
      refine g_seq ?_
      refine g_region ?_
      refine r_cons (s_assign (.int .i64 1) rfl rfl ?_)
      refine r_nil ?_
      refine g_ret' [.int .i64 1] Try.func42 Try.results42 ⟨rfl, trivial⟩ ?_
      have H4 : St W w F := H
      exact ⟨vint (cmpSt_is1 hb3).symm, H4⟩
    · have hb3 := eq_false_of_ne_true hb3
      refine g_false (congrArg Value.bool hb3) ?_
      refine g_skip ?_
      refine g_inBlock ?_
      refine g_seq ?_
      refine g_region ?_
      refine r_cons (s_assign (.int .i64 0) rfl rfl ?_)
      refine r_nil ?_
      refine g_ret' [.int .i64 0] Try.func42 Try.results42 ⟨rfl, trivial⟩ ?_
      have H5 : St W w F := H
      exact ⟨vint (cmpSt_is0 hb1 hb3).symm, H5⟩
set_option maxHeartbeats 4000000 in
set_option maxRecDepth 100000 in
theorem cmp_Or {W w : World} {F : List Atom} (L : List Int) (lv : Value) {m : Nat} (hm : F[m]? = some (Im 1 lv L.length (L.flatMap iC))) (H : St W w F) : Calls Try.prog 33 #[lv] w (Ret fun v w' => v = .int .i64 (firstE L) ∧ St W w' F) := by
  obtain ⟨pp1, cc2, rfl, hn3⟩ := Rd.shape (Im.rd H (i := m) hm)
  have H4 := H.dup (i := m + 0) (by exact hm) (Im_pers _ _ _ _)
  have H5 : St W w (Im 1 (.slice pp1 L.length cc2) L.length (L.flatMap iC) :: F) := H4
  obtain ⟨pA6, cA7, gA8, oA9, kA10, eA11, zA12, he18, hn13, hp14, hx15, hs16, hml, H17⟩ := Im.open_ H5 (i := 0) rfl
  obtain ⟨rfl, rfl⟩ : pp1 = pA6 ∧ cc2 = cA7 := by injection he18 with a_ b_ c_; exact ⟨a_, c_⟩
  refine calls_of_go (n := 18) Try.func33 rfl Try.ntmps33 rfl ?_
  refine g_seq ?_
  refine g_region ?_
  refine r_cons (s_assign (.int .i64 0) rfl rfl ?_)
  refine r_nil ?_
  refine g_seq ?_
  refine g_region ?_
  refine r_cons (s_assign (.int .i64 0) rfl rfl ?_)
  refine r_nil ?_
  refine g_seq ?_
  refine g_seq ?_
  refine g_region ?_
  refine r_cons (s_move (.slice pp1 L.length cc2) rfl rfl ?_)
  refine r_cons (s_len L.length rfl ⟨_, un_69⟩ rfl ?_)
  refine r_cons (s_move (.int .i64 0) rfl rfl ?_)
  refine r_nil ?_
  refine g_block ?_
  have H19 : St W w (imi (0 < L.length) gA8 (.cells kA10 eA11 zA12) :: Im 1 (.slice pp1 L.length cc2) L.length (L.flatMap iC) :: F) := ((H17.move 1 rfl).move 1 rfl)
  refine g_loop_inv (fun (x_ : Nat) => match x_ with | j => [(2, .int .i64 0), (3, .int .i64 0), (6, .slice pp1 L.length cc2), (7, .int .i64 (L.length : Int)), (8, .int .i64 (j : Int))]) (fun (x_ : Nat) w => match x_ with | j => (j ≤ L.length) ∧ (∀ q, q < j → (L.getD q default) = 0) ∧ St W w (imi (0 < L.length) gA8 (.cells kA10 eA11 zA12) :: Im 1 (.slice pp1 L.length cc2) L.length (L.flatMap iC) :: F)) (fun (x_ : Nat) => match x_ with | j => L.length - j) (0) ?_ ?_ ?_
  · exact ⟨by first | rfl | exact vint (by omega), by first | rfl | exact vint (by omega), by first | rfl | exact vint (by omega), by first | rfl | exact vint (by omega), by first | rfl | exact vint (by omega), trivial⟩
  · exact ⟨(by omega), (fun q hq => by omega), H19⟩
  · rintro j ρ20 w21 ⟨hjn, hz, H22⟩ nx23
    change Ends _ _ (upds ρ20 [(2, .int .i64 0), (3, .int .i64 0), (6, .slice pp1 L.length cc2), (7, .int .i64 (L.length : Int)), (8, .int .i64 (j : Int))]) w21
    refine g_seq ?_
    refine g_region ?_
    by_cases hc24 : (j : Int) < (L.length : Int)
    · skip
      refine r_cons (s_lss true rfl rfl (dtrue hc24) rfl ?_)
      refine r_nil ?_
      refine g_seq ?_
      refine g_true rfl ?_
      refine g_skip ?_
      refine g_seq ?_
      refine g_block ?_
      refine g_seq ?_
      refine g_region ?_
      refine r_cons (s_indexAddr gA8 (off := oA9) (j : Int) 1 (oA9 + j * 1) (by exact congrArg (fun z_ => Value.slice z_ L.length cc2) (hp14 (by omega))) rfl el_69 (by omega) rfl rfl ?_)
      refine r_cons (s_load (.int .i64 (L.getD j default)) ag_3 rfl (H22.imi_at (i := 0) rfl (by omega)) (elem_cell (L := L) (i := j) iC_len (hx15 (by omega)) (by omega) default 0 (by decide) _ rfl) rfl ?_)
      refine r_cons (s_assign (.int .i64 (L.getD j default)) rfl rfl ?_)
      refine r_nil ?_
      refine g_seq ?_
      refine g_region ?_
      refine r_cons (s_move (.int .i64 (L.getD j default)) rfl rfl ?_)
      refine r_cons (s_move (.int .i64 0) rfl rfl ?_)
      by_cases hc25 : (L.getD j default) = 0
      · skip
        refine r_cons (s_neq false rfl rfl (ntrue hc25) rfl ?_)
        refine r_nil ?_
        refine g_false rfl ?_
        refine g_skip ?_
        refine g_inBlock ?_
        refine g_region ?_
        refine r_cons (s_add ((j : Int) + 1) rfl rfl (wi64 (by omega)) rfl ?_)
        refine r_cons (s_move (.int .i64 ((j : Int) + 1)) rfl rfl ?_)
        refine r_nil ?_
        have H26 : St W w21 (imi (0 < L.length) gA8 (.cells kA10 eA11 zA12) :: Im 1 (.slice pp1 L.length cc2) L.length (L.flatMap iC) :: F) := ((H22.move 1 rfl).move 1 rfl)
        exact nx23 (j + 1) _ _ ⟨(by omega), (fun q hq => (Nat.lt_or_ge q j).elim (hz q) (fun h => by rw [show q = j from by omega]; exact hc25)), H26⟩ (by first | (dsimp only; omega) | omega) ⟨by first | rfl | exact vint (by omega), by first | rfl | exact vint (by omega), by first | rfl | exact vint (by omega), by first | rfl | exact vint (by omega), by first | rfl | exact vint (by omega), trivial⟩
      · skip
        refine r_cons (s_neq true rfl rfl (nfalse hc25) rfl ?_)
        refine r_nil ?_
        refine g_true rfl ?_
        refine g_seq ?_
        refine g_region ?_
        refine r_cons (s_move (.int .i64 (L.getD j default)) rfl rfl ?_)
        refine r_cons (s_assign (.int .i64 (L.getD j default)) rfl rfl ?_)
        refine r_nil ?_
        refine g_ret' [.int .i64 (L.getD j default)] Try.func33 Try.results33 ⟨rfl, trivial⟩ ?_
        have H27 : St W w21 F := ((H22.drop 0 rfl).drop 0 rfl)
        exact ⟨vint (first_at hz (by omega) (by omega)), H27⟩
    · skip
      refine r_cons (s_lss false rfl rfl (dfalse hc24) rfl ?_)
      refine r_nil ?_
      refine g_seq ?_
      refine g_false rfl ?_
      refine g_exit (by rfl) ?_
      refine g_seq ?_
      refine g_region ?_
      refine r_cons (s_move (.int .i64 0) rfl rfl ?_)
      refine r_cons (s_assign (.int .i64 0) rfl rfl ?_)
      refine r_nil ?_
      refine g_ret' [.int .i64 0] Try.func33 Try.results33 ⟨rfl, trivial⟩ ?_
      have H28 : St W w21 F := ((H22.drop 0 rfl).drop 0 rfl)
      exact ⟨vint (first_end hz (by omega)), H28⟩
set_option maxHeartbeats 4000000 in
set_option maxRecDepth 100000 in
theorem ref08_first {W w : World} {F : List Atom} (L : List Int) (lv : Value) {m : Nat} (hm : F[m]? = some (Im 1 lv L.length (L.flatMap iC))) (H : St W w F) : Calls Try.prog 40 #[lv] w (Ret fun v w' => v = .int .i64 (firstE L) ∧ St W w' F) := by
  obtain ⟨pp1, cc2, rfl, hn3⟩ := Rd.shape (Im.rd H (i := m) hm)
  have H4 := H.dup (i := m + 0) (by exact hm) (Im_pers _ _ _ _)
  have H5 : St W w (Im 1 (.slice pp1 L.length cc2) L.length (L.flatMap iC) :: F) := H4
  obtain ⟨pA6, cA7, gA8, oA9, kA10, eA11, zA12, he18, hn13, hp14, hx15, hs16, hml, H17⟩ := Im.open_ H5 (i := 0) rfl
  obtain ⟨rfl, rfl⟩ : pp1 = pA6 ∧ cc2 = cA7 := by injection he18 with a_ b_ c_; exact ⟨a_, c_⟩
  refine calls_of_go (n := 19) Try.func40 rfl Try.ntmps40 rfl ?_
  refine g_seq ?_
  refine g_region ?_
  refine r_cons (s_assign (.int .i64 0) rfl rfl ?_)
  refine r_nil ?_
  refine g_seq ?_
  refine g_seq ?_
  refine g_region ?_
  refine r_cons (s_assign (.int .i64 0) rfl rfl ?_)
  refine r_nil ?_
  refine g_block ?_
  have H19 : St W w (imi (0 < L.length) gA8 (.cells kA10 eA11 zA12) :: Im 1 (.slice pp1 L.length cc2) L.length (L.flatMap iC) :: F) := ((H17.move 1 rfl).move 1 rfl)
  refine g_loop_inv (fun (x_ : Nat) => match x_ with | j => [(0, .slice pp1 L.length cc2), (2, .int .i64 0), (3, .int .i64 (j : Int))]) (fun (x_ : Nat) w => match x_ with | j => (j ≤ L.length) ∧ (∀ q, q < j → (L.getD q default) = 0) ∧ St W w (imi (0 < L.length) gA8 (.cells kA10 eA11 zA12) :: Im 1 (.slice pp1 L.length cc2) L.length (L.flatMap iC) :: F)) (fun (x_ : Nat) => match x_ with | j => L.length - j) (0) ?_ ?_ ?_
  · exact ⟨by first | rfl | exact vint (by omega), by first | rfl | exact vint (by omega), by first | rfl | exact vint (by omega), trivial⟩
  · exact ⟨(by omega), (fun q hq => by omega), H19⟩
  · rintro j ρ20 w21 ⟨hjn, hz, H22⟩ nx23
    change Ends _ _ (upds ρ20 [(0, .slice pp1 L.length cc2), (2, .int .i64 0), (3, .int .i64 (j : Int))]) w21
    refine g_seq ?_
    refine g_seq ?_
    refine g_region ?_
    refine r_cons (s_move (.int .i64 (j : Int)) rfl rfl ?_)
    refine r_cons (s_move (.slice pp1 L.length cc2) rfl rfl ?_)
    refine r_cons (s_len L.length rfl ⟨_, un_69⟩ rfl ?_)
    by_cases hc24 : (j : Int) < (L.length : Int)
    · skip
      refine r_cons (s_lss true rfl rfl (dtrue hc24) rfl ?_)
      refine r_nil ?_
      refine g_true rfl ?_
      refine g_skip ?_
      refine g_seq ?_
      refine g_block ?_
      refine g_seq ?_
      refine g_region ?_
      refine r_cons (s_move (.slice pp1 L.length cc2) rfl rfl ?_)
      refine r_cons (s_move (.int .i64 (j : Int)) rfl rfl ?_)
      refine r_cons (s_indexAddr gA8 (off := oA9) (j : Int) 1 (oA9 + j * 1) (by exact congrArg (fun z_ => Value.slice z_ L.length cc2) (hp14 (by omega))) rfl el_69 (by omega) rfl rfl ?_)
      refine r_cons (s_load (.int .i64 (L.getD j default)) ag_3 rfl (H22.imi_at (i := 0) rfl (by omega)) (elem_cell (L := L) (i := j) iC_len (hx15 (by omega)) (by omega) default 0 (by decide) _ rfl) rfl ?_)
      by_cases hc25 : (L.getD j default) = 0
      · skip
        refine r_cons (s_neq false rfl rfl (ntrue hc25) rfl ?_)
        refine r_nil ?_
        refine g_false rfl ?_
        refine g_skip ?_
        refine g_inBlock ?_
        refine g_region ?_
        refine r_cons (s_move (.int .i64 (j : Int)) rfl rfl ?_)
        refine r_cons (s_add ((j : Int) + 1) rfl rfl (wi64 (by omega)) rfl ?_)
        refine r_cons (s_assign (.int .i64 ((j : Int) + 1)) rfl rfl ?_)
        refine r_nil ?_
        have H26 : St W w21 (imi (0 < L.length) gA8 (.cells kA10 eA11 zA12) :: Im 1 (.slice pp1 L.length cc2) L.length (L.flatMap iC) :: F) := ((H22.move 1 rfl).move 1 rfl)
        exact nx23 (j + 1) _ _ ⟨(by omega), (fun q hq => (Nat.lt_or_ge q j).elim (hz q) (fun h => by rw [show q = j from by omega]; exact hc25)), H26⟩ (by first | (dsimp only; omega) | omega) ⟨by first | rfl | exact vint (by omega), by first | rfl | exact vint (by omega), by first | rfl | exact vint (by omega), trivial⟩
      · skip
        refine r_cons (s_neq true rfl rfl (nfalse hc25) rfl ?_)
        refine r_nil ?_
        refine g_true rfl ?_
        refine g_seq ?_
        refine g_region ?_
        refine r_cons (s_move (.slice pp1 L.length cc2) rfl rfl ?_)
        refine r_cons (s_move (.int .i64 (j : Int)) rfl rfl ?_)
        refine r_cons (s_indexAddr gA8 (off := oA9) (j : Int) 1 (oA9 + j * 1) (by exact congrArg (fun z_ => Value.slice z_ L.length cc2) (hp14 (by omega))) rfl el_69 (by omega) rfl rfl ?_)
        refine r_cons (s_load (.int .i64 (L.getD j default)) ag_3 rfl (H22.imi_at (i := 0) rfl (by omega)) (elem_cell (L := L) (i := j) iC_len (hx15 (by omega)) (by omega) default 0 (by decide) _ rfl) rfl ?_)
        refine r_cons (s_assign (.int .i64 (L.getD j default)) rfl rfl ?_)
        refine r_nil ?_
        refine g_ret' [.int .i64 (L.getD j default)] Try.func40 Try.results40 ⟨rfl, trivial⟩ ?_
        have H27 : St W w21 F := ((H22.drop 0 rfl).drop 0 rfl)
        exact ⟨vint (first_at hz (by omega) (by omega)), H27⟩
    · skip
      refine r_cons (s_lss false rfl rfl (dfalse hc24) rfl ?_)
      refine r_nil ?_
      refine g_false rfl ?_
      refine g_exit (by rfl) ?_
      refine g_seq ?_
      refine g_region ?_
      refine r_cons (s_assign (.int .i64 0) rfl rfl ?_)
      refine r_nil ?_
      refine g_ret' [.int .i64 0] Try.func40 Try.results40 ⟨rfl, trivial⟩ ?_
      have H28 : St W w21 F := ((H22.drop 0 rfl).drop 0 rfl)
      exact ⟨vint (first_end hz (by omega)), H28⟩
set_option maxHeartbeats 4000000 in
set_option maxRecDepth 100000 in
theorem normal_operands {W w : World} {F : List Atom} (a b : OpdV) (H : St W w F) : Calls Try.prog 63 #[.agg #[.string a.var.v, .string a.attr.v, .int .i64 a.val.kind.v, .int .i64 a.val.n.v, .string a.val.s.v], .agg #[.string b.var.v, .string b.attr.v, .int .i64 b.val.kind.v, .int .i64 b.val.n.v, .string b.val.s.v]] w (Ret fun v w' => v = .int .i64 (opdC a b) ∧ St W w' F) := by
  refine calls_of_go (n := 38) Try.func63 rfl Try.ntmps63 rfl ?_
  refine g_seq ?_
  refine g_region ?_
  refine r_cons (s_box H 44 (.agg #[.string a.var.v, .string a.attr.v, .int .i64 a.val.kind.v, .int .i64 a.val.n.v, .string a.val.s.v]) rfl (cs := #[.string a.var.v, .string a.attr.v, .int .i64 a.val.kind.v, .int .i64 a.val.n.v, .string a.val.s.v]) rfl rfl ?_); intro bk1 w2 H3
  refine r_cons (s_box H3 44 (.agg #[.string b.var.v, .string b.attr.v, .int .i64 b.val.kind.v, .int .i64 b.val.n.v, .string b.val.s.v]) rfl (cs := #[.string b.var.v, .string b.attr.v, .int .i64 b.val.kind.v, .int .i64 b.val.n.v, .string b.val.s.v]) rfl rfl ?_); intro bk4 w5 H6
  refine r_cons (s_assign (.int .i64 0) rfl rfl ?_)
  refine r_nil ?_
  refine g_seq ?_
  refine g_mix (fun t_ w => St W w (blk bk4 (.cells #[.string b.var.v, .string b.attr.v, .int .i64 b.val.kind.v, .int .i64 b.val.n.v, .string b.val.s.v] 44 (0, 0)) :: blk bk1 (.cells #[.string a.var.v, .string a.attr.v, .int .i64 a.val.kind.v, .int .i64 a.val.n.v, .string a.val.s.v] 44 (0, 0)) :: t_)) F mixed 34 rfl H6.drew ?_
  refine f_first 0 (listed' := #[true, false, false, false, false, false, false, false, false, false, false, false, false, false, false, false, false, false, false, false, false, false, false, false, false, false, false, false, false, false, false, false, false, false]) rfl (by kernel_rfl) (by kernel_rfl) (by kernel_rfl) rfl ?_
  refine f_val rfl rfl rfl (by intro t_ w hw; exact x_fieldAddr 44 0 0 0 9 rfl fi_44_0 rfl w) ?_
  refine f_first 1 (listed' := #[true, true, false, false, false, false, false, false, false, false, false, false, false, false, false, false, false, false, false, false, false, false, false, false, false, false, false, false, false, false, false, false, false, false]) rfl (by kernel_rfl) (by kernel_rfl) (by kernel_rfl) rfl ?_
  refine f_val rfl rfl rfl (by intro t_ w hw; exact x_load (.string a.var.v) ag_9 rfl (hw.blk_at (i := 1) rfl) rfl) ?_
  refine f_first 2 (listed' := #[true, true, true, false, false, false, false, false, false, false, false, false, false, false, false, false, false, false, false, false, false, false, false, false, false, false, false, false, false, false, false, false, false, false]) rfl (by kernel_rfl) (by kernel_rfl) (by kernel_rfl) rfl ?_
  refine f_val rfl rfl rfl (by intro t_ w hw; exact x_fieldAddr 44 0 0 0 9 rfl fi_44_0 rfl w) ?_
  refine f_first 3 (listed' := #[true, true, true, true, false, false, false, false, false, false, false, false, false, false, false, false, false, false, false, false, false, false, false, false, false, false, false, false, false, false, false, false, false, false]) rfl (by kernel_rfl) (by kernel_rfl) (by kernel_rfl) rfl ?_
  refine f_val rfl rfl rfl (by intro t_ w hw; exact x_load (.string b.var.v) ag_9 rfl (hw.blk_at (i := 0) rfl) rfl) ?_
  refine f_first 4 (listed' := #[true, true, true, true, true, false, false, false, false, false, false, false, false, false, false, false, false, false, false, false, false, false, false, false, false, false, false, false, false, false, false, false, false, false]) rfl (by kernel_rfl) (by kernel_rfl) (by kernel_rfl) rfl ?_
  refine f_enter (args := #[.string a.var.v, .string b.var.v]) (v := .int .i64 (cmpSt a.var.v b.var.v)) rfl rfl rfl (x_call pl_35 [.string a.var.v, .string b.var.v] rfl) (fun t_ w hw => cmp_Compare_string a.var.v b.var.v hw) ?_
  refine f_first 5 (listed' := #[true, true, true, true, true, true, false, false, false, false, false, false, false, false, false, false, false, false, false, false, false, false, false, false, false, false, false, false, false, false, false, false, false, false]) rfl (by kernel_rfl) (by kernel_rfl) (by kernel_rfl) rfl ?_
  refine f_val rfl rfl rfl (by intro t_ w hw; exact x_fieldAddr 44 1 1 1 9 rfl fi_44_1 rfl w) ?_
  refine f_first 6 (listed' := #[true, true, true, true, true, true, true, false, false, false, false, false, false, false, false, false, false, false, false, false, false, false, false, false, false, false, false, false, false, false, false, false, false, false]) rfl (by kernel_rfl) (by kernel_rfl) (by kernel_rfl) rfl ?_
  refine f_val rfl rfl rfl (by intro t_ w hw; exact x_load (.string a.attr.v) ag_9 rfl (hw.blk_at (i := 1) rfl) rfl) ?_
  refine f_first 7 (listed' := #[true, true, true, true, true, true, true, true, false, false, false, false, false, false, false, false, false, false, false, false, false, false, false, false, false, false, false, false, false, false, false, false, false, false]) rfl (by kernel_rfl) (by kernel_rfl) (by kernel_rfl) rfl ?_
  refine f_val rfl rfl rfl (by intro t_ w hw; exact x_fieldAddr 44 1 1 1 9 rfl fi_44_1 rfl w) ?_
  refine f_first 8 (listed' := #[true, true, true, true, true, true, true, true, true, false, false, false, false, false, false, false, false, false, false, false, false, false, false, false, false, false, false, false, false, false, false, false, false, false]) rfl (by kernel_rfl) (by kernel_rfl) (by kernel_rfl) rfl ?_
  refine f_val rfl rfl rfl (by intro t_ w hw; exact x_load (.string b.attr.v) ag_9 rfl (hw.blk_at (i := 0) rfl) rfl) ?_
  refine f_first 9 (listed' := #[true, true, true, true, true, true, true, true, true, true, false, false, false, false, false, false, false, false, false, false, false, false, false, false, false, false, false, false, false, false, false, false, false, false]) rfl (by kernel_rfl) (by kernel_rfl) (by kernel_rfl) rfl ?_
  refine f_enter (args := #[.string a.attr.v, .string b.attr.v]) (v := .int .i64 (cmpSt a.attr.v b.attr.v)) rfl rfl rfl (x_call pl_35 [.string a.attr.v, .string b.attr.v] rfl) (fun t_ w hw => cmp_Compare_string a.attr.v b.attr.v hw) ?_
  refine f_first 10 (listed' := #[true, true, true, true, true, true, true, true, true, true, true, false, false, false, false, false, false, false, false, false, false, false, false, false, false, false, false, false, false, false, false, false, false, false]) rfl (by kernel_rfl) (by kernel_rfl) (by kernel_rfl) rfl ?_
  refine f_val rfl rfl rfl (by intro t_ w hw; exact x_fieldAddr 44 2 2 2 42 rfl fi_44_2 rfl w) ?_
  refine f_first 11 (listed' := #[true, true, true, true, true, true, true, true, true, true, true, true, false, false, false, false, false, false, false, false, false, false, false, false, false, false, false, false, false, false, false, false, false, false]) rfl (by kernel_rfl) (by kernel_rfl) (by kernel_rfl) rfl ?_
  refine f_val rfl rfl rfl (by intro t_ w hw; exact x_fieldAddr 42 0 0 2 3 rfl fi_42_0 rfl w) ?_
  refine f_first 12 (listed' := #[true, true, true, true, true, true, true, true, true, true, true, true, true, false, false, false, false, false, false, false, false, false, false, false, false, false, false, false, false, false, false, false, false, false]) rfl (by kernel_rfl) (by kernel_rfl) (by kernel_rfl) rfl ?_
  refine f_val rfl rfl rfl (by intro t_ w hw; exact x_load (.int .i64 a.val.kind.v) ag_3 rfl (hw.blk_at (i := 1) rfl) rfl) ?_
  refine f_first 13 (listed' := #[true, true, true, true, true, true, true, true, true, true, true, true, true, true, false, false, false, false, false, false, false, false, false, false, false, false, false, false, false, false, false, false, false, false]) rfl (by kernel_rfl) (by kernel_rfl) (by kernel_rfl) rfl ?_
  refine f_val rfl rfl rfl (by intro t_ w hw; exact x_fieldAddr 44 2 2 2 42 rfl fi_44_2 rfl w) ?_
  refine f_first 14 (listed' := #[true, true, true, true, true, true, true, true, true, true, true, true, true, true, true, false, false, false, false, false, false, false, false, false, false, false, false, false, false, false, false, false, false, false]) rfl (by kernel_rfl) (by kernel_rfl) (by kernel_rfl) rfl ?_
  refine f_val rfl rfl rfl (by intro t_ w hw; exact x_fieldAddr 42 0 0 2 3 rfl fi_42_0 rfl w) ?_
  refine f_first 15 (listed' := #[true, true, true, true, true, true, true, true, true, true, true, true, true, true, true, true, false, false, false, false, false, false, false, false, false, false, false, false, false, false, false, false, false, false]) rfl (by kernel_rfl) (by kernel_rfl) (by kernel_rfl) rfl ?_
  refine f_val rfl rfl rfl (by intro t_ w hw; exact x_load (.int .i64 b.val.kind.v) ag_3 rfl (hw.blk_at (i := 0) rfl) rfl) ?_
  refine f_first 16 (listed' := #[true, true, true, true, true, true, true, true, true, true, true, true, true, true, true, true, true, false, false, false, false, false, false, false, false, false, false, false, false, false, false, false, false, false]) rfl (by kernel_rfl) (by kernel_rfl) (by kernel_rfl) rfl ?_
  refine f_enter (args := #[.int .i64 a.val.kind.v, .int .i64 b.val.kind.v]) (v := .int .i64 (cmpI a.val.kind.v b.val.kind.v)) rfl rfl rfl (x_call pl_34 [.int .i64 a.val.kind.v, .int .i64 b.val.kind.v] rfl) (fun t_ w hw => cmp_Compare_int a.val.kind.v b.val.kind.v hw) ?_
  refine f_first 17 (listed' := #[true, true, true, true, true, true, true, true, true, true, true, true, true, true, true, true, true, true, false, false, false, false, false, false, false, false, false, false, false, false, false, false, false, false]) rfl (by kernel_rfl) (by kernel_rfl) (by kernel_rfl) rfl ?_
  refine f_val rfl rfl rfl (by intro t_ w hw; exact x_fieldAddr 44 2 2 2 42 rfl fi_44_2 rfl w) ?_
  refine f_first 18 (listed' := #[true, true, true, true, true, true, true, true, true, true, true, true, true, true, true, true, true, true, true, false, false, false, false, false, false, false, false, false, false, false, false, false, false, false]) rfl (by kernel_rfl) (by kernel_rfl) (by kernel_rfl) rfl ?_
  refine f_val rfl rfl rfl (by intro t_ w hw; exact x_fieldAddr 42 1 1 3 2 rfl fi_42_1 rfl w) ?_
  refine f_first 19 (listed' := #[true, true, true, true, true, true, true, true, true, true, true, true, true, true, true, true, true, true, true, true, false, false, false, false, false, false, false, false, false, false, false, false, false, false]) rfl (by kernel_rfl) (by kernel_rfl) (by kernel_rfl) rfl ?_
  refine f_val rfl rfl rfl (by intro t_ w hw; exact x_load (.int .i64 a.val.n.v) ag_2 rfl (hw.blk_at (i := 1) rfl) rfl) ?_
  refine f_first 20 (listed' := #[true, true, true, true, true, true, true, true, true, true, true, true, true, true, true, true, true, true, true, true, true, false, false, false, false, false, false, false, false, false, false, false, false, false]) rfl (by kernel_rfl) (by kernel_rfl) (by kernel_rfl) rfl ?_
  refine f_val rfl rfl rfl (by intro t_ w hw; exact x_fieldAddr 44 2 2 2 42 rfl fi_44_2 rfl w) ?_
  refine f_first 21 (listed' := #[true, true, true, true, true, true, true, true, true, true, true, true, true, true, true, true, true, true, true, true, true, true, false, false, false, false, false, false, false, false, false, false, false, false]) rfl (by kernel_rfl) (by kernel_rfl) (by kernel_rfl) rfl ?_
  refine f_val rfl rfl rfl (by intro t_ w hw; exact x_fieldAddr 42 1 1 3 2 rfl fi_42_1 rfl w) ?_
  refine f_first 22 (listed' := #[true, true, true, true, true, true, true, true, true, true, true, true, true, true, true, true, true, true, true, true, true, true, true, false, false, false, false, false, false, false, false, false, false, false]) rfl (by kernel_rfl) (by kernel_rfl) (by kernel_rfl) rfl ?_
  refine f_val rfl rfl rfl (by intro t_ w hw; exact x_load (.int .i64 b.val.n.v) ag_2 rfl (hw.blk_at (i := 0) rfl) rfl) ?_
  refine f_first 23 (listed' := #[true, true, true, true, true, true, true, true, true, true, true, true, true, true, true, true, true, true, true, true, true, true, true, true, false, false, false, false, false, false, false, false, false, false]) rfl (by kernel_rfl) (by kernel_rfl) (by kernel_rfl) rfl ?_
  refine f_enter (args := #[.int .i64 a.val.n.v, .int .i64 b.val.n.v]) (v := .int .i64 (cmpI a.val.n.v b.val.n.v)) rfl rfl rfl (x_call pl_74 [.int .i64 a.val.n.v, .int .i64 b.val.n.v] rfl) (fun t_ w hw => cmp_Compare_int64 a.val.n.v b.val.n.v hw) ?_
  refine f_first 24 (listed' := #[true, true, true, true, true, true, true, true, true, true, true, true, true, true, true, true, true, true, true, true, true, true, true, true, true, false, false, false, false, false, false, false, false, false]) rfl (by kernel_rfl) (by kernel_rfl) (by kernel_rfl) rfl ?_
  refine f_val rfl rfl rfl (by intro t_ w hw; exact x_fieldAddr 44 2 2 2 42 rfl fi_44_2 rfl w) ?_
  refine f_first 25 (listed' := #[true, true, true, true, true, true, true, true, true, true, true, true, true, true, true, true, true, true, true, true, true, true, true, true, true, true, false, false, false, false, false, false, false, false]) rfl (by kernel_rfl) (by kernel_rfl) (by kernel_rfl) rfl ?_
  refine f_val rfl rfl rfl (by intro t_ w hw; exact x_fieldAddr 42 2 2 4 9 rfl fi_42_2 rfl w) ?_
  refine f_first 26 (listed' := #[true, true, true, true, true, true, true, true, true, true, true, true, true, true, true, true, true, true, true, true, true, true, true, true, true, true, true, false, false, false, false, false, false, false]) rfl (by kernel_rfl) (by kernel_rfl) (by kernel_rfl) rfl ?_
  refine f_val rfl rfl rfl (by intro t_ w hw; exact x_load (.string a.val.s.v) ag_9 rfl (hw.blk_at (i := 1) rfl) rfl) ?_
  refine f_first 27 (listed' := #[true, true, true, true, true, true, true, true, true, true, true, true, true, true, true, true, true, true, true, true, true, true, true, true, true, true, true, true, false, false, false, false, false, false]) rfl (by kernel_rfl) (by kernel_rfl) (by kernel_rfl) rfl ?_
  refine f_val rfl rfl rfl (by intro t_ w hw; exact x_fieldAddr 44 2 2 2 42 rfl fi_44_2 rfl w) ?_
  refine f_first 28 (listed' := #[true, true, true, true, true, true, true, true, true, true, true, true, true, true, true, true, true, true, true, true, true, true, true, true, true, true, true, true, true, false, false, false, false, false]) rfl (by kernel_rfl) (by kernel_rfl) (by kernel_rfl) rfl ?_
  refine f_val rfl rfl rfl (by intro t_ w hw; exact x_fieldAddr 42 2 2 4 9 rfl fi_42_2 rfl w) ?_
  refine f_first 29 (listed' := #[true, true, true, true, true, true, true, true, true, true, true, true, true, true, true, true, true, true, true, true, true, true, true, true, true, true, true, true, true, true, false, false, false, false]) rfl (by kernel_rfl) (by kernel_rfl) (by kernel_rfl) rfl ?_
  refine f_val rfl rfl rfl (by intro t_ w hw; exact x_load (.string b.val.s.v) ag_9 rfl (hw.blk_at (i := 0) rfl) rfl) ?_
  refine f_first 30 (listed' := #[true, true, true, true, true, true, true, true, true, true, true, true, true, true, true, true, true, true, true, true, true, true, true, true, true, true, true, true, true, true, true, false, false, false]) rfl (by kernel_rfl) (by kernel_rfl) (by kernel_rfl) rfl ?_
  refine f_enter (args := #[.string a.val.s.v, .string b.val.s.v]) (v := .int .i64 (cmpSt a.val.s.v b.val.s.v)) rfl rfl rfl (x_call pl_35 [.string a.val.s.v, .string b.val.s.v] rfl) (fun t_ w hw => cmp_Compare_string a.val.s.v b.val.s.v hw) ?_
  refine f_all (rs := [31]) (by kernel_rfl) (by simp) ?_
  refine a_cons ⟨_, rfl, ?_⟩ (fun x hx => absurd hx (by simp))
  intro w7 H8
  try dsimp only at H8
  refine s_buildSlice H8 1 5 (cs := #[.int .i64 (cmpSt a.var.v b.var.v), .int .i64 (cmpSt a.attr.v b.attr.v), .int .i64 (cmpI a.val.kind.v b.val.kind.v), .int .i64 (cmpI a.val.n.v b.val.n.v), .int .i64 (cmpSt a.val.s.v b.val.s.v)]) #[.int .i64 0] el_69 ze_3 (by decide) (by decide) (by kernel_rfl) rfl ?_; intro bk9 w10 H11
  have H12 : St W w10 (blk bk4 (.cells #[.string b.var.v, .string b.attr.v, .int .i64 b.val.kind.v, .int .i64 b.val.n.v, .string b.val.s.v] 44 (0, 0)) :: blk bk1 (.cells #[.string a.var.v, .string a.attr.v, .int .i64 a.val.kind.v, .int .i64 a.val.n.v, .string a.val.s.v] 44 (0, 0)) :: blk bk9 (.cells #[.int .i64 (cmpSt a.var.v b.var.v), .int .i64 (cmpSt a.attr.v b.attr.v), .int .i64 (cmpI a.val.kind.v b.val.kind.v), .int .i64 (cmpI a.val.n.v b.val.n.v), .int .i64 (cmpSt a.val.s.v b.val.s.v)] 3 (0, 0)) :: F) := ((H11.move 2 rfl).move 2 rfl)
  refine ⟨blk bk9 (.cells #[.int .i64 (cmpSt a.var.v b.var.v), .int .i64 (cmpSt a.attr.v b.attr.v), .int .i64 (cmpI a.val.kind.v b.val.kind.v), .int .i64 (cmpI a.val.n.v b.val.n.v), .int .i64 (cmpSt a.val.s.v b.val.s.v)] 3 (0, 0)) :: F, ?_, H12⟩
  change FReg _ _ _ _ _ #[true, true, true, true, true, true, true, true, true, true, true, true, true, true, true, true, true, true, true, true, true, true, true, true, true, true, true, true, true, true, true, true, false, false] _ _
  refine f_all (rs := [32]) (by kernel_rfl) (by simp) ?_
  refine a_cons ⟨_, rfl, ?_⟩ (fun x hx => absurd hx (by simp))
  intro w13 H14
  try dsimp only at H14
  have H15 := Row.cut (n := 0) (m := 5) (c := 5) (size := 1) (xs := [.int .i64 (cmpSt a.var.v b.var.v), .int .i64 (cmpSt a.attr.v b.attr.v), .int .i64 (cmpI a.val.kind.v b.val.kind.v), .int .i64 (cmpI a.val.n.v b.val.n.v), .int .i64 (cmpSt a.val.s.v b.val.s.v)]) H14 (i := 2) rfl (by decide) (by decide +kernel) rfl rfl (by simp [Value.oneCell'])
  have H16 : St W w13 (blk bk4 (.cells #[.string b.var.v, .string b.attr.v, .int .i64 b.val.kind.v, .int .i64 b.val.n.v, .string b.val.s.v] 44 (0, 0)) :: blk bk1 (.cells #[.string a.var.v, .string a.attr.v, .int .i64 a.val.kind.v, .int .i64 a.val.n.v, .string a.val.s.v] 44 (0, 0)) :: Row 3 1 (.slice (some ⟨bk9, 0, none⟩) 5 5) 5 [.int .i64 (cmpSt a.var.v b.var.v), .int .i64 (cmpSt a.attr.v b.attr.v), .int .i64 (cmpI a.val.kind.v b.val.kind.v), .int .i64 (cmpI a.val.n.v b.val.n.v), .int .i64 (cmpSt a.val.s.v b.val.s.v)] :: F) := H15
  have H17 : St W w13 (blk bk4 (.cells #[.string b.var.v, .string b.attr.v, .int .i64 b.val.kind.v, .int .i64 b.val.n.v, .string b.val.s.v] 44 (0, 0)) :: blk bk1 (.cells #[.string a.var.v, .string a.attr.v, .int .i64 a.val.kind.v, .int .i64 a.val.n.v, .string a.val.s.v] 44 (0, 0)) :: Im 1 (.slice (some ⟨bk9, 0, none⟩) 5 5) 5 ([cmpSt a.var.v b.var.v, cmpSt a.attr.v b.attr.v, cmpI a.val.kind.v b.val.kind.v, cmpI a.val.n.v b.val.n.v, cmpSt a.val.s.v b.val.s.v].flatMap iC) :: F) := Row.im H16 (i := 2) rfl
  refine s_call [.slice (some ⟨bk9, 0, none⟩) 5 5] pl_33 rfl rfl (cmp_Or [cmpSt a.var.v b.var.v, cmpSt a.attr.v b.attr.v, cmpI a.val.kind.v b.val.kind.v, cmpI a.val.n.v b.val.n.v, cmpSt a.val.s.v b.val.s.v] (.slice (some ⟨bk9, 0, none⟩) 5 5) (m := 2) rfl H17) ?_
  rintro _ w18 ⟨rfl, H19⟩
  refine ⟨Im 1 (.slice (some ⟨bk9, 0, none⟩) 5 5) 5 ([cmpSt a.var.v b.var.v, cmpSt a.attr.v b.attr.v, cmpI a.val.kind.v b.val.kind.v, cmpI a.val.n.v b.val.n.v, cmpSt a.val.s.v b.val.s.v].flatMap iC) :: F, ?_, H19⟩
  change FReg _ _ _ _ _ #[true, true, true, true, true, true, true, true, true, true, true, true, true, true, true, true, true, true, true, true, true, true, true, true, true, true, true, true, true, true, true, true, true, false] _ _
  refine f_first 33 (listed' := #[true, true, true, true, true, true, true, true, true, true, true, true, true, true, true, true, true, true, true, true, true, true, true, true, true, true, true, true, true, true, true, true, true, true]) rfl (by kernel_rfl) (by kernel_rfl) (by kernel_rfl) rfl ?_
  refine f_val rfl rfl rfl (by intro t_ w hw; exact x_assign (.int .i64 (firstE [cmpSt a.var.v b.var.v, cmpSt a.attr.v b.attr.v, cmpI a.val.kind.v b.val.kind.v, cmpI a.val.n.v b.val.n.v, cmpSt a.val.s.v b.val.s.v])) rfl w) ?_
  refine f_done (by kernel_rfl) ?_
  intro w20 H21
  refine g_ret' [.int .i64 (firstE [cmpSt a.var.v b.var.v, cmpSt a.attr.v b.attr.v, cmpI a.val.kind.v b.val.kind.v, cmpI a.val.n.v b.val.n.v, cmpSt a.val.s.v b.val.s.v])] Try.func63 Try.results63 ⟨rfl, trivial⟩ ?_
  have H22 : St W w20 F := (((H21.drop 0 rfl).drop 0 rfl).drop 0 rfl)
  exact ⟨rfl, H22⟩
set_option maxHeartbeats 4000000 in
set_option maxRecDepth 100000 in
theorem ref08_operands {W w : World} {F : List Atom} (a b : OpdV) (H : St W w F) : Calls Try.prog 64 #[.agg #[.string a.var.v, .string a.attr.v, .int .i64 a.val.kind.v, .int .i64 a.val.n.v, .string a.val.s.v], .agg #[.string b.var.v, .string b.attr.v, .int .i64 b.val.kind.v, .int .i64 b.val.n.v, .string b.val.s.v]] w (Ret fun v w' => v = .int .i64 (opdC a b) ∧ St W w' F) := by
  refine calls_of_go (n := 38) Try.func64 rfl Try.ntmps64 rfl ?_
  refine g_seq ?_
  refine g_region ?_
  refine r_cons (s_box H 44 (.agg #[.string a.var.v, .string a.attr.v, .int .i64 a.val.kind.v, .int .i64 a.val.n.v, .string a.val.s.v]) rfl (cs := #[.string a.var.v, .string a.attr.v, .int .i64 a.val.kind.v, .int .i64 a.val.n.v, .string a.val.s.v]) rfl rfl ?_); intro bk1 w2 H3
  refine r_cons (s_box H3 44 (.agg #[.string b.var.v, .string b.attr.v, .int .i64 b.val.kind.v, .int .i64 b.val.n.v, .string b.val.s.v]) rfl (cs := #[.string b.var.v, .string b.attr.v, .int .i64 b.val.kind.v, .int .i64 b.val.n.v, .string b.val.s.v]) rfl rfl ?_); intro bk4 w5 H6
  refine r_cons (s_assign (.int .i64 0) rfl rfl ?_)
  refine r_nil ?_
  refine g_seq ?_
  refine g_mix (fun t_ w => St W w (blk bk4 (.cells #[.string b.var.v, .string b.attr.v, .int .i64 b.val.kind.v, .int .i64 b.val.n.v, .string b.val.s.v] 44 (0, 0)) :: blk bk1 (.cells #[.string a.var.v, .string a.attr.v, .int .i64 a.val.kind.v, .int .i64 a.val.n.v, .string a.val.s.v] 44 (0, 0)) :: t_)) F mixed 34 rfl H6.drew ?_
  refine f_first 0 (listed' := #[true, false, false, false, false, false, false, false, false, false, false, false, false, false, false, false, false, false, false, false, false, false, false, false, false, false, false, false, false, false, false, false, false, false]) rfl (by kernel_rfl) (by kernel_rfl) (by kernel_rfl) rfl ?_
  refine f_val rfl rfl rfl (by intro t_ w hw; exact x_fieldAddr 44 0 0 0 9 rfl fi_44_0 rfl w) ?_
  refine f_first 1 (listed' := #[true, true, false, false, false, false, false, false, false, false, false, false, false, false, false, false, false, false, false, false, false, false, false, false, false, false, false, false, false, false, false, false, false, false]) rfl (by kernel_rfl) (by kernel_rfl) (by kernel_rfl) rfl ?_
  refine f_val rfl rfl rfl (by intro t_ w hw; exact x_load (.string a.var.v) ag_9 rfl (hw.blk_at (i := 1) rfl) rfl) ?_
  refine f_first 2 (listed' := #[true, true, true, false, false, false, false, false, false, false, false, false, false, false, false, false, false, false, false, false, false, false, false, false, false, false, false, false, false, false, false, false, false, false]) rfl (by kernel_rfl) (by kernel_rfl) (by kernel_rfl) rfl ?_
  refine f_val rfl rfl rfl (by intro t_ w hw; exact x_fieldAddr 44 0 0 0 9 rfl fi_44_0 rfl w) ?_
  refine f_first 3 (listed' := #[true, true, true, true, false, false, false, false, false, false, false, false, false, false, false, false, false, false, false, false, false, false, false, false, false, false, false, false, false, false, false, false, false, false]) rfl (by kernel_rfl) (by kernel_rfl) (by kernel_rfl) rfl ?_
  refine f_val rfl rfl rfl (by intro t_ w hw; exact x_load (.string b.var.v) ag_9 rfl (hw.blk_at (i := 0) rfl) rfl) ?_
  refine f_first 4 (listed' := #[true, true, true, true, true, false, false, false, false, false, false, false, false, false, false, false, false, false, false, false, false, false, false, false, false, false, false, false, false, false, false, false, false, false]) rfl (by kernel_rfl) (by kernel_rfl) (by kernel_rfl) rfl ?_
  refine f_enter (args := #[.string a.var.v, .string b.var.v]) (v := .int .i64 (cmpSt a.var.v b.var.v)) rfl rfl rfl (x_call pl_42 [.string a.var.v, .string b.var.v] rfl) (fun t_ w hw => ref08_string a.var.v b.var.v hw) ?_
  refine f_first 5 (listed' := #[true, true, true, true, true, true, false, false, false, false, false, false, false, false, false, false, false, false, false, false, false, false, false, false, false, false, false, false, false, false, false, false, false, false]) rfl (by kernel_rfl) (by kernel_rfl) (by kernel_rfl) rfl ?_
  refine f_val rfl rfl rfl (by intro t_ w hw; exact x_fieldAddr 44 1 1 1 9 rfl fi_44_1 rfl w) ?_
  refine f_first 6 (listed' := #[true, true, true, true, true, true, true, false, false, false, false, false, false, false, false, false, false, false, false, false, false, false, false, false, false, false, false, false, false, false, false, false, false, false]) rfl (by kernel_rfl) (by kernel_rfl) (by kernel_rfl) rfl ?_
  refine f_val rfl rfl rfl (by intro t_ w hw; exact x_load (.string a.attr.v) ag_9 rfl (hw.blk_at (i := 1) rfl) rfl) ?_
  refine f_first 7 (listed' := #[true, true, true, true, true, true, true, true, false, false, false, false, false, false, false, false, false, false, false, false, false, false, false, false, false, false, false, false, false, false, false, false, false, false]) rfl (by kernel_rfl) (by kernel_rfl) (by kernel_rfl) rfl ?_
  refine f_val rfl rfl rfl (by intro t_ w hw; exact x_fieldAddr 44 1 1 1 9 rfl fi_44_1 rfl w) ?_
  refine f_first 8 (listed' := #[true, true, true, true, true, true, true, true, true, false, false, false, false, false, false, false, false, false, false, false, false, false, false, false, false, false, false, false, false, false, false, false, false, false]) rfl (by kernel_rfl) (by kernel_rfl) (by kernel_rfl) rfl ?_
  refine f_val rfl rfl rfl (by intro t_ w hw; exact x_load (.string b.attr.v) ag_9 rfl (hw.blk_at (i := 0) rfl) rfl) ?_
  refine f_first 9 (listed' := #[true, true, true, true, true, true, true, true, true, true, false, false, false, false, false, false, false, false, false, false, false, false, false, false, false, false, false, false, false, false, false, false, false, false]) rfl (by kernel_rfl) (by kernel_rfl) (by kernel_rfl) rfl ?_
  refine f_enter (args := #[.string a.attr.v, .string b.attr.v]) (v := .int .i64 (cmpSt a.attr.v b.attr.v)) rfl rfl rfl (x_call pl_42 [.string a.attr.v, .string b.attr.v] rfl) (fun t_ w hw => ref08_string a.attr.v b.attr.v hw) ?_
  refine f_first 10 (listed' := #[true, true, true, true, true, true, true, true, true, true, true, false, false, false, false, false, false, false, false, false, false, false, false, false, false, false, false, false, false, false, false, false, false, false]) rfl (by kernel_rfl) (by kernel_rfl) (by kernel_rfl) rfl ?_
  refine f_val rfl rfl rfl (by intro t_ w hw; exact x_fieldAddr 44 2 2 2 42 rfl fi_44_2 rfl w) ?_
  refine f_first 11 (listed' := #[true, true, true, true, true, true, true, true, true, true, true, true, false, false, false, false, false, false, false, false, false, false, false, false, false, false, false, false, false, false, false, false, false, false]) rfl (by kernel_rfl) (by kernel_rfl) (by kernel_rfl) rfl ?_
  refine f_val rfl rfl rfl (by intro t_ w hw; exact x_fieldAddr 42 0 0 2 3 rfl fi_42_0 rfl w) ?_
  refine f_first 12 (listed' := #[true, true, true, true, true, true, true, true, true, true, true, true, true, false, false, false, false, false, false, false, false, false, false, false, false, false, false, false, false, false, false, false, false, false]) rfl (by kernel_rfl) (by kernel_rfl) (by kernel_rfl) rfl ?_
  refine f_val rfl rfl rfl (by intro t_ w hw; exact x_load (.int .i64 a.val.kind.v) ag_3 rfl (hw.blk_at (i := 1) rfl) rfl) ?_
  refine f_first 13 (listed' := #[true, true, true, true, true, true, true, true, true, true, true, true, true, true, false, false, false, false, false, false, false, false, false, false, false, false, false, false, false, false, false, false, false, false]) rfl (by kernel_rfl) (by kernel_rfl) (by kernel_rfl) rfl ?_
  refine f_val rfl rfl rfl (by intro t_ w hw; exact x_fieldAddr 44 2 2 2 42 rfl fi_44_2 rfl w) ?_
  refine f_first 14 (listed' := #[true, true, true, true, true, true, true, true, true, true, true, true, true, true, true, false, false, false, false, false, false, false, false, false, false, false, false, false, false, false, false, false, false, false]) rfl (by kernel_rfl) (by kernel_rfl) (by kernel_rfl) rfl ?_
  refine f_val rfl rfl rfl (by intro t_ w hw; exact x_fieldAddr 42 0 0 2 3 rfl fi_42_0 rfl w) ?_
  refine f_first 15 (listed' := #[true, true, true, true, true, true, true, true, true, true, true, true, true, true, true, true, false, false, false, false, false, false, false, false, false, false, false, false, false, false, false, false, false, false]) rfl (by kernel_rfl) (by kernel_rfl) (by kernel_rfl) rfl ?_
  refine f_val rfl rfl rfl (by intro t_ w hw; exact x_load (.int .i64 b.val.kind.v) ag_3 rfl (hw.blk_at (i := 0) rfl) rfl) ?_
  refine f_first 16 (listed' := #[true, true, true, true, true, true, true, true, true, true, true, true, true, true, true, true, true, false, false, false, false, false, false, false, false, false, false, false, false, false, false, false, false, false]) rfl (by kernel_rfl) (by kernel_rfl) (by kernel_rfl) rfl ?_
  refine f_enter (args := #[.int .i64 a.val.kind.v, .int .i64 b.val.kind.v]) (v := .int .i64 (cmpI a.val.kind.v b.val.kind.v)) rfl rfl rfl (x_call pl_41 [.int .i64 a.val.kind.v, .int .i64 b.val.kind.v] rfl) (fun t_ w hw => ref08_int64 a.val.kind.v b.val.kind.v hw) ?_
  refine f_first 17 (listed' := #[true, true, true, true, true, true, true, true, true, true, true, true, true, true, true, true, true, true, false, false, false, false, false, false, false, false, false, false, false, false, false, false, false, false]) rfl (by kernel_rfl) (by kernel_rfl) (by kernel_rfl) rfl ?_
  refine f_val rfl rfl rfl (by intro t_ w hw; exact x_fieldAddr 44 2 2 2 42 rfl fi_44_2 rfl w) ?_
  refine f_first 18 (listed' := #[true, true, true, true, true, true, true, true, true, true, true, true, true, true, true, true, true, true, true, false, false, false, false, false, false, false, false, false, false, false, false, false, false, false]) rfl (by kernel_rfl) (by kernel_rfl) (by kernel_rfl) rfl ?_
  refine f_val rfl rfl rfl (by intro t_ w hw; exact x_fieldAddr 42 1 1 3 2 rfl fi_42_1 rfl w) ?_
  refine f_first 19 (listed' := #[true, true, true, true, true, true, true, true, true, true, true, true, true, true, true, true, true, true, true, true, false, false, false, false, false, false, false, false, false, false, false, false, false, false]) rfl (by kernel_rfl) (by kernel_rfl) (by kernel_rfl) rfl ?_
  refine f_val rfl rfl rfl (by intro t_ w hw; exact x_load (.int .i64 a.val.n.v) ag_2 rfl (hw.blk_at (i := 1) rfl) rfl) ?_
  refine f_first 20 (listed' := #[true, true, true, true, true, true, true, true, true, true, true, true, true, true, true, true, true, true, true, true, true, false, false, false, false, false, false, false, false, false, false, false, false, false]) rfl (by kernel_rfl) (by kernel_rfl) (by kernel_rfl) rfl ?_
  refine f_val rfl rfl rfl (by intro t_ w hw; exact x_fieldAddr 44 2 2 2 42 rfl fi_44_2 rfl w) ?_
  refine f_first 21 (listed' := #[true, true, true, true, true, true, true, true, true, true, true, true, true, true, true, true, true, true, true, true, true, true, false, false, false, false, false, false, false, false, false, false, false, false]) rfl (by kernel_rfl) (by kernel_rfl) (by kernel_rfl) rfl ?_
  refine f_val rfl rfl rfl (by intro t_ w hw; exact x_fieldAddr 42 1 1 3 2 rfl fi_42_1 rfl w) ?_
  refine f_first 22 (listed' := #[true, true, true, true, true, true, true, true, true, true, true, true, true, true, true, true, true, true, true, true, true, true, true, false, false, false, false, false, false, false, false, false, false, false]) rfl (by kernel_rfl) (by kernel_rfl) (by kernel_rfl) rfl ?_
  refine f_val rfl rfl rfl (by intro t_ w hw; exact x_load (.int .i64 b.val.n.v) ag_2 rfl (hw.blk_at (i := 0) rfl) rfl) ?_
  refine f_first 23 (listed' := #[true, true, true, true, true, true, true, true, true, true, true, true, true, true, true, true, true, true, true, true, true, true, true, true, false, false, false, false, false, false, false, false, false, false]) rfl (by kernel_rfl) (by kernel_rfl) (by kernel_rfl) rfl ?_
  refine f_enter (args := #[.int .i64 a.val.n.v, .int .i64 b.val.n.v]) (v := .int .i64 (cmpI a.val.n.v b.val.n.v)) rfl rfl rfl (x_call pl_41 [.int .i64 a.val.n.v, .int .i64 b.val.n.v] rfl) (fun t_ w hw => ref08_int64 a.val.n.v b.val.n.v hw) ?_
  refine f_first 24 (listed' := #[true, true, true, true, true, true, true, true, true, true, true, true, true, true, true, true, true, true, true, true, true, true, true, true, true, false, false, false, false, false, false, false, false, false]) rfl (by kernel_rfl) (by kernel_rfl) (by kernel_rfl) rfl ?_
  refine f_val rfl rfl rfl (by intro t_ w hw; exact x_fieldAddr 44 2 2 2 42 rfl fi_44_2 rfl w) ?_
  refine f_first 25 (listed' := #[true, true, true, true, true, true, true, true, true, true, true, true, true, true, true, true, true, true, true, true, true, true, true, true, true, true, false, false, false, false, false, false, false, false]) rfl (by kernel_rfl) (by kernel_rfl) (by kernel_rfl) rfl ?_
  refine f_val rfl rfl rfl (by intro t_ w hw; exact x_fieldAddr 42 2 2 4 9 rfl fi_42_2 rfl w) ?_
  refine f_first 26 (listed' := #[true, true, true, true, true, true, true, true, true, true, true, true, true, true, true, true, true, true, true, true, true, true, true, true, true, true, true, false, false, false, false, false, false, false]) rfl (by kernel_rfl) (by kernel_rfl) (by kernel_rfl) rfl ?_
  refine f_val rfl rfl rfl (by intro t_ w hw; exact x_load (.string a.val.s.v) ag_9 rfl (hw.blk_at (i := 1) rfl) rfl) ?_
  refine f_first 27 (listed' := #[true, true, true, true, true, true, true, true, true, true, true, true, true, true, true, true, true, true, true, true, true, true, true, true, true, true, true, true, false, false, false, false, false, false]) rfl (by kernel_rfl) (by kernel_rfl) (by kernel_rfl) rfl ?_
  refine f_val rfl rfl rfl (by intro t_ w hw; exact x_fieldAddr 44 2 2 2 42 rfl fi_44_2 rfl w) ?_
  refine f_first 28 (listed' := #[true, true, true, true, true, true, true, true, true, true, true, true, true, true, true, true, true, true, true, true, true, true, true, true, true, true, true, true, true, false, false, false, false, false]) rfl (by kernel_rfl) (by kernel_rfl) (by kernel_rfl) rfl ?_
  refine f_val rfl rfl rfl (by intro t_ w hw; exact x_fieldAddr 42 2 2 4 9 rfl fi_42_2 rfl w) ?_
  refine f_first 29 (listed' := #[true, true, true, true, true, true, true, true, true, true, true, true, true, true, true, true, true, true, true, true, true, true, true, true, true, true, true, true, true, true, false, false, false, false]) rfl (by kernel_rfl) (by kernel_rfl) (by kernel_rfl) rfl ?_
  refine f_val rfl rfl rfl (by intro t_ w hw; exact x_load (.string b.val.s.v) ag_9 rfl (hw.blk_at (i := 0) rfl) rfl) ?_
  refine f_first 30 (listed' := #[true, true, true, true, true, true, true, true, true, true, true, true, true, true, true, true, true, true, true, true, true, true, true, true, true, true, true, true, true, true, true, false, false, false]) rfl (by kernel_rfl) (by kernel_rfl) (by kernel_rfl) rfl ?_
  refine f_enter (args := #[.string a.val.s.v, .string b.val.s.v]) (v := .int .i64 (cmpSt a.val.s.v b.val.s.v)) rfl rfl rfl (x_call pl_42 [.string a.val.s.v, .string b.val.s.v] rfl) (fun t_ w hw => ref08_string a.val.s.v b.val.s.v hw) ?_
  refine f_all (rs := [31]) (by kernel_rfl) (by simp) ?_
  refine a_cons ⟨_, rfl, ?_⟩ (fun x hx => absurd hx (by simp))
  intro w7 H8
  try dsimp only at H8
  refine s_buildSlice H8 1 5 (cs := #[.int .i64 (cmpSt a.var.v b.var.v), .int .i64 (cmpSt a.attr.v b.attr.v), .int .i64 (cmpI a.val.kind.v b.val.kind.v), .int .i64 (cmpI a.val.n.v b.val.n.v), .int .i64 (cmpSt a.val.s.v b.val.s.v)]) #[.int .i64 0] el_69 ze_3 (by decide) (by decide) (by kernel_rfl) rfl ?_; intro bk9 w10 H11
  have H12 : St W w10 (blk bk4 (.cells #[.string b.var.v, .string b.attr.v, .int .i64 b.val.kind.v, .int .i64 b.val.n.v, .string b.val.s.v] 44 (0, 0)) :: blk bk1 (.cells #[.string a.var.v, .string a.attr.v, .int .i64 a.val.kind.v, .int .i64 a.val.n.v, .string a.val.s.v] 44 (0, 0)) :: blk bk9 (.cells #[.int .i64 (cmpSt a.var.v b.var.v), .int .i64 (cmpSt a.attr.v b.attr.v), .int .i64 (cmpI a.val.kind.v b.val.kind.v), .int .i64 (cmpI a.val.n.v b.val.n.v), .int .i64 (cmpSt a.val.s.v b.val.s.v)] 3 (0, 0)) :: F) := ((H11.move 2 rfl).move 2 rfl)
  refine ⟨blk bk9 (.cells #[.int .i64 (cmpSt a.var.v b.var.v), .int .i64 (cmpSt a.attr.v b.attr.v), .int .i64 (cmpI a.val.kind.v b.val.kind.v), .int .i64 (cmpI a.val.n.v b.val.n.v), .int .i64 (cmpSt a.val.s.v b.val.s.v)] 3 (0, 0)) :: F, ?_, H12⟩
  change FReg _ _ _ _ _ #[true, true, true, true, true, true, true, true, true, true, true, true, true, true, true, true, true, true, true, true, true, true, true, true, true, true, true, true, true, true, true, true, false, false] _ _
  refine f_all (rs := [32]) (by kernel_rfl) (by simp) ?_
  refine a_cons ⟨_, rfl, ?_⟩ (fun x hx => absurd hx (by simp))
  intro w13 H14
  try dsimp only at H14
  have H15 := Row.cut (n := 0) (m := 5) (c := 5) (size := 1) (xs := [.int .i64 (cmpSt a.var.v b.var.v), .int .i64 (cmpSt a.attr.v b.attr.v), .int .i64 (cmpI a.val.kind.v b.val.kind.v), .int .i64 (cmpI a.val.n.v b.val.n.v), .int .i64 (cmpSt a.val.s.v b.val.s.v)]) H14 (i := 2) rfl (by decide) (by decide +kernel) rfl rfl (by simp [Value.oneCell'])
  have H16 : St W w13 (blk bk4 (.cells #[.string b.var.v, .string b.attr.v, .int .i64 b.val.kind.v, .int .i64 b.val.n.v, .string b.val.s.v] 44 (0, 0)) :: blk bk1 (.cells #[.string a.var.v, .string a.attr.v, .int .i64 a.val.kind.v, .int .i64 a.val.n.v, .string a.val.s.v] 44 (0, 0)) :: Row 3 1 (.slice (some ⟨bk9, 0, none⟩) 5 5) 5 [.int .i64 (cmpSt a.var.v b.var.v), .int .i64 (cmpSt a.attr.v b.attr.v), .int .i64 (cmpI a.val.kind.v b.val.kind.v), .int .i64 (cmpI a.val.n.v b.val.n.v), .int .i64 (cmpSt a.val.s.v b.val.s.v)] :: F) := H15
  have H17 : St W w13 (blk bk4 (.cells #[.string b.var.v, .string b.attr.v, .int .i64 b.val.kind.v, .int .i64 b.val.n.v, .string b.val.s.v] 44 (0, 0)) :: blk bk1 (.cells #[.string a.var.v, .string a.attr.v, .int .i64 a.val.kind.v, .int .i64 a.val.n.v, .string a.val.s.v] 44 (0, 0)) :: Im 1 (.slice (some ⟨bk9, 0, none⟩) 5 5) 5 ([cmpSt a.var.v b.var.v, cmpSt a.attr.v b.attr.v, cmpI a.val.kind.v b.val.kind.v, cmpI a.val.n.v b.val.n.v, cmpSt a.val.s.v b.val.s.v].flatMap iC) :: F) := Row.im H16 (i := 2) rfl
  refine s_call [.slice (some ⟨bk9, 0, none⟩) 5 5] pl_40 rfl rfl (ref08_first [cmpSt a.var.v b.var.v, cmpSt a.attr.v b.attr.v, cmpI a.val.kind.v b.val.kind.v, cmpI a.val.n.v b.val.n.v, cmpSt a.val.s.v b.val.s.v] (.slice (some ⟨bk9, 0, none⟩) 5 5) (m := 2) rfl H17) ?_
  rintro _ w18 ⟨rfl, H19⟩
  refine ⟨Im 1 (.slice (some ⟨bk9, 0, none⟩) 5 5) 5 ([cmpSt a.var.v b.var.v, cmpSt a.attr.v b.attr.v, cmpI a.val.kind.v b.val.kind.v, cmpI a.val.n.v b.val.n.v, cmpSt a.val.s.v b.val.s.v].flatMap iC) :: F, ?_, H19⟩
  change FReg _ _ _ _ _ #[true, true, true, true, true, true, true, true, true, true, true, true, true, true, true, true, true, true, true, true, true, true, true, true, true, true, true, true, true, true, true, true, true, false] _ _
  refine f_first 33 (listed' := #[true, true, true, true, true, true, true, true, true, true, true, true, true, true, true, true, true, true, true, true, true, true, true, true, true, true, true, true, true, true, true, true, true, true]) rfl (by kernel_rfl) (by kernel_rfl) (by kernel_rfl) rfl ?_
  refine f_val rfl rfl rfl (by intro t_ w hw; exact x_assign (.int .i64 (firstE [cmpSt a.var.v b.var.v, cmpSt a.attr.v b.attr.v, cmpI a.val.kind.v b.val.kind.v, cmpI a.val.n.v b.val.n.v, cmpSt a.val.s.v b.val.s.v])) rfl w) ?_
  refine f_done (by kernel_rfl) ?_
  intro w20 H21
  refine g_ret' [.int .i64 (firstE [cmpSt a.var.v b.var.v, cmpSt a.attr.v b.attr.v, cmpI a.val.kind.v b.val.kind.v, cmpI a.val.n.v b.val.n.v, cmpSt a.val.s.v b.val.s.v])] Try.func64 Try.results64 ⟨rfl, trivial⟩ ?_
  have H22 : St W w20 F := (((H21.drop 0 rfl).drop 0 rfl).drop 0 rfl)
  exact ⟨rfl, H22⟩
set_option maxHeartbeats 4000000 in
set_option maxRecDepth 100000 in
theorem normal_conds {W w : World} {F : List Atom} (a b : CondV) (H : St W w F) : Calls Try.prog 37 #[.agg #[.string a.left.var.v, .string a.left.attr.v, .int .i64 a.left.val.kind.v, .int .i64 a.left.val.n.v, .string a.left.val.s.v, .int .i64 a.rel.v, .string a.right.var.v, .string a.right.attr.v, .int .i64 a.right.val.kind.v, .int .i64 a.right.val.n.v, .string a.right.val.s.v], .agg #[.string b.left.var.v, .string b.left.attr.v, .int .i64 b.left.val.kind.v, .int .i64 b.left.val.n.v, .string b.left.val.s.v, .int .i64 b.rel.v, .string b.right.var.v, .string b.right.attr.v, .int .i64 b.right.val.kind.v, .int .i64 b.right.val.n.v, .string b.right.val.s.v]] w (Ret fun v w' => v = .int .i64 (condC a b) ∧ St W w' F) := by
  refine calls_of_go (n := 22) Try.func37 rfl Try.ntmps37 rfl ?_
  refine g_seq ?_
  refine g_region ?_
  refine r_cons (s_box H 46 (.agg #[.string a.left.var.v, .string a.left.attr.v, .int .i64 a.left.val.kind.v, .int .i64 a.left.val.n.v, .string a.left.val.s.v, .int .i64 a.rel.v, .string a.right.var.v, .string a.right.attr.v, .int .i64 a.right.val.kind.v, .int .i64 a.right.val.n.v, .string a.right.val.s.v]) rfl (cs := #[.string a.left.var.v, .string a.left.attr.v, .int .i64 a.left.val.kind.v, .int .i64 a.left.val.n.v, .string a.left.val.s.v, .int .i64 a.rel.v, .string a.right.var.v, .string a.right.attr.v, .int .i64 a.right.val.kind.v, .int .i64 a.right.val.n.v, .string a.right.val.s.v]) rfl rfl ?_); intro bk1 w2 H3
  refine r_cons (s_box H3 46 (.agg #[.string b.left.var.v, .string b.left.attr.v, .int .i64 b.left.val.kind.v, .int .i64 b.left.val.n.v, .string b.left.val.s.v, .int .i64 b.rel.v, .string b.right.var.v, .string b.right.attr.v, .int .i64 b.right.val.kind.v, .int .i64 b.right.val.n.v, .string b.right.val.s.v]) rfl (cs := #[.string b.left.var.v, .string b.left.attr.v, .int .i64 b.left.val.kind.v, .int .i64 b.left.val.n.v, .string b.left.val.s.v, .int .i64 b.rel.v, .string b.right.var.v, .string b.right.attr.v, .int .i64 b.right.val.kind.v, .int .i64 b.right.val.n.v, .string b.right.val.s.v]) rfl rfl ?_); intro bk4 w5 H6
  refine r_cons (s_assign (.int .i64 0) rfl rfl ?_)
  refine r_nil ?_
  refine g_seq ?_
  refine g_mix (fun t_ w => St W w (blk bk4 (.cells #[.string b.left.var.v, .string b.left.attr.v, .int .i64 b.left.val.kind.v, .int .i64 b.left.val.n.v, .string b.left.val.s.v, .int .i64 b.rel.v, .string b.right.var.v, .string b.right.attr.v, .int .i64 b.right.val.kind.v, .int .i64 b.right.val.n.v, .string b.right.val.s.v] 46 (0, 0)) :: blk bk1 (.cells #[.string a.left.var.v, .string a.left.attr.v, .int .i64 a.left.val.kind.v, .int .i64 a.left.val.n.v, .string a.left.val.s.v, .int .i64 a.rel.v, .string a.right.var.v, .string a.right.attr.v, .int .i64 a.right.val.kind.v, .int .i64 a.right.val.n.v, .string a.right.val.s.v] 46 (0, 0)) :: t_)) F mixed 18 rfl H6.drew ?_
  refine f_first 0 (listed' := #[true, false, false, false, false, false, false, false, false, false, false, false, false, false, false, false, false, false]) rfl (by kernel_rfl) (by kernel_rfl) (by kernel_rfl) rfl ?_
  refine f_val rfl rfl rfl (by intro t_ w hw; exact x_fieldAddr 46 0 0 0 44 rfl fi_46_0 rfl w) ?_
  refine f_first 1 (listed' := #[true, true, false, false, false, false, false, false, false, false, false, false, false, false, false, false, false, false]) rfl (by kernel_rfl) (by kernel_rfl) (by kernel_rfl) rfl ?_
  refine f_val rfl rfl rfl (by intro t_ w hw; exact x_loadAgg [.string a.left.var.v, .string a.left.attr.v, .int .i64 a.left.val.kind.v, .int .i64 a.left.val.n.v, .string a.left.val.s.v] 5 ag_44 rfl (hw.blk_at (i := 1) rfl) (Nat.le_of_ble_eq_true rfl) rfl) ?_
  refine f_first 2 (listed' := #[true, true, true, false, false, false, false, false, false, false, false, false, false, false, false, false, false, false]) rfl (by kernel_rfl) (by kernel_rfl) (by kernel_rfl) rfl ?_
  refine f_val rfl rfl rfl (by intro t_ w hw; exact x_fieldAddr 46 0 0 0 44 rfl fi_46_0 rfl w) ?_
  refine f_first 3 (listed' := #[true, true, true, true, false, false, false, false, false, false, false, false, false, false, false, false, false, false]) rfl (by kernel_rfl) (by kernel_rfl) (by kernel_rfl) rfl ?_
  refine f_val rfl rfl rfl (by intro t_ w hw; exact x_loadAgg [.string b.left.var.v, .string b.left.attr.v, .int .i64 b.left.val.kind.v, .int .i64 b.left.val.n.v, .string b.left.val.s.v] 5 ag_44 rfl (hw.blk_at (i := 0) rfl) (Nat.le_of_ble_eq_true rfl) rfl) ?_
  refine f_first 4 (listed' := #[true, true, true, true, true, false, false, false, false, false, false, false, false, false, false, false, false, false]) rfl (by kernel_rfl) (by kernel_rfl) (by kernel_rfl) rfl ?_
  refine f_enter (args := #[.agg #[.string a.left.var.v, .string a.left.attr.v, .int .i64 a.left.val.kind.v, .int .i64 a.left.val.n.v, .string a.left.val.s.v], .agg #[.string b.left.var.v, .string b.left.attr.v, .int .i64 b.left.val.kind.v, .int .i64 b.left.val.n.v, .string b.left.val.s.v]]) (v := .int .i64 (opdC a.left b.left)) rfl rfl rfl (x_call pl_63 [.agg #[.string a.left.var.v, .string a.left.attr.v, .int .i64 a.left.val.kind.v, .int .i64 a.left.val.n.v, .string a.left.val.s.v], .agg #[.string b.left.var.v, .string b.left.attr.v, .int .i64 b.left.val.kind.v, .int .i64 b.left.val.n.v, .string b.left.val.s.v]] rfl) (fun t_ w hw => normal_operands a.left b.left hw) ?_
  refine f_first 5 (listed' := #[true, true, true, true, true, true, false, false, false, false, false, false, false, false, false, false, false, false]) rfl (by kernel_rfl) (by kernel_rfl) (by kernel_rfl) rfl ?_
  refine f_val rfl rfl rfl (by intro t_ w hw; exact x_fieldAddr 46 1 5 5 3 rfl fi_46_1 rfl w) ?_
  refine f_first 6 (listed' := #[true, true, true, true, true, true, true, false, false, false, false, false, false, false, false, false, false, false]) rfl (by kernel_rfl) (by kernel_rfl) (by kernel_rfl) rfl ?_
  refine f_val rfl rfl rfl (by intro t_ w hw; exact x_load (.int .i64 a.rel.v) ag_3 rfl (hw.blk_at (i := 1) rfl) rfl) ?_
  refine f_first 7 (listed' := #[true, true, true, true, true, true, true, true, false, false, false, false, false, false, false, false, false, false]) rfl (by kernel_rfl) (by kernel_rfl) (by kernel_rfl) rfl ?_
  refine f_val rfl rfl rfl (by intro t_ w hw; exact x_fieldAddr 46 1 5 5 3 rfl fi_46_1 rfl w) ?_
  refine f_first 8 (listed' := #[true, true, true, true, true, true, true, true, true, false, false, false, false, false, false, false, false, false]) rfl (by kernel_rfl) (by kernel_rfl) (by kernel_rfl) rfl ?_
  refine f_val rfl rfl rfl (by intro t_ w hw; exact x_load (.int .i64 b.rel.v) ag_3 rfl (hw.blk_at (i := 0) rfl) rfl) ?_
  refine f_first 9 (listed' := #[true, true, true, true, true, true, true, true, true, true, false, false, false, false, false, false, false, false]) rfl (by kernel_rfl) (by kernel_rfl) (by kernel_rfl) rfl ?_
  refine f_enter (args := #[.int .i64 a.rel.v, .int .i64 b.rel.v]) (v := .int .i64 (cmpI a.rel.v b.rel.v)) rfl rfl rfl (x_call pl_34 [.int .i64 a.rel.v, .int .i64 b.rel.v] rfl) (fun t_ w hw => cmp_Compare_int a.rel.v b.rel.v hw) ?_
  refine f_first 10 (listed' := #[true, true, true, true, true, true, true, true, true, true, true, false, false, false, false, false, false, false]) rfl (by kernel_rfl) (by kernel_rfl) (by kernel_rfl) rfl ?_
  refine f_val rfl rfl rfl (by intro t_ w hw; exact x_fieldAddr 46 2 6 6 44 rfl fi_46_2 rfl w) ?_
  refine f_first 11 (listed' := #[true, true, true, true, true, true, true, true, true, true, true, true, false, false, false, false, false, false]) rfl (by kernel_rfl) (by kernel_rfl) (by kernel_rfl) rfl ?_
  refine f_val rfl rfl rfl (by intro t_ w hw; exact x_loadAgg [.string a.right.var.v, .string a.right.attr.v, .int .i64 a.right.val.kind.v, .int .i64 a.right.val.n.v, .string a.right.val.s.v] 5 ag_44 rfl (hw.blk_at (i := 1) rfl) (Nat.le_of_ble_eq_true rfl) rfl) ?_
  refine f_first 12 (listed' := #[true, true, true, true, true, true, true, true, true, true, true, true, true, false, false, false, false, false]) rfl (by kernel_rfl) (by kernel_rfl) (by kernel_rfl) rfl ?_
  refine f_val rfl rfl rfl (by intro t_ w hw; exact x_fieldAddr 46 2 6 6 44 rfl fi_46_2 rfl w) ?_
  refine f_first 13 (listed' := #[true, true, true, true, true, true, true, true, true, true, true, true, true, true, false, false, false, false]) rfl (by kernel_rfl) (by kernel_rfl) (by kernel_rfl) rfl ?_
  refine f_val rfl rfl rfl (by intro t_ w hw; exact x_loadAgg [.string b.right.var.v, .string b.right.attr.v, .int .i64 b.right.val.kind.v, .int .i64 b.right.val.n.v, .string b.right.val.s.v] 5 ag_44 rfl (hw.blk_at (i := 0) rfl) (Nat.le_of_ble_eq_true rfl) rfl) ?_
  refine f_first 14 (listed' := #[true, true, true, true, true, true, true, true, true, true, true, true, true, true, true, false, false, false]) rfl (by kernel_rfl) (by kernel_rfl) (by kernel_rfl) rfl ?_
  refine f_enter (args := #[.agg #[.string a.right.var.v, .string a.right.attr.v, .int .i64 a.right.val.kind.v, .int .i64 a.right.val.n.v, .string a.right.val.s.v], .agg #[.string b.right.var.v, .string b.right.attr.v, .int .i64 b.right.val.kind.v, .int .i64 b.right.val.n.v, .string b.right.val.s.v]]) (v := .int .i64 (opdC a.right b.right)) rfl rfl rfl (x_call pl_63 [.agg #[.string a.right.var.v, .string a.right.attr.v, .int .i64 a.right.val.kind.v, .int .i64 a.right.val.n.v, .string a.right.val.s.v], .agg #[.string b.right.var.v, .string b.right.attr.v, .int .i64 b.right.val.kind.v, .int .i64 b.right.val.n.v, .string b.right.val.s.v]] rfl) (fun t_ w hw => normal_operands a.right b.right hw) ?_
  refine f_all (rs := [15]) (by kernel_rfl) (by simp) ?_
  refine a_cons ⟨_, rfl, ?_⟩ (fun x hx => absurd hx (by simp))
  intro w7 H8
  try dsimp only at H8
  refine s_buildSlice H8 1 3 (cs := #[.int .i64 (opdC a.left b.left), .int .i64 (cmpI a.rel.v b.rel.v), .int .i64 (opdC a.right b.right)]) #[.int .i64 0] el_69 ze_3 (by decide) (by decide) (by kernel_rfl) rfl ?_; intro bk9 w10 H11
  have H12 : St W w10 (blk bk4 (.cells #[.string b.left.var.v, .string b.left.attr.v, .int .i64 b.left.val.kind.v, .int .i64 b.left.val.n.v, .string b.left.val.s.v, .int .i64 b.rel.v, .string b.right.var.v, .string b.right.attr.v, .int .i64 b.right.val.kind.v, .int .i64 b.right.val.n.v, .string b.right.val.s.v] 46 (0, 0)) :: blk bk1 (.cells #[.string a.left.var.v, .string a.left.attr.v, .int .i64 a.left.val.kind.v, .int .i64 a.left.val.n.v, .string a.left.val.s.v, .int .i64 a.rel.v, .string a.right.var.v, .string a.right.attr.v, .int .i64 a.right.val.kind.v, .int .i64 a.right.val.n.v, .string a.right.val.s.v] 46 (0, 0)) :: blk bk9 (.cells #[.int .i64 (opdC a.left b.left), .int .i64 (cmpI a.rel.v b.rel.v), .int .i64 (opdC a.right b.right)] 3 (0, 0)) :: F) := ((H11.move 2 rfl).move 2 rfl)
  refine ⟨blk bk9 (.cells #[.int .i64 (opdC a.left b.left), .int .i64 (cmpI a.rel.v b.rel.v), .int .i64 (opdC a.right b.right)] 3 (0, 0)) :: F, ?_, H12⟩
  change FReg _ _ _ _ _ #[true, true, true, true, true, true, true, true, true, true, true, true, true, true, true, true, false, false] _ _
  refine f_all (rs := [16]) (by kernel_rfl) (by simp) ?_
  refine a_cons ⟨_, rfl, ?_⟩ (fun x hx => absurd hx (by simp))
  intro w13 H14
  try dsimp only at H14
  have H15 := Row.cut (n := 0) (m := 3) (c := 3) (size := 1) (xs := [.int .i64 (opdC a.left b.left), .int .i64 (cmpI a.rel.v b.rel.v), .int .i64 (opdC a.right b.right)]) H14 (i := 2) rfl (by decide) (by decide +kernel) rfl rfl (by simp [Value.oneCell'])
  have H16 : St W w13 (blk bk4 (.cells #[.string b.left.var.v, .string b.left.attr.v, .int .i64 b.left.val.kind.v, .int .i64 b.left.val.n.v, .string b.left.val.s.v, .int .i64 b.rel.v, .string b.right.var.v, .string b.right.attr.v, .int .i64 b.right.val.kind.v, .int .i64 b.right.val.n.v, .string b.right.val.s.v] 46 (0, 0)) :: blk bk1 (.cells #[.string a.left.var.v, .string a.left.attr.v, .int .i64 a.left.val.kind.v, .int .i64 a.left.val.n.v, .string a.left.val.s.v, .int .i64 a.rel.v, .string a.right.var.v, .string a.right.attr.v, .int .i64 a.right.val.kind.v, .int .i64 a.right.val.n.v, .string a.right.val.s.v] 46 (0, 0)) :: Row 3 1 (.slice (some ⟨bk9, 0, none⟩) 3 3) 3 [.int .i64 (opdC a.left b.left), .int .i64 (cmpI a.rel.v b.rel.v), .int .i64 (opdC a.right b.right)] :: F) := H15
  have H17 : St W w13 (blk bk4 (.cells #[.string b.left.var.v, .string b.left.attr.v, .int .i64 b.left.val.kind.v, .int .i64 b.left.val.n.v, .string b.left.val.s.v, .int .i64 b.rel.v, .string b.right.var.v, .string b.right.attr.v, .int .i64 b.right.val.kind.v, .int .i64 b.right.val.n.v, .string b.right.val.s.v] 46 (0, 0)) :: blk bk1 (.cells #[.string a.left.var.v, .string a.left.attr.v, .int .i64 a.left.val.kind.v, .int .i64 a.left.val.n.v, .string a.left.val.s.v, .int .i64 a.rel.v, .string a.right.var.v, .string a.right.attr.v, .int .i64 a.right.val.kind.v, .int .i64 a.right.val.n.v, .string a.right.val.s.v] 46 (0, 0)) :: Im 1 (.slice (some ⟨bk9, 0, none⟩) 3 3) 3 ([opdC a.left b.left, cmpI a.rel.v b.rel.v, opdC a.right b.right].flatMap iC) :: F) := Row.im H16 (i := 2) rfl
  refine s_call [.slice (some ⟨bk9, 0, none⟩) 3 3] pl_33 rfl rfl (cmp_Or [opdC a.left b.left, cmpI a.rel.v b.rel.v, opdC a.right b.right] (.slice (some ⟨bk9, 0, none⟩) 3 3) (m := 2) rfl H17) ?_
  rintro _ w18 ⟨rfl, H19⟩
  refine ⟨Im 1 (.slice (some ⟨bk9, 0, none⟩) 3 3) 3 ([opdC a.left b.left, cmpI a.rel.v b.rel.v, opdC a.right b.right].flatMap iC) :: F, ?_, H19⟩
  change FReg _ _ _ _ _ #[true, true, true, true, true, true, true, true, true, true, true, true, true, true, true, true, true, false] _ _
  refine f_first 17 (listed' := #[true, true, true, true, true, true, true, true, true, true, true, true, true, true, true, true, true, true]) rfl (by kernel_rfl) (by kernel_rfl) (by kernel_rfl) rfl ?_
  refine f_val rfl rfl rfl (by intro t_ w hw; exact x_assign (.int .i64 (firstE [opdC a.left b.left, cmpI a.rel.v b.rel.v, opdC a.right b.right])) rfl w) ?_
  refine f_done (by kernel_rfl) ?_
  intro w20 H21
  refine g_ret' [.int .i64 (firstE [opdC a.left b.left, cmpI a.rel.v b.rel.v, opdC a.right b.right])] Try.func37 Try.results37 ⟨rfl, trivial⟩ ?_
  have H22 : St W w20 F := (((H21.drop 0 rfl).drop 0 rfl).drop 0 rfl)
  exact ⟨rfl, H22⟩
set_option maxHeartbeats 4000000 in
set_option maxRecDepth 100000 in
theorem CompareFunc_cond {W w : World} {F : List Atom} (L M : List CondV) (lv mv : Value) {m : Nat} (hm : F[m]? = some (Im 11 lv L.length (L.flatMap condCell))) {n : Nat} (hn : F[n]? = some (Im 11 mv M.length (M.flatMap condCell))) (H : St W w F) : Calls Try.prog 36 #[lv, mv, .func (.func 37) #[] #[]] w (Ret fun v w' => v = .int .i64 (lexC condC L M) ∧ St W w' F) := by
  obtain ⟨pp1, cc2, rfl, hn3⟩ := Rd.shape (Im.rd H (i := m) hm)
  have H4 := H.dup (i := m + 0) (by exact hm) (Im_pers _ _ _ _)
  have H5 : St W w (Im 11 (.slice pp1 L.length cc2) L.length (L.flatMap condCell) :: F) := H4
  obtain ⟨pp6, cc7, rfl, hn8⟩ := Rd.shape (Im.rd H (i := n) hn)
  have H9 := H5.dup (i := n + 1) (by exact hn) (Im_pers _ _ _ _)
  have H10 : St W w (Im 11 (.slice pp6 M.length cc7) M.length (M.flatMap condCell) :: Im 11 (.slice pp1 L.length cc2) L.length (L.flatMap condCell) :: F) := H9
  refine calls_of_go (n := 39) Try.func36 rfl Try.ntmps36 rfl ?_
  refine g_seq ?_
  refine g_region ?_
  refine r_cons (s_assign (.int .i64 0) rfl rfl ?_)
  refine r_nil ?_
  refine g_seq ?_
  refine g_seq ?_
  refine g_region ?_
  refine r_cons (s_move (.slice pp1 L.length cc2) rfl rfl ?_)
  refine r_cons (s_len L.length rfl ⟨_, un_22⟩ rfl ?_)
  refine r_cons (s_move (.int .i64 0) rfl rfl ?_)
  refine r_nil ?_
  refine g_block ?_
  obtain ⟨pA11, cA12, gA13, oA14, kA15, eA16, zA17, he23, hn18, hp19, hx20, hs21, hml, H22⟩ := Im.open_ H10 (i := 1) rfl
  obtain ⟨rfl, rfl⟩ : pp1 = pA11 ∧ cc2 = cA12 := by injection he23 with a_ b_ c_; exact ⟨a_, c_⟩
  obtain ⟨pA24, cA25, gA26, oA27, kA28, eA29, zA30, he36, hn31, hp32, hx33, hs34, hml, H35⟩ := Im.open_ H22 (i := 1) rfl
  obtain ⟨rfl, rfl⟩ : pp6 = pA24 ∧ cc7 = cA25 := by injection he36 with a_ b_ c_; exact ⟨a_, c_⟩
  have H37 : St W w (imi (0 < M.length) gA26 (.cells kA28 eA29 zA30) :: imi (0 < L.length) gA13 (.cells kA15 eA16 zA17) :: Im 11 (.slice pp6 M.length cc7) M.length (M.flatMap condCell) :: Im 11 (.slice pp1 L.length cc2) L.length (L.flatMap condCell) :: F) := ((((H35.move 3 rfl).move 3 rfl).move 3 rfl).move 3 rfl)
  refine g_loop_inv (fun (x_ : Nat) => match x_ with | j => [(0, .slice pp1 L.length cc2), (1, .slice pp6 M.length cc7), (2, .func (.func 37) #[] #[]), (6, .int .i64 0), (11, .slice pp1 L.length cc2), (12, .int .i64 (L.length : Int)), (13, .int .i64 (j : Int))]) (fun (x_ : Nat) w => match x_ with | j => (j ≤ L.length) ∧ (j ≤ M.length) ∧ (∀ q, q < j → condC (L.getD q default) (M.getD q default) = 0) ∧ St W w (imi (0 < M.length) gA26 (.cells kA28 eA29 zA30) :: imi (0 < L.length) gA13 (.cells kA15 eA16 zA17) :: Im 11 (.slice pp6 M.length cc7) M.length (M.flatMap condCell) :: Im 11 (.slice pp1 L.length cc2) L.length (L.flatMap condCell) :: F)) (fun (x_ : Nat) => match x_ with | j => L.length - j) (0) ?_ ?_ ?_
  · exact ⟨by first | rfl | exact vint (by omega), by first | rfl | exact vint (by omega), by first | rfl | exact vint (by omega), by first | rfl | exact vint (by omega), by first | rfl | exact vint (by omega), by first | rfl | exact vint (by omega), by first | rfl | exact vint (by omega), trivial⟩
  · exact ⟨(by omega), (Nat.zero_le _), (fun q hq => by omega), H37⟩
  · rintro j ρ38 w39 ⟨hjl, hjm, hz, H40⟩ nx41
    change Ends _ _ (upds ρ38 [(0, .slice pp1 L.length cc2), (1, .slice pp6 M.length cc7), (2, .func (.func 37) #[] #[]), (6, .int .i64 0), (11, .slice pp1 L.length cc2), (12, .int .i64 (L.length : Int)), (13, .int .i64 (j : Int))]) w39
    refine g_seq ?_
    refine g_region ?_
    by_cases hc42 : (j : Int) < (L.length : Int)
    · skip
      refine r_cons (s_lss true rfl rfl (dtrue hc42) rfl ?_)
      refine r_nil ?_
      refine g_seq ?_
      refine g_true rfl ?_
      refine g_skip ?_
      refine g_seq ?_
      refine g_block ?_
      refine g_seq ?_
      refine g_region ?_
      refine r_cons (s_move (.int .i64 (j : Int)) rfl rfl ?_)
      refine r_cons (s_indexAddr gA13 (off := oA14) (j : Int) 11 (oA14 + j * 11) (by exact congrArg (fun z_ => Value.slice z_ L.length cc2) (hp19 (by omega))) rfl el_22 (by omega) rfl rfl ?_)
      refine r_cons (s_loadAgg [.string ((L.getD j default).left.var.v), .string ((L.getD j default).left.attr.v), .int .i64 ((L.getD j default).left.val.kind.v), .int .i64 ((L.getD j default).left.val.n.v), .string ((L.getD j default).left.val.s.v), .int .i64 ((L.getD j default).rel.v), .string ((L.getD j default).right.var.v), .string ((L.getD j default).right.attr.v), .int .i64 ((L.getD j default).right.val.kind.v), .int .i64 ((L.getD j default).right.val.n.v), .string ((L.getD j default).right.val.s.v)] 11 ag_46 rfl (H40.imi_at (i := 1) rfl (by omega)) (by have := elem_size (i := j) (s := 11) (hs21 (by omega)) (by omega); omega) (elem_take condCell_len (hx20 (by omega)) (by omega) default) rfl ?_)
      refine r_cons (s_alloc H40 46 ze_46 rfl ?_); intro bk43 w44 H45
      refine r_cons (s_assign (.int .i64 (j : Int)) rfl rfl ?_)
      refine r_cons (s_storeAgg H45 0 #[.string ((L.getD j default).left.var.v), .string ((L.getD j default).left.attr.v), .int .i64 ((L.getD j default).left.val.kind.v), .int .i64 ((L.getD j default).left.val.n.v), .string ((L.getD j default).left.val.s.v), .int .i64 ((L.getD j default).rel.v), .string ((L.getD j default).right.var.v), .string ((L.getD j default).right.attr.v), .int .i64 ((L.getD j default).right.val.kind.v), .int .i64 ((L.getD j default).right.val.n.v), .string ((L.getD j default).right.val.s.v)] 11 rfl rfl rfl sz_46 rfl (by simp [Value.oneCell']) (Nat.le_of_ble_eq_true rfl) (fun o h1 h2 => by first | (simp; done) | (simp; omega)) (cs' := #[.string ((L.getD j default).left.var.v), .string ((L.getD j default).left.attr.v), .int .i64 ((L.getD j default).left.val.kind.v), .int .i64 ((L.getD j default).left.val.n.v), .string ((L.getD j default).left.val.s.v), .int .i64 ((L.getD j default).rel.v), .string ((L.getD j default).right.var.v), .string ((L.getD j default).right.attr.v), .int .i64 ((L.getD j default).right.val.kind.v), .int .i64 ((L.getD j default).right.val.n.v), .string ((L.getD j default).right.val.s.v)]) (by kernel_rfl) ?_); intro w46 H47
      refine r_nil ?_
      refine g_seq ?_
      refine g_seq ?_
      refine g_region ?_
      refine r_cons (s_move (.int .i64 (j : Int)) rfl rfl ?_)
      refine r_cons (s_move (.slice pp6 M.length cc7) rfl rfl ?_)
      refine r_cons (s_len M.length rfl ⟨_, un_22⟩ rfl ?_)
      by_cases hc48 : (M.length : Int) ≤ (j : Int)
      · skip
        refine r_cons (s_geq true rfl rfl (dtrue hc48) rfl ?_)
        refine r_nil ?_
        refine g_true rfl ?_
        refine g_seq ?_
        refine g_region ?_
        refine r_cons (s_assign (.int .i64 1) rfl rfl ?_)
        refine r_nil ?_
        refine g_ret' [.int .i64 1] Try.func36 Try.results36 ⟨rfl, trivial⟩ ?_
        have H49 : St W w46 F := (((((H47.drop 0 rfl).drop 0 rfl).drop 0 rfl).drop 0 rfl).drop 0 rfl)
        exact ⟨vint (show (1 : Int) = lexC condC L M from (by have h9 := lexC_end (f := condC) hz (by omega) (by omega) (by omega); rw [← h9]; unfold cmpI; first | omega | (split <;> omega) | (split <;> (try split) <;> omega))), H49⟩
      · skip
        refine r_cons (s_geq false rfl rfl (dfalse hc48) rfl ?_)
        refine r_nil ?_
        refine g_false rfl ?_
        refine g_skip ?_
        refine g_seq ?_
        refine g_region ?_
        refine r_cons (s_move (.slice pp6 M.length cc7) rfl rfl ?_)
        refine r_cons (s_move (.int .i64 (j : Int)) rfl rfl ?_)
        refine r_cons (s_indexAddr gA26 (off := oA27) (j : Int) 11 (oA27 + j * 11) (by exact congrArg (fun z_ => Value.slice z_ M.length cc7) (hp32 (by omega))) rfl el_22 (by omega) rfl rfl ?_)
        refine r_cons (s_loadAgg [.string ((M.getD j default).left.var.v), .string ((M.getD j default).left.attr.v), .int .i64 ((M.getD j default).left.val.kind.v), .int .i64 ((M.getD j default).left.val.n.v), .string ((M.getD j default).left.val.s.v), .int .i64 ((M.getD j default).rel.v), .string ((M.getD j default).right.var.v), .string ((M.getD j default).right.attr.v), .int .i64 ((M.getD j default).right.val.kind.v), .int .i64 ((M.getD j default).right.val.n.v), .string ((M.getD j default).right.val.s.v)] 11 ag_46 rfl (H47.imi_at (i := 1) rfl (by omega)) (by have := elem_size (i := j) (s := 11) (hs34 (by omega)) (by omega); omega) (elem_take condCell_len (hx33 (by omega)) (by omega) default) rfl ?_)
        refine r_cons (s_alloc H47 46 ze_46 rfl ?_); intro bk50 w51 H52
        refine r_cons (s_storeAgg H52 0 #[.string ((M.getD j default).left.var.v), .string ((M.getD j default).left.attr.v), .int .i64 ((M.getD j default).left.val.kind.v), .int .i64 ((M.getD j default).left.val.n.v), .string ((M.getD j default).left.val.s.v), .int .i64 ((M.getD j default).rel.v), .string ((M.getD j default).right.var.v), .string ((M.getD j default).right.attr.v), .int .i64 ((M.getD j default).right.val.kind.v), .int .i64 ((M.getD j default).right.val.n.v), .string ((M.getD j default).right.val.s.v)] 11 rfl rfl rfl sz_46 rfl (by simp [Value.oneCell']) (Nat.le_of_ble_eq_true rfl) (fun o h1 h2 => by first | (simp; done) | (simp; omega)) (cs' := #[.string ((M.getD j default).left.var.v), .string ((M.getD j default).left.attr.v), .int .i64 ((M.getD j default).left.val.kind.v), .int .i64 ((M.getD j default).left.val.n.v), .string ((M.getD j default).left.val.s.v), .int .i64 ((M.getD j default).rel.v), .string ((M.getD j default).right.var.v), .string ((M.getD j default).right.attr.v), .int .i64 ((M.getD j default).right.val.kind.v), .int .i64 ((M.getD j default).right.val.n.v), .string ((M.getD j default).right.val.s.v)]) (by kernel_rfl) ?_); intro w53 H54
        refine r_nil ?_
        refine g_seq ?_
        refine g_region ?_
        refine r_cons (s_move (.func (.func 37) #[] #[]) rfl rfl ?_)
        refine r_cons (s_loadAgg [.string ((L.getD j default).left.var.v), .string ((L.getD j default).left.attr.v), .int .i64 ((L.getD j default).left.val.kind.v), .int .i64 ((L.getD j default).left.val.n.v), .string ((L.getD j default).left.val.s.v), .int .i64 ((L.getD j default).rel.v), .string ((L.getD j default).right.var.v), .string ((L.getD j default).right.attr.v), .int .i64 ((L.getD j default).right.val.kind.v), .int .i64 ((L.getD j default).right.val.n.v), .string ((L.getD j default).right.val.s.v)] 11 ag_46 rfl (H54.blk_at (i := 1) rfl) (Nat.le_of_ble_eq_true rfl) rfl rfl ?_)
        refine r_cons (s_loadAgg [.string ((M.getD j default).left.var.v), .string ((M.getD j default).left.attr.v), .int .i64 ((M.getD j default).left.val.kind.v), .int .i64 ((M.getD j default).left.val.n.v), .string ((M.getD j default).left.val.s.v), .int .i64 ((M.getD j default).rel.v), .string ((M.getD j default).right.var.v), .string ((M.getD j default).right.attr.v), .int .i64 ((M.getD j default).right.val.kind.v), .int .i64 ((M.getD j default).right.val.n.v), .string ((M.getD j default).right.val.s.v)] 11 ag_46 rfl (H54.blk_at (i := 0) rfl) (Nat.le_of_ble_eq_true rfl) rfl rfl ?_)
        refine r_cons (s_callv [] [.agg #[.string ((L.getD j default).left.var.v), .string ((L.getD j default).left.attr.v), .int .i64 ((L.getD j default).left.val.kind.v), .int .i64 ((L.getD j default).left.val.n.v), .string ((L.getD j default).left.val.s.v), .int .i64 ((L.getD j default).rel.v), .string ((L.getD j default).right.var.v), .string ((L.getD j default).right.attr.v), .int .i64 ((L.getD j default).right.val.kind.v), .int .i64 ((L.getD j default).right.val.n.v), .string ((L.getD j default).right.val.s.v)], .agg #[.string ((M.getD j default).left.var.v), .string ((M.getD j default).left.attr.v), .int .i64 ((M.getD j default).left.val.kind.v), .int .i64 ((M.getD j default).left.val.n.v), .string ((M.getD j default).left.val.s.v), .int .i64 ((M.getD j default).rel.v), .string ((M.getD j default).right.var.v), .string ((M.getD j default).right.attr.v), .int .i64 ((M.getD j default).right.val.kind.v), .int .i64 ((M.getD j default).right.val.n.v), .string ((M.getD j default).right.val.s.v)]] rfl pl_37 rfl rfl (normal_conds (L.getD j default) (M.getD j default) H54) ?_)
        rintro _ w55 ⟨rfl, H56⟩
        refine r_cons (s_assign (.int .i64 (condC (L.getD j default) (M.getD j default))) rfl rfl ?_)
        refine r_nil ?_
        refine g_seq ?_
        refine g_region ?_
        refine r_cons (s_move (.int .i64 (condC (L.getD j default) (M.getD j default))) rfl rfl ?_)
        by_cases hc57 : condC (L.getD j default) (M.getD j default) = 0
        · skip
          refine r_cons (s_neq false rfl rfl (ntrue hc57) rfl ?_)
          refine r_nil ?_
          refine g_false rfl ?_
          refine g_skip ?_
          refine g_inBlock ?_
          refine g_region ?_
          refine r_cons (s_add ((j : Int) + 1) rfl rfl (wi64 (by omega)) rfl ?_)
          refine r_cons (s_move (.int .i64 ((j : Int) + 1)) rfl rfl ?_)
          refine r_nil ?_
          have H58 : St W w55 (imi (0 < M.length) gA26 (.cells kA28 eA29 zA30) :: imi (0 < L.length) gA13 (.cells kA15 eA16 zA17) :: Im 11 (.slice pp6 M.length cc7) M.length (M.flatMap condCell) :: Im 11 (.slice pp1 L.length cc2) L.length (L.flatMap condCell) :: F) := ((((((H56.move 5 rfl).move 5 rfl).move 5 rfl).move 5 rfl).drop 4 rfl).drop 4 rfl)
          exact nx41 (j + 1) _ _ ⟨(by omega), (by omega), (fun q hq => (Nat.lt_or_ge q j).elim (hz q) (fun h => by rw [show q = j from by omega]; exact hc57)), H58⟩ (by first | (dsimp only; omega) | omega) ⟨by first | rfl | exact vint (by omega), by first | rfl | exact vint (by omega), by first | rfl | exact vint (by omega), by first | rfl | exact vint (by omega), by first | rfl | exact vint (by omega), by first | rfl | exact vint (by omega), by first | rfl | exact vint (by omega), trivial⟩
        · skip
          refine r_cons (s_neq true rfl rfl (nfalse hc57) rfl ?_)
          refine r_nil ?_
          refine g_true rfl ?_
          refine g_seq ?_
          refine g_region ?_
          refine r_cons (s_move (.int .i64 (condC (L.getD j default) (M.getD j default))) rfl rfl ?_)
          refine r_cons (s_assign (.int .i64 (condC (L.getD j default) (M.getD j default))) rfl rfl ?_)
          refine r_nil ?_
          refine g_ret' [.int .i64 (condC (L.getD j default) (M.getD j default))] Try.func36 Try.results36 ⟨rfl, trivial⟩ ?_
          have H59 : St W w55 F := ((((((H56.drop 0 rfl).drop 0 rfl).drop 0 rfl).drop 0 rfl).drop 0 rfl).drop 0 rfl)
          exact ⟨vint (lexC_at hz (by omega) (by omega) (by omega)), H59⟩
    · skip
      refine r_cons (s_lss false rfl rfl (dfalse hc42) rfl ?_)
      refine r_nil ?_
      refine g_seq ?_
      refine g_false rfl ?_
      refine g_exit (by rfl) ?_
      refine g_seq ?_
      refine g_seq ?_
      refine g_region ?_
      refine r_cons (s_move (.slice pp1 L.length cc2) rfl rfl ?_)
      refine r_cons (s_len L.length rfl ⟨_, un_22⟩ rfl ?_)
      refine r_cons (s_move (.slice pp6 M.length cc7) rfl rfl ?_)
      refine r_cons (s_len M.length rfl ⟨_, un_22⟩ rfl ?_)
      by_cases hc60 : (L.length : Int) < (M.length : Int)
      · skip
        refine r_cons (s_lss true rfl rfl (dtrue hc60) rfl ?_)
        refine r_nil ?_
        refine g_true rfl ?_
        refine g_seq ?_
        refine g_region ?_
        refine r_cons (s_assign (.int .i64 (-1)) rfl rfl ?_)
        refine r_nil ?_
        refine g_ret' [.int .i64 (-1)] Try.func36 Try.results36 ⟨rfl, trivial⟩ ?_
        have H61 : St W w39 F := ((((H40.drop 0 rfl).drop 0 rfl).drop 0 rfl).drop 0 rfl)
        exact ⟨vint (show ((-1) : Int) = lexC condC L M from (by have h9 := lexC_end (f := condC) hz (by omega) (by omega) (by omega); rw [← h9]; unfold cmpI; first | omega | (split <;> omega) | (split <;> (try split) <;> omega))), H61⟩
      · skip
        refine r_cons (s_lss false rfl rfl (dfalse hc60) rfl ?_)
        refine r_nil ?_
        refine g_false rfl ?_
        refine g_skip ?_
        refine g_seq ?_
        refine g_region ?_
        refine r_cons (s_assign (.int .i64 0) rfl rfl ?_)
        refine r_nil ?_
        refine g_ret' [.int .i64 0] Try.func36 Try.results36 ⟨rfl, trivial⟩ ?_
        have H62 : St W w39 F := ((((H40.drop 0 rfl).drop 0 rfl).drop 0 rfl).drop 0 rfl)
        exact ⟨vint (show (0 : Int) = lexC condC L M from (by have h9 := lexC_end (f := condC) hz (by omega) (by omega) (by omega); rw [← h9]; unfold cmpI; first | omega | (split <;> omega) | (split <;> (try split) <;> omega))), H62⟩
set_option maxHeartbeats 4000000 in
set_option maxRecDepth 100000 in
theorem ref08_conds {W w : World} {F : List Atom} (L M : List CondV) (lv mv : Value) {m : Nat} (hm : F[m]? = some (Im 11 lv L.length (L.flatMap condCell))) {n : Nat} (hn : F[n]? = some (Im 11 mv M.length (M.flatMap condCell))) (H : St W w F) : Calls Try.prog 43 #[lv, mv] w (Ret fun v w' => v = .int .i64 (lexC condC L M) ∧ St W w' F) := by
  obtain ⟨pp1, cc2, rfl, hn3⟩ := Rd.shape (Im.rd H (i := m) hm)
  have H4 := H.dup (i := m + 0) (by exact hm) (Im_pers _ _ _ _)
  have H5 : St W w (Im 11 (.slice pp1 L.length cc2) L.length (L.flatMap condCell) :: F) := H4
  obtain ⟨pp6, cc7, rfl, hn8⟩ := Rd.shape (Im.rd H (i := n) hn)
  have H9 := H5.dup (i := n + 1) (by exact hn) (Im_pers _ _ _ _)
  have H10 : St W w (Im 11 (.slice pp6 M.length cc7) M.length (M.flatMap condCell) :: Im 11 (.slice pp1 L.length cc2) L.length (L.flatMap condCell) :: F) := H9
  refine calls_of_go (n := 62) Try.func43 rfl Try.ntmps43 rfl ?_
  refine g_seq ?_
  refine g_region ?_
  refine r_cons (s_assign (.int .i64 0) rfl rfl ?_)
  refine r_nil ?_
  refine g_seq ?_
  refine g_seq ?_
  refine g_region ?_
  refine r_cons (s_assign (.int .i64 0) rfl rfl ?_)
  refine r_nil ?_
  refine g_block ?_
  obtain ⟨pA11, cA12, gA13, oA14, kA15, eA16, zA17, he23, hn18, hp19, hx20, hs21, hml, H22⟩ := Im.open_ H10 (i := 1) rfl
  obtain ⟨rfl, rfl⟩ : pp1 = pA11 ∧ cc2 = cA12 := by injection he23 with a_ b_ c_; exact ⟨a_, c_⟩
  obtain ⟨pA24, cA25, gA26, oA27, kA28, eA29, zA30, he36, hn31, hp32, hx33, hs34, hml, H35⟩ := Im.open_ H22 (i := 1) rfl
  obtain ⟨rfl, rfl⟩ : pp6 = pA24 ∧ cc7 = cA25 := by injection he36 with a_ b_ c_; exact ⟨a_, c_⟩
  have H37 : St W w (imi (0 < M.length) gA26 (.cells kA28 eA29 zA30) :: imi (0 < L.length) gA13 (.cells kA15 eA16 zA17) :: Im 11 (.slice pp6 M.length cc7) M.length (M.flatMap condCell) :: Im 11 (.slice pp1 L.length cc2) L.length (L.flatMap condCell) :: F) := ((((H35.move 3 rfl).move 3 rfl).move 3 rfl).move 3 rfl)
  refine g_loop_inv (fun (x_ : Nat) => match x_ with | j => [(0, .slice pp1 L.length cc2), (1, .slice pp6 M.length cc7), (4, .int .i64 0), (5, .int .i64 (j : Int))]) (fun (x_ : Nat) w => match x_ with | j => (j ≤ L.length) ∧ (j ≤ M.length) ∧ (∀ q, q < j → condC (L.getD q default) (M.getD q default) = 0) ∧ St W w (imi (0 < M.length) gA26 (.cells kA28 eA29 zA30) :: imi (0 < L.length) gA13 (.cells kA15 eA16 zA17) :: Im 11 (.slice pp6 M.length cc7) M.length (M.flatMap condCell) :: Im 11 (.slice pp1 L.length cc2) L.length (L.flatMap condCell) :: F)) (fun (x_ : Nat) => match x_ with | j => L.length - j) (0) ?_ ?_ ?_
  · exact ⟨by first | rfl | exact vint (by omega), by first | rfl | exact vint (by omega), by first | rfl | exact vint (by omega), by first | rfl | exact vint (by omega), trivial⟩
  · exact ⟨(by omega), (Nat.zero_le _), (fun q hq => by omega), H37⟩
  · rintro j ρ38 w39 ⟨hjl, hjm, hz, H40⟩ nx41
    change Ends _ _ (upds ρ38 [(0, .slice pp1 L.length cc2), (1, .slice pp6 M.length cc7), (4, .int .i64 0), (5, .int .i64 (j : Int))]) w39
    refine g_seq ?_
    refine g_seq ?_
    refine g_region ?_
    refine r_cons (s_move (.int .i64 (j : Int)) rfl rfl ?_)
    refine r_cons (s_move (.slice pp1 L.length cc2) rfl rfl ?_)
    refine r_cons (s_len L.length rfl ⟨_, un_22⟩ rfl ?_)
    by_cases hc42 : (j : Int) < (L.length : Int)
    · skip
      refine r_cons (s_lss true rfl rfl (dtrue hc42) rfl ?_)
      refine r_cons (s_move (.bool true) rfl rfl ?_)
      refine r_cons (r_take rfl rfl ?_)
      refine s_move (.int .i64 (j : Int)) rfl rfl ?_
      refine r_cons (r_take rfl rfl ?_)
      refine s_move (.slice pp6 M.length cc7) rfl rfl ?_
      refine r_cons (r_take rfl rfl ?_)
      refine s_len M.length rfl ⟨_, un_22⟩ rfl ?_
      refine r_cons (r_take rfl rfl ?_)
      by_cases hc43 : (j : Int) < (M.length : Int)
      · skip
        refine s_lss true rfl rfl (dtrue hc43) rfl ?_
        refine r_cons (s_pick_t (.bool true) rfl rfl rfl ?_)
        refine r_nil ?_
        refine g_true rfl ?_
        refine g_skip ?_
        refine g_seq ?_
        refine g_block ?_
        refine g_seq ?_
        refine g_mix (fun t_ w => St W w (imi (0 < M.length) gA26 (.cells kA28 eA29 zA30) :: imi (0 < L.length) gA13 (.cells kA15 eA16 zA17) :: Im 11 (.slice pp6 M.length cc7) M.length (M.flatMap condCell) :: Im 11 (.slice pp1 L.length cc2) L.length (L.flatMap condCell) :: t_)) F mixed 36 rfl H40.drew ?_
        refine f_first 0 (listed' := #[true, false, false, false, false, false, false, false, false, false, false, false, false, false, false, false, false, false, false, false, false, false, false, false, false, false, false, false, false, false, false, false, false, false, false, false]) rfl (by kernel_rfl) (by kernel_rfl) (by kernel_rfl) rfl ?_
        refine f_val rfl rfl rfl (by intro t_ w hw; exact x_move (.slice pp1 L.length cc2) rfl w) ?_
        refine f_first 1 (listed' := #[true, true, false, false, false, false, false, false, false, false, false, false, false, false, false, false, false, false, false, false, false, false, false, false, false, false, false, false, false, false, false, false, false, false, false, false]) rfl (by kernel_rfl) (by kernel_rfl) (by kernel_rfl) rfl ?_
        refine f_val rfl rfl rfl (by intro t_ w hw; exact x_move (.int .i64 (j : Int)) rfl w) ?_
        refine f_first 2 (listed' := #[true, true, true, false, false, false, false, false, false, false, false, false, false, false, false, false, false, false, false, false, false, false, false, false, false, false, false, false, false, false, false, false, false, false, false, false]) rfl (by kernel_rfl) (by kernel_rfl) (by kernel_rfl) rfl ?_
        refine f_val rfl rfl rfl (by intro t_ w hw; exact x_indexAddr gA13 (off := oA14) (j : Int) 11 (oA14 + j * 11) (by exact congrArg (fun z_ => Value.slice z_ L.length cc2) (hp19 (by omega))) rfl el_22 (by omega) rfl w) ?_
        refine f_first 3 (listed' := #[true, true, true, true, false, false, false, false, false, false, false, false, false, false, false, false, false, false, false, false, false, false, false, false, false, false, false, false, false, false, false, false, false, false, false, false]) rfl (by kernel_rfl) (by kernel_rfl) (by kernel_rfl) rfl ?_
        refine f_val rfl rfl rfl (by intro t_ w hw; exact x_fieldAddr 46 0 0 (oA14 + j * 11) 44 rfl fi_46_0 rfl w) ?_
        refine f_first 4 (listed' := #[true, true, true, true, true, false, false, false, false, false, false, false, false, false, false, false, false, false, false, false, false, false, false, false, false, false, false, false, false, false, false, false, false, false, false, false]) rfl (by kernel_rfl) (by kernel_rfl) (by kernel_rfl) rfl ?_
        refine f_val rfl rfl rfl (by intro t_ w hw; exact x_loadAgg [.string ((L.getD j default).left.var.v), .string ((L.getD j default).left.attr.v), .int .i64 ((L.getD j default).left.val.kind.v), .int .i64 ((L.getD j default).left.val.n.v), .string ((L.getD j default).left.val.s.v)] 5 ag_44 rfl (hw.imi_at (i := 1) rfl (by omega)) (by have := elem_size (i := j) (s := 11) (hs21 (by omega)) (by omega); omega) (elem_sub condCell_len (hx20 (by omega)) (by omega) default 0 5 (by decide))) ?_
        refine f_first 5 (listed' := #[true, true, true, true, true, true, false, false, false, false, false, false, false, false, false, false, false, false, false, false, false, false, false, false, false, false, false, false, false, false, false, false, false, false, false, false]) rfl (by kernel_rfl) (by kernel_rfl) (by kernel_rfl) rfl ?_
        refine f_val rfl rfl rfl (by intro t_ w hw; exact x_move (.slice pp6 M.length cc7) rfl w) ?_
        refine f_first 6 (listed' := #[true, true, true, true, true, true, true, false, false, false, false, false, false, false, false, false, false, false, false, false, false, false, false, false, false, false, false, false, false, false, false, false, false, false, false, false]) rfl (by kernel_rfl) (by kernel_rfl) (by kernel_rfl) rfl ?_
        refine f_val rfl rfl rfl (by intro t_ w hw; exact x_move (.int .i64 (j : Int)) rfl w) ?_
        refine f_first 7 (listed' := #[true, true, true, true, true, true, true, true, false, false, false, false, false, false, false, false, false, false, false, false, false, false, false, false, false, false, false, false, false, false, false, false, false, false, false, false]) rfl (by kernel_rfl) (by kernel_rfl) (by kernel_rfl) rfl ?_
        refine f_val rfl rfl rfl (by intro t_ w hw; exact x_indexAddr gA26 (off := oA27) (j : Int) 11 (oA27 + j * 11) (by exact congrArg (fun z_ => Value.slice z_ M.length cc7) (hp32 (by omega))) rfl el_22 (by omega) rfl w) ?_
        refine f_first 8 (listed' := #[true, true, true, true, true, true, true, true, true, false, false, false, false, false, false, false, false, false, false, false, false, false, false, false, false, false, false, false, false, false, false, false, false, false, false, false]) rfl (by kernel_rfl) (by kernel_rfl) (by kernel_rfl) rfl ?_
        refine f_val rfl rfl rfl (by intro t_ w hw; exact x_fieldAddr 46 0 0 (oA27 + j * 11) 44 rfl fi_46_0 rfl w) ?_
        refine f_first 9 (listed' := #[true, true, true, true, true, true, true, true, true, true, false, false, false, false, false, false, false, false, false, false, false, false, false, false, false, false, false, false, false, false, false, false, false, false, false, false]) rfl (by kernel_rfl) (by kernel_rfl) (by kernel_rfl) rfl ?_
        refine f_val rfl rfl rfl (by intro t_ w hw; exact x_loadAgg [.string ((M.getD j default).left.var.v), .string ((M.getD j default).left.attr.v), .int .i64 ((M.getD j default).left.val.kind.v), .int .i64 ((M.getD j default).left.val.n.v), .string ((M.getD j default).left.val.s.v)] 5 ag_44 rfl (hw.imi_at (i := 0) rfl (by omega)) (by have := elem_size (i := j) (s := 11) (hs34 (by omega)) (by omega); omega) (elem_sub condCell_len (hx33 (by omega)) (by omega) default 0 5 (by decide))) ?_
        refine f_first 10 (listed' := #[true, true, true, true, true, true, true, true, true, true, true, false, false, false, false, false, false, false, false, false, false, false, false, false, false, false, false, false, false, false, false, false, false, false, false, false]) rfl (by kernel_rfl) (by kernel_rfl) (by kernel_rfl) rfl ?_
        refine f_enter (args := #[.agg #[.string ((L.getD j default).left.var.v), .string ((L.getD j default).left.attr.v), .int .i64 ((L.getD j default).left.val.kind.v), .int .i64 ((L.getD j default).left.val.n.v), .string ((L.getD j default).left.val.s.v)], .agg #[.string ((M.getD j default).left.var.v), .string ((M.getD j default).left.attr.v), .int .i64 ((M.getD j default).left.val.kind.v), .int .i64 ((M.getD j default).left.val.n.v), .string ((M.getD j default).left.val.s.v)]]) (v := .int .i64 (opdC ((L.getD j default).left) ((M.getD j default).left))) rfl rfl rfl (x_call pl_64 [.agg #[.string ((L.getD j default).left.var.v), .string ((L.getD j default).left.attr.v), .int .i64 ((L.getD j default).left.val.kind.v), .int .i64 ((L.getD j default).left.val.n.v), .string ((L.getD j default).left.val.s.v)], .agg #[.string ((M.getD j default).left.var.v), .string ((M.getD j default).left.attr.v), .int .i64 ((M.getD j default).left.val.kind.v), .int .i64 ((M.getD j default).left.val.n.v), .string ((M.getD j default).left.val.s.v)]] rfl) (fun t_ w hw => ref08_operands ((L.getD j default).left) ((M.getD j default).left) hw) ?_
        refine f_first 11 (listed' := #[true, true, true, true, true, true, true, true, true, true, true, true, false, false, false, false, false, false, false, false, false, false, false, false, false, false, false, false, false, false, false, false, false, false, false, false]) rfl (by kernel_rfl) (by kernel_rfl) (by kernel_rfl) rfl ?_
        refine f_val rfl rfl rfl (by intro t_ w hw; exact x_move (.slice pp1 L.length cc2) rfl w) ?_
        refine f_first 12 (listed' := #[true, true, true, true, true, true, true, true, true, true, true, true, true, false, false, false, false, false, false, false, false, false, false, false, false, false, false, false, false, false, false, false, false, false, false, false]) rfl (by kernel_rfl) (by kernel_rfl) (by kernel_rfl) rfl ?_
        refine f_val rfl rfl rfl (by intro t_ w hw; exact x_move (.int .i64 (j : Int)) rfl w) ?_
        refine f_first 13 (listed' := #[true, true, true, true, true, true, true, true, true, true, true, true, true, true, false, false, false, false, false, false, false, false, false, false, false, false, false, false, false, false, false, false, false, false, false, false]) rfl (by kernel_rfl) (by kernel_rfl) (by kernel_rfl) rfl ?_
        refine f_val rfl rfl rfl (by intro t_ w hw; exact x_indexAddr gA13 (off := oA14) (j : Int) 11 (oA14 + j * 11) (by exact congrArg (fun z_ => Value.slice z_ L.length cc2) (hp19 (by omega))) rfl el_22 (by omega) rfl w) ?_
        refine f_first 14 (listed' := #[true, true, true, true, true, true, true, true, true, true, true, true, true, true, true, false, false, false, false, false, false, false, false, false, false, false, false, false, false, false, false, false, false, false, false, false]) rfl (by kernel_rfl) (by kernel_rfl) (by kernel_rfl) rfl ?_
        refine f_val rfl rfl rfl (by intro t_ w hw; exact x_fieldAddr 46 1 5 (oA14 + j * 11 + 5) 3 rfl fi_46_1 rfl w) ?_
        refine f_first 15 (listed' := #[true, true, true, true, true, true, true, true, true, true, true, true, true, true, true, true, false, false, false, false, false, false, false, false, false, false, false, false, false, false, false, false, false, false, false, false]) rfl (by kernel_rfl) (by kernel_rfl) (by kernel_rfl) rfl ?_
        refine f_val rfl rfl rfl (by intro t_ w hw; exact x_load (.int .i64 ((L.getD j default).rel.v)) ag_3 rfl (hw.imi_at (i := 1) rfl (by omega)) (elem_cell (L := L) (i := j) condCell_len (hx20 (by omega)) (by omega) default 5 (by decide) _ rfl)) ?_
        refine f_first 16 (listed' := #[true, true, true, true, true, true, true, true, true, true, true, true, true, true, true, true, true, false, false, false, false, false, false, false, false, false, false, false, false, false, false, false, false, false, false, false]) rfl (by kernel_rfl) (by kernel_rfl) (by kernel_rfl) rfl ?_
        refine f_val rfl rfl rfl (by intro t_ w hw; exact x_move (.slice pp6 M.length cc7) rfl w) ?_
        refine f_first 17 (listed' := #[true, true, true, true, true, true, true, true, true, true, true, true, true, true, true, true, true, true, false, false, false, false, false, false, false, false, false, false, false, false, false, false, false, false, false, false]) rfl (by kernel_rfl) (by kernel_rfl) (by kernel_rfl) rfl ?_
        refine f_val rfl rfl rfl (by intro t_ w hw; exact x_move (.int .i64 (j : Int)) rfl w) ?_
        refine f_first 18 (listed' := #[true, true, true, true, true, true, true, true, true, true, true, true, true, true, true, true, true, true, true, false, false, false, false, false, false, false, false, false, false, false, false, false, false, false, false, false]) rfl (by kernel_rfl) (by kernel_rfl) (by kernel_rfl) rfl ?_
        refine f_val rfl rfl rfl (by intro t_ w hw; exact x_indexAddr gA26 (off := oA27) (j : Int) 11 (oA27 + j * 11) (by exact congrArg (fun z_ => Value.slice z_ M.length cc7) (hp32 (by omega))) rfl el_22 (by omega) rfl w) ?_
        refine f_first 19 (listed' := #[true, true, true, true, true, true, true, true, true, true, true, true, true, true, true, true, true, true, true, true, false, false, false, false, false, false, false, false, false, false, false, false, false, false, false, false]) rfl (by kernel_rfl) (by kernel_rfl) (by kernel_rfl) rfl ?_
        refine f_val rfl rfl rfl (by intro t_ w hw; exact x_fieldAddr 46 1 5 (oA27 + j * 11 + 5) 3 rfl fi_46_1 rfl w) ?_
        refine f_first 20 (listed' := #[true, true, true, true, true, true, true, true, true, true, true, true, true, true, true, true, true, true, true, true, true, false, false, false, false, false, false, false, false, false, false, false, false, false, false, false]) rfl (by kernel_rfl) (by kernel_rfl) (by kernel_rfl) rfl ?_
        refine f_val rfl rfl rfl (by intro t_ w hw; exact x_load (.int .i64 ((M.getD j default).rel.v)) ag_3 rfl (hw.imi_at (i := 0) rfl (by omega)) (elem_cell (L := M) (i := j) condCell_len (hx33 (by omega)) (by omega) default 5 (by decide) _ rfl)) ?_
        refine f_first 21 (listed' := #[true, true, true, true, true, true, true, true, true, true, true, true, true, true, true, true, true, true, true, true, true, true, false, false, false, false, false, false, false, false, false, false, false, false, false, false]) rfl (by kernel_rfl) (by kernel_rfl) (by kernel_rfl) rfl ?_
        refine f_enter (args := #[.int .i64 ((L.getD j default).rel.v), .int .i64 ((M.getD j default).rel.v)]) (v := .int .i64 (cmpI ((L.getD j default).rel.v) ((M.getD j default).rel.v))) rfl rfl rfl (x_call pl_41 [.int .i64 ((L.getD j default).rel.v), .int .i64 ((M.getD j default).rel.v)] rfl) (fun t_ w hw => ref08_int64 ((L.getD j default).rel.v) ((M.getD j default).rel.v) hw) ?_
        refine f_first 22 (listed' := #[true, true, true, true, true, true, true, true, true, true, true, true, true, true, true, true, true, true, true, true, true, true, true, false, false, false, false, false, false, false, false, false, false, false, false, false]) rfl (by kernel_rfl) (by kernel_rfl) (by kernel_rfl) rfl ?_
        refine f_val rfl rfl rfl (by intro t_ w hw; exact x_move (.slice pp1 L.length cc2) rfl w) ?_
        refine f_first 23 (listed' := #[true, true, true, true, true, true, true, true, true, true, true, true, true, true, true, true, true, true, true, true, true, true, true, true, false, false, false, false, false, false, false, false, false, false, false, false]) rfl (by kernel_rfl) (by kernel_rfl) (by kernel_rfl) rfl ?_
        refine f_val rfl rfl rfl (by intro t_ w hw; exact x_move (.int .i64 (j : Int)) rfl w) ?_
        refine f_first 24 (listed' := #[true, true, true, true, true, true, true, true, true, true, true, true, true, true, true, true, true, true, true, true, true, true, true, true, true, false, false, false, false, false, false, false, false, false, false, false]) rfl (by kernel_rfl) (by kernel_rfl) (by kernel_rfl) rfl ?_
        refine f_val rfl rfl rfl (by intro t_ w hw; exact x_indexAddr gA13 (off := oA14) (j : Int) 11 (oA14 + j * 11) (by exact congrArg (fun z_ => Value.slice z_ L.length cc2) (hp19 (by omega))) rfl el_22 (by omega) rfl w) ?_
        refine f_first 25 (listed' := #[true, true, true, true, true, true, true, true, true, true, true, true, true, true, true, true, true, true, true, true, true, true, true, true, true, true, false, false, false, false, false, false, false, false, false, false]) rfl (by kernel_rfl) (by kernel_rfl) (by kernel_rfl) rfl ?_
        refine f_val rfl rfl rfl (by intro t_ w hw; exact x_fieldAddr 46 2 6 (oA14 + j * 11 + 6) 44 rfl fi_46_2 rfl w) ?_
        refine f_first 26 (listed' := #[true, true, true, true, true, true, true, true, true, true, true, true, true, true, true, true, true, true, true, true, true, true, true, true, true, true, true, false, false, false, false, false, false, false, false, false]) rfl (by kernel_rfl) (by kernel_rfl) (by kernel_rfl) rfl ?_
        refine f_val rfl rfl rfl (by intro t_ w hw; exact x_loadAgg [.string ((L.getD j default).right.var.v), .string ((L.getD j default).right.attr.v), .int .i64 ((L.getD j default).right.val.kind.v), .int .i64 ((L.getD j default).right.val.n.v), .string ((L.getD j default).right.val.s.v)] 5 ag_44 rfl (hw.imi_at (i := 1) rfl (by omega)) (by have := elem_size (i := j) (s := 11) (hs21 (by omega)) (by omega); omega) (elem_sub condCell_len (hx20 (by omega)) (by omega) default 6 5 (by decide))) ?_
        refine f_first 27 (listed' := #[true, true, true, true, true, true, true, true, true, true, true, true, true, true, true, true, true, true, true, true, true, true, true, true, true, true, true, true, false, false, false, false, false, false, false, false]) rfl (by kernel_rfl) (by kernel_rfl) (by kernel_rfl) rfl ?_
        refine f_val rfl rfl rfl (by intro t_ w hw; exact x_move (.slice pp6 M.length cc7) rfl w) ?_
        refine f_first 28 (listed' := #[true, true, true, true, true, true, true, true, true, true, true, true, true, true, true, true, true, true, true, true, true, true, true, true, true, true, true, true, true, false, false, false, false, false, false, false]) rfl (by kernel_rfl) (by kernel_rfl) (by kernel_rfl) rfl ?_
        refine f_val rfl rfl rfl (by intro t_ w hw; exact x_move (.int .i64 (j : Int)) rfl w) ?_
        refine f_first 29 (listed' := #[true, true, true, true, true, true, true, true, true, true, true, true, true, true, true, true, true, true, true, true, true, true, true, true, true, true, true, true, true, true, false, false, false, false, false, false]) rfl (by kernel_rfl) (by kernel_rfl) (by kernel_rfl) rfl ?_
        refine f_val rfl rfl rfl (by intro t_ w hw; exact x_indexAddr gA26 (off := oA27) (j : Int) 11 (oA27 + j * 11) (by exact congrArg (fun z_ => Value.slice z_ M.length cc7) (hp32 (by omega))) rfl el_22 (by omega) rfl w) ?_
        refine f_first 30 (listed' := #[true, true, true, true, true, true, true, true, true, true, true, true, true, true, true, true, true, true, true, true, true, true, true, true, true, true, true, true, true, true, true, false, false, false, false, false]) rfl (by kernel_rfl) (by kernel_rfl) (by kernel_rfl) rfl ?_
        refine f_val rfl rfl rfl (by intro t_ w hw; exact x_fieldAddr 46 2 6 (oA27 + j * 11 + 6) 44 rfl fi_46_2 rfl w) ?_
        refine f_first 31 (listed' := #[true, true, true, true, true, true, true, true, true, true, true, true, true, true, true, true, true, true, true, true, true, true, true, true, true, true, true, true, true, true, true, true, false, false, false, false]) rfl (by kernel_rfl) (by kernel_rfl) (by kernel_rfl) rfl ?_
        refine f_val rfl rfl rfl (by intro t_ w hw; exact x_loadAgg [.string ((M.getD j default).right.var.v), .string ((M.getD j default).right.attr.v), .int .i64 ((M.getD j default).right.val.kind.v), .int .i64 ((M.getD j default).right.val.n.v), .string ((M.getD j default).right.val.s.v)] 5 ag_44 rfl (hw.imi_at (i := 0) rfl (by omega)) (by have := elem_size (i := j) (s := 11) (hs34 (by omega)) (by omega); omega) (elem_sub condCell_len (hx33 (by omega)) (by omega) default 6 5 (by decide))) ?_
        refine f_first 32 (listed' := #[true, true, true, true, true, true, true, true, true, true, true, true, true, true, true, true, true, true, true, true, true, true, true, true, true, true, true, true, true, true, true, true, true, false, false, false]) rfl (by kernel_rfl) (by kernel_rfl) (by kernel_rfl) rfl ?_
        refine f_enter (args := #[.agg #[.string ((L.getD j default).right.var.v), .string ((L.getD j default).right.attr.v), .int .i64 ((L.getD j default).right.val.kind.v), .int .i64 ((L.getD j default).right.val.n.v), .string ((L.getD j default).right.val.s.v)], .agg #[.string ((M.getD j default).right.var.v), .string ((M.getD j default).right.attr.v), .int .i64 ((M.getD j default).right.val.kind.v), .int .i64 ((M.getD j default).right.val.n.v), .string ((M.getD j default).right.val.s.v)]]) (v := .int .i64 (opdC ((L.getD j default).right) ((M.getD j default).right))) rfl rfl rfl (x_call pl_64 [.agg #[.string ((L.getD j default).right.var.v), .string ((L.getD j default).right.attr.v), .int .i64 ((L.getD j default).right.val.kind.v), .int .i64 ((L.getD j default).right.val.n.v), .string ((L.getD j default).right.val.s.v)], .agg #[.string ((M.getD j default).right.var.v), .string ((M.getD j default).right.attr.v), .int .i64 ((M.getD j default).right.val.kind.v), .int .i64 ((M.getD j default).right.val.n.v), .string ((M.getD j default).right.val.s.v)]] rfl) (fun t_ w hw => ref08_operands ((L.getD j default).right) ((M.getD j default).right) hw) ?_
        refine f_all (rs := [33]) (by kernel_rfl) (by simp) ?_
        refine a_cons ⟨_, rfl, ?_⟩ (fun x hx => absurd hx (by simp))
        intro w44 H45
        try dsimp only at H45
        refine s_buildSlice H45 1 3 (cs := #[.int .i64 (opdC ((L.getD j default).left) ((M.getD j default).left)), .int .i64 (cmpI ((L.getD j default).rel.v) ((M.getD j default).rel.v)), .int .i64 (opdC ((L.getD j default).right) ((M.getD j default).right))]) #[.int .i64 0] el_69 ze_3 (by decide) (by decide) (by kernel_rfl) rfl ?_; intro bk46 w47 H48
        have H49 : St W w47 (imi (0 < M.length) gA26 (.cells kA28 eA29 zA30) :: imi (0 < L.length) gA13 (.cells kA15 eA16 zA17) :: Im 11 (.slice pp6 M.length cc7) M.length (M.flatMap condCell) :: Im 11 (.slice pp1 L.length cc2) L.length (L.flatMap condCell) :: blk bk46 (.cells #[.int .i64 (opdC ((L.getD j default).left) ((M.getD j default).left)), .int .i64 (cmpI ((L.getD j default).rel.v) ((M.getD j default).rel.v)), .int .i64 (opdC ((L.getD j default).right) ((M.getD j default).right))] 3 (0, 0)) :: F) := ((((H48.move 4 rfl).move 4 rfl).move 4 rfl).move 4 rfl)
        refine ⟨blk bk46 (.cells #[.int .i64 (opdC ((L.getD j default).left) ((M.getD j default).left)), .int .i64 (cmpI ((L.getD j default).rel.v) ((M.getD j default).rel.v)), .int .i64 (opdC ((L.getD j default).right) ((M.getD j default).right))] 3 (0, 0)) :: F, ?_, H49⟩
        change FReg _ _ _ _ _ #[true, true, true, true, true, true, true, true, true, true, true, true, true, true, true, true, true, true, true, true, true, true, true, true, true, true, true, true, true, true, true, true, true, true, false, false] _ _
        refine f_all (rs := [34]) (by kernel_rfl) (by simp) ?_
        refine a_cons ⟨_, rfl, ?_⟩ (fun x hx => absurd hx (by simp))
        intro w50 H51
        try dsimp only at H51
        have H52 := Row.cut (n := 0) (m := 3) (c := 3) (size := 1) (xs := [.int .i64 (opdC ((L.getD j default).left) ((M.getD j default).left)), .int .i64 (cmpI ((L.getD j default).rel.v) ((M.getD j default).rel.v)), .int .i64 (opdC ((L.getD j default).right) ((M.getD j default).right))]) H51 (i := 4) rfl (by decide) (by decide +kernel) rfl rfl (by simp [Value.oneCell'])
        have H53 : St W w50 (imi (0 < M.length) gA26 (.cells kA28 eA29 zA30) :: imi (0 < L.length) gA13 (.cells kA15 eA16 zA17) :: Im 11 (.slice pp6 M.length cc7) M.length (M.flatMap condCell) :: Im 11 (.slice pp1 L.length cc2) L.length (L.flatMap condCell) :: Row 3 1 (.slice (some ⟨bk46, 0, none⟩) 3 3) 3 [.int .i64 (opdC ((L.getD j default).left) ((M.getD j default).left)), .int .i64 (cmpI ((L.getD j default).rel.v) ((M.getD j default).rel.v)), .int .i64 (opdC ((L.getD j default).right) ((M.getD j default).right))] :: F) := H52
        have H54 : St W w50 (imi (0 < M.length) gA26 (.cells kA28 eA29 zA30) :: imi (0 < L.length) gA13 (.cells kA15 eA16 zA17) :: Im 11 (.slice pp6 M.length cc7) M.length (M.flatMap condCell) :: Im 11 (.slice pp1 L.length cc2) L.length (L.flatMap condCell) :: Im 1 (.slice (some ⟨bk46, 0, none⟩) 3 3) 3 ([opdC ((L.getD j default).left) ((M.getD j default).left), cmpI ((L.getD j default).rel.v) ((M.getD j default).rel.v), opdC ((L.getD j default).right) ((M.getD j default).right)].flatMap iC) :: F) := Row.im H53 (i := 4) rfl
        refine s_call [.slice (some ⟨bk46, 0, none⟩) 3 3] pl_40 rfl rfl (ref08_first [opdC ((L.getD j default).left) ((M.getD j default).left), cmpI ((L.getD j default).rel.v) ((M.getD j default).rel.v), opdC ((L.getD j default).right) ((M.getD j default).right)] (.slice (some ⟨bk46, 0, none⟩) 3 3) (m := 4) rfl H54) ?_
        rintro _ w55 ⟨rfl, H56⟩
        refine ⟨Im 1 (.slice (some ⟨bk46, 0, none⟩) 3 3) 3 ([opdC ((L.getD j default).left) ((M.getD j default).left), cmpI ((L.getD j default).rel.v) ((M.getD j default).rel.v), opdC ((L.getD j default).right) ((M.getD j default).right)].flatMap iC) :: F, ?_, H56⟩
        change FReg _ _ _ _ _ #[true, true, true, true, true, true, true, true, true, true, true, true, true, true, true, true, true, true, true, true, true, true, true, true, true, true, true, true, true, true, true, true, true, true, true, false] _ _
        refine f_first 35 (listed' := #[true, true, true, true, true, true, true, true, true, true, true, true, true, true, true, true, true, true, true, true, true, true, true, true, true, true, true, true, true, true, true, true, true, true, true, true]) rfl (by kernel_rfl) (by kernel_rfl) (by kernel_rfl) rfl ?_
        refine f_val rfl rfl rfl (by intro t_ w hw; exact x_assign (.int .i64 (firstE [opdC ((L.getD j default).left) ((M.getD j default).left), cmpI ((L.getD j default).rel.v) ((M.getD j default).rel.v), opdC ((L.getD j default).right) ((M.getD j default).right)])) rfl w) ?_
        refine f_done (by kernel_rfl) ?_
        intro w57 H58
        refine g_seq ?_
        refine g_region ?_
        refine r_cons (s_move (.int .i64 (firstE [opdC ((L.getD j default).left) ((M.getD j default).left), cmpI ((L.getD j default).rel.v) ((M.getD j default).rel.v), opdC ((L.getD j default).right) ((M.getD j default).right)])) rfl rfl ?_)
        by_cases hc59 : firstE [opdC ((L.getD j default).left) ((M.getD j default).left), cmpI ((L.getD j default).rel.v) ((M.getD j default).rel.v), opdC ((L.getD j default).right) ((M.getD j default).right)] = 0
        · skip
          refine r_cons (s_neq false rfl rfl (ntrue hc59) rfl ?_)
          refine r_nil ?_
          refine g_false rfl ?_
          refine g_skip ?_
          refine g_inBlock ?_
          refine g_region ?_
          refine r_cons (s_move (.int .i64 (j : Int)) rfl rfl ?_)
          refine r_cons (s_add ((j : Int) + 1) rfl rfl (wi64 (by omega)) rfl ?_)
          refine r_cons (s_assign (.int .i64 ((j : Int) + 1)) rfl rfl ?_)
          refine r_nil ?_
          have H60 : St W w57 (imi (0 < M.length) gA26 (.cells kA28 eA29 zA30) :: imi (0 < L.length) gA13 (.cells kA15 eA16 zA17) :: Im 11 (.slice pp6 M.length cc7) M.length (M.flatMap condCell) :: Im 11 (.slice pp1 L.length cc2) L.length (L.flatMap condCell) :: F) := (((((H58.move 3 rfl).move 3 rfl).move 3 rfl).move 3 rfl).drop 4 rfl)
          exact nx41 (j + 1) _ _ ⟨(by omega), (by omega), (fun q hq => (Nat.lt_or_ge q j).elim (hz q) (fun h => by rw [show q = j from by omega]; exact hc59)), H60⟩ (by first | (dsimp only; omega) | omega) ⟨by first | rfl | exact vint (by omega), by first | rfl | exact vint (by omega), by first | rfl | exact vint (by omega), by first | rfl | exact vint (by omega), trivial⟩
        · skip
          refine r_cons (s_neq true rfl rfl (nfalse hc59) rfl ?_)
          refine r_nil ?_
          refine g_true rfl ?_
          refine g_seq ?_
          refine g_region ?_
          refine r_cons (s_move (.int .i64 (firstE [opdC ((L.getD j default).left) ((M.getD j default).left), cmpI ((L.getD j default).rel.v) ((M.getD j default).rel.v), opdC ((L.getD j default).right) ((M.getD j default).right)])) rfl rfl ?_)
          refine r_cons (s_assign (.int .i64 (firstE [opdC ((L.getD j default).left) ((M.getD j default).left), cmpI ((L.getD j default).rel.v) ((M.getD j default).rel.v), opdC ((L.getD j default).right) ((M.getD j default).right)])) rfl rfl ?_)
          refine r_nil ?_
          refine g_ret' [.int .i64 (firstE [opdC ((L.getD j default).left) ((M.getD j default).left), cmpI ((L.getD j default).rel.v) ((M.getD j default).rel.v), opdC ((L.getD j default).right) ((M.getD j default).right)])] Try.func43 Try.results43 ⟨rfl, trivial⟩ ?_
          have H61 : St W w57 F := (((((H58.drop 0 rfl).drop 0 rfl).drop 0 rfl).drop 0 rfl).drop 0 rfl)
          exact ⟨vint (lexC_at (f := condC) hz (by omega) (by omega) (show ¬ (firstE [opdC ((L.getD j default).left) ((M.getD j default).left), cmpI ((L.getD j default).rel.v) ((M.getD j default).rel.v), opdC ((L.getD j default).right) ((M.getD j default).right)]) = 0 from hc59)), H61⟩
      · skip
        refine s_lss false rfl rfl (dfalse hc43) rfl ?_
        refine r_cons (s_pick_t (.bool false) rfl rfl rfl ?_)
        refine r_nil ?_
        refine g_false rfl ?_
        refine g_exit (by rfl) ?_
        refine g_seq ?_
        refine g_region ?_
        refine r_cons (s_move (.slice pp1 L.length cc2) rfl rfl ?_)
        refine r_cons (s_len L.length rfl ⟨_, un_22⟩ rfl ?_)
        refine r_cons (s_move (.slice pp6 M.length cc7) rfl rfl ?_)
        refine r_cons (s_len M.length rfl ⟨_, un_22⟩ rfl ?_)
        refine r_cons (s_call [.int .i64 (L.length : Int), .int .i64 (M.length : Int)] pl_41 rfl rfl (ref08_int64 (L.length : Int) (M.length : Int) H40) ?_)
        rintro _ w62 ⟨rfl, H63⟩
        refine r_cons (s_assign (.int .i64 (cmpI (L.length : Int) (M.length : Int))) rfl rfl ?_)
        refine r_nil ?_
        refine g_ret' [.int .i64 (cmpI (L.length : Int) (M.length : Int))] Try.func43 Try.results43 ⟨rfl, trivial⟩ ?_
        have H64 : St W w62 F := ((((H63.drop 0 rfl).drop 0 rfl).drop 0 rfl).drop 0 rfl)
        exact ⟨vint (lexC_end (f := condC) hz (by omega) (by omega) (by omega)), H64⟩
    · skip
      refine r_cons (s_lss false rfl rfl (dfalse hc42) rfl ?_)
      refine r_cons (s_move (.bool false) rfl rfl ?_)
      refine r_cons (r_pass rfl rfl rfl rfl rfl ?_)
      refine r_cons (r_pass rfl rfl rfl rfl rfl ?_)
      refine r_cons (r_pass rfl rfl rfl rfl rfl ?_)
      refine r_cons (r_pass rfl rfl rfl rfl rfl ?_)
      refine r_cons (s_pick_f (.bool false) rfl rfl rfl ?_)
      refine r_nil ?_
      refine g_false rfl ?_
      refine g_exit (by rfl) ?_
      refine g_seq ?_
      refine g_region ?_
      refine r_cons (s_move (.slice pp1 L.length cc2) rfl rfl ?_)
      refine r_cons (s_len L.length rfl ⟨_, un_22⟩ rfl ?_)
      refine r_cons (s_move (.slice pp6 M.length cc7) rfl rfl ?_)
      refine r_cons (s_len M.length rfl ⟨_, un_22⟩ rfl ?_)
      refine r_cons (s_call [.int .i64 (L.length : Int), .int .i64 (M.length : Int)] pl_41 rfl rfl (ref08_int64 (L.length : Int) (M.length : Int) H40) ?_)
      rintro _ w65 ⟨rfl, H66⟩
      refine r_cons (s_assign (.int .i64 (cmpI (L.length : Int) (M.length : Int))) rfl rfl ?_)
      refine r_nil ?_
      refine g_ret' [.int .i64 (cmpI (L.length : Int) (M.length : Int))] Try.func43 Try.results43 ⟨rfl, trivial⟩ ?_
      have H67 : St W w65 F := ((((H66.drop 0 rfl).drop 0 rfl).drop 0 rfl).drop 0 rfl)
      exact ⟨vint (lexC_end (f := condC) hz (by omega) (by omega) (by omega)), H67⟩
set_option maxHeartbeats 4000000 in
set_option maxRecDepth 100000 in
theorem CompareFunc_node {W w : World} {F : List Atom} (L M : List NodeD) (lv mv : Value) {m : Nat} (hm : F[m]? = some (Im 5 lv L.length (L.flatMap nodeCell))) {n : Nat} (hn : F[n]? = some (Im 5 mv M.length (M.flatMap nodeCell))) {il : Nat} (hl : F[il]? = some (NodesA L)) {ik : Nat} (hk : F[ik]? = some (NodesA M)) (hf : ∀ x ∈ L, ∀ (y : NodeD) {W w : World} {F : List Atom} {i i2 : Nat}, F[i]? = some (NodeA x) → F[i2]? = some (NodeA y) → St W w F → Calls Try.prog 8 #[.agg #[.int .i64 x.kind.v, .string x.var.v, .string x.typ.v, .slice x.tp x.tests.length x.tc, .slice x.kp x.kids.length x.kc], .agg #[.int .i64 y.kind.v, .string y.var.v, .string y.typ.v, .slice y.tp y.tests.length y.tc, .slice y.kp y.kids.length y.kc]] w (Ret fun v w' => v = .int .i64 (cmpN x y) ∧ St W w' F)) (H : St W w F) : Calls Try.prog 38 #[lv, mv, .func (.func 8) #[] #[]] w (Ret fun v w' => v = .int .i64 (lexC cmpN L M) ∧ St W w' F) := by
  obtain ⟨pp1, cc2, rfl, hn3⟩ := Rd.shape (Im.rd H (i := m) hm)
  have H4 := H.dup (i := m + 0) (by exact hm) (Im_pers _ _ _ _)
  have H5 : St W w (Im 5 (.slice pp1 L.length cc2) L.length (L.flatMap nodeCell) :: F) := H4
  obtain ⟨pp6, cc7, rfl, hn8⟩ := Rd.shape (Im.rd H (i := n) hn)
  have H9 := H5.dup (i := n + 1) (by exact hn) (Im_pers _ _ _ _)
  have H10 : St W w (Im 5 (.slice pp6 M.length cc7) M.length (M.flatMap nodeCell) :: Im 5 (.slice pp1 L.length cc2) L.length (L.flatMap nodeCell) :: F) := H9
  have H11 := H10.dup (i := il + 2) (by exact hl) (NodesA_pers _)
  have H12 : St W w (NodesA L :: Im 5 (.slice pp6 M.length cc7) M.length (M.flatMap nodeCell) :: Im 5 (.slice pp1 L.length cc2) L.length (L.flatMap nodeCell) :: F) := H11
  have H13 := H12.dup (i := ik + 3) (by exact hk) (NodesA_pers _)
  have H14 : St W w (NodesA M :: NodesA L :: Im 5 (.slice pp6 M.length cc7) M.length (M.flatMap nodeCell) :: Im 5 (.slice pp1 L.length cc2) L.length (L.flatMap nodeCell) :: F) := H13
  refine calls_of_go (n := 39) Try.func38 rfl Try.ntmps38 rfl ?_
  refine g_seq ?_
  refine g_region ?_
  refine r_cons (s_assign (.int .i64 0) rfl rfl ?_)
  refine r_nil ?_
  refine g_seq ?_
  refine g_seq ?_
  refine g_region ?_
  refine r_cons (s_move (.slice pp1 L.length cc2) rfl rfl ?_)
  refine r_cons (s_len L.length rfl ⟨_, un_23⟩ rfl ?_)
  refine r_cons (s_move (.int .i64 0) rfl rfl ?_)
  refine r_nil ?_
  refine g_block ?_
  obtain ⟨pA15, cA16, gA17, oA18, kA19, eA20, zA21, he27, hn22, hp23, hx24, hs25, hml, H26⟩ := Im.open_ H14 (i := 3) rfl
  obtain ⟨rfl, rfl⟩ : pp1 = pA15 ∧ cc2 = cA16 := by injection he27 with a_ b_ c_; exact ⟨a_, c_⟩
  obtain ⟨pA28, cA29, gA30, oA31, kA32, eA33, zA34, he40, hn35, hp36, hx37, hs38, hml, H39⟩ := Im.open_ H26 (i := 3) rfl
  obtain ⟨rfl, rfl⟩ : pp6 = pA28 ∧ cc7 = cA29 := by injection he40 with a_ b_ c_; exact ⟨a_, c_⟩
  have H41 : St W w (imi (0 < M.length) gA30 (.cells kA32 eA33 zA34) :: imi (0 < L.length) gA17 (.cells kA19 eA20 zA21) :: NodesA M :: NodesA L :: Im 5 (.slice pp6 M.length cc7) M.length (M.flatMap nodeCell) :: Im 5 (.slice pp1 L.length cc2) L.length (L.flatMap nodeCell) :: F) := ((((((H39.move 5 rfl).move 5 rfl).move 5 rfl).move 5 rfl).move 5 rfl).move 5 rfl)
  refine g_loop_inv (fun (x_ : Nat) => match x_ with | j => [(0, .slice pp1 L.length cc2), (1, .slice pp6 M.length cc7), (2, .func (.func 8) #[] #[]), (6, .int .i64 0), (11, .slice pp1 L.length cc2), (12, .int .i64 (L.length : Int)), (13, .int .i64 (j : Int))]) (fun (x_ : Nat) w => match x_ with | j => (j ≤ L.length) ∧ (j ≤ M.length) ∧ (∀ q, q < j → cmpN (L.getD q default) (M.getD q default) = 0) ∧ St W w (imi (0 < M.length) gA30 (.cells kA32 eA33 zA34) :: imi (0 < L.length) gA17 (.cells kA19 eA20 zA21) :: NodesA M :: NodesA L :: Im 5 (.slice pp6 M.length cc7) M.length (M.flatMap nodeCell) :: Im 5 (.slice pp1 L.length cc2) L.length (L.flatMap nodeCell) :: F)) (fun (x_ : Nat) => match x_ with | j => L.length - j) (0) ?_ ?_ ?_
  · exact ⟨by first | rfl | exact vint (by omega), by first | rfl | exact vint (by omega), by first | rfl | exact vint (by omega), by first | rfl | exact vint (by omega), by first | rfl | exact vint (by omega), by first | rfl | exact vint (by omega), by first | rfl | exact vint (by omega), trivial⟩
  · exact ⟨(by omega), (Nat.zero_le _), (fun q hq => by omega), H41⟩
  · rintro j ρ42 w43 ⟨hjl, hjm, hz, H44⟩ nx45
    change Ends _ _ (upds ρ42 [(0, .slice pp1 L.length cc2), (1, .slice pp6 M.length cc7), (2, .func (.func 8) #[] #[]), (6, .int .i64 0), (11, .slice pp1 L.length cc2), (12, .int .i64 (L.length : Int)), (13, .int .i64 (j : Int))]) w43
    refine g_seq ?_
    refine g_region ?_
    by_cases hc46 : (j : Int) < (L.length : Int)
    · skip
      refine r_cons (s_lss true rfl rfl (dtrue hc46) rfl ?_)
      refine r_nil ?_
      refine g_seq ?_
      refine g_true rfl ?_
      refine g_skip ?_
      refine g_seq ?_
      refine g_block ?_
      refine g_seq ?_
      refine g_region ?_
      refine r_cons (s_move (.int .i64 (j : Int)) rfl rfl ?_)
      refine r_cons (s_indexAddr gA17 (off := oA18) (j : Int) 5 (oA18 + j * 5) (by exact congrArg (fun z_ => Value.slice z_ L.length cc2) (hp23 (by omega))) rfl el_23 (by omega) rfl rfl ?_)
      refine r_cons (s_loadAgg [.int .i64 ((L.getD j default).kind.v), .string ((L.getD j default).var.v), .string ((L.getD j default).typ.v), .slice ((L.getD j default).tp) ((L.getD j default).tests.length) ((L.getD j default).tc), .slice ((L.getD j default).kp) ((L.getD j default).kids.length) ((L.getD j default).kc)] 5 ag_25 rfl (H44.imi_at (i := 1) rfl (by omega)) (by have := elem_size (i := j) (s := 5) (hs25 (by omega)) (by omega); omega) (elem_take nodeCell_len (hx24 (by omega)) (by omega) default) rfl ?_)
      refine r_cons (s_alloc H44 25 ze_25 rfl ?_); intro bk47 w48 H49
      refine r_cons (s_assign (.int .i64 (j : Int)) rfl rfl ?_)
      refine r_cons (s_storeAgg H49 0 #[.int .i64 ((L.getD j default).kind.v), .string ((L.getD j default).var.v), .string ((L.getD j default).typ.v), .slice ((L.getD j default).tp) ((L.getD j default).tests.length) ((L.getD j default).tc), .slice ((L.getD j default).kp) ((L.getD j default).kids.length) ((L.getD j default).kc)] 5 rfl rfl rfl sz_25 rfl (by simp [Value.oneCell']) (Nat.le_of_ble_eq_true rfl) (fun o h1 h2 => by first | (simp; done) | (simp; omega)) (cs' := #[.int .i64 ((L.getD j default).kind.v), .string ((L.getD j default).var.v), .string ((L.getD j default).typ.v), .slice ((L.getD j default).tp) ((L.getD j default).tests.length) ((L.getD j default).tc), .slice ((L.getD j default).kp) ((L.getD j default).kids.length) ((L.getD j default).kc)]) rfl ?_); intro w50 H51
      refine r_nil ?_
      refine g_seq ?_
      refine g_seq ?_
      refine g_region ?_
      refine r_cons (s_move (.int .i64 (j : Int)) rfl rfl ?_)
      refine r_cons (s_move (.slice pp6 M.length cc7) rfl rfl ?_)
      refine r_cons (s_len M.length rfl ⟨_, un_23⟩ rfl ?_)
      by_cases hc52 : (M.length : Int) ≤ (j : Int)
      · skip
        refine r_cons (s_geq true rfl rfl (dtrue hc52) rfl ?_)
        refine r_nil ?_
        refine g_true rfl ?_
        refine g_seq ?_
        refine g_region ?_
        refine r_cons (s_assign (.int .i64 1) rfl rfl ?_)
        refine r_nil ?_
        refine g_ret' [.int .i64 1] Try.func38 Try.results38 ⟨rfl, trivial⟩ ?_
        have H53 : St W w50 F := (((((((H51.drop 0 rfl).drop 0 rfl).drop 0 rfl).drop 0 rfl).drop 0 rfl).drop 0 rfl).drop 0 rfl)
        exact ⟨vint (show (1 : Int) = lexC cmpN L M from (by have h9 := lexC_end (f := cmpN) hz (by omega) (by omega) (by omega); rw [← h9]; unfold cmpI; first | omega | (split <;> omega) | (split <;> (try split) <;> omega))), H53⟩
      · skip
        refine r_cons (s_geq false rfl rfl (dfalse hc52) rfl ?_)
        refine r_nil ?_
        refine g_false rfl ?_
        refine g_skip ?_
        refine g_seq ?_
        refine g_region ?_
        refine r_cons (s_move (.slice pp6 M.length cc7) rfl rfl ?_)
        refine r_cons (s_move (.int .i64 (j : Int)) rfl rfl ?_)
        refine r_cons (s_indexAddr gA30 (off := oA31) (j : Int) 5 (oA31 + j * 5) (by exact congrArg (fun z_ => Value.slice z_ M.length cc7) (hp36 (by omega))) rfl el_23 (by omega) rfl rfl ?_)
        refine r_cons (s_loadAgg [.int .i64 ((M.getD j default).kind.v), .string ((M.getD j default).var.v), .string ((M.getD j default).typ.v), .slice ((M.getD j default).tp) ((M.getD j default).tests.length) ((M.getD j default).tc), .slice ((M.getD j default).kp) ((M.getD j default).kids.length) ((M.getD j default).kc)] 5 ag_25 rfl (H51.imi_at (i := 1) rfl (by omega)) (by have := elem_size (i := j) (s := 5) (hs38 (by omega)) (by omega); omega) (elem_take nodeCell_len (hx37 (by omega)) (by omega) default) rfl ?_)
        refine r_cons (s_alloc H51 25 ze_25 rfl ?_); intro bk54 w55 H56
        refine r_cons (s_storeAgg H56 0 #[.int .i64 ((M.getD j default).kind.v), .string ((M.getD j default).var.v), .string ((M.getD j default).typ.v), .slice ((M.getD j default).tp) ((M.getD j default).tests.length) ((M.getD j default).tc), .slice ((M.getD j default).kp) ((M.getD j default).kids.length) ((M.getD j default).kc)] 5 rfl rfl rfl sz_25 rfl (by simp [Value.oneCell']) (Nat.le_of_ble_eq_true rfl) (fun o h1 h2 => by first | (simp; done) | (simp; omega)) (cs' := #[.int .i64 ((M.getD j default).kind.v), .string ((M.getD j default).var.v), .string ((M.getD j default).typ.v), .slice ((M.getD j default).tp) ((M.getD j default).tests.length) ((M.getD j default).tc), .slice ((M.getD j default).kp) ((M.getD j default).kids.length) ((M.getD j default).kc)]) rfl ?_); intro w57 H58
        refine r_nil ?_
        refine g_seq ?_
        refine g_region ?_
        refine r_cons (s_move (.func (.func 8) #[] #[]) rfl rfl ?_)
        refine r_cons (s_loadAgg [.int .i64 ((L.getD j default).kind.v), .string ((L.getD j default).var.v), .string ((L.getD j default).typ.v), .slice ((L.getD j default).tp) ((L.getD j default).tests.length) ((L.getD j default).tc), .slice ((L.getD j default).kp) ((L.getD j default).kids.length) ((L.getD j default).kc)] 5 ag_25 rfl (H58.blk_at (i := 1) rfl) (Nat.le_of_ble_eq_true rfl) rfl rfl ?_)
        refine r_cons (s_loadAgg [.int .i64 ((M.getD j default).kind.v), .string ((M.getD j default).var.v), .string ((M.getD j default).typ.v), .slice ((M.getD j default).tp) ((M.getD j default).tests.length) ((M.getD j default).tc), .slice ((M.getD j default).kp) ((M.getD j default).kids.length) ((M.getD j default).kc)] 5 ag_25 rfl (H58.blk_at (i := 0) rfl) (Nat.le_of_ble_eq_true rfl) rfl rfl ?_)
        have H59 := NodesA.at H58 (i := 5) rfl (j := j) (by omega)
        have H60 := NodesA.at H59 (i := 5) rfl (j := j) (by omega)
        refine r_cons (s_callv [] [.agg #[.int .i64 ((L.getD j default).kind.v), .string ((L.getD j default).var.v), .string ((L.getD j default).typ.v), .slice ((L.getD j default).tp) ((L.getD j default).tests.length) ((L.getD j default).tc), .slice ((L.getD j default).kp) ((L.getD j default).kids.length) ((L.getD j default).kc)], .agg #[.int .i64 ((M.getD j default).kind.v), .string ((M.getD j default).var.v), .string ((M.getD j default).typ.v), .slice ((M.getD j default).tp) ((M.getD j default).tests.length) ((M.getD j default).tc), .slice ((M.getD j default).kp) ((M.getD j default).kids.length) ((M.getD j default).kc)]] rfl pl_8 rfl rfl (hf (L.getD j default) (getD_mem' (by omega)) (M.getD j default) (i := 1) (i2 := 0) rfl rfl H60) ?_)
        rintro _ w61 ⟨rfl, H62⟩
        refine r_cons (s_assign (.int .i64 (cmpN (L.getD j default) (M.getD j default))) rfl rfl ?_)
        refine r_nil ?_
        refine g_seq ?_
        refine g_region ?_
        refine r_cons (s_move (.int .i64 (cmpN (L.getD j default) (M.getD j default))) rfl rfl ?_)
        by_cases hc63 : cmpN (L.getD j default) (M.getD j default) = 0
        · skip
          refine r_cons (s_neq false rfl rfl (ntrue hc63) rfl ?_)
          refine r_nil ?_
          refine g_false rfl ?_
          refine g_skip ?_
          refine g_inBlock ?_
          refine g_region ?_
          refine r_cons (s_add ((j : Int) + 1) rfl rfl (wi64 (by omega)) rfl ?_)
          refine r_cons (s_move (.int .i64 ((j : Int) + 1)) rfl rfl ?_)
          refine r_nil ?_
          have H64 : St W w61 (imi (0 < M.length) gA30 (.cells kA32 eA33 zA34) :: imi (0 < L.length) gA17 (.cells kA19 eA20 zA21) :: NodesA M :: NodesA L :: Im 5 (.slice pp6 M.length cc7) M.length (M.flatMap nodeCell) :: Im 5 (.slice pp1 L.length cc2) L.length (L.flatMap nodeCell) :: F) := ((((((((((H62.move 9 rfl).move 9 rfl).move 9 rfl).move 9 rfl).move 9 rfl).move 9 rfl).drop 6 rfl).drop 6 rfl).drop 6 rfl).drop 6 rfl)
          exact nx45 (j + 1) _ _ ⟨(by omega), (by omega), (fun q hq => (Nat.lt_or_ge q j).elim (hz q) (fun h => by rw [show q = j from by omega]; exact hc63)), H64⟩ (by first | (dsimp only; omega) | omega) ⟨by first | rfl | exact vint (by omega), by first | rfl | exact vint (by omega), by first | rfl | exact vint (by omega), by first | rfl | exact vint (by omega), by first | rfl | exact vint (by omega), by first | rfl | exact vint (by omega), by first | rfl | exact vint (by omega), trivial⟩
        · skip
          refine r_cons (s_neq true rfl rfl (nfalse hc63) rfl ?_)
          refine r_nil ?_
          refine g_true rfl ?_
          refine g_seq ?_
          refine g_region ?_
          refine r_cons (s_move (.int .i64 (cmpN (L.getD j default) (M.getD j default))) rfl rfl ?_)
          refine r_cons (s_assign (.int .i64 (cmpN (L.getD j default) (M.getD j default))) rfl rfl ?_)
          refine r_nil ?_
          refine g_ret' [.int .i64 (cmpN (L.getD j default) (M.getD j default))] Try.func38 Try.results38 ⟨rfl, trivial⟩ ?_
          have H65 : St W w61 (imi (0 < M.length) gA30 (.cells kA32 eA33 zA34) :: imi (0 < L.length) gA17 (.cells kA19 eA20 zA21) :: NodesA M :: NodesA L :: Im 5 (.slice pp6 M.length cc7) M.length (M.flatMap nodeCell) :: Im 5 (.slice pp1 L.length cc2) L.length (L.flatMap nodeCell) :: F) := ((((H62.drop 0 rfl).drop 0 rfl).drop 0 rfl).drop 0 rfl)
          have H66 : St W w61 (Im 5 (.slice pp6 M.length cc7) M.length (M.flatMap nodeCell) :: Im 5 (.slice pp1 L.length cc2) L.length (L.flatMap nodeCell) :: F) := ((((H65.drop 0 rfl).drop 0 rfl).drop 0 rfl).drop 0 rfl)
          have H67 : St W w61 F := ((H66.drop 0 rfl).drop 0 rfl)
          exact ⟨vint (lexC_at hz (by omega) (by omega) (by omega)), H67⟩
    · skip
      refine r_cons (s_lss false rfl rfl (dfalse hc46) rfl ?_)
      refine r_nil ?_
      refine g_seq ?_
      refine g_false rfl ?_
      refine g_exit (by rfl) ?_
      refine g_seq ?_
      refine g_seq ?_
      refine g_region ?_
      refine r_cons (s_move (.slice pp1 L.length cc2) rfl rfl ?_)
      refine r_cons (s_len L.length rfl ⟨_, un_23⟩ rfl ?_)
      refine r_cons (s_move (.slice pp6 M.length cc7) rfl rfl ?_)
      refine r_cons (s_len M.length rfl ⟨_, un_23⟩ rfl ?_)
      by_cases hc68 : (L.length : Int) < (M.length : Int)
      · skip
        refine r_cons (s_lss true rfl rfl (dtrue hc68) rfl ?_)
        refine r_nil ?_
        refine g_true rfl ?_
        refine g_seq ?_
        refine g_region ?_
        refine r_cons (s_assign (.int .i64 (-1)) rfl rfl ?_)
        refine r_nil ?_
        refine g_ret' [.int .i64 (-1)] Try.func38 Try.results38 ⟨rfl, trivial⟩ ?_
        have H69 : St W w43 F := ((((((H44.drop 0 rfl).drop 0 rfl).drop 0 rfl).drop 0 rfl).drop 0 rfl).drop 0 rfl)
        exact ⟨vint (show ((-1) : Int) = lexC cmpN L M from (by have h9 := lexC_end (f := cmpN) hz (by omega) (by omega) (by omega); rw [← h9]; unfold cmpI; first | omega | (split <;> omega) | (split <;> (try split) <;> omega))), H69⟩
      · skip
        refine r_cons (s_lss false rfl rfl (dfalse hc68) rfl ?_)
        refine r_nil ?_
        refine g_false rfl ?_
        refine g_skip ?_
        refine g_seq ?_
        refine g_region ?_
        refine r_cons (s_assign (.int .i64 0) rfl rfl ?_)
        refine r_nil ?_
        refine g_ret' [.int .i64 0] Try.func38 Try.results38 ⟨rfl, trivial⟩ ?_
        have H70 : St W w43 F := ((((((H44.drop 0 rfl).drop 0 rfl).drop 0 rfl).drop 0 rfl).drop 0 rfl).drop 0 rfl)
        exact ⟨vint (show (0 : Int) = lexC cmpN L M from (by have h9 := lexC_end (f := cmpN) hz (by omega) (by omega) (by omega); rw [← h9]; unfold cmpI; first | omega | (split <;> omega) | (split <;> (try split) <;> omega))), H70⟩
set_option maxHeartbeats 4000000 in
set_option maxRecDepth 100000 in
theorem normal_Compare_r (N : Nat) : ∀ (n : NodeD), sizeOf n < N → ∀ {W w : World} {F : List Atom} (m : NodeD) {i : Nat} (hi : F[i]? = some (NodeA n)) {i2 : Nat} (hi2 : F[i2]? = some (NodeA m)) (H : St W w F), Calls Try.prog 8 #[.agg #[.int .i64 n.kind.v, .string n.var.v, .string n.typ.v, .slice n.tp n.tests.length n.tc, .slice n.kp n.kids.length n.kc], .agg #[.int .i64 m.kind.v, .string m.var.v, .string m.typ.v, .slice m.tp m.tests.length m.tc, .slice m.kp m.kids.length m.kc]] w (Ret fun v w' => v = .int .i64 (cmpN n m) ∧ St W w' F) := by
  induction N with | zero => exact fun n hN => absurd hN (Nat.not_lt_zero _) | succ N ih => ?_
  intro n hN W w F m i hi i2 hi2 H
  have H1 := NodeA.kids H (i := i + 0) (by exact hi)
  have H2 := NodeA.tests H1 (i := i + 2) (by exact hi)
  have H3 : St W w (Im 11 (.slice n.tp n.tests.length n.tc) n.tests.length (n.tests.flatMap condCell) :: Im 5 (.slice n.kp n.kids.length n.kc) n.kids.length (n.kids.flatMap nodeCell) :: NodesA n.kids :: F) := H2
  have H4 := NodeA.kids H3 (i := i2 + 3) (by exact hi2)
  have H5 := NodeA.tests H4 (i := i2 + 5) (by exact hi2)
  have H6 : St W w (Im 11 (.slice m.tp m.tests.length m.tc) m.tests.length (m.tests.flatMap condCell) :: Im 5 (.slice m.kp m.kids.length m.kc) m.kids.length (m.kids.flatMap nodeCell) :: NodesA m.kids :: Im 11 (.slice n.tp n.tests.length n.tc) n.tests.length (n.tests.flatMap condCell) :: Im 5 (.slice n.kp n.kids.length n.kc) n.kids.length (n.kids.flatMap nodeCell) :: NodesA n.kids :: F) := H5
  refine calls_of_go (n := 32) Try.func8 rfl Try.ntmps8 rfl ?_
  refine g_seq ?_
  refine g_region ?_
  refine r_cons (s_box H6 25 (.agg #[.int .i64 n.kind.v, .string n.var.v, .string n.typ.v, .slice n.tp n.tests.length n.tc, .slice n.kp n.kids.length n.kc]) rfl (cs := #[.int .i64 n.kind.v, .string n.var.v, .string n.typ.v, .slice n.tp n.tests.length n.tc, .slice n.kp n.kids.length n.kc]) rfl rfl ?_); intro bk7 w8 H9
  refine r_cons (s_box H9 25 (.agg #[.int .i64 m.kind.v, .string m.var.v, .string m.typ.v, .slice m.tp m.tests.length m.tc, .slice m.kp m.kids.length m.kc]) rfl (cs := #[.int .i64 m.kind.v, .string m.var.v, .string m.typ.v, .slice m.tp m.tests.length m.tc, .slice m.kp m.kids.length m.kc]) rfl rfl ?_); intro bk10 w11 H12
  refine r_cons (s_assign (.int .i64 0) rfl rfl ?_)
  refine r_nil ?_
  refine g_seq ?_
  refine g_mix (fun t_ w => St W w (blk bk10 (.cells #[.int .i64 m.kind.v, .string m.var.v, .string m.typ.v, .slice m.tp m.tests.length m.tc, .slice m.kp m.kids.length m.kc] 25 (0, 0)) :: blk bk7 (.cells #[.int .i64 n.kind.v, .string n.var.v, .string n.typ.v, .slice n.tp n.tests.length n.tc, .slice n.kp n.kids.length n.kc] 25 (0, 0)) :: Im 11 (.slice m.tp m.tests.length m.tc) m.tests.length (m.tests.flatMap condCell) :: Im 5 (.slice m.kp m.kids.length m.kc) m.kids.length (m.kids.flatMap nodeCell) :: NodesA m.kids :: Im 11 (.slice n.tp n.tests.length n.tc) n.tests.length (n.tests.flatMap condCell) :: Im 5 (.slice n.kp n.kids.length n.kc) n.kids.length (n.kids.flatMap nodeCell) :: NodesA n.kids :: t_)) F mixed 28 rfl H12.drew ?_
  refine f_first 0 (listed' := #[true, false, false, false, false, false, false, false, false, false, false, false, false, false, false, false, false, false, false, false, false, false, false, false, false, false, false, false]) rfl (by kernel_rfl) (by kernel_rfl) (by kernel_rfl) rfl ?_
  refine f_val rfl rfl rfl (by intro t_ w hw; exact x_fieldAddr 25 0 0 0 3 rfl fi_25_0 rfl w) ?_
  refine f_first 1 (listed' := #[true, true, false, false, false, false, false, false, false, false, false, false, false, false, false, false, false, false, false, false, false, false, false, false, false, false, false, false]) rfl (by kernel_rfl) (by kernel_rfl) (by kernel_rfl) rfl ?_
  refine f_val rfl rfl rfl (by intro t_ w hw; exact x_load (.int .i64 n.kind.v) ag_3 rfl (hw.blk_at (i := 1) rfl) rfl) ?_
  refine f_first 2 (listed' := #[true, true, true, false, false, false, false, false, false, false, false, false, false, false, false, false, false, false, false, false, false, false, false, false, false, false, false, false]) rfl (by kernel_rfl) (by kernel_rfl) (by kernel_rfl) rfl ?_
  refine f_val rfl rfl rfl (by intro t_ w hw; exact x_fieldAddr 25 0 0 0 3 rfl fi_25_0 rfl w) ?_
  refine f_first 3 (listed' := #[true, true, true, true, false, false, false, false, false, false, false, false, false, false, false, false, false, false, false, false, false, false, false, false, false, false, false, false]) rfl (by kernel_rfl) (by kernel_rfl) (by kernel_rfl) rfl ?_
  refine f_val rfl rfl rfl (by intro t_ w hw; exact x_load (.int .i64 m.kind.v) ag_3 rfl (hw.blk_at (i := 0) rfl) rfl) ?_
  refine f_first 4 (listed' := #[true, true, true, true, true, false, false, false, false, false, false, false, false, false, false, false, false, false, false, false, false, false, false, false, false, false, false, false]) rfl (by kernel_rfl) (by kernel_rfl) (by kernel_rfl) rfl ?_
  refine f_enter (args := #[.int .i64 n.kind.v, .int .i64 m.kind.v]) (v := .int .i64 (cmpI n.kind.v m.kind.v)) rfl rfl rfl (x_call pl_34 [.int .i64 n.kind.v, .int .i64 m.kind.v] rfl) (fun t_ w hw => cmp_Compare_int n.kind.v m.kind.v hw) ?_
  refine f_first 5 (listed' := #[true, true, true, true, true, true, false, false, false, false, false, false, false, false, false, false, false, false, false, false, false, false, false, false, false, false, false, false]) rfl (by kernel_rfl) (by kernel_rfl) (by kernel_rfl) rfl ?_
  refine f_val rfl rfl rfl (by intro t_ w hw; exact x_fieldAddr 25 2 2 2 9 rfl fi_25_2 rfl w) ?_
  refine f_first 6 (listed' := #[true, true, true, true, true, true, true, false, false, false, false, false, false, false, false, false, false, false, false, false, false, false, false, false, false, false, false, false]) rfl (by kernel_rfl) (by kernel_rfl) (by kernel_rfl) rfl ?_
  refine f_val rfl rfl rfl (by intro t_ w hw; exact x_load (.string n.typ.v) ag_9 rfl (hw.blk_at (i := 1) rfl) rfl) ?_
  refine f_first 7 (listed' := #[true, true, true, true, true, true, true, true, false, false, false, false, false, false, false, false, false, false, false, false, false, false, false, false, false, false, false, false]) rfl (by kernel_rfl) (by kernel_rfl) (by kernel_rfl) rfl ?_
  refine f_val rfl rfl rfl (by intro t_ w hw; exact x_fieldAddr 25 2 2 2 9 rfl fi_25_2 rfl w) ?_
  refine f_first 8 (listed' := #[true, true, true, true, true, true, true, true, true, false, false, false, false, false, false, false, false, false, false, false, false, false, false, false, false, false, false, false]) rfl (by kernel_rfl) (by kernel_rfl) (by kernel_rfl) rfl ?_
  refine f_val rfl rfl rfl (by intro t_ w hw; exact x_load (.string m.typ.v) ag_9 rfl (hw.blk_at (i := 0) rfl) rfl) ?_
  refine f_first 9 (listed' := #[true, true, true, true, true, true, true, true, true, true, false, false, false, false, false, false, false, false, false, false, false, false, false, false, false, false, false, false]) rfl (by kernel_rfl) (by kernel_rfl) (by kernel_rfl) rfl ?_
  refine f_enter (args := #[.string n.typ.v, .string m.typ.v]) (v := .int .i64 (cmpSt n.typ.v m.typ.v)) rfl rfl rfl (x_call pl_35 [.string n.typ.v, .string m.typ.v] rfl) (fun t_ w hw => cmp_Compare_string n.typ.v m.typ.v hw) ?_
  refine f_first 10 (listed' := #[true, true, true, true, true, true, true, true, true, true, true, false, false, false, false, false, false, false, false, false, false, false, false, false, false, false, false, false]) rfl (by kernel_rfl) (by kernel_rfl) (by kernel_rfl) rfl ?_
  refine f_val rfl rfl rfl (by intro t_ w hw; exact x_fieldAddr 25 1 1 1 9 rfl fi_25_1 rfl w) ?_
  refine f_first 11 (listed' := #[true, true, true, true, true, true, true, true, true, true, true, true, false, false, false, false, false, false, false, false, false, false, false, false, false, false, false, false]) rfl (by kernel_rfl) (by kernel_rfl) (by kernel_rfl) rfl ?_
  refine f_val rfl rfl rfl (by intro t_ w hw; exact x_load (.string n.var.v) ag_9 rfl (hw.blk_at (i := 1) rfl) rfl) ?_
  refine f_first 12 (listed' := #[true, true, true, true, true, true, true, true, true, true, true, true, true, false, false, false, false, false, false, false, false, false, false, false, false, false, false, false]) rfl (by kernel_rfl) (by kernel_rfl) (by kernel_rfl) rfl ?_
  refine f_val rfl rfl rfl (by intro t_ w hw; exact x_fieldAddr 25 1 1 1 9 rfl fi_25_1 rfl w) ?_
  refine f_first 13 (listed' := #[true, true, true, true, true, true, true, true, true, true, true, true, true, true, false, false, false, false, false, false, false, false, false, false, false, false, false, false]) rfl (by kernel_rfl) (by kernel_rfl) (by kernel_rfl) rfl ?_
  refine f_val rfl rfl rfl (by intro t_ w hw; exact x_load (.string m.var.v) ag_9 rfl (hw.blk_at (i := 0) rfl) rfl) ?_
  refine f_first 14 (listed' := #[true, true, true, true, true, true, true, true, true, true, true, true, true, true, true, false, false, false, false, false, false, false, false, false, false, false, false, false]) rfl (by kernel_rfl) (by kernel_rfl) (by kernel_rfl) rfl ?_
  refine f_enter (args := #[.string n.var.v, .string m.var.v]) (v := .int .i64 (cmpSt n.var.v m.var.v)) rfl rfl rfl (x_call pl_35 [.string n.var.v, .string m.var.v] rfl) (fun t_ w hw => cmp_Compare_string n.var.v m.var.v hw) ?_
  refine f_first 15 (listed' := #[true, true, true, true, true, true, true, true, true, true, true, true, true, true, true, true, false, false, false, false, false, false, false, false, false, false, false, false]) rfl (by kernel_rfl) (by kernel_rfl) (by kernel_rfl) rfl ?_
  refine f_val rfl rfl rfl (by intro t_ w hw; exact x_fieldAddr 25 3 3 3 22 rfl fi_25_3 rfl w) ?_
  refine f_first 16 (listed' := #[true, true, true, true, true, true, true, true, true, true, true, true, true, true, true, true, true, false, false, false, false, false, false, false, false, false, false, false]) rfl (by kernel_rfl) (by kernel_rfl) (by kernel_rfl) rfl ?_
  refine f_val rfl rfl rfl (by intro t_ w hw; exact x_load (.slice n.tp n.tests.length n.tc) ag_22 rfl (hw.blk_at (i := 1) rfl) rfl) ?_
  refine f_first 17 (listed' := #[true, true, true, true, true, true, true, true, true, true, true, true, true, true, true, true, true, true, false, false, false, false, false, false, false, false, false, false]) rfl (by kernel_rfl) (by kernel_rfl) (by kernel_rfl) rfl ?_
  refine f_val rfl rfl rfl (by intro t_ w hw; exact x_fieldAddr 25 3 3 3 22 rfl fi_25_3 rfl w) ?_
  refine f_first 18 (listed' := #[true, true, true, true, true, true, true, true, true, true, true, true, true, true, true, true, true, true, true, false, false, false, false, false, false, false, false, false]) rfl (by kernel_rfl) (by kernel_rfl) (by kernel_rfl) rfl ?_
  refine f_val rfl rfl rfl (by intro t_ w hw; exact x_load (.slice m.tp m.tests.length m.tc) ag_22 rfl (hw.blk_at (i := 0) rfl) rfl) ?_
  refine f_first 19 (listed' := #[true, true, true, true, true, true, true, true, true, true, true, true, true, true, true, true, true, true, true, true, false, false, false, false, false, false, false, false]) rfl (by kernel_rfl) (by kernel_rfl) (by kernel_rfl) rfl ?_
  refine f_enter (args := #[.slice n.tp n.tests.length n.tc, .slice m.tp m.tests.length m.tc, .func (.func 37) #[] #[]]) (v := .int .i64 (lexC condC n.tests m.tests)) rfl rfl rfl (x_call pl_36 [.slice n.tp n.tests.length n.tc, .slice m.tp m.tests.length m.tc, .func (.func 37) #[] #[]] rfl) (fun t_ w hw => CompareFunc_cond n.tests m.tests (.slice n.tp n.tests.length n.tc) (.slice m.tp m.tests.length m.tc) (m := 5) rfl (n := 2) rfl hw) ?_
  refine f_first 20 (listed' := #[true, true, true, true, true, true, true, true, true, true, true, true, true, true, true, true, true, true, true, true, true, false, false, false, false, false, false, false]) rfl (by kernel_rfl) (by kernel_rfl) (by kernel_rfl) rfl ?_
  refine f_val rfl rfl rfl (by intro t_ w hw; exact x_fieldAddr 25 4 4 4 23 rfl fi_25_4 rfl w) ?_
  refine f_first 21 (listed' := #[true, true, true, true, true, true, true, true, true, true, true, true, true, true, true, true, true, true, true, true, true, true, false, false, false, false, false, false]) rfl (by kernel_rfl) (by kernel_rfl) (by kernel_rfl) rfl ?_
  refine f_val rfl rfl rfl (by intro t_ w hw; exact x_load (.slice n.kp n.kids.length n.kc) ag_23 rfl (hw.blk_at (i := 1) rfl) rfl) ?_
  refine f_first 22 (listed' := #[true, true, true, true, true, true, true, true, true, true, true, true, true, true, true, true, true, true, true, true, true, true, true, false, false, false, false, false]) rfl (by kernel_rfl) (by kernel_rfl) (by kernel_rfl) rfl ?_
  refine f_val rfl rfl rfl (by intro t_ w hw; exact x_fieldAddr 25 4 4 4 23 rfl fi_25_4 rfl w) ?_
  refine f_first 23 (listed' := #[true, true, true, true, true, true, true, true, true, true, true, true, true, true, true, true, true, true, true, true, true, true, true, true, false, false, false, false]) rfl (by kernel_rfl) (by kernel_rfl) (by kernel_rfl) rfl ?_
  refine f_val rfl rfl rfl (by intro t_ w hw; exact x_load (.slice m.kp m.kids.length m.kc) ag_23 rfl (hw.blk_at (i := 0) rfl) rfl) ?_
  refine f_first 24 (listed' := #[true, true, true, true, true, true, true, true, true, true, true, true, true, true, true, true, true, true, true, true, true, true, true, true, true, false, false, false]) rfl (by kernel_rfl) (by kernel_rfl) (by kernel_rfl) rfl ?_
  refine f_enter (args := #[.slice n.kp n.kids.length n.kc, .slice m.kp m.kids.length m.kc, .func (.func 8) #[] #[]]) (v := .int .i64 (lexC cmpN n.kids m.kids)) rfl rfl rfl (x_call pl_38 [.slice n.kp n.kids.length n.kc, .slice m.kp m.kids.length m.kc, .func (.func 8) #[] #[]] rfl) (fun t_ w hw => CompareFunc_node n.kids m.kids (.slice n.kp n.kids.length n.kc) (.slice m.kp m.kids.length m.kc) (m := 6) rfl (n := 3) rfl (il := 7) rfl (ik := 4) rfl (fun x hx y _ _ _ _ _ h1 h2 h3 => ih x (by have h9 := kid_mem_lt hx; omega) y h1 h2 h3) hw) ?_
  refine f_all (rs := [25]) (by kernel_rfl) (by simp) ?_
  refine a_cons ⟨_, rfl, ?_⟩ (fun x hx => absurd hx (by simp))
  intro w13 H14
  try dsimp only at H14
  refine s_buildSlice H14 1 5 (cs := #[.int .i64 (cmpI n.kind.v m.kind.v), .int .i64 (cmpSt n.typ.v m.typ.v), .int .i64 (cmpSt n.var.v m.var.v), .int .i64 (lexC condC n.tests m.tests), .int .i64 (lexC cmpN n.kids m.kids)]) #[.int .i64 0] el_69 ze_3 (by decide) (by decide) (by kernel_rfl) rfl ?_; intro bk15 w16 H17
  have H18 : St W w16 (blk bk10 (.cells #[.int .i64 m.kind.v, .string m.var.v, .string m.typ.v, .slice m.tp m.tests.length m.tc, .slice m.kp m.kids.length m.kc] 25 (0, 0)) :: blk bk7 (.cells #[.int .i64 n.kind.v, .string n.var.v, .string n.typ.v, .slice n.tp n.tests.length n.tc, .slice n.kp n.kids.length n.kc] 25 (0, 0)) :: Im 11 (.slice m.tp m.tests.length m.tc) m.tests.length (m.tests.flatMap condCell) :: Im 5 (.slice m.kp m.kids.length m.kc) m.kids.length (m.kids.flatMap nodeCell) :: NodesA m.kids :: Im 11 (.slice n.tp n.tests.length n.tc) n.tests.length (n.tests.flatMap condCell) :: Im 5 (.slice n.kp n.kids.length n.kc) n.kids.length (n.kids.flatMap nodeCell) :: NodesA n.kids :: blk bk15 (.cells #[.int .i64 (cmpI n.kind.v m.kind.v), .int .i64 (cmpSt n.typ.v m.typ.v), .int .i64 (cmpSt n.var.v m.var.v), .int .i64 (lexC condC n.tests m.tests), .int .i64 (lexC cmpN n.kids m.kids)] 3 (0, 0)) :: F) := ((((((((H17.move 8 rfl).move 8 rfl).move 8 rfl).move 8 rfl).move 8 rfl).move 8 rfl).move 8 rfl).move 8 rfl)
  refine ⟨blk bk15 (.cells #[.int .i64 (cmpI n.kind.v m.kind.v), .int .i64 (cmpSt n.typ.v m.typ.v), .int .i64 (cmpSt n.var.v m.var.v), .int .i64 (lexC condC n.tests m.tests), .int .i64 (lexC cmpN n.kids m.kids)] 3 (0, 0)) :: F, ?_, H18⟩
  change FReg _ _ _ _ _ #[true, true, true, true, true, true, true, true, true, true, true, true, true, true, true, true, true, true, true, true, true, true, true, true, true, true, false, false] _ _
  refine f_all (rs := [26]) (by kernel_rfl) (by simp) ?_
  refine a_cons ⟨_, rfl, ?_⟩ (fun x hx => absurd hx (by simp))
  intro w19 H20
  try dsimp only at H20
  have H21 := Row.cut (n := 0) (m := 5) (c := 5) (size := 1) (xs := [.int .i64 (cmpI n.kind.v m.kind.v), .int .i64 (cmpSt n.typ.v m.typ.v), .int .i64 (cmpSt n.var.v m.var.v), .int .i64 (lexC condC n.tests m.tests), .int .i64 (lexC cmpN n.kids m.kids)]) H20 (i := 8) rfl (by decide) (by decide +kernel) rfl rfl (by simp [Value.oneCell'])
  have H22 : St W w19 (blk bk10 (.cells #[.int .i64 m.kind.v, .string m.var.v, .string m.typ.v, .slice m.tp m.tests.length m.tc, .slice m.kp m.kids.length m.kc] 25 (0, 0)) :: blk bk7 (.cells #[.int .i64 n.kind.v, .string n.var.v, .string n.typ.v, .slice n.tp n.tests.length n.tc, .slice n.kp n.kids.length n.kc] 25 (0, 0)) :: Im 11 (.slice m.tp m.tests.length m.tc) m.tests.length (m.tests.flatMap condCell) :: Im 5 (.slice m.kp m.kids.length m.kc) m.kids.length (m.kids.flatMap nodeCell) :: NodesA m.kids :: Im 11 (.slice n.tp n.tests.length n.tc) n.tests.length (n.tests.flatMap condCell) :: Im 5 (.slice n.kp n.kids.length n.kc) n.kids.length (n.kids.flatMap nodeCell) :: NodesA n.kids :: Row 3 1 (.slice (some ⟨bk15, 0, none⟩) 5 5) 5 [.int .i64 (cmpI n.kind.v m.kind.v), .int .i64 (cmpSt n.typ.v m.typ.v), .int .i64 (cmpSt n.var.v m.var.v), .int .i64 (lexC condC n.tests m.tests), .int .i64 (lexC cmpN n.kids m.kids)] :: F) := H21
  have H23 : St W w19 (blk bk10 (.cells #[.int .i64 m.kind.v, .string m.var.v, .string m.typ.v, .slice m.tp m.tests.length m.tc, .slice m.kp m.kids.length m.kc] 25 (0, 0)) :: blk bk7 (.cells #[.int .i64 n.kind.v, .string n.var.v, .string n.typ.v, .slice n.tp n.tests.length n.tc, .slice n.kp n.kids.length n.kc] 25 (0, 0)) :: Im 11 (.slice m.tp m.tests.length m.tc) m.tests.length (m.tests.flatMap condCell) :: Im 5 (.slice m.kp m.kids.length m.kc) m.kids.length (m.kids.flatMap nodeCell) :: NodesA m.kids :: Im 11 (.slice n.tp n.tests.length n.tc) n.tests.length (n.tests.flatMap condCell) :: Im 5 (.slice n.kp n.kids.length n.kc) n.kids.length (n.kids.flatMap nodeCell) :: NodesA n.kids :: Im 1 (.slice (some ⟨bk15, 0, none⟩) 5 5) 5 ([cmpI n.kind.v m.kind.v, cmpSt n.typ.v m.typ.v, cmpSt n.var.v m.var.v, lexC condC n.tests m.tests, lexC cmpN n.kids m.kids].flatMap iC) :: F) := Row.im H22 (i := 8) rfl
  refine s_call [.slice (some ⟨bk15, 0, none⟩) 5 5] pl_33 rfl rfl (cmp_Or [cmpI n.kind.v m.kind.v, cmpSt n.typ.v m.typ.v, cmpSt n.var.v m.var.v, lexC condC n.tests m.tests, lexC cmpN n.kids m.kids] (.slice (some ⟨bk15, 0, none⟩) 5 5) (m := 8) rfl H23) ?_
  rintro _ w24 ⟨rfl, H25⟩
  refine ⟨Im 1 (.slice (some ⟨bk15, 0, none⟩) 5 5) 5 ([cmpI n.kind.v m.kind.v, cmpSt n.typ.v m.typ.v, cmpSt n.var.v m.var.v, lexC condC n.tests m.tests, lexC cmpN n.kids m.kids].flatMap iC) :: F, ?_, H25⟩
  change FReg _ _ _ _ _ #[true, true, true, true, true, true, true, true, true, true, true, true, true, true, true, true, true, true, true, true, true, true, true, true, true, true, true, false] _ _
  refine f_first 27 (listed' := #[true, true, true, true, true, true, true, true, true, true, true, true, true, true, true, true, true, true, true, true, true, true, true, true, true, true, true, true]) rfl (by kernel_rfl) (by kernel_rfl) (by kernel_rfl) rfl ?_
  refine f_val rfl rfl rfl (by intro t_ w hw; exact x_assign (.int .i64 (firstE [cmpI n.kind.v m.kind.v, cmpSt n.typ.v m.typ.v, cmpSt n.var.v m.var.v, lexC condC n.tests m.tests, lexC cmpN n.kids m.kids])) rfl w) ?_
  refine f_done (by kernel_rfl) ?_
  intro w26 H27
  refine g_ret' [.int .i64 (firstE [cmpI n.kind.v m.kind.v, cmpSt n.typ.v m.typ.v, cmpSt n.var.v m.var.v, lexC condC n.tests m.tests, lexC cmpN n.kids m.kids])] Try.func8 Try.results8 ⟨rfl, trivial⟩ ?_
  have H28 : St W w26 (NodesA m.kids :: Im 11 (.slice n.tp n.tests.length n.tc) n.tests.length (n.tests.flatMap condCell) :: Im 5 (.slice n.kp n.kids.length n.kc) n.kids.length (n.kids.flatMap nodeCell) :: NodesA n.kids :: Im 1 (.slice (some ⟨bk15, 0, none⟩) 5 5) 5 ([cmpI n.kind.v m.kind.v, cmpSt n.typ.v m.typ.v, cmpSt n.var.v m.var.v, lexC condC n.tests m.tests, lexC cmpN n.kids m.kids].flatMap iC) :: F) := ((((H27.drop 0 rfl).drop 0 rfl).drop 0 rfl).drop 0 rfl)
  have H29 : St W w26 (Im 1 (.slice (some ⟨bk15, 0, none⟩) 5 5) 5 ([cmpI n.kind.v m.kind.v, cmpSt n.typ.v m.typ.v, cmpSt n.var.v m.var.v, lexC condC n.tests m.tests, lexC cmpN n.kids m.kids].flatMap iC) :: F) := ((((H28.drop 0 rfl).drop 0 rfl).drop 0 rfl).drop 0 rfl)
  have H30 : St W w26 F := (H29.drop 0 rfl)
  exact ⟨vint cmpN_eq.symm, H30⟩
theorem normal_Compare {W w : World} {F : List Atom} (n : NodeD) (m : NodeD) {i : Nat} (hi : F[i]? = some (NodeA n)) {i2 : Nat} (hi2 : F[i2]? = some (NodeA m)) (H : St W w F) : Calls Try.prog 8 #[.agg #[.int .i64 n.kind.v, .string n.var.v, .string n.typ.v, .slice n.tp n.tests.length n.tc, .slice n.kp n.kids.length n.kc], .agg #[.int .i64 m.kind.v, .string m.var.v, .string m.typ.v, .slice m.tp m.tests.length m.tc, .slice m.kp m.kids.length m.kc]] w (Ret fun v w' => v = .int .i64 (cmpN n m) ∧ St W w' F) := normal_Compare_r (sizeOf n + 1) n (Nat.lt_succ_self _) m hi hi2 H
set_option maxHeartbeats 4000000 in
set_option maxRecDepth 100000 in
theorem ref08_Compare_r (N : Nat) : ∀ (n : NodeD), sizeOf n < N → ∀ {W w : World} {F : List Atom} (m : NodeD) {i : Nat} (hi : F[i]? = some (NodeA n)) {i2 : Nat} (hi2 : F[i2]? = some (NodeA m)) (H : St W w F), Calls Try.prog 10 #[.agg #[.int .i64 n.kind.v, .string n.var.v, .string n.typ.v, .slice n.tp n.tests.length n.tc, .slice n.kp n.kids.length n.kc], .agg #[.int .i64 m.kind.v, .string m.var.v, .string m.typ.v, .slice m.tp m.tests.length m.tc, .slice m.kp m.kids.length m.kc]] w (Ret fun v w' => v = .int .i64 (cmpN n m) ∧ St W w' F) := by
  induction N with | zero => exact fun n hN => absurd hN (Nat.not_lt_zero _) | succ N ih => ?_
  intro n hN W w F m i hi i2 hi2 H
  have H1 := NodeA.kids H (i := i + 0) (by exact hi)
  have H2 := NodeA.tests H1 (i := i + 2) (by exact hi)
  have H3 : St W w (Im 11 (.slice n.tp n.tests.length n.tc) n.tests.length (n.tests.flatMap condCell) :: Im 5 (.slice n.kp n.kids.length n.kc) n.kids.length (n.kids.flatMap nodeCell) :: NodesA n.kids :: F) := H2
  have H4 := NodeA.kids H3 (i := i2 + 3) (by exact hi2)
  have H5 := NodeA.tests H4 (i := i2 + 5) (by exact hi2)
  have H6 : St W w (Im 11 (.slice m.tp m.tests.length m.tc) m.tests.length (m.tests.flatMap condCell) :: Im 5 (.slice m.kp m.kids.length m.kc) m.kids.length (m.kids.flatMap nodeCell) :: NodesA m.kids :: Im 11 (.slice n.tp n.tests.length n.tc) n.tests.length (n.tests.flatMap condCell) :: Im 5 (.slice n.kp n.kids.length n.kc) n.kids.length (n.kids.flatMap nodeCell) :: NodesA n.kids :: F) := H5
  refine calls_of_go (n := 68) Try.func10 rfl Try.ntmps10 rfl ?_
  refine g_seq ?_
  refine g_region ?_
  refine r_cons (s_box H6 25 (.agg #[.int .i64 n.kind.v, .string n.var.v, .string n.typ.v, .slice n.tp n.tests.length n.tc, .slice n.kp n.kids.length n.kc]) rfl (cs := #[.int .i64 n.kind.v, .string n.var.v, .string n.typ.v, .slice n.tp n.tests.length n.tc, .slice n.kp n.kids.length n.kc]) rfl rfl ?_); intro bk7 w8 H9
  refine r_cons (s_box H9 25 (.agg #[.int .i64 m.kind.v, .string m.var.v, .string m.typ.v, .slice m.tp m.tests.length m.tc, .slice m.kp m.kids.length m.kc]) rfl (cs := #[.int .i64 m.kind.v, .string m.var.v, .string m.typ.v, .slice m.tp m.tests.length m.tc, .slice m.kp m.kids.length m.kc]) rfl rfl ?_); intro bk10 w11 H12
  refine r_cons (s_assign (.int .i64 0) rfl rfl ?_)
  refine r_nil ?_
  refine g_seq ?_
  refine g_seq ?_
  refine g_mix (fun t_ w => St W w (blk bk10 (.cells #[.int .i64 m.kind.v, .string m.var.v, .string m.typ.v, .slice m.tp m.tests.length m.tc, .slice m.kp m.kids.length m.kc] 25 (0, 0)) :: blk bk7 (.cells #[.int .i64 n.kind.v, .string n.var.v, .string n.typ.v, .slice n.tp n.tests.length n.tc, .slice n.kp n.kids.length n.kc] 25 (0, 0)) :: Im 11 (.slice m.tp m.tests.length m.tc) m.tests.length (m.tests.flatMap condCell) :: Im 5 (.slice m.kp m.kids.length m.kc) m.kids.length (m.kids.flatMap nodeCell) :: NodesA m.kids :: Im 11 (.slice n.tp n.tests.length n.tc) n.tests.length (n.tests.flatMap condCell) :: Im 5 (.slice n.kp n.kids.length n.kc) n.kids.length (n.kids.flatMap nodeCell) :: NodesA n.kids :: t_)) F mixed 23 rfl H12.drew ?_
  refine f_first 0 (listed' := #[true, false, false, false, false, false, false, false, false, false, false, false, false, false, false, false, false, false, false, false, false, false, false]) rfl (by kernel_rfl) (by kernel_rfl) (by kernel_rfl) rfl ?_
  refine f_val rfl rfl rfl (by intro t_ w hw; exact x_fieldAddr 25 0 0 0 3 rfl fi_25_0 rfl w) ?_
  refine f_first 1 (listed' := #[true, true, false, false, false, false, false, false, false, false, false, false, false, false, false, false, false, false, false, false, false, false, false]) rfl (by kernel_rfl) (by kernel_rfl) (by kernel_rfl) rfl ?_
  refine f_val rfl rfl rfl (by intro t_ w hw; exact x_load (.int .i64 n.kind.v) ag_3 rfl (hw.blk_at (i := 1) rfl) rfl) ?_
  refine f_first 2 (listed' := #[true, true, true, false, false, false, false, false, false, false, false, false, false, false, false, false, false, false, false, false, false, false, false]) rfl (by kernel_rfl) (by kernel_rfl) (by kernel_rfl) rfl ?_
  refine f_val rfl rfl rfl (by intro t_ w hw; exact x_fieldAddr 25 0 0 0 3 rfl fi_25_0 rfl w) ?_
  refine f_first 3 (listed' := #[true, true, true, true, false, false, false, false, false, false, false, false, false, false, false, false, false, false, false, false, false, false, false]) rfl (by kernel_rfl) (by kernel_rfl) (by kernel_rfl) rfl ?_
  refine f_val rfl rfl rfl (by intro t_ w hw; exact x_load (.int .i64 m.kind.v) ag_3 rfl (hw.blk_at (i := 0) rfl) rfl) ?_
  refine f_first 4 (listed' := #[true, true, true, true, true, false, false, false, false, false, false, false, false, false, false, false, false, false, false, false, false, false, false]) rfl (by kernel_rfl) (by kernel_rfl) (by kernel_rfl) rfl ?_
  refine f_enter (args := #[.int .i64 n.kind.v, .int .i64 m.kind.v]) (v := .int .i64 (cmpI n.kind.v m.kind.v)) rfl rfl rfl (x_call pl_41 [.int .i64 n.kind.v, .int .i64 m.kind.v] rfl) (fun t_ w hw => ref08_int64 n.kind.v m.kind.v hw) ?_
  refine f_first 5 (listed' := #[true, true, true, true, true, true, false, false, false, false, false, false, false, false, false, false, false, false, false, false, false, false, false]) rfl (by kernel_rfl) (by kernel_rfl) (by kernel_rfl) rfl ?_
  refine f_val rfl rfl rfl (by intro t_ w hw; exact x_fieldAddr 25 2 2 2 9 rfl fi_25_2 rfl w) ?_
  refine f_first 6 (listed' := #[true, true, true, true, true, true, true, false, false, false, false, false, false, false, false, false, false, false, false, false, false, false, false]) rfl (by kernel_rfl) (by kernel_rfl) (by kernel_rfl) rfl ?_
  refine f_val rfl rfl rfl (by intro t_ w hw; exact x_load (.string n.typ.v) ag_9 rfl (hw.blk_at (i := 1) rfl) rfl) ?_
  refine f_first 7 (listed' := #[true, true, true, true, true, true, true, true, false, false, false, false, false, false, false, false, false, false, false, false, false, false, false]) rfl (by kernel_rfl) (by kernel_rfl) (by kernel_rfl) rfl ?_
  refine f_val rfl rfl rfl (by intro t_ w hw; exact x_fieldAddr 25 2 2 2 9 rfl fi_25_2 rfl w) ?_
  refine f_first 8 (listed' := #[true, true, true, true, true, true, true, true, true, false, false, false, false, false, false, false, false, false, false, false, false, false, false]) rfl (by kernel_rfl) (by kernel_rfl) (by kernel_rfl) rfl ?_
  refine f_val rfl rfl rfl (by intro t_ w hw; exact x_load (.string m.typ.v) ag_9 rfl (hw.blk_at (i := 0) rfl) rfl) ?_
  refine f_first 9 (listed' := #[true, true, true, true, true, true, true, true, true, true, false, false, false, false, false, false, false, false, false, false, false, false, false]) rfl (by kernel_rfl) (by kernel_rfl) (by kernel_rfl) rfl ?_
  refine f_enter (args := #[.string n.typ.v, .string m.typ.v]) (v := .int .i64 (cmpSt n.typ.v m.typ.v)) rfl rfl rfl (x_call pl_42 [.string n.typ.v, .string m.typ.v] rfl) (fun t_ w hw => ref08_string n.typ.v m.typ.v hw) ?_
  refine f_first 10 (listed' := #[true, true, true, true, true, true, true, true, true, true, true, false, false, false, false, false, false, false, false, false, false, false, false]) rfl (by kernel_rfl) (by kernel_rfl) (by kernel_rfl) rfl ?_
  refine f_val rfl rfl rfl (by intro t_ w hw; exact x_fieldAddr 25 1 1 1 9 rfl fi_25_1 rfl w) ?_
  refine f_first 11 (listed' := #[true, true, true, true, true, true, true, true, true, true, true, true, false, false, false, false, false, false, false, false, false, false, false]) rfl (by kernel_rfl) (by kernel_rfl) (by kernel_rfl) rfl ?_
  refine f_val rfl rfl rfl (by intro t_ w hw; exact x_load (.string n.var.v) ag_9 rfl (hw.blk_at (i := 1) rfl) rfl) ?_
  refine f_first 12 (listed' := #[true, true, true, true, true, true, true, true, true, true, true, true, true, false, false, false, false, false, false, false, false, false, false]) rfl (by kernel_rfl) (by kernel_rfl) (by kernel_rfl) rfl ?_
  refine f_val rfl rfl rfl (by intro t_ w hw; exact x_fieldAddr 25 1 1 1 9 rfl fi_25_1 rfl w) ?_
  refine f_first 13 (listed' := #[true, true, true, true, true, true, true, true, true, true, true, true, true, true, false, false, false, false, false, false, false, false, false]) rfl (by kernel_rfl) (by kernel_rfl) (by kernel_rfl) rfl ?_
  refine f_val rfl rfl rfl (by intro t_ w hw; exact x_load (.string m.var.v) ag_9 rfl (hw.blk_at (i := 0) rfl) rfl) ?_
  refine f_first 14 (listed' := #[true, true, true, true, true, true, true, true, true, true, true, true, true, true, true, false, false, false, false, false, false, false, false]) rfl (by kernel_rfl) (by kernel_rfl) (by kernel_rfl) rfl ?_
  refine f_enter (args := #[.string n.var.v, .string m.var.v]) (v := .int .i64 (cmpSt n.var.v m.var.v)) rfl rfl rfl (x_call pl_42 [.string n.var.v, .string m.var.v] rfl) (fun t_ w hw => ref08_string n.var.v m.var.v hw) ?_
  refine f_first 15 (listed' := #[true, true, true, true, true, true, true, true, true, true, true, true, true, true, true, true, false, false, false, false, false, false, false]) rfl (by kernel_rfl) (by kernel_rfl) (by kernel_rfl) rfl ?_
  refine f_val rfl rfl rfl (by intro t_ w hw; exact x_fieldAddr 25 3 3 3 22 rfl fi_25_3 rfl w) ?_
  refine f_first 16 (listed' := #[true, true, true, true, true, true, true, true, true, true, true, true, true, true, true, true, true, false, false, false, false, false, false]) rfl (by kernel_rfl) (by kernel_rfl) (by kernel_rfl) rfl ?_
  refine f_val rfl rfl rfl (by intro t_ w hw; exact x_load (.slice n.tp n.tests.length n.tc) ag_22 rfl (hw.blk_at (i := 1) rfl) rfl) ?_
  refine f_first 17 (listed' := #[true, true, true, true, true, true, true, true, true, true, true, true, true, true, true, true, true, true, false, false, false, false, false]) rfl (by kernel_rfl) (by kernel_rfl) (by kernel_rfl) rfl ?_
  refine f_val rfl rfl rfl (by intro t_ w hw; exact x_fieldAddr 25 3 3 3 22 rfl fi_25_3 rfl w) ?_
  refine f_first 18 (listed' := #[true, true, true, true, true, true, true, true, true, true, true, true, true, true, true, true, true, true, true, false, false, false, false]) rfl (by kernel_rfl) (by kernel_rfl) (by kernel_rfl) rfl ?_
  refine f_val rfl rfl rfl (by intro t_ w hw; exact x_load (.slice m.tp m.tests.length m.tc) ag_22 rfl (hw.blk_at (i := 0) rfl) rfl) ?_
  refine f_first 19 (listed' := #[true, true, true, true, true, true, true, true, true, true, true, true, true, true, true, true, true, true, true, true, false, false, false]) rfl (by kernel_rfl) (by kernel_rfl) (by kernel_rfl) rfl ?_
  refine f_enter (args := #[.slice n.tp n.tests.length n.tc, .slice m.tp m.tests.length m.tc]) (v := .int .i64 (lexC condC n.tests m.tests)) rfl rfl rfl (x_call pl_43 [.slice n.tp n.tests.length n.tc, .slice m.tp m.tests.length m.tc] rfl) (fun t_ w hw => ref08_conds n.tests m.tests (.slice n.tp n.tests.length n.tc) (.slice m.tp m.tests.length m.tc) (m := 5) rfl (n := 2) rfl hw) ?_
  refine f_all (rs := [20]) (by kernel_rfl) (by simp) ?_
  refine a_cons ⟨_, rfl, ?_⟩ (fun x hx => absurd hx (by simp))
  intro w13 H14
  try dsimp only at H14
  refine s_buildSlice H14 1 4 (cs := #[.int .i64 (cmpI n.kind.v m.kind.v), .int .i64 (cmpSt n.typ.v m.typ.v), .int .i64 (cmpSt n.var.v m.var.v), .int .i64 (lexC condC n.tests m.tests)]) #[.int .i64 0] el_69 ze_3 (by decide) (by decide) (by kernel_rfl) rfl ?_; intro bk15 w16 H17
  have H18 : St W w16 (blk bk10 (.cells #[.int .i64 m.kind.v, .string m.var.v, .string m.typ.v, .slice m.tp m.tests.length m.tc, .slice m.kp m.kids.length m.kc] 25 (0, 0)) :: blk bk7 (.cells #[.int .i64 n.kind.v, .string n.var.v, .string n.typ.v, .slice n.tp n.tests.length n.tc, .slice n.kp n.kids.length n.kc] 25 (0, 0)) :: Im 11 (.slice m.tp m.tests.length m.tc) m.tests.length (m.tests.flatMap condCell) :: Im 5 (.slice m.kp m.kids.length m.kc) m.kids.length (m.kids.flatMap nodeCell) :: NodesA m.kids :: Im 11 (.slice n.tp n.tests.length n.tc) n.tests.length (n.tests.flatMap condCell) :: Im 5 (.slice n.kp n.kids.length n.kc) n.kids.length (n.kids.flatMap nodeCell) :: NodesA n.kids :: blk bk15 (.cells #[.int .i64 (cmpI n.kind.v m.kind.v), .int .i64 (cmpSt n.typ.v m.typ.v), .int .i64 (cmpSt n.var.v m.var.v), .int .i64 (lexC condC n.tests m.tests)] 3 (0, 0)) :: F) := ((((((((H17.move 8 rfl).move 8 rfl).move 8 rfl).move 8 rfl).move 8 rfl).move 8 rfl).move 8 rfl).move 8 rfl)
  refine ⟨blk bk15 (.cells #[.int .i64 (cmpI n.kind.v m.kind.v), .int .i64 (cmpSt n.typ.v m.typ.v), .int .i64 (cmpSt n.var.v m.var.v), .int .i64 (lexC condC n.tests m.tests)] 3 (0, 0)) :: F, ?_, H18⟩
  change FReg _ _ _ _ _ #[true, true, true, true, true, true, true, true, true, true, true, true, true, true, true, true, true, true, true, true, true, false, false] _ _
  refine f_all (rs := [21]) (by kernel_rfl) (by simp) ?_
  refine a_cons ⟨_, rfl, ?_⟩ (fun x hx => absurd hx (by simp))
  intro w19 H20
  try dsimp only at H20
  have H21 := Row.cut (n := 0) (m := 4) (c := 4) (size := 1) (xs := [.int .i64 (cmpI n.kind.v m.kind.v), .int .i64 (cmpSt n.typ.v m.typ.v), .int .i64 (cmpSt n.var.v m.var.v), .int .i64 (lexC condC n.tests m.tests)]) H20 (i := 8) rfl (by decide) (by decide +kernel) rfl rfl (by simp [Value.oneCell'])
  have H22 : St W w19 (blk bk10 (.cells #[.int .i64 m.kind.v, .string m.var.v, .string m.typ.v, .slice m.tp m.tests.length m.tc, .slice m.kp m.kids.length m.kc] 25 (0, 0)) :: blk bk7 (.cells #[.int .i64 n.kind.v, .string n.var.v, .string n.typ.v, .slice n.tp n.tests.length n.tc, .slice n.kp n.kids.length n.kc] 25 (0, 0)) :: Im 11 (.slice m.tp m.tests.length m.tc) m.tests.length (m.tests.flatMap condCell) :: Im 5 (.slice m.kp m.kids.length m.kc) m.kids.length (m.kids.flatMap nodeCell) :: NodesA m.kids :: Im 11 (.slice n.tp n.tests.length n.tc) n.tests.length (n.tests.flatMap condCell) :: Im 5 (.slice n.kp n.kids.length n.kc) n.kids.length (n.kids.flatMap nodeCell) :: NodesA n.kids :: Row 3 1 (.slice (some ⟨bk15, 0, none⟩) 4 4) 4 [.int .i64 (cmpI n.kind.v m.kind.v), .int .i64 (cmpSt n.typ.v m.typ.v), .int .i64 (cmpSt n.var.v m.var.v), .int .i64 (lexC condC n.tests m.tests)] :: F) := H21
  have H23 : St W w19 (blk bk10 (.cells #[.int .i64 m.kind.v, .string m.var.v, .string m.typ.v, .slice m.tp m.tests.length m.tc, .slice m.kp m.kids.length m.kc] 25 (0, 0)) :: blk bk7 (.cells #[.int .i64 n.kind.v, .string n.var.v, .string n.typ.v, .slice n.tp n.tests.length n.tc, .slice n.kp n.kids.length n.kc] 25 (0, 0)) :: Im 11 (.slice m.tp m.tests.length m.tc) m.tests.length (m.tests.flatMap condCell) :: Im 5 (.slice m.kp m.kids.length m.kc) m.kids.length (m.kids.flatMap nodeCell) :: NodesA m.kids :: Im 11 (.slice n.tp n.tests.length n.tc) n.tests.length (n.tests.flatMap condCell) :: Im 5 (.slice n.kp n.kids.length n.kc) n.kids.length (n.kids.flatMap nodeCell) :: NodesA n.kids :: Im 1 (.slice (some ⟨bk15, 0, none⟩) 4 4) 4 ([cmpI n.kind.v m.kind.v, cmpSt n.typ.v m.typ.v, cmpSt n.var.v m.var.v, lexC condC n.tests m.tests].flatMap iC) :: F) := Row.im H22 (i := 8) rfl
  refine s_call [.slice (some ⟨bk15, 0, none⟩) 4 4] pl_40 rfl rfl (ref08_first [cmpI n.kind.v m.kind.v, cmpSt n.typ.v m.typ.v, cmpSt n.var.v m.var.v, lexC condC n.tests m.tests] (.slice (some ⟨bk15, 0, none⟩) 4 4) (m := 8) rfl H23) ?_
  rintro _ w24 ⟨rfl, H25⟩
  refine ⟨Im 1 (.slice (some ⟨bk15, 0, none⟩) 4 4) 4 ([cmpI n.kind.v m.kind.v, cmpSt n.typ.v m.typ.v, cmpSt n.var.v m.var.v, lexC condC n.tests m.tests].flatMap iC) :: F, ?_, H25⟩
  change FReg _ _ _ _ _ #[true, true, true, true, true, true, true, true, true, true, true, true, true, true, true, true, true, true, true, true, true, true, false] _ _
  refine f_first 22 (listed' := #[true, true, true, true, true, true, true, true, true, true, true, true, true, true, true, true, true, true, true, true, true, true, true]) rfl (by kernel_rfl) (by kernel_rfl) (by kernel_rfl) rfl ?_
  refine f_val rfl rfl rfl (by intro t_ w hw; exact x_assign (.int .i64 (firstE [cmpI n.kind.v m.kind.v, cmpSt n.typ.v m.typ.v, cmpSt n.var.v m.var.v, lexC condC n.tests m.tests])) rfl w) ?_
  refine f_done (by kernel_rfl) ?_
  intro w26 H27
  refine g_seq ?_
  refine g_region ?_
  refine r_cons (s_move (.int .i64 (firstE [cmpI n.kind.v m.kind.v, cmpSt n.typ.v m.typ.v, cmpSt n.var.v m.var.v, lexC condC n.tests m.tests])) rfl rfl ?_)
  by_cases hc28 : firstE [cmpI n.kind.v m.kind.v, cmpSt n.typ.v m.typ.v, cmpSt n.var.v m.var.v, lexC condC n.tests m.tests] = 0
  · skip
    refine r_cons (s_neq false rfl rfl (ntrue hc28) rfl ?_)
    refine r_nil ?_
    refine g_false rfl ?_
    refine g_skip ?_
    refine g_seq ?_
    refine g_seq ?_
    refine g_region ?_
    refine r_cons (s_assign (.int .i64 0) rfl rfl ?_)
    refine r_nil ?_
    refine g_block ?_
    obtain ⟨pA29, cA30, gA31, oA32, kA33, eA34, zA35, he41, hn36, hp37, hx38, hs39, hml, H40⟩ := Im.open_ H27 (i := 6) rfl
    obtain ⟨rfl, rfl⟩ : n.kp = pA29 ∧ n.kc = cA30 := by injection he41 with a_ b_ c_; exact ⟨a_, c_⟩
    obtain ⟨pA42, cA43, gA44, oA45, kA46, eA47, zA48, he54, hn49, hp50, hx51, hs52, hml, H53⟩ := Im.open_ H40 (i := 4) rfl
    obtain ⟨rfl, rfl⟩ : m.kp = pA42 ∧ m.kc = cA43 := by injection he54 with a_ b_ c_; exact ⟨a_, c_⟩
    have H55 : St W w26 (NodesA m.kids :: Im 11 (.slice n.tp n.tests.length n.tc) n.tests.length (n.tests.flatMap condCell) :: Im 5 (.slice n.kp n.kids.length n.kc) n.kids.length (n.kids.flatMap nodeCell) :: NodesA n.kids :: Im 1 (.slice (some ⟨bk15, 0, none⟩) 4 4) 4 ([cmpI n.kind.v m.kind.v, cmpSt n.typ.v m.typ.v, cmpSt n.var.v m.var.v, lexC condC n.tests m.tests].flatMap iC) :: imi (0 < m.kids.length) gA44 (.cells kA46 eA47 zA48) :: imi (0 < n.kids.length) gA31 (.cells kA33 eA34 zA35) :: blk bk10 (.cells #[.int .i64 m.kind.v, .string m.var.v, .string m.typ.v, .slice m.tp m.tests.length m.tc, .slice m.kp m.kids.length m.kc] 25 (0, 0)) :: blk bk7 (.cells #[.int .i64 n.kind.v, .string n.var.v, .string n.typ.v, .slice n.tp n.tests.length n.tc, .slice n.kp n.kids.length n.kc] 25 (0, 0)) :: Im 11 (.slice m.tp m.tests.length m.tc) m.tests.length (m.tests.flatMap condCell) :: Im 5 (.slice m.kp m.kids.length m.kc) m.kids.length (m.kids.flatMap nodeCell) :: F) := (((((H53.move 10 rfl).move 10 rfl).move 10 rfl).move 10 rfl).move 10 rfl)
    have H56 : St W w26 (imi (0 < n.kids.length) gA31 (.cells kA33 eA34 zA35) :: blk bk10 (.cells #[.int .i64 m.kind.v, .string m.var.v, .string m.typ.v, .slice m.tp m.tests.length m.tc, .slice m.kp m.kids.length m.kc] 25 (0, 0)) :: blk bk7 (.cells #[.int .i64 n.kind.v, .string n.var.v, .string n.typ.v, .slice n.tp n.tests.length n.tc, .slice n.kp n.kids.length n.kc] 25 (0, 0)) :: Im 11 (.slice m.tp m.tests.length m.tc) m.tests.length (m.tests.flatMap condCell) :: Im 5 (.slice m.kp m.kids.length m.kc) m.kids.length (m.kids.flatMap nodeCell) :: NodesA m.kids :: Im 11 (.slice n.tp n.tests.length n.tc) n.tests.length (n.tests.flatMap condCell) :: Im 5 (.slice n.kp n.kids.length n.kc) n.kids.length (n.kids.flatMap nodeCell) :: NodesA n.kids :: Im 1 (.slice (some ⟨bk15, 0, none⟩) 4 4) 4 ([cmpI n.kind.v m.kind.v, cmpSt n.typ.v m.typ.v, cmpSt n.var.v m.var.v, lexC condC n.tests m.tests].flatMap iC) :: imi (0 < m.kids.length) gA44 (.cells kA46 eA47 zA48) :: F) := (((((H55.move 10 rfl).move 10 rfl).move 10 rfl).move 10 rfl).move 10 rfl)
    have H57 : St W w26 (imi (0 < m.kids.length) gA44 (.cells kA46 eA47 zA48) :: imi (0 < n.kids.length) gA31 (.cells kA33 eA34 zA35) :: blk bk10 (.cells #[.int .i64 m.kind.v, .string m.var.v, .string m.typ.v, .slice m.tp m.tests.length m.tc, .slice m.kp m.kids.length m.kc] 25 (0, 0)) :: blk bk7 (.cells #[.int .i64 n.kind.v, .string n.var.v, .string n.typ.v, .slice n.tp n.tests.length n.tc, .slice n.kp n.kids.length n.kc] 25 (0, 0)) :: Im 11 (.slice m.tp m.tests.length m.tc) m.tests.length (m.tests.flatMap condCell) :: Im 5 (.slice m.kp m.kids.length m.kc) m.kids.length (m.kids.flatMap nodeCell) :: NodesA m.kids :: Im 11 (.slice n.tp n.tests.length n.tc) n.tests.length (n.tests.flatMap condCell) :: Im 5 (.slice n.kp n.kids.length n.kc) n.kids.length (n.kids.flatMap nodeCell) :: NodesA n.kids :: Im 1 (.slice (some ⟨bk15, 0, none⟩) 4 4) 4 ([cmpI n.kind.v m.kind.v, cmpSt n.typ.v m.typ.v, cmpSt n.var.v m.var.v, lexC condC n.tests m.tests].flatMap iC) :: F) := (H56.move 10 rfl)
    refine g_loop_inv (fun (x_ : Nat) => match x_ with | j => [(2, .pointer (some ⟨bk7, 0, none⟩)), (3, .pointer (some ⟨bk10, 0, none⟩)), (4, .int .i64 0), (6, .int .i64 (j : Int))]) (fun (x_ : Nat) w => match x_ with | j => (j ≤ n.kids.length) ∧ (j ≤ m.kids.length) ∧ (∀ q, q < j → cmpN (n.kids.getD q default) (m.kids.getD q default) = 0) ∧ St W w (imi (0 < m.kids.length) gA44 (.cells kA46 eA47 zA48) :: imi (0 < n.kids.length) gA31 (.cells kA33 eA34 zA35) :: blk bk10 (.cells #[.int .i64 m.kind.v, .string m.var.v, .string m.typ.v, .slice m.tp m.tests.length m.tc, .slice m.kp m.kids.length m.kc] 25 (0, 0)) :: blk bk7 (.cells #[.int .i64 n.kind.v, .string n.var.v, .string n.typ.v, .slice n.tp n.tests.length n.tc, .slice n.kp n.kids.length n.kc] 25 (0, 0)) :: Im 11 (.slice m.tp m.tests.length m.tc) m.tests.length (m.tests.flatMap condCell) :: Im 5 (.slice m.kp m.kids.length m.kc) m.kids.length (m.kids.flatMap nodeCell) :: NodesA m.kids :: Im 11 (.slice n.tp n.tests.length n.tc) n.tests.length (n.tests.flatMap condCell) :: Im 5 (.slice n.kp n.kids.length n.kc) n.kids.length (n.kids.flatMap nodeCell) :: NodesA n.kids :: Im 1 (.slice (some ⟨bk15, 0, none⟩) 4 4) 4 ([cmpI n.kind.v m.kind.v, cmpSt n.typ.v m.typ.v, cmpSt n.var.v m.var.v, lexC condC n.tests m.tests].flatMap iC) :: F)) (fun (x_ : Nat) => match x_ with | j => n.kids.length - j) (0) ?_ ?_ ?_
    · exact ⟨by first | rfl | exact vint (by omega), by first | rfl | exact vint (by omega), by first | rfl | exact vint (by omega), by first | rfl | exact vint (by omega), trivial⟩
    · exact ⟨(by omega), (Nat.zero_le _), (fun q hq => by omega), H57⟩
    · rintro j ρ58 w59 ⟨hjl, hjm, hz, H60⟩ nx61
      change Ends _ _ (upds ρ58 [(2, .pointer (some ⟨bk7, 0, none⟩)), (3, .pointer (some ⟨bk10, 0, none⟩)), (4, .int .i64 0), (6, .int .i64 (j : Int))]) w59
      refine g_seq ?_
      refine g_seq ?_
      refine g_region ?_
      refine r_cons (s_move (.int .i64 (j : Int)) rfl rfl ?_)
      refine r_cons (s_fieldAddr 25 4 4 4 23 rfl fi_25_4 rfl rfl ?_)
      refine r_cons (s_load (.slice n.kp n.kids.length n.kc) ag_23 rfl (H60.blk_at (i := 3) rfl) rfl rfl ?_)
      refine r_cons (s_len n.kids.length rfl ⟨_, un_23⟩ rfl ?_)
      by_cases hc62 : (j : Int) < (n.kids.length : Int)
      · skip
        refine r_cons (s_lss true rfl rfl (dtrue hc62) rfl ?_)
        refine r_cons (s_move (.bool true) rfl rfl ?_)
        refine r_cons (r_take rfl rfl ?_)
        refine s_move (.int .i64 (j : Int)) rfl rfl ?_
        refine r_cons (r_take rfl rfl ?_)
        refine s_fieldAddr 25 4 4 4 23 rfl fi_25_4 rfl rfl ?_
        refine r_cons (r_take rfl rfl ?_)
        refine s_load (.slice m.kp m.kids.length m.kc) ag_23 rfl (H60.blk_at (i := 2) rfl) rfl rfl ?_
        refine r_cons (r_take rfl rfl ?_)
        refine s_len m.kids.length rfl ⟨_, un_23⟩ rfl ?_
        refine r_cons (r_take rfl rfl ?_)
        by_cases hc63 : (j : Int) < (m.kids.length : Int)
        · skip
          refine s_lss true rfl rfl (dtrue hc63) rfl ?_
          refine r_cons (s_pick_t (.bool true) rfl rfl rfl ?_)
          refine r_nil ?_
          refine g_true rfl ?_
          refine g_skip ?_
          refine g_seq ?_
          refine g_block ?_
          refine g_seq ?_
          have H64 := NodesA.at H60 (i := 9) rfl (j := j) (by omega)
          have H65 := NodesA.at H64 (i := 7) rfl (j := j) (by omega)
          refine g_quiet (fun w' => St W w' (NodeA (m.kids.getD j default) :: NodeA (n.kids.getD j default) :: imi (0 < m.kids.length) gA44 (.cells kA46 eA47 zA48) :: imi (0 < n.kids.length) gA31 (.cells kA33 eA34 zA35) :: blk bk10 (.cells #[.int .i64 m.kind.v, .string m.var.v, .string m.typ.v, .slice m.tp m.tests.length m.tc, .slice m.kp m.kids.length m.kc] 25 (0, 0)) :: blk bk7 (.cells #[.int .i64 n.kind.v, .string n.var.v, .string n.typ.v, .slice n.tp n.tests.length n.tc, .slice n.kp n.kids.length n.kc] 25 (0, 0)) :: Im 11 (.slice m.tp m.tests.length m.tc) m.tests.length (m.tests.flatMap condCell) :: Im 5 (.slice m.kp m.kids.length m.kc) m.kids.length (m.kids.flatMap nodeCell) :: NodesA m.kids :: Im 11 (.slice n.tp n.tests.length n.tc) n.tests.length (n.tests.flatMap condCell) :: Im 5 (.slice n.kp n.kids.length n.kc) n.kids.length (n.kids.flatMap nodeCell) :: NodesA n.kids :: Im 1 (.slice (some ⟨bk15, 0, none⟩) 4 4) 4 ([cmpI n.kind.v m.kind.v, cmpSt n.typ.v m.typ.v, cmpSt n.var.v m.var.v, lexC condC n.tests m.tests].flatMap iC) :: F)) mixed (by kernel_rfl) H65.drew ?_
          refine q_cons (q_val rfl rfl rfl (by intro w hw; exact x_fieldAddr 25 4 4 4 23 rfl fi_25_4 rfl w) ?_)
          refine q_cons (q_val rfl rfl rfl (by intro w hw; exact x_load (.slice n.kp n.kids.length n.kc) ag_23 rfl (hw.blk_at (i := 5) rfl) rfl) ?_)
          refine q_cons (q_val rfl rfl rfl (by intro w hw; exact x_move (.int .i64 (j : Int)) rfl w) ?_)
          refine q_cons (q_val rfl rfl rfl (by intro w hw; exact x_indexAddr gA31 (off := oA32) (j : Int) 5 (oA32 + j * 5) (by exact congrArg (fun z_ => Value.slice z_ n.kids.length n.kc) (hp37 (by omega))) rfl el_23 (by omega) rfl w) ?_)
          refine q_cons (q_val rfl rfl rfl (by intro w hw; exact x_loadAgg [.int .i64 ((n.kids.getD j default).kind.v), .string ((n.kids.getD j default).var.v), .string ((n.kids.getD j default).typ.v), .slice ((n.kids.getD j default).tp) ((n.kids.getD j default).tests.length) ((n.kids.getD j default).tc), .slice ((n.kids.getD j default).kp) ((n.kids.getD j default).kids.length) ((n.kids.getD j default).kc)] 5 ag_25 rfl (hw.imi_at (i := 3) rfl (by omega)) (by have := elem_size (i := j) (s := 5) (hs39 (by omega)) (by omega); omega) (elem_take nodeCell_len (hx38 (by omega)) (by omega) default)) ?_)
          refine q_cons (q_val rfl rfl rfl (by intro w hw; exact x_fieldAddr 25 4 4 4 23 rfl fi_25_4 rfl w) ?_)
          refine q_cons (q_val rfl rfl rfl (by intro w hw; exact x_load (.slice m.kp m.kids.length m.kc) ag_23 rfl (hw.blk_at (i := 4) rfl) rfl) ?_)
          refine q_cons (q_val rfl rfl rfl (by intro w hw; exact x_move (.int .i64 (j : Int)) rfl w) ?_)
          refine q_cons (q_val rfl rfl rfl (by intro w hw; exact x_indexAddr gA44 (off := oA45) (j : Int) 5 (oA45 + j * 5) (by exact congrArg (fun z_ => Value.slice z_ m.kids.length m.kc) (hp50 (by omega))) rfl el_23 (by omega) rfl w) ?_)
          refine q_cons (q_val rfl rfl rfl (by intro w hw; exact x_loadAgg [.int .i64 ((m.kids.getD j default).kind.v), .string ((m.kids.getD j default).var.v), .string ((m.kids.getD j default).typ.v), .slice ((m.kids.getD j default).tp) ((m.kids.getD j default).tests.length) ((m.kids.getD j default).tc), .slice ((m.kids.getD j default).kp) ((m.kids.getD j default).kids.length) ((m.kids.getD j default).kc)] 5 ag_25 rfl (hw.imi_at (i := 2) rfl (by omega)) (by have := elem_size (i := j) (s := 5) (hs52 (by omega)) (by omega); omega) (elem_take nodeCell_len (hx51 (by omega)) (by omega) default)) ?_)
          refine q_cons (q_enter (args := #[.agg #[.int .i64 ((n.kids.getD j default).kind.v), .string ((n.kids.getD j default).var.v), .string ((n.kids.getD j default).typ.v), .slice ((n.kids.getD j default).tp) ((n.kids.getD j default).tests.length) ((n.kids.getD j default).tc), .slice ((n.kids.getD j default).kp) ((n.kids.getD j default).kids.length) ((n.kids.getD j default).kc)], .agg #[.int .i64 ((m.kids.getD j default).kind.v), .string ((m.kids.getD j default).var.v), .string ((m.kids.getD j default).typ.v), .slice ((m.kids.getD j default).tp) ((m.kids.getD j default).tests.length) ((m.kids.getD j default).tc), .slice ((m.kids.getD j default).kp) ((m.kids.getD j default).kids.length) ((m.kids.getD j default).kc)]]) (v := .int .i64 (cmpN (n.kids.getD j default) (m.kids.getD j default))) rfl rfl rfl (x_call pl_10 [.agg #[.int .i64 ((n.kids.getD j default).kind.v), .string ((n.kids.getD j default).var.v), .string ((n.kids.getD j default).typ.v), .slice ((n.kids.getD j default).tp) ((n.kids.getD j default).tests.length) ((n.kids.getD j default).tc), .slice ((n.kids.getD j default).kp) ((n.kids.getD j default).kids.length) ((n.kids.getD j default).kc)], .agg #[.int .i64 ((m.kids.getD j default).kind.v), .string ((m.kids.getD j default).var.v), .string ((m.kids.getD j default).typ.v), .slice ((m.kids.getD j default).tp) ((m.kids.getD j default).tests.length) ((m.kids.getD j default).tc), .slice ((m.kids.getD j default).kp) ((m.kids.getD j default).kids.length) ((m.kids.getD j default).kc)]] rfl) (fun w hw => ih (n.kids.getD j default) (by have h9 := kid_lt (n := n) (j := j) (by omega); omega) (m.kids.getD j default) (i := 1) rfl (i2 := 0) rfl hw) ?_)
          refine q_cons (q_val rfl rfl rfl (by intro w hw; exact x_assign (.int .i64 (cmpN (n.kids.getD j default) (m.kids.getD j default))) rfl w) ?_)
          refine q_nil ?_
          intro w66 H67
          refine g_seq ?_
          refine g_region ?_
          refine r_cons (s_move (.int .i64 (cmpN (n.kids.getD j default) (m.kids.getD j default))) rfl rfl ?_)
          by_cases hc68 : cmpN (n.kids.getD j default) (m.kids.getD j default) = 0
          · skip
            refine r_cons (s_neq false rfl rfl (ntrue hc68) rfl ?_)
            refine r_nil ?_
            refine g_false rfl ?_
            refine g_skip ?_
            refine g_inBlock ?_
            refine g_region ?_
            refine r_cons (s_move (.int .i64 (j : Int)) rfl rfl ?_)
            refine r_cons (s_add ((j : Int) + 1) rfl rfl (wi64 (by omega)) rfl ?_)
            refine r_cons (s_assign (.int .i64 ((j : Int) + 1)) rfl rfl ?_)
            refine r_nil ?_
            have H69 : St W w66 (NodesA m.kids :: Im 11 (.slice n.tp n.tests.length n.tc) n.tests.length (n.tests.flatMap condCell) :: Im 5 (.slice n.kp n.kids.length n.kc) n.kids.length (n.kids.flatMap nodeCell) :: NodesA n.kids :: Im 1 (.slice (some ⟨bk15, 0, none⟩) 4 4) 4 ([cmpI n.kind.v m.kind.v, cmpSt n.typ.v m.typ.v, cmpSt n.var.v m.var.v, lexC condC n.tests m.tests].flatMap iC) :: NodeA (m.kids.getD j default) :: NodeA (n.kids.getD j default) :: imi (0 < m.kids.length) gA44 (.cells kA46 eA47 zA48) :: imi (0 < n.kids.length) gA31 (.cells kA33 eA34 zA35) :: blk bk10 (.cells #[.int .i64 m.kind.v, .string m.var.v, .string m.typ.v, .slice m.tp m.tests.length m.tc, .slice m.kp m.kids.length m.kc] 25 (0, 0)) :: blk bk7 (.cells #[.int .i64 n.kind.v, .string n.var.v, .string n.typ.v, .slice n.tp n.tests.length n.tc, .slice n.kp n.kids.length n.kc] 25 (0, 0)) :: Im 11 (.slice m.tp m.tests.length m.tc) m.tests.length (m.tests.flatMap condCell) :: Im 5 (.slice m.kp m.kids.length m.kc) m.kids.length (m.kids.flatMap nodeCell) :: F) := (((((H67.move 12 rfl).move 12 rfl).move 12 rfl).move 12 rfl).move 12 rfl)
            have H70 : St W w66 (imi (0 < n.kids.length) gA31 (.cells kA33 eA34 zA35) :: blk bk10 (.cells #[.int .i64 m.kind.v, .string m.var.v, .string m.typ.v, .slice m.tp m.tests.length m.tc, .slice m.kp m.kids.length m.kc] 25 (0, 0)) :: blk bk7 (.cells #[.int .i64 n.kind.v, .string n.var.v, .string n.typ.v, .slice n.tp n.tests.length n.tc, .slice n.kp n.kids.length n.kc] 25 (0, 0)) :: Im 11 (.slice m.tp m.tests.length m.tc) m.tests.length (m.tests.flatMap condCell) :: Im 5 (.slice m.kp m.kids.length m.kc) m.kids.length (m.kids.flatMap nodeCell) :: NodesA m.kids :: Im 11 (.slice n.tp n.tests.length n.tc) n.tests.length (n.tests.flatMap condCell) :: Im 5 (.slice n.kp n.kids.length n.kc) n.kids.length (n.kids.flatMap nodeCell) :: NodesA n.kids :: Im 1 (.slice (some ⟨bk15, 0, none⟩) 4 4) 4 ([cmpI n.kind.v m.kind.v, cmpSt n.typ.v m.typ.v, cmpSt n.var.v m.var.v, lexC condC n.tests m.tests].flatMap iC) :: NodeA (m.kids.getD j default) :: NodeA (n.kids.getD j default) :: imi (0 < m.kids.length) gA44 (.cells kA46 eA47 zA48) :: F) := (((((H69.move 12 rfl).move 12 rfl).move 12 rfl).move 12 rfl).move 12 rfl)
            have H71 : St W w66 (imi (0 < m.kids.length) gA44 (.cells kA46 eA47 zA48) :: imi (0 < n.kids.length) gA31 (.cells kA33 eA34 zA35) :: blk bk10 (.cells #[.int .i64 m.kind.v, .string m.var.v, .string m.typ.v, .slice m.tp m.tests.length m.tc, .slice m.kp m.kids.length m.kc] 25 (0, 0)) :: blk bk7 (.cells #[.int .i64 n.kind.v, .string n.var.v, .string n.typ.v, .slice n.tp n.tests.length n.tc, .slice n.kp n.kids.length n.kc] 25 (0, 0)) :: Im 11 (.slice m.tp m.tests.length m.tc) m.tests.length (m.tests.flatMap condCell) :: Im 5 (.slice m.kp m.kids.length m.kc) m.kids.length (m.kids.flatMap nodeCell) :: NodesA m.kids :: Im 11 (.slice n.tp n.tests.length n.tc) n.tests.length (n.tests.flatMap condCell) :: Im 5 (.slice n.kp n.kids.length n.kc) n.kids.length (n.kids.flatMap nodeCell) :: NodesA n.kids :: Im 1 (.slice (some ⟨bk15, 0, none⟩) 4 4) 4 ([cmpI n.kind.v m.kind.v, cmpSt n.typ.v m.typ.v, cmpSt n.var.v m.var.v, lexC condC n.tests m.tests].flatMap iC) :: F) := (((H70.move 12 rfl).drop 11 rfl).drop 11 rfl)
            exact nx61 (j + 1) _ _ ⟨(by omega), (by omega), (fun q hq => (Nat.lt_or_ge q j).elim (hz q) (fun h => by rw [show q = j from by omega]; exact hc68)), H71⟩ (by first | (dsimp only; omega) | omega) ⟨by first | rfl | exact vint (by omega), by first | rfl | exact vint (by omega), by first | rfl | exact vint (by omega), by first | rfl | exact vint (by omega), trivial⟩
          · skip
            refine r_cons (s_neq true rfl rfl (nfalse hc68) rfl ?_)
            refine r_nil ?_
            refine g_true rfl ?_
            refine g_seq ?_
            refine g_region ?_
            refine r_cons (s_move (.int .i64 (cmpN (n.kids.getD j default) (m.kids.getD j default))) rfl rfl ?_)
            refine r_cons (s_assign (.int .i64 (cmpN (n.kids.getD j default) (m.kids.getD j default))) rfl rfl ?_)
            refine r_nil ?_
            refine g_ret' [.int .i64 (cmpN (n.kids.getD j default) (m.kids.getD j default))] Try.func10 Try.results10 ⟨rfl, trivial⟩ ?_
            have H72 : St W w66 (blk bk10 (.cells #[.int .i64 m.kind.v, .string m.var.v, .string m.typ.v, .slice m.tp m.tests.length m.tc, .slice m.kp m.kids.length m.kc] 25 (0, 0)) :: blk bk7 (.cells #[.int .i64 n.kind.v, .string n.var.v, .string n.typ.v, .slice n.tp n.tests.length n.tc, .slice n.kp n.kids.length n.kc] 25 (0, 0)) :: Im 11 (.slice m.tp m.tests.length m.tc) m.tests.length (m.tests.flatMap condCell) :: Im 5 (.slice m.kp m.kids.length m.kc) m.kids.length (m.kids.flatMap nodeCell) :: NodesA m.kids :: Im 11 (.slice n.tp n.tests.length n.tc) n.tests.length (n.tests.flatMap condCell) :: Im 5 (.slice n.kp n.kids.length n.kc) n.kids.length (n.kids.flatMap nodeCell) :: NodesA n.kids :: Im 1 (.slice (some ⟨bk15, 0, none⟩) 4 4) 4 ([cmpI n.kind.v m.kind.v, cmpSt n.typ.v m.typ.v, cmpSt n.var.v m.var.v, lexC condC n.tests m.tests].flatMap iC) :: F) := ((((H67.drop 0 rfl).drop 0 rfl).drop 0 rfl).drop 0 rfl)
            have H73 : St W w66 (NodesA m.kids :: Im 11 (.slice n.tp n.tests.length n.tc) n.tests.length (n.tests.flatMap condCell) :: Im 5 (.slice n.kp n.kids.length n.kc) n.kids.length (n.kids.flatMap nodeCell) :: NodesA n.kids :: Im 1 (.slice (some ⟨bk15, 0, none⟩) 4 4) 4 ([cmpI n.kind.v m.kind.v, cmpSt n.typ.v m.typ.v, cmpSt n.var.v m.var.v, lexC condC n.tests m.tests].flatMap iC) :: F) := ((((H72.drop 0 rfl).drop 0 rfl).drop 0 rfl).drop 0 rfl)
            have H74 : St W w66 (Im 1 (.slice (some ⟨bk15, 0, none⟩) 4 4) 4 ([cmpI n.kind.v m.kind.v, cmpSt n.typ.v m.typ.v, cmpSt n.var.v m.var.v, lexC condC n.tests m.tests].flatMap iC) :: F) := ((((H73.drop 0 rfl).drop 0 rfl).drop 0 rfl).drop 0 rfl)
            have H75 : St W w66 F := (H74.drop 0 rfl)
            exact ⟨vint ((lexC_at hz (by omega) (by omega) (by omega)).trans (cmp_rest hc28)), H75⟩
        · skip
          refine s_lss false rfl rfl (dfalse hc63) rfl ?_
          refine r_cons (s_pick_t (.bool false) rfl rfl rfl ?_)
          refine r_nil ?_
          refine g_false rfl ?_
          refine g_exit (by rfl) ?_
          refine g_seq ?_
          refine g_region ?_
          refine r_cons (s_fieldAddr 25 4 4 4 23 rfl fi_25_4 rfl rfl ?_)
          refine r_cons (s_load (.slice n.kp n.kids.length n.kc) ag_23 rfl (H60.blk_at (i := 3) rfl) rfl rfl ?_)
          refine r_cons (s_len n.kids.length rfl ⟨_, un_23⟩ rfl ?_)
          refine r_cons (s_fieldAddr 25 4 4 4 23 rfl fi_25_4 rfl rfl ?_)
          refine r_cons (s_load (.slice m.kp m.kids.length m.kc) ag_23 rfl (H60.blk_at (i := 2) rfl) rfl rfl ?_)
          refine r_cons (s_len m.kids.length rfl ⟨_, un_23⟩ rfl ?_)
          refine r_cons (s_call [.int .i64 (n.kids.length : Int), .int .i64 (m.kids.length : Int)] pl_41 rfl rfl (ref08_int64 (n.kids.length : Int) (m.kids.length : Int) H60) ?_)
          rintro _ w76 ⟨rfl, H77⟩
          refine r_cons (s_assign (.int .i64 (cmpI (n.kids.length : Int) (m.kids.length : Int))) rfl rfl ?_)
          refine r_nil ?_
          refine g_ret' [.int .i64 (cmpI (n.kids.length : Int) (m.kids.length : Int))] Try.func10 Try.results10 ⟨rfl, trivial⟩ ?_
          have H78 : St W w76 (Im 11 (.slice m.tp m.tests.length m.tc) m.tests.length (m.tests.flatMap condCell) :: Im 5 (.slice m.kp m.kids.length m.kc) m.kids.length (m.kids.flatMap nodeCell) :: NodesA m.kids :: Im 11 (.slice n.tp n.tests.length n.tc) n.tests.length (n.tests.flatMap condCell) :: Im 5 (.slice n.kp n.kids.length n.kc) n.kids.length (n.kids.flatMap nodeCell) :: NodesA n.kids :: Im 1 (.slice (some ⟨bk15, 0, none⟩) 4 4) 4 ([cmpI n.kind.v m.kind.v, cmpSt n.typ.v m.typ.v, cmpSt n.var.v m.var.v, lexC condC n.tests m.tests].flatMap iC) :: F) := ((((H77.drop 0 rfl).drop 0 rfl).drop 0 rfl).drop 0 rfl)
          have H79 : St W w76 (Im 5 (.slice n.kp n.kids.length n.kc) n.kids.length (n.kids.flatMap nodeCell) :: NodesA n.kids :: Im 1 (.slice (some ⟨bk15, 0, none⟩) 4 4) 4 ([cmpI n.kind.v m.kind.v, cmpSt n.typ.v m.typ.v, cmpSt n.var.v m.var.v, lexC condC n.tests m.tests].flatMap iC) :: F) := ((((H78.drop 0 rfl).drop 0 rfl).drop 0 rfl).drop 0 rfl)
          have H80 : St W w76 F := (((H79.drop 0 rfl).drop 0 rfl).drop 0 rfl)
          exact ⟨vint ((lexC_end (f := cmpN) hz (by omega) (by omega) (by omega)).trans (cmp_rest hc28)), H80⟩
      · skip
        refine r_cons (s_lss false rfl rfl (dfalse hc62) rfl ?_)
        refine r_cons (s_move (.bool false) rfl rfl ?_)
        refine r_cons (r_pass rfl rfl rfl rfl rfl ?_)
        refine r_cons (r_pass rfl rfl rfl rfl rfl ?_)
        refine r_cons (r_pass rfl rfl rfl rfl rfl ?_)
        refine r_cons (r_pass rfl rfl rfl rfl rfl ?_)
        refine r_cons (r_pass rfl rfl rfl rfl rfl ?_)
        refine r_cons (s_pick_f (.bool false) rfl rfl rfl ?_)
        refine r_nil ?_
        refine g_false rfl ?_
        refine g_exit (by rfl) ?_
        refine g_seq ?_
        refine g_region ?_
        refine r_cons (s_fieldAddr 25 4 4 4 23 rfl fi_25_4 rfl rfl ?_)
        refine r_cons (s_load (.slice n.kp n.kids.length n.kc) ag_23 rfl (H60.blk_at (i := 3) rfl) rfl rfl ?_)
        refine r_cons (s_len n.kids.length rfl ⟨_, un_23⟩ rfl ?_)
        refine r_cons (s_fieldAddr 25 4 4 4 23 rfl fi_25_4 rfl rfl ?_)
        refine r_cons (s_load (.slice m.kp m.kids.length m.kc) ag_23 rfl (H60.blk_at (i := 2) rfl) rfl rfl ?_)
        refine r_cons (s_len m.kids.length rfl ⟨_, un_23⟩ rfl ?_)
        refine r_cons (s_call [.int .i64 (n.kids.length : Int), .int .i64 (m.kids.length : Int)] pl_41 rfl rfl (ref08_int64 (n.kids.length : Int) (m.kids.length : Int) H60) ?_)
        rintro _ w81 ⟨rfl, H82⟩
        refine r_cons (s_assign (.int .i64 (cmpI (n.kids.length : Int) (m.kids.length : Int))) rfl rfl ?_)
        refine r_nil ?_
        refine g_ret' [.int .i64 (cmpI (n.kids.length : Int) (m.kids.length : Int))] Try.func10 Try.results10 ⟨rfl, trivial⟩ ?_
        have H83 : St W w81 (Im 11 (.slice m.tp m.tests.length m.tc) m.tests.length (m.tests.flatMap condCell) :: Im 5 (.slice m.kp m.kids.length m.kc) m.kids.length (m.kids.flatMap nodeCell) :: NodesA m.kids :: Im 11 (.slice n.tp n.tests.length n.tc) n.tests.length (n.tests.flatMap condCell) :: Im 5 (.slice n.kp n.kids.length n.kc) n.kids.length (n.kids.flatMap nodeCell) :: NodesA n.kids :: Im 1 (.slice (some ⟨bk15, 0, none⟩) 4 4) 4 ([cmpI n.kind.v m.kind.v, cmpSt n.typ.v m.typ.v, cmpSt n.var.v m.var.v, lexC condC n.tests m.tests].flatMap iC) :: F) := ((((H82.drop 0 rfl).drop 0 rfl).drop 0 rfl).drop 0 rfl)
        have H84 : St W w81 (Im 5 (.slice n.kp n.kids.length n.kc) n.kids.length (n.kids.flatMap nodeCell) :: NodesA n.kids :: Im 1 (.slice (some ⟨bk15, 0, none⟩) 4 4) 4 ([cmpI n.kind.v m.kind.v, cmpSt n.typ.v m.typ.v, cmpSt n.var.v m.var.v, lexC condC n.tests m.tests].flatMap iC) :: F) := ((((H83.drop 0 rfl).drop 0 rfl).drop 0 rfl).drop 0 rfl)
        have H85 : St W w81 F := (((H84.drop 0 rfl).drop 0 rfl).drop 0 rfl)
        exact ⟨vint ((lexC_end (f := cmpN) hz (by omega) (by omega) (by omega)).trans (cmp_rest hc28)), H85⟩
  · skip
    refine r_cons (s_neq true rfl rfl (nfalse hc28) rfl ?_)
    refine r_nil ?_
    refine g_true rfl ?_
    refine g_seq ?_
    refine g_region ?_
    refine r_cons (s_move (.int .i64 (firstE [cmpI n.kind.v m.kind.v, cmpSt n.typ.v m.typ.v, cmpSt n.var.v m.var.v, lexC condC n.tests m.tests])) rfl rfl ?_)
    refine r_cons (s_assign (.int .i64 (firstE [cmpI n.kind.v m.kind.v, cmpSt n.typ.v m.typ.v, cmpSt n.var.v m.var.v, lexC condC n.tests m.tests])) rfl rfl ?_)
    refine r_nil ?_
    refine g_ret' [.int .i64 (firstE [cmpI n.kind.v m.kind.v, cmpSt n.typ.v m.typ.v, cmpSt n.var.v m.var.v, lexC condC n.tests m.tests])] Try.func10 Try.results10 ⟨rfl, trivial⟩ ?_
    have H86 : St W w26 (NodesA m.kids :: Im 11 (.slice n.tp n.tests.length n.tc) n.tests.length (n.tests.flatMap condCell) :: Im 5 (.slice n.kp n.kids.length n.kc) n.kids.length (n.kids.flatMap nodeCell) :: NodesA n.kids :: Im 1 (.slice (some ⟨bk15, 0, none⟩) 4 4) 4 ([cmpI n.kind.v m.kind.v, cmpSt n.typ.v m.typ.v, cmpSt n.var.v m.var.v, lexC condC n.tests m.tests].flatMap iC) :: F) := ((((H27.drop 0 rfl).drop 0 rfl).drop 0 rfl).drop 0 rfl)
    have H87 : St W w26 (Im 1 (.slice (some ⟨bk15, 0, none⟩) 4 4) 4 ([cmpI n.kind.v m.kind.v, cmpSt n.typ.v m.typ.v, cmpSt n.var.v m.var.v, lexC condC n.tests m.tests].flatMap iC) :: F) := ((((H86.drop 0 rfl).drop 0 rfl).drop 0 rfl).drop 0 rfl)
    have H88 : St W w26 F := (H87.drop 0 rfl)
    exact ⟨vint (cmp_head hc28), H88⟩
theorem ref08_Compare {W w : World} {F : List Atom} (n : NodeD) (m : NodeD) {i : Nat} (hi : F[i]? = some (NodeA n)) {i2 : Nat} (hi2 : F[i2]? = some (NodeA m)) (H : St W w F) : Calls Try.prog 10 #[.agg #[.int .i64 n.kind.v, .string n.var.v, .string n.typ.v, .slice n.tp n.tests.length n.tc, .slice n.kp n.kids.length n.kc], .agg #[.int .i64 m.kind.v, .string m.var.v, .string m.typ.v, .slice m.tp m.tests.length m.tc, .slice m.kp m.kids.length m.kc]] w (Ret fun v w' => v = .int .i64 (cmpN n m) ∧ St W w' F) := ref08_Compare_r (sizeOf n + 1) n (Nat.lt_succ_self _) m hi hi2 H
end Sl
