/- Walks of the program's functions. Printed by a program of this claim's author. No condition. -/
import Derived.Test.YtheggchlcpafmaaSlQ
import Derived.Test.YtheggchlcpafmaaSlI
import Derived.Test.YtheggchlcpafmaaSlP
import Derived.Test.YtheggchlcpafmaaSlAF
import Derived.Test.YtheggchlcpafmaaSlAG
import Derived.Test.YtheggchlcpafmaaProg
import Derived.Test.YtheggchlcpafmaaWalkEventBack1
namespace Sl
open _root_.Go _root_.Go.RowKit _root_.Go.Proofs
set_option linter.all false
set_option maxHeartbeats 4000000 in
set_option maxRecDepth 100000 in
theorem ev_event {W w : World} {F : List Atom} (r b : Nat) (bs : List UInt8) (p : Nat) (X : RX) (hR : remB bs p = X.R) (hp : p ≤ 8 * bs.length) (hb : bs.length ≤ 140737488355328) (H : St W w (blk r (.cells #[.pointer (some ⟨b, 0, none⟩), .int .i64 X.e] 126 (0, 0)) :: SrcA b bs p :: F)) : Calls Try.prog 84 #[.pointer (some ⟨r, 0, none⟩)] w (Ret fun v w' => (evC tmN X = 0 ∧ ∃ q c p', v = .agg #[.int .i64 ((evS tmN X).src.v), .int .i64 ((evS tmN X).seq.v), .int .i64 ((evS tmN X).time.v), .string ((evS tmN X).typ.v), .slice q ((evS tmN X).attrs.length) c] ∧ remB bs p' = (v7 X).R ∧ p' ≤ 8 * bs.length ∧ St W w' (Attrs (.slice q ((evS tmN X).attrs.length) c) (evS tmN X).attrs :: blk r (.cells #[.pointer (some ⟨b, 0, none⟩), .int .i64 0] 126 (0, 0)) :: SrcA b bs p' :: F)) ∨ (¬ evC tmN X = 0 ∧ ∃ s1 s2 s3 s4 q n c p', v = .agg #[.int .i64 s1, .int .i64 s2, .int .i64 s3, .string s4, .slice q n c] ∧ St W w' (blk r (.cells #[.pointer (some ⟨b, 0, none⟩), .int .i64 (evC tmN X)] 126 (0, 0)) :: SrcA b bs p' :: F))) := by
  have hxl : X.R.length ≤ 1125899906842624 := by rw [← hR, remB_len]; omega
  refine calls_of_go (n := 50) Try.func84 rfl Try.ntmps84 rfl ?_
  refine g_seq ?_
  refine g_region ?_
  refine r_cons (s_alloc H 33 ze_33 rfl ?_); intro bk1 w2 H3
  refine r_nil ?_
  refine g_seq ?_
  refine g_region ?_
  refine r_cons (s_move (.pointer (some ⟨r, 0, none⟩)) rfl rfl ?_)
  have H4 : St W w2 (blk r (.cells #[.pointer (some ⟨b, 0, none⟩), .int .i64 X.e] 126 (0, 0)) :: SrcA b bs p :: blk bk1 (.cells #[.int .i64 0, .int .i64 0, .int .i64 0, .string ByteArray.empty, .slice none 0 0] 33 (0, 0)) :: F) := ((H3.move 2 rfl).move 2 rfl)
  refine r_cons (s_call [.pointer (some ⟨r, 0, none⟩), .int .i64 4] pl_99 rfl rfl (ev_bits r b bs p X hR hp (by omega) 4 (by decide) H4) ?_)
  rintro _ w8 ⟨rfl, q5, hR6, hp7, H9⟩
  refine r_cons (s_move (.pointer (some ⟨r, 0, none⟩)) rfl rfl ?_)
  have H10 : St W w8 (blk r (.cells #[.pointer (some ⟨b, 0, none⟩), .int .i64 ((stB 4 X).2.e)] 126 (0, 0)) :: SrcA b bs q5 :: blk bk1 (.cells #[.int .i64 0, .int .i64 0, .int .i64 0, .string ByteArray.empty, .slice none 0 0] 33 (0, 0)) :: F) := (((H9.move 2 rfl).move 2 rfl).move 2 rfl)
  refine r_cons (s_call [.pointer (some ⟨r, 0, none⟩)] pl_100 rfl rfl (ev_nat r b bs q5 ((stB 4 X).2) hR6 hp7 (by omega)  H10) ?_)
  rintro _ w14 ⟨rfl, q11, hR12, hp13, H15⟩
  refine r_cons (s_build (cs := #[.int .i64 ((stB 4 X).1 : Int), .int .i64 (tmN (stN ((stB 4 X).2)).1)]) (by kernel_rfl) rfl ?_)
  refine r_cons (s_build (cs := #[.int .i64 ((stB 4 X).1 : Int), .int .i64 (tmN (stN ((stB 4 X).2)).1), .int .i64 0, .string ByteArray.empty, .slice none 0 0]) (by kernel_rfl) rfl ?_)
  refine r_cons (s_alloc H15 33 ze_33 rfl ?_); intro bk16 w17 H18
  refine r_cons (s_storeAgg H18 0 #[.int .i64 ((stB 4 X).1 : Int), .int .i64 (tmN (stN ((stB 4 X).2)).1), .int .i64 0, .string ByteArray.empty, .slice none 0 0] 5 rfl rfl rfl sz_33 rfl (by simp [Value.oneCell']) (Nat.le_of_ble_eq_true rfl) (fun o h1 h2 => by first | (simp; done) | (simp; omega)) (cs' := #[.int .i64 ((stB 4 X).1 : Int), .int .i64 (tmN (stN ((stB 4 X).2)).1), .int .i64 0, .string ByteArray.empty, .slice none 0 0]) rfl ?_); intro w19 H20
  refine r_nil ?_
  refine g_seq ?_
  refine g_region ?_
  refine r_cons (s_move (.pointer (some ⟨r, 0, none⟩)) rfl rfl ?_)
  have H21 : St W w19 (blk r (.cells #[.pointer (some ⟨b, 0, none⟩), .int .i64 ((stN ((stB 4 X).2)).2.e)] 126 (0, 0)) :: SrcA b bs q11 :: blk bk16 (.cells #[.int .i64 ((stB 4 X).1 : Int), .int .i64 (tmN (stN ((stB 4 X).2)).1), .int .i64 0, .string ByteArray.empty, .slice none 0 0] 33 (0, 0)) :: blk bk1 (.cells #[.int .i64 0, .int .i64 0, .int .i64 0, .string ByteArray.empty, .slice none 0 0] 33 (0, 0)) :: F) := ((((H20.move 3 rfl).move 1 rfl).move 3 rfl).move 3 rfl)
  refine r_cons (s_call [.pointer (some ⟨r, 0, none⟩)] pl_100 rfl rfl (ev_nat r b bs q11 ((stN ((stB 4 X).2)).2) hR12 hp13 (by omega)  H21) ?_)
  rintro _ w25 ⟨rfl, q22, hR23, hp24, H26⟩
  refine r_cons (s_fieldAddr 33 1 2 2 2 rfl fi_33_1 rfl rfl ?_)
  refine r_cons (s_store H26 2 (.int .i64 (tmN (stN ((stN ((stB 4 X).2)).2)).1)) rfl rfl rfl sz_2 rfl (Nat.le_of_ble_eq_true rfl) rfl (cs' := #[.int .i64 ((stB 4 X).1 : Int), .int .i64 (tmN (stN ((stB 4 X).2)).1), .int .i64 (tmN (stN ((stN ((stB 4 X).2)).2)).1), .string ByteArray.empty, .slice none 0 0]) rfl ?_); intro w27 H28
  refine r_nil ?_
  refine g_seq ?_
  refine g_region ?_
  refine r_cons (s_move (.pointer (some ⟨r, 0, none⟩)) rfl rfl ?_)
  have H29 : St W w27 (blk r (.cells #[.pointer (some ⟨b, 0, none⟩), .int .i64 ((stN ((stN ((stB 4 X).2)).2)).2.e)] 126 (0, 0)) :: SrcA b bs q22 :: blk bk16 (.cells #[.int .i64 ((stB 4 X).1 : Int), .int .i64 (tmN (stN ((stB 4 X).2)).1), .int .i64 (tmN (stN ((stN ((stB 4 X).2)).2)).1), .string ByteArray.empty, .slice none 0 0] 33 (0, 0)) :: blk bk1 (.cells #[.int .i64 0, .int .i64 0, .int .i64 0, .string ByteArray.empty, .slice none 0 0] 33 (0, 0)) :: F) := ((((H28.move 3 rfl).move 3 rfl).move 3 rfl).move 3 rfl)
  refine r_cons (s_call [.pointer (some ⟨r, 0, none⟩)] pl_101 rfl rfl (ev_text r b bs q22 ((stN ((stN ((stB 4 X).2)).2)).2) hR23 hp24 (by omega)  H29) ?_)
  rintro _ w33 ⟨rfl, q30, hR31, hp32, H34⟩
  refine r_cons (s_fieldAddr 33 2 3 3 9 rfl fi_33_2 rfl rfl ?_)
  refine r_cons (s_store H34 2 (.string ((stT ((stN ((stN ((stB 4 X).2)).2)).2)).1)) rfl rfl rfl sz_9 rfl (Nat.le_of_ble_eq_true rfl) rfl (cs' := #[.int .i64 ((stB 4 X).1 : Int), .int .i64 (tmN (stN ((stB 4 X).2)).1), .int .i64 (tmN (stN ((stN ((stB 4 X).2)).2)).1), .string ((stT ((stN ((stN ((stB 4 X).2)).2)).2)).1), .slice none 0 0]) rfl ?_); intro w35 H36
  refine r_nil ?_
  refine g_seq ?_
  refine g_region ?_
  refine r_cons (s_move (.pointer (some ⟨r, 0, none⟩)) rfl rfl ?_)
  have H37 : St W w35 (blk r (.cells #[.pointer (some ⟨b, 0, none⟩), .int .i64 ((stT ((stN ((stN ((stB 4 X).2)).2)).2)).2.e)] 126 (0, 0)) :: SrcA b bs q30 :: blk bk16 (.cells #[.int .i64 ((stB 4 X).1 : Int), .int .i64 (tmN (stN ((stB 4 X).2)).1), .int .i64 (tmN (stN ((stN ((stB 4 X).2)).2)).1), .string ((stT ((stN ((stN ((stB 4 X).2)).2)).2)).1), .slice none 0 0] 33 (0, 0)) :: blk bk1 (.cells #[.int .i64 0, .int .i64 0, .int .i64 0, .string ByteArray.empty, .slice none 0 0] 33 (0, 0)) :: F) := ((((H36.move 3 rfl).move 3 rfl).move 3 rfl).move 3 rfl)
  refine r_cons (s_call [.pointer (some ⟨r, 0, none⟩), .int .i64 4] pl_99 rfl rfl (ev_bits r b bs q30 ((stT ((stN ((stN ((stB 4 X).2)).2)).2)).2) hR31 hp32 (by omega) 4 (by decide) H37) ?_)
  rintro _ w41 ⟨rfl, q38, hR39, hp40, H42⟩
  refine r_cons (s_assign (.int .i64 ((stB 4 ((stT ((stN ((stN ((stB 4 X).2)).2)).2)).2)).1 : Int)) rfl rfl ?_)
  refine r_nil ?_
  refine g_seq ?_
  refine g_seq ?_
  refine g_region ?_
  refine r_cons (s_move (.int .i64 ((stB 4 ((stT ((stN ((stN ((stB 4 X).2)).2)).2)).2)).1 : Int)) rfl rfl ?_)
  by_cases hc43 : (8 : Int) < ((stB 4 ((stT ((stN ((stN ((stB 4 X).2)).2)).2)).2)).1 : Int)
  · skip
    refine r_cons (s_gtr true rfl rfl (dtrue hc43) rfl ?_)
    refine r_nil ?_
    refine g_true rfl ?_
    refine g_region ?_
    refine r_cons (s_move (.pointer (some ⟨r, 0, none⟩)) rfl rfl ?_)
    refine r_cons (s_call [.pointer (some ⟨r, 0, none⟩), .int .i64 40] pl_102 rfl rfl (ev_keep r b ((stB 4 ((stT ((stN ((stN ((stB 4 X).2)).2)).2)).2)).2.e) 40 (i := 0) rfl H42) ?_)
    rintro _ w44 ⟨rfl, H45⟩
    refine r_nil ?_
    refine g_seq ?_
    refine g_seq ?_
    refine g_region ?_
    refine r_cons (s_move (.int .i64 ((stB 4 ((stT ((stN ((stN ((stB 4 X).2)).2)).2)).2)).1 : Int)) rfl rfl ?_)
    refine r_cons (s_move (.int .i64 0) rfl rfl ?_)
    refine r_nil ?_
    refine g_block ?_
    have H46 : St W w44 (blk r (.cells #[.pointer (some ⟨b, 0, none⟩), .int .i64 (if (stB 4 ((stT ((stN ((stN ((stB 4 X).2)).2)).2)).2)).2.e = 0 then 40 else (stB 4 ((stT ((stN ((stN ((stB 4 X).2)).2)).2)).2)).2.e)] 126 (0, 0)) :: SrcA b bs q38 :: blk bk16 (.cells #[.int .i64 ((stB 4 X).1 : Int), .int .i64 (tmN (stN ((stB 4 X).2)).1), .int .i64 (tmN (stN ((stN ((stB 4 X).2)).2)).1), .string ((stT ((stN ((stN ((stB 4 X).2)).2)).2)).1), .slice none 0 0] 33 (0, 0)) :: blk bk1 (.cells #[.int .i64 0, .int .i64 0, .int .i64 0, .string ByteArray.empty, .slice none 0 0] 33 (0, 0)) :: F) := ((((H45.move 3 rfl).move 3 rfl).move 3 rfl).move 3 rfl)
    have H47 : St W w44 (blk r (.cells #[.pointer (some ⟨b, 0, none⟩), .int .i64 ((stK 40 ((stB 4 ((stT ((stN ((stN ((stB 4 X).2)).2)).2)).2)).2)).e)] 126 (0, 0)) :: SrcA b bs q38 :: blk bk16 (.cells #[.int .i64 ((stB 4 X).1 : Int), .int .i64 (tmN (stN ((stB 4 X).2)).1), .int .i64 (tmN (stN ((stN ((stB 4 X).2)).2)).1), .string ((stT ((stN ((stN ((stB 4 X).2)).2)).2)).1), .slice none 0 0] 33 (0, 0)) :: blk bk1 (.cells #[.int .i64 0, .int .i64 0, .int .i64 0, .string ByteArray.empty, .slice none 0 0] 33 (0, 0)) :: F) := H46
    have h6 : v6 X = (stK 40 ((stB 4 ((stT ((stN ((stN ((stB 4 X).2)).2)).2)).2)).2)) := by
      have hh : 8 < (stB 4 ((stT ((stN ((stN ((stB 4 X).2)).2)).2)).2)).1 := by omega
      show (if 8 < vn X then stK 40 (v5 X) else v5 X) = _
      exact if_pos hh
    have H48 := Row.nil_intro H47 91 4
    have H49 : St W w44 (Row 91 4 (.slice none 0 0) 0 [] :: blk r (.cells #[.pointer (some ⟨b, 0, none⟩), .int .i64 ((stK 40 ((stB 4 ((stT ((stN ((stN ((stB 4 X).2)).2)).2)).2)).2)).e)] 126 (0, 0)) :: SrcA b bs q38 :: blk bk16 (.cells #[.int .i64 ((stB 4 X).1 : Int), .int .i64 (tmN (stN ((stB 4 X).2)).1), .int .i64 (tmN (stN ((stN ((stB 4 X).2)).2)).1), .string ((stT ((stN ((stN ((stB 4 X).2)).2)).2)).1), .slice none 0 0] 33 (0, 0)) :: blk bk1 (.cells #[.int .i64 0, .int .i64 0, .int .i64 0, .string ByteArray.empty, .slice none 0 0] 33 (0, 0)) :: F) := (((((H48.move 4 rfl).move 4 rfl).move 4 rfl).move 4 rfl).move 4 rfl)
    refine g_loop_inv (fun (x_ : Nat × Nat × (Option Addr) × Nat) => match x_ with | (j, pj, qa, ca) => [(0, .pointer (some ⟨r, 0, none⟩)), (2, .pointer (some ⟨bk1, 0, none⟩)), (3, .pointer (some ⟨bk16, 0, none⟩)), (23, .int .i64 ((stB 4 ((stT ((stN ((stN ((stB 4 X).2)).2)).2)).2)).1 : Int)), (24, .int .i64 (j : Int))]) (fun (x_ : Nat × Nat × (Option Addr) × Nat) w => match x_ with | (j, pj, qa, ca) => (j ≤ (stB 4 ((stT ((stN ((stN ((stB 4 X).2)).2)).2)).2)).1) ∧ (remB bs pj = (ats j (stK 40 ((stB 4 ((stT ((stN ((stN ((stB 4 X).2)).2)).2)).2)).2))).2.R) ∧ (pj ≤ 8 * bs.length) ∧ St W w (Row 91 4 (.slice qa ((ats j (stK 40 ((stB 4 ((stT ((stN ((stN ((stB 4 X).2)).2)).2)).2)).2))).1.length) ca) ((ats j (stK 40 ((stB 4 ((stT ((stN ((stN ((stB 4 X).2)).2)).2)).2)).2))).1.length) (((ats j (stK 40 ((stB 4 ((stT ((stN ((stN ((stB 4 X).2)).2)).2)).2)).2))).1).flatMap attrCell) :: blk r (.cells #[.pointer (some ⟨b, 0, none⟩), .int .i64 ((ats j (stK 40 ((stB 4 ((stT ((stN ((stN ((stB 4 X).2)).2)).2)).2)).2))).2.e)] 126 (0, 0)) :: SrcA b bs pj :: blk bk16 (.cells #[.int .i64 ((stB 4 X).1 : Int), .int .i64 (tmN (stN ((stB 4 X).2)).1), .int .i64 (tmN (stN ((stN ((stB 4 X).2)).2)).1), .string ((stT ((stN ((stN ((stB 4 X).2)).2)).2)).1), .slice qa ((ats j (stK 40 ((stB 4 ((stT ((stN ((stN ((stB 4 X).2)).2)).2)).2)).2))).1.length) ca] 33 (0, 0)) :: blk bk1 (.cells #[.int .i64 0, .int .i64 0, .int .i64 0, .string ByteArray.empty, .slice none 0 0] 33 (0, 0)) :: F)) (fun (x_ : Nat × Nat × (Option Addr) × Nat) => match x_ with | (j, pj, qa, ca) => (stB 4 ((stT ((stN ((stN ((stB 4 X).2)).2)).2)).2)).1 - j) (0, q38, none, 0) ?_ ?_ ?_
    · exact ⟨by first | rfl | exact vint (by omega), by first | rfl | exact vint (by omega), by first | rfl | exact vint (by omega), by first | rfl | exact vint (by omega), by first | rfl | exact vint (by omega), trivial⟩
    · exact ⟨(by omega), hR39, hp40, H49⟩
    · rintro ⟨j, pj, qa, ca⟩ ρ50 w51 ⟨hjn, hRj, hpj, H52⟩ nx53
      change Ends _ _ (upds ρ50 [(0, .pointer (some ⟨r, 0, none⟩)), (2, .pointer (some ⟨bk1, 0, none⟩)), (3, .pointer (some ⟨bk16, 0, none⟩)), (23, .int .i64 ((stB 4 ((stT ((stN ((stN ((stB 4 X).2)).2)).2)).2)).1 : Int)), (24, .int .i64 (j : Int))]) w51
      have hln := ats_le (X := (stK 40 ((stB 4 ((stT ((stN ((stN ((stB 4 X).2)).2)).2)).2)).2))) j
      have hvn : (stB 4 ((stT ((stN ((stN ((stB 4 X).2)).2)).2)).2)).1 < 16 := stB_lt (k := 4)
      refine g_seq ?_
      refine g_region ?_
      by_cases hc54 : (j : Int) < ((stB 4 ((stT ((stN ((stN ((stB 4 X).2)).2)).2)).2)).1 : Int)
      · skip
        refine r_cons (s_lss true rfl rfl (dtrue hc54) rfl ?_)
        refine r_nil ?_
        refine g_seq ?_
        refine g_true rfl ?_
        refine g_skip ?_
        refine g_seq ?_
        refine g_block ?_
        refine g_seq ?_
        refine g_seq ?_
        refine g_region ?_
        refine r_cons (s_move (.pointer (some ⟨r, 0, none⟩)) rfl rfl ?_)
        refine r_cons (s_nilCheck (.pointer (some ⟨r, 0, none⟩)) rfl ⟨_, rfl⟩ rfl ?_)
        refine r_cons (s_fieldAddr 126 1 1 1 24 rfl fi_126_1 rfl rfl ?_)
        refine r_cons (s_load (.int .i64 ((ats j (stK 40 ((stB 4 ((stT ((stN ((stN ((stB 4 X).2)).2)).2)).2)).2))).2.e)) ag_24 rfl (H52.blk_at (i := 1) rfl) rfl rfl ?_)
        by_cases hc55 : (ats j (stK 40 ((stB 4 ((stT ((stN ((stN ((stB 4 X).2)).2)).2)).2)).2))).2.e = 0
        · skip
          refine r_cons (s_neq false rfl rfl (ntrue hc55) rfl ?_)
          refine r_nil ?_
          refine g_false rfl ?_
          refine g_skip ?_
          have H56 : St W w51 (blk bk1 (.cells #[.int .i64 0, .int .i64 0, .int .i64 0, .string ByteArray.empty, .slice none 0 0] 33 (0, 0)) :: Row 91 4 (.slice qa ((ats j (stK 40 ((stB 4 ((stT ((stN ((stN ((stB 4 X).2)).2)).2)).2)).2))).1.length) ca) ((ats j (stK 40 ((stB 4 ((stT ((stN ((stN ((stB 4 X).2)).2)).2)).2)).2))).1.length) (((ats j (stK 40 ((stB 4 ((stT ((stN ((stN ((stB 4 X).2)).2)).2)).2)).2))).1).flatMap attrCell) :: blk r (.cells #[.pointer (some ⟨b, 0, none⟩), .int .i64 ((ats j (stK 40 ((stB 4 ((stT ((stN ((stN ((stB 4 X).2)).2)).2)).2)).2))).2.e)] 126 (0, 0)) :: SrcA b bs pj :: blk bk16 (.cells #[.int .i64 ((stB 4 X).1 : Int), .int .i64 (tmN (stN ((stB 4 X).2)).1), .int .i64 (tmN (stN ((stN ((stB 4 X).2)).2)).1), .string ((stT ((stN ((stN ((stB 4 X).2)).2)).2)).1), .slice qa ((ats j (stK 40 ((stB 4 ((stT ((stN ((stN ((stB 4 X).2)).2)).2)).2)).2))).1.length) ca] 33 (0, 0)) :: F) := (((((H52.move 3 rfl).move 3 rfl).move 3 rfl).move 3 rfl).move 4 rfl)
          refine g_mix (fun t_ w => St W w (blk bk1 (.cells #[.int .i64 0, .int .i64 0, .int .i64 0, .string ByteArray.empty, .slice none 0 0] 33 (0, 0)) :: t_)) (Row 91 4 (.slice qa ((ats j (stK 40 ((stB 4 ((stT ((stN ((stN ((stB 4 X).2)).2)).2)).2)).2))).1.length) ca) ((ats j (stK 40 ((stB 4 ((stT ((stN ((stN ((stB 4 X).2)).2)).2)).2)).2))).1.length) (((ats j (stK 40 ((stB 4 ((stT ((stN ((stN ((stB 4 X).2)).2)).2)).2)).2))).1).flatMap attrCell) :: blk r (.cells #[.pointer (some ⟨b, 0, none⟩), .int .i64 ((ats j (stK 40 ((stB 4 ((stT ((stN ((stN ((stB 4 X).2)).2)).2)).2)).2))).2.e)] 126 (0, 0)) :: SrcA b bs pj :: blk bk16 (.cells #[.int .i64 ((stB 4 X).1 : Int), .int .i64 (tmN (stN ((stB 4 X).2)).1), .int .i64 (tmN (stN ((stN ((stB 4 X).2)).2)).1), .string ((stT ((stN ((stN ((stB 4 X).2)).2)).2)).1), .slice qa ((ats j (stK 40 ((stB 4 ((stT ((stN ((stN ((stB 4 X).2)).2)).2)).2)).2))).1.length) ca] 33 (0, 0)) :: F) mixed 8 rfl H56.drew ?_
          refine f_first 0 (listed' := #[true, false, false, false, false, false, false, false]) rfl (by kernel_rfl) (by kernel_rfl) (by kernel_rfl) rfl ?_
          refine f_val rfl rfl rfl (by intro t_ w hw; exact x_fieldAddr 33 3 4 4 31 rfl fi_33_3 rfl w) ?_
          refine f_first 2 (listed' := #[true, false, true, false, false, false, false, false]) rfl (by kernel_rfl) (by kernel_rfl) (by kernel_rfl) rfl ?_
          refine f_val rfl rfl rfl (by intro t_ w hw; exact x_move (.pointer (some ⟨r, 0, none⟩)) rfl w) ?_
          refine f_all (rs := [1, 3]) (by kernel_rfl) (by simp) ?_
          refine a_cons ⟨_, rfl, ?_⟩ (a_cons ⟨_, rfl, ?_⟩ (fun x hx => absurd hx (by simp)))
          · skip
            intro w57 H58
            try dsimp only at H58
            refine s_load (.slice qa ((ats j (stK 40 ((stB 4 ((stT ((stN ((stN ((stB 4 X).2)).2)).2)).2)).2))).1.length) ca) ag_31 rfl (H58.blk_at (i := 4) rfl) rfl rfl ?_
            refine ⟨Row 91 4 (.slice qa ((ats j (stK 40 ((stB 4 ((stT ((stN ((stN ((stB 4 X).2)).2)).2)).2)).2))).1.length) ca) ((ats j (stK 40 ((stB 4 ((stT ((stN ((stN ((stB 4 X).2)).2)).2)).2)).2))).1.length) (((ats j (stK 40 ((stB 4 ((stT ((stN ((stN ((stB 4 X).2)).2)).2)).2)).2))).1).flatMap attrCell) :: blk r (.cells #[.pointer (some ⟨b, 0, none⟩), .int .i64 ((ats j (stK 40 ((stB 4 ((stT ((stN ((stN ((stB 4 X).2)).2)).2)).2)).2))).2.e)] 126 (0, 0)) :: SrcA b bs pj :: blk bk16 (.cells #[.int .i64 ((stB 4 X).1 : Int), .int .i64 (tmN (stN ((stB 4 X).2)).1), .int .i64 (tmN (stN ((stN ((stB 4 X).2)).2)).1), .string ((stT ((stN ((stN ((stB 4 X).2)).2)).2)).1), .slice qa ((ats j (stK 40 ((stB 4 ((stT ((stN ((stN ((stB 4 X).2)).2)).2)).2)).2))).1.length) ca] 33 (0, 0)) :: F, ?_, H58⟩
            change FReg _ _ _ _ _ #[true, true, true, false, false, false, false, false] _ _
            refine f_all (rs := [3]) (by kernel_rfl) (by simp) ?_
            refine a_cons ⟨_, rfl, ?_⟩ (fun x hx => absurd hx (by simp))
            intro w59 H60
            try dsimp only at H60
            have H61 : St W w59 (blk r (.cells #[.pointer (some ⟨b, 0, none⟩), .int .i64 ((ats j (stK 40 ((stB 4 ((stT ((stN ((stN ((stB 4 X).2)).2)).2)).2)).2))).2.e)] 126 (0, 0)) :: SrcA b bs pj :: blk bk1 (.cells #[.int .i64 0, .int .i64 0, .int .i64 0, .string ByteArray.empty, .slice none 0 0] 33 (0, 0)) :: Row 91 4 (.slice qa ((ats j (stK 40 ((stB 4 ((stT ((stN ((stN ((stB 4 X).2)).2)).2)).2)).2))).1.length) ca) ((ats j (stK 40 ((stB 4 ((stT ((stN ((stN ((stB 4 X).2)).2)).2)).2)).2))).1.length) (((ats j (stK 40 ((stB 4 ((stT ((stN ((stN ((stB 4 X).2)).2)).2)).2)).2))).1).flatMap attrCell) :: blk bk16 (.cells #[.int .i64 ((stB 4 X).1 : Int), .int .i64 (tmN (stN ((stB 4 X).2)).1), .int .i64 (tmN (stN ((stN ((stB 4 X).2)).2)).1), .string ((stT ((stN ((stN ((stB 4 X).2)).2)).2)).1), .slice qa ((ats j (stK 40 ((stB 4 ((stT ((stN ((stN ((stB 4 X).2)).2)).2)).2)).2))).1.length) ca] 33 (0, 0)) :: F) := (((((H60.move 4 rfl).move 2 rfl).move 2 rfl).move 4 rfl).move 4 rfl)
            refine s_call [.pointer (some ⟨r, 0, none⟩)] pl_103 rfl rfl (ev_attr r b bs pj ((ats j (stK 40 ((stB 4 ((stT ((stN ((stN ((stB 4 X).2)).2)).2)).2)).2))).2) hRj hpj (by omega)  H61) ?_
            rintro _ w65 ⟨rfl, q62, hR63, hp64, H66⟩
            have H67 : St W w65 (blk bk1 (.cells #[.int .i64 0, .int .i64 0, .int .i64 0, .string ByteArray.empty, .slice none 0 0] 33 (0, 0)) :: blk r (.cells #[.pointer (some ⟨b, 0, none⟩), .int .i64 ((stA ((ats j (stK 40 ((stB 4 ((stT ((stN ((stN ((stB 4 X).2)).2)).2)).2)).2))).2)).2.e)] 126 (0, 0)) :: SrcA b bs q62 :: Row 91 4 (.slice qa ((ats j (stK 40 ((stB 4 ((stT ((stN ((stN ((stB 4 X).2)).2)).2)).2)).2))).1.length) ca) ((ats j (stK 40 ((stB 4 ((stT ((stN ((stN ((stB 4 X).2)).2)).2)).2)).2))).1.length) (((ats j (stK 40 ((stB 4 ((stT ((stN ((stN ((stB 4 X).2)).2)).2)).2)).2))).1).flatMap attrCell) :: blk bk16 (.cells #[.int .i64 ((stB 4 X).1 : Int), .int .i64 (tmN (stN ((stB 4 X).2)).1), .int .i64 (tmN (stN ((stN ((stB 4 X).2)).2)).1), .string ((stT ((stN ((stN ((stB 4 X).2)).2)).2)).1), .slice qa ((ats j (stK 40 ((stB 4 ((stT ((stN ((stN ((stB 4 X).2)).2)).2)).2)).2))).1.length) ca] 33 (0, 0)) :: F) := (((((H66.move 4 rfl).move 4 rfl).move 3 rfl).move 3 rfl).move 4 rfl)
            refine ⟨blk r (.cells #[.pointer (some ⟨b, 0, none⟩), .int .i64 ((stA ((ats j (stK 40 ((stB 4 ((stT ((stN ((stN ((stB 4 X).2)).2)).2)).2)).2))).2)).2.e)] 126 (0, 0)) :: SrcA b bs q62 :: Row 91 4 (.slice qa ((ats j (stK 40 ((stB 4 ((stT ((stN ((stN ((stB 4 X).2)).2)).2)).2)).2))).1.length) ca) ((ats j (stK 40 ((stB 4 ((stT ((stN ((stN ((stB 4 X).2)).2)).2)).2)).2))).1.length) (((ats j (stK 40 ((stB 4 ((stT ((stN ((stN ((stB 4 X).2)).2)).2)).2)).2))).1).flatMap attrCell) :: blk bk16 (.cells #[.int .i64 ((stB 4 X).1 : Int), .int .i64 (tmN (stN ((stB 4 X).2)).1), .int .i64 (tmN (stN ((stN ((stB 4 X).2)).2)).1), .string ((stT ((stN ((stN ((stB 4 X).2)).2)).2)).1), .slice qa ((ats j (stK 40 ((stB 4 ((stT ((stN ((stN ((stB 4 X).2)).2)).2)).2)).2))).1.length) ca] 33 (0, 0)) :: F, ?_, H67⟩
            change FReg _ _ _ _ _ #[true, true, true, true, false, false, false, false] _ _
            refine f_all (rs := [4]) (by kernel_rfl) (by simp) ?_
            refine a_cons ⟨_, rfl, ?_⟩ (fun x hx => absurd hx (by simp))
            intro w68 H69
            try dsimp only at H69
            refine s_buildSlice H69 4 1 (cs := #[.string ((stA ((ats j (stK 40 ((stB 4 ((stT ((stN ((stN ((stB 4 X).2)).2)).2)).2)).2))).2)).1.name.v), .int .i64 ((stA ((ats j (stK 40 ((stB 4 ((stT ((stN ((stN ((stB 4 X).2)).2)).2)).2)).2))).2)).1.kind.v), .int .i64 ((stA ((ats j (stK 40 ((stB 4 ((stT ((stN ((stN ((stB 4 X).2)).2)).2)).2)).2))).2)).1.n.v), .string ((stA ((ats j (stK 40 ((stB 4 ((stT ((stN ((stN ((stB 4 X).2)).2)).2)).2)).2))).2)).1.s.v)]) #[.string ByteArray.empty, .int .i64 0, .int .i64 0, .string ByteArray.empty] el_31 ze_91 (by decide) (by decide) (by kernel_rfl) rfl ?_; intro bk70 w71 H72
            have H73 : St W w71 (blk bk1 (.cells #[.int .i64 0, .int .i64 0, .int .i64 0, .string ByteArray.empty, .slice none 0 0] 33 (0, 0)) :: blk bk70 (.cells #[.string ((stA ((ats j (stK 40 ((stB 4 ((stT ((stN ((stN ((stB 4 X).2)).2)).2)).2)).2))).2)).1.name.v), .int .i64 ((stA ((ats j (stK 40 ((stB 4 ((stT ((stN ((stN ((stB 4 X).2)).2)).2)).2)).2))).2)).1.kind.v), .int .i64 ((stA ((ats j (stK 40 ((stB 4 ((stT ((stN ((stN ((stB 4 X).2)).2)).2)).2)).2))).2)).1.n.v), .string ((stA ((ats j (stK 40 ((stB 4 ((stT ((stN ((stN ((stB 4 X).2)).2)).2)).2)).2))).2)).1.s.v)] 91 (0, 0)) :: blk r (.cells #[.pointer (some ⟨b, 0, none⟩), .int .i64 ((stA ((ats j (stK 40 ((stB 4 ((stT ((stN ((stN ((stB 4 X).2)).2)).2)).2)).2))).2)).2.e)] 126 (0, 0)) :: SrcA b bs q62 :: Row 91 4 (.slice qa ((ats j (stK 40 ((stB 4 ((stT ((stN ((stN ((stB 4 X).2)).2)).2)).2)).2))).1.length) ca) ((ats j (stK 40 ((stB 4 ((stT ((stN ((stN ((stB 4 X).2)).2)).2)).2)).2))).1.length) (((ats j (stK 40 ((stB 4 ((stT ((stN ((stN ((stB 4 X).2)).2)).2)).2)).2))).1).flatMap attrCell) :: blk bk16 (.cells #[.int .i64 ((stB 4 X).1 : Int), .int .i64 (tmN (stN ((stB 4 X).2)).1), .int .i64 (tmN (stN ((stN ((stB 4 X).2)).2)).1), .string ((stT ((stN ((stN ((stB 4 X).2)).2)).2)).1), .slice qa ((ats j (stK 40 ((stB 4 ((stT ((stN ((stN ((stB 4 X).2)).2)).2)).2)).2))).1.length) ca] 33 (0, 0)) :: F) := ((((((H72.move 5 rfl).move 5 rfl).move 5 rfl).move 5 rfl).move 4 rfl).move 5 rfl)
            refine ⟨blk bk70 (.cells #[.string ((stA ((ats j (stK 40 ((stB 4 ((stT ((stN ((stN ((stB 4 X).2)).2)).2)).2)).2))).2)).1.name.v), .int .i64 ((stA ((ats j (stK 40 ((stB 4 ((stT ((stN ((stN ((stB 4 X).2)).2)).2)).2)).2))).2)).1.kind.v), .int .i64 ((stA ((ats j (stK 40 ((stB 4 ((stT ((stN ((stN ((stB 4 X).2)).2)).2)).2)).2))).2)).1.n.v), .string ((stA ((ats j (stK 40 ((stB 4 ((stT ((stN ((stN ((stB 4 X).2)).2)).2)).2)).2))).2)).1.s.v)] 91 (0, 0)) :: blk r (.cells #[.pointer (some ⟨b, 0, none⟩), .int .i64 ((stA ((ats j (stK 40 ((stB 4 ((stT ((stN ((stN ((stB 4 X).2)).2)).2)).2)).2))).2)).2.e)] 126 (0, 0)) :: SrcA b bs q62 :: Row 91 4 (.slice qa ((ats j (stK 40 ((stB 4 ((stT ((stN ((stN ((stB 4 X).2)).2)).2)).2)).2))).1.length) ca) ((ats j (stK 40 ((stB 4 ((stT ((stN ((stN ((stB 4 X).2)).2)).2)).2)).2))).1.length) (((ats j (stK 40 ((stB 4 ((stT ((stN ((stN ((stB 4 X).2)).2)).2)).2)).2))).1).flatMap attrCell) :: blk bk16 (.cells #[.int .i64 ((stB 4 X).1 : Int), .int .i64 (tmN (stN ((stB 4 X).2)).1), .int .i64 (tmN (stN ((stN ((stB 4 X).2)).2)).1), .string ((stT ((stN ((stN ((stB 4 X).2)).2)).2)).1), .slice qa ((ats j (stK 40 ((stB 4 ((stT ((stN ((stN ((stB 4 X).2)).2)).2)).2)).2))).1.length) ca] 33 (0, 0)) :: F, ?_, H73⟩
            change FReg _ _ _ _ _ #[true, true, true, true, true, false, false, false] _ _
            refine f_all (rs := [5]) (by kernel_rfl) (by simp) ?_
            refine a_cons ⟨_, rfl, ?_⟩ (fun x hx => absurd hx (by simp))
            intro w74 H75
            try dsimp only at H75
            refine s_append H75 4 rfl rfl rfl (rd_blk (H75.blk_at (i := 1) rfl) rfl (Nat.le_of_ble_eq_true rfl) (by simp [Value.oneCell'])) ap_31 (by decide) (by unfold maxLen; omega) (by omega) (n' := (ats j (stK 40 ((stB 4 ((stT ((stN ((stN ((stB 4 X).2)).2)).2)).2)).2))).1.length + 1) (xs' := ((ats j (stK 40 ((stB 4 ((stT ((stN ((stN ((stB 4 X).2)).2)).2)).2)).2))).1 ++ [(stA (ats j (stK 40 ((stB 4 ((stT ((stN ((stN ((stB 4 X).2)).2)).2)).2)).2))).2).1]).flatMap attrCell) (by omega) (by rw [List.flatMap_append]; rfl) rfl ?_; intro vv76 w77 H78 hn79
            obtain ⟨pp80, cc81, rfl⟩ := Row.slice H78 (i := 4) rfl
            refine ⟨blk bk70 (.cells #[.string ((stA ((ats j (stK 40 ((stB 4 ((stT ((stN ((stN ((stB 4 X).2)).2)).2)).2)).2))).2)).1.name.v), .int .i64 ((stA ((ats j (stK 40 ((stB 4 ((stT ((stN ((stN ((stB 4 X).2)).2)).2)).2)).2))).2)).1.kind.v), .int .i64 ((stA ((ats j (stK 40 ((stB 4 ((stT ((stN ((stN ((stB 4 X).2)).2)).2)).2)).2))).2)).1.n.v), .string ((stA ((ats j (stK 40 ((stB 4 ((stT ((stN ((stN ((stB 4 X).2)).2)).2)).2)).2))).2)).1.s.v)] 91 (0, 0)) :: blk r (.cells #[.pointer (some ⟨b, 0, none⟩), .int .i64 ((stA ((ats j (stK 40 ((stB 4 ((stT ((stN ((stN ((stB 4 X).2)).2)).2)).2)).2))).2)).2.e)] 126 (0, 0)) :: SrcA b bs q62 :: Row 91 4 (.slice pp80 ((ats j (stK 40 ((stB 4 ((stT ((stN ((stN ((stB 4 X).2)).2)).2)).2)).2))).1.length + 1) cc81) ((ats j (stK 40 ((stB 4 ((stT ((stN ((stN ((stB 4 X).2)).2)).2)).2)).2))).1.length + 1) (((ats j (stK 40 ((stB 4 ((stT ((stN ((stN ((stB 4 X).2)).2)).2)).2)).2))).1 ++ [(stA (ats j (stK 40 ((stB 4 ((stT ((stN ((stN ((stB 4 X).2)).2)).2)).2)).2))).2).1]).flatMap attrCell) :: blk bk16 (.cells #[.int .i64 ((stB 4 X).1 : Int), .int .i64 (tmN (stN ((stB 4 X).2)).1), .int .i64 (tmN (stN ((stN ((stB 4 X).2)).2)).1), .string ((stT ((stN ((stN ((stB 4 X).2)).2)).2)).1), .slice qa ((ats j (stK 40 ((stB 4 ((stT ((stN ((stN ((stB 4 X).2)).2)).2)).2)).2))).1.length) ca] 33 (0, 0)) :: F, ?_, H78⟩
            change FReg _ _ _ _ _ #[true, true, true, true, true, true, false, false] _ _
            refine f_first 6 (listed' := #[true, true, true, true, true, true, true, false]) rfl (by kernel_rfl) (by kernel_rfl) (by kernel_rfl) rfl ?_
            refine f_val rfl rfl rfl (by intro t_ w hw; exact x_fieldAddr 33 3 4 4 31 rfl fi_33_3 rfl w) ?_
            refine f_all (rs := [7]) (by kernel_rfl) (by simp) ?_
            refine a_cons ⟨_, rfl, ?_⟩ (fun x hx => absurd hx (by simp))
            intro w82 H83
            try dsimp only at H83
            refine s_store H83 5 (.slice pp80 ((ats j (stK 40 ((stB 4 ((stT ((stN ((stN ((stB 4 X).2)).2)).2)).2)).2))).1.length + 1) cc81) rfl rfl rfl sz_31 rfl (Nat.le_of_ble_eq_true rfl) rfl (cs' := #[.int .i64 ((stB 4 X).1 : Int), .int .i64 (tmN (stN ((stB 4 X).2)).1), .int .i64 (tmN (stN ((stN ((stB 4 X).2)).2)).1), .string ((stT ((stN ((stN ((stB 4 X).2)).2)).2)).1), .slice pp80 ((ats j (stK 40 ((stB 4 ((stT ((stN ((stN ((stB 4 X).2)).2)).2)).2)).2))).1.length + 1) cc81]) rfl ?_; intro w84 H85
            refine ⟨blk bk70 (.cells #[.string ((stA ((ats j (stK 40 ((stB 4 ((stT ((stN ((stN ((stB 4 X).2)).2)).2)).2)).2))).2)).1.name.v), .int .i64 ((stA ((ats j (stK 40 ((stB 4 ((stT ((stN ((stN ((stB 4 X).2)).2)).2)).2)).2))).2)).1.kind.v), .int .i64 ((stA ((ats j (stK 40 ((stB 4 ((stT ((stN ((stN ((stB 4 X).2)).2)).2)).2)).2))).2)).1.n.v), .string ((stA ((ats j (stK 40 ((stB 4 ((stT ((stN ((stN ((stB 4 X).2)).2)).2)).2)).2))).2)).1.s.v)] 91 (0, 0)) :: blk r (.cells #[.pointer (some ⟨b, 0, none⟩), .int .i64 ((stA ((ats j (stK 40 ((stB 4 ((stT ((stN ((stN ((stB 4 X).2)).2)).2)).2)).2))).2)).2.e)] 126 (0, 0)) :: SrcA b bs q62 :: Row 91 4 (.slice pp80 ((ats j (stK 40 ((stB 4 ((stT ((stN ((stN ((stB 4 X).2)).2)).2)).2)).2))).1.length + 1) cc81) ((ats j (stK 40 ((stB 4 ((stT ((stN ((stN ((stB 4 X).2)).2)).2)).2)).2))).1.length + 1) (((ats j (stK 40 ((stB 4 ((stT ((stN ((stN ((stB 4 X).2)).2)).2)).2)).2))).1 ++ [(stA (ats j (stK 40 ((stB 4 ((stT ((stN ((stN ((stB 4 X).2)).2)).2)).2)).2))).2).1]).flatMap attrCell) :: blk bk16 (.cells #[.int .i64 ((stB 4 X).1 : Int), .int .i64 (tmN (stN ((stB 4 X).2)).1), .int .i64 (tmN (stN ((stN ((stB 4 X).2)).2)).1), .string ((stT ((stN ((stN ((stB 4 X).2)).2)).2)).1), .slice pp80 ((ats j (stK 40 ((stB 4 ((stT ((stN ((stN ((stB 4 X).2)).2)).2)).2)).2))).1.length + 1) cc81] 33 (0, 0)) :: F, ?_, H85⟩
            change FReg _ _ _ _ _ #[true, true, true, true, true, true, true, true] _ _
            refine f_done (by kernel_rfl) ?_
            intro w86 H87
            refine g_inBlock ?_
            refine g_region ?_
            refine r_cons (s_add ((j : Int) + 1) rfl rfl (wi64 (by omega)) rfl ?_)
            refine r_cons (s_move (.int .i64 ((j : Int) + 1)) rfl rfl ?_)
            refine r_nil ?_
            have H88 : St W w86 (Row 91 4 (.slice pp80 ((ats j (stK 40 ((stB 4 ((stT ((stN ((stN ((stB 4 X).2)).2)).2)).2)).2))).1.length + 1) cc81) ((ats j (stK 40 ((stB 4 ((stT ((stN ((stN ((stB 4 X).2)).2)).2)).2)).2))).1.length + 1) (((ats j (stK 40 ((stB 4 ((stT ((stN ((stN ((stB 4 X).2)).2)).2)).2)).2))).1 ++ [(stA (ats j (stK 40 ((stB 4 ((stT ((stN ((stN ((stB 4 X).2)).2)).2)).2)).2))).2).1]).flatMap attrCell) :: blk r (.cells #[.pointer (some ⟨b, 0, none⟩), .int .i64 ((stA ((ats j (stK 40 ((stB 4 ((stT ((stN ((stN ((stB 4 X).2)).2)).2)).2)).2))).2)).2.e)] 126 (0, 0)) :: SrcA b bs q62 :: blk bk16 (.cells #[.int .i64 ((stB 4 X).1 : Int), .int .i64 (tmN (stN ((stB 4 X).2)).1), .int .i64 (tmN (stN ((stN ((stB 4 X).2)).2)).1), .string ((stT ((stN ((stN ((stB 4 X).2)).2)).2)).1), .slice pp80 ((ats j (stK 40 ((stB 4 ((stT ((stN ((stN ((stB 4 X).2)).2)).2)).2)).2))).1.length + 1) cc81] 33 (0, 0)) :: blk bk1 (.cells #[.int .i64 0, .int .i64 0, .int .i64 0, .string ByteArray.empty, .slice none 0 0] 33 (0, 0)) :: F) := (((((H87.move 5 rfl).move 4 rfl).move 4 rfl).move 5 rfl).drop 5 rfl)
            have H89 : St W w86 (Row 91 4 (.slice pp80 ((ats (j + 1) (stK 40 ((stB 4 ((stT ((stN ((stN ((stB 4 X).2)).2)).2)).2)).2))).1.length) cc81) ((ats (j + 1) (stK 40 ((stB 4 ((stT ((stN ((stN ((stB 4 X).2)).2)).2)).2)).2))).1.length) (((ats (j + 1) (stK 40 ((stB 4 ((stT ((stN ((stN ((stB 4 X).2)).2)).2)).2)).2))).1).flatMap attrCell) :: blk r (.cells #[.pointer (some ⟨b, 0, none⟩), .int .i64 ((ats (j + 1) (stK 40 ((stB 4 ((stT ((stN ((stN ((stB 4 X).2)).2)).2)).2)).2))).2.e)] 126 (0, 0)) :: SrcA b bs q62 :: blk bk16 (.cells #[.int .i64 ((stB 4 X).1 : Int), .int .i64 (tmN (stN ((stB 4 X).2)).1), .int .i64 (tmN (stN ((stN ((stB 4 X).2)).2)).1), .string ((stT ((stN ((stN ((stB 4 X).2)).2)).2)).1), .slice pp80 ((ats (j + 1) (stK 40 ((stB 4 ((stT ((stN ((stN ((stB 4 X).2)).2)).2)).2)).2))).1.length) cc81] 33 (0, 0)) :: blk bk1 (.cells #[.int .i64 0, .int .i64 0, .int .i64 0, .string ByteArray.empty, .slice none 0 0] 33 (0, 0)) :: F) := by rw [ats_yes hc55, List.length_append]; exact H88
            exact nx53 (j + 1, q62, pp80, cc81) _ _ ⟨(by omega), (by rw [ats_yes hc55]; exact hR63), hp64, H89⟩ (by first | (dsimp only; omega) | omega) ⟨by first | rfl | exact vint (by omega), by first | rfl | exact vint (by omega), by first | rfl | exact vint (by omega), by first | rfl | exact vint (by omega), by first | rfl | exact vint (by omega), trivial⟩
          · skip
            intro w90 H91
            try dsimp only at H91
            have H92 : St W w90 (blk r (.cells #[.pointer (some ⟨b, 0, none⟩), .int .i64 ((ats j (stK 40 ((stB 4 ((stT ((stN ((stN ((stB 4 X).2)).2)).2)).2)).2))).2.e)] 126 (0, 0)) :: SrcA b bs pj :: blk bk1 (.cells #[.int .i64 0, .int .i64 0, .int .i64 0, .string ByteArray.empty, .slice none 0 0] 33 (0, 0)) :: Row 91 4 (.slice qa ((ats j (stK 40 ((stB 4 ((stT ((stN ((stN ((stB 4 X).2)).2)).2)).2)).2))).1.length) ca) ((ats j (stK 40 ((stB 4 ((stT ((stN ((stN ((stB 4 X).2)).2)).2)).2)).2))).1.length) (((ats j (stK 40 ((stB 4 ((stT ((stN ((stN ((stB 4 X).2)).2)).2)).2)).2))).1).flatMap attrCell) :: blk bk16 (.cells #[.int .i64 ((stB 4 X).1 : Int), .int .i64 (tmN (stN ((stB 4 X).2)).1), .int .i64 (tmN (stN ((stN ((stB 4 X).2)).2)).1), .string ((stT ((stN ((stN ((stB 4 X).2)).2)).2)).1), .slice qa ((ats j (stK 40 ((stB 4 ((stT ((stN ((stN ((stB 4 X).2)).2)).2)).2)).2))).1.length) ca] 33 (0, 0)) :: F) := (((((H91.move 4 rfl).move 2 rfl).move 2 rfl).move 4 rfl).move 4 rfl)
            refine s_call [.pointer (some ⟨r, 0, none⟩)] pl_103 rfl rfl (ev_attr r b bs pj ((ats j (stK 40 ((stB 4 ((stT ((stN ((stN ((stB 4 X).2)).2)).2)).2)).2))).2) hRj hpj (by omega)  H92) ?_
            rintro _ w96 ⟨rfl, q93, hR94, hp95, H97⟩
            have H98 : St W w96 (blk bk1 (.cells #[.int .i64 0, .int .i64 0, .int .i64 0, .string ByteArray.empty, .slice none 0 0] 33 (0, 0)) :: blk r (.cells #[.pointer (some ⟨b, 0, none⟩), .int .i64 ((stA ((ats j (stK 40 ((stB 4 ((stT ((stN ((stN ((stB 4 X).2)).2)).2)).2)).2))).2)).2.e)] 126 (0, 0)) :: SrcA b bs q93 :: Row 91 4 (.slice qa ((ats j (stK 40 ((stB 4 ((stT ((stN ((stN ((stB 4 X).2)).2)).2)).2)).2))).1.length) ca) ((ats j (stK 40 ((stB 4 ((stT ((stN ((stN ((stB 4 X).2)).2)).2)).2)).2))).1.length) (((ats j (stK 40 ((stB 4 ((stT ((stN ((stN ((stB 4 X).2)).2)).2)).2)).2))).1).flatMap attrCell) :: blk bk16 (.cells #[.int .i64 ((stB 4 X).1 : Int), .int .i64 (tmN (stN ((stB 4 X).2)).1), .int .i64 (tmN (stN ((stN ((stB 4 X).2)).2)).1), .string ((stT ((stN ((stN ((stB 4 X).2)).2)).2)).1), .slice qa ((ats j (stK 40 ((stB 4 ((stT ((stN ((stN ((stB 4 X).2)).2)).2)).2)).2))).1.length) ca] 33 (0, 0)) :: F) := (((((H97.move 4 rfl).move 4 rfl).move 3 rfl).move 3 rfl).move 4 rfl)
            refine ⟨blk r (.cells #[.pointer (some ⟨b, 0, none⟩), .int .i64 ((stA ((ats j (stK 40 ((stB 4 ((stT ((stN ((stN ((stB 4 X).2)).2)).2)).2)).2))).2)).2.e)] 126 (0, 0)) :: SrcA b bs q93 :: Row 91 4 (.slice qa ((ats j (stK 40 ((stB 4 ((stT ((stN ((stN ((stB 4 X).2)).2)).2)).2)).2))).1.length) ca) ((ats j (stK 40 ((stB 4 ((stT ((stN ((stN ((stB 4 X).2)).2)).2)).2)).2))).1.length) (((ats j (stK 40 ((stB 4 ((stT ((stN ((stN ((stB 4 X).2)).2)).2)).2)).2))).1).flatMap attrCell) :: blk bk16 (.cells #[.int .i64 ((stB 4 X).1 : Int), .int .i64 (tmN (stN ((stB 4 X).2)).1), .int .i64 (tmN (stN ((stN ((stB 4 X).2)).2)).1), .string ((stT ((stN ((stN ((stB 4 X).2)).2)).2)).1), .slice qa ((ats j (stK 40 ((stB 4 ((stT ((stN ((stN ((stB 4 X).2)).2)).2)).2)).2))).1.length) ca] 33 (0, 0)) :: F, ?_, H98⟩
            change FReg _ _ _ _ _ #[true, false, true, true, false, false, false, false] _ _
            refine f_all (rs := [1, 4]) (by kernel_rfl) (by simp) ?_
            refine a_cons ⟨_, rfl, ?_⟩ (a_cons ⟨_, rfl, ?_⟩ (fun x hx => absurd hx (by simp)))
            · skip
              intro w99 H100
              try dsimp only at H100
              refine s_load (.slice qa ((ats j (stK 40 ((stB 4 ((stT ((stN ((stN ((stB 4 X).2)).2)).2)).2)).2))).1.length) ca) ag_31 rfl (H100.blk_at (i := 4) rfl) rfl rfl ?_
              refine ⟨blk r (.cells #[.pointer (some ⟨b, 0, none⟩), .int .i64 ((stA ((ats j (stK 40 ((stB 4 ((stT ((stN ((stN ((stB 4 X).2)).2)).2)).2)).2))).2)).2.e)] 126 (0, 0)) :: SrcA b bs q93 :: Row 91 4 (.slice qa ((ats j (stK 40 ((stB 4 ((stT ((stN ((stN ((stB 4 X).2)).2)).2)).2)).2))).1.length) ca) ((ats j (stK 40 ((stB 4 ((stT ((stN ((stN ((stB 4 X).2)).2)).2)).2)).2))).1.length) (((ats j (stK 40 ((stB 4 ((stT ((stN ((stN ((stB 4 X).2)).2)).2)).2)).2))).1).flatMap attrCell) :: blk bk16 (.cells #[.int .i64 ((stB 4 X).1 : Int), .int .i64 (tmN (stN ((stB 4 X).2)).1), .int .i64 (tmN (stN ((stN ((stB 4 X).2)).2)).1), .string ((stT ((stN ((stN ((stB 4 X).2)).2)).2)).1), .slice qa ((ats j (stK 40 ((stB 4 ((stT ((stN ((stN ((stB 4 X).2)).2)).2)).2)).2))).1.length) ca] 33 (0, 0)) :: F, ?_, H100⟩
              change FReg _ _ _ _ _ #[true, true, true, true, false, false, false, false] _ _
              refine f_all (rs := [4]) (by kernel_rfl) (by simp) ?_
              refine a_cons ⟨_, rfl, ?_⟩ (fun x hx => absurd hx (by simp))
              intro w101 H102
              try dsimp only at H102
              refine s_buildSlice H102 4 1 (cs := #[.string ((stA ((ats j (stK 40 ((stB 4 ((stT ((stN ((stN ((stB 4 X).2)).2)).2)).2)).2))).2)).1.name.v), .int .i64 ((stA ((ats j (stK 40 ((stB 4 ((stT ((stN ((stN ((stB 4 X).2)).2)).2)).2)).2))).2)).1.kind.v), .int .i64 ((stA ((ats j (stK 40 ((stB 4 ((stT ((stN ((stN ((stB 4 X).2)).2)).2)).2)).2))).2)).1.n.v), .string ((stA ((ats j (stK 40 ((stB 4 ((stT ((stN ((stN ((stB 4 X).2)).2)).2)).2)).2))).2)).1.s.v)]) #[.string ByteArray.empty, .int .i64 0, .int .i64 0, .string ByteArray.empty] el_31 ze_91 (by decide) (by decide) (by kernel_rfl) rfl ?_; intro bk103 w104 H105
              have H106 : St W w104 (blk bk1 (.cells #[.int .i64 0, .int .i64 0, .int .i64 0, .string ByteArray.empty, .slice none 0 0] 33 (0, 0)) :: blk bk103 (.cells #[.string ((stA ((ats j (stK 40 ((stB 4 ((stT ((stN ((stN ((stB 4 X).2)).2)).2)).2)).2))).2)).1.name.v), .int .i64 ((stA ((ats j (stK 40 ((stB 4 ((stT ((stN ((stN ((stB 4 X).2)).2)).2)).2)).2))).2)).1.kind.v), .int .i64 ((stA ((ats j (stK 40 ((stB 4 ((stT ((stN ((stN ((stB 4 X).2)).2)).2)).2)).2))).2)).1.n.v), .string ((stA ((ats j (stK 40 ((stB 4 ((stT ((stN ((stN ((stB 4 X).2)).2)).2)).2)).2))).2)).1.s.v)] 91 (0, 0)) :: blk r (.cells #[.pointer (some ⟨b, 0, none⟩), .int .i64 ((stA ((ats j (stK 40 ((stB 4 ((stT ((stN ((stN ((stB 4 X).2)).2)).2)).2)).2))).2)).2.e)] 126 (0, 0)) :: SrcA b bs q93 :: Row 91 4 (.slice qa ((ats j (stK 40 ((stB 4 ((stT ((stN ((stN ((stB 4 X).2)).2)).2)).2)).2))).1.length) ca) ((ats j (stK 40 ((stB 4 ((stT ((stN ((stN ((stB 4 X).2)).2)).2)).2)).2))).1.length) (((ats j (stK 40 ((stB 4 ((stT ((stN ((stN ((stB 4 X).2)).2)).2)).2)).2))).1).flatMap attrCell) :: blk bk16 (.cells #[.int .i64 ((stB 4 X).1 : Int), .int .i64 (tmN (stN ((stB 4 X).2)).1), .int .i64 (tmN (stN ((stN ((stB 4 X).2)).2)).1), .string ((stT ((stN ((stN ((stB 4 X).2)).2)).2)).1), .slice qa ((ats j (stK 40 ((stB 4 ((stT ((stN ((stN ((stB 4 X).2)).2)).2)).2)).2))).1.length) ca] 33 (0, 0)) :: F) := ((((((H105.move 5 rfl).move 5 rfl).move 5 rfl).move 5 rfl).move 4 rfl).move 5 rfl)
              refine ⟨blk bk103 (.cells #[.string ((stA ((ats j (stK 40 ((stB 4 ((stT ((stN ((stN ((stB 4 X).2)).2)).2)).2)).2))).2)).1.name.v), .int .i64 ((stA ((ats j (stK 40 ((stB 4 ((stT ((stN ((stN ((stB 4 X).2)).2)).2)).2)).2))).2)).1.kind.v), .int .i64 ((stA ((ats j (stK 40 ((stB 4 ((stT ((stN ((stN ((stB 4 X).2)).2)).2)).2)).2))).2)).1.n.v), .string ((stA ((ats j (stK 40 ((stB 4 ((stT ((stN ((stN ((stB 4 X).2)).2)).2)).2)).2))).2)).1.s.v)] 91 (0, 0)) :: blk r (.cells #[.pointer (some ⟨b, 0, none⟩), .int .i64 ((stA ((ats j (stK 40 ((stB 4 ((stT ((stN ((stN ((stB 4 X).2)).2)).2)).2)).2))).2)).2.e)] 126 (0, 0)) :: SrcA b bs q93 :: Row 91 4 (.slice qa ((ats j (stK 40 ((stB 4 ((stT ((stN ((stN ((stB 4 X).2)).2)).2)).2)).2))).1.length) ca) ((ats j (stK 40 ((stB 4 ((stT ((stN ((stN ((stB 4 X).2)).2)).2)).2)).2))).1.length) (((ats j (stK 40 ((stB 4 ((stT ((stN ((stN ((stB 4 X).2)).2)).2)).2)).2))).1).flatMap attrCell) :: blk bk16 (.cells #[.int .i64 ((stB 4 X).1 : Int), .int .i64 (tmN (stN ((stB 4 X).2)).1), .int .i64 (tmN (stN ((stN ((stB 4 X).2)).2)).1), .string ((stT ((stN ((stN ((stB 4 X).2)).2)).2)).1), .slice qa ((ats j (stK 40 ((stB 4 ((stT ((stN ((stN ((stB 4 X).2)).2)).2)).2)).2))).1.length) ca] 33 (0, 0)) :: F, ?_, H106⟩
              change FReg _ _ _ _ _ #[true, true, true, true, true, false, false, false] _ _
              refine f_all (rs := [5]) (by kernel_rfl) (by simp) ?_
              refine a_cons ⟨_, rfl, ?_⟩ (fun x hx => absurd hx (by simp))
              intro w107 H108
              try dsimp only at H108
              refine s_append H108 4 rfl rfl rfl (rd_blk (H108.blk_at (i := 1) rfl) rfl (Nat.le_of_ble_eq_true rfl) (by simp [Value.oneCell'])) ap_31 (by decide) (by unfold maxLen; omega) (by omega) (n' := (ats j (stK 40 ((stB 4 ((stT ((stN ((stN ((stB 4 X).2)).2)).2)).2)).2))).1.length + 1) (xs' := ((ats j (stK 40 ((stB 4 ((stT ((stN ((stN ((stB 4 X).2)).2)).2)).2)).2))).1 ++ [(stA (ats j (stK 40 ((stB 4 ((stT ((stN ((stN ((stB 4 X).2)).2)).2)).2)).2))).2).1]).flatMap attrCell) (by omega) (by rw [List.flatMap_append]; rfl) rfl ?_; intro vv109 w110 H111 hn112
              obtain ⟨pp113, cc114, rfl⟩ := Row.slice H111 (i := 4) rfl
              refine ⟨blk bk103 (.cells #[.string ((stA ((ats j (stK 40 ((stB 4 ((stT ((stN ((stN ((stB 4 X).2)).2)).2)).2)).2))).2)).1.name.v), .int .i64 ((stA ((ats j (stK 40 ((stB 4 ((stT ((stN ((stN ((stB 4 X).2)).2)).2)).2)).2))).2)).1.kind.v), .int .i64 ((stA ((ats j (stK 40 ((stB 4 ((stT ((stN ((stN ((stB 4 X).2)).2)).2)).2)).2))).2)).1.n.v), .string ((stA ((ats j (stK 40 ((stB 4 ((stT ((stN ((stN ((stB 4 X).2)).2)).2)).2)).2))).2)).1.s.v)] 91 (0, 0)) :: blk r (.cells #[.pointer (some ⟨b, 0, none⟩), .int .i64 ((stA ((ats j (stK 40 ((stB 4 ((stT ((stN ((stN ((stB 4 X).2)).2)).2)).2)).2))).2)).2.e)] 126 (0, 0)) :: SrcA b bs q93 :: Row 91 4 (.slice pp113 ((ats j (stK 40 ((stB 4 ((stT ((stN ((stN ((stB 4 X).2)).2)).2)).2)).2))).1.length + 1) cc114) ((ats j (stK 40 ((stB 4 ((stT ((stN ((stN ((stB 4 X).2)).2)).2)).2)).2))).1.length + 1) (((ats j (stK 40 ((stB 4 ((stT ((stN ((stN ((stB 4 X).2)).2)).2)).2)).2))).1 ++ [(stA (ats j (stK 40 ((stB 4 ((stT ((stN ((stN ((stB 4 X).2)).2)).2)).2)).2))).2).1]).flatMap attrCell) :: blk bk16 (.cells #[.int .i64 ((stB 4 X).1 : Int), .int .i64 (tmN (stN ((stB 4 X).2)).1), .int .i64 (tmN (stN ((stN ((stB 4 X).2)).2)).1), .string ((stT ((stN ((stN ((stB 4 X).2)).2)).2)).1), .slice qa ((ats j (stK 40 ((stB 4 ((stT ((stN ((stN ((stB 4 X).2)).2)).2)).2)).2))).1.length) ca] 33 (0, 0)) :: F, ?_, H111⟩
              change FReg _ _ _ _ _ #[true, true, true, true, true, true, false, false] _ _
              refine f_first 6 (listed' := #[true, true, true, true, true, true, true, false]) rfl (by kernel_rfl) (by kernel_rfl) (by kernel_rfl) rfl ?_
              refine f_val rfl rfl rfl (by intro t_ w hw; exact x_fieldAddr 33 3 4 4 31 rfl fi_33_3 rfl w) ?_
              refine f_all (rs := [7]) (by kernel_rfl) (by simp) ?_
              refine a_cons ⟨_, rfl, ?_⟩ (fun x hx => absurd hx (by simp))
              intro w115 H116
              try dsimp only at H116
              refine s_store H116 5 (.slice pp113 ((ats j (stK 40 ((stB 4 ((stT ((stN ((stN ((stB 4 X).2)).2)).2)).2)).2))).1.length + 1) cc114) rfl rfl rfl sz_31 rfl (Nat.le_of_ble_eq_true rfl) rfl (cs' := #[.int .i64 ((stB 4 X).1 : Int), .int .i64 (tmN (stN ((stB 4 X).2)).1), .int .i64 (tmN (stN ((stN ((stB 4 X).2)).2)).1), .string ((stT ((stN ((stN ((stB 4 X).2)).2)).2)).1), .slice pp113 ((ats j (stK 40 ((stB 4 ((stT ((stN ((stN ((stB 4 X).2)).2)).2)).2)).2))).1.length + 1) cc114]) rfl ?_; intro w117 H118
              refine ⟨blk bk103 (.cells #[.string ((stA ((ats j (stK 40 ((stB 4 ((stT ((stN ((stN ((stB 4 X).2)).2)).2)).2)).2))).2)).1.name.v), .int .i64 ((stA ((ats j (stK 40 ((stB 4 ((stT ((stN ((stN ((stB 4 X).2)).2)).2)).2)).2))).2)).1.kind.v), .int .i64 ((stA ((ats j (stK 40 ((stB 4 ((stT ((stN ((stN ((stB 4 X).2)).2)).2)).2)).2))).2)).1.n.v), .string ((stA ((ats j (stK 40 ((stB 4 ((stT ((stN ((stN ((stB 4 X).2)).2)).2)).2)).2))).2)).1.s.v)] 91 (0, 0)) :: blk r (.cells #[.pointer (some ⟨b, 0, none⟩), .int .i64 ((stA ((ats j (stK 40 ((stB 4 ((stT ((stN ((stN ((stB 4 X).2)).2)).2)).2)).2))).2)).2.e)] 126 (0, 0)) :: SrcA b bs q93 :: Row 91 4 (.slice pp113 ((ats j (stK 40 ((stB 4 ((stT ((stN ((stN ((stB 4 X).2)).2)).2)).2)).2))).1.length + 1) cc114) ((ats j (stK 40 ((stB 4 ((stT ((stN ((stN ((stB 4 X).2)).2)).2)).2)).2))).1.length + 1) (((ats j (stK 40 ((stB 4 ((stT ((stN ((stN ((stB 4 X).2)).2)).2)).2)).2))).1 ++ [(stA (ats j (stK 40 ((stB 4 ((stT ((stN ((stN ((stB 4 X).2)).2)).2)).2)).2))).2).1]).flatMap attrCell) :: blk bk16 (.cells #[.int .i64 ((stB 4 X).1 : Int), .int .i64 (tmN (stN ((stB 4 X).2)).1), .int .i64 (tmN (stN ((stN ((stB 4 X).2)).2)).1), .string ((stT ((stN ((stN ((stB 4 X).2)).2)).2)).1), .slice pp113 ((ats j (stK 40 ((stB 4 ((stT ((stN ((stN ((stB 4 X).2)).2)).2)).2)).2))).1.length + 1) cc114] 33 (0, 0)) :: F, ?_, H118⟩
              change FReg _ _ _ _ _ #[true, true, true, true, true, true, true, true] _ _
              refine f_done (by kernel_rfl) ?_
              intro w119 H120
              refine g_inBlock ?_
              refine g_region ?_
              refine r_cons (s_add ((j : Int) + 1) rfl rfl (wi64 (by omega)) rfl ?_)
              refine r_cons (s_move (.int .i64 ((j : Int) + 1)) rfl rfl ?_)
              refine r_nil ?_
              have H121 : St W w119 (Row 91 4 (.slice pp113 ((ats j (stK 40 ((stB 4 ((stT ((stN ((stN ((stB 4 X).2)).2)).2)).2)).2))).1.length + 1) cc114) ((ats j (stK 40 ((stB 4 ((stT ((stN ((stN ((stB 4 X).2)).2)).2)).2)).2))).1.length + 1) (((ats j (stK 40 ((stB 4 ((stT ((stN ((stN ((stB 4 X).2)).2)).2)).2)).2))).1 ++ [(stA (ats j (stK 40 ((stB 4 ((stT ((stN ((stN ((stB 4 X).2)).2)).2)).2)).2))).2).1]).flatMap attrCell) :: blk r (.cells #[.pointer (some ⟨b, 0, none⟩), .int .i64 ((stA ((ats j (stK 40 ((stB 4 ((stT ((stN ((stN ((stB 4 X).2)).2)).2)).2)).2))).2)).2.e)] 126 (0, 0)) :: SrcA b bs q93 :: blk bk16 (.cells #[.int .i64 ((stB 4 X).1 : Int), .int .i64 (tmN (stN ((stB 4 X).2)).1), .int .i64 (tmN (stN ((stN ((stB 4 X).2)).2)).1), .string ((stT ((stN ((stN ((stB 4 X).2)).2)).2)).1), .slice pp113 ((ats j (stK 40 ((stB 4 ((stT ((stN ((stN ((stB 4 X).2)).2)).2)).2)).2))).1.length + 1) cc114] 33 (0, 0)) :: blk bk1 (.cells #[.int .i64 0, .int .i64 0, .int .i64 0, .string ByteArray.empty, .slice none 0 0] 33 (0, 0)) :: F) := (((((H120.move 5 rfl).move 4 rfl).move 4 rfl).move 5 rfl).drop 5 rfl)
              have H122 : St W w119 (Row 91 4 (.slice pp113 ((ats (j + 1) (stK 40 ((stB 4 ((stT ((stN ((stN ((stB 4 X).2)).2)).2)).2)).2))).1.length) cc114) ((ats (j + 1) (stK 40 ((stB 4 ((stT ((stN ((stN ((stB 4 X).2)).2)).2)).2)).2))).1.length) (((ats (j + 1) (stK 40 ((stB 4 ((stT ((stN ((stN ((stB 4 X).2)).2)).2)).2)).2))).1).flatMap attrCell) :: blk r (.cells #[.pointer (some ⟨b, 0, none⟩), .int .i64 ((ats (j + 1) (stK 40 ((stB 4 ((stT ((stN ((stN ((stB 4 X).2)).2)).2)).2)).2))).2.e)] 126 (0, 0)) :: SrcA b bs q93 :: blk bk16 (.cells #[.int .i64 ((stB 4 X).1 : Int), .int .i64 (tmN (stN ((stB 4 X).2)).1), .int .i64 (tmN (stN ((stN ((stB 4 X).2)).2)).1), .string ((stT ((stN ((stN ((stB 4 X).2)).2)).2)).1), .slice pp113 ((ats (j + 1) (stK 40 ((stB 4 ((stT ((stN ((stN ((stB 4 X).2)).2)).2)).2)).2))).1.length) cc114] 33 (0, 0)) :: blk bk1 (.cells #[.int .i64 0, .int .i64 0, .int .i64 0, .string ByteArray.empty, .slice none 0 0] 33 (0, 0)) :: F) := by rw [ats_yes hc55, List.length_append]; exact H121
              exact nx53 (j + 1, q93, pp113, cc114) _ _ ⟨(by omega), (by rw [ats_yes hc55]; exact hR94), hp95, H122⟩ (by first | (dsimp only; omega) | omega) ⟨by first | rfl | exact vint (by omega), by first | rfl | exact vint (by omega), by first | rfl | exact vint (by omega), by first | rfl | exact vint (by omega), by first | rfl | exact vint (by omega), trivial⟩
            · skip
              intro w123 H124
              try dsimp only at H124
              refine s_buildSlice H124 4 1 (cs := #[.string ((stA ((ats j (stK 40 ((stB 4 ((stT ((stN ((stN ((stB 4 X).2)).2)).2)).2)).2))).2)).1.name.v), .int .i64 ((stA ((ats j (stK 40 ((stB 4 ((stT ((stN ((stN ((stB 4 X).2)).2)).2)).2)).2))).2)).1.kind.v), .int .i64 ((stA ((ats j (stK 40 ((stB 4 ((stT ((stN ((stN ((stB 4 X).2)).2)).2)).2)).2))).2)).1.n.v), .string ((stA ((ats j (stK 40 ((stB 4 ((stT ((stN ((stN ((stB 4 X).2)).2)).2)).2)).2))).2)).1.s.v)]) #[.string ByteArray.empty, .int .i64 0, .int .i64 0, .string ByteArray.empty] el_31 ze_91 (by decide) (by decide) (by kernel_rfl) rfl ?_; intro bk125 w126 H127
              have H128 : St W w126 (blk bk1 (.cells #[.int .i64 0, .int .i64 0, .int .i64 0, .string ByteArray.empty, .slice none 0 0] 33 (0, 0)) :: blk bk125 (.cells #[.string ((stA ((ats j (stK 40 ((stB 4 ((stT ((stN ((stN ((stB 4 X).2)).2)).2)).2)).2))).2)).1.name.v), .int .i64 ((stA ((ats j (stK 40 ((stB 4 ((stT ((stN ((stN ((stB 4 X).2)).2)).2)).2)).2))).2)).1.kind.v), .int .i64 ((stA ((ats j (stK 40 ((stB 4 ((stT ((stN ((stN ((stB 4 X).2)).2)).2)).2)).2))).2)).1.n.v), .string ((stA ((ats j (stK 40 ((stB 4 ((stT ((stN ((stN ((stB 4 X).2)).2)).2)).2)).2))).2)).1.s.v)] 91 (0, 0)) :: blk r (.cells #[.pointer (some ⟨b, 0, none⟩), .int .i64 ((stA ((ats j (stK 40 ((stB 4 ((stT ((stN ((stN ((stB 4 X).2)).2)).2)).2)).2))).2)).2.e)] 126 (0, 0)) :: SrcA b bs q93 :: Row 91 4 (.slice qa ((ats j (stK 40 ((stB 4 ((stT ((stN ((stN ((stB 4 X).2)).2)).2)).2)).2))).1.length) ca) ((ats j (stK 40 ((stB 4 ((stT ((stN ((stN ((stB 4 X).2)).2)).2)).2)).2))).1.length) (((ats j (stK 40 ((stB 4 ((stT ((stN ((stN ((stB 4 X).2)).2)).2)).2)).2))).1).flatMap attrCell) :: blk bk16 (.cells #[.int .i64 ((stB 4 X).1 : Int), .int .i64 (tmN (stN ((stB 4 X).2)).1), .int .i64 (tmN (stN ((stN ((stB 4 X).2)).2)).1), .string ((stT ((stN ((stN ((stB 4 X).2)).2)).2)).1), .slice qa ((ats j (stK 40 ((stB 4 ((stT ((stN ((stN ((stB 4 X).2)).2)).2)).2)).2))).1.length) ca] 33 (0, 0)) :: F) := ((((((H127.move 5 rfl).move 5 rfl).move 5 rfl).move 5 rfl).move 4 rfl).move 5 rfl)
              refine ⟨blk bk125 (.cells #[.string ((stA ((ats j (stK 40 ((stB 4 ((stT ((stN ((stN ((stB 4 X).2)).2)).2)).2)).2))).2)).1.name.v), .int .i64 ((stA ((ats j (stK 40 ((stB 4 ((stT ((stN ((stN ((stB 4 X).2)).2)).2)).2)).2))).2)).1.kind.v), .int .i64 ((stA ((ats j (stK 40 ((stB 4 ((stT ((stN ((stN ((stB 4 X).2)).2)).2)).2)).2))).2)).1.n.v), .string ((stA ((ats j (stK 40 ((stB 4 ((stT ((stN ((stN ((stB 4 X).2)).2)).2)).2)).2))).2)).1.s.v)] 91 (0, 0)) :: blk r (.cells #[.pointer (some ⟨b, 0, none⟩), .int .i64 ((stA ((ats j (stK 40 ((stB 4 ((stT ((stN ((stN ((stB 4 X).2)).2)).2)).2)).2))).2)).2.e)] 126 (0, 0)) :: SrcA b bs q93 :: Row 91 4 (.slice qa ((ats j (stK 40 ((stB 4 ((stT ((stN ((stN ((stB 4 X).2)).2)).2)).2)).2))).1.length) ca) ((ats j (stK 40 ((stB 4 ((stT ((stN ((stN ((stB 4 X).2)).2)).2)).2)).2))).1.length) (((ats j (stK 40 ((stB 4 ((stT ((stN ((stN ((stB 4 X).2)).2)).2)).2)).2))).1).flatMap attrCell) :: blk bk16 (.cells #[.int .i64 ((stB 4 X).1 : Int), .int .i64 (tmN (stN ((stB 4 X).2)).1), .int .i64 (tmN (stN ((stN ((stB 4 X).2)).2)).1), .string ((stT ((stN ((stN ((stB 4 X).2)).2)).2)).1), .slice qa ((ats j (stK 40 ((stB 4 ((stT ((stN ((stN ((stB 4 X).2)).2)).2)).2)).2))).1.length) ca] 33 (0, 0)) :: F, ?_, H128⟩
              change FReg _ _ _ _ _ #[true, false, true, true, true, false, false, false] _ _
              refine f_all (rs := [1]) (by kernel_rfl) (by simp) ?_
              refine a_cons ⟨_, rfl, ?_⟩ (fun x hx => absurd hx (by simp))
              intro w129 H130
              try dsimp only at H130
              refine s_load (.slice qa ((ats j (stK 40 ((stB 4 ((stT ((stN ((stN ((stB 4 X).2)).2)).2)).2)).2))).1.length) ca) ag_31 rfl (H130.blk_at (i := 5) rfl) rfl rfl ?_
              refine ⟨blk bk125 (.cells #[.string ((stA ((ats j (stK 40 ((stB 4 ((stT ((stN ((stN ((stB 4 X).2)).2)).2)).2)).2))).2)).1.name.v), .int .i64 ((stA ((ats j (stK 40 ((stB 4 ((stT ((stN ((stN ((stB 4 X).2)).2)).2)).2)).2))).2)).1.kind.v), .int .i64 ((stA ((ats j (stK 40 ((stB 4 ((stT ((stN ((stN ((stB 4 X).2)).2)).2)).2)).2))).2)).1.n.v), .string ((stA ((ats j (stK 40 ((stB 4 ((stT ((stN ((stN ((stB 4 X).2)).2)).2)).2)).2))).2)).1.s.v)] 91 (0, 0)) :: blk r (.cells #[.pointer (some ⟨b, 0, none⟩), .int .i64 ((stA ((ats j (stK 40 ((stB 4 ((stT ((stN ((stN ((stB 4 X).2)).2)).2)).2)).2))).2)).2.e)] 126 (0, 0)) :: SrcA b bs q93 :: Row 91 4 (.slice qa ((ats j (stK 40 ((stB 4 ((stT ((stN ((stN ((stB 4 X).2)).2)).2)).2)).2))).1.length) ca) ((ats j (stK 40 ((stB 4 ((stT ((stN ((stN ((stB 4 X).2)).2)).2)).2)).2))).1.length) (((ats j (stK 40 ((stB 4 ((stT ((stN ((stN ((stB 4 X).2)).2)).2)).2)).2))).1).flatMap attrCell) :: blk bk16 (.cells #[.int .i64 ((stB 4 X).1 : Int), .int .i64 (tmN (stN ((stB 4 X).2)).1), .int .i64 (tmN (stN ((stN ((stB 4 X).2)).2)).1), .string ((stT ((stN ((stN ((stB 4 X).2)).2)).2)).1), .slice qa ((ats j (stK 40 ((stB 4 ((stT ((stN ((stN ((stB 4 X).2)).2)).2)).2)).2))).1.length) ca] 33 (0, 0)) :: F, ?_, H130⟩
              change FReg _ _ _ _ _ #[true, true, true, true, true, false, false, false] _ _
              refine f_all (rs := [5]) (by kernel_rfl) (by simp) ?_
              refine a_cons ⟨_, rfl, ?_⟩ (fun x hx => absurd hx (by simp))
              intro w131 H132
              try dsimp only at H132
              refine s_append H132 4 rfl rfl rfl (rd_blk (H132.blk_at (i := 1) rfl) rfl (Nat.le_of_ble_eq_true rfl) (by simp [Value.oneCell'])) ap_31 (by decide) (by unfold maxLen; omega) (by omega) (n' := (ats j (stK 40 ((stB 4 ((stT ((stN ((stN ((stB 4 X).2)).2)).2)).2)).2))).1.length + 1) (xs' := ((ats j (stK 40 ((stB 4 ((stT ((stN ((stN ((stB 4 X).2)).2)).2)).2)).2))).1 ++ [(stA (ats j (stK 40 ((stB 4 ((stT ((stN ((stN ((stB 4 X).2)).2)).2)).2)).2))).2).1]).flatMap attrCell) (by omega) (by rw [List.flatMap_append]; rfl) rfl ?_; intro vv133 w134 H135 hn136
              obtain ⟨pp137, cc138, rfl⟩ := Row.slice H135 (i := 4) rfl
              refine ⟨blk bk125 (.cells #[.string ((stA ((ats j (stK 40 ((stB 4 ((stT ((stN ((stN ((stB 4 X).2)).2)).2)).2)).2))).2)).1.name.v), .int .i64 ((stA ((ats j (stK 40 ((stB 4 ((stT ((stN ((stN ((stB 4 X).2)).2)).2)).2)).2))).2)).1.kind.v), .int .i64 ((stA ((ats j (stK 40 ((stB 4 ((stT ((stN ((stN ((stB 4 X).2)).2)).2)).2)).2))).2)).1.n.v), .string ((stA ((ats j (stK 40 ((stB 4 ((stT ((stN ((stN ((stB 4 X).2)).2)).2)).2)).2))).2)).1.s.v)] 91 (0, 0)) :: blk r (.cells #[.pointer (some ⟨b, 0, none⟩), .int .i64 ((stA ((ats j (stK 40 ((stB 4 ((stT ((stN ((stN ((stB 4 X).2)).2)).2)).2)).2))).2)).2.e)] 126 (0, 0)) :: SrcA b bs q93 :: Row 91 4 (.slice pp137 ((ats j (stK 40 ((stB 4 ((stT ((stN ((stN ((stB 4 X).2)).2)).2)).2)).2))).1.length + 1) cc138) ((ats j (stK 40 ((stB 4 ((stT ((stN ((stN ((stB 4 X).2)).2)).2)).2)).2))).1.length + 1) (((ats j (stK 40 ((stB 4 ((stT ((stN ((stN ((stB 4 X).2)).2)).2)).2)).2))).1 ++ [(stA (ats j (stK 40 ((stB 4 ((stT ((stN ((stN ((stB 4 X).2)).2)).2)).2)).2))).2).1]).flatMap attrCell) :: blk bk16 (.cells #[.int .i64 ((stB 4 X).1 : Int), .int .i64 (tmN (stN ((stB 4 X).2)).1), .int .i64 (tmN (stN ((stN ((stB 4 X).2)).2)).1), .string ((stT ((stN ((stN ((stB 4 X).2)).2)).2)).1), .slice qa ((ats j (stK 40 ((stB 4 ((stT ((stN ((stN ((stB 4 X).2)).2)).2)).2)).2))).1.length) ca] 33 (0, 0)) :: F, ?_, H135⟩
              change FReg _ _ _ _ _ #[true, true, true, true, true, true, false, false] _ _
              refine f_first 6 (listed' := #[true, true, true, true, true, true, true, false]) rfl (by kernel_rfl) (by kernel_rfl) (by kernel_rfl) rfl ?_
              refine f_val rfl rfl rfl (by intro t_ w hw; exact x_fieldAddr 33 3 4 4 31 rfl fi_33_3 rfl w) ?_
              refine f_all (rs := [7]) (by kernel_rfl) (by simp) ?_
              refine a_cons ⟨_, rfl, ?_⟩ (fun x hx => absurd hx (by simp))
              intro w139 H140
              try dsimp only at H140
              refine s_store H140 5 (.slice pp137 ((ats j (stK 40 ((stB 4 ((stT ((stN ((stN ((stB 4 X).2)).2)).2)).2)).2))).1.length + 1) cc138) rfl rfl rfl sz_31 rfl (Nat.le_of_ble_eq_true rfl) rfl (cs' := #[.int .i64 ((stB 4 X).1 : Int), .int .i64 (tmN (stN ((stB 4 X).2)).1), .int .i64 (tmN (stN ((stN ((stB 4 X).2)).2)).1), .string ((stT ((stN ((stN ((stB 4 X).2)).2)).2)).1), .slice pp137 ((ats j (stK 40 ((stB 4 ((stT ((stN ((stN ((stB 4 X).2)).2)).2)).2)).2))).1.length + 1) cc138]) rfl ?_; intro w141 H142
              refine ⟨blk bk125 (.cells #[.string ((stA ((ats j (stK 40 ((stB 4 ((stT ((stN ((stN ((stB 4 X).2)).2)).2)).2)).2))).2)).1.name.v), .int .i64 ((stA ((ats j (stK 40 ((stB 4 ((stT ((stN ((stN ((stB 4 X).2)).2)).2)).2)).2))).2)).1.kind.v), .int .i64 ((stA ((ats j (stK 40 ((stB 4 ((stT ((stN ((stN ((stB 4 X).2)).2)).2)).2)).2))).2)).1.n.v), .string ((stA ((ats j (stK 40 ((stB 4 ((stT ((stN ((stN ((stB 4 X).2)).2)).2)).2)).2))).2)).1.s.v)] 91 (0, 0)) :: blk r (.cells #[.pointer (some ⟨b, 0, none⟩), .int .i64 ((stA ((ats j (stK 40 ((stB 4 ((stT ((stN ((stN ((stB 4 X).2)).2)).2)).2)).2))).2)).2.e)] 126 (0, 0)) :: SrcA b bs q93 :: Row 91 4 (.slice pp137 ((ats j (stK 40 ((stB 4 ((stT ((stN ((stN ((stB 4 X).2)).2)).2)).2)).2))).1.length + 1) cc138) ((ats j (stK 40 ((stB 4 ((stT ((stN ((stN ((stB 4 X).2)).2)).2)).2)).2))).1.length + 1) (((ats j (stK 40 ((stB 4 ((stT ((stN ((stN ((stB 4 X).2)).2)).2)).2)).2))).1 ++ [(stA (ats j (stK 40 ((stB 4 ((stT ((stN ((stN ((stB 4 X).2)).2)).2)).2)).2))).2).1]).flatMap attrCell) :: blk bk16 (.cells #[.int .i64 ((stB 4 X).1 : Int), .int .i64 (tmN (stN ((stB 4 X).2)).1), .int .i64 (tmN (stN ((stN ((stB 4 X).2)).2)).1), .string ((stT ((stN ((stN ((stB 4 X).2)).2)).2)).1), .slice pp137 ((ats j (stK 40 ((stB 4 ((stT ((stN ((stN ((stB 4 X).2)).2)).2)).2)).2))).1.length + 1) cc138] 33 (0, 0)) :: F, ?_, H142⟩
              change FReg _ _ _ _ _ #[true, true, true, true, true, true, true, true] _ _
              refine f_done (by kernel_rfl) ?_
              intro w143 H144
              refine g_inBlock ?_
              refine g_region ?_
              refine r_cons (s_add ((j : Int) + 1) rfl rfl (wi64 (by omega)) rfl ?_)
              refine r_cons (s_move (.int .i64 ((j : Int) + 1)) rfl rfl ?_)
              refine r_nil ?_
              have H145 : St W w143 (Row 91 4 (.slice pp137 ((ats j (stK 40 ((stB 4 ((stT ((stN ((stN ((stB 4 X).2)).2)).2)).2)).2))).1.length + 1) cc138) ((ats j (stK 40 ((stB 4 ((stT ((stN ((stN ((stB 4 X).2)).2)).2)).2)).2))).1.length + 1) (((ats j (stK 40 ((stB 4 ((stT ((stN ((stN ((stB 4 X).2)).2)).2)).2)).2))).1 ++ [(stA (ats j (stK 40 ((stB 4 ((stT ((stN ((stN ((stB 4 X).2)).2)).2)).2)).2))).2).1]).flatMap attrCell) :: blk r (.cells #[.pointer (some ⟨b, 0, none⟩), .int .i64 ((stA ((ats j (stK 40 ((stB 4 ((stT ((stN ((stN ((stB 4 X).2)).2)).2)).2)).2))).2)).2.e)] 126 (0, 0)) :: SrcA b bs q93 :: blk bk16 (.cells #[.int .i64 ((stB 4 X).1 : Int), .int .i64 (tmN (stN ((stB 4 X).2)).1), .int .i64 (tmN (stN ((stN ((stB 4 X).2)).2)).1), .string ((stT ((stN ((stN ((stB 4 X).2)).2)).2)).1), .slice pp137 ((ats j (stK 40 ((stB 4 ((stT ((stN ((stN ((stB 4 X).2)).2)).2)).2)).2))).1.length + 1) cc138] 33 (0, 0)) :: blk bk1 (.cells #[.int .i64 0, .int .i64 0, .int .i64 0, .string ByteArray.empty, .slice none 0 0] 33 (0, 0)) :: F) := (((((H144.move 5 rfl).move 4 rfl).move 4 rfl).move 5 rfl).drop 5 rfl)
              have H146 : St W w143 (Row 91 4 (.slice pp137 ((ats (j + 1) (stK 40 ((stB 4 ((stT ((stN ((stN ((stB 4 X).2)).2)).2)).2)).2))).1.length) cc138) ((ats (j + 1) (stK 40 ((stB 4 ((stT ((stN ((stN ((stB 4 X).2)).2)).2)).2)).2))).1.length) (((ats (j + 1) (stK 40 ((stB 4 ((stT ((stN ((stN ((stB 4 X).2)).2)).2)).2)).2))).1).flatMap attrCell) :: blk r (.cells #[.pointer (some ⟨b, 0, none⟩), .int .i64 ((ats (j + 1) (stK 40 ((stB 4 ((stT ((stN ((stN ((stB 4 X).2)).2)).2)).2)).2))).2.e)] 126 (0, 0)) :: SrcA b bs q93 :: blk bk16 (.cells #[.int .i64 ((stB 4 X).1 : Int), .int .i64 (tmN (stN ((stB 4 X).2)).1), .int .i64 (tmN (stN ((stN ((stB 4 X).2)).2)).1), .string ((stT ((stN ((stN ((stB 4 X).2)).2)).2)).1), .slice pp137 ((ats (j + 1) (stK 40 ((stB 4 ((stT ((stN ((stN ((stB 4 X).2)).2)).2)).2)).2))).1.length) cc138] 33 (0, 0)) :: blk bk1 (.cells #[.int .i64 0, .int .i64 0, .int .i64 0, .string ByteArray.empty, .slice none 0 0] 33 (0, 0)) :: F) := by rw [ats_yes hc55, List.length_append]; exact H145
              exact nx53 (j + 1, q93, pp137, cc138) _ _ ⟨(by omega), (by rw [ats_yes hc55]; exact hR94), hp95, H146⟩ (by first | (dsimp only; omega) | omega) ⟨by first | rfl | exact vint (by omega), by first | rfl | exact vint (by omega), by first | rfl | exact vint (by omega), by first | rfl | exact vint (by omega), by first | rfl | exact vint (by omega), trivial⟩
        · skip
          refine r_cons (s_neq true rfl rfl (nfalse hc55) rfl ?_)
          refine r_nil ?_
          refine g_true rfl ?_
          refine g_exit (by rfl) ?_
          refine g_seq ?_
          refine g_seq ?_
          refine g_region ?_
          refine r_cons (s_move (.pointer (some ⟨r, 0, none⟩)) rfl rfl ?_)
          refine r_cons (s_nilCheck (.pointer (some ⟨r, 0, none⟩)) rfl ⟨_, rfl⟩ rfl ?_)
          refine r_cons (s_fieldAddr 126 1 1 1 24 rfl fi_126_1 rfl rfl ?_)
          refine r_cons (s_load (.int .i64 ((ats j (stK 40 ((stB 4 ((stT ((stN ((stN ((stB 4 X).2)).2)).2)).2)).2))).2.e)) ag_24 rfl (H52.blk_at (i := 1) rfl) rfl rfl ?_)
          refine r_cons (s_eql false rfl rfl (dfalse (by omega)) rfl ?_)
          refine r_nil ?_
          refine g_false rfl ?_
          refine g_skip ?_
          refine g_seq ?_
          refine g_region ?_
          refine r_cons (s_loadAgg [.int .i64 ((stB 4 X).1 : Int), .int .i64 (tmN (stN ((stB 4 X).2)).1), .int .i64 (tmN (stN ((stN ((stB 4 X).2)).2)).1), .string ((stT ((stN ((stN ((stB 4 X).2)).2)).2)).1), .slice qa ((ats j (stK 40 ((stB 4 ((stT ((stN ((stN ((stB 4 X).2)).2)).2)).2)).2))).1.length) ca] 5 ag_33 rfl (H52.blk_at (i := 3) rfl) (Nat.le_of_ble_eq_true rfl) rfl rfl ?_)
          refine r_cons (s_storeAgg H52 4 #[.int .i64 ((stB 4 X).1 : Int), .int .i64 (tmN (stN ((stB 4 X).2)).1), .int .i64 (tmN (stN ((stN ((stB 4 X).2)).2)).1), .string ((stT ((stN ((stN ((stB 4 X).2)).2)).2)).1), .slice qa ((ats j (stK 40 ((stB 4 ((stT ((stN ((stN ((stB 4 X).2)).2)).2)).2)).2))).1.length) ca] 5 rfl rfl rfl sz_33 rfl (by simp [Value.oneCell']) (Nat.le_of_ble_eq_true rfl) (fun o h1 h2 => by first | (simp; done) | (simp; omega)) (cs' := #[.int .i64 ((stB 4 X).1 : Int), .int .i64 (tmN (stN ((stB 4 X).2)).1), .int .i64 (tmN (stN ((stN ((stB 4 X).2)).2)).1), .string ((stT ((stN ((stN ((stB 4 X).2)).2)).2)).1), .slice qa ((ats j (stK 40 ((stB 4 ((stT ((stN ((stN ((stB 4 X).2)).2)).2)).2)).2))).1.length) ca]) rfl ?_); intro w147 H148
          refine r_nil ?_
          refine g_ret' [.agg #[.int .i64 ((stB 4 X).1 : Int), .int .i64 (tmN (stN ((stB 4 X).2)).1), .int .i64 (tmN (stN ((stN ((stB 4 X).2)).2)).1), .string ((stT ((stN ((stN ((stB 4 X).2)).2)).2)).1), .slice qa ((ats j (stK 40 ((stB 4 ((stT ((stN ((stN ((stB 4 X).2)).2)).2)).2)).2))).1.length) ca]] Try.func84 Try.results84 ⟨(res_cellN rfl ag_33 (H148.blk_at (i := 4) rfl) (Nat.le_of_ble_eq_true rfl) rfl), trivial⟩ ?_
          have H149 : St W w147 (blk r (.cells #[.pointer (some ⟨b, 0, none⟩), .int .i64 ((ats j (stK 40 ((stB 4 ((stT ((stN ((stN ((stB 4 X).2)).2)).2)).2)).2))).2.e)] 126 (0, 0)) :: SrcA b bs pj :: F) := (((((H148.move 2 rfl).move 2 rfl).drop 2 rfl).drop 2 rfl).drop 2 rfl)
          have hv7 : (v7 X).e = (ats j (stK 40 ((stB 4 ((stT ((stN ((stN ((stB 4 X).2)).2)).2)).2)).2))).2.e := by have hh := v7_at (X := X) (j := j) hjn (by rw [h6]; exact hc55); rw [h6] at hh; exact hh
          have hC : evC tmN X = (ats j (stK 40 ((stB 4 ((stT ((stN ((stN ((stB 4 X).2)).2)).2)).2)).2))).2.e := by rw [evC_no (by rw [hv7]; exact hc55), hv7]
          exact .inr ⟨by rw [hC]; exact hc55, _, _, _, _, _, _, _, pj, rfl, by rw [hC]; exact H149⟩
      · skip
        refine r_cons (s_lss false rfl rfl (dfalse hc54) rfl ?_)
        refine r_nil ?_
        refine g_seq ?_
        refine g_false rfl ?_
        refine g_exit (by rfl) ?_
        refine g_seq ?_
        refine g_seq ?_
        refine g_region ?_
        refine r_cons (s_move (.pointer (some ⟨r, 0, none⟩)) rfl rfl ?_)
        refine r_cons (s_nilCheck (.pointer (some ⟨r, 0, none⟩)) rfl ⟨_, rfl⟩ rfl ?_)
        refine r_cons (s_fieldAddr 126 1 1 1 24 rfl fi_126_1 rfl rfl ?_)
        refine r_cons (s_load (.int .i64 ((ats j (stK 40 ((stB 4 ((stT ((stN ((stN ((stB 4 X).2)).2)).2)).2)).2))).2.e)) ag_24 rfl (H52.blk_at (i := 1) rfl) rfl rfl ?_)
        by_cases hc150 : (ats j (stK 40 ((stB 4 ((stT ((stN ((stN ((stB 4 X).2)).2)).2)).2)).2))).2.e = 0
        · skip
          refine r_cons (s_eql true rfl rfl (dtrue hc150) rfl ?_)
          refine r_nil ?_
          refine g_true rfl ?_
          refine g_region ?_
          refine r_cons (s_move (.pointer (some ⟨r, 0, none⟩)) rfl rfl ?_)
          have hL : (ats j (stK 40 ((stB 4 ((stT ((stN ((stN ((stB 4 X).2)).2)).2)).2)).2))) = ats (vn X) (v6 X) := by rw [h6, show j = vn X from (by omega : j = (stB 4 ((stT ((stN ((stN ((stB 4 X).2)).2)).2)).2)).1)]
          have hat : (evS tmN X).attrs = (ats j (stK 40 ((stB 4 ((stT ((stN ((stN ((stB 4 X).2)).2)).2)).2)).2))).1 := by rw [hL]; rfl
          have H151 : St W w51 (Row 91 4 (.slice qa ((evS tmN X).attrs.length) ca) ((evS tmN X).attrs.length) (((evS tmN X).attrs).flatMap attrCell) :: blk r (.cells #[.pointer (some ⟨b, 0, none⟩), .int .i64 ((ats j (stK 40 ((stB 4 ((stT ((stN ((stN ((stB 4 X).2)).2)).2)).2)).2))).2.e)] 126 (0, 0)) :: SrcA b bs pj :: blk bk16 (.cells #[.int .i64 ((evS tmN X).src.v), .int .i64 ((evS tmN X).seq.v), .int .i64 ((evS tmN X).time.v), .string ((evS tmN X).typ.v), .slice qa ((evS tmN X).attrs.length) ca] 33 (0, 0)) :: blk bk1 (.cells #[.int .i64 0, .int .i64 0, .int .i64 0, .string ByteArray.empty, .slice none 0 0] 33 (0, 0)) :: F) := by rw [evS_src, evS_seq tm_ok, evS_time tm_ok, evS_typ hxl, hat]; exact H52
          have H152 : St W w51 (Attrs (.slice qa ((evS tmN X).attrs.length) ca) ((evS tmN X).attrs) :: blk r (.cells #[.pointer (some ⟨b, 0, none⟩), .int .i64 ((ats j (stK 40 ((stB 4 ((stT ((stN ((stN ((stB 4 X).2)).2)).2)).2)).2))).2.e)] 126 (0, 0)) :: SrcA b bs pj :: blk bk16 (.cells #[.int .i64 ((evS tmN X).src.v), .int .i64 ((evS tmN X).seq.v), .int .i64 ((evS tmN X).time.v), .string ((evS tmN X).typ.v), .slice qa ((evS tmN X).attrs.length) ca] 33 (0, 0)) :: blk bk1 (.cells #[.int .i64 0, .int .i64 0, .int .i64 0, .string ByteArray.empty, .slice none 0 0] 33 (0, 0)) :: F) := Row.im H151 (i := 0) rfl
          refine r_cons (s_loadAgg [.int .i64 ((evS tmN X).src.v), .int .i64 ((evS tmN X).seq.v), .int .i64 ((evS tmN X).time.v), .string ((evS tmN X).typ.v), .slice qa ((evS tmN X).attrs.length) ca] 5 ag_33 rfl (H152.blk_at (i := 3) rfl) (Nat.le_of_ble_eq_true rfl) rfl rfl ?_)
          refine r_cons (s_call [.agg #[.int .i64 ((evS tmN X).src.v), .int .i64 ((evS tmN X).seq.v), .int .i64 ((evS tmN X).time.v), .string ((evS tmN X).typ.v), .slice qa ((evS tmN X).attrs.length) ca]] pl_17 rfl rfl (event_Check (evS tmN X) (.slice qa ((evS tmN X).attrs.length) ca) (j := 0) rfl H152) ?_)
          rintro _ w153 ⟨rfl, H154⟩
          refine r_cons (s_nilCheck (.pointer (some ⟨r, 0, none⟩)) rfl ⟨_, rfl⟩ rfl ?_)
          refine r_cons (s_fieldAddr 126 1 1 1 24 rfl fi_126_1 rfl rfl ?_)
          refine r_cons (s_store H154 1 (.int .i64 (evE (evS tmN X))) rfl rfl rfl sz_24 rfl (Nat.le_of_ble_eq_true rfl) rfl (cs' := #[.pointer (some ⟨b, 0, none⟩), .int .i64 (evE (evS tmN X))]) rfl ?_); intro w155 H156
          refine r_nil ?_
          refine g_seq ?_
          refine g_region ?_
          refine r_cons (s_loadAgg [.int .i64 ((evS tmN X).src.v), .int .i64 ((evS tmN X).seq.v), .int .i64 ((evS tmN X).time.v), .string ((evS tmN X).typ.v), .slice qa ((evS tmN X).attrs.length) ca] 5 ag_33 rfl (H156.blk_at (i := 3) rfl) (Nat.le_of_ble_eq_true rfl) rfl rfl ?_)
          refine r_cons (s_storeAgg H156 4 #[.int .i64 ((evS tmN X).src.v), .int .i64 ((evS tmN X).seq.v), .int .i64 ((evS tmN X).time.v), .string ((evS tmN X).typ.v), .slice qa ((evS tmN X).attrs.length) ca] 5 rfl rfl rfl sz_33 rfl (by simp [Value.oneCell']) (Nat.le_of_ble_eq_true rfl) (fun o h1 h2 => by first | (simp; done) | (simp; omega)) (cs' := #[.int .i64 ((evS tmN X).src.v), .int .i64 ((evS tmN X).seq.v), .int .i64 ((evS tmN X).time.v), .string ((evS tmN X).typ.v), .slice qa ((evS tmN X).attrs.length) ca]) rfl ?_); intro w157 H158
          refine r_nil ?_
          refine g_ret' [.agg #[.int .i64 ((evS tmN X).src.v), .int .i64 ((evS tmN X).seq.v), .int .i64 ((evS tmN X).time.v), .string ((evS tmN X).typ.v), .slice qa ((evS tmN X).attrs.length) ca]] Try.func84 Try.results84 ⟨(res_cellN rfl ag_33 (H158.blk_at (i := 4) rfl) (Nat.le_of_ble_eq_true rfl) rfl), trivial⟩ ?_
          have H159 : St W w157 (Attrs (.slice qa ((evS tmN X).attrs.length) ca) ((evS tmN X).attrs) :: blk r (.cells #[.pointer (some ⟨b, 0, none⟩), .int .i64 (evE (evS tmN X))] 126 (0, 0)) :: SrcA b bs pj :: F) := (((((H158.move 2 rfl).move 2 rfl).move 2 rfl).drop 3 rfl).drop 3 rfl)
          have h70 : (v7 X).e = 0 := by show (ats (vn X) (v6 X)).2.e = 0; rw [← hL]; exact hc150
          have hC : evC tmN X = evE (evS tmN X) := evC_yes h70
          rcases Decidable.em (evC tmN X = 0) with h0 | h0
          · exact .inl ⟨h0, _, _, pj, rfl, by show _ = (ats (vn X) (v6 X)).2.R; rw [← hL]; exact hRj, hpj, by have hx := H159; rw [← hC, h0] at hx; exact hx⟩
          · exact .inr ⟨h0, _, _, _, _, _, _, _, pj, rfl, by rw [hC]; exact H159.drop 0 rfl⟩
        · skip
          refine r_cons (s_eql false rfl rfl (dfalse hc150) rfl ?_)
          refine r_nil ?_
          refine g_false rfl ?_
          refine g_skip ?_
          refine g_seq ?_
          refine g_region ?_
          refine r_cons (s_loadAgg [.int .i64 ((stB 4 X).1 : Int), .int .i64 (tmN (stN ((stB 4 X).2)).1), .int .i64 (tmN (stN ((stN ((stB 4 X).2)).2)).1), .string ((stT ((stN ((stN ((stB 4 X).2)).2)).2)).1), .slice qa ((ats j (stK 40 ((stB 4 ((stT ((stN ((stN ((stB 4 X).2)).2)).2)).2)).2))).1.length) ca] 5 ag_33 rfl (H52.blk_at (i := 3) rfl) (Nat.le_of_ble_eq_true rfl) rfl rfl ?_)
          refine r_cons (s_storeAgg H52 4 #[.int .i64 ((stB 4 X).1 : Int), .int .i64 (tmN (stN ((stB 4 X).2)).1), .int .i64 (tmN (stN ((stN ((stB 4 X).2)).2)).1), .string ((stT ((stN ((stN ((stB 4 X).2)).2)).2)).1), .slice qa ((ats j (stK 40 ((stB 4 ((stT ((stN ((stN ((stB 4 X).2)).2)).2)).2)).2))).1.length) ca] 5 rfl rfl rfl sz_33 rfl (by simp [Value.oneCell']) (Nat.le_of_ble_eq_true rfl) (fun o h1 h2 => by first | (simp; done) | (simp; omega)) (cs' := #[.int .i64 ((stB 4 X).1 : Int), .int .i64 (tmN (stN ((stB 4 X).2)).1), .int .i64 (tmN (stN ((stN ((stB 4 X).2)).2)).1), .string ((stT ((stN ((stN ((stB 4 X).2)).2)).2)).1), .slice qa ((ats j (stK 40 ((stB 4 ((stT ((stN ((stN ((stB 4 X).2)).2)).2)).2)).2))).1.length) ca]) rfl ?_); intro w160 H161
          refine r_nil ?_
          refine g_ret' [.agg #[.int .i64 ((stB 4 X).1 : Int), .int .i64 (tmN (stN ((stB 4 X).2)).1), .int .i64 (tmN (stN ((stN ((stB 4 X).2)).2)).1), .string ((stT ((stN ((stN ((stB 4 X).2)).2)).2)).1), .slice qa ((ats j (stK 40 ((stB 4 ((stT ((stN ((stN ((stB 4 X).2)).2)).2)).2)).2))).1.length) ca]] Try.func84 Try.results84 ⟨(res_cellN rfl ag_33 (H161.blk_at (i := 4) rfl) (Nat.le_of_ble_eq_true rfl) rfl), trivial⟩ ?_
          have H162 : St W w160 (blk r (.cells #[.pointer (some ⟨b, 0, none⟩), .int .i64 ((ats j (stK 40 ((stB 4 ((stT ((stN ((stN ((stB 4 X).2)).2)).2)).2)).2))).2.e)] 126 (0, 0)) :: SrcA b bs pj :: F) := (((((H161.move 2 rfl).move 2 rfl).drop 2 rfl).drop 2 rfl).drop 2 rfl)
          have hv7 : (v7 X).e = (ats j (stK 40 ((stB 4 ((stT ((stN ((stN ((stB 4 X).2)).2)).2)).2)).2))).2.e := by have hh := v7_at (X := X) (j := j) hjn (by rw [h6]; exact hc150); rw [h6] at hh; exact hh
          have hC : evC tmN X = (ats j (stK 40 ((stB 4 ((stT ((stN ((stN ((stB 4 X).2)).2)).2)).2)).2))).2.e := by rw [evC_no (by rw [hv7]; exact hc150), hv7]
          exact .inr ⟨by rw [hC]; exact hc150, _, _, _, _, _, _, _, pj, rfl, by rw [hC]; exact H162⟩
  · skip
    refine r_cons (s_gtr false rfl rfl (dfalse hc43) rfl ?_)
    refine r_nil ?_
    refine g_false rfl ?_
    refine g_skip ?_
    refine g_seq ?_
    refine g_seq ?_
    refine g_region ?_
    refine r_cons (s_move (.int .i64 ((stB 4 ((stT ((stN ((stN ((stB 4 X).2)).2)).2)).2)).1 : Int)) rfl rfl ?_)
    refine r_cons (s_move (.int .i64 0) rfl rfl ?_)
    refine r_nil ?_
    refine g_block ?_
    have H163 : St W w41 (blk r (.cells #[.pointer (some ⟨b, 0, none⟩), .int .i64 ((stB 4 ((stT ((stN ((stN ((stB 4 X).2)).2)).2)).2)).2.e)] 126 (0, 0)) :: SrcA b bs q38 :: blk bk16 (.cells #[.int .i64 ((stB 4 X).1 : Int), .int .i64 (tmN (stN ((stB 4 X).2)).1), .int .i64 (tmN (stN ((stN ((stB 4 X).2)).2)).1), .string ((stT ((stN ((stN ((stB 4 X).2)).2)).2)).1), .slice none 0 0] 33 (0, 0)) :: blk bk1 (.cells #[.int .i64 0, .int .i64 0, .int .i64 0, .string ByteArray.empty, .slice none 0 0] 33 (0, 0)) :: F) := ((((H42.move 3 rfl).move 3 rfl).move 3 rfl).move 3 rfl)
    have h6 : v6 X = (stB 4 ((stT ((stN ((stN ((stB 4 X).2)).2)).2)).2)).2 := by
      have hh : ¬ 8 < (stB 4 ((stT ((stN ((stN ((stB 4 X).2)).2)).2)).2)).1 := by omega
      show (if 8 < vn X then stK 40 (v5 X) else v5 X) = _
      exact if_neg hh
    have H164 := Row.nil_intro H163 91 4
    have H165 : St W w41 (Row 91 4 (.slice none 0 0) 0 [] :: blk r (.cells #[.pointer (some ⟨b, 0, none⟩), .int .i64 ((stB 4 ((stT ((stN ((stN ((stB 4 X).2)).2)).2)).2)).2.e)] 126 (0, 0)) :: SrcA b bs q38 :: blk bk16 (.cells #[.int .i64 ((stB 4 X).1 : Int), .int .i64 (tmN (stN ((stB 4 X).2)).1), .int .i64 (tmN (stN ((stN ((stB 4 X).2)).2)).1), .string ((stT ((stN ((stN ((stB 4 X).2)).2)).2)).1), .slice none 0 0] 33 (0, 0)) :: blk bk1 (.cells #[.int .i64 0, .int .i64 0, .int .i64 0, .string ByteArray.empty, .slice none 0 0] 33 (0, 0)) :: F) := (((((H164.move 4 rfl).move 4 rfl).move 4 rfl).move 4 rfl).move 4 rfl)
    refine g_loop_inv (fun (x_ : Nat × Nat × (Option Addr) × Nat) => match x_ with | (j, pj, qa, ca) => [(0, .pointer (some ⟨r, 0, none⟩)), (2, .pointer (some ⟨bk1, 0, none⟩)), (3, .pointer (some ⟨bk16, 0, none⟩)), (23, .int .i64 ((stB 4 ((stT ((stN ((stN ((stB 4 X).2)).2)).2)).2)).1 : Int)), (24, .int .i64 (j : Int))]) (fun (x_ : Nat × Nat × (Option Addr) × Nat) w => match x_ with | (j, pj, qa, ca) => (j ≤ (stB 4 ((stT ((stN ((stN ((stB 4 X).2)).2)).2)).2)).1) ∧ (remB bs pj = (ats j ((stB 4 ((stT ((stN ((stN ((stB 4 X).2)).2)).2)).2)).2)).2.R) ∧ (pj ≤ 8 * bs.length) ∧ St W w (Row 91 4 (.slice qa ((ats j ((stB 4 ((stT ((stN ((stN ((stB 4 X).2)).2)).2)).2)).2)).1.length) ca) ((ats j ((stB 4 ((stT ((stN ((stN ((stB 4 X).2)).2)).2)).2)).2)).1.length) (((ats j ((stB 4 ((stT ((stN ((stN ((stB 4 X).2)).2)).2)).2)).2)).1).flatMap attrCell) :: blk r (.cells #[.pointer (some ⟨b, 0, none⟩), .int .i64 ((ats j ((stB 4 ((stT ((stN ((stN ((stB 4 X).2)).2)).2)).2)).2)).2.e)] 126 (0, 0)) :: SrcA b bs pj :: blk bk16 (.cells #[.int .i64 ((stB 4 X).1 : Int), .int .i64 (tmN (stN ((stB 4 X).2)).1), .int .i64 (tmN (stN ((stN ((stB 4 X).2)).2)).1), .string ((stT ((stN ((stN ((stB 4 X).2)).2)).2)).1), .slice qa ((ats j ((stB 4 ((stT ((stN ((stN ((stB 4 X).2)).2)).2)).2)).2)).1.length) ca] 33 (0, 0)) :: blk bk1 (.cells #[.int .i64 0, .int .i64 0, .int .i64 0, .string ByteArray.empty, .slice none 0 0] 33 (0, 0)) :: F)) (fun (x_ : Nat × Nat × (Option Addr) × Nat) => match x_ with | (j, pj, qa, ca) => (stB 4 ((stT ((stN ((stN ((stB 4 X).2)).2)).2)).2)).1 - j) (0, q38, none, 0) ?_ ?_ ?_
    · exact ⟨by first | rfl | exact vint (by omega), by first | rfl | exact vint (by omega), by first | rfl | exact vint (by omega), by first | rfl | exact vint (by omega), by first | rfl | exact vint (by omega), trivial⟩
    · exact ⟨(by omega), hR39, hp40, H165⟩
    · rintro ⟨j, pj, qa, ca⟩ ρ166 w167 ⟨hjn, hRj, hpj, H168⟩ nx169
      change Ends _ _ (upds ρ166 [(0, .pointer (some ⟨r, 0, none⟩)), (2, .pointer (some ⟨bk1, 0, none⟩)), (3, .pointer (some ⟨bk16, 0, none⟩)), (23, .int .i64 ((stB 4 ((stT ((stN ((stN ((stB 4 X).2)).2)).2)).2)).1 : Int)), (24, .int .i64 (j : Int))]) w167
      have hln := ats_le (X := (stB 4 ((stT ((stN ((stN ((stB 4 X).2)).2)).2)).2)).2) j
      have hvn : (stB 4 ((stT ((stN ((stN ((stB 4 X).2)).2)).2)).2)).1 < 16 := stB_lt (k := 4)
      refine g_seq ?_
      refine g_region ?_
      by_cases hc170 : (j : Int) < ((stB 4 ((stT ((stN ((stN ((stB 4 X).2)).2)).2)).2)).1 : Int)
      · skip
        refine r_cons (s_lss true rfl rfl (dtrue hc170) rfl ?_)
        refine r_nil ?_
        refine g_seq ?_
        refine g_true rfl ?_
        refine g_skip ?_
        refine g_seq ?_
        refine g_block ?_
        refine g_seq ?_
        refine g_seq ?_
        refine g_region ?_
        refine r_cons (s_move (.pointer (some ⟨r, 0, none⟩)) rfl rfl ?_)
        refine r_cons (s_nilCheck (.pointer (some ⟨r, 0, none⟩)) rfl ⟨_, rfl⟩ rfl ?_)
        refine r_cons (s_fieldAddr 126 1 1 1 24 rfl fi_126_1 rfl rfl ?_)
        refine r_cons (s_load (.int .i64 ((ats j ((stB 4 ((stT ((stN ((stN ((stB 4 X).2)).2)).2)).2)).2)).2.e)) ag_24 rfl (H168.blk_at (i := 1) rfl) rfl rfl ?_)
        by_cases hc171 : (ats j ((stB 4 ((stT ((stN ((stN ((stB 4 X).2)).2)).2)).2)).2)).2.e = 0
        · skip
          refine r_cons (s_neq false rfl rfl (ntrue hc171) rfl ?_)
          refine r_nil ?_
          refine g_false rfl ?_
          refine g_skip ?_
          have H172 : St W w167 (blk bk1 (.cells #[.int .i64 0, .int .i64 0, .int .i64 0, .string ByteArray.empty, .slice none 0 0] 33 (0, 0)) :: Row 91 4 (.slice qa ((ats j ((stB 4 ((stT ((stN ((stN ((stB 4 X).2)).2)).2)).2)).2)).1.length) ca) ((ats j ((stB 4 ((stT ((stN ((stN ((stB 4 X).2)).2)).2)).2)).2)).1.length) (((ats j ((stB 4 ((stT ((stN ((stN ((stB 4 X).2)).2)).2)).2)).2)).1).flatMap attrCell) :: blk r (.cells #[.pointer (some ⟨b, 0, none⟩), .int .i64 ((ats j ((stB 4 ((stT ((stN ((stN ((stB 4 X).2)).2)).2)).2)).2)).2.e)] 126 (0, 0)) :: SrcA b bs pj :: blk bk16 (.cells #[.int .i64 ((stB 4 X).1 : Int), .int .i64 (tmN (stN ((stB 4 X).2)).1), .int .i64 (tmN (stN ((stN ((stB 4 X).2)).2)).1), .string ((stT ((stN ((stN ((stB 4 X).2)).2)).2)).1), .slice qa ((ats j ((stB 4 ((stT ((stN ((stN ((stB 4 X).2)).2)).2)).2)).2)).1.length) ca] 33 (0, 0)) :: F) := (((((H168.move 3 rfl).move 3 rfl).move 3 rfl).move 3 rfl).move 4 rfl)
          refine g_mix (fun t_ w => St W w (blk bk1 (.cells #[.int .i64 0, .int .i64 0, .int .i64 0, .string ByteArray.empty, .slice none 0 0] 33 (0, 0)) :: t_)) (Row 91 4 (.slice qa ((ats j ((stB 4 ((stT ((stN ((stN ((stB 4 X).2)).2)).2)).2)).2)).1.length) ca) ((ats j ((stB 4 ((stT ((stN ((stN ((stB 4 X).2)).2)).2)).2)).2)).1.length) (((ats j ((stB 4 ((stT ((stN ((stN ((stB 4 X).2)).2)).2)).2)).2)).1).flatMap attrCell) :: blk r (.cells #[.pointer (some ⟨b, 0, none⟩), .int .i64 ((ats j ((stB 4 ((stT ((stN ((stN ((stB 4 X).2)).2)).2)).2)).2)).2.e)] 126 (0, 0)) :: SrcA b bs pj :: blk bk16 (.cells #[.int .i64 ((stB 4 X).1 : Int), .int .i64 (tmN (stN ((stB 4 X).2)).1), .int .i64 (tmN (stN ((stN ((stB 4 X).2)).2)).1), .string ((stT ((stN ((stN ((stB 4 X).2)).2)).2)).1), .slice qa ((ats j ((stB 4 ((stT ((stN ((stN ((stB 4 X).2)).2)).2)).2)).2)).1.length) ca] 33 (0, 0)) :: F) mixed 8 rfl H172.drew ?_
          refine f_first 0 (listed' := #[true, false, false, false, false, false, false, false]) rfl (by kernel_rfl) (by kernel_rfl) (by kernel_rfl) rfl ?_
          refine f_val rfl rfl rfl (by intro t_ w hw; exact x_fieldAddr 33 3 4 4 31 rfl fi_33_3 rfl w) ?_
          refine f_first 2 (listed' := #[true, false, true, false, false, false, false, false]) rfl (by kernel_rfl) (by kernel_rfl) (by kernel_rfl) rfl ?_
          refine f_val rfl rfl rfl (by intro t_ w hw; exact x_move (.pointer (some ⟨r, 0, none⟩)) rfl w) ?_
          refine f_all (rs := [1, 3]) (by kernel_rfl) (by simp) ?_
          refine a_cons ⟨_, rfl, ?_⟩ (a_cons ⟨_, rfl, ?_⟩ (fun x hx => absurd hx (by simp)))
          · skip
            intro w173 H174
            try dsimp only at H174
            refine s_load (.slice qa ((ats j ((stB 4 ((stT ((stN ((stN ((stB 4 X).2)).2)).2)).2)).2)).1.length) ca) ag_31 rfl (H174.blk_at (i := 4) rfl) rfl rfl ?_
            refine ⟨Row 91 4 (.slice qa ((ats j ((stB 4 ((stT ((stN ((stN ((stB 4 X).2)).2)).2)).2)).2)).1.length) ca) ((ats j ((stB 4 ((stT ((stN ((stN ((stB 4 X).2)).2)).2)).2)).2)).1.length) (((ats j ((stB 4 ((stT ((stN ((stN ((stB 4 X).2)).2)).2)).2)).2)).1).flatMap attrCell) :: blk r (.cells #[.pointer (some ⟨b, 0, none⟩), .int .i64 ((ats j ((stB 4 ((stT ((stN ((stN ((stB 4 X).2)).2)).2)).2)).2)).2.e)] 126 (0, 0)) :: SrcA b bs pj :: blk bk16 (.cells #[.int .i64 ((stB 4 X).1 : Int), .int .i64 (tmN (stN ((stB 4 X).2)).1), .int .i64 (tmN (stN ((stN ((stB 4 X).2)).2)).1), .string ((stT ((stN ((stN ((stB 4 X).2)).2)).2)).1), .slice qa ((ats j ((stB 4 ((stT ((stN ((stN ((stB 4 X).2)).2)).2)).2)).2)).1.length) ca] 33 (0, 0)) :: F, ?_, H174⟩
            change FReg _ _ _ _ _ #[true, true, true, false, false, false, false, false] _ _
            refine f_all (rs := [3]) (by kernel_rfl) (by simp) ?_
            refine a_cons ⟨_, rfl, ?_⟩ (fun x hx => absurd hx (by simp))
            intro w175 H176
            try dsimp only at H176
            have H177 : St W w175 (blk r (.cells #[.pointer (some ⟨b, 0, none⟩), .int .i64 ((ats j ((stB 4 ((stT ((stN ((stN ((stB 4 X).2)).2)).2)).2)).2)).2.e)] 126 (0, 0)) :: SrcA b bs pj :: blk bk1 (.cells #[.int .i64 0, .int .i64 0, .int .i64 0, .string ByteArray.empty, .slice none 0 0] 33 (0, 0)) :: Row 91 4 (.slice qa ((ats j ((stB 4 ((stT ((stN ((stN ((stB 4 X).2)).2)).2)).2)).2)).1.length) ca) ((ats j ((stB 4 ((stT ((stN ((stN ((stB 4 X).2)).2)).2)).2)).2)).1.length) (((ats j ((stB 4 ((stT ((stN ((stN ((stB 4 X).2)).2)).2)).2)).2)).1).flatMap attrCell) :: blk bk16 (.cells #[.int .i64 ((stB 4 X).1 : Int), .int .i64 (tmN (stN ((stB 4 X).2)).1), .int .i64 (tmN (stN ((stN ((stB 4 X).2)).2)).1), .string ((stT ((stN ((stN ((stB 4 X).2)).2)).2)).1), .slice qa ((ats j ((stB 4 ((stT ((stN ((stN ((stB 4 X).2)).2)).2)).2)).2)).1.length) ca] 33 (0, 0)) :: F) := (((((H176.move 4 rfl).move 2 rfl).move 2 rfl).move 4 rfl).move 4 rfl)
            refine s_call [.pointer (some ⟨r, 0, none⟩)] pl_103 rfl rfl (ev_attr r b bs pj ((ats j ((stB 4 ((stT ((stN ((stN ((stB 4 X).2)).2)).2)).2)).2)).2) hRj hpj (by omega)  H177) ?_
            rintro _ w181 ⟨rfl, q178, hR179, hp180, H182⟩
            have H183 : St W w181 (blk bk1 (.cells #[.int .i64 0, .int .i64 0, .int .i64 0, .string ByteArray.empty, .slice none 0 0] 33 (0, 0)) :: blk r (.cells #[.pointer (some ⟨b, 0, none⟩), .int .i64 ((stA ((ats j ((stB 4 ((stT ((stN ((stN ((stB 4 X).2)).2)).2)).2)).2)).2)).2.e)] 126 (0, 0)) :: SrcA b bs q178 :: Row 91 4 (.slice qa ((ats j ((stB 4 ((stT ((stN ((stN ((stB 4 X).2)).2)).2)).2)).2)).1.length) ca) ((ats j ((stB 4 ((stT ((stN ((stN ((stB 4 X).2)).2)).2)).2)).2)).1.length) (((ats j ((stB 4 ((stT ((stN ((stN ((stB 4 X).2)).2)).2)).2)).2)).1).flatMap attrCell) :: blk bk16 (.cells #[.int .i64 ((stB 4 X).1 : Int), .int .i64 (tmN (stN ((stB 4 X).2)).1), .int .i64 (tmN (stN ((stN ((stB 4 X).2)).2)).1), .string ((stT ((stN ((stN ((stB 4 X).2)).2)).2)).1), .slice qa ((ats j ((stB 4 ((stT ((stN ((stN ((stB 4 X).2)).2)).2)).2)).2)).1.length) ca] 33 (0, 0)) :: F) := (((((H182.move 4 rfl).move 4 rfl).move 3 rfl).move 3 rfl).move 4 rfl)
            refine ⟨blk r (.cells #[.pointer (some ⟨b, 0, none⟩), .int .i64 ((stA ((ats j ((stB 4 ((stT ((stN ((stN ((stB 4 X).2)).2)).2)).2)).2)).2)).2.e)] 126 (0, 0)) :: SrcA b bs q178 :: Row 91 4 (.slice qa ((ats j ((stB 4 ((stT ((stN ((stN ((stB 4 X).2)).2)).2)).2)).2)).1.length) ca) ((ats j ((stB 4 ((stT ((stN ((stN ((stB 4 X).2)).2)).2)).2)).2)).1.length) (((ats j ((stB 4 ((stT ((stN ((stN ((stB 4 X).2)).2)).2)).2)).2)).1).flatMap attrCell) :: blk bk16 (.cells #[.int .i64 ((stB 4 X).1 : Int), .int .i64 (tmN (stN ((stB 4 X).2)).1), .int .i64 (tmN (stN ((stN ((stB 4 X).2)).2)).1), .string ((stT ((stN ((stN ((stB 4 X).2)).2)).2)).1), .slice qa ((ats j ((stB 4 ((stT ((stN ((stN ((stB 4 X).2)).2)).2)).2)).2)).1.length) ca] 33 (0, 0)) :: F, ?_, H183⟩
            change FReg _ _ _ _ _ #[true, true, true, true, false, false, false, false] _ _
            refine f_all (rs := [4]) (by kernel_rfl) (by simp) ?_
            refine a_cons ⟨_, rfl, ?_⟩ (fun x hx => absurd hx (by simp))
            intro w184 H185
            try dsimp only at H185
            refine s_buildSlice H185 4 1 (cs := #[.string ((stA ((ats j ((stB 4 ((stT ((stN ((stN ((stB 4 X).2)).2)).2)).2)).2)).2)).1.name.v), .int .i64 ((stA ((ats j ((stB 4 ((stT ((stN ((stN ((stB 4 X).2)).2)).2)).2)).2)).2)).1.kind.v), .int .i64 ((stA ((ats j ((stB 4 ((stT ((stN ((stN ((stB 4 X).2)).2)).2)).2)).2)).2)).1.n.v), .string ((stA ((ats j ((stB 4 ((stT ((stN ((stN ((stB 4 X).2)).2)).2)).2)).2)).2)).1.s.v)]) #[.string ByteArray.empty, .int .i64 0, .int .i64 0, .string ByteArray.empty] el_31 ze_91 (by decide) (by decide) (by kernel_rfl) rfl ?_; intro bk186 w187 H188
            have H189 : St W w187 (blk bk1 (.cells #[.int .i64 0, .int .i64 0, .int .i64 0, .string ByteArray.empty, .slice none 0 0] 33 (0, 0)) :: blk bk186 (.cells #[.string ((stA ((ats j ((stB 4 ((stT ((stN ((stN ((stB 4 X).2)).2)).2)).2)).2)).2)).1.name.v), .int .i64 ((stA ((ats j ((stB 4 ((stT ((stN ((stN ((stB 4 X).2)).2)).2)).2)).2)).2)).1.kind.v), .int .i64 ((stA ((ats j ((stB 4 ((stT ((stN ((stN ((stB 4 X).2)).2)).2)).2)).2)).2)).1.n.v), .string ((stA ((ats j ((stB 4 ((stT ((stN ((stN ((stB 4 X).2)).2)).2)).2)).2)).2)).1.s.v)] 91 (0, 0)) :: blk r (.cells #[.pointer (some ⟨b, 0, none⟩), .int .i64 ((stA ((ats j ((stB 4 ((stT ((stN ((stN ((stB 4 X).2)).2)).2)).2)).2)).2)).2.e)] 126 (0, 0)) :: SrcA b bs q178 :: Row 91 4 (.slice qa ((ats j ((stB 4 ((stT ((stN ((stN ((stB 4 X).2)).2)).2)).2)).2)).1.length) ca) ((ats j ((stB 4 ((stT ((stN ((stN ((stB 4 X).2)).2)).2)).2)).2)).1.length) (((ats j ((stB 4 ((stT ((stN ((stN ((stB 4 X).2)).2)).2)).2)).2)).1).flatMap attrCell) :: blk bk16 (.cells #[.int .i64 ((stB 4 X).1 : Int), .int .i64 (tmN (stN ((stB 4 X).2)).1), .int .i64 (tmN (stN ((stN ((stB 4 X).2)).2)).1), .string ((stT ((stN ((stN ((stB 4 X).2)).2)).2)).1), .slice qa ((ats j ((stB 4 ((stT ((stN ((stN ((stB 4 X).2)).2)).2)).2)).2)).1.length) ca] 33 (0, 0)) :: F) := ((((((H188.move 5 rfl).move 5 rfl).move 5 rfl).move 5 rfl).move 4 rfl).move 5 rfl)
            refine ⟨blk bk186 (.cells #[.string ((stA ((ats j ((stB 4 ((stT ((stN ((stN ((stB 4 X).2)).2)).2)).2)).2)).2)).1.name.v), .int .i64 ((stA ((ats j ((stB 4 ((stT ((stN ((stN ((stB 4 X).2)).2)).2)).2)).2)).2)).1.kind.v), .int .i64 ((stA ((ats j ((stB 4 ((stT ((stN ((stN ((stB 4 X).2)).2)).2)).2)).2)).2)).1.n.v), .string ((stA ((ats j ((stB 4 ((stT ((stN ((stN ((stB 4 X).2)).2)).2)).2)).2)).2)).1.s.v)] 91 (0, 0)) :: blk r (.cells #[.pointer (some ⟨b, 0, none⟩), .int .i64 ((stA ((ats j ((stB 4 ((stT ((stN ((stN ((stB 4 X).2)).2)).2)).2)).2)).2)).2.e)] 126 (0, 0)) :: SrcA b bs q178 :: Row 91 4 (.slice qa ((ats j ((stB 4 ((stT ((stN ((stN ((stB 4 X).2)).2)).2)).2)).2)).1.length) ca) ((ats j ((stB 4 ((stT ((stN ((stN ((stB 4 X).2)).2)).2)).2)).2)).1.length) (((ats j ((stB 4 ((stT ((stN ((stN ((stB 4 X).2)).2)).2)).2)).2)).1).flatMap attrCell) :: blk bk16 (.cells #[.int .i64 ((stB 4 X).1 : Int), .int .i64 (tmN (stN ((stB 4 X).2)).1), .int .i64 (tmN (stN ((stN ((stB 4 X).2)).2)).1), .string ((stT ((stN ((stN ((stB 4 X).2)).2)).2)).1), .slice qa ((ats j ((stB 4 ((stT ((stN ((stN ((stB 4 X).2)).2)).2)).2)).2)).1.length) ca] 33 (0, 0)) :: F, ?_, H189⟩
            change FReg _ _ _ _ _ #[true, true, true, true, true, false, false, false] _ _
            refine f_all (rs := [5]) (by kernel_rfl) (by simp) ?_
            refine a_cons ⟨_, rfl, ?_⟩ (fun x hx => absurd hx (by simp))
            intro w190 H191
            try dsimp only at H191
            refine s_append H191 4 rfl rfl rfl (rd_blk (H191.blk_at (i := 1) rfl) rfl (Nat.le_of_ble_eq_true rfl) (by simp [Value.oneCell'])) ap_31 (by decide) (by unfold maxLen; omega) (by omega) (n' := (ats j ((stB 4 ((stT ((stN ((stN ((stB 4 X).2)).2)).2)).2)).2)).1.length + 1) (xs' := ((ats j ((stB 4 ((stT ((stN ((stN ((stB 4 X).2)).2)).2)).2)).2)).1 ++ [(stA (ats j ((stB 4 ((stT ((stN ((stN ((stB 4 X).2)).2)).2)).2)).2)).2).1]).flatMap attrCell) (by omega) (by rw [List.flatMap_append]; rfl) rfl ?_; intro vv192 w193 H194 hn195
            obtain ⟨pp196, cc197, rfl⟩ := Row.slice H194 (i := 4) rfl
            refine ⟨blk bk186 (.cells #[.string ((stA ((ats j ((stB 4 ((stT ((stN ((stN ((stB 4 X).2)).2)).2)).2)).2)).2)).1.name.v), .int .i64 ((stA ((ats j ((stB 4 ((stT ((stN ((stN ((stB 4 X).2)).2)).2)).2)).2)).2)).1.kind.v), .int .i64 ((stA ((ats j ((stB 4 ((stT ((stN ((stN ((stB 4 X).2)).2)).2)).2)).2)).2)).1.n.v), .string ((stA ((ats j ((stB 4 ((stT ((stN ((stN ((stB 4 X).2)).2)).2)).2)).2)).2)).1.s.v)] 91 (0, 0)) :: blk r (.cells #[.pointer (some ⟨b, 0, none⟩), .int .i64 ((stA ((ats j ((stB 4 ((stT ((stN ((stN ((stB 4 X).2)).2)).2)).2)).2)).2)).2.e)] 126 (0, 0)) :: SrcA b bs q178 :: Row 91 4 (.slice pp196 ((ats j ((stB 4 ((stT ((stN ((stN ((stB 4 X).2)).2)).2)).2)).2)).1.length + 1) cc197) ((ats j ((stB 4 ((stT ((stN ((stN ((stB 4 X).2)).2)).2)).2)).2)).1.length + 1) (((ats j ((stB 4 ((stT ((stN ((stN ((stB 4 X).2)).2)).2)).2)).2)).1 ++ [(stA (ats j ((stB 4 ((stT ((stN ((stN ((stB 4 X).2)).2)).2)).2)).2)).2).1]).flatMap attrCell) :: blk bk16 (.cells #[.int .i64 ((stB 4 X).1 : Int), .int .i64 (tmN (stN ((stB 4 X).2)).1), .int .i64 (tmN (stN ((stN ((stB 4 X).2)).2)).1), .string ((stT ((stN ((stN ((stB 4 X).2)).2)).2)).1), .slice qa ((ats j ((stB 4 ((stT ((stN ((stN ((stB 4 X).2)).2)).2)).2)).2)).1.length) ca] 33 (0, 0)) :: F, ?_, H194⟩
            change FReg _ _ _ _ _ #[true, true, true, true, true, true, false, false] _ _
            refine f_first 6 (listed' := #[true, true, true, true, true, true, true, false]) rfl (by kernel_rfl) (by kernel_rfl) (by kernel_rfl) rfl ?_
            refine f_val rfl rfl rfl (by intro t_ w hw; exact x_fieldAddr 33 3 4 4 31 rfl fi_33_3 rfl w) ?_
            refine f_all (rs := [7]) (by kernel_rfl) (by simp) ?_
            refine a_cons ⟨_, rfl, ?_⟩ (fun x hx => absurd hx (by simp))
            intro w198 H199
            try dsimp only at H199
            refine s_store H199 5 (.slice pp196 ((ats j ((stB 4 ((stT ((stN ((stN ((stB 4 X).2)).2)).2)).2)).2)).1.length + 1) cc197) rfl rfl rfl sz_31 rfl (Nat.le_of_ble_eq_true rfl) rfl (cs' := #[.int .i64 ((stB 4 X).1 : Int), .int .i64 (tmN (stN ((stB 4 X).2)).1), .int .i64 (tmN (stN ((stN ((stB 4 X).2)).2)).1), .string ((stT ((stN ((stN ((stB 4 X).2)).2)).2)).1), .slice pp196 ((ats j ((stB 4 ((stT ((stN ((stN ((stB 4 X).2)).2)).2)).2)).2)).1.length + 1) cc197]) rfl ?_; intro w200 H201
            refine ⟨blk bk186 (.cells #[.string ((stA ((ats j ((stB 4 ((stT ((stN ((stN ((stB 4 X).2)).2)).2)).2)).2)).2)).1.name.v), .int .i64 ((stA ((ats j ((stB 4 ((stT ((stN ((stN ((stB 4 X).2)).2)).2)).2)).2)).2)).1.kind.v), .int .i64 ((stA ((ats j ((stB 4 ((stT ((stN ((stN ((stB 4 X).2)).2)).2)).2)).2)).2)).1.n.v), .string ((stA ((ats j ((stB 4 ((stT ((stN ((stN ((stB 4 X).2)).2)).2)).2)).2)).2)).1.s.v)] 91 (0, 0)) :: blk r (.cells #[.pointer (some ⟨b, 0, none⟩), .int .i64 ((stA ((ats j ((stB 4 ((stT ((stN ((stN ((stB 4 X).2)).2)).2)).2)).2)).2)).2.e)] 126 (0, 0)) :: SrcA b bs q178 :: Row 91 4 (.slice pp196 ((ats j ((stB 4 ((stT ((stN ((stN ((stB 4 X).2)).2)).2)).2)).2)).1.length + 1) cc197) ((ats j ((stB 4 ((stT ((stN ((stN ((stB 4 X).2)).2)).2)).2)).2)).1.length + 1) (((ats j ((stB 4 ((stT ((stN ((stN ((stB 4 X).2)).2)).2)).2)).2)).1 ++ [(stA (ats j ((stB 4 ((stT ((stN ((stN ((stB 4 X).2)).2)).2)).2)).2)).2).1]).flatMap attrCell) :: blk bk16 (.cells #[.int .i64 ((stB 4 X).1 : Int), .int .i64 (tmN (stN ((stB 4 X).2)).1), .int .i64 (tmN (stN ((stN ((stB 4 X).2)).2)).1), .string ((stT ((stN ((stN ((stB 4 X).2)).2)).2)).1), .slice pp196 ((ats j ((stB 4 ((stT ((stN ((stN ((stB 4 X).2)).2)).2)).2)).2)).1.length + 1) cc197] 33 (0, 0)) :: F, ?_, H201⟩
            change FReg _ _ _ _ _ #[true, true, true, true, true, true, true, true] _ _
            refine f_done (by kernel_rfl) ?_
            intro w202 H203
            refine g_inBlock ?_
            refine g_region ?_
            refine r_cons (s_add ((j : Int) + 1) rfl rfl (wi64 (by omega)) rfl ?_)
            refine r_cons (s_move (.int .i64 ((j : Int) + 1)) rfl rfl ?_)
            refine r_nil ?_
            have H204 : St W w202 (Row 91 4 (.slice pp196 ((ats j ((stB 4 ((stT ((stN ((stN ((stB 4 X).2)).2)).2)).2)).2)).1.length + 1) cc197) ((ats j ((stB 4 ((stT ((stN ((stN ((stB 4 X).2)).2)).2)).2)).2)).1.length + 1) (((ats j ((stB 4 ((stT ((stN ((stN ((stB 4 X).2)).2)).2)).2)).2)).1 ++ [(stA (ats j ((stB 4 ((stT ((stN ((stN ((stB 4 X).2)).2)).2)).2)).2)).2).1]).flatMap attrCell) :: blk r (.cells #[.pointer (some ⟨b, 0, none⟩), .int .i64 ((stA ((ats j ((stB 4 ((stT ((stN ((stN ((stB 4 X).2)).2)).2)).2)).2)).2)).2.e)] 126 (0, 0)) :: SrcA b bs q178 :: blk bk16 (.cells #[.int .i64 ((stB 4 X).1 : Int), .int .i64 (tmN (stN ((stB 4 X).2)).1), .int .i64 (tmN (stN ((stN ((stB 4 X).2)).2)).1), .string ((stT ((stN ((stN ((stB 4 X).2)).2)).2)).1), .slice pp196 ((ats j ((stB 4 ((stT ((stN ((stN ((stB 4 X).2)).2)).2)).2)).2)).1.length + 1) cc197] 33 (0, 0)) :: blk bk1 (.cells #[.int .i64 0, .int .i64 0, .int .i64 0, .string ByteArray.empty, .slice none 0 0] 33 (0, 0)) :: F) := (((((H203.move 5 rfl).move 4 rfl).move 4 rfl).move 5 rfl).drop 5 rfl)
            have H205 : St W w202 (Row 91 4 (.slice pp196 ((ats (j + 1) ((stB 4 ((stT ((stN ((stN ((stB 4 X).2)).2)).2)).2)).2)).1.length) cc197) ((ats (j + 1) ((stB 4 ((stT ((stN ((stN ((stB 4 X).2)).2)).2)).2)).2)).1.length) (((ats (j + 1) ((stB 4 ((stT ((stN ((stN ((stB 4 X).2)).2)).2)).2)).2)).1).flatMap attrCell) :: blk r (.cells #[.pointer (some ⟨b, 0, none⟩), .int .i64 ((ats (j + 1) ((stB 4 ((stT ((stN ((stN ((stB 4 X).2)).2)).2)).2)).2)).2.e)] 126 (0, 0)) :: SrcA b bs q178 :: blk bk16 (.cells #[.int .i64 ((stB 4 X).1 : Int), .int .i64 (tmN (stN ((stB 4 X).2)).1), .int .i64 (tmN (stN ((stN ((stB 4 X).2)).2)).1), .string ((stT ((stN ((stN ((stB 4 X).2)).2)).2)).1), .slice pp196 ((ats (j + 1) ((stB 4 ((stT ((stN ((stN ((stB 4 X).2)).2)).2)).2)).2)).1.length) cc197] 33 (0, 0)) :: blk bk1 (.cells #[.int .i64 0, .int .i64 0, .int .i64 0, .string ByteArray.empty, .slice none 0 0] 33 (0, 0)) :: F) := by rw [ats_yes hc171, List.length_append]; exact H204
            exact nx169 (j + 1, q178, pp196, cc197) _ _ ⟨(by omega), (by rw [ats_yes hc171]; exact hR179), hp180, H205⟩ (by first | (dsimp only; omega) | omega) ⟨by first | rfl | exact vint (by omega), by first | rfl | exact vint (by omega), by first | rfl | exact vint (by omega), by first | rfl | exact vint (by omega), by first | rfl | exact vint (by omega), trivial⟩
          · skip
            intro w206 H207
            try dsimp only at H207
            have H208 : St W w206 (blk r (.cells #[.pointer (some ⟨b, 0, none⟩), .int .i64 ((ats j ((stB 4 ((stT ((stN ((stN ((stB 4 X).2)).2)).2)).2)).2)).2.e)] 126 (0, 0)) :: SrcA b bs pj :: blk bk1 (.cells #[.int .i64 0, .int .i64 0, .int .i64 0, .string ByteArray.empty, .slice none 0 0] 33 (0, 0)) :: Row 91 4 (.slice qa ((ats j ((stB 4 ((stT ((stN ((stN ((stB 4 X).2)).2)).2)).2)).2)).1.length) ca) ((ats j ((stB 4 ((stT ((stN ((stN ((stB 4 X).2)).2)).2)).2)).2)).1.length) (((ats j ((stB 4 ((stT ((stN ((stN ((stB 4 X).2)).2)).2)).2)).2)).1).flatMap attrCell) :: blk bk16 (.cells #[.int .i64 ((stB 4 X).1 : Int), .int .i64 (tmN (stN ((stB 4 X).2)).1), .int .i64 (tmN (stN ((stN ((stB 4 X).2)).2)).1), .string ((stT ((stN ((stN ((stB 4 X).2)).2)).2)).1), .slice qa ((ats j ((stB 4 ((stT ((stN ((stN ((stB 4 X).2)).2)).2)).2)).2)).1.length) ca] 33 (0, 0)) :: F) := (((((H207.move 4 rfl).move 2 rfl).move 2 rfl).move 4 rfl).move 4 rfl)
            refine s_call [.pointer (some ⟨r, 0, none⟩)] pl_103 rfl rfl (ev_attr r b bs pj ((ats j ((stB 4 ((stT ((stN ((stN ((stB 4 X).2)).2)).2)).2)).2)).2) hRj hpj (by omega)  H208) ?_
            rintro _ w212 ⟨rfl, q209, hR210, hp211, H213⟩
            have H214 : St W w212 (blk bk1 (.cells #[.int .i64 0, .int .i64 0, .int .i64 0, .string ByteArray.empty, .slice none 0 0] 33 (0, 0)) :: blk r (.cells #[.pointer (some ⟨b, 0, none⟩), .int .i64 ((stA ((ats j ((stB 4 ((stT ((stN ((stN ((stB 4 X).2)).2)).2)).2)).2)).2)).2.e)] 126 (0, 0)) :: SrcA b bs q209 :: Row 91 4 (.slice qa ((ats j ((stB 4 ((stT ((stN ((stN ((stB 4 X).2)).2)).2)).2)).2)).1.length) ca) ((ats j ((stB 4 ((stT ((stN ((stN ((stB 4 X).2)).2)).2)).2)).2)).1.length) (((ats j ((stB 4 ((stT ((stN ((stN ((stB 4 X).2)).2)).2)).2)).2)).1).flatMap attrCell) :: blk bk16 (.cells #[.int .i64 ((stB 4 X).1 : Int), .int .i64 (tmN (stN ((stB 4 X).2)).1), .int .i64 (tmN (stN ((stN ((stB 4 X).2)).2)).1), .string ((stT ((stN ((stN ((stB 4 X).2)).2)).2)).1), .slice qa ((ats j ((stB 4 ((stT ((stN ((stN ((stB 4 X).2)).2)).2)).2)).2)).1.length) ca] 33 (0, 0)) :: F) := (((((H213.move 4 rfl).move 4 rfl).move 3 rfl).move 3 rfl).move 4 rfl)
            refine ⟨blk r (.cells #[.pointer (some ⟨b, 0, none⟩), .int .i64 ((stA ((ats j ((stB 4 ((stT ((stN ((stN ((stB 4 X).2)).2)).2)).2)).2)).2)).2.e)] 126 (0, 0)) :: SrcA b bs q209 :: Row 91 4 (.slice qa ((ats j ((stB 4 ((stT ((stN ((stN ((stB 4 X).2)).2)).2)).2)).2)).1.length) ca) ((ats j ((stB 4 ((stT ((stN ((stN ((stB 4 X).2)).2)).2)).2)).2)).1.length) (((ats j ((stB 4 ((stT ((stN ((stN ((stB 4 X).2)).2)).2)).2)).2)).1).flatMap attrCell) :: blk bk16 (.cells #[.int .i64 ((stB 4 X).1 : Int), .int .i64 (tmN (stN ((stB 4 X).2)).1), .int .i64 (tmN (stN ((stN ((stB 4 X).2)).2)).1), .string ((stT ((stN ((stN ((stB 4 X).2)).2)).2)).1), .slice qa ((ats j ((stB 4 ((stT ((stN ((stN ((stB 4 X).2)).2)).2)).2)).2)).1.length) ca] 33 (0, 0)) :: F, ?_, H214⟩
            change FReg _ _ _ _ _ #[true, false, true, true, false, false, false, false] _ _
            refine f_all (rs := [1, 4]) (by kernel_rfl) (by simp) ?_
            refine a_cons ⟨_, rfl, ?_⟩ (a_cons ⟨_, rfl, ?_⟩ (fun x hx => absurd hx (by simp)))
            · skip
              intro w215 H216
              try dsimp only at H216
              refine s_load (.slice qa ((ats j ((stB 4 ((stT ((stN ((stN ((stB 4 X).2)).2)).2)).2)).2)).1.length) ca) ag_31 rfl (H216.blk_at (i := 4) rfl) rfl rfl ?_
              refine ⟨blk r (.cells #[.pointer (some ⟨b, 0, none⟩), .int .i64 ((stA ((ats j ((stB 4 ((stT ((stN ((stN ((stB 4 X).2)).2)).2)).2)).2)).2)).2.e)] 126 (0, 0)) :: SrcA b bs q209 :: Row 91 4 (.slice qa ((ats j ((stB 4 ((stT ((stN ((stN ((stB 4 X).2)).2)).2)).2)).2)).1.length) ca) ((ats j ((stB 4 ((stT ((stN ((stN ((stB 4 X).2)).2)).2)).2)).2)).1.length) (((ats j ((stB 4 ((stT ((stN ((stN ((stB 4 X).2)).2)).2)).2)).2)).1).flatMap attrCell) :: blk bk16 (.cells #[.int .i64 ((stB 4 X).1 : Int), .int .i64 (tmN (stN ((stB 4 X).2)).1), .int .i64 (tmN (stN ((stN ((stB 4 X).2)).2)).1), .string ((stT ((stN ((stN ((stB 4 X).2)).2)).2)).1), .slice qa ((ats j ((stB 4 ((stT ((stN ((stN ((stB 4 X).2)).2)).2)).2)).2)).1.length) ca] 33 (0, 0)) :: F, ?_, H216⟩
              change FReg _ _ _ _ _ #[true, true, true, true, false, false, false, false] _ _
              refine f_all (rs := [4]) (by kernel_rfl) (by simp) ?_
              refine a_cons ⟨_, rfl, ?_⟩ (fun x hx => absurd hx (by simp))
              intro w217 H218
              try dsimp only at H218
              refine s_buildSlice H218 4 1 (cs := #[.string ((stA ((ats j ((stB 4 ((stT ((stN ((stN ((stB 4 X).2)).2)).2)).2)).2)).2)).1.name.v), .int .i64 ((stA ((ats j ((stB 4 ((stT ((stN ((stN ((stB 4 X).2)).2)).2)).2)).2)).2)).1.kind.v), .int .i64 ((stA ((ats j ((stB 4 ((stT ((stN ((stN ((stB 4 X).2)).2)).2)).2)).2)).2)).1.n.v), .string ((stA ((ats j ((stB 4 ((stT ((stN ((stN ((stB 4 X).2)).2)).2)).2)).2)).2)).1.s.v)]) #[.string ByteArray.empty, .int .i64 0, .int .i64 0, .string ByteArray.empty] el_31 ze_91 (by decide) (by decide) (by kernel_rfl) rfl ?_; intro bk219 w220 H221
              have H222 : St W w220 (blk bk1 (.cells #[.int .i64 0, .int .i64 0, .int .i64 0, .string ByteArray.empty, .slice none 0 0] 33 (0, 0)) :: blk bk219 (.cells #[.string ((stA ((ats j ((stB 4 ((stT ((stN ((stN ((stB 4 X).2)).2)).2)).2)).2)).2)).1.name.v), .int .i64 ((stA ((ats j ((stB 4 ((stT ((stN ((stN ((stB 4 X).2)).2)).2)).2)).2)).2)).1.kind.v), .int .i64 ((stA ((ats j ((stB 4 ((stT ((stN ((stN ((stB 4 X).2)).2)).2)).2)).2)).2)).1.n.v), .string ((stA ((ats j ((stB 4 ((stT ((stN ((stN ((stB 4 X).2)).2)).2)).2)).2)).2)).1.s.v)] 91 (0, 0)) :: blk r (.cells #[.pointer (some ⟨b, 0, none⟩), .int .i64 ((stA ((ats j ((stB 4 ((stT ((stN ((stN ((stB 4 X).2)).2)).2)).2)).2)).2)).2.e)] 126 (0, 0)) :: SrcA b bs q209 :: Row 91 4 (.slice qa ((ats j ((stB 4 ((stT ((stN ((stN ((stB 4 X).2)).2)).2)).2)).2)).1.length) ca) ((ats j ((stB 4 ((stT ((stN ((stN ((stB 4 X).2)).2)).2)).2)).2)).1.length) (((ats j ((stB 4 ((stT ((stN ((stN ((stB 4 X).2)).2)).2)).2)).2)).1).flatMap attrCell) :: blk bk16 (.cells #[.int .i64 ((stB 4 X).1 : Int), .int .i64 (tmN (stN ((stB 4 X).2)).1), .int .i64 (tmN (stN ((stN ((stB 4 X).2)).2)).1), .string ((stT ((stN ((stN ((stB 4 X).2)).2)).2)).1), .slice qa ((ats j ((stB 4 ((stT ((stN ((stN ((stB 4 X).2)).2)).2)).2)).2)).1.length) ca] 33 (0, 0)) :: F) := ((((((H221.move 5 rfl).move 5 rfl).move 5 rfl).move 5 rfl).move 4 rfl).move 5 rfl)
              refine ⟨blk bk219 (.cells #[.string ((stA ((ats j ((stB 4 ((stT ((stN ((stN ((stB 4 X).2)).2)).2)).2)).2)).2)).1.name.v), .int .i64 ((stA ((ats j ((stB 4 ((stT ((stN ((stN ((stB 4 X).2)).2)).2)).2)).2)).2)).1.kind.v), .int .i64 ((stA ((ats j ((stB 4 ((stT ((stN ((stN ((stB 4 X).2)).2)).2)).2)).2)).2)).1.n.v), .string ((stA ((ats j ((stB 4 ((stT ((stN ((stN ((stB 4 X).2)).2)).2)).2)).2)).2)).1.s.v)] 91 (0, 0)) :: blk r (.cells #[.pointer (some ⟨b, 0, none⟩), .int .i64 ((stA ((ats j ((stB 4 ((stT ((stN ((stN ((stB 4 X).2)).2)).2)).2)).2)).2)).2.e)] 126 (0, 0)) :: SrcA b bs q209 :: Row 91 4 (.slice qa ((ats j ((stB 4 ((stT ((stN ((stN ((stB 4 X).2)).2)).2)).2)).2)).1.length) ca) ((ats j ((stB 4 ((stT ((stN ((stN ((stB 4 X).2)).2)).2)).2)).2)).1.length) (((ats j ((stB 4 ((stT ((stN ((stN ((stB 4 X).2)).2)).2)).2)).2)).1).flatMap attrCell) :: blk bk16 (.cells #[.int .i64 ((stB 4 X).1 : Int), .int .i64 (tmN (stN ((stB 4 X).2)).1), .int .i64 (tmN (stN ((stN ((stB 4 X).2)).2)).1), .string ((stT ((stN ((stN ((stB 4 X).2)).2)).2)).1), .slice qa ((ats j ((stB 4 ((stT ((stN ((stN ((stB 4 X).2)).2)).2)).2)).2)).1.length) ca] 33 (0, 0)) :: F, ?_, H222⟩
              change FReg _ _ _ _ _ #[true, true, true, true, true, false, false, false] _ _
              refine f_all (rs := [5]) (by kernel_rfl) (by simp) ?_
              refine a_cons ⟨_, rfl, ?_⟩ (fun x hx => absurd hx (by simp))
              intro w223 H224
              try dsimp only at H224
              refine s_append H224 4 rfl rfl rfl (rd_blk (H224.blk_at (i := 1) rfl) rfl (Nat.le_of_ble_eq_true rfl) (by simp [Value.oneCell'])) ap_31 (by decide) (by unfold maxLen; omega) (by omega) (n' := (ats j ((stB 4 ((stT ((stN ((stN ((stB 4 X).2)).2)).2)).2)).2)).1.length + 1) (xs' := ((ats j ((stB 4 ((stT ((stN ((stN ((stB 4 X).2)).2)).2)).2)).2)).1 ++ [(stA (ats j ((stB 4 ((stT ((stN ((stN ((stB 4 X).2)).2)).2)).2)).2)).2).1]).flatMap attrCell) (by omega) (by rw [List.flatMap_append]; rfl) rfl ?_; intro vv225 w226 H227 hn228
              obtain ⟨pp229, cc230, rfl⟩ := Row.slice H227 (i := 4) rfl
              refine ⟨blk bk219 (.cells #[.string ((stA ((ats j ((stB 4 ((stT ((stN ((stN ((stB 4 X).2)).2)).2)).2)).2)).2)).1.name.v), .int .i64 ((stA ((ats j ((stB 4 ((stT ((stN ((stN ((stB 4 X).2)).2)).2)).2)).2)).2)).1.kind.v), .int .i64 ((stA ((ats j ((stB 4 ((stT ((stN ((stN ((stB 4 X).2)).2)).2)).2)).2)).2)).1.n.v), .string ((stA ((ats j ((stB 4 ((stT ((stN ((stN ((stB 4 X).2)).2)).2)).2)).2)).2)).1.s.v)] 91 (0, 0)) :: blk r (.cells #[.pointer (some ⟨b, 0, none⟩), .int .i64 ((stA ((ats j ((stB 4 ((stT ((stN ((stN ((stB 4 X).2)).2)).2)).2)).2)).2)).2.e)] 126 (0, 0)) :: SrcA b bs q209 :: Row 91 4 (.slice pp229 ((ats j ((stB 4 ((stT ((stN ((stN ((stB 4 X).2)).2)).2)).2)).2)).1.length + 1) cc230) ((ats j ((stB 4 ((stT ((stN ((stN ((stB 4 X).2)).2)).2)).2)).2)).1.length + 1) (((ats j ((stB 4 ((stT ((stN ((stN ((stB 4 X).2)).2)).2)).2)).2)).1 ++ [(stA (ats j ((stB 4 ((stT ((stN ((stN ((stB 4 X).2)).2)).2)).2)).2)).2).1]).flatMap attrCell) :: blk bk16 (.cells #[.int .i64 ((stB 4 X).1 : Int), .int .i64 (tmN (stN ((stB 4 X).2)).1), .int .i64 (tmN (stN ((stN ((stB 4 X).2)).2)).1), .string ((stT ((stN ((stN ((stB 4 X).2)).2)).2)).1), .slice qa ((ats j ((stB 4 ((stT ((stN ((stN ((stB 4 X).2)).2)).2)).2)).2)).1.length) ca] 33 (0, 0)) :: F, ?_, H227⟩
              change FReg _ _ _ _ _ #[true, true, true, true, true, true, false, false] _ _
              refine f_first 6 (listed' := #[true, true, true, true, true, true, true, false]) rfl (by kernel_rfl) (by kernel_rfl) (by kernel_rfl) rfl ?_
              refine f_val rfl rfl rfl (by intro t_ w hw; exact x_fieldAddr 33 3 4 4 31 rfl fi_33_3 rfl w) ?_
              refine f_all (rs := [7]) (by kernel_rfl) (by simp) ?_
              refine a_cons ⟨_, rfl, ?_⟩ (fun x hx => absurd hx (by simp))
              intro w231 H232
              try dsimp only at H232
              refine s_store H232 5 (.slice pp229 ((ats j ((stB 4 ((stT ((stN ((stN ((stB 4 X).2)).2)).2)).2)).2)).1.length + 1) cc230) rfl rfl rfl sz_31 rfl (Nat.le_of_ble_eq_true rfl) rfl (cs' := #[.int .i64 ((stB 4 X).1 : Int), .int .i64 (tmN (stN ((stB 4 X).2)).1), .int .i64 (tmN (stN ((stN ((stB 4 X).2)).2)).1), .string ((stT ((stN ((stN ((stB 4 X).2)).2)).2)).1), .slice pp229 ((ats j ((stB 4 ((stT ((stN ((stN ((stB 4 X).2)).2)).2)).2)).2)).1.length + 1) cc230]) rfl ?_; intro w233 H234
              refine ⟨blk bk219 (.cells #[.string ((stA ((ats j ((stB 4 ((stT ((stN ((stN ((stB 4 X).2)).2)).2)).2)).2)).2)).1.name.v), .int .i64 ((stA ((ats j ((stB 4 ((stT ((stN ((stN ((stB 4 X).2)).2)).2)).2)).2)).2)).1.kind.v), .int .i64 ((stA ((ats j ((stB 4 ((stT ((stN ((stN ((stB 4 X).2)).2)).2)).2)).2)).2)).1.n.v), .string ((stA ((ats j ((stB 4 ((stT ((stN ((stN ((stB 4 X).2)).2)).2)).2)).2)).2)).1.s.v)] 91 (0, 0)) :: blk r (.cells #[.pointer (some ⟨b, 0, none⟩), .int .i64 ((stA ((ats j ((stB 4 ((stT ((stN ((stN ((stB 4 X).2)).2)).2)).2)).2)).2)).2.e)] 126 (0, 0)) :: SrcA b bs q209 :: Row 91 4 (.slice pp229 ((ats j ((stB 4 ((stT ((stN ((stN ((stB 4 X).2)).2)).2)).2)).2)).1.length + 1) cc230) ((ats j ((stB 4 ((stT ((stN ((stN ((stB 4 X).2)).2)).2)).2)).2)).1.length + 1) (((ats j ((stB 4 ((stT ((stN ((stN ((stB 4 X).2)).2)).2)).2)).2)).1 ++ [(stA (ats j ((stB 4 ((stT ((stN ((stN ((stB 4 X).2)).2)).2)).2)).2)).2).1]).flatMap attrCell) :: blk bk16 (.cells #[.int .i64 ((stB 4 X).1 : Int), .int .i64 (tmN (stN ((stB 4 X).2)).1), .int .i64 (tmN (stN ((stN ((stB 4 X).2)).2)).1), .string ((stT ((stN ((stN ((stB 4 X).2)).2)).2)).1), .slice pp229 ((ats j ((stB 4 ((stT ((stN ((stN ((stB 4 X).2)).2)).2)).2)).2)).1.length + 1) cc230] 33 (0, 0)) :: F, ?_, H234⟩
              change FReg _ _ _ _ _ #[true, true, true, true, true, true, true, true] _ _
              refine f_done (by kernel_rfl) ?_
              intro w235 H236
              refine g_inBlock ?_
              refine g_region ?_
              refine r_cons (s_add ((j : Int) + 1) rfl rfl (wi64 (by omega)) rfl ?_)
              refine r_cons (s_move (.int .i64 ((j : Int) + 1)) rfl rfl ?_)
              refine r_nil ?_
              have H237 : St W w235 (Row 91 4 (.slice pp229 ((ats j ((stB 4 ((stT ((stN ((stN ((stB 4 X).2)).2)).2)).2)).2)).1.length + 1) cc230) ((ats j ((stB 4 ((stT ((stN ((stN ((stB 4 X).2)).2)).2)).2)).2)).1.length + 1) (((ats j ((stB 4 ((stT ((stN ((stN ((stB 4 X).2)).2)).2)).2)).2)).1 ++ [(stA (ats j ((stB 4 ((stT ((stN ((stN ((stB 4 X).2)).2)).2)).2)).2)).2).1]).flatMap attrCell) :: blk r (.cells #[.pointer (some ⟨b, 0, none⟩), .int .i64 ((stA ((ats j ((stB 4 ((stT ((stN ((stN ((stB 4 X).2)).2)).2)).2)).2)).2)).2.e)] 126 (0, 0)) :: SrcA b bs q209 :: blk bk16 (.cells #[.int .i64 ((stB 4 X).1 : Int), .int .i64 (tmN (stN ((stB 4 X).2)).1), .int .i64 (tmN (stN ((stN ((stB 4 X).2)).2)).1), .string ((stT ((stN ((stN ((stB 4 X).2)).2)).2)).1), .slice pp229 ((ats j ((stB 4 ((stT ((stN ((stN ((stB 4 X).2)).2)).2)).2)).2)).1.length + 1) cc230] 33 (0, 0)) :: blk bk1 (.cells #[.int .i64 0, .int .i64 0, .int .i64 0, .string ByteArray.empty, .slice none 0 0] 33 (0, 0)) :: F) := (((((H236.move 5 rfl).move 4 rfl).move 4 rfl).move 5 rfl).drop 5 rfl)
              have H238 : St W w235 (Row 91 4 (.slice pp229 ((ats (j + 1) ((stB 4 ((stT ((stN ((stN ((stB 4 X).2)).2)).2)).2)).2)).1.length) cc230) ((ats (j + 1) ((stB 4 ((stT ((stN ((stN ((stB 4 X).2)).2)).2)).2)).2)).1.length) (((ats (j + 1) ((stB 4 ((stT ((stN ((stN ((stB 4 X).2)).2)).2)).2)).2)).1).flatMap attrCell) :: blk r (.cells #[.pointer (some ⟨b, 0, none⟩), .int .i64 ((ats (j + 1) ((stB 4 ((stT ((stN ((stN ((stB 4 X).2)).2)).2)).2)).2)).2.e)] 126 (0, 0)) :: SrcA b bs q209 :: blk bk16 (.cells #[.int .i64 ((stB 4 X).1 : Int), .int .i64 (tmN (stN ((stB 4 X).2)).1), .int .i64 (tmN (stN ((stN ((stB 4 X).2)).2)).1), .string ((stT ((stN ((stN ((stB 4 X).2)).2)).2)).1), .slice pp229 ((ats (j + 1) ((stB 4 ((stT ((stN ((stN ((stB 4 X).2)).2)).2)).2)).2)).1.length) cc230] 33 (0, 0)) :: blk bk1 (.cells #[.int .i64 0, .int .i64 0, .int .i64 0, .string ByteArray.empty, .slice none 0 0] 33 (0, 0)) :: F) := by rw [ats_yes hc171, List.length_append]; exact H237
              exact nx169 (j + 1, q209, pp229, cc230) _ _ ⟨(by omega), (by rw [ats_yes hc171]; exact hR210), hp211, H238⟩ (by first | (dsimp only; omega) | omega) ⟨by first | rfl | exact vint (by omega), by first | rfl | exact vint (by omega), by first | rfl | exact vint (by omega), by first | rfl | exact vint (by omega), by first | rfl | exact vint (by omega), trivial⟩
            · skip
              intro w239 H240
              try dsimp only at H240
              refine s_buildSlice H240 4 1 (cs := #[.string ((stA ((ats j ((stB 4 ((stT ((stN ((stN ((stB 4 X).2)).2)).2)).2)).2)).2)).1.name.v), .int .i64 ((stA ((ats j ((stB 4 ((stT ((stN ((stN ((stB 4 X).2)).2)).2)).2)).2)).2)).1.kind.v), .int .i64 ((stA ((ats j ((stB 4 ((stT ((stN ((stN ((stB 4 X).2)).2)).2)).2)).2)).2)).1.n.v), .string ((stA ((ats j ((stB 4 ((stT ((stN ((stN ((stB 4 X).2)).2)).2)).2)).2)).2)).1.s.v)]) #[.string ByteArray.empty, .int .i64 0, .int .i64 0, .string ByteArray.empty] el_31 ze_91 (by decide) (by decide) (by kernel_rfl) rfl ?_; intro bk241 w242 H243
              have H244 : St W w242 (blk bk1 (.cells #[.int .i64 0, .int .i64 0, .int .i64 0, .string ByteArray.empty, .slice none 0 0] 33 (0, 0)) :: blk bk241 (.cells #[.string ((stA ((ats j ((stB 4 ((stT ((stN ((stN ((stB 4 X).2)).2)).2)).2)).2)).2)).1.name.v), .int .i64 ((stA ((ats j ((stB 4 ((stT ((stN ((stN ((stB 4 X).2)).2)).2)).2)).2)).2)).1.kind.v), .int .i64 ((stA ((ats j ((stB 4 ((stT ((stN ((stN ((stB 4 X).2)).2)).2)).2)).2)).2)).1.n.v), .string ((stA ((ats j ((stB 4 ((stT ((stN ((stN ((stB 4 X).2)).2)).2)).2)).2)).2)).1.s.v)] 91 (0, 0)) :: blk r (.cells #[.pointer (some ⟨b, 0, none⟩), .int .i64 ((stA ((ats j ((stB 4 ((stT ((stN ((stN ((stB 4 X).2)).2)).2)).2)).2)).2)).2.e)] 126 (0, 0)) :: SrcA b bs q209 :: Row 91 4 (.slice qa ((ats j ((stB 4 ((stT ((stN ((stN ((stB 4 X).2)).2)).2)).2)).2)).1.length) ca) ((ats j ((stB 4 ((stT ((stN ((stN ((stB 4 X).2)).2)).2)).2)).2)).1.length) (((ats j ((stB 4 ((stT ((stN ((stN ((stB 4 X).2)).2)).2)).2)).2)).1).flatMap attrCell) :: blk bk16 (.cells #[.int .i64 ((stB 4 X).1 : Int), .int .i64 (tmN (stN ((stB 4 X).2)).1), .int .i64 (tmN (stN ((stN ((stB 4 X).2)).2)).1), .string ((stT ((stN ((stN ((stB 4 X).2)).2)).2)).1), .slice qa ((ats j ((stB 4 ((stT ((stN ((stN ((stB 4 X).2)).2)).2)).2)).2)).1.length) ca] 33 (0, 0)) :: F) := ((((((H243.move 5 rfl).move 5 rfl).move 5 rfl).move 5 rfl).move 4 rfl).move 5 rfl)
              refine ⟨blk bk241 (.cells #[.string ((stA ((ats j ((stB 4 ((stT ((stN ((stN ((stB 4 X).2)).2)).2)).2)).2)).2)).1.name.v), .int .i64 ((stA ((ats j ((stB 4 ((stT ((stN ((stN ((stB 4 X).2)).2)).2)).2)).2)).2)).1.kind.v), .int .i64 ((stA ((ats j ((stB 4 ((stT ((stN ((stN ((stB 4 X).2)).2)).2)).2)).2)).2)).1.n.v), .string ((stA ((ats j ((stB 4 ((stT ((stN ((stN ((stB 4 X).2)).2)).2)).2)).2)).2)).1.s.v)] 91 (0, 0)) :: blk r (.cells #[.pointer (some ⟨b, 0, none⟩), .int .i64 ((stA ((ats j ((stB 4 ((stT ((stN ((stN ((stB 4 X).2)).2)).2)).2)).2)).2)).2.e)] 126 (0, 0)) :: SrcA b bs q209 :: Row 91 4 (.slice qa ((ats j ((stB 4 ((stT ((stN ((stN ((stB 4 X).2)).2)).2)).2)).2)).1.length) ca) ((ats j ((stB 4 ((stT ((stN ((stN ((stB 4 X).2)).2)).2)).2)).2)).1.length) (((ats j ((stB 4 ((stT ((stN ((stN ((stB 4 X).2)).2)).2)).2)).2)).1).flatMap attrCell) :: blk bk16 (.cells #[.int .i64 ((stB 4 X).1 : Int), .int .i64 (tmN (stN ((stB 4 X).2)).1), .int .i64 (tmN (stN ((stN ((stB 4 X).2)).2)).1), .string ((stT ((stN ((stN ((stB 4 X).2)).2)).2)).1), .slice qa ((ats j ((stB 4 ((stT ((stN ((stN ((stB 4 X).2)).2)).2)).2)).2)).1.length) ca] 33 (0, 0)) :: F, ?_, H244⟩
              change FReg _ _ _ _ _ #[true, false, true, true, true, false, false, false] _ _
              refine f_all (rs := [1]) (by kernel_rfl) (by simp) ?_
              refine a_cons ⟨_, rfl, ?_⟩ (fun x hx => absurd hx (by simp))
              intro w245 H246
              try dsimp only at H246
              refine s_load (.slice qa ((ats j ((stB 4 ((stT ((stN ((stN ((stB 4 X).2)).2)).2)).2)).2)).1.length) ca) ag_31 rfl (H246.blk_at (i := 5) rfl) rfl rfl ?_
              refine ⟨blk bk241 (.cells #[.string ((stA ((ats j ((stB 4 ((stT ((stN ((stN ((stB 4 X).2)).2)).2)).2)).2)).2)).1.name.v), .int .i64 ((stA ((ats j ((stB 4 ((stT ((stN ((stN ((stB 4 X).2)).2)).2)).2)).2)).2)).1.kind.v), .int .i64 ((stA ((ats j ((stB 4 ((stT ((stN ((stN ((stB 4 X).2)).2)).2)).2)).2)).2)).1.n.v), .string ((stA ((ats j ((stB 4 ((stT ((stN ((stN ((stB 4 X).2)).2)).2)).2)).2)).2)).1.s.v)] 91 (0, 0)) :: blk r (.cells #[.pointer (some ⟨b, 0, none⟩), .int .i64 ((stA ((ats j ((stB 4 ((stT ((stN ((stN ((stB 4 X).2)).2)).2)).2)).2)).2)).2.e)] 126 (0, 0)) :: SrcA b bs q209 :: Row 91 4 (.slice qa ((ats j ((stB 4 ((stT ((stN ((stN ((stB 4 X).2)).2)).2)).2)).2)).1.length) ca) ((ats j ((stB 4 ((stT ((stN ((stN ((stB 4 X).2)).2)).2)).2)).2)).1.length) (((ats j ((stB 4 ((stT ((stN ((stN ((stB 4 X).2)).2)).2)).2)).2)).1).flatMap attrCell) :: blk bk16 (.cells #[.int .i64 ((stB 4 X).1 : Int), .int .i64 (tmN (stN ((stB 4 X).2)).1), .int .i64 (tmN (stN ((stN ((stB 4 X).2)).2)).1), .string ((stT ((stN ((stN ((stB 4 X).2)).2)).2)).1), .slice qa ((ats j ((stB 4 ((stT ((stN ((stN ((stB 4 X).2)).2)).2)).2)).2)).1.length) ca] 33 (0, 0)) :: F, ?_, H246⟩
              change FReg _ _ _ _ _ #[true, true, true, true, true, false, false, false] _ _
              refine f_all (rs := [5]) (by kernel_rfl) (by simp) ?_
              refine a_cons ⟨_, rfl, ?_⟩ (fun x hx => absurd hx (by simp))
              intro w247 H248
              try dsimp only at H248
              refine s_append H248 4 rfl rfl rfl (rd_blk (H248.blk_at (i := 1) rfl) rfl (Nat.le_of_ble_eq_true rfl) (by simp [Value.oneCell'])) ap_31 (by decide) (by unfold maxLen; omega) (by omega) (n' := (ats j ((stB 4 ((stT ((stN ((stN ((stB 4 X).2)).2)).2)).2)).2)).1.length + 1) (xs' := ((ats j ((stB 4 ((stT ((stN ((stN ((stB 4 X).2)).2)).2)).2)).2)).1 ++ [(stA (ats j ((stB 4 ((stT ((stN ((stN ((stB 4 X).2)).2)).2)).2)).2)).2).1]).flatMap attrCell) (by omega) (by rw [List.flatMap_append]; rfl) rfl ?_; intro vv249 w250 H251 hn252
              obtain ⟨pp253, cc254, rfl⟩ := Row.slice H251 (i := 4) rfl
              refine ⟨blk bk241 (.cells #[.string ((stA ((ats j ((stB 4 ((stT ((stN ((stN ((stB 4 X).2)).2)).2)).2)).2)).2)).1.name.v), .int .i64 ((stA ((ats j ((stB 4 ((stT ((stN ((stN ((stB 4 X).2)).2)).2)).2)).2)).2)).1.kind.v), .int .i64 ((stA ((ats j ((stB 4 ((stT ((stN ((stN ((stB 4 X).2)).2)).2)).2)).2)).2)).1.n.v), .string ((stA ((ats j ((stB 4 ((stT ((stN ((stN ((stB 4 X).2)).2)).2)).2)).2)).2)).1.s.v)] 91 (0, 0)) :: blk r (.cells #[.pointer (some ⟨b, 0, none⟩), .int .i64 ((stA ((ats j ((stB 4 ((stT ((stN ((stN ((stB 4 X).2)).2)).2)).2)).2)).2)).2.e)] 126 (0, 0)) :: SrcA b bs q209 :: Row 91 4 (.slice pp253 ((ats j ((stB 4 ((stT ((stN ((stN ((stB 4 X).2)).2)).2)).2)).2)).1.length + 1) cc254) ((ats j ((stB 4 ((stT ((stN ((stN ((stB 4 X).2)).2)).2)).2)).2)).1.length + 1) (((ats j ((stB 4 ((stT ((stN ((stN ((stB 4 X).2)).2)).2)).2)).2)).1 ++ [(stA (ats j ((stB 4 ((stT ((stN ((stN ((stB 4 X).2)).2)).2)).2)).2)).2).1]).flatMap attrCell) :: blk bk16 (.cells #[.int .i64 ((stB 4 X).1 : Int), .int .i64 (tmN (stN ((stB 4 X).2)).1), .int .i64 (tmN (stN ((stN ((stB 4 X).2)).2)).1), .string ((stT ((stN ((stN ((stB 4 X).2)).2)).2)).1), .slice qa ((ats j ((stB 4 ((stT ((stN ((stN ((stB 4 X).2)).2)).2)).2)).2)).1.length) ca] 33 (0, 0)) :: F, ?_, H251⟩
              change FReg _ _ _ _ _ #[true, true, true, true, true, true, false, false] _ _
              refine f_first 6 (listed' := #[true, true, true, true, true, true, true, false]) rfl (by kernel_rfl) (by kernel_rfl) (by kernel_rfl) rfl ?_
              refine f_val rfl rfl rfl (by intro t_ w hw; exact x_fieldAddr 33 3 4 4 31 rfl fi_33_3 rfl w) ?_
              refine f_all (rs := [7]) (by kernel_rfl) (by simp) ?_
              refine a_cons ⟨_, rfl, ?_⟩ (fun x hx => absurd hx (by simp))
              intro w255 H256
              try dsimp only at H256
              refine s_store H256 5 (.slice pp253 ((ats j ((stB 4 ((stT ((stN ((stN ((stB 4 X).2)).2)).2)).2)).2)).1.length + 1) cc254) rfl rfl rfl sz_31 rfl (Nat.le_of_ble_eq_true rfl) rfl (cs' := #[.int .i64 ((stB 4 X).1 : Int), .int .i64 (tmN (stN ((stB 4 X).2)).1), .int .i64 (tmN (stN ((stN ((stB 4 X).2)).2)).1), .string ((stT ((stN ((stN ((stB 4 X).2)).2)).2)).1), .slice pp253 ((ats j ((stB 4 ((stT ((stN ((stN ((stB 4 X).2)).2)).2)).2)).2)).1.length + 1) cc254]) rfl ?_; intro w257 H258
              refine ⟨blk bk241 (.cells #[.string ((stA ((ats j ((stB 4 ((stT ((stN ((stN ((stB 4 X).2)).2)).2)).2)).2)).2)).1.name.v), .int .i64 ((stA ((ats j ((stB 4 ((stT ((stN ((stN ((stB 4 X).2)).2)).2)).2)).2)).2)).1.kind.v), .int .i64 ((stA ((ats j ((stB 4 ((stT ((stN ((stN ((stB 4 X).2)).2)).2)).2)).2)).2)).1.n.v), .string ((stA ((ats j ((stB 4 ((stT ((stN ((stN ((stB 4 X).2)).2)).2)).2)).2)).2)).1.s.v)] 91 (0, 0)) :: blk r (.cells #[.pointer (some ⟨b, 0, none⟩), .int .i64 ((stA ((ats j ((stB 4 ((stT ((stN ((stN ((stB 4 X).2)).2)).2)).2)).2)).2)).2.e)] 126 (0, 0)) :: SrcA b bs q209 :: Row 91 4 (.slice pp253 ((ats j ((stB 4 ((stT ((stN ((stN ((stB 4 X).2)).2)).2)).2)).2)).1.length + 1) cc254) ((ats j ((stB 4 ((stT ((stN ((stN ((stB 4 X).2)).2)).2)).2)).2)).1.length + 1) (((ats j ((stB 4 ((stT ((stN ((stN ((stB 4 X).2)).2)).2)).2)).2)).1 ++ [(stA (ats j ((stB 4 ((stT ((stN ((stN ((stB 4 X).2)).2)).2)).2)).2)).2).1]).flatMap attrCell) :: blk bk16 (.cells #[.int .i64 ((stB 4 X).1 : Int), .int .i64 (tmN (stN ((stB 4 X).2)).1), .int .i64 (tmN (stN ((stN ((stB 4 X).2)).2)).1), .string ((stT ((stN ((stN ((stB 4 X).2)).2)).2)).1), .slice pp253 ((ats j ((stB 4 ((stT ((stN ((stN ((stB 4 X).2)).2)).2)).2)).2)).1.length + 1) cc254] 33 (0, 0)) :: F, ?_, H258⟩
              change FReg _ _ _ _ _ #[true, true, true, true, true, true, true, true] _ _
              refine f_done (by kernel_rfl) ?_
              intro w259 H260
              refine g_inBlock ?_
              refine g_region ?_
              refine r_cons (s_add ((j : Int) + 1) rfl rfl (wi64 (by omega)) rfl ?_)
              refine r_cons (s_move (.int .i64 ((j : Int) + 1)) rfl rfl ?_)
              refine r_nil ?_
              have H261 : St W w259 (Row 91 4 (.slice pp253 ((ats j ((stB 4 ((stT ((stN ((stN ((stB 4 X).2)).2)).2)).2)).2)).1.length + 1) cc254) ((ats j ((stB 4 ((stT ((stN ((stN ((stB 4 X).2)).2)).2)).2)).2)).1.length + 1) (((ats j ((stB 4 ((stT ((stN ((stN ((stB 4 X).2)).2)).2)).2)).2)).1 ++ [(stA (ats j ((stB 4 ((stT ((stN ((stN ((stB 4 X).2)).2)).2)).2)).2)).2).1]).flatMap attrCell) :: blk r (.cells #[.pointer (some ⟨b, 0, none⟩), .int .i64 ((stA ((ats j ((stB 4 ((stT ((stN ((stN ((stB 4 X).2)).2)).2)).2)).2)).2)).2.e)] 126 (0, 0)) :: SrcA b bs q209 :: blk bk16 (.cells #[.int .i64 ((stB 4 X).1 : Int), .int .i64 (tmN (stN ((stB 4 X).2)).1), .int .i64 (tmN (stN ((stN ((stB 4 X).2)).2)).1), .string ((stT ((stN ((stN ((stB 4 X).2)).2)).2)).1), .slice pp253 ((ats j ((stB 4 ((stT ((stN ((stN ((stB 4 X).2)).2)).2)).2)).2)).1.length + 1) cc254] 33 (0, 0)) :: blk bk1 (.cells #[.int .i64 0, .int .i64 0, .int .i64 0, .string ByteArray.empty, .slice none 0 0] 33 (0, 0)) :: F) := (((((H260.move 5 rfl).move 4 rfl).move 4 rfl).move 5 rfl).drop 5 rfl)
              have H262 : St W w259 (Row 91 4 (.slice pp253 ((ats (j + 1) ((stB 4 ((stT ((stN ((stN ((stB 4 X).2)).2)).2)).2)).2)).1.length) cc254) ((ats (j + 1) ((stB 4 ((stT ((stN ((stN ((stB 4 X).2)).2)).2)).2)).2)).1.length) (((ats (j + 1) ((stB 4 ((stT ((stN ((stN ((stB 4 X).2)).2)).2)).2)).2)).1).flatMap attrCell) :: blk r (.cells #[.pointer (some ⟨b, 0, none⟩), .int .i64 ((ats (j + 1) ((stB 4 ((stT ((stN ((stN ((stB 4 X).2)).2)).2)).2)).2)).2.e)] 126 (0, 0)) :: SrcA b bs q209 :: blk bk16 (.cells #[.int .i64 ((stB 4 X).1 : Int), .int .i64 (tmN (stN ((stB 4 X).2)).1), .int .i64 (tmN (stN ((stN ((stB 4 X).2)).2)).1), .string ((stT ((stN ((stN ((stB 4 X).2)).2)).2)).1), .slice pp253 ((ats (j + 1) ((stB 4 ((stT ((stN ((stN ((stB 4 X).2)).2)).2)).2)).2)).1.length) cc254] 33 (0, 0)) :: blk bk1 (.cells #[.int .i64 0, .int .i64 0, .int .i64 0, .string ByteArray.empty, .slice none 0 0] 33 (0, 0)) :: F) := by rw [ats_yes hc171, List.length_append]; exact H261
              exact nx169 (j + 1, q209, pp253, cc254) _ _ ⟨(by omega), (by rw [ats_yes hc171]; exact hR210), hp211, H262⟩ (by first | (dsimp only; omega) | omega) ⟨by first | rfl | exact vint (by omega), by first | rfl | exact vint (by omega), by first | rfl | exact vint (by omega), by first | rfl | exact vint (by omega), by first | rfl | exact vint (by omega), trivial⟩
        · skip
          refine r_cons (s_neq true rfl rfl (nfalse hc171) rfl ?_)
          refine r_nil ?_
          refine g_true rfl ?_
          refine g_exit (by rfl) ?_
          refine g_seq ?_
          refine g_seq ?_
          refine g_region ?_
          refine r_cons (s_move (.pointer (some ⟨r, 0, none⟩)) rfl rfl ?_)
          refine r_cons (s_nilCheck (.pointer (some ⟨r, 0, none⟩)) rfl ⟨_, rfl⟩ rfl ?_)
          refine r_cons (s_fieldAddr 126 1 1 1 24 rfl fi_126_1 rfl rfl ?_)
          refine r_cons (s_load (.int .i64 ((ats j ((stB 4 ((stT ((stN ((stN ((stB 4 X).2)).2)).2)).2)).2)).2.e)) ag_24 rfl (H168.blk_at (i := 1) rfl) rfl rfl ?_)
          refine r_cons (s_eql false rfl rfl (dfalse (by omega)) rfl ?_)
          refine r_nil ?_
          refine g_false rfl ?_
          refine g_skip ?_
          refine g_seq ?_
          refine g_region ?_
          refine r_cons (s_loadAgg [.int .i64 ((stB 4 X).1 : Int), .int .i64 (tmN (stN ((stB 4 X).2)).1), .int .i64 (tmN (stN ((stN ((stB 4 X).2)).2)).1), .string ((stT ((stN ((stN ((stB 4 X).2)).2)).2)).1), .slice qa ((ats j ((stB 4 ((stT ((stN ((stN ((stB 4 X).2)).2)).2)).2)).2)).1.length) ca] 5 ag_33 rfl (H168.blk_at (i := 3) rfl) (Nat.le_of_ble_eq_true rfl) rfl rfl ?_)
          refine r_cons (s_storeAgg H168 4 #[.int .i64 ((stB 4 X).1 : Int), .int .i64 (tmN (stN ((stB 4 X).2)).1), .int .i64 (tmN (stN ((stN ((stB 4 X).2)).2)).1), .string ((stT ((stN ((stN ((stB 4 X).2)).2)).2)).1), .slice qa ((ats j ((stB 4 ((stT ((stN ((stN ((stB 4 X).2)).2)).2)).2)).2)).1.length) ca] 5 rfl rfl rfl sz_33 rfl (by simp [Value.oneCell']) (Nat.le_of_ble_eq_true rfl) (fun o h1 h2 => by first | (simp; done) | (simp; omega)) (cs' := #[.int .i64 ((stB 4 X).1 : Int), .int .i64 (tmN (stN ((stB 4 X).2)).1), .int .i64 (tmN (stN ((stN ((stB 4 X).2)).2)).1), .string ((stT ((stN ((stN ((stB 4 X).2)).2)).2)).1), .slice qa ((ats j ((stB 4 ((stT ((stN ((stN ((stB 4 X).2)).2)).2)).2)).2)).1.length) ca]) rfl ?_); intro w263 H264
          refine r_nil ?_
          refine g_ret' [.agg #[.int .i64 ((stB 4 X).1 : Int), .int .i64 (tmN (stN ((stB 4 X).2)).1), .int .i64 (tmN (stN ((stN ((stB 4 X).2)).2)).1), .string ((stT ((stN ((stN ((stB 4 X).2)).2)).2)).1), .slice qa ((ats j ((stB 4 ((stT ((stN ((stN ((stB 4 X).2)).2)).2)).2)).2)).1.length) ca]] Try.func84 Try.results84 ⟨(res_cellN rfl ag_33 (H264.blk_at (i := 4) rfl) (Nat.le_of_ble_eq_true rfl) rfl), trivial⟩ ?_
          have H265 : St W w263 (blk r (.cells #[.pointer (some ⟨b, 0, none⟩), .int .i64 ((ats j ((stB 4 ((stT ((stN ((stN ((stB 4 X).2)).2)).2)).2)).2)).2.e)] 126 (0, 0)) :: SrcA b bs pj :: F) := (((((H264.move 2 rfl).move 2 rfl).drop 2 rfl).drop 2 rfl).drop 2 rfl)
          have hv7 : (v7 X).e = (ats j ((stB 4 ((stT ((stN ((stN ((stB 4 X).2)).2)).2)).2)).2)).2.e := by have hh := v7_at (X := X) (j := j) hjn (by rw [h6]; exact hc171); rw [h6] at hh; exact hh
          have hC : evC tmN X = (ats j ((stB 4 ((stT ((stN ((stN ((stB 4 X).2)).2)).2)).2)).2)).2.e := by rw [evC_no (by rw [hv7]; exact hc171), hv7]
          exact .inr ⟨by rw [hC]; exact hc171, _, _, _, _, _, _, _, pj, rfl, by rw [hC]; exact H265⟩
      · skip
        refine r_cons (s_lss false rfl rfl (dfalse hc170) rfl ?_)
        refine r_nil ?_
        refine g_seq ?_
        refine g_false rfl ?_
        refine g_exit (by rfl) ?_
        refine g_seq ?_
        refine g_seq ?_
        refine g_region ?_
        refine r_cons (s_move (.pointer (some ⟨r, 0, none⟩)) rfl rfl ?_)
        refine r_cons (s_nilCheck (.pointer (some ⟨r, 0, none⟩)) rfl ⟨_, rfl⟩ rfl ?_)
        refine r_cons (s_fieldAddr 126 1 1 1 24 rfl fi_126_1 rfl rfl ?_)
        refine r_cons (s_load (.int .i64 ((ats j ((stB 4 ((stT ((stN ((stN ((stB 4 X).2)).2)).2)).2)).2)).2.e)) ag_24 rfl (H168.blk_at (i := 1) rfl) rfl rfl ?_)
        by_cases hc266 : (ats j ((stB 4 ((stT ((stN ((stN ((stB 4 X).2)).2)).2)).2)).2)).2.e = 0
        · skip
          refine r_cons (s_eql true rfl rfl (dtrue hc266) rfl ?_)
          refine r_nil ?_
          refine g_true rfl ?_
          refine g_region ?_
          refine r_cons (s_move (.pointer (some ⟨r, 0, none⟩)) rfl rfl ?_)
          have hL : (ats j ((stB 4 ((stT ((stN ((stN ((stB 4 X).2)).2)).2)).2)).2)) = ats (vn X) (v6 X) := by rw [h6, show j = vn X from (by omega : j = (stB 4 ((stT ((stN ((stN ((stB 4 X).2)).2)).2)).2)).1)]
          have hat : (evS tmN X).attrs = (ats j ((stB 4 ((stT ((stN ((stN ((stB 4 X).2)).2)).2)).2)).2)).1 := by rw [hL]; rfl
          have H267 : St W w167 (Row 91 4 (.slice qa ((evS tmN X).attrs.length) ca) ((evS tmN X).attrs.length) (((evS tmN X).attrs).flatMap attrCell) :: blk r (.cells #[.pointer (some ⟨b, 0, none⟩), .int .i64 ((ats j ((stB 4 ((stT ((stN ((stN ((stB 4 X).2)).2)).2)).2)).2)).2.e)] 126 (0, 0)) :: SrcA b bs pj :: blk bk16 (.cells #[.int .i64 ((evS tmN X).src.v), .int .i64 ((evS tmN X).seq.v), .int .i64 ((evS tmN X).time.v), .string ((evS tmN X).typ.v), .slice qa ((evS tmN X).attrs.length) ca] 33 (0, 0)) :: blk bk1 (.cells #[.int .i64 0, .int .i64 0, .int .i64 0, .string ByteArray.empty, .slice none 0 0] 33 (0, 0)) :: F) := by rw [evS_src, evS_seq tm_ok, evS_time tm_ok, evS_typ hxl, hat]; exact H168
          have H268 : St W w167 (Attrs (.slice qa ((evS tmN X).attrs.length) ca) ((evS tmN X).attrs) :: blk r (.cells #[.pointer (some ⟨b, 0, none⟩), .int .i64 ((ats j ((stB 4 ((stT ((stN ((stN ((stB 4 X).2)).2)).2)).2)).2)).2.e)] 126 (0, 0)) :: SrcA b bs pj :: blk bk16 (.cells #[.int .i64 ((evS tmN X).src.v), .int .i64 ((evS tmN X).seq.v), .int .i64 ((evS tmN X).time.v), .string ((evS tmN X).typ.v), .slice qa ((evS tmN X).attrs.length) ca] 33 (0, 0)) :: blk bk1 (.cells #[.int .i64 0, .int .i64 0, .int .i64 0, .string ByteArray.empty, .slice none 0 0] 33 (0, 0)) :: F) := Row.im H267 (i := 0) rfl
          refine r_cons (s_loadAgg [.int .i64 ((evS tmN X).src.v), .int .i64 ((evS tmN X).seq.v), .int .i64 ((evS tmN X).time.v), .string ((evS tmN X).typ.v), .slice qa ((evS tmN X).attrs.length) ca] 5 ag_33 rfl (H268.blk_at (i := 3) rfl) (Nat.le_of_ble_eq_true rfl) rfl rfl ?_)
          refine r_cons (s_call [.agg #[.int .i64 ((evS tmN X).src.v), .int .i64 ((evS tmN X).seq.v), .int .i64 ((evS tmN X).time.v), .string ((evS tmN X).typ.v), .slice qa ((evS tmN X).attrs.length) ca]] pl_17 rfl rfl (event_Check (evS tmN X) (.slice qa ((evS tmN X).attrs.length) ca) (j := 0) rfl H268) ?_)
          rintro _ w269 ⟨rfl, H270⟩
          refine r_cons (s_nilCheck (.pointer (some ⟨r, 0, none⟩)) rfl ⟨_, rfl⟩ rfl ?_)
          refine r_cons (s_fieldAddr 126 1 1 1 24 rfl fi_126_1 rfl rfl ?_)
          refine r_cons (s_store H270 1 (.int .i64 (evE (evS tmN X))) rfl rfl rfl sz_24 rfl (Nat.le_of_ble_eq_true rfl) rfl (cs' := #[.pointer (some ⟨b, 0, none⟩), .int .i64 (evE (evS tmN X))]) rfl ?_); intro w271 H272
          refine r_nil ?_
          refine g_seq ?_
          refine g_region ?_
          refine r_cons (s_loadAgg [.int .i64 ((evS tmN X).src.v), .int .i64 ((evS tmN X).seq.v), .int .i64 ((evS tmN X).time.v), .string ((evS tmN X).typ.v), .slice qa ((evS tmN X).attrs.length) ca] 5 ag_33 rfl (H272.blk_at (i := 3) rfl) (Nat.le_of_ble_eq_true rfl) rfl rfl ?_)
          refine r_cons (s_storeAgg H272 4 #[.int .i64 ((evS tmN X).src.v), .int .i64 ((evS tmN X).seq.v), .int .i64 ((evS tmN X).time.v), .string ((evS tmN X).typ.v), .slice qa ((evS tmN X).attrs.length) ca] 5 rfl rfl rfl sz_33 rfl (by simp [Value.oneCell']) (Nat.le_of_ble_eq_true rfl) (fun o h1 h2 => by first | (simp; done) | (simp; omega)) (cs' := #[.int .i64 ((evS tmN X).src.v), .int .i64 ((evS tmN X).seq.v), .int .i64 ((evS tmN X).time.v), .string ((evS tmN X).typ.v), .slice qa ((evS tmN X).attrs.length) ca]) rfl ?_); intro w273 H274
          refine r_nil ?_
          refine g_ret' [.agg #[.int .i64 ((evS tmN X).src.v), .int .i64 ((evS tmN X).seq.v), .int .i64 ((evS tmN X).time.v), .string ((evS tmN X).typ.v), .slice qa ((evS tmN X).attrs.length) ca]] Try.func84 Try.results84 ⟨(res_cellN rfl ag_33 (H274.blk_at (i := 4) rfl) (Nat.le_of_ble_eq_true rfl) rfl), trivial⟩ ?_
          have H275 : St W w273 (Attrs (.slice qa ((evS tmN X).attrs.length) ca) ((evS tmN X).attrs) :: blk r (.cells #[.pointer (some ⟨b, 0, none⟩), .int .i64 (evE (evS tmN X))] 126 (0, 0)) :: SrcA b bs pj :: F) := (((((H274.move 2 rfl).move 2 rfl).move 2 rfl).drop 3 rfl).drop 3 rfl)
          have h70 : (v7 X).e = 0 := by show (ats (vn X) (v6 X)).2.e = 0; rw [← hL]; exact hc266
          have hC : evC tmN X = evE (evS tmN X) := evC_yes h70
          rcases Decidable.em (evC tmN X = 0) with h0 | h0
          · exact .inl ⟨h0, _, _, pj, rfl, by show _ = (ats (vn X) (v6 X)).2.R; rw [← hL]; exact hRj, hpj, by have hx := H275; rw [← hC, h0] at hx; exact hx⟩
          · exact .inr ⟨h0, _, _, _, _, _, _, _, pj, rfl, by rw [hC]; exact H275.drop 0 rfl⟩
        · skip
          refine r_cons (s_eql false rfl rfl (dfalse hc266) rfl ?_)
          refine r_nil ?_
          refine g_false rfl ?_
          refine g_skip ?_
          refine g_seq ?_
          refine g_region ?_
          refine r_cons (s_loadAgg [.int .i64 ((stB 4 X).1 : Int), .int .i64 (tmN (stN ((stB 4 X).2)).1), .int .i64 (tmN (stN ((stN ((stB 4 X).2)).2)).1), .string ((stT ((stN ((stN ((stB 4 X).2)).2)).2)).1), .slice qa ((ats j ((stB 4 ((stT ((stN ((stN ((stB 4 X).2)).2)).2)).2)).2)).1.length) ca] 5 ag_33 rfl (H168.blk_at (i := 3) rfl) (Nat.le_of_ble_eq_true rfl) rfl rfl ?_)
          refine r_cons (s_storeAgg H168 4 #[.int .i64 ((stB 4 X).1 : Int), .int .i64 (tmN (stN ((stB 4 X).2)).1), .int .i64 (tmN (stN ((stN ((stB 4 X).2)).2)).1), .string ((stT ((stN ((stN ((stB 4 X).2)).2)).2)).1), .slice qa ((ats j ((stB 4 ((stT ((stN ((stN ((stB 4 X).2)).2)).2)).2)).2)).1.length) ca] 5 rfl rfl rfl sz_33 rfl (by simp [Value.oneCell']) (Nat.le_of_ble_eq_true rfl) (fun o h1 h2 => by first | (simp; done) | (simp; omega)) (cs' := #[.int .i64 ((stB 4 X).1 : Int), .int .i64 (tmN (stN ((stB 4 X).2)).1), .int .i64 (tmN (stN ((stN ((stB 4 X).2)).2)).1), .string ((stT ((stN ((stN ((stB 4 X).2)).2)).2)).1), .slice qa ((ats j ((stB 4 ((stT ((stN ((stN ((stB 4 X).2)).2)).2)).2)).2)).1.length) ca]) rfl ?_); intro w276 H277
          refine r_nil ?_
          refine g_ret' [.agg #[.int .i64 ((stB 4 X).1 : Int), .int .i64 (tmN (stN ((stB 4 X).2)).1), .int .i64 (tmN (stN ((stN ((stB 4 X).2)).2)).1), .string ((stT ((stN ((stN ((stB 4 X).2)).2)).2)).1), .slice qa ((ats j ((stB 4 ((stT ((stN ((stN ((stB 4 X).2)).2)).2)).2)).2)).1.length) ca]] Try.func84 Try.results84 ⟨(res_cellN rfl ag_33 (H277.blk_at (i := 4) rfl) (Nat.le_of_ble_eq_true rfl) rfl), trivial⟩ ?_
          have H278 : St W w276 (blk r (.cells #[.pointer (some ⟨b, 0, none⟩), .int .i64 ((ats j ((stB 4 ((stT ((stN ((stN ((stB 4 X).2)).2)).2)).2)).2)).2.e)] 126 (0, 0)) :: SrcA b bs pj :: F) := (((((H277.move 2 rfl).move 2 rfl).drop 2 rfl).drop 2 rfl).drop 2 rfl)
          have hv7 : (v7 X).e = (ats j ((stB 4 ((stT ((stN ((stN ((stB 4 X).2)).2)).2)).2)).2)).2.e := by have hh := v7_at (X := X) (j := j) hjn (by rw [h6]; exact hc266); rw [h6] at hh; exact hh
          have hC : evC tmN X = (ats j ((stB 4 ((stT ((stN ((stN ((stB 4 X).2)).2)).2)).2)).2)).2.e := by rw [evC_no (by rw [hv7]; exact hc266), hv7]
          exact .inr ⟨by rw [hC]; exact hc266, _, _, _, _, _, _, _, pj, rfl, by rw [hC]; exact H278⟩
set_option maxHeartbeats 4000000 in
set_option maxRecDepth 100000 in
theorem event_Take {W w : World} {F : List Atom} (b : Nat) (bs : List UInt8) (p : Nat) (hp : p ≤ 8 * bs.length) (hb : bs.length ≤ 140737488355328) {i : Nat} (hi : F[i]? = some (SrcA b bs p)) (H : St W w F) : Calls Try.prog 52 #[.pointer (some ⟨b, 0, none⟩)] w (Ret fun v w' => ∃ q n c p', v = .tuple #[.agg #[.int .i64 ((tkV (remB bs p)).src.v), .int .i64 ((tkV (remB bs p)).seq.v), .int .i64 ((tkV (remB bs p)).time.v), .string ((tkV (remB bs p)).typ.v), .slice q n c], .int .i64 (tkE (remB bs p))] ∧ n = (tkV (remB bs p)).attrs.length ∧ remB bs p' = tkR (remB bs p) ∧ p' ≤ 8 * bs.length ∧ St W w' (Attrs (.slice q n c) (tkV (remB bs p)).attrs :: F.set i (SrcA b bs p'))) := by
  have H0 := H.front hi
  refine calls_of_go (n := 39) Try.func52 rfl Try.ntmps52 rfl ?_
  refine g_seq ?_
  refine g_region ?_
  refine r_cons (s_alloc H0 33 ze_33 rfl ?_); intro bk1 w2 H3
  refine r_cons (s_assign (.int .i64 0) rfl rfl ?_)
  refine r_nil ?_
  refine g_seq ?_
  refine g_seq ?_
  refine g_region ?_
  refine r_cons (s_move (.pointer (some ⟨b, 0, none⟩)) rfl rfl ?_)
  refine r_cons (s_call [.pointer (some ⟨b, 0, none⟩), .int .i64 0] pl_51 rfl rfl (Src_Bits b bs p (by first | omega | decide +kernel | (repeat (first | assumption | exact Nat.zero_le _ | refine natN_pos ?_ | refine srcN_pos ?_ | refine textN_pos ?_))) (by first | omega | decide +kernel) 0  (i := 1) rfl H3) ?_)
  rintro _ w4 ⟨rfl, H5⟩
  refine r_cons (s_move (.tuple #[.int .u64 (srcU (remB bs p) 0 : Int), .int .i64 (srcE (remB bs p) 0)]) rfl rfl ?_)
  refine r_cons (s_extract (.int .u64 (srcU (remB bs p) 0 : Int)) #[.int .u64 (srcU (remB bs p) 0 : Int), .int .i64 (srcE (remB bs p) 0)] rfl rfl rfl ?_)
  refine r_cons (s_extract (.int .i64 (srcE (remB bs p) 0)) #[.int .u64 (srcU (remB bs p) 0 : Int), .int .i64 (srcE (remB bs p) 0)] rfl rfl rfl ?_)
  refine r_cons (s_assign (.int .u64 (srcU (remB bs p) 0 : Int)) rfl rfl ?_)
  refine r_cons (s_assign (.int .i64 (srcE (remB bs p) 0)) rfl rfl ?_)
  refine r_nil ?_
  refine g_seq ?_
  refine g_region ?_
  refine r_cons (s_move (.int .i64 (srcE (remB bs p) 0)) rfl rfl ?_)
  refine r_cons (s_eql false rfl rfl (dfalse (by rw [srcE_0 (by omega) (by omega)]; decide)) rfl ?_)
  refine r_nil ?_
  refine g_false rfl ?_
  refine g_skip ?_
  refine g_seq ?_
  refine g_region ?_
  have hz : p + srcN (remB bs p) 0 = p := by rw [srcN_0 (srcE_0 (by omega) (by omega))]; rfl
  have H6 : St W w4 (blk bk1 (.cells #[.int .i64 0, .int .i64 0, .int .i64 0, .string ByteArray.empty, .slice none 0 0] 33 (0, 0)) :: SrcA b bs p :: (F.set i emp)) := by have hx := H5; rw [hz] at hx; exact hx
  refine r_cons (s_move (.pointer (some ⟨b, 0, none⟩)) rfl rfl ?_)
  refine r_cons (s_nilCheck (.pointer (some ⟨b, 0, none⟩)) rfl ⟨_, rfl⟩ rfl ?_)
  have H7 := H6.move 1 rfl
  obtain ⟨vv8, H9⟩ := St.open_ex H7
  have H10 := St.open_star H9
  obtain ⟨pp11, cc12, gA13, oA14, kA15, eA16, zA17, rfl, hn18, hp19, hx20, hs21, hml, H22⟩ := Im.open_ H10 (i := 1) rfl
  have H23 : St W w4 (imi (0 < bs.length) gA13 (.cells kA15 eA16 zA17) :: blk b (.cells #[.bool true, .slice pp11 bs.length cc12, .int .i64 ((p : Nat) : Int)] 121 (0, 0)) :: Im 1 (.slice pp11 bs.length cc12) bs.length (bs.flatMap u8c) :: blk bk1 (.cells #[.int .i64 0, .int .i64 0, .int .i64 0, .string ByteArray.empty, .slice none 0 0] 33 (0, 0)) :: (F.set i emp)) := H22
  refine r_cons (s_loadAgg [.bool true, .slice pp11 bs.length cc12, .int .i64 ((p : Nat) : Int)] 3 ag_121 rfl (H23.blk_at (i := 1) rfl) (Nat.le_of_ble_eq_true rfl) rfl rfl ?_)
  refine r_cons (s_alloc H23 121 ze_121 rfl ?_); intro bk24 w25 H26
  refine r_cons (s_storeAgg H26 0 #[.bool true, .slice pp11 bs.length cc12, .int .i64 ((p : Nat) : Int)] 3 rfl rfl rfl sz_121 rfl (by simp [Value.oneCell']) (Nat.le_of_ble_eq_true rfl) (fun o h1 h2 => by first | (simp; done) | (simp; omega)) (cs' := #[.bool true, .slice pp11 bs.length cc12, .int .i64 ((p : Nat) : Int)]) rfl ?_); intro w27 H28
  refine r_nil ?_
  refine g_seq ?_
  refine g_region ?_
  have H29 := H28.dup (i := 3) rfl (Im_pers _ _ _ _)
  refine r_cons (s_move (.pointer (some ⟨b, 0, none⟩)) rfl rfl ?_)
  refine r_cons (s_build (cs := #[.pointer (some ⟨b, 0, none⟩), .int .i64 0]) (by kernel_rfl) rfl ?_)
  refine r_cons (s_box H29 126 (.agg #[.pointer (some ⟨b, 0, none⟩), .int .i64 0]) rfl (cs := #[.pointer (some ⟨b, 0, none⟩), .int .i64 0]) rfl rfl ?_); intro bk30 w31 H32
  refine r_cons (s_assign (.pointer (some ⟨bk30, 0, none⟩)) rfl rfl ?_)
  refine r_nil ?_
  refine g_seq ?_
  refine g_region ?_
  refine r_cons (s_move (.pointer (some ⟨bk30, 0, none⟩)) rfl rfl ?_)
  have H33 : St W w31 (blk b (.cells #[.bool true, .slice pp11 bs.length cc12, .int .i64 ((p : Nat) : Int)] 121 (0, 0)) :: Im 1 (.slice pp11 bs.length cc12) bs.length (bs.flatMap u8c) :: blk bk30 (.cells #[.pointer (some ⟨b, 0, none⟩), .int .i64 0] 126 (0, 0)) :: blk bk24 (.cells #[.bool true, .slice pp11 bs.length cc12, .int .i64 ((p : Nat) : Int)] 121 (0, 0)) :: Im 1 (.slice pp11 bs.length cc12) bs.length (bs.flatMap u8c) :: blk bk1 (.cells #[.int .i64 0, .int .i64 0, .int .i64 0, .string ByteArray.empty, .slice none 0 0] 33 (0, 0)) :: (F.set i emp)) := (((((((H32.move 6 rfl).move 6 rfl).move 4 rfl).move 3 rfl).move 4 rfl).move 6 rfl).drop 6 rfl)
  have H34 : St W w31 (SrcA b bs p :: blk bk30 (.cells #[.pointer (some ⟨b, 0, none⟩), .int .i64 0] 126 (0, 0)) :: blk bk24 (.cells #[.bool true, .slice pp11 bs.length cc12, .int .i64 ((p : Nat) : Int)] 121 (0, 0)) :: Im 1 (.slice pp11 bs.length cc12) bs.length (bs.flatMap u8c) :: blk bk1 (.cells #[.int .i64 0, .int .i64 0, .int .i64 0, .string ByteArray.empty, .slice none 0 0] 33 (0, 0)) :: (F.set i emp)) := St.shut_ex (.slice pp11 bs.length cc12) (St.shut_star (ls := [blk b (.cells #[.bool true, .slice pp11 bs.length cc12, .int .i64 ((p : Nat) : Int)] 121 (0, 0)), Im 1 (.slice pp11 bs.length cc12) bs.length (bs.flatMap u8c)]) H33)
  have H35 : St W w31 (blk bk30 (.cells #[.pointer (some ⟨b, 0, none⟩), .int .i64 0] 126 (0, 0)) :: SrcA b bs p :: blk bk24 (.cells #[.bool true, .slice pp11 bs.length cc12, .int .i64 ((p : Nat) : Int)] 121 (0, 0)) :: Im 1 (.slice pp11 bs.length cc12) bs.length (bs.flatMap u8c) :: blk bk1 (.cells #[.int .i64 0, .int .i64 0, .int .i64 0, .string ByteArray.empty, .slice none 0 0] 33 (0, 0)) :: (F.set i emp)) := (((((H34.move 4 rfl).move 4 rfl).move 4 rfl).move 3 rfl).move 4 rfl)
  have H36 : St W w31 (blk bk30 (.cells #[.pointer (some ⟨b, 0, none⟩), .int .i64 ((⟨0, remB bs p⟩ : RX).e)] 126 (0, 0)) :: SrcA b bs p :: blk bk24 (.cells #[.bool true, .slice pp11 bs.length cc12, .int .i64 ((p : Nat) : Int)] 121 (0, 0)) :: Im 1 (.slice pp11 bs.length cc12) bs.length (bs.flatMap u8c) :: blk bk1 (.cells #[.int .i64 0, .int .i64 0, .int .i64 0, .string ByteArray.empty, .slice none 0 0] 33 (0, 0)) :: (F.set i emp)) := H35
  refine r_cons (s_call [.pointer (some ⟨bk30, 0, none⟩)] pl_84 rfl rfl (ev_event bk30 b bs p (⟨0, remB bs p⟩ : RX) rfl (by first | omega | decide +kernel | (repeat (first | assumption | exact Nat.zero_le _ | refine natN_pos ?_ | refine srcN_pos ?_ | refine textN_pos ?_))) (by omega) H36) ?_)
  rintro _ w49 (⟨he40, pp42, cc43, q37, rfl, hR38, hp39, H41⟩ | ⟨he40, sx45, sx46, sx47, sx48, pp42, NN44, cc43, q37, rfl, H41⟩)
  · skip
    refine r_cons (s_alloc H41 33 ze_33 rfl ?_); intro bk50 w51 H52
    refine r_cons (s_storeAgg H52 0 #[.int .i64 ((evS tmN (⟨0, remB bs p⟩ : RX)).src.v), .int .i64 ((evS tmN (⟨0, remB bs p⟩ : RX)).seq.v), .int .i64 ((evS tmN (⟨0, remB bs p⟩ : RX)).time.v), .string ((evS tmN (⟨0, remB bs p⟩ : RX)).typ.v), .slice pp42 ((evS tmN (⟨0, remB bs p⟩ : RX)).attrs.length) cc43] 5 rfl rfl rfl sz_33 rfl (by simp [Value.oneCell']) (Nat.le_of_ble_eq_true rfl) (fun o h1 h2 => by first | (simp; done) | (simp; omega)) (cs' := #[.int .i64 ((evS tmN (⟨0, remB bs p⟩ : RX)).src.v), .int .i64 ((evS tmN (⟨0, remB bs p⟩ : RX)).seq.v), .int .i64 ((evS tmN (⟨0, remB bs p⟩ : RX)).time.v), .string ((evS tmN (⟨0, remB bs p⟩ : RX)).typ.v), .slice pp42 ((evS tmN (⟨0, remB bs p⟩ : RX)).attrs.length) cc43]) rfl ?_); intro w53 H54
    refine r_nil ?_
    refine g_seq ?_
    refine g_seq ?_
    refine g_region ?_
    refine r_cons (s_move (.pointer (some ⟨bk30, 0, none⟩)) rfl rfl ?_)
    refine r_cons (s_nilCheck (.pointer (some ⟨bk30, 0, none⟩)) rfl ⟨_, rfl⟩ rfl ?_)
    refine r_cons (s_fieldAddr 126 1 1 1 24 rfl fi_126_1 rfl rfl ?_)
    refine r_cons (s_load (.int .i64 0) ag_24 rfl (H54.blk_at (i := 2) rfl) rfl rfl ?_)
    refine r_cons (s_neq false rfl rfl (ntrue (by decide)) rfl ?_)
    refine r_nil ?_
    refine g_false rfl ?_
    refine g_skip ?_
    refine g_seq ?_
    refine g_region ?_
    refine r_cons (s_loadAgg [.int .i64 ((evS tmN (⟨0, remB bs p⟩ : RX)).src.v), .int .i64 ((evS tmN (⟨0, remB bs p⟩ : RX)).seq.v), .int .i64 ((evS tmN (⟨0, remB bs p⟩ : RX)).time.v), .string ((evS tmN (⟨0, remB bs p⟩ : RX)).typ.v), .slice pp42 ((evS tmN (⟨0, remB bs p⟩ : RX)).attrs.length) cc43] 5 ag_33 rfl (H54.blk_at (i := 0) rfl) (Nat.le_of_ble_eq_true rfl) rfl rfl ?_)
    refine r_cons (s_storeAgg H54 6 #[.int .i64 ((evS tmN (⟨0, remB bs p⟩ : RX)).src.v), .int .i64 ((evS tmN (⟨0, remB bs p⟩ : RX)).seq.v), .int .i64 ((evS tmN (⟨0, remB bs p⟩ : RX)).time.v), .string ((evS tmN (⟨0, remB bs p⟩ : RX)).typ.v), .slice pp42 ((evS tmN (⟨0, remB bs p⟩ : RX)).attrs.length) cc43] 5 rfl rfl rfl sz_33 rfl (by simp [Value.oneCell']) (Nat.le_of_ble_eq_true rfl) (fun o h1 h2 => by first | (simp; done) | (simp; omega)) (cs' := #[.int .i64 ((evS tmN (⟨0, remB bs p⟩ : RX)).src.v), .int .i64 ((evS tmN (⟨0, remB bs p⟩ : RX)).seq.v), .int .i64 ((evS tmN (⟨0, remB bs p⟩ : RX)).time.v), .string ((evS tmN (⟨0, remB bs p⟩ : RX)).typ.v), .slice pp42 ((evS tmN (⟨0, remB bs p⟩ : RX)).attrs.length) cc43]) rfl ?_); intro w55 H56
    refine r_cons (s_assign (.int .i64 0) rfl rfl ?_)
    refine r_nil ?_
    refine g_ret' [.agg #[.int .i64 ((evS tmN (⟨0, remB bs p⟩ : RX)).src.v), .int .i64 ((evS tmN (⟨0, remB bs p⟩ : RX)).seq.v), .int .i64 ((evS tmN (⟨0, remB bs p⟩ : RX)).time.v), .string ((evS tmN (⟨0, remB bs p⟩ : RX)).typ.v), .slice pp42 ((evS tmN (⟨0, remB bs p⟩ : RX)).attrs.length) cc43], .int .i64 0] Try.func52 Try.results52 ⟨(res_cellN rfl ag_33 (H56.blk_at (i := 6) rfl) (Nat.le_of_ble_eq_true rfl) rfl), rfl, trivial⟩ ?_
    have hE : tkE (remB bs p) = 0 := he40
    have H57 : St W w55 (SrcA b bs q37 :: Attrs (.slice pp42 ((evS tmN (⟨0, remB bs p⟩ : RX)).attrs.length) cc43) ((evS tmN (⟨0, remB bs p⟩ : RX)).attrs) :: (F.set i emp)) := (((((((H56.move 1 rfl).move 3 rfl).drop 2 rfl).drop 2 rfl).drop 2 rfl).drop 2 rfl).drop 2 rfl)
    have H58 : St W w55 (SrcA b bs q37 :: (Attrs (.slice pp42 ((evS tmN (⟨0, remB bs p⟩ : RX)).attrs.length) cc43) ((evS tmN (⟨0, remB bs p⟩ : RX)).attrs) :: F).set (i + 1) emp) := H57
    exact ⟨_, _, _, _, by rw [tkV_yes hE, hE]; rfl, by rw [tkV_yes hE], by rw [tkR_yes hE]; exact hR38, hp39, by rw [tkV_yes hE]; exact St.back (i := i + 1) (by exact hi) H58⟩
  · skip
    refine r_cons (s_alloc H41 33 ze_33 rfl ?_); intro bk59 w60 H61
    refine r_cons (s_storeAgg H61 0 #[.int .i64 sx45, .int .i64 sx46, .int .i64 sx47, .string sx48, .slice pp42 NN44 cc43] 5 rfl rfl rfl sz_33 rfl (by simp [Value.oneCell']) (Nat.le_of_ble_eq_true rfl) (fun o h1 h2 => by first | (simp; done) | (simp; omega)) (cs' := #[.int .i64 sx45, .int .i64 sx46, .int .i64 sx47, .string sx48, .slice pp42 NN44 cc43]) rfl ?_); intro w62 H63
    refine r_nil ?_
    refine g_seq ?_
    refine g_seq ?_
    refine g_region ?_
    refine r_cons (s_move (.pointer (some ⟨bk30, 0, none⟩)) rfl rfl ?_)
    refine r_cons (s_nilCheck (.pointer (some ⟨bk30, 0, none⟩)) rfl ⟨_, rfl⟩ rfl ?_)
    refine r_cons (s_fieldAddr 126 1 1 1 24 rfl fi_126_1 rfl rfl ?_)
    refine r_cons (s_load (.int .i64 (evC tmN (⟨0, remB bs p⟩ : RX))) ag_24 rfl (H63.blk_at (i := 1) rfl) rfl rfl ?_)
    refine r_cons (s_neq true rfl rfl (nfalse (by omega)) rfl ?_)
    refine r_nil ?_
    refine g_true rfl ?_
    refine g_seq ?_
    refine g_region ?_
    refine r_cons (s_move (.pointer (some ⟨b, 0, none⟩)) rfl rfl ?_)
    refine r_cons (s_loadAgg [.bool true, .slice pp11 bs.length cc12, .int .i64 ((p : Nat) : Int)] 3 ag_121 rfl (H63.blk_at (i := 3) rfl) (Nat.le_of_ble_eq_true rfl) rfl rfl ?_)
    refine r_cons (s_nilCheck (.pointer (some ⟨b, 0, none⟩)) rfl ⟨_, rfl⟩ rfl ?_)
    have H64 := H63.move 2 rfl
    obtain ⟨vv65, H66⟩ := St.open_ex H64
    have H67 := St.open_star H66
    obtain ⟨pp68, cc69, gA70, oA71, kA72, eA73, zA74, rfl, hn75, hp76, hx77, hs78, hml, H79⟩ := Im.open_ H67 (i := 1) rfl
    have H80 : St W w62 (imi (0 < bs.length) gA70 (.cells kA72 eA73 zA74) :: blk b (.cells #[.bool true, .slice pp68 bs.length cc69, .int .i64 ((q37 : Nat) : Int)] 121 (0, 0)) :: Im 1 (.slice pp68 bs.length cc69) bs.length (bs.flatMap u8c) :: blk bk59 (.cells #[.int .i64 sx45, .int .i64 sx46, .int .i64 sx47, .string sx48, .slice pp42 NN44 cc43] 33 (0, 0)) :: blk bk30 (.cells #[.pointer (some ⟨b, 0, none⟩), .int .i64 (evC tmN (⟨0, remB bs p⟩ : RX))] 126 (0, 0)) :: blk bk24 (.cells #[.bool true, .slice pp11 bs.length cc12, .int .i64 ((p : Nat) : Int)] 121 (0, 0)) :: Im 1 (.slice pp11 bs.length cc12) bs.length (bs.flatMap u8c) :: blk bk1 (.cells #[.int .i64 0, .int .i64 0, .int .i64 0, .string ByteArray.empty, .slice none 0 0] 33 (0, 0)) :: (F.set i emp)) := H79
    refine r_cons (s_storeAgg H80 1 #[.bool true, .slice pp11 bs.length cc12, .int .i64 ((p : Nat) : Int)] 3 rfl rfl rfl sz_121 rfl (by simp [Value.oneCell']) (Nat.le_of_ble_eq_true rfl) (fun o h1 h2 => by first | (simp; done) | (simp; omega)) (cs' := #[.bool true, .slice pp11 bs.length cc12, .int .i64 ((p : Nat) : Int)]) rfl ?_); intro w81 H82
    refine r_nil ?_
    refine g_seq ?_
    refine g_mix (fun t_ w => St W w (imi (0 < bs.length) gA70 (.cells kA72 eA73 zA74) :: blk b (.cells #[.bool true, .slice pp11 bs.length cc12, .int .i64 ((p : Nat) : Int)] 121 (0, 0)) :: Im 1 (.slice pp68 bs.length cc69) bs.length (bs.flatMap u8c) :: blk bk59 (.cells #[.int .i64 sx45, .int .i64 sx46, .int .i64 sx47, .string sx48, .slice pp42 NN44 cc43] 33 (0, 0)) :: blk bk30 (.cells #[.pointer (some ⟨b, 0, none⟩), .int .i64 (evC tmN (⟨0, remB bs p⟩ : RX))] 126 (0, 0)) :: blk bk24 (.cells #[.bool true, .slice pp11 bs.length cc12, .int .i64 ((p : Nat) : Int)] 121 (0, 0)) :: Im 1 (.slice pp11 bs.length cc12) bs.length (bs.flatMap u8c) :: t_)) (blk bk1 (.cells #[.int .i64 0, .int .i64 0, .int .i64 0, .string ByteArray.empty, .slice none 0 0] 33 (0, 0)) :: (F.set i emp)) mixed 7 rfl H82.drew ?_
    refine f_first 0 (listed' := #[true, false, false, false, false, false, false]) rfl (by kernel_rfl) (by kernel_rfl) (by kernel_rfl) rfl ?_
    refine f_val rfl rfl rfl (by intro t_ w hw; exact x_build (cs := #[.int .i64 0, .int .i64 0, .int .i64 0, .string ByteArray.empty, .slice none 0 0]) (by kernel_rfl) w) ?_
    refine f_first 1 (listed' := #[true, true, false, false, false, false, false]) rfl (by kernel_rfl) (by kernel_rfl) (by kernel_rfl) rfl ?_
    refine f_val rfl rfl rfl (by intro t_ w hw; exact x_move (.pointer (some ⟨bk30, 0, none⟩)) rfl w) ?_
    refine f_first 2 (listed' := #[true, true, true, false, false, false, false]) rfl (by kernel_rfl) (by kernel_rfl) (by kernel_rfl) rfl ?_
    refine f_val rfl rfl rfl (by intro t_ w hw; exact x_nilCheck (.pointer (some ⟨bk30, 0, none⟩)) rfl ⟨_, rfl⟩ w) ?_
    refine f_first 3 (listed' := #[true, true, true, true, false, false, false]) rfl (by kernel_rfl) (by kernel_rfl) (by kernel_rfl) rfl ?_
    refine f_val rfl rfl rfl (by intro t_ w hw; exact x_fieldAddr 126 1 1 1 24 rfl fi_126_1 rfl w) ?_
    refine f_first 4 (listed' := #[true, true, true, true, true, false, false]) rfl (by kernel_rfl) (by kernel_rfl) (by kernel_rfl) rfl ?_
    refine f_val rfl rfl rfl (by intro t_ w hw; exact x_load (.int .i64 (evC tmN (⟨0, remB bs p⟩ : RX))) ag_24 rfl (hw.blk_at (i := 4) rfl) rfl) ?_
    refine f_all (rs := [5]) (by kernel_rfl) (by simp) ?_
    refine a_cons ⟨_, rfl, ?_⟩ (fun x hx => absurd hx (by simp))
    intro w83 H84
    try dsimp only at H84
    refine s_storeAgg H84 7 #[.int .i64 0, .int .i64 0, .int .i64 0, .string ByteArray.empty, .slice none 0 0] 5 rfl rfl rfl sz_33 rfl (by simp [Value.oneCell']) (Nat.le_of_ble_eq_true rfl) (fun o h1 h2 => by first | (simp; done) | (simp; omega)) (cs' := #[.int .i64 0, .int .i64 0, .int .i64 0, .string ByteArray.empty, .slice none 0 0]) rfl ?_; intro w85 H86
    refine ⟨blk bk1 (.cells #[.int .i64 0, .int .i64 0, .int .i64 0, .string ByteArray.empty, .slice none 0 0] 33 (0, 0)) :: (F.set i emp), ?_, H86⟩
    change FReg _ _ _ _ _ #[true, true, true, true, true, true, false] _ _
    refine f_first 6 (listed' := #[true, true, true, true, true, true, true]) rfl (by kernel_rfl) (by kernel_rfl) (by kernel_rfl) rfl ?_
    refine f_val rfl rfl rfl (by intro t_ w hw; exact x_assign (.int .i64 (evC tmN (⟨0, remB bs p⟩ : RX))) rfl w) ?_
    refine f_done (by kernel_rfl) ?_
    intro w87 H88
    refine g_ret' [.agg #[.int .i64 0, .int .i64 0, .int .i64 0, .string ByteArray.empty, .slice none 0 0], .int .i64 (evC tmN (⟨0, remB bs p⟩ : RX))] Try.func52 Try.results52 ⟨(res_cellN rfl ag_33 (H88.blk_at (i := 7) rfl) (Nat.le_of_ble_eq_true rfl) rfl), rfl, trivial⟩ ?_
    have H89 : St W w87 (blk b (.cells #[.bool true, .slice pp11 bs.length cc12, .int .i64 ((p : Nat) : Int)] 121 (0, 0)) :: Im 1 (.slice pp11 bs.length cc12) bs.length (bs.flatMap u8c) :: Im 1 (.slice pp68 bs.length cc69) bs.length (bs.flatMap u8c) :: blk bk59 (.cells #[.int .i64 sx45, .int .i64 sx46, .int .i64 sx47, .string sx48, .slice pp42 NN44 cc43] 33 (0, 0)) :: blk bk30 (.cells #[.pointer (some ⟨b, 0, none⟩), .int .i64 (evC tmN (⟨0, remB bs p⟩ : RX))] 126 (0, 0)) :: blk bk24 (.cells #[.bool true, .slice pp11 bs.length cc12, .int .i64 ((p : Nat) : Int)] 121 (0, 0)) :: blk bk1 (.cells #[.int .i64 0, .int .i64 0, .int .i64 0, .string ByteArray.empty, .slice none 0 0] 33 (0, 0)) :: (F.set i emp)) := ((((((((H88.move 7 rfl).move 6 rfl).move 6 rfl).move 6 rfl).move 6 rfl).move 7 rfl).move 7 rfl).drop 7 rfl)
    have H90 : St W w87 (SrcA b bs p :: Im 1 (.slice pp68 bs.length cc69) bs.length (bs.flatMap u8c) :: blk bk59 (.cells #[.int .i64 sx45, .int .i64 sx46, .int .i64 sx47, .string sx48, .slice pp42 NN44 cc43] 33 (0, 0)) :: blk bk30 (.cells #[.pointer (some ⟨b, 0, none⟩), .int .i64 (evC tmN (⟨0, remB bs p⟩ : RX))] 126 (0, 0)) :: blk bk24 (.cells #[.bool true, .slice pp11 bs.length cc12, .int .i64 ((p : Nat) : Int)] 121 (0, 0)) :: blk bk1 (.cells #[.int .i64 0, .int .i64 0, .int .i64 0, .string ByteArray.empty, .slice none 0 0] 33 (0, 0)) :: (F.set i emp)) := St.shut_ex (.slice pp11 bs.length cc12) (St.shut_star (ls := [blk b (.cells #[.bool true, .slice pp11 bs.length cc12, .int .i64 ((p : Nat) : Int)] 121 (0, 0)), Im 1 (.slice pp11 bs.length cc12) bs.length (bs.flatMap u8c)]) H89)
    have hE : ¬ tkE (remB bs p) = 0 := he40
    have H91 : St W w87 (Attrs (.slice none 0 0) [] :: SrcA b bs p :: Im 1 (.slice pp68 bs.length cc69) bs.length (bs.flatMap u8c) :: blk bk59 (.cells #[.int .i64 sx45, .int .i64 sx46, .int .i64 sx47, .string sx48, .slice pp42 NN44 cc43] 33 (0, 0)) :: blk bk30 (.cells #[.pointer (some ⟨b, 0, none⟩), .int .i64 (evC tmN (⟨0, remB bs p⟩ : RX))] 126 (0, 0)) :: blk bk24 (.cells #[.bool true, .slice pp11 bs.length cc12, .int .i64 ((p : Nat) : Int)] 121 (0, 0)) :: blk bk1 (.cells #[.int .i64 0, .int .i64 0, .int .i64 0, .string ByteArray.empty, .slice none 0 0] 33 (0, 0)) :: (F.set i emp)) := Row.im (Row.nil_intro H90 91 4) (i := 0) rfl
    have H92 : St W w87 (SrcA b bs p :: Attrs (.slice none 0 0) [] :: (F.set i emp)) := ((((((H91.move 1 rfl).drop 2 rfl).drop 2 rfl).drop 2 rfl).drop 2 rfl).drop 2 rfl)
    have H93 : St W w87 (SrcA b bs p :: (Attrs (.slice none 0 0) [] :: F).set (i + 1) emp) := H92
    exact ⟨none, 0, 0, p, by rw [tkV_no hE]; rfl, by rw [tkV_no hE]; rfl, by rw [tkR_no hE], hp, by rw [tkV_no hE]; exact St.back (i := i + 1) (by exact hi) H93⟩
set_option maxHeartbeats 4000000 in
set_option maxRecDepth 100000 in
theorem event_Parse {W w : World} {F : List Atom} (bs : List UInt8) (bv : Value) (hb : bs.length ≤ 140737488355328) {j : Nat} (hj : F[j]? = some (Im 1 bv bs.length (bs.flatMap u8c))) (H : St W w F) : Calls Try.prog 47 #[bv] w (Ret fun v w' => ∃ q n c, v = .tuple #[.agg #[.int .i64 ((psV (remB bs 0)).src.v), .int .i64 ((psV (remB bs 0)).seq.v), .int .i64 ((psV (remB bs 0)).time.v), .string ((psV (remB bs 0)).typ.v), .slice q n c], .int .i64 (psE (remB bs 0))] ∧ n = (psV (remB bs 0)).attrs.length ∧ St W w' (Attrs (.slice q n c) (psV (remB bs 0)).attrs :: F)) := by
  have H1 := H.dup hj (Im_pers _ _ _ _)
  obtain ⟨pp2, cc3, rfl, hn4⟩ := Rd.shape (Im.rd H1 (i := 0) rfl)
  refine calls_of_go (n := 23) Try.func47 rfl Try.ntmps47 rfl ?_
  refine g_seq ?_
  refine g_region ?_
  refine r_cons (s_alloc H1 33 ze_33 rfl ?_); intro bk6 w7 H8
  refine r_cons (s_assign (.int .i64 0) rfl rfl ?_)
  refine r_nil ?_
  refine g_seq ?_
  refine g_region ?_
  refine r_cons (s_move (.slice pp2 bs.length cc3) rfl rfl ?_)
  refine r_cons (s_call [.slice pp2 bs.length cc3] pl_49 rfl rfl (NewSource _ _ bs (RdA.im) (by first | omega | decide) (j := 1) rfl H8) ?_)
  rintro _ w10 ⟨bk9, rfl, H11⟩
  refine r_cons (s_assign (.pointer (some ⟨bk9, 0, none⟩)) rfl rfl ?_)
  refine r_nil ?_
  refine g_seq ?_
  refine g_region ?_
  refine r_cons (s_move (.pointer (some ⟨bk9, 0, none⟩)) rfl rfl ?_)
  refine r_cons (s_call [.pointer (some ⟨bk9, 0, none⟩)] pl_52 rfl rfl (event_Take bk9 bs 0 (by first | omega | decide +kernel | (repeat (first | assumption | exact Nat.zero_le _ | refine natN_pos ?_ | refine srcN_pos ?_ | refine textN_pos ?_))) (by omega) (i := 0) rfl H11) ?_)
  rintro _ w17 ⟨pp12, _, cc13, q14, rfl, rfl, hR15, hp16, H18⟩
  refine r_cons (s_move (.tuple #[.agg #[.int .i64 ((tkV (remB bs 0)).src.v), .int .i64 ((tkV (remB bs 0)).seq.v), .int .i64 ((tkV (remB bs 0)).time.v), .string ((tkV (remB bs 0)).typ.v), .slice pp12 ((tkV (remB bs 0)).attrs.length) cc13], .int .i64 (tkE (remB bs 0))]) rfl rfl ?_)
  refine r_cons (s_extract (.agg #[.int .i64 ((tkV (remB bs 0)).src.v), .int .i64 ((tkV (remB bs 0)).seq.v), .int .i64 ((tkV (remB bs 0)).time.v), .string ((tkV (remB bs 0)).typ.v), .slice pp12 ((tkV (remB bs 0)).attrs.length) cc13]) #[.agg #[.int .i64 ((tkV (remB bs 0)).src.v), .int .i64 ((tkV (remB bs 0)).seq.v), .int .i64 ((tkV (remB bs 0)).time.v), .string ((tkV (remB bs 0)).typ.v), .slice pp12 ((tkV (remB bs 0)).attrs.length) cc13], .int .i64 (tkE (remB bs 0))] rfl rfl rfl ?_)
  refine r_cons (s_extract (.int .i64 (tkE (remB bs 0))) #[.agg #[.int .i64 ((tkV (remB bs 0)).src.v), .int .i64 ((tkV (remB bs 0)).seq.v), .int .i64 ((tkV (remB bs 0)).time.v), .string ((tkV (remB bs 0)).typ.v), .slice pp12 ((tkV (remB bs 0)).attrs.length) cc13], .int .i64 (tkE (remB bs 0))] rfl rfl rfl ?_)
  refine r_cons (s_alloc H18 33 ze_33 rfl ?_); intro bk19 w20 H21
  refine r_cons (s_storeAgg H21 0 #[.int .i64 ((tkV (remB bs 0)).src.v), .int .i64 ((tkV (remB bs 0)).seq.v), .int .i64 ((tkV (remB bs 0)).time.v), .string ((tkV (remB bs 0)).typ.v), .slice pp12 ((tkV (remB bs 0)).attrs.length) cc13] 5 rfl rfl rfl sz_33 rfl (by simp [Value.oneCell']) (Nat.le_of_ble_eq_true rfl) (fun o h1 h2 => by first | (simp; done) | (simp; omega)) (cs' := #[.int .i64 ((tkV (remB bs 0)).src.v), .int .i64 ((tkV (remB bs 0)).seq.v), .int .i64 ((tkV (remB bs 0)).time.v), .string ((tkV (remB bs 0)).typ.v), .slice pp12 ((tkV (remB bs 0)).attrs.length) cc13]) rfl ?_); intro w22 H23
  refine r_cons (s_assign (.int .i64 (tkE (remB bs 0))) rfl rfl ?_)
  refine r_nil ?_
  refine g_seq ?_
  refine g_seq ?_
  refine g_region ?_
  refine r_cons (s_move (.int .i64 (tkE (remB bs 0))) rfl rfl ?_)
  by_cases hc24 : tkE (remB bs 0) = 0
  · skip
    refine r_cons (s_eql true rfl rfl (dtrue hc24) rfl ?_)
    refine r_nil ?_
    refine g_true rfl ?_
    refine g_region ?_
    refine r_cons (s_move (.pointer (some ⟨bk9, 0, none⟩)) rfl rfl ?_)
    refine r_cons (s_call [.pointer (some ⟨bk9, 0, none⟩)] pl_81 rfl rfl (Src_End bk9 bs q14 (by first | omega | decide +kernel | (repeat (first | assumption | exact Nat.zero_le _ | refine natN_pos ?_ | refine srcN_pos ?_ | refine textN_pos ?_))) (by first | omega | decide +kernel)   (i := 2) rfl H23) ?_)
    rintro _ w25 ⟨rfl, H26⟩
    refine r_cons (s_assign (.int .i64 (endE (remB bs q14))) rfl rfl ?_)
    refine r_nil ?_
    refine g_seq ?_
    refine g_seq ?_
    refine g_region ?_
    refine r_cons (s_move (.int .i64 (endE (remB bs q14))) rfl rfl ?_)
    by_cases hc27 : endE (remB bs q14) = 0
    · skip
      refine r_cons (s_neq false rfl rfl (ntrue hc27) rfl ?_)
      refine r_nil ?_
      refine g_false rfl ?_
      refine g_skip ?_
      refine g_seq ?_
      refine g_region ?_
      refine r_cons (s_loadAgg [.int .i64 ((tkV (remB bs 0)).src.v), .int .i64 ((tkV (remB bs 0)).seq.v), .int .i64 ((tkV (remB bs 0)).time.v), .string ((tkV (remB bs 0)).typ.v), .slice pp12 ((tkV (remB bs 0)).attrs.length) cc13] 5 ag_33 rfl (H26.blk_at (i := 0) rfl) (Nat.le_of_ble_eq_true rfl) rfl rfl ?_)
      refine r_cons (s_storeAgg H26 3 #[.int .i64 ((tkV (remB bs 0)).src.v), .int .i64 ((tkV (remB bs 0)).seq.v), .int .i64 ((tkV (remB bs 0)).time.v), .string ((tkV (remB bs 0)).typ.v), .slice pp12 ((tkV (remB bs 0)).attrs.length) cc13] 5 rfl rfl rfl sz_33 rfl (by simp [Value.oneCell']) (Nat.le_of_ble_eq_true rfl) (fun o h1 h2 => by first | (simp; done) | (simp; omega)) (cs' := #[.int .i64 ((tkV (remB bs 0)).src.v), .int .i64 ((tkV (remB bs 0)).seq.v), .int .i64 ((tkV (remB bs 0)).time.v), .string ((tkV (remB bs 0)).typ.v), .slice pp12 ((tkV (remB bs 0)).attrs.length) cc13]) rfl ?_); intro w28 H29
      refine r_cons (s_assign (.int .i64 0) rfl rfl ?_)
      refine r_nil ?_
      refine g_ret' [.agg #[.int .i64 ((tkV (remB bs 0)).src.v), .int .i64 ((tkV (remB bs 0)).seq.v), .int .i64 ((tkV (remB bs 0)).time.v), .string ((tkV (remB bs 0)).typ.v), .slice pp12 ((tkV (remB bs 0)).attrs.length) cc13], .int .i64 0] Try.func47 Try.results47 ⟨(res_cellN rfl ag_33 (H29.blk_at (i := 3) rfl) (Nat.le_of_ble_eq_true rfl) rfl), rfl, trivial⟩ ?_
      have ht : tkE (remB bs 0) = 0 := hc24
      have hE : psE (remB bs 0) = endE (tkR (remB bs 0)) := psE_yes ht
      have hE0 : psE (remB bs 0) = 0 := by rw [hE, ← hR15]; exact hc27
      have H30 : St W w28 (Attrs (.slice pp12 ((tkV (remB bs 0)).attrs.length) cc13) ((tkV (remB bs 0)).attrs) :: F) := (((((H29.move 1 rfl).drop 1 rfl).drop 1 rfl).drop 1 rfl).drop 1 rfl)
      exact ⟨_, _, _, by rw [hE0, psV_yes hE0]; rfl, by rw [psV_yes hE0], by rw [psV_yes hE0]; exact H30⟩
    · skip
      refine r_cons (s_neq true rfl rfl (nfalse hc27) rfl ?_)
      refine r_nil ?_
      refine g_true rfl ?_
      refine g_seq ?_
      refine g_region ?_
      refine r_cons (s_build (cs := #[.int .i64 0, .int .i64 0, .int .i64 0, .string ByteArray.empty, .slice none 0 0]) (by kernel_rfl) rfl ?_)
      refine r_cons (s_move (.int .i64 (endE (remB bs q14))) rfl rfl ?_)
      refine r_cons (s_storeAgg H26 3 #[.int .i64 0, .int .i64 0, .int .i64 0, .string ByteArray.empty, .slice none 0 0] 5 rfl rfl rfl sz_33 rfl (by simp [Value.oneCell']) (Nat.le_of_ble_eq_true rfl) (fun o h1 h2 => by first | (simp; done) | (simp; omega)) (cs' := #[.int .i64 0, .int .i64 0, .int .i64 0, .string ByteArray.empty, .slice none 0 0]) rfl ?_); intro w31 H32
      refine r_cons (s_assign (.int .i64 (endE (remB bs q14))) rfl rfl ?_)
      refine r_nil ?_
      refine g_ret' [.agg #[.int .i64 0, .int .i64 0, .int .i64 0, .string ByteArray.empty, .slice none 0 0], .int .i64 (endE (remB bs q14))] Try.func47 Try.results47 ⟨(res_cellN rfl ag_33 (H32.blk_at (i := 3) rfl) (Nat.le_of_ble_eq_true rfl) rfl), rfl, trivial⟩ ?_
      have ht : tkE (remB bs 0) = 0 := hc24
      have hE : psE (remB bs 0) = endE (tkR (remB bs 0)) := psE_yes ht
      have hE0 : ¬ psE (remB bs 0) = 0 := by rw [hE, ← hR15]; exact hc27
      have H33 : St W w31 F := (((((H32.drop 0 rfl).drop 0 rfl).drop 0 rfl).drop 0 rfl).drop 0 rfl)
      have H34 : St W w31 (Attrs (.slice none 0 0) [] :: F) := Row.im (Row.nil_intro H33 91 4) (i := 0) rfl
      exact ⟨none, 0, 0, by rw [psV_no hE0, hE, ← hR15]; rfl, by rw [psV_no hE0]; rfl, by rw [psV_no hE0]; exact H34⟩
  · skip
    refine r_cons (s_eql false rfl rfl (dfalse hc24) rfl ?_)
    refine r_nil ?_
    refine g_false rfl ?_
    refine g_skip ?_
    refine g_seq ?_
    refine g_seq ?_
    refine g_region ?_
    refine r_cons (s_move (.int .i64 (tkE (remB bs 0))) rfl rfl ?_)
    refine r_cons (s_neq true rfl rfl (nfalse (by omega)) rfl ?_)
    refine r_nil ?_
    refine g_true rfl ?_
    refine g_seq ?_
    refine g_region ?_
    refine r_cons (s_build (cs := #[.int .i64 0, .int .i64 0, .int .i64 0, .string ByteArray.empty, .slice none 0 0]) (by kernel_rfl) rfl ?_)
    refine r_cons (s_move (.int .i64 (tkE (remB bs 0))) rfl rfl ?_)
    refine r_cons (s_storeAgg H23 3 #[.int .i64 0, .int .i64 0, .int .i64 0, .string ByteArray.empty, .slice none 0 0] 5 rfl rfl rfl sz_33 rfl (by simp [Value.oneCell']) (Nat.le_of_ble_eq_true rfl) (fun o h1 h2 => by first | (simp; done) | (simp; omega)) (cs' := #[.int .i64 0, .int .i64 0, .int .i64 0, .string ByteArray.empty, .slice none 0 0]) rfl ?_); intro w35 H36
    refine r_cons (s_assign (.int .i64 (tkE (remB bs 0))) rfl rfl ?_)
    refine r_nil ?_
    refine g_ret' [.agg #[.int .i64 0, .int .i64 0, .int .i64 0, .string ByteArray.empty, .slice none 0 0], .int .i64 (tkE (remB bs 0))] Try.func47 Try.results47 ⟨(res_cellN rfl ag_33 (H36.blk_at (i := 3) rfl) (Nat.le_of_ble_eq_true rfl) rfl), rfl, trivial⟩ ?_
    have ht : ¬ tkE (remB bs 0) = 0 := hc24
    have hE : psE (remB bs 0) = tkE (remB bs 0) := psE_no ht
    have hE0 : ¬ psE (remB bs 0) = 0 := by rw [hE]; exact ht
    have H37 : St W w35 F := (((((H36.drop 0 rfl).drop 0 rfl).drop 0 rfl).drop 0 rfl).drop 0 rfl)
    have H38 : St W w35 (Attrs (.slice none 0 0) [] :: F) := Row.im (Row.nil_intro H37 91 4) (i := 0) rfl
    exact ⟨none, 0, 0, by rw [psV_no hE0, hE]; rfl, by rw [psV_no hE0]; rfl, by rw [psV_no hE0]; exact H38⟩
set_option maxHeartbeats 4000000 in
set_option maxRecDepth 100000 in
theorem EventBack_ {W w : World} {F : List Atom} (e : EvM) (av : Value) (bs : List UInt8) (bv : Value) (hb : e.attrs.length * 48 ≤ 140737488355328) (hb2 : bs.length ≤ 140737488355328) {j : Nat} (hj : F[j]? = some (Attrs av e.attrs)) {k : Nat} (hk : F[k]? = some (Im 1 bv bs.length (bs.flatMap u8c))) (H : St W w F) : Calls Try.prog 9 #[.agg #[.int .i64 e.src.v, .int .i64 e.seq.v, .int .i64 e.time.v, .string e.typ.v, av], bv] w (Ret fun v w' => v = .bool true ∧ St W w' F) := by
  obtain ⟨pp1, cc2, rfl, hn3⟩ := Rd.shape (Im.rd H (i := k + 0) (by exact hk))
  have H4 := H.dup (i := k + 0) (by exact hk) (Im_pers _ _ _ _)
  obtain ⟨pp5, cc6, rfl, hn7⟩ := Rd.shape (Im.rd H4 (i := j + 1) (by exact hj))
  have H8 := H4.dup (i := j + 1) (by exact hj) (Attrs_pers _ _)
  refine calls_of_go (n := 61) Try.func9 rfl Try.ntmps9 rfl ?_
  refine g_seq ?_
  refine g_region ?_
  refine r_cons (s_box H8 33 (.agg #[.int .i64 e.src.v, .int .i64 e.seq.v, .int .i64 e.time.v, .string e.typ.v, .slice pp5 e.attrs.length cc6]) rfl (cs := #[.int .i64 e.src.v, .int .i64 e.seq.v, .int .i64 e.time.v, .string e.typ.v, .slice pp5 e.attrs.length cc6]) rfl rfl ?_); intro bk9 w10 H11
  refine r_cons (s_assign (.bool false) rfl rfl ?_)
  refine r_nil ?_
  refine g_seq ?_
  refine g_region ?_
  refine r_cons (s_loadAgg [.int .i64 e.src.v, .int .i64 e.seq.v, .int .i64 e.time.v, .string e.typ.v, .slice pp5 e.attrs.length cc6] 5 ag_33 rfl (H11.blk_at (i := 0) rfl) (Nat.le_of_ble_eq_true rfl) rfl rfl ?_)
  refine r_cons (s_call [.agg #[.int .i64 e.src.v, .int .i64 e.seq.v, .int .i64 e.time.v, .string e.typ.v, .slice pp5 e.attrs.length cc6]] pl_41 rfl rfl (event_Bytes e (.slice pp5 e.attrs.length cc6) (by omega) (j := 1) rfl H11) ?_)
  rintro _ w14 ⟨pp12, _, cc13, rfl, rfl, H15⟩
  refine r_cons (s_move (.tuple #[.slice pp12 ((bytesE e).length) cc13, .int .i64 (evE e)]) rfl rfl ?_)
  refine r_cons (s_extract (.slice pp12 ((bytesE e).length) cc13) #[.slice pp12 ((bytesE e).length) cc13, .int .i64 (evE e)] rfl rfl rfl ?_)
  refine r_cons (s_extract (.int .i64 (evE e)) #[.slice pp12 ((bytesE e).length) cc13, .int .i64 (evE e)] rfl rfl rfl ?_)
  refine r_cons (s_assign (.slice pp12 ((bytesE e).length) cc13) rfl rfl ?_)
  refine r_cons (s_assign (.int .i64 (evE e)) rfl rfl ?_)
  refine r_nil ?_
  refine g_seq ?_
  refine g_seq ?_
  refine g_region ?_
  refine r_cons (s_call [] pl_12 rfl rfl (begun_ H15) ?_)
  rintro _ w16 ⟨rfl, H17⟩
  refine r_cons (s_not true rfl false rfl rfl ?_)
  refine r_cons (s_move (.bool false) rfl rfl ?_)
  refine r_cons (r_take rfl rfl ?_)
  refine s_move (.int .i64 (evE e)) rfl rfl ?_
  refine r_cons (r_take rfl rfl ?_)
  refine s_eql (decide (evE e = 0)) rfl rfl rfl rfl ?_
  refine r_cons (r_take rfl rfl ?_)
  refine s_loadAgg [.int .i64 e.src.v, .int .i64 e.seq.v, .int .i64 e.time.v, .string e.typ.v, .slice pp5 e.attrs.length cc6] 5 ag_33 rfl (H17.blk_at (i := 1) rfl) (Nat.le_of_ble_eq_true rfl) rfl rfl ?_
  refine r_cons (r_take rfl rfl ?_)
  refine s_call [.agg #[.int .i64 e.src.v, .int .i64 e.seq.v, .int .i64 e.time.v, .string e.typ.v, .slice pp5 e.attrs.length cc6]] pl_17 rfl rfl (event_Check e (.slice pp5 e.attrs.length cc6) (j := 2) rfl H17) ?_
  rintro _ w18 ⟨rfl, H19⟩
  refine r_cons (r_take rfl rfl ?_)
  refine s_eql (decide (evE e = 0)) rfl rfl rfl rfl ?_
  refine r_cons (r_take rfl rfl ?_)
  refine s_bneq false un_4 rfl rfl (ntrue rfl) rfl ?_
  refine r_cons (s_pick_f (.bool false) rfl rfl rfl ?_)
  refine r_nil ?_
  refine g_false rfl ?_
  refine g_skip ?_
  refine g_seq ?_
  refine g_seq ?_
  refine g_region ?_
  refine r_cons (s_move (.int .i64 (evE e)) rfl rfl ?_)
  by_cases hc20 : evE e = 0
  · skip
    refine r_cons (s_eql true rfl rfl (dtrue hc20) rfl ?_)
    refine r_nil ?_
    refine g_true rfl ?_
    refine g_seq ?_
    refine g_region ?_
    obtain ⟨he1, he2⟩ := ev_enc hc20
    have hfl := formB_le hc20
    have hbl : (bytesE e).length ≤ 2000 := by rw [bytesE_yes hc20, pk_len]; omega
    refine r_cons (s_move (.slice pp12 ((bytesE e).length) cc13) rfl rfl ?_)
    have H21 : St W w18 (Im 1 (.slice pp12 ((bytesE e).length) cc13) ((bytesE e).length) ((bytesE e).flatMap u8c) :: blk bk9 (.cells #[.int .i64 e.src.v, .int .i64 e.seq.v, .int .i64 e.time.v, .string e.typ.v, .slice pp5 e.attrs.length cc6] 33 (0, 0)) :: Attrs (.slice pp5 e.attrs.length cc6) e.attrs :: Im 1 (.slice pp1 bs.length cc2) bs.length (bs.flatMap u8c) :: F) := Row.im H19 (i := 0) rfl
    refine r_cons (s_call [.slice pp12 ((bytesE e).length) cc13] pl_47 rfl rfl (event_Parse (bytesE e) _ (by omega) (j := 0) rfl H21) ?_)
    rintro _ w24 ⟨pp22, _, cc23, rfl, rfl, H25⟩
    refine r_cons (s_move (.tuple #[.agg #[.int .i64 ((psV (remB (bytesE e) 0)).src.v), .int .i64 ((psV (remB (bytesE e) 0)).seq.v), .int .i64 ((psV (remB (bytesE e) 0)).time.v), .string ((psV (remB (bytesE e) 0)).typ.v), .slice pp22 ((psV (remB (bytesE e) 0)).attrs.length) cc23], .int .i64 (psE (remB (bytesE e) 0))]) rfl rfl ?_)
    refine r_cons (s_extract (.agg #[.int .i64 ((psV (remB (bytesE e) 0)).src.v), .int .i64 ((psV (remB (bytesE e) 0)).seq.v), .int .i64 ((psV (remB (bytesE e) 0)).time.v), .string ((psV (remB (bytesE e) 0)).typ.v), .slice pp22 ((psV (remB (bytesE e) 0)).attrs.length) cc23]) #[.agg #[.int .i64 ((psV (remB (bytesE e) 0)).src.v), .int .i64 ((psV (remB (bytesE e) 0)).seq.v), .int .i64 ((psV (remB (bytesE e) 0)).time.v), .string ((psV (remB (bytesE e) 0)).typ.v), .slice pp22 ((psV (remB (bytesE e) 0)).attrs.length) cc23], .int .i64 (psE (remB (bytesE e) 0))] rfl rfl rfl ?_)
    refine r_cons (s_extract (.int .i64 (psE (remB (bytesE e) 0))) #[.agg #[.int .i64 ((psV (remB (bytesE e) 0)).src.v), .int .i64 ((psV (remB (bytesE e) 0)).seq.v), .int .i64 ((psV (remB (bytesE e) 0)).time.v), .string ((psV (remB (bytesE e) 0)).typ.v), .slice pp22 ((psV (remB (bytesE e) 0)).attrs.length) cc23], .int .i64 (psE (remB (bytesE e) 0))] rfl rfl rfl ?_)
    refine r_cons (s_alloc H25 33 ze_33 rfl ?_); intro bk26 w27 H28
    refine r_cons (s_storeAgg H28 0 #[.int .i64 ((psV (remB (bytesE e) 0)).src.v), .int .i64 ((psV (remB (bytesE e) 0)).seq.v), .int .i64 ((psV (remB (bytesE e) 0)).time.v), .string ((psV (remB (bytesE e) 0)).typ.v), .slice pp22 ((psV (remB (bytesE e) 0)).attrs.length) cc23] 5 rfl rfl rfl sz_33 rfl (by simp [Value.oneCell']) (Nat.le_of_ble_eq_true rfl) (fun o h1 h2 => by first | (simp; done) | (simp; omega)) (cs' := #[.int .i64 ((psV (remB (bytesE e) 0)).src.v), .int .i64 ((psV (remB (bytesE e) 0)).seq.v), .int .i64 ((psV (remB (bytesE e) 0)).time.v), .string ((psV (remB (bytesE e) 0)).typ.v), .slice pp22 ((psV (remB (bytesE e) 0)).attrs.length) cc23]) rfl ?_); intro w29 H30
    refine r_cons (s_assign (.int .i64 (psE (remB (bytesE e) 0))) rfl rfl ?_)
    refine r_nil ?_
    refine g_seq ?_
    refine g_region ?_
    refine r_cons (s_move (.int .i64 (psE (remB (bytesE e) 0))) rfl rfl ?_)
    refine r_cons (s_neq false rfl rfl (ntrue he1) rfl ?_)
    refine r_cons (s_move (.bool false) rfl rfl ?_)
    refine r_cons (r_take rfl rfl ?_)
    refine s_loadAgg [.int .i64 e.src.v, .int .i64 e.seq.v, .int .i64 e.time.v, .string e.typ.v, .slice pp5 e.attrs.length cc6] 5 ag_33 rfl (H30.blk_at (i := 3) rfl) (Nat.le_of_ble_eq_true rfl) rfl rfl ?_
    refine r_cons (r_take rfl rfl ?_)
    refine s_loadAgg [.int .i64 ((psV (remB (bytesE e) 0)).src.v), .int .i64 ((psV (remB (bytesE e) 0)).seq.v), .int .i64 ((psV (remB (bytesE e) 0)).time.v), .string ((psV (remB (bytesE e) 0)).typ.v), .slice pp22 ((psV (remB (bytesE e) 0)).attrs.length) cc23] 5 ag_33 rfl (H30.blk_at (i := 0) rfl) (Nat.le_of_ble_eq_true rfl) rfl rfl ?_
    refine r_cons (r_take rfl rfl ?_)
    have hss : sameEv e (psV (remB (bytesE e) 0)) = true := by rw [he2]; exact sameEv_iff.2 rfl
    refine s_call [.agg #[.int .i64 e.src.v, .int .i64 e.seq.v, .int .i64 e.time.v, .string e.typ.v, .slice pp5 e.attrs.length cc6], .agg #[.int .i64 ((psV (remB (bytesE e) 0)).src.v), .int .i64 ((psV (remB (bytesE e) 0)).seq.v), .int .i64 ((psV (remB (bytesE e) 0)).time.v), .string ((psV (remB (bytesE e) 0)).typ.v), .slice pp22 ((psV (remB (bytesE e) 0)).attrs.length) cc23]] pl_20 rfl rfl (ref04_Same e (psV (remB (bytesE e) 0)) (.slice pp5 e.attrs.length cc6) (.slice pp22 ((psV (remB (bytesE e) 0)).attrs.length) cc23) (j := 4) (k := 1) rfl rfl H30) ?_
    rintro _ w31 ⟨rfl, H32⟩
    refine r_cons (r_take rfl rfl ?_)
    refine s_not (sameEv e (psV (remB (bytesE e) 0))) rfl false (by rw [hss]; rfl) rfl ?_
    refine r_cons (s_pick_f (.bool false) rfl rfl rfl ?_)
    refine r_nil ?_
    refine g_false rfl ?_
    refine g_skip ?_
    refine g_seq ?_
    refine g_region ?_
    refine r_cons (s_move (.slice pp1 bs.length cc2) rfl rfl ?_)
    refine r_cons (s_call [.slice pp1 bs.length cc2] pl_47 rfl rfl (event_Parse bs _ (by omega) (j := 5) rfl H32) ?_)
    rintro _ w35 ⟨pp33, _, cc34, rfl, rfl, H36⟩
    refine r_cons (s_move (.tuple #[.agg #[.int .i64 ((psV (remB bs 0)).src.v), .int .i64 ((psV (remB bs 0)).seq.v), .int .i64 ((psV (remB bs 0)).time.v), .string ((psV (remB bs 0)).typ.v), .slice pp33 ((psV (remB bs 0)).attrs.length) cc34], .int .i64 (psE (remB bs 0))]) rfl rfl ?_)
    refine r_cons (s_extract (.agg #[.int .i64 ((psV (remB bs 0)).src.v), .int .i64 ((psV (remB bs 0)).seq.v), .int .i64 ((psV (remB bs 0)).time.v), .string ((psV (remB bs 0)).typ.v), .slice pp33 ((psV (remB bs 0)).attrs.length) cc34]) #[.agg #[.int .i64 ((psV (remB bs 0)).src.v), .int .i64 ((psV (remB bs 0)).seq.v), .int .i64 ((psV (remB bs 0)).time.v), .string ((psV (remB bs 0)).typ.v), .slice pp33 ((psV (remB bs 0)).attrs.length) cc34], .int .i64 (psE (remB bs 0))] rfl rfl rfl ?_)
    refine r_cons (s_extract (.int .i64 (psE (remB bs 0))) #[.agg #[.int .i64 ((psV (remB bs 0)).src.v), .int .i64 ((psV (remB bs 0)).seq.v), .int .i64 ((psV (remB bs 0)).time.v), .string ((psV (remB bs 0)).typ.v), .slice pp33 ((psV (remB bs 0)).attrs.length) cc34], .int .i64 (psE (remB bs 0))] rfl rfl rfl ?_)
    refine r_cons (s_alloc H36 33 ze_33 rfl ?_); intro bk37 w38 H39
    refine r_cons (s_storeAgg H39 0 #[.int .i64 ((psV (remB bs 0)).src.v), .int .i64 ((psV (remB bs 0)).seq.v), .int .i64 ((psV (remB bs 0)).time.v), .string ((psV (remB bs 0)).typ.v), .slice pp33 ((psV (remB bs 0)).attrs.length) cc34] 5 rfl rfl rfl sz_33 rfl (by simp [Value.oneCell']) (Nat.le_of_ble_eq_true rfl) (fun o h1 h2 => by first | (simp; done) | (simp; omega)) (cs' := #[.int .i64 ((psV (remB bs 0)).src.v), .int .i64 ((psV (remB bs 0)).seq.v), .int .i64 ((psV (remB bs 0)).time.v), .string ((psV (remB bs 0)).typ.v), .slice pp33 ((psV (remB bs 0)).attrs.length) cc34]) rfl ?_); intro w40 H41
    refine r_cons (s_assign (.int .i64 (psE (remB bs 0))) rfl rfl ?_)
    refine r_nil ?_
    refine g_seq ?_
    refine g_seq ?_
    refine g_region ?_
    refine r_cons (s_move (.int .i64 (psE (remB bs 0))) rfl rfl ?_)
    by_cases hc42 : psE (remB bs 0) = 0
    · skip
      refine r_cons (s_neq false rfl rfl (ntrue hc42) rfl ?_)
      refine r_nil ?_
      refine g_false rfl ?_
      refine g_skip ?_
      refine g_seq ?_
      refine g_region ?_
      obtain ⟨hd1, hd2⟩ := ev_dec (by omega) hc42
      have hd3 := evE_attrs_len hd1
      refine r_cons (s_loadAgg [.int .i64 ((psV (remB bs 0)).src.v), .int .i64 ((psV (remB bs 0)).seq.v), .int .i64 ((psV (remB bs 0)).time.v), .string ((psV (remB bs 0)).typ.v), .slice pp33 ((psV (remB bs 0)).attrs.length) cc34] 5 ag_33 rfl (H41.blk_at (i := 0) rfl) (Nat.le_of_ble_eq_true rfl) rfl rfl ?_)
      refine r_cons (s_call [.agg #[.int .i64 ((psV (remB bs 0)).src.v), .int .i64 ((psV (remB bs 0)).seq.v), .int .i64 ((psV (remB bs 0)).time.v), .string ((psV (remB bs 0)).typ.v), .slice pp33 ((psV (remB bs 0)).attrs.length) cc34]] pl_41 rfl rfl (event_Bytes (psV (remB bs 0)) (.slice pp33 ((psV (remB bs 0)).attrs.length) cc34) (by omega) (j := 1) rfl H41) ?_)
      rintro _ w45 ⟨pp43, _, cc44, rfl, rfl, H46⟩
      refine r_cons (s_move (.tuple #[.slice pp43 ((bytesE (psV (remB bs 0))).length) cc44, .int .i64 (evE (psV (remB bs 0)))]) rfl rfl ?_)
      refine r_cons (s_extract (.slice pp43 ((bytesE (psV (remB bs 0))).length) cc44) #[.slice pp43 ((bytesE (psV (remB bs 0))).length) cc44, .int .i64 (evE (psV (remB bs 0)))] rfl rfl rfl ?_)
      refine r_cons (s_extract (.int .i64 (evE (psV (remB bs 0)))) #[.slice pp43 ((bytesE (psV (remB bs 0))).length) cc44, .int .i64 (evE (psV (remB bs 0)))] rfl rfl rfl ?_)
      refine r_cons (s_assign (.slice pp43 ((bytesE (psV (remB bs 0))).length) cc44) rfl rfl ?_)
      refine r_cons (s_assign (.int .i64 (evE (psV (remB bs 0)))) rfl rfl ?_)
      refine r_nil ?_
      refine g_seq ?_
      refine g_region ?_
      refine r_cons (s_move (.int .i64 (evE (psV (remB bs 0)))) rfl rfl ?_)
      refine r_cons (s_eql true rfl rfl (dtrue hd1) rfl ?_)
      refine r_cons (s_move (.bool true) rfl rfl ?_)
      refine r_cons (r_take rfl rfl ?_)
      refine s_move (.slice pp1 bs.length cc2) rfl rfl ?_
      refine r_cons (r_take rfl rfl ?_)
      refine s_move (.slice pp43 ((bytesE (psV (remB bs 0))).length) cc44) rfl rfl ?_
      refine r_cons (r_take rfl rfl ?_)
      have hbe : decide (bs = bytesE (psV (remB bs 0))) = true := decide_eq_true hd2.symm
      refine s_call [.slice pp1 bs.length cc2, .slice pp43 ((bytesE (psV (remB bs 0))).length) cc44] pl_44 rfl rfl (bytes_Equal _ _ _ _ _ _ bs (bytesE (psV (remB bs 0))) RdA.im RdA.row (j := 8) rfl (k := 0) rfl H46) ?_
      rintro _ w47 ⟨rfl, H48⟩
      refine r_cons (s_pick_t (.bool (decide (bs = (bytesE (psV (remB bs 0)))))) rfl rfl rfl ?_)
      refine r_cons (s_assign (.bool (decide (bs = (bytesE (psV (remB bs 0)))))) rfl rfl ?_)
      refine r_nil ?_
      refine g_ret' [.bool (decide (bs = (bytesE (psV (remB bs 0)))))] Try.func9 Try.results9 ⟨rfl, trivial⟩ ?_
      have H49 : St W w47 F := (((((((((H48.drop 0 rfl).drop 0 rfl).drop 0 rfl).drop 0 rfl).drop 0 rfl).drop 0 rfl).drop 0 rfl).drop 0 rfl).drop 0 rfl)
      exact ⟨congrArg Value.bool hbe, H49⟩
    · skip
      refine r_cons (s_neq true rfl rfl (nfalse hc42) rfl ?_)
      refine r_nil ?_
      refine g_true rfl ?_
      refine g_seq ?_
      refine g_region ?_
      refine r_cons (s_assign (.bool true) rfl rfl ?_)
      refine r_nil ?_
      refine g_ret' [.bool true] Try.func9 Try.results9 ⟨rfl, trivial⟩ ?_
      have H50 : St W w40 F := ((((((((H41.drop 0 rfl).drop 0 rfl).drop 0 rfl).drop 0 rfl).drop 0 rfl).drop 0 rfl).drop 0 rfl).drop 0 rfl)
      exact ⟨rfl, H50⟩
  · skip
    refine r_cons (s_eql false rfl rfl (dfalse hc20) rfl ?_)
    refine r_nil ?_
    refine g_false rfl ?_
    refine g_skip ?_
    refine g_seq ?_
    refine g_region ?_
    refine r_cons (s_move (.slice pp1 bs.length cc2) rfl rfl ?_)
    refine r_cons (s_call [.slice pp1 bs.length cc2] pl_47 rfl rfl (event_Parse bs _ (by omega) (j := 3) rfl H19) ?_)
    rintro _ w53 ⟨pp51, _, cc52, rfl, rfl, H54⟩
    refine r_cons (s_move (.tuple #[.agg #[.int .i64 ((psV (remB bs 0)).src.v), .int .i64 ((psV (remB bs 0)).seq.v), .int .i64 ((psV (remB bs 0)).time.v), .string ((psV (remB bs 0)).typ.v), .slice pp51 ((psV (remB bs 0)).attrs.length) cc52], .int .i64 (psE (remB bs 0))]) rfl rfl ?_)
    refine r_cons (s_extract (.agg #[.int .i64 ((psV (remB bs 0)).src.v), .int .i64 ((psV (remB bs 0)).seq.v), .int .i64 ((psV (remB bs 0)).time.v), .string ((psV (remB bs 0)).typ.v), .slice pp51 ((psV (remB bs 0)).attrs.length) cc52]) #[.agg #[.int .i64 ((psV (remB bs 0)).src.v), .int .i64 ((psV (remB bs 0)).seq.v), .int .i64 ((psV (remB bs 0)).time.v), .string ((psV (remB bs 0)).typ.v), .slice pp51 ((psV (remB bs 0)).attrs.length) cc52], .int .i64 (psE (remB bs 0))] rfl rfl rfl ?_)
    refine r_cons (s_extract (.int .i64 (psE (remB bs 0))) #[.agg #[.int .i64 ((psV (remB bs 0)).src.v), .int .i64 ((psV (remB bs 0)).seq.v), .int .i64 ((psV (remB bs 0)).time.v), .string ((psV (remB bs 0)).typ.v), .slice pp51 ((psV (remB bs 0)).attrs.length) cc52], .int .i64 (psE (remB bs 0))] rfl rfl rfl ?_)
    refine r_cons (s_alloc H54 33 ze_33 rfl ?_); intro bk55 w56 H57
    refine r_cons (s_storeAgg H57 0 #[.int .i64 ((psV (remB bs 0)).src.v), .int .i64 ((psV (remB bs 0)).seq.v), .int .i64 ((psV (remB bs 0)).time.v), .string ((psV (remB bs 0)).typ.v), .slice pp51 ((psV (remB bs 0)).attrs.length) cc52] 5 rfl rfl rfl sz_33 rfl (by simp [Value.oneCell']) (Nat.le_of_ble_eq_true rfl) (fun o h1 h2 => by first | (simp; done) | (simp; omega)) (cs' := #[.int .i64 ((psV (remB bs 0)).src.v), .int .i64 ((psV (remB bs 0)).seq.v), .int .i64 ((psV (remB bs 0)).time.v), .string ((psV (remB bs 0)).typ.v), .slice pp51 ((psV (remB bs 0)).attrs.length) cc52]) rfl ?_); intro w58 H59
    refine r_cons (s_assign (.int .i64 (psE (remB bs 0))) rfl rfl ?_)
    refine r_nil ?_
    refine g_seq ?_
    refine g_seq ?_
    refine g_region ?_
    refine r_cons (s_move (.int .i64 (psE (remB bs 0))) rfl rfl ?_)
    by_cases hc60 : psE (remB bs 0) = 0
    · skip
      refine r_cons (s_neq false rfl rfl (ntrue hc60) rfl ?_)
      refine r_nil ?_
      refine g_false rfl ?_
      refine g_skip ?_
      refine g_seq ?_
      refine g_region ?_
      obtain ⟨hd1, hd2⟩ := ev_dec (by omega) hc60
      have hd3 := evE_attrs_len hd1
      refine r_cons (s_loadAgg [.int .i64 ((psV (remB bs 0)).src.v), .int .i64 ((psV (remB bs 0)).seq.v), .int .i64 ((psV (remB bs 0)).time.v), .string ((psV (remB bs 0)).typ.v), .slice pp51 ((psV (remB bs 0)).attrs.length) cc52] 5 ag_33 rfl (H59.blk_at (i := 0) rfl) (Nat.le_of_ble_eq_true rfl) rfl rfl ?_)
      refine r_cons (s_call [.agg #[.int .i64 ((psV (remB bs 0)).src.v), .int .i64 ((psV (remB bs 0)).seq.v), .int .i64 ((psV (remB bs 0)).time.v), .string ((psV (remB bs 0)).typ.v), .slice pp51 ((psV (remB bs 0)).attrs.length) cc52]] pl_41 rfl rfl (event_Bytes (psV (remB bs 0)) (.slice pp51 ((psV (remB bs 0)).attrs.length) cc52) (by omega) (j := 1) rfl H59) ?_)
      rintro _ w63 ⟨pp61, _, cc62, rfl, rfl, H64⟩
      refine r_cons (s_move (.tuple #[.slice pp61 ((bytesE (psV (remB bs 0))).length) cc62, .int .i64 (evE (psV (remB bs 0)))]) rfl rfl ?_)
      refine r_cons (s_extract (.slice pp61 ((bytesE (psV (remB bs 0))).length) cc62) #[.slice pp61 ((bytesE (psV (remB bs 0))).length) cc62, .int .i64 (evE (psV (remB bs 0)))] rfl rfl rfl ?_)
      refine r_cons (s_extract (.int .i64 (evE (psV (remB bs 0)))) #[.slice pp61 ((bytesE (psV (remB bs 0))).length) cc62, .int .i64 (evE (psV (remB bs 0)))] rfl rfl rfl ?_)
      refine r_cons (s_assign (.slice pp61 ((bytesE (psV (remB bs 0))).length) cc62) rfl rfl ?_)
      refine r_cons (s_assign (.int .i64 (evE (psV (remB bs 0)))) rfl rfl ?_)
      refine r_nil ?_
      refine g_seq ?_
      refine g_region ?_
      refine r_cons (s_move (.int .i64 (evE (psV (remB bs 0)))) rfl rfl ?_)
      refine r_cons (s_eql true rfl rfl (dtrue hd1) rfl ?_)
      refine r_cons (s_move (.bool true) rfl rfl ?_)
      refine r_cons (r_take rfl rfl ?_)
      refine s_move (.slice pp1 bs.length cc2) rfl rfl ?_
      refine r_cons (r_take rfl rfl ?_)
      refine s_move (.slice pp61 ((bytesE (psV (remB bs 0))).length) cc62) rfl rfl ?_
      refine r_cons (r_take rfl rfl ?_)
      have hbe : decide (bs = bytesE (psV (remB bs 0))) = true := decide_eq_true hd2.symm
      refine s_call [.slice pp1 bs.length cc2, .slice pp61 ((bytesE (psV (remB bs 0))).length) cc62] pl_44 rfl rfl (bytes_Equal _ _ _ _ _ _ bs (bytesE (psV (remB bs 0))) RdA.im RdA.row (j := 6) rfl (k := 0) rfl H64) ?_
      rintro _ w65 ⟨rfl, H66⟩
      refine r_cons (s_pick_t (.bool (decide (bs = (bytesE (psV (remB bs 0)))))) rfl rfl rfl ?_)
      refine r_cons (s_assign (.bool (decide (bs = (bytesE (psV (remB bs 0)))))) rfl rfl ?_)
      refine r_nil ?_
      refine g_ret' [.bool (decide (bs = (bytesE (psV (remB bs 0)))))] Try.func9 Try.results9 ⟨rfl, trivial⟩ ?_
      have H67 : St W w65 F := (((((((H66.drop 0 rfl).drop 0 rfl).drop 0 rfl).drop 0 rfl).drop 0 rfl).drop 0 rfl).drop 0 rfl)
      exact ⟨congrArg Value.bool hbe, H67⟩
    · skip
      refine r_cons (s_neq true rfl rfl (nfalse hc60) rfl ?_)
      refine r_nil ?_
      refine g_true rfl ?_
      refine g_seq ?_
      refine g_region ?_
      refine r_cons (s_assign (.bool true) rfl rfl ?_)
      refine r_nil ?_
      refine g_ret' [.bool true] Try.func9 Try.results9 ⟨rfl, trivial⟩ ?_
      have H68 : St W w58 F := ((((((H59.drop 0 rfl).drop 0 rfl).drop 0 rfl).drop 0 rfl).drop 0 rfl).drop 0 rfl)
      exact ⟨rfl, H68⟩
end Sl
