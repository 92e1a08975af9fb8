/- Walks of the program's functions. Printed by a program of this claim's author. No condition. -/
import Derived.Test.YteogdknlofcpiaaSlBA
import Derived.Test.YteogdknlofcpiaaSlDB
import Derived.Test.YteogdknlofcpiaaSlQ
import Derived.Test.YteogdknlofcpiaaSlR
import Derived.Test.YteogdknlofcpiaaSlDK
import Derived.Test.YteogdknlofcpiaaSlDM
import Derived.Test.YteogdknlofcpiaaSlDN
import Derived.Test.YteogdknlofcpiaaProg
import Derived.Test.YteogdknlofcpiaaWalkMigrateEpochs2
namespace Sl
open _root_.Go _root_.Go.RowKit _root_.Go.Proofs
set_option linter.all false
set_option maxHeartbeats 4000000 in
set_option maxRecDepth 100000 in
theorem MigrateEpochs_ {W w : World} {F : List Atom} (l : List ItemD) (od : List UInt8) (u v : Value) (hok : ∀ x ∈ l, bsOk x.bs) (hl : l.length ≤ 4611686018427387904) {j k a : Nat} (hj : F[j]? = some (Im 6 u l.length (l.flatMap itCell))) (hk : F[k]? = some (Im 1 v od.length (od.flatMap u8c))) (ha : F[a]? = some (itsA l)) (H : St W w F) : Calls Try.prog 3 #[u, v] w (Ret fun v w' => v = .bool true ∧ St W w' F) := by
  obtain ⟨pp1, cc2, rfl, hsh3⟩ := Rd.shape (Im.rd H (i := j) hj)
  have H4 := H.dup (i := j) hj (Im_pers _ _ _ _)
  have hmlH4 := Im.len H4 (i := 0) rfl
  obtain ⟨pp5, cc6, rfl, hsh7⟩ := Rd.shape (Im.rd H (i := k) hk)
  have H8 := (H4.dup (i := k + 1) (by exact hk) (Im_pers _ _ _ _)).dup (i := a + 2) (by exact ha) (itsA_pers _)
  have H9 : St W w (itsA l :: Im 1 (.slice pp5 od.length cc6) od.length (od.flatMap u8c) :: Im 6 (.slice pp1 l.length cc2) l.length (l.flatMap itCell) :: F) := H8
  have hmlo := Im.len H8 (i := 1) rfl
  obtain ⟨K, hK⟩ : ∃ K, K = l.take (min l.length 40) := ⟨_, rfl⟩
  have hM : K.length = min l.length 40 := by rw [hK, List.length_take]; omega
  have hKf : K.flatMap itCell = (l.take (min l.length 40)).flatMap itCell := by rw [hK]
  have H10 := itsA_sub (M := K) H9 (i := 0) rfl (fun x hx => List.take_subset _ _ (hK ▸ hx))
  have H11 : St W w (itsA K :: Im 1 (.slice pp5 od.length cc6) od.length (od.flatMap u8c) :: Im 6 (.slice pp1 l.length cc2) l.length (l.flatMap itCell) :: F) := ((((H10.move 3 rfl).move 3 rfl).move 2 rfl).drop 3 rfl)
  have hM4 : K.length ≤ 40 := by omega
  refine calls_of_go (n := 141) Try.func3 rfl Try.ntmps3 rfl ?_
  refine g_seq ?_
  refine g_region ?_
  refine r_cons (s_assign (.bool false) rfl rfl ?_)
  refine r_nil ?_
  refine g_seq ?_
  refine g_region ?_
  refine r_cons (s_call [] pl_9 rfl rfl (NewGate_ H11) ?_)
  rintro _ w13 ⟨bk12, rfl, H14⟩
  refine r_cons (s_assign (.pointer (some ⟨bk12, 0, none⟩)) rfl rfl ?_)
  refine r_nil ?_
  refine g_seq ?_
  refine g_seq ?_
  refine g_region ?_
  refine r_cons (s_call [] pl_10 rfl rfl (begun_ H14) ?_)
  rintro _ w15 ⟨rfl, H16⟩
  refine r_cons (s_not true rfl false rfl rfl ?_)
  refine r_cons (s_move (.bool false) rfl rfl ?_)
  refine r_cons (r_take rfl rfl ?_)
  refine s_move (.pointer (some ⟨bk12, 0, none⟩)) rfl rfl ?_
  refine r_cons (r_take rfl rfl ?_)
  refine s_peql false un_24 rfl rfl rfl rfl ?_
  refine r_cons (s_pick_f (.bool false) rfl rfl rfl ?_)
  refine r_nil ?_
  refine g_false rfl ?_
  refine g_skip ?_
  refine g_seq ?_
  refine g_region ?_
  refine r_cons (s_make H16 4 1 24 rfl rfl un_27 in_22 (by omega) (by omega) (by omega) made_nils rfl ?_); intro bk17 w18 H19
  refine r_cons (s_assign (.slice (some ⟨bk17, 0, none⟩) 4 4) rfl rfl ?_)
  refine r_nil ?_
  refine g_seq ?_
  refine g_region ?_
  refine r_cons (s_assign (.slice none 0 0) rfl rfl ?_)
  refine r_nil ?_
  refine g_seq ?_
  refine g_seq ?_
  refine g_region ?_
  refine r_cons (s_move (.slice (some ⟨bk17, 0, none⟩) 4 4) rfl rfl ?_)
  refine r_cons (s_len 4 rfl ⟨_, un_27⟩ rfl ?_)
  refine r_cons (s_move (.int .i64 0) rfl rfl ?_)
  refine r_nil ?_
  refine g_block ?_
  refine g_loop ?_
  refine g_seq ?_
  refine g_region ?_
  refine r_cons (s_lss true rfl rfl (dtrue (by decide)) rfl ?_)
  refine r_nil ?_
  refine g_seq ?_
  refine g_true rfl ?_
  refine g_skip ?_
  refine g_seq ?_
  refine g_block ?_
  refine g_seq ?_
  refine g_region ?_
  refine r_cons (s_move (.int .i64 0) rfl rfl ?_)
  refine r_cons (s_assign (.int .i64 0) rfl rfl ?_)
  refine r_nil ?_
  refine g_seq ?_
  refine g_seq ?_
  refine g_region ?_
  refine r_cons (s_move (.slice pp1 l.length cc2) rfl rfl ?_)
  refine r_cons (s_move (.slice pp1 l.length cc2) rfl rfl ?_)
  refine r_cons (s_len l.length rfl ⟨_, un_22⟩ rfl ?_)
  refine r_cons (s_min2 ((min l.length 40 : Nat) : Int) rfl rfl (by omega) rfl ?_)
  have hc20 := Im.cap H19 (i := 4) rfl
  refine r_cons (s_slice_h pp1 ((min l.length 40 : Nat) : Int) 6 (.slice pp1 (min l.length 40) cc2) rfl rfl el_22 (by omega) (by first | rfl | (congr 1; omega)) rfl ?_)
  have H21 : St W w18 (Im 6 (.slice pp1 (min l.length 40) cc2) (min l.length 40) ((l.take (min l.length 40)).flatMap itCell) :: blk bk17 (.cells #[.slice none 0 0, .slice none 0 0, .slice none 0 0, .slice none 0 0] 22 (0, 0)) :: blk bk12 (.cells #[.bool true, .int .i64 0, .slice none 0 0] 80 (0, 0)) :: itsA K :: Im 1 (.slice pp5 od.length cc6) od.length (od.flatMap u8c) :: Im 6 (.slice pp1 l.length cc2) l.length (l.flatMap itCell) :: F) := Im.cutN_h itCell_len (by decide) (min l.length 40) H19 (i := 4) rfl (by omega)
  refine r_cons (s_len (min l.length 40) rfl ⟨_, un_22⟩ rfl ?_)
  refine r_cons (s_move (.int .i64 0) rfl rfl ?_)
  refine r_nil ?_
  refine g_block ?_
  have H22 : St W w18 (Im 6 (.slice pp1 (min l.length 40) cc2) (min l.length 40) ((l.take (min l.length 40)).flatMap itCell) :: blk bk17 (.cells #[.slice none 0 0, .slice none 0 0, .slice none 0 0, .slice none 0 0] 22 (0, 0)) :: blk bk12 (.cells #[.bool true, .int .i64 0, .slice none 0 0] 80 (0, 0)) :: itsA K :: Im 1 (.slice pp5 od.length cc6) od.length (od.flatMap u8c) :: Im 6 (.slice pp1 l.length cc2) l.length (l.flatMap itCell) :: F) := ((((((H21.move 5 rfl).move 5 rfl).move 5 rfl).move 5 rfl).move 5 rfl).move 5 rfl)
  obtain ⟨Ag, hAg⟩ : ∃ A : Atom, A = blk bk12 (.cells #[.bool true, .int .i64 0, .slice none 0 0] 80 (0, 0)) := ⟨_, rfl⟩
  obtain ⟨Ao, hAo⟩ : ∃ A : Atom, A = Im 1 (.slice pp5 od.length cc6) od.length (od.flatMap u8c) := ⟨_, rfl⟩
  have H23 : St W w18 (Im 6 (.slice pp1 (min l.length 40) cc2) (min l.length 40) ((l.take (min l.length 40)).flatMap itCell) :: blk bk17 (.cells #[.slice none 0 0, .slice none 0 0, .slice none 0 0, .slice none 0 0] 22 (0, 0)) :: Ag :: itsA K :: Ao :: Im 6 (.slice pp1 l.length cc2) l.length (l.flatMap itCell) :: F) := by rw [hAg, hAo]; exact H22
  have H24 : St W w18 (Im 6 (.slice pp1 K.length cc2) K.length (K.flatMap itCell) :: blk bk17 (.cells #[.slice none 0 0, .slice none 0 0, .slice none 0 0, .slice none 0 0] 22 (0, 0)) :: Ag :: itsA K :: Ao :: Im 6 (.slice pp1 l.length cc2) l.length (l.flatMap itCell) :: F) := by rw [hM, hKf]; exact H23
  obtain ⟨pA25, cA26, gA27, oA28, kA29, eA30, zA31, he37, hn32, hp33, hx34, hs35, hml, H36⟩ := Im.open_ H24 (i := 0) rfl
  obtain ⟨rfl, rfl⟩ : pp1 = pA25 ∧ cc2 = cA26 := by injection he37 with a_ b_ c_; exact ⟨a_, c_⟩
  obtain ⟨w0, hw0⟩ : ∃ L, L = ([] : List ItemD) := ⟨_, rfl⟩
  have hwl0 : w0.length ≤ 40 * 0 := by rw [hw0]; exact Nat.le_refl _
  have H38 : St W w18 (Row 32 6 (.slice none w0.length 0) w0.length (w0.flatMap itCell) :: imi (0 < K.length) gA27 (.cells kA29 eA30 zA31) :: Im 6 (.slice pp1 K.length cc2) K.length (K.flatMap itCell) :: blk bk17 (.cells #[.slice none 0 0, .slice none 0 0, .slice none 0 0, .slice none 0 0] 22 (0, 0)) :: Ag :: itsA K :: Ao :: Im 6 (.slice pp1 l.length cc2) l.length (l.flatMap itCell) :: F) := by rw [hw0]; exact Row.nil_intro H36 32 6
  have H39 := Row.nil_intro H38 32 6
  have H40 : St W w18 (Row 32 6 (.slice none 0 0) 0 [] :: Row 32 6 (.slice none w0.length 0) w0.length (w0.flatMap itCell) :: blk bk17 (.cells #[.slice none 0 0, .slice none 0 0, .slice none 0 0, .slice none 0 0] 22 (0, 0)) :: imi (0 < K.length) gA27 (.cells kA29 eA30 zA31) :: Ag :: itsA K :: Ao :: Im 6 (.slice pp1 l.length cc2) l.length (l.flatMap itCell) :: F) := (((((((((H39.move 8 rfl).move 8 rfl).move 8 rfl).move 8 rfl).move 6 rfl).move 8 rfl).move 7 rfl).move 7 rfl).drop 8 rfl)
  have hqz : QD (K.take 0) 0 = [] := by rw [List.take_zero]; rfl
  have H41 : St W w18 (Row 32 6 (.slice none 0 0) 0 [] :: Row 32 6 (.slice none ((w0 ++ QD (K.take 0) 0).length) 0) ((w0 ++ QD (K.take 0) 0).length) ((w0 ++ QD (K.take 0) 0).flatMap itCell) :: blk bk17 (.cells #[.slice none 0 0, .slice none 0 0, .slice none 0 0, .slice none 0 0] 22 (0, 0)) :: imi (0 < K.length) gA27 (.cells kA29 eA30 zA31) :: Ag :: itsA K :: Ao :: Im 6 (.slice pp1 l.length cc2) l.length (l.flatMap itCell) :: F) := by rw [hqz, List.append_nil]; exact H40
  refine g_loop_inv (fun (x_ : Nat × (Option Addr) × Nat × (Option Addr) × Nat) => match x_ with | (i0, p0, c0, q0, d0) => [(0, .slice pp1 l.length cc2), (1, .slice pp5 od.length cc6), (4, .bool false), (5, .pointer (some ⟨bk12, 0, none⟩)), (6, .slice (some ⟨bk17, 0, none⟩) 4 4), (7, .slice q0 ((w0 ++ (QD (K.take i0) 0)).length) d0), (25, .int .i64 4), (26, .int .i64 0), (8, .int .i64 0), (33, .slice pp1 (min l.length 40) cc2), (34, .int .i64 (min l.length 40 : Int)), (35, .int .i64 (i0 : Int))]) (fun (x_ : Nat × (Option Addr) × Nat × (Option Addr) × Nat) w => match x_ with | (i0, p0, c0, q0, d0) => (i0 ≤ K.length) ∧ St W w (Row 32 6 (.slice p0 ((QD (K.take i0) 0).length) c0) ((QD (K.take i0) 0).length) ((QD (K.take i0) 0).flatMap itCell) :: Row 32 6 (.slice q0 ((w0 ++ (QD (K.take i0) 0)).length) d0) ((w0 ++ (QD (K.take i0) 0)).length) ((w0 ++ (QD (K.take i0) 0)).flatMap itCell) :: blk bk17 (.cells #[.slice p0 ((QD (K.take i0) 0).length) c0, .slice none 0 0, .slice none 0 0, .slice none 0 0] 22 (0, 0)) :: imi (0 < K.length) gA27 (.cells kA29 eA30 zA31) :: Ag :: itsA K :: Ao :: Im 6 (.slice pp1 l.length cc2) l.length (l.flatMap itCell) :: F)) (fun (x_ : Nat × (Option Addr) × Nat × (Option Addr) × Nat) => match x_ with | (i0, p0, c0, q0, d0) => K.length - i0) (0, none, 0, none, 0) ?_ ?_ ?_
  · exact ⟨by first | rfl | exact vint (by omega), by first | rfl | exact vint (by omega), by first | rfl | exact vint (by omega), by first | rfl | exact vint (by omega), by first | rfl | exact vint (by omega), by rw [hqz, List.append_nil, hw0]; rfl, by first | rfl | exact vint (by omega), by first | rfl | exact vint (by omega), by first | rfl | exact vint (by omega), by first | rfl | exact vint (by omega), by first | rfl | exact vint (by omega), by first | rfl | exact vint (by omega), trivial⟩
  · exact ⟨(by omega), H41⟩
  · rintro ⟨i0, p0, c0, q0, d0⟩ ρ42 w43 ⟨hi0, H44⟩ nx45
    change Ends _ _ (upds ρ42 [(0, .slice pp1 l.length cc2), (1, .slice pp5 od.length cc6), (4, .bool false), (5, .pointer (some ⟨bk12, 0, none⟩)), (6, .slice (some ⟨bk17, 0, none⟩) 4 4), (7, .slice q0 ((w0 ++ (QD (K.take i0) 0)).length) d0), (25, .int .i64 4), (26, .int .i64 0), (8, .int .i64 0), (33, .slice pp1 (min l.length 40) cc2), (34, .int .i64 (min l.length 40 : Int)), (35, .int .i64 (i0 : Int))]) w43
    have hql0 := QD_len (K.take i0) 0
    rw [List.length_take] at hql0
    have hwq0 : (w0 ++ (QD (K.take i0) 0)).length = w0.length + (QD (K.take i0) 0).length := List.length_append
    refine g_seq ?_
    refine g_region ?_
    by_cases hc46 : (i0 : Int) < (min l.length 40 : Int)
    · skip
      refine r_cons (s_lss true rfl rfl (dtrue hc46) rfl ?_)
      refine r_nil ?_
      refine g_seq ?_
      refine g_true rfl ?_
      refine g_skip ?_
      refine g_seq ?_
      refine g_block ?_
      refine g_seq ?_
      refine g_region ?_
      refine r_cons (s_indexAddr gA27 (off := oA28) (i0 : Int) 6 (oA28 + i0 * 6) (by exact congrArg (fun z_ => Value.slice z_ (min l.length 40) cc2) (hp33 (by omega))) rfl el_22 (by omega) rfl rfl ?_)
      refine r_cons (s_loadAgg [.int .i64 ((gdI K i0).op.v), .int .i64 ((gdI K i0).inp.v), .int .i64 ((gdI K i0).ep.v), .int .i64 ((gdI K i0).kind.v), .slice ((gdI K i0).p) ((gdI K i0).bs.length) ((gdI K i0).c), .int .i64 ((gdI K i0).t.v)] 6 ag_32 rfl (H44.imi_at (i := 3) rfl (by omega)) (by have := elem_size (i := i0) (s := 6) (hs35 (by omega)) (by omega); omega) (elem_take itCell_len (hx34 (by omega)) (by omega) default) rfl ?_)
      refine r_cons (s_alloc H44 32 ze_32 rfl ?_); intro bk47 w48 H49
      refine r_cons (s_storeAgg H49 0 #[.int .i64 ((gdI K i0).op.v), .int .i64 ((gdI K i0).inp.v), .int .i64 ((gdI K i0).ep.v), .int .i64 ((gdI K i0).kind.v), .slice ((gdI K i0).p) ((gdI K i0).bs.length) ((gdI K i0).c), .int .i64 ((gdI K i0).t.v)] 6 rfl rfl rfl sz_32 rfl (by simp [Value.oneCell']) (Nat.le_of_ble_eq_true rfl) (fun o h1 h2 => by first | (simp; done) | (simp; omega)) (cs' := #[.int .i64 ((gdI K i0).op.v), .int .i64 ((gdI K i0).inp.v), .int .i64 ((gdI K i0).ep.v), .int .i64 ((gdI K i0).kind.v), .slice ((gdI K i0).p) ((gdI K i0).bs.length) ((gdI K i0).c), .int .i64 ((gdI K i0).t.v)]) rfl ?_); intro w50 H51
      refine r_nil ?_
      refine g_seq ?_
      refine g_seq ?_
      refine g_region ?_
      have H52 : St W w50 (bndsA ((gdI K i0).bs) :: blk bk47 (.cells #[.int .i64 ((gdI K i0).op.v), .int .i64 ((gdI K i0).inp.v), .int .i64 ((gdI K i0).ep.v), .int .i64 ((gdI K i0).kind.v), .slice ((gdI K i0).p) ((gdI K i0).bs.length) ((gdI K i0).c), .int .i64 ((gdI K i0).t.v)] 32 (0, 0)) :: Row 32 6 (.slice p0 ((QD (K.take i0) 0).length) c0) ((QD (K.take i0) 0).length) ((QD (K.take i0) 0).flatMap itCell) :: Row 32 6 (.slice q0 ((w0 ++ (QD (K.take i0) 0)).length) d0) ((w0 ++ (QD (K.take i0) 0)).length) ((w0 ++ (QD (K.take i0) 0)).flatMap itCell) :: blk bk17 (.cells #[.slice p0 ((QD (K.take i0) 0).length) c0, .slice none 0 0, .slice none 0 0, .slice none 0 0] 22 (0, 0)) :: imi (0 < K.length) gA27 (.cells kA29 eA30 zA31) :: Ag :: itsA K :: Ao :: Im 6 (.slice pp1 l.length cc2) l.length (l.flatMap itCell) :: F) := itsA_at H51 (i := 6) rfl (j := i0) (by omega)
      have H53 : St W w50 (Im 6 (.slice ((gdI K i0).p) ((gdI K i0).bs.length) ((gdI K i0).c)) ((gdI K i0).bs.length) ((gdI K i0).bs.flatMap bndCell) :: bndsA ((gdI K i0).bs) :: blk bk47 (.cells #[.int .i64 ((gdI K i0).op.v), .int .i64 ((gdI K i0).inp.v), .int .i64 ((gdI K i0).ep.v), .int .i64 ((gdI K i0).kind.v), .slice ((gdI K i0).p) ((gdI K i0).bs.length) ((gdI K i0).c), .int .i64 ((gdI K i0).t.v)] 32 (0, 0)) :: Row 32 6 (.slice p0 ((QD (K.take i0) 0).length) c0) ((QD (K.take i0) 0).length) ((QD (K.take i0) 0).flatMap itCell) :: Row 32 6 (.slice q0 ((w0 ++ (QD (K.take i0) 0)).length) d0) ((w0 ++ (QD (K.take i0) 0)).length) ((w0 ++ (QD (K.take i0) 0)).flatMap itCell) :: blk bk17 (.cells #[.slice p0 ((QD (K.take i0) 0).length) c0, .slice none 0 0, .slice none 0 0, .slice none 0 0] 22 (0, 0)) :: imi (0 < K.length) gA27 (.cells kA29 eA30 zA31) :: Ag :: itsA K :: Ao :: Im 6 (.slice pp1 l.length cc2) l.length (l.flatMap itCell) :: F) := itsA_bs H52 (i := 7) rfl (j := i0) (by omega)
      refine r_cons (s_fieldAddr 32 2 2 2 2 rfl fi_32_2 rfl rfl ?_)
      refine r_cons (s_load (.int .i64 ((gdI K i0).ep.v)) ag_2 rfl (H53.blk_at (i := 2) rfl) rfl rfl ?_)
      refine r_cons (s_move (.int .i64 0) rfl rfl ?_)
      by_cases hc54 : (gdI K i0).ep.v = 0
      · skip
        refine r_cons (s_neq false rfl rfl (ntrue hc54) rfl ?_)
        refine r_cons (s_move (.bool false) rfl rfl ?_)
        refine r_cons (r_take rfl rfl ?_)
        refine s_fieldAddr 32 3 3 3 3 rfl fi_32_3 rfl rfl ?_
        refine r_cons (r_take rfl rfl ?_)
        refine s_load (.int .i64 ((gdI K i0).kind.v)) ag_3 rfl (H53.blk_at (i := 2) rfl) rfl rfl ?_
        refine r_cons (r_take rfl rfl ?_)
        by_cases hc55 : (gdI K i0).kind.v = 3
        · skip
          refine s_eql true rfl rfl (dtrue hc55) rfl ?_
          refine r_cons (s_pick_f (.bool true) rfl rfl rfl ?_)
          refine r_cons (s_move (.bool true) rfl rfl ?_)
          refine r_cons (r_pass rfl rfl rfl rfl rfl ?_)
          refine r_cons (r_pass rfl rfl rfl rfl rfl ?_)
          refine r_cons (r_pass rfl rfl rfl rfl rfl ?_)
          refine r_cons (s_pick_t (.bool true) rfl rfl rfl ?_)
          refine r_nil ?_
          refine g_true rfl ?_
          refine g_exit (by rfl) ?_
          refine g_region ?_
          refine r_cons (s_add ((i0 : Int) + 1) rfl rfl (wi64 (by omega)) rfl ?_)
          refine r_cons (s_move (.int .i64 ((i0 : Int) + 1)) rfl rfl ?_)
          refine r_nil ?_
          have hq := QD_no (L := K) (k := 0) (i := i0) (by omega) (okk_2 hc55)
          have H56 : St W w50 (Im 6 (.slice ((gdI K i0).p) ((gdI K i0).bs.length) ((gdI K i0).c)) ((gdI K i0).bs.length) ((gdI K i0).bs.flatMap bndCell) :: bndsA ((gdI K i0).bs) :: blk bk47 (.cells #[.int .i64 ((gdI K i0).op.v), .int .i64 ((gdI K i0).inp.v), .int .i64 ((gdI K i0).ep.v), .int .i64 ((gdI K i0).kind.v), .slice ((gdI K i0).p) ((gdI K i0).bs.length) ((gdI K i0).c), .int .i64 ((gdI K i0).t.v)] 32 (0, 0)) :: Row 32 6 (.slice p0 ((QD (K.take (i0 + 1)) 0).length) c0) ((QD (K.take (i0 + 1)) 0).length) ((QD (K.take (i0 + 1)) 0).flatMap itCell) :: Row 32 6 (.slice q0 ((w0 ++ (QD (K.take (i0 + 1)) 0)).length) d0) ((w0 ++ (QD (K.take (i0 + 1)) 0)).length) ((w0 ++ (QD (K.take (i0 + 1)) 0)).flatMap itCell) :: blk bk17 (.cells #[.slice p0 ((QD (K.take (i0 + 1)) 0).length) c0, .slice none 0 0, .slice none 0 0, .slice none 0 0] 22 (0, 0)) :: imi (0 < K.length) gA27 (.cells kA29 eA30 zA31) :: Ag :: itsA K :: Ao :: Im 6 (.slice pp1 l.length cc2) l.length (l.flatMap itCell) :: F) := by rw [hq]; exact H53
          have H57 : St W w50 (Row 32 6 (.slice p0 ((QD (K.take (i0 + 1)) 0).length) c0) ((QD (K.take (i0 + 1)) 0).length) ((QD (K.take (i0 + 1)) 0).flatMap itCell) :: Row 32 6 (.slice q0 ((w0 ++ (QD (K.take (i0 + 1)) 0)).length) d0) ((w0 ++ (QD (K.take (i0 + 1)) 0)).length) ((w0 ++ (QD (K.take (i0 + 1)) 0)).flatMap itCell) :: blk bk17 (.cells #[.slice p0 ((QD (K.take (i0 + 1)) 0).length) c0, .slice none 0 0, .slice none 0 0, .slice none 0 0] 22 (0, 0)) :: imi (0 < K.length) gA27 (.cells kA29 eA30 zA31) :: Ag :: itsA K :: Ao :: Im 6 (.slice pp1 l.length cc2) l.length (l.flatMap itCell) :: F) := (((((((((((H56.move 10 rfl).move 10 rfl).move 10 rfl).move 10 rfl).move 10 rfl).move 10 rfl).move 10 rfl).move 10 rfl).drop 8 rfl).drop 8 rfl).drop 8 rfl)
          exact nx45 (i0 + 1, p0, c0, q0, d0) _ _ ⟨(by omega), H57⟩ (by first | (dsimp only; omega) | omega) ⟨by first | rfl | exact vint (by omega), by first | rfl | exact vint (by omega), by first | rfl | exact vint (by omega), by first | rfl | exact vint (by omega), by first | rfl | exact vint (by omega), by rw [hq]; rfl, by first | rfl | exact vint (by omega), by first | rfl | exact vint (by omega), by first | rfl | exact vint (by omega), by first | rfl | exact vint (by omega), by first | rfl | exact vint (by omega), by first | rfl | exact vint (by omega), trivial⟩
        · skip
          refine s_eql false rfl rfl (dfalse hc55) rfl ?_
          refine r_cons (s_pick_f (.bool false) rfl rfl rfl ?_)
          refine r_cons (s_move (.bool false) rfl rfl ?_)
          refine r_cons (r_take rfl rfl ?_)
          refine s_loadAgg [.int .i64 ((gdI K i0).op.v), .int .i64 ((gdI K i0).inp.v), .int .i64 ((gdI K i0).ep.v), .int .i64 ((gdI K i0).kind.v), .slice ((gdI K i0).p) ((gdI K i0).bs.length) ((gdI K i0).c), .int .i64 ((gdI K i0).t.v)] 6 ag_32 rfl (H53.blk_at (i := 2) rfl) (Nat.le_of_ble_eq_true rfl) rfl rfl ?_
          refine r_cons (r_take rfl rfl ?_)
          refine s_call [.agg #[.int .i64 ((gdI K i0).op.v), .int .i64 ((gdI K i0).inp.v), .int .i64 ((gdI K i0).ep.v), .int .i64 ((gdI K i0).kind.v), .slice ((gdI K i0).p) ((gdI K i0).bs.length) ((gdI K i0).c), .int .i64 ((gdI K i0).t.v)]] pl_11 rfl rfl (ref24_CheckItem (gdI K i0) (ip := 0) rfl (iq := 1) rfl H53) ?_
          rintro _ w58 ⟨rfl, H59⟩
          refine r_cons (r_take rfl rfl ?_)
          by_cases hc60 : itE (gdI K i0) = 0
          · skip
            refine s_neq false rfl rfl (ntrue hc60) rfl ?_
            refine r_cons (s_pick_f (.bool false) rfl rfl rfl ?_)
            refine r_nil ?_
            refine g_false rfl ?_
            refine g_skip ?_
            refine g_seq ?_
            have H61 : St W w58 (blk bk47 (.cells #[.int .i64 ((gdI K i0).op.v), .int .i64 ((gdI K i0).inp.v), .int .i64 ((gdI K i0).ep.v), .int .i64 ((gdI K i0).kind.v), .slice ((gdI K i0).p) ((gdI K i0).bs.length) ((gdI K i0).c), .int .i64 ((gdI K i0).t.v)] 32 (0, 0)) :: Row 32 6 (.slice p0 ((QD (K.take i0) 0).length) c0) ((QD (K.take i0) 0).length) ((QD (K.take i0) 0).flatMap itCell) :: Row 32 6 (.slice q0 ((w0 ++ (QD (K.take i0) 0)).length) d0) ((w0 ++ (QD (K.take i0) 0)).length) ((w0 ++ (QD (K.take i0) 0)).flatMap itCell) :: blk bk17 (.cells #[.slice p0 ((QD (K.take i0) 0).length) c0, .slice none 0 0, .slice none 0 0, .slice none 0 0] 22 (0, 0)) :: imi (0 < K.length) gA27 (.cells kA29 eA30 zA31) :: Ag :: itsA K :: Ao :: Im 6 (.slice pp1 l.length cc2) l.length (l.flatMap itCell) :: F) := (((((((((((H59.move 10 rfl).move 10 rfl).move 10 rfl).move 10 rfl).move 10 rfl).move 10 rfl).move 10 rfl).move 10 rfl).move 10 rfl).drop 9 rfl).drop 9 rfl)
            refine g_cut (fun (x : Nat × Option Addr × Nat) => match x with | (bk62, pp69, cc70) => [(0, .slice pp1 l.length cc2), (1, .slice pp5 od.length cc6), (4, .bool false), (5, .pointer (some ⟨bk12, 0, none⟩)), (6, .slice (some ⟨bk17, 0, none⟩) 4 4), (7, .slice q0 ((w0 ++ (QD (K.take i0) 0)).length) d0), (25, .int .i64 4), (26, .int .i64 0), (8, .int .i64 0), (33, .slice pp1 (min l.length 40) cc2), (34, .int .i64 (min l.length 40 : Int)), (35, .int .i64 (i0 : Int)), (36, .bool true), (37, .pointer (some ⟨gA27, oA28 + i0 * 6, none⟩)), (38, .agg #[.int .i64 ((gdI K i0).op.v), .int .i64 ((gdI K i0).inp.v), .int .i64 ((gdI K i0).ep.v), .int .i64 ((gdI K i0).kind.v), .slice ((gdI K i0).p) ((gdI K i0).bs.length) ((gdI K i0).c), .int .i64 ((gdI K i0).t.v)]), (10, .pointer (some ⟨bk47, 0, none⟩)), (39, .pointer (some ⟨bk47, 2, none⟩)), (40, .int .i64 ((gdI K i0).ep.v)), (41, .int .i64 0), (42, .bool false), (43, .bool false), (44, .pointer (some ⟨bk47, 3, none⟩)), (45, .int .i64 ((gdI K i0).kind.v)), (46, .bool false), (47, .bool false), (48, .bool false), (49, .agg #[.int .i64 ((gdI K i0).op.v), .int .i64 ((gdI K i0).inp.v), .int .i64 ((gdI K i0).ep.v), .int .i64 ((gdI K i0).kind.v), .slice ((gdI K i0).p) ((gdI K i0).bs.length) ((gdI K i0).c), .int .i64 ((gdI K i0).t.v)]), (50, .int .i64 (itE (gdI K i0))), (51, .bool false), (52, .bool false), (53, .slice (some ⟨bk17, 0, none⟩) 4 4), (54, .int .i64 0), (55, .slice (some ⟨bk17, 0, none⟩) 4 4), (56, .int .i64 0), (57, .pointer (some ⟨bk17, 0, none⟩)), (58, .slice p0 ((QD (K.take i0) 0).length) c0), (59, .agg #[.int .i64 ((gdI K i0).op.v), .int .i64 ((gdI K i0).inp.v), .int .i64 ((gdI K i0).ep.v), .int .i64 ((gdI K i0).kind.v), .slice ((gdI K i0).p) ((gdI K i0).bs.length) ((gdI K i0).c), .int .i64 ((gdI K i0).t.v)]), (60, .slice (some ⟨bk62, 0, none⟩) 1 1), (61, .slice pp69 ((QD (K.take i0) 0).length + 1) cc70), (62, .pointer (some ⟨bk17, 0, none⟩))]) (fun (x : Nat × Option Addr × Nat) w => match x with | (bk62, pp69, cc70) => St W w (blk bk62 (.cells #[.int .i64 ((gdI K i0).op.v), .int .i64 ((gdI K i0).inp.v), .int .i64 ((gdI K i0).ep.v), .int .i64 ((gdI K i0).kind.v), .slice ((gdI K i0).p) ((gdI K i0).bs.length) ((gdI K i0).c), .int .i64 ((gdI K i0).t.v)] 32 (0, 0)) :: blk bk47 (.cells #[.int .i64 ((gdI K i0).op.v), .int .i64 ((gdI K i0).inp.v), .int .i64 ((gdI K i0).ep.v), .int .i64 ((gdI K i0).kind.v), .slice ((gdI K i0).p) ((gdI K i0).bs.length) ((gdI K i0).c), .int .i64 ((gdI K i0).t.v)] 32 (0, 0)) :: Row 32 6 (.slice pp69 ((QD (K.take i0) 0).length + 1) cc70) ((QD (K.take i0) 0).length + 1) ((QD (K.take i0) 0).flatMap itCell ++ ([.int .i64 ((gdI K i0).op.v), .int .i64 ((gdI K i0).inp.v), .int .i64 ((gdI K i0).ep.v), .int .i64 ((gdI K i0).kind.v), .slice ((gdI K i0).p) ((gdI K i0).bs.length) ((gdI K i0).c), .int .i64 ((gdI K i0).t.v)] : List Value)) :: Row 32 6 (.slice q0 ((w0 ++ (QD (K.take i0) 0)).length) d0) ((w0 ++ (QD (K.take i0) 0)).length) ((w0 ++ (QD (K.take i0) 0)).flatMap itCell) :: blk bk17 (.cells #[.slice pp69 ((QD (K.take i0) 0).length + 1) cc70, .slice none 0 0, .slice none 0 0, .slice none 0 0] 22 (0, 0)) :: imi (0 < K.length) gA27 (.cells kA29 eA30 zA31) :: Ag :: itsA K :: Ao :: Im 6 (.slice pp1 l.length cc2) l.length (l.flatMap itCell) :: F)) ?_ ?_
            · rintro ⟨bk62, pp69, cc70⟩ ρ65 w63 H64
              change Ends _ _ (upds ρ65 [(0, .slice pp1 l.length cc2), (1, .slice pp5 od.length cc6), (4, .bool false), (5, .pointer (some ⟨bk12, 0, none⟩)), (6, .slice (some ⟨bk17, 0, none⟩) 4 4), (7, .slice q0 ((w0 ++ (QD (K.take i0) 0)).length) d0), (25, .int .i64 4), (26, .int .i64 0), (8, .int .i64 0), (33, .slice pp1 (min l.length 40) cc2), (34, .int .i64 (min l.length 40 : Int)), (35, .int .i64 (i0 : Int)), (36, .bool true), (37, .pointer (some ⟨gA27, oA28 + i0 * 6, none⟩)), (38, .agg #[.int .i64 ((gdI K i0).op.v), .int .i64 ((gdI K i0).inp.v), .int .i64 ((gdI K i0).ep.v), .int .i64 ((gdI K i0).kind.v), .slice ((gdI K i0).p) ((gdI K i0).bs.length) ((gdI K i0).c), .int .i64 ((gdI K i0).t.v)]), (10, .pointer (some ⟨bk47, 0, none⟩)), (39, .pointer (some ⟨bk47, 2, none⟩)), (40, .int .i64 ((gdI K i0).ep.v)), (41, .int .i64 0), (42, .bool false), (43, .bool false), (44, .pointer (some ⟨bk47, 3, none⟩)), (45, .int .i64 ((gdI K i0).kind.v)), (46, .bool false), (47, .bool false), (48, .bool false), (49, .agg #[.int .i64 ((gdI K i0).op.v), .int .i64 ((gdI K i0).inp.v), .int .i64 ((gdI K i0).ep.v), .int .i64 ((gdI K i0).kind.v), .slice ((gdI K i0).p) ((gdI K i0).bs.length) ((gdI K i0).c), .int .i64 ((gdI K i0).t.v)]), (50, .int .i64 (itE (gdI K i0))), (51, .bool false), (52, .bool false), (53, .slice (some ⟨bk17, 0, none⟩) 4 4), (54, .int .i64 0), (55, .slice (some ⟨bk17, 0, none⟩) 4 4), (56, .int .i64 0), (57, .pointer (some ⟨bk17, 0, none⟩)), (58, .slice p0 ((QD (K.take i0) 0).length) c0), (59, .agg #[.int .i64 ((gdI K i0).op.v), .int .i64 ((gdI K i0).inp.v), .int .i64 ((gdI K i0).ep.v), .int .i64 ((gdI K i0).kind.v), .slice ((gdI K i0).p) ((gdI K i0).bs.length) ((gdI K i0).c), .int .i64 ((gdI K i0).t.v)]), (60, .slice (some ⟨bk62, 0, none⟩) 1 1), (61, .slice pp69 ((QD (K.take i0) 0).length + 1) cc70), (62, .pointer (some ⟨bk17, 0, none⟩))]) w63
              refine g_region ?_
              refine r_cons (s_move (.slice q0 ((w0 ++ (QD (K.take i0) 0)).length) d0) rfl rfl ?_)
              refine r_cons (s_loadAgg [.int .i64 ((gdI K i0).op.v), .int .i64 ((gdI K i0).inp.v), .int .i64 ((gdI K i0).ep.v), .int .i64 ((gdI K i0).kind.v), .slice ((gdI K i0).p) ((gdI K i0).bs.length) ((gdI K i0).c), .int .i64 ((gdI K i0).t.v)] 6 ag_32 rfl (H64.blk_at (i := 1) rfl) (Nat.le_of_ble_eq_true rfl) rfl rfl ?_)
              refine r_cons (s_buildSlice H64 6 1 (cs := #[.int .i64 ((gdI K i0).op.v), .int .i64 ((gdI K i0).inp.v), .int .i64 ((gdI K i0).ep.v), .int .i64 ((gdI K i0).kind.v), .slice ((gdI K i0).p) ((gdI K i0).bs.length) ((gdI K i0).c), .int .i64 ((gdI K i0).t.v)]) #[.int .i64 0, .int .i64 0, .int .i64 0, .int .i64 0, .slice none 0 0, .int .i64 0] el_22 ze_32 (by decide) (by decide) (by kernel_rfl) rfl ?_); intro bk66 w67 H68
              refine r_cons (s_append H68 4 rfl rfl rfl (rd_blk (H68.blk_at (i := 0) rfl) rfl (Nat.le_of_ble_eq_true rfl) (by simp [Value.oneCell'])) ap_22 (by decide) (by unfold maxLen; omega) (by omega) (n' := (w0 ++ (QD (K.take i0) 0)).length + 1) (xs' := (w0 ++ (QD (K.take i0) 0)).flatMap itCell ++ ([.int .i64 ((gdI K i0).op.v), .int .i64 ((gdI K i0).inp.v), .int .i64 ((gdI K i0).ep.v), .int .i64 ((gdI K i0).kind.v), .slice ((gdI K i0).p) ((gdI K i0).bs.length) ((gdI K i0).c), .int .i64 ((gdI K i0).t.v)] : List Value)) (by omega) (by first | rfl | simp) rfl ?_); intro vv69 w70 H71 hn72
              obtain ⟨pp73, cc74, rfl⟩ := Row.slice H71 (i := 4) rfl
              refine r_cons (s_assign (.slice pp73 ((w0 ++ (QD (K.take i0) 0)).length + 1) cc74) rfl rfl ?_)
              refine r_nil ?_
              refine g_inBlock ?_
              refine g_region ?_
              refine r_cons (s_add ((i0 : Int) + 1) rfl rfl (wi64 (by omega)) rfl ?_)
              refine r_cons (s_move (.int .i64 ((i0 : Int) + 1)) rfl rfl ?_)
              refine r_nil ?_
              have hq := QD_yes (L := K) (k := 0) (i := i0) (by omega) (okk_4 (k := 0) (by simpa using hc54) hc55 hc60)
              have hq1 : (QD (K.take (i0 + 1)) 0).length = (QD (K.take i0) 0).length + 1 := by rw [hq]; simp
              have hq2 : (QD (K.take (i0 + 1)) 0).flatMap itCell = (QD (K.take i0) 0).flatMap itCell ++ itCell (gdI K i0) := by rw [hq]; simp
              have hq3 : (w0 ++ (QD (K.take (i0 + 1)) 0)).length = (w0 ++ (QD (K.take i0) 0)).length + 1 := by rw [hq]; simp; omega
              have hq4 : (w0 ++ (QD (K.take (i0 + 1)) 0)).flatMap itCell = (w0 ++ (QD (K.take i0) 0)).flatMap itCell ++ itCell (gdI K i0) := by rw [hq]; simp
              have H75 : St W w70 (blk bk66 (.cells #[.int .i64 ((gdI K i0).op.v), .int .i64 ((gdI K i0).inp.v), .int .i64 ((gdI K i0).ep.v), .int .i64 ((gdI K i0).kind.v), .slice ((gdI K i0).p) ((gdI K i0).bs.length) ((gdI K i0).c), .int .i64 ((gdI K i0).t.v)] 32 (0, 0)) :: blk bk62 (.cells #[.int .i64 ((gdI K i0).op.v), .int .i64 ((gdI K i0).inp.v), .int .i64 ((gdI K i0).ep.v), .int .i64 ((gdI K i0).kind.v), .slice ((gdI K i0).p) ((gdI K i0).bs.length) ((gdI K i0).c), .int .i64 ((gdI K i0).t.v)] 32 (0, 0)) :: blk bk47 (.cells #[.int .i64 ((gdI K i0).op.v), .int .i64 ((gdI K i0).inp.v), .int .i64 ((gdI K i0).ep.v), .int .i64 ((gdI K i0).kind.v), .slice ((gdI K i0).p) ((gdI K i0).bs.length) ((gdI K i0).c), .int .i64 ((gdI K i0).t.v)] 32 (0, 0)) :: Row 32 6 (.slice pp69 ((QD (K.take (i0 + 1)) 0).length) cc70) ((QD (K.take (i0 + 1)) 0).length) ((QD (K.take (i0 + 1)) 0).flatMap itCell) :: Row 32 6 (.slice pp73 ((w0 ++ (QD (K.take (i0 + 1)) 0)).length) cc74) ((w0 ++ (QD (K.take (i0 + 1)) 0)).length) ((w0 ++ (QD (K.take (i0 + 1)) 0)).flatMap itCell) :: blk bk17 (.cells #[.slice pp69 ((QD (K.take (i0 + 1)) 0).length) cc70, .slice none 0 0, .slice none 0 0, .slice none 0 0] 22 (0, 0)) :: imi (0 < K.length) gA27 (.cells kA29 eA30 zA31) :: Ag :: itsA K :: Ao :: Im 6 (.slice pp1 l.length cc2) l.length (l.flatMap itCell) :: F) := by rw [hq1, hq2, hq3, hq4]; exact H71
              have H76 : St W w70 (Row 32 6 (.slice pp69 ((QD (K.take (i0 + 1)) 0).length) cc70) ((QD (K.take (i0 + 1)) 0).length) ((QD (K.take (i0 + 1)) 0).flatMap itCell) :: Row 32 6 (.slice pp73 ((w0 ++ (QD (K.take (i0 + 1)) 0)).length) cc74) ((w0 ++ (QD (K.take (i0 + 1)) 0)).length) ((w0 ++ (QD (K.take (i0 + 1)) 0)).flatMap itCell) :: blk bk17 (.cells #[.slice pp69 ((QD (K.take (i0 + 1)) 0).length) cc70, .slice none 0 0, .slice none 0 0, .slice none 0 0] 22 (0, 0)) :: imi (0 < K.length) gA27 (.cells kA29 eA30 zA31) :: Ag :: itsA K :: Ao :: Im 6 (.slice pp1 l.length cc2) l.length (l.flatMap itCell) :: F) := (((((((((((H75.move 10 rfl).move 10 rfl).move 10 rfl).move 10 rfl).move 10 rfl).move 10 rfl).move 10 rfl).move 10 rfl).drop 8 rfl).drop 8 rfl).drop 8 rfl)
              exact nx45 (i0 + 1, pp69, cc70, pp73, cc74) _ _ ⟨(by omega), H76⟩ (by first | (dsimp only; omega) | omega) ⟨by first | rfl | exact vint (by omega), by first | rfl | exact vint (by omega), by first | rfl | exact vint (by omega), by first | rfl | exact vint (by omega), by first | rfl | exact vint (by omega), by rw [hq3]; rfl, by first | rfl | exact vint (by omega), by first | rfl | exact vint (by omega), by first | rfl | exact vint (by omega), by first | rfl | exact vint (by omega), by first | rfl | exact vint (by omega), by first | rfl | exact vint (by omega), trivial⟩
            · intro join62
              refine g_any mixed 11 rfl ?_
              intro w77 hw78
              have H79 := H61.drew
              rw [← hw78] at H79
              clear hw78
              refine a_take 0 (listed' := #[true, false, false, false, false, false, false, false, false, false, false]) rfl (by kernel_rfl) (by kernel_rfl) (by kernel_rfl) rfl rfl rfl rfl (fun w => x_move (.slice (some ⟨bk17, 0, none⟩) 4 4) rfl w) ?_
              refine a_take 1 (listed' := #[true, true, false, false, false, false, false, false, false, false, false]) rfl (by kernel_rfl) (by kernel_rfl) (by kernel_rfl) rfl rfl rfl rfl (fun w => x_move (.int .i64 0) rfl w) ?_
              refine a_take 2 (listed' := #[true, true, true, false, false, false, false, false, false, false, false]) rfl (by kernel_rfl) (by kernel_rfl) (by kernel_rfl) rfl rfl rfl rfl (fun w => x_move (.slice (some ⟨bk17, 0, none⟩) 4 4) rfl w) ?_
              refine a_take 3 (listed' := #[true, true, true, true, false, false, false, false, false, false, false]) rfl (by kernel_rfl) (by kernel_rfl) (by kernel_rfl) rfl rfl rfl rfl (fun w => x_move (.int .i64 0) rfl w) ?_
              refine a_take 4 (listed' := #[true, true, true, true, true, false, false, false, false, false, false]) rfl (by kernel_rfl) (by kernel_rfl) (by kernel_rfl) rfl rfl rfl rfl (fun w => x_indexAddr bk17 0 1 0 rfl rfl el_27 (by omega) rfl w) ?_
              refine a_all (rs := [5, 6]) (by kernel_rfl) (by simp) ?_
              refine a_cons ⟨_, rfl, ?_⟩ (a_cons ⟨_, rfl, ?_⟩ (fun x hx => absurd hx (by simp)))
              · skip
                refine s_load (.slice p0 ((QD (K.take i0) 0).length) c0) ag_22 rfl (H79.blk_at (i := 3) rfl) rfl rfl ?_
                change AnyG _ _ _ _ #[true, true, true, true, true, true, false, false, false, false, false] _ _
                refine a_all (rs := [6]) (by kernel_rfl) (by simp) ?_
                refine a_cons ⟨_, rfl, ?_⟩ (fun x hx => absurd hx (by simp))
                refine s_loadAgg [.int .i64 ((gdI K i0).op.v), .int .i64 ((gdI K i0).inp.v), .int .i64 ((gdI K i0).ep.v), .int .i64 ((gdI K i0).kind.v), .slice ((gdI K i0).p) ((gdI K i0).bs.length) ((gdI K i0).c), .int .i64 ((gdI K i0).t.v)] 6 ag_32 rfl (H79.blk_at (i := 0) rfl) (Nat.le_of_ble_eq_true rfl) rfl rfl ?_
                change AnyG _ _ _ _ #[true, true, true, true, true, true, true, false, false, false, false] _ _
                refine a_all (rs := [7]) (by kernel_rfl) (by simp) ?_
                refine a_cons ⟨_, rfl, ?_⟩ (fun x hx => absurd hx (by simp))
                refine s_buildSlice H79 6 1 (cs := #[.int .i64 ((gdI K i0).op.v), .int .i64 ((gdI K i0).inp.v), .int .i64 ((gdI K i0).ep.v), .int .i64 ((gdI K i0).kind.v), .slice ((gdI K i0).p) ((gdI K i0).bs.length) ((gdI K i0).c), .int .i64 ((gdI K i0).t.v)]) #[.int .i64 0, .int .i64 0, .int .i64 0, .int .i64 0, .slice none 0 0, .int .i64 0] el_22 ze_32 (by decide) (by decide) (by kernel_rfl) rfl ?_; intro bk80 w81 H82
                change AnyG _ _ _ _ #[true, true, true, true, true, true, true, true, false, false, false] _ _
                refine a_all (rs := [8]) (by kernel_rfl) (by simp) ?_
                refine a_cons ⟨_, rfl, ?_⟩ (fun x hx => absurd hx (by simp))
                refine s_append H82 2 rfl rfl rfl (rd_blk (H82.blk_at (i := 0) rfl) rfl (Nat.le_of_ble_eq_true rfl) (by simp [Value.oneCell'])) ap_22 (by decide) (by unfold maxLen; omega) (by omega) (n' := (QD (K.take i0) 0).length + 1) (xs' := (QD (K.take i0) 0).flatMap itCell ++ ([.int .i64 ((gdI K i0).op.v), .int .i64 ((gdI K i0).inp.v), .int .i64 ((gdI K i0).ep.v), .int .i64 ((gdI K i0).kind.v), .slice ((gdI K i0).p) ((gdI K i0).bs.length) ((gdI K i0).c), .int .i64 ((gdI K i0).t.v)] : List Value)) (by omega) (by first | rfl | simp) rfl ?_; intro vv83 w84 H85 hn86
                obtain ⟨pp87, cc88, rfl⟩ := Row.slice H85 (i := 2) rfl
                change AnyG _ _ _ _ #[true, true, true, true, true, true, true, true, true, false, false] _ _
                refine a_take 9 (listed' := #[true, true, true, true, true, true, true, true, true, true, false]) rfl (by kernel_rfl) (by kernel_rfl) (by kernel_rfl) rfl rfl rfl rfl (fun w => x_indexAddr bk17 0 1 0 rfl rfl el_27 (by omega) rfl w) ?_
                refine a_all (rs := [10]) (by kernel_rfl) (by simp) ?_
                refine a_cons ⟨_, rfl, ?_⟩ (fun x hx => absurd hx (by simp))
                refine s_store H85 4 (.slice pp87 ((QD (K.take i0) 0).length + 1) cc88) rfl rfl rfl sz_22 rfl (Nat.le_of_ble_eq_true rfl) rfl (cs' := #[.slice pp87 ((QD (K.take i0) 0).length + 1) cc88, .slice none 0 0, .slice none 0 0, .slice none 0 0]) rfl ?_; intro w89 H90
                change AnyG _ _ _ _ #[true, true, true, true, true, true, true, true, true, true, true] _ _
                refine a_done (by kernel_rfl) ?_
                exact join62 (bk80, pp87, cc88) _ _ H90 ⟨rfl, rfl, rfl, rfl, rfl, rfl, rfl, rfl, rfl, rfl, rfl, rfl, rfl, rfl, rfl, rfl, rfl, rfl, rfl, rfl, rfl, rfl, rfl, rfl, rfl, rfl, rfl, rfl, rfl, rfl, rfl, rfl, rfl, rfl, rfl, rfl, rfl, rfl, rfl, rfl, trivial⟩
              · skip
                refine s_loadAgg [.int .i64 ((gdI K i0).op.v), .int .i64 ((gdI K i0).inp.v), .int .i64 ((gdI K i0).ep.v), .int .i64 ((gdI K i0).kind.v), .slice ((gdI K i0).p) ((gdI K i0).bs.length) ((gdI K i0).c), .int .i64 ((gdI K i0).t.v)] 6 ag_32 rfl (H79.blk_at (i := 0) rfl) (Nat.le_of_ble_eq_true rfl) rfl rfl ?_
                change AnyG _ _ _ _ #[true, true, true, true, true, false, true, false, false, false, false] _ _
                refine a_all (rs := [5, 7]) (by kernel_rfl) (by simp) ?_
                refine a_cons ⟨_, rfl, ?_⟩ (a_cons ⟨_, rfl, ?_⟩ (fun x hx => absurd hx (by simp)))
                · skip
                  refine s_load (.slice p0 ((QD (K.take i0) 0).length) c0) ag_22 rfl (H79.blk_at (i := 3) rfl) rfl rfl ?_
                  change AnyG _ _ _ _ #[true, true, true, true, true, true, true, false, false, false, false] _ _
                  refine a_all (rs := [7]) (by kernel_rfl) (by simp) ?_
                  refine a_cons ⟨_, rfl, ?_⟩ (fun x hx => absurd hx (by simp))
                  refine s_buildSlice H79 6 1 (cs := #[.int .i64 ((gdI K i0).op.v), .int .i64 ((gdI K i0).inp.v), .int .i64 ((gdI K i0).ep.v), .int .i64 ((gdI K i0).kind.v), .slice ((gdI K i0).p) ((gdI K i0).bs.length) ((gdI K i0).c), .int .i64 ((gdI K i0).t.v)]) #[.int .i64 0, .int .i64 0, .int .i64 0, .int .i64 0, .slice none 0 0, .int .i64 0] el_22 ze_32 (by decide) (by decide) (by kernel_rfl) rfl ?_; intro bk91 w92 H93
                  change AnyG _ _ _ _ #[true, true, true, true, true, true, true, true, false, false, false] _ _
                  refine a_all (rs := [8]) (by kernel_rfl) (by simp) ?_
                  refine a_cons ⟨_, rfl, ?_⟩ (fun x hx => absurd hx (by simp))
                  refine s_append H93 2 rfl rfl rfl (rd_blk (H93.blk_at (i := 0) rfl) rfl (Nat.le_of_ble_eq_true rfl) (by simp [Value.oneCell'])) ap_22 (by decide) (by unfold maxLen; omega) (by omega) (n' := (QD (K.take i0) 0).length + 1) (xs' := (QD (K.take i0) 0).flatMap itCell ++ ([.int .i64 ((gdI K i0).op.v), .int .i64 ((gdI K i0).inp.v), .int .i64 ((gdI K i0).ep.v), .int .i64 ((gdI K i0).kind.v), .slice ((gdI K i0).p) ((gdI K i0).bs.length) ((gdI K i0).c), .int .i64 ((gdI K i0).t.v)] : List Value)) (by omega) (by first | rfl | simp) rfl ?_; intro vv94 w95 H96 hn97
                  obtain ⟨pp98, cc99, rfl⟩ := Row.slice H96 (i := 2) rfl
                  change AnyG _ _ _ _ #[true, true, true, true, true, true, true, true, true, false, false] _ _
                  refine a_take 9 (listed' := #[true, true, true, true, true, true, true, true, true, true, false]) rfl (by kernel_rfl) (by kernel_rfl) (by kernel_rfl) rfl rfl rfl rfl (fun w => x_indexAddr bk17 0 1 0 rfl rfl el_27 (by omega) rfl w) ?_
                  refine a_all (rs := [10]) (by kernel_rfl) (by simp) ?_
                  refine a_cons ⟨_, rfl, ?_⟩ (fun x hx => absurd hx (by simp))
                  refine s_store H96 4 (.slice pp98 ((QD (K.take i0) 0).length + 1) cc99) rfl rfl rfl sz_22 rfl (Nat.le_of_ble_eq_true rfl) rfl (cs' := #[.slice pp98 ((QD (K.take i0) 0).length + 1) cc99, .slice none 0 0, .slice none 0 0, .slice none 0 0]) rfl ?_; intro w100 H101
                  change AnyG _ _ _ _ #[true, true, true, true, true, true, true, true, true, true, true] _ _
                  refine a_done (by kernel_rfl) ?_
                  exact join62 (bk91, pp98, cc99) _ _ H101 ⟨rfl, rfl, rfl, rfl, rfl, rfl, rfl, rfl, rfl, rfl, rfl, rfl, rfl, rfl, rfl, rfl, rfl, rfl, rfl, rfl, rfl, rfl, rfl, rfl, rfl, rfl, rfl, rfl, rfl, rfl, rfl, rfl, rfl, rfl, rfl, rfl, rfl, rfl, rfl, rfl, trivial⟩
                · skip
                  refine s_buildSlice H79 6 1 (cs := #[.int .i64 ((gdI K i0).op.v), .int .i64 ((gdI K i0).inp.v), .int .i64 ((gdI K i0).ep.v), .int .i64 ((gdI K i0).kind.v), .slice ((gdI K i0).p) ((gdI K i0).bs.length) ((gdI K i0).c), .int .i64 ((gdI K i0).t.v)]) #[.int .i64 0, .int .i64 0, .int .i64 0, .int .i64 0, .slice none 0 0, .int .i64 0] el_22 ze_32 (by decide) (by decide) (by kernel_rfl) rfl ?_; intro bk102 w103 H104
                  change AnyG _ _ _ _ #[true, true, true, true, true, false, true, true, false, false, false] _ _
                  refine a_all (rs := [5]) (by kernel_rfl) (by simp) ?_
                  refine a_cons ⟨_, rfl, ?_⟩ (fun x hx => absurd hx (by simp))
                  refine s_load (.slice p0 ((QD (K.take i0) 0).length) c0) ag_22 rfl (H104.blk_at (i := 4) rfl) rfl rfl ?_
                  change AnyG _ _ _ _ #[true, true, true, true, true, true, true, true, false, false, false] _ _
                  refine a_all (rs := [8]) (by kernel_rfl) (by simp) ?_
                  refine a_cons ⟨_, rfl, ?_⟩ (fun x hx => absurd hx (by simp))
                  refine s_append H104 2 rfl rfl rfl (rd_blk (H104.blk_at (i := 0) rfl) rfl (Nat.le_of_ble_eq_true rfl) (by simp [Value.oneCell'])) ap_22 (by decide) (by unfold maxLen; omega) (by omega) (n' := (QD (K.take i0) 0).length + 1) (xs' := (QD (K.take i0) 0).flatMap itCell ++ ([.int .i64 ((gdI K i0).op.v), .int .i64 ((gdI K i0).inp.v), .int .i64 ((gdI K i0).ep.v), .int .i64 ((gdI K i0).kind.v), .slice ((gdI K i0).p) ((gdI K i0).bs.length) ((gdI K i0).c), .int .i64 ((gdI K i0).t.v)] : List Value)) (by omega) (by first | rfl | simp) rfl ?_; intro vv105 w106 H107 hn108
                  obtain ⟨pp109, cc110, rfl⟩ := Row.slice H107 (i := 2) rfl
                  change AnyG _ _ _ _ #[true, true, true, true, true, true, true, true, true, false, false] _ _
                  refine a_take 9 (listed' := #[true, true, true, true, true, true, true, true, true, true, false]) rfl (by kernel_rfl) (by kernel_rfl) (by kernel_rfl) rfl rfl rfl rfl (fun w => x_indexAddr bk17 0 1 0 rfl rfl el_27 (by omega) rfl w) ?_
                  refine a_all (rs := [10]) (by kernel_rfl) (by simp) ?_
                  refine a_cons ⟨_, rfl, ?_⟩ (fun x hx => absurd hx (by simp))
                  refine s_store H107 4 (.slice pp109 ((QD (K.take i0) 0).length + 1) cc110) rfl rfl rfl sz_22 rfl (Nat.le_of_ble_eq_true rfl) rfl (cs' := #[.slice pp109 ((QD (K.take i0) 0).length + 1) cc110, .slice none 0 0, .slice none 0 0, .slice none 0 0]) rfl ?_; intro w111 H112
                  change AnyG _ _ _ _ #[true, true, true, true, true, true, true, true, true, true, true] _ _
                  refine a_done (by kernel_rfl) ?_
                  exact join62 (bk102, pp109, cc110) _ _ H112 ⟨rfl, rfl, rfl, rfl, rfl, rfl, rfl, rfl, rfl, rfl, rfl, rfl, rfl, rfl, rfl, rfl, rfl, rfl, rfl, rfl, rfl, rfl, rfl, rfl, rfl, rfl, rfl, rfl, rfl, rfl, rfl, rfl, rfl, rfl, rfl, rfl, rfl, rfl, rfl, rfl, trivial⟩
          · skip
            refine s_neq true rfl rfl (nfalse hc60) rfl ?_
            refine r_cons (s_pick_f (.bool true) rfl rfl rfl ?_)
            refine r_nil ?_
            refine g_true rfl ?_
            refine g_exit (by rfl) ?_
            refine g_region ?_
            refine r_cons (s_add ((i0 : Int) + 1) rfl rfl (wi64 (by omega)) rfl ?_)
            refine r_cons (s_move (.int .i64 ((i0 : Int) + 1)) rfl rfl ?_)
            refine r_nil ?_
            have hq := QD_no (L := K) (k := 0) (i := i0) (by omega) (okk_3 hc60)
            have H113 : St W w58 (Im 6 (.slice ((gdI K i0).p) ((gdI K i0).bs.length) ((gdI K i0).c)) ((gdI K i0).bs.length) ((gdI K i0).bs.flatMap bndCell) :: bndsA ((gdI K i0).bs) :: blk bk47 (.cells #[.int .i64 ((gdI K i0).op.v), .int .i64 ((gdI K i0).inp.v), .int .i64 ((gdI K i0).ep.v), .int .i64 ((gdI K i0).kind.v), .slice ((gdI K i0).p) ((gdI K i0).bs.length) ((gdI K i0).c), .int .i64 ((gdI K i0).t.v)] 32 (0, 0)) :: Row 32 6 (.slice p0 ((QD (K.take (i0 + 1)) 0).length) c0) ((QD (K.take (i0 + 1)) 0).length) ((QD (K.take (i0 + 1)) 0).flatMap itCell) :: Row 32 6 (.slice q0 ((w0 ++ (QD (K.take (i0 + 1)) 0)).length) d0) ((w0 ++ (QD (K.take (i0 + 1)) 0)).length) ((w0 ++ (QD (K.take (i0 + 1)) 0)).flatMap itCell) :: blk bk17 (.cells #[.slice p0 ((QD (K.take (i0 + 1)) 0).length) c0, .slice none 0 0, .slice none 0 0, .slice none 0 0] 22 (0, 0)) :: imi (0 < K.length) gA27 (.cells kA29 eA30 zA31) :: Ag :: itsA K :: Ao :: Im 6 (.slice pp1 l.length cc2) l.length (l.flatMap itCell) :: F) := by rw [hq]; exact H59
            have H114 : St W w58 (Row 32 6 (.slice p0 ((QD (K.take (i0 + 1)) 0).length) c0) ((QD (K.take (i0 + 1)) 0).length) ((QD (K.take (i0 + 1)) 0).flatMap itCell) :: Row 32 6 (.slice q0 ((w0 ++ (QD (K.take (i0 + 1)) 0)).length) d0) ((w0 ++ (QD (K.take (i0 + 1)) 0)).length) ((w0 ++ (QD (K.take (i0 + 1)) 0)).flatMap itCell) :: blk bk17 (.cells #[.slice p0 ((QD (K.take (i0 + 1)) 0).length) c0, .slice none 0 0, .slice none 0 0, .slice none 0 0] 22 (0, 0)) :: imi (0 < K.length) gA27 (.cells kA29 eA30 zA31) :: Ag :: itsA K :: Ao :: Im 6 (.slice pp1 l.length cc2) l.length (l.flatMap itCell) :: F) := (((((((((((H113.move 10 rfl).move 10 rfl).move 10 rfl).move 10 rfl).move 10 rfl).move 10 rfl).move 10 rfl).move 10 rfl).drop 8 rfl).drop 8 rfl).drop 8 rfl)
            exact nx45 (i0 + 1, p0, c0, q0, d0) _ _ ⟨(by omega), H114⟩ (by first | (dsimp only; omega) | omega) ⟨by first | rfl | exact vint (by omega), by first | rfl | exact vint (by omega), by first | rfl | exact vint (by omega), by first | rfl | exact vint (by omega), by first | rfl | exact vint (by omega), by rw [hq]; rfl, by first | rfl | exact vint (by omega), by first | rfl | exact vint (by omega), by first | rfl | exact vint (by omega), by first | rfl | exact vint (by omega), by first | rfl | exact vint (by omega), by first | rfl | exact vint (by omega), trivial⟩
      · skip
        refine r_cons (s_neq true rfl rfl (nfalse hc54) rfl ?_)
        refine r_cons (s_move (.bool true) rfl rfl ?_)
        refine r_cons (r_pass rfl rfl rfl rfl rfl ?_)
        refine r_cons (r_pass rfl rfl rfl rfl rfl ?_)
        refine r_cons (r_pass rfl rfl rfl rfl rfl ?_)
        refine r_cons (s_pick_t (.bool true) rfl rfl rfl ?_)
        refine r_cons (s_move (.bool true) rfl rfl ?_)
        refine r_cons (r_pass rfl rfl rfl rfl rfl ?_)
        refine r_cons (r_pass rfl rfl rfl rfl rfl ?_)
        refine r_cons (r_pass rfl rfl rfl rfl rfl ?_)
        refine r_cons (s_pick_t (.bool true) rfl rfl rfl ?_)
        refine r_nil ?_
        refine g_true rfl ?_
        refine g_exit (by rfl) ?_
        refine g_region ?_
        refine r_cons (s_add ((i0 : Int) + 1) rfl rfl (wi64 (by omega)) rfl ?_)
        refine r_cons (s_move (.int .i64 ((i0 : Int) + 1)) rfl rfl ?_)
        refine r_nil ?_
        have hq := QD_no (L := K) (k := 0) (i := i0) (by omega) (okk_1 (k := 0) (by simpa using hc54))
        have H115 : St W w50 (Im 6 (.slice ((gdI K i0).p) ((gdI K i0).bs.length) ((gdI K i0).c)) ((gdI K i0).bs.length) ((gdI K i0).bs.flatMap bndCell) :: bndsA ((gdI K i0).bs) :: blk bk47 (.cells #[.int .i64 ((gdI K i0).op.v), .int .i64 ((gdI K i0).inp.v), .int .i64 ((gdI K i0).ep.v), .int .i64 ((gdI K i0).kind.v), .slice ((gdI K i0).p) ((gdI K i0).bs.length) ((gdI K i0).c), .int .i64 ((gdI K i0).t.v)] 32 (0, 0)) :: Row 32 6 (.slice p0 ((QD (K.take (i0 + 1)) 0).length) c0) ((QD (K.take (i0 + 1)) 0).length) ((QD (K.take (i0 + 1)) 0).flatMap itCell) :: Row 32 6 (.slice q0 ((w0 ++ (QD (K.take (i0 + 1)) 0)).length) d0) ((w0 ++ (QD (K.take (i0 + 1)) 0)).length) ((w0 ++ (QD (K.take (i0 + 1)) 0)).flatMap itCell) :: blk bk17 (.cells #[.slice p0 ((QD (K.take (i0 + 1)) 0).length) c0, .slice none 0 0, .slice none 0 0, .slice none 0 0] 22 (0, 0)) :: imi (0 < K.length) gA27 (.cells kA29 eA30 zA31) :: Ag :: itsA K :: Ao :: Im 6 (.slice pp1 l.length cc2) l.length (l.flatMap itCell) :: F) := by rw [hq]; exact H53
        have H116 : St W w50 (Row 32 6 (.slice p0 ((QD (K.take (i0 + 1)) 0).length) c0) ((QD (K.take (i0 + 1)) 0).length) ((QD (K.take (i0 + 1)) 0).flatMap itCell) :: Row 32 6 (.slice q0 ((w0 ++ (QD (K.take (i0 + 1)) 0)).length) d0) ((w0 ++ (QD (K.take (i0 + 1)) 0)).length) ((w0 ++ (QD (K.take (i0 + 1)) 0)).flatMap itCell) :: blk bk17 (.cells #[.slice p0 ((QD (K.take (i0 + 1)) 0).length) c0, .slice none 0 0, .slice none 0 0, .slice none 0 0] 22 (0, 0)) :: imi (0 < K.length) gA27 (.cells kA29 eA30 zA31) :: Ag :: itsA K :: Ao :: Im 6 (.slice pp1 l.length cc2) l.length (l.flatMap itCell) :: F) := (((((((((((H115.move 10 rfl).move 10 rfl).move 10 rfl).move 10 rfl).move 10 rfl).move 10 rfl).move 10 rfl).move 10 rfl).drop 8 rfl).drop 8 rfl).drop 8 rfl)
        exact nx45 (i0 + 1, p0, c0, q0, d0) _ _ ⟨(by omega), H116⟩ (by first | (dsimp only; omega) | omega) ⟨by first | rfl | exact vint (by omega), by first | rfl | exact vint (by omega), by first | rfl | exact vint (by omega), by first | rfl | exact vint (by omega), by first | rfl | exact vint (by omega), by rw [hq]; rfl, by first | rfl | exact vint (by omega), by first | rfl | exact vint (by omega), by first | rfl | exact vint (by omega), by first | rfl | exact vint (by omega), by first | rfl | exact vint (by omega), by first | rfl | exact vint (by omega), trivial⟩
    · skip
      refine r_cons (s_lss false rfl rfl (dfalse hc46) rfl ?_)
      refine r_nil ?_
      refine g_seq ?_
      refine g_false rfl ?_
      refine g_exit (by rfl) ?_
      refine g_region ?_
      refine r_cons (s_move (.slice (some ⟨bk17, 0, none⟩) 4 4) rfl rfl ?_)
      refine r_cons (s_move (.int .i64 0) rfl rfl ?_)
      refine r_cons (s_move (.slice (some ⟨bk17, 0, none⟩) 4 4) rfl rfl ?_)
      refine r_cons (s_move (.int .i64 0) rfl rfl ?_)
      refine r_cons (s_indexAddr bk17 0 1 0 rfl rfl el_27 (by omega) rfl rfl ?_)
      refine r_cons (s_load (.slice p0 ((QD (K.take i0) 0).length) c0) ag_22 rfl (H44.blk_at (i := 2) rfl) rfl rfl ?_)
      refine r_cons (s_move (.int .i64 0) rfl rfl ?_)
      refine r_cons (s_build (cs := #[.int .i64 0, .int .i64 0, .int .i64 0, .int .i64 3, .slice none 0 0, .int .i64 0]) (by kernel_rfl) rfl ?_)
      refine r_cons (s_buildSlice H44 6 1 (cs := #[.int .i64 0, .int .i64 0, .int .i64 0, .int .i64 3, .slice none 0 0, .int .i64 0]) #[.int .i64 0, .int .i64 0, .int .i64 0, .int .i64 0, .slice none 0 0, .int .i64 0] el_22 ze_32 (by decide) (by decide) (by kernel_rfl) rfl ?_); intro bk117 w118 H119
      refine r_cons (s_append H119 1 rfl rfl rfl (rd_blk (H119.blk_at (i := 0) rfl) rfl (Nat.le_of_ble_eq_true rfl) (by simp [Value.oneCell'])) ap_22 (by decide) (by unfold maxLen; omega) (by omega) (n' := (QD (K.take i0) 0).length + 1) (xs' := (QD (K.take i0) 0).flatMap itCell ++ ([.int .i64 0, .int .i64 0, .int .i64 0, .int .i64 3, .slice none 0 0, .int .i64 0] : List Value)) (by omega) (by first | rfl | simp) rfl ?_); intro vv120 w121 H122 hn123
      obtain ⟨pp124, cc125, rfl⟩ := Row.slice H122 (i := 1) rfl
      refine r_cons (s_indexAddr bk17 0 1 0 rfl rfl el_27 (by omega) rfl rfl ?_)
      refine r_cons (s_store H122 3 (.slice pp124 ((QD (K.take i0) 0).length + 1) cc125) rfl rfl rfl sz_22 rfl (Nat.le_of_ble_eq_true rfl) rfl (cs' := #[.slice pp124 ((QD (K.take i0) 0).length + 1) cc125, .slice none 0 0, .slice none 0 0, .slice none 0 0]) rfl ?_); intro w126 H127
      refine r_nil ?_
      refine g_inBlock ?_
      refine g_region ?_
      refine r_cons (s_add 1 rfl rfl (wi64 (by omega)) rfl ?_)
      refine r_cons (s_move (.int .i64 1) rfl rfl ?_)
      refine r_nil ?_
      refine g_inLoop ?_
      refine g_seq ?_
      refine g_region ?_
      refine r_cons (s_lss true rfl rfl (dtrue (by decide)) rfl ?_)
      refine r_nil ?_
      refine g_seq ?_
      refine g_true rfl ?_
      refine g_skip ?_
      refine g_seq ?_
      refine g_block ?_
      refine g_seq ?_
      refine g_region ?_
      refine r_cons (s_move (.int .i64 1) rfl rfl ?_)
      refine r_cons (s_assign (.int .i64 1) rfl rfl ?_)
      refine r_nil ?_
      refine g_seq ?_
      refine g_seq ?_
      refine g_region ?_
      refine r_cons (s_move (.slice pp1 l.length cc2) rfl rfl ?_)
      refine r_cons (s_move (.slice pp1 l.length cc2) rfl rfl ?_)
      refine r_cons (s_len l.length rfl ⟨_, un_22⟩ rfl ?_)
      refine r_cons (s_min2 ((min l.length 40 : Nat) : Int) rfl rfl (by omega) rfl ?_)
      have hc128 := Im.cap H127 (i := 8) rfl
      refine r_cons (s_slice_h pp1 ((min l.length 40 : Nat) : Int) 6 (.slice pp1 (min l.length 40) cc2) rfl rfl el_22 (by omega) (by first | rfl | (congr 1; omega)) rfl ?_)
      have H129 : St W w126 (Im 6 (.slice pp1 (min l.length 40) cc2) (min l.length 40) ((l.take (min l.length 40)).flatMap itCell) :: blk bk117 (.cells #[.int .i64 0, .int .i64 0, .int .i64 0, .int .i64 3, .slice none 0 0, .int .i64 0] 32 (0, 0)) :: Row 32 6 (.slice pp124 ((QD (K.take i0) 0).length + 1) cc125) ((QD (K.take i0) 0).length + 1) ((QD (K.take i0) 0).flatMap itCell ++ ([.int .i64 0, .int .i64 0, .int .i64 0, .int .i64 3, .slice none 0 0, .int .i64 0] : List Value)) :: Row 32 6 (.slice q0 ((w0 ++ (QD (K.take i0) 0)).length) d0) ((w0 ++ (QD (K.take i0) 0)).length) ((w0 ++ (QD (K.take i0) 0)).flatMap itCell) :: blk bk17 (.cells #[.slice pp124 ((QD (K.take i0) 0).length + 1) cc125, .slice none 0 0, .slice none 0 0, .slice none 0 0] 22 (0, 0)) :: imi (0 < K.length) gA27 (.cells kA29 eA30 zA31) :: Ag :: itsA K :: Ao :: Im 6 (.slice pp1 l.length cc2) l.length (l.flatMap itCell) :: F) := Im.cutN_h itCell_len (by decide) (min l.length 40) H127 (i := 8) rfl (by omega)
      refine r_cons (s_len (min l.length 40) rfl ⟨_, un_22⟩ rfl ?_)
      refine r_cons (s_move (.int .i64 0) rfl rfl ?_)
      refine r_nil ?_
      refine g_block ?_
      have H130 : St W w126 (Im 6 (.slice pp1 (min l.length 40) cc2) (min l.length 40) ((l.take (min l.length 40)).flatMap itCell) :: Row 32 6 (.slice pp124 ((QD (K.take i0) 0).length + 1) cc125) ((QD (K.take i0) 0).length + 1) ((QD (K.take i0) 0).flatMap itCell ++ ([.int .i64 0, .int .i64 0, .int .i64 0, .int .i64 3, .slice none 0 0, .int .i64 0] : List Value)) :: Row 32 6 (.slice q0 ((w0 ++ (QD (K.take i0) 0)).length) d0) ((w0 ++ (QD (K.take i0) 0)).length) ((w0 ++ (QD (K.take i0) 0)).flatMap itCell) :: blk bk17 (.cells #[.slice pp124 ((QD (K.take i0) 0).length + 1) cc125, .slice none 0 0, .slice none 0 0, .slice none 0 0] 22 (0, 0)) :: Ag :: itsA K :: Ao :: Im 6 (.slice pp1 l.length cc2) l.length (l.flatMap itCell) :: F) := ((((((((((H129.move 9 rfl).move 9 rfl).move 9 rfl).move 9 rfl).move 8 rfl).move 8 rfl).move 8 rfl).move 7 rfl).drop 8 rfl).drop 8 rfl)
      have H131 : St W w126 (Im 6 (.slice pp1 K.length cc2) K.length (K.flatMap itCell) :: Row 32 6 (.slice pp124 ((QD (K.take i0) 0).length + 1) cc125) ((QD (K.take i0) 0).length + 1) ((QD (K.take i0) 0).flatMap itCell ++ ([.int .i64 0, .int .i64 0, .int .i64 0, .int .i64 3, .slice none 0 0, .int .i64 0] : List Value)) :: Row 32 6 (.slice q0 ((w0 ++ (QD (K.take i0) 0)).length) d0) ((w0 ++ (QD (K.take i0) 0)).length) ((w0 ++ (QD (K.take i0) 0)).flatMap itCell) :: blk bk17 (.cells #[.slice pp124 ((QD (K.take i0) 0).length + 1) cc125, .slice none 0 0, .slice none 0 0, .slice none 0 0] 22 (0, 0)) :: Ag :: itsA K :: Ao :: Im 6 (.slice pp1 l.length cc2) l.length (l.flatMap itCell) :: F) := by rw [hM, hKf]; exact H130
      obtain ⟨pA132, cA133, gA134, oA135, kA136, eA137, zA138, he144, hn139, hp140, hx141, hs142, hml, H143⟩ := Im.open_ H131 (i := 0) rfl
      obtain ⟨rfl, rfl⟩ : pp1 = pA132 ∧ cc2 = cA133 := by injection he144 with a_ b_ c_; exact ⟨a_, c_⟩
      obtain ⟨L0, hL0⟩ : ∃ L, L = (QD (K.take i0) 0) ++ [endD 0] := ⟨_, rfl⟩
      obtain ⟨w1, hw1⟩ : ∃ L, L = w0 ++ (QD (K.take i0) 0) := ⟨_, rfl⟩
      have hpn0 : L0.length = (QD (K.take i0) 0).length + 1 := by rw [hL0]; simp
      have hpf0 : L0.flatMap itCell = (QD (K.take i0) 0).flatMap itCell ++ itCell (endD 0) := by rw [hL0]; simp
      have H145 : St W w126 (imi (0 < K.length) gA134 (.cells kA136 eA137 zA138) :: Im 6 (.slice pp1 K.length cc2) K.length (K.flatMap itCell) :: Row 32 6 (.slice pp124 L0.length cc125) L0.length (L0.flatMap itCell) :: Row 32 6 (.slice q0 w1.length d0) w1.length (w1.flatMap itCell) :: blk bk17 (.cells #[.slice pp124 L0.length cc125, .slice none 0 0, .slice none 0 0, .slice none 0 0] 22 (0, 0)) :: Ag :: itsA K :: Ao :: Im 6 (.slice pp1 l.length cc2) l.length (l.flatMap itCell) :: F) := by rw [hpn0, hpf0, hw1]; exact H143
      have hwl1 : w1.length ≤ 40 * 1 := by rw [hw1, List.length_append]; omega
      have H146 := Row.nil_intro H145 32 6
      have H147 : St W w126 (Row 32 6 (.slice none 0 0) 0 [] :: Row 32 6 (.slice q0 w1.length d0) w1.length (w1.flatMap itCell) :: blk bk17 (.cells #[.slice pp124 L0.length cc125, .slice none 0 0, .slice none 0 0, .slice none 0 0] 22 (0, 0)) :: imi (0 < K.length) gA134 (.cells kA136 eA137 zA138) :: Row 32 6 (.slice pp124 L0.length cc125) L0.length (L0.flatMap itCell) :: Ag :: itsA K :: Ao :: Im 6 (.slice pp1 l.length cc2) l.length (l.flatMap itCell) :: F) := ((((((((((H146.move 9 rfl).move 9 rfl).move 9 rfl).move 9 rfl).move 7 rfl).move 6 rfl).move 9 rfl).move 9 rfl).move 8 rfl).drop 9 rfl)
      have hqz : QD (K.take 0) 1 = [] := by rw [List.take_zero]; rfl
      have H148 : St W w126 (Row 32 6 (.slice none 0 0) 0 [] :: Row 32 6 (.slice q0 ((w1 ++ QD (K.take 0) 1).length) d0) ((w1 ++ QD (K.take 0) 1).length) ((w1 ++ QD (K.take 0) 1).flatMap itCell) :: blk bk17 (.cells #[.slice pp124 L0.length cc125, .slice none 0 0, .slice none 0 0, .slice none 0 0] 22 (0, 0)) :: imi (0 < K.length) gA134 (.cells kA136 eA137 zA138) :: Row 32 6 (.slice pp124 L0.length cc125) L0.length (L0.flatMap itCell) :: Ag :: itsA K :: Ao :: Im 6 (.slice pp1 l.length cc2) l.length (l.flatMap itCell) :: F) := by rw [hqz, List.append_nil]; exact H147
      refine g_loop_inv (fun (x_ : Nat × (Option Addr) × Nat × (Option Addr) × Nat) => match x_ with | (i1, p1, c1, q1, d1) => [(0, .slice pp1 l.length cc2), (1, .slice pp5 od.length cc6), (4, .bool false), (5, .pointer (some ⟨bk12, 0, none⟩)), (6, .slice (some ⟨bk17, 0, none⟩) 4 4), (7, .slice q1 ((w1 ++ (QD (K.take i1) 1)).length) d1), (25, .int .i64 4), (26, .int .i64 1), (8, .int .i64 1), (33, .slice pp1 (min l.length 40) cc2), (34, .int .i64 (min l.length 40 : Int)), (35, .int .i64 (i1 : Int))]) (fun (x_ : Nat × (Option Addr) × Nat × (Option Addr) × Nat) w => match x_ with | (i1, p1, c1, q1, d1) => (i1 ≤ K.length) ∧ St W w (Row 32 6 (.slice p1 ((QD (K.take i1) 1).length) c1) ((QD (K.take i1) 1).length) ((QD (K.take i1) 1).flatMap itCell) :: Row 32 6 (.slice q1 ((w1 ++ (QD (K.take i1) 1)).length) d1) ((w1 ++ (QD (K.take i1) 1)).length) ((w1 ++ (QD (K.take i1) 1)).flatMap itCell) :: blk bk17 (.cells #[.slice pp124 L0.length cc125, .slice p1 ((QD (K.take i1) 1).length) c1, .slice none 0 0, .slice none 0 0] 22 (0, 0)) :: imi (0 < K.length) gA134 (.cells kA136 eA137 zA138) :: Row 32 6 (.slice pp124 L0.length cc125) L0.length (L0.flatMap itCell) :: Ag :: itsA K :: Ao :: Im 6 (.slice pp1 l.length cc2) l.length (l.flatMap itCell) :: F)) (fun (x_ : Nat × (Option Addr) × Nat × (Option Addr) × Nat) => match x_ with | (i1, p1, c1, q1, d1) => K.length - i1) (0, none, 0, q0, d0) ?_ ?_ ?_
      · exact ⟨by first | rfl | exact vint (by omega), by first | rfl | exact vint (by omega), by first | rfl | exact vint (by omega), by first | rfl | exact vint (by omega), by first | rfl | exact vint (by omega), by rw [hqz, List.append_nil, hw1]; rfl, by first | rfl | exact vint (by omega), by first | rfl | exact vint (by omega), by first | rfl | exact vint (by omega), by first | rfl | exact vint (by omega), by first | rfl | exact vint (by omega), by first | rfl | exact vint (by omega), trivial⟩
      · exact ⟨(by omega), H148⟩
      · rintro ⟨i1, p1, c1, q1, d1⟩ ρ149 w150 ⟨hi1, H151⟩ nx152
        change Ends _ _ (upds ρ149 [(0, .slice pp1 l.length cc2), (1, .slice pp5 od.length cc6), (4, .bool false), (5, .pointer (some ⟨bk12, 0, none⟩)), (6, .slice (some ⟨bk17, 0, none⟩) 4 4), (7, .slice q1 ((w1 ++ (QD (K.take i1) 1)).length) d1), (25, .int .i64 4), (26, .int .i64 1), (8, .int .i64 1), (33, .slice pp1 (min l.length 40) cc2), (34, .int .i64 (min l.length 40 : Int)), (35, .int .i64 (i1 : Int))]) w150
        have hql1 := QD_len (K.take i1) 1
        rw [List.length_take] at hql1
        have hwq1 : (w1 ++ (QD (K.take i1) 1)).length = w1.length + (QD (K.take i1) 1).length := List.length_append
        refine g_seq ?_
        refine g_region ?_
        by_cases hc153 : (i1 : Int) < (min l.length 40 : Int)
        · skip
          refine r_cons (s_lss true rfl rfl (dtrue hc153) rfl ?_)
          refine r_nil ?_
          refine g_seq ?_
          refine g_true rfl ?_
          refine g_skip ?_
          refine g_seq ?_
          refine g_block ?_
          refine g_seq ?_
          refine g_region ?_
          refine r_cons (s_indexAddr gA134 (off := oA135) (i1 : Int) 6 (oA135 + i1 * 6) (by exact congrArg (fun z_ => Value.slice z_ (min l.length 40) cc2) (hp140 (by omega))) rfl el_22 (by omega) rfl rfl ?_)
          refine r_cons (s_loadAgg [.int .i64 ((gdI K i1).op.v), .int .i64 ((gdI K i1).inp.v), .int .i64 ((gdI K i1).ep.v), .int .i64 ((gdI K i1).kind.v), .slice ((gdI K i1).p) ((gdI K i1).bs.length) ((gdI K i1).c), .int .i64 ((gdI K i1).t.v)] 6 ag_32 rfl (H151.imi_at (i := 3) rfl (by omega)) (by have := elem_size (i := i1) (s := 6) (hs142 (by omega)) (by omega); omega) (elem_take itCell_len (hx141 (by omega)) (by omega) default) rfl ?_)
          refine r_cons (s_alloc H151 32 ze_32 rfl ?_); intro bk154 w155 H156
          refine r_cons (s_storeAgg H156 0 #[.int .i64 ((gdI K i1).op.v), .int .i64 ((gdI K i1).inp.v), .int .i64 ((gdI K i1).ep.v), .int .i64 ((gdI K i1).kind.v), .slice ((gdI K i1).p) ((gdI K i1).bs.length) ((gdI K i1).c), .int .i64 ((gdI K i1).t.v)] 6 rfl rfl rfl sz_32 rfl (by simp [Value.oneCell']) (Nat.le_of_ble_eq_true rfl) (fun o h1 h2 => by first | (simp; done) | (simp; omega)) (cs' := #[.int .i64 ((gdI K i1).op.v), .int .i64 ((gdI K i1).inp.v), .int .i64 ((gdI K i1).ep.v), .int .i64 ((gdI K i1).kind.v), .slice ((gdI K i1).p) ((gdI K i1).bs.length) ((gdI K i1).c), .int .i64 ((gdI K i1).t.v)]) rfl ?_); intro w157 H158
          refine r_nil ?_
          refine g_seq ?_
          refine g_seq ?_
          refine g_region ?_
          have H159 : St W w157 (bndsA ((gdI K i1).bs) :: blk bk154 (.cells #[.int .i64 ((gdI K i1).op.v), .int .i64 ((gdI K i1).inp.v), .int .i64 ((gdI K i1).ep.v), .int .i64 ((gdI K i1).kind.v), .slice ((gdI K i1).p) ((gdI K i1).bs.length) ((gdI K i1).c), .int .i64 ((gdI K i1).t.v)] 32 (0, 0)) :: Row 32 6 (.slice p1 ((QD (K.take i1) 1).length) c1) ((QD (K.take i1) 1).length) ((QD (K.take i1) 1).flatMap itCell) :: Row 32 6 (.slice q1 ((w1 ++ (QD (K.take i1) 1)).length) d1) ((w1 ++ (QD (K.take i1) 1)).length) ((w1 ++ (QD (K.take i1) 1)).flatMap itCell) :: blk bk17 (.cells #[.slice pp124 L0.length cc125, .slice p1 ((QD (K.take i1) 1).length) c1, .slice none 0 0, .slice none 0 0] 22 (0, 0)) :: imi (0 < K.length) gA134 (.cells kA136 eA137 zA138) :: Row 32 6 (.slice pp124 L0.length cc125) L0.length (L0.flatMap itCell) :: Ag :: itsA K :: Ao :: Im 6 (.slice pp1 l.length cc2) l.length (l.flatMap itCell) :: F) := itsA_at H158 (i := 7) rfl (j := i1) (by omega)
          have H160 : St W w157 (Im 6 (.slice ((gdI K i1).p) ((gdI K i1).bs.length) ((gdI K i1).c)) ((gdI K i1).bs.length) ((gdI K i1).bs.flatMap bndCell) :: bndsA ((gdI K i1).bs) :: blk bk154 (.cells #[.int .i64 ((gdI K i1).op.v), .int .i64 ((gdI K i1).inp.v), .int .i64 ((gdI K i1).ep.v), .int .i64 ((gdI K i1).kind.v), .slice ((gdI K i1).p) ((gdI K i1).bs.length) ((gdI K i1).c), .int .i64 ((gdI K i1).t.v)] 32 (0, 0)) :: Row 32 6 (.slice p1 ((QD (K.take i1) 1).length) c1) ((QD (K.take i1) 1).length) ((QD (K.take i1) 1).flatMap itCell) :: Row 32 6 (.slice q1 ((w1 ++ (QD (K.take i1) 1)).length) d1) ((w1 ++ (QD (K.take i1) 1)).length) ((w1 ++ (QD (K.take i1) 1)).flatMap itCell) :: blk bk17 (.cells #[.slice pp124 L0.length cc125, .slice p1 ((QD (K.take i1) 1).length) c1, .slice none 0 0, .slice none 0 0] 22 (0, 0)) :: imi (0 < K.length) gA134 (.cells kA136 eA137 zA138) :: Row 32 6 (.slice pp124 L0.length cc125) L0.length (L0.flatMap itCell) :: Ag :: itsA K :: Ao :: Im 6 (.slice pp1 l.length cc2) l.length (l.flatMap itCell) :: F) := itsA_bs H159 (i := 8) rfl (j := i1) (by omega)
          refine r_cons (s_fieldAddr 32 2 2 2 2 rfl fi_32_2 rfl rfl ?_)
          refine r_cons (s_load (.int .i64 ((gdI K i1).ep.v)) ag_2 rfl (H160.blk_at (i := 2) rfl) rfl rfl ?_)
          refine r_cons (s_move (.int .i64 1) rfl rfl ?_)
          by_cases hc161 : (gdI K i1).ep.v = 1
          · skip
            refine r_cons (s_neq false rfl rfl (ntrue hc161) rfl ?_)
            refine r_cons (s_move (.bool false) rfl rfl ?_)
            refine r_cons (r_take rfl rfl ?_)
            refine s_fieldAddr 32 3 3 3 3 rfl fi_32_3 rfl rfl ?_
            refine r_cons (r_take rfl rfl ?_)
            refine s_load (.int .i64 ((gdI K i1).kind.v)) ag_3 rfl (H160.blk_at (i := 2) rfl) rfl rfl ?_
            refine r_cons (r_take rfl rfl ?_)
            by_cases hc162 : (gdI K i1).kind.v = 3
            · skip
              refine s_eql true rfl rfl (dtrue hc162) rfl ?_
              refine r_cons (s_pick_f (.bool true) rfl rfl rfl ?_)
              refine r_cons (s_move (.bool true) rfl rfl ?_)
              refine r_cons (r_pass rfl rfl rfl rfl rfl ?_)
              refine r_cons (r_pass rfl rfl rfl rfl rfl ?_)
              refine r_cons (r_pass rfl rfl rfl rfl rfl ?_)
              refine r_cons (s_pick_t (.bool true) rfl rfl rfl ?_)
              refine r_nil ?_
              refine g_true rfl ?_
              refine g_exit (by rfl) ?_
              refine g_region ?_
              refine r_cons (s_add ((i1 : Int) + 1) rfl rfl (wi64 (by omega)) rfl ?_)
              refine r_cons (s_move (.int .i64 ((i1 : Int) + 1)) rfl rfl ?_)
              refine r_nil ?_
              have hq := QD_no (L := K) (k := 1) (i := i1) (by omega) (okk_2 hc162)
              have H163 : St W w157 (Im 6 (.slice ((gdI K i1).p) ((gdI K i1).bs.length) ((gdI K i1).c)) ((gdI K i1).bs.length) ((gdI K i1).bs.flatMap bndCell) :: bndsA ((gdI K i1).bs) :: blk bk154 (.cells #[.int .i64 ((gdI K i1).op.v), .int .i64 ((gdI K i1).inp.v), .int .i64 ((gdI K i1).ep.v), .int .i64 ((gdI K i1).kind.v), .slice ((gdI K i1).p) ((gdI K i1).bs.length) ((gdI K i1).c), .int .i64 ((gdI K i1).t.v)] 32 (0, 0)) :: Row 32 6 (.slice p1 ((QD (K.take (i1 + 1)) 1).length) c1) ((QD (K.take (i1 + 1)) 1).length) ((QD (K.take (i1 + 1)) 1).flatMap itCell) :: Row 32 6 (.slice q1 ((w1 ++ (QD (K.take (i1 + 1)) 1)).length) d1) ((w1 ++ (QD (K.take (i1 + 1)) 1)).length) ((w1 ++ (QD (K.take (i1 + 1)) 1)).flatMap itCell) :: blk bk17 (.cells #[.slice pp124 L0.length cc125, .slice p1 ((QD (K.take (i1 + 1)) 1).length) c1, .slice none 0 0, .slice none 0 0] 22 (0, 0)) :: imi (0 < K.length) gA134 (.cells kA136 eA137 zA138) :: Row 32 6 (.slice pp124 L0.length cc125) L0.length (L0.flatMap itCell) :: Ag :: itsA K :: Ao :: Im 6 (.slice pp1 l.length cc2) l.length (l.flatMap itCell) :: F) := by rw [hq]; exact H160
              have H164 : St W w157 (Row 32 6 (.slice p1 ((QD (K.take (i1 + 1)) 1).length) c1) ((QD (K.take (i1 + 1)) 1).length) ((QD (K.take (i1 + 1)) 1).flatMap itCell) :: Row 32 6 (.slice q1 ((w1 ++ (QD (K.take (i1 + 1)) 1)).length) d1) ((w1 ++ (QD (K.take (i1 + 1)) 1)).length) ((w1 ++ (QD (K.take (i1 + 1)) 1)).flatMap itCell) :: blk bk17 (.cells #[.slice pp124 L0.length cc125, .slice p1 ((QD (K.take (i1 + 1)) 1).length) c1, .slice none 0 0, .slice none 0 0] 22 (0, 0)) :: imi (0 < K.length) gA134 (.cells kA136 eA137 zA138) :: Row 32 6 (.slice pp124 L0.length cc125) L0.length (L0.flatMap itCell) :: Ag :: itsA K :: Ao :: Im 6 (.slice pp1 l.length cc2) l.length (l.flatMap itCell) :: F) := ((((((((((((H163.move 11 rfl).move 11 rfl).move 11 rfl).move 11 rfl).move 11 rfl).move 11 rfl).move 11 rfl).move 11 rfl).move 11 rfl).drop 9 rfl).drop 9 rfl).drop 9 rfl)
              exact nx152 (i1 + 1, p1, c1, q1, d1) _ _ ⟨(by omega), H164⟩ (by first | (dsimp only; omega) | omega) ⟨by first | rfl | exact vint (by omega), by first | rfl | exact vint (by omega), by first | rfl | exact vint (by omega), by first | rfl | exact vint (by omega), by first | rfl | exact vint (by omega), by rw [hq]; rfl, by first | rfl | exact vint (by omega), by first | rfl | exact vint (by omega), by first | rfl | exact vint (by omega), by first | rfl | exact vint (by omega), by first | rfl | exact vint (by omega), by first | rfl | exact vint (by omega), trivial⟩
            · skip
              refine s_eql false rfl rfl (dfalse hc162) rfl ?_
              refine r_cons (s_pick_f (.bool false) rfl rfl rfl ?_)
              refine r_cons (s_move (.bool false) rfl rfl ?_)
              refine r_cons (r_take rfl rfl ?_)
              refine s_loadAgg [.int .i64 ((gdI K i1).op.v), .int .i64 ((gdI K i1).inp.v), .int .i64 ((gdI K i1).ep.v), .int .i64 ((gdI K i1).kind.v), .slice ((gdI K i1).p) ((gdI K i1).bs.length) ((gdI K i1).c), .int .i64 ((gdI K i1).t.v)] 6 ag_32 rfl (H160.blk_at (i := 2) rfl) (Nat.le_of_ble_eq_true rfl) rfl rfl ?_
              refine r_cons (r_take rfl rfl ?_)
              refine s_call [.agg #[.int .i64 ((gdI K i1).op.v), .int .i64 ((gdI K i1).inp.v), .int .i64 ((gdI K i1).ep.v), .int .i64 ((gdI K i1).kind.v), .slice ((gdI K i1).p) ((gdI K i1).bs.length) ((gdI K i1).c), .int .i64 ((gdI K i1).t.v)]] pl_11 rfl rfl (ref24_CheckItem (gdI K i1) (ip := 0) rfl (iq := 1) rfl H160) ?_
              rintro _ w165 ⟨rfl, H166⟩
              refine r_cons (r_take rfl rfl ?_)
              by_cases hc167 : itE (gdI K i1) = 0
              · skip
                refine s_neq false rfl rfl (ntrue hc167) rfl ?_
                refine r_cons (s_pick_f (.bool false) rfl rfl rfl ?_)
                refine r_nil ?_
                refine g_false rfl ?_
                refine g_skip ?_
                refine g_seq ?_
                have H168 : St W w165 (blk bk154 (.cells #[.int .i64 ((gdI K i1).op.v), .int .i64 ((gdI K i1).inp.v), .int .i64 ((gdI K i1).ep.v), .int .i64 ((gdI K i1).kind.v), .slice ((gdI K i1).p) ((gdI K i1).bs.length) ((gdI K i1).c), .int .i64 ((gdI K i1).t.v)] 32 (0, 0)) :: Row 32 6 (.slice p1 ((QD (K.take i1) 1).length) c1) ((QD (K.take i1) 1).length) ((QD (K.take i1) 1).flatMap itCell) :: Row 32 6 (.slice q1 ((w1 ++ (QD (K.take i1) 1)).length) d1) ((w1 ++ (QD (K.take i1) 1)).length) ((w1 ++ (QD (K.take i1) 1)).flatMap itCell) :: blk bk17 (.cells #[.slice pp124 L0.length cc125, .slice p1 ((QD (K.take i1) 1).length) c1, .slice none 0 0, .slice none 0 0] 22 (0, 0)) :: imi (0 < K.length) gA134 (.cells kA136 eA137 zA138) :: Row 32 6 (.slice pp124 L0.length cc125) L0.length (L0.flatMap itCell) :: Ag :: itsA K :: Ao :: Im 6 (.slice pp1 l.length cc2) l.length (l.flatMap itCell) :: F) := ((((((((((((H166.move 11 rfl).move 11 rfl).move 11 rfl).move 11 rfl).move 11 rfl).move 11 rfl).move 11 rfl).move 11 rfl).move 11 rfl).move 11 rfl).drop 10 rfl).drop 10 rfl)
                refine g_cut (fun (x : Nat × Option Addr × Nat) => match x with | (bk169, pp176, cc177) => [(0, .slice pp1 l.length cc2), (1, .slice pp5 od.length cc6), (4, .bool false), (5, .pointer (some ⟨bk12, 0, none⟩)), (6, .slice (some ⟨bk17, 0, none⟩) 4 4), (7, .slice q1 ((w1 ++ (QD (K.take i1) 1)).length) d1), (25, .int .i64 4), (26, .int .i64 1), (8, .int .i64 1), (33, .slice pp1 (min l.length 40) cc2), (34, .int .i64 (min l.length 40 : Int)), (35, .int .i64 (i1 : Int)), (36, .bool true), (37, .pointer (some ⟨gA134, oA135 + i1 * 6, none⟩)), (38, .agg #[.int .i64 ((gdI K i1).op.v), .int .i64 ((gdI K i1).inp.v), .int .i64 ((gdI K i1).ep.v), .int .i64 ((gdI K i1).kind.v), .slice ((gdI K i1).p) ((gdI K i1).bs.length) ((gdI K i1).c), .int .i64 ((gdI K i1).t.v)]), (10, .pointer (some ⟨bk154, 0, none⟩)), (39, .pointer (some ⟨bk154, 2, none⟩)), (40, .int .i64 ((gdI K i1).ep.v)), (41, .int .i64 1), (42, .bool false), (43, .bool false), (44, .pointer (some ⟨bk154, 3, none⟩)), (45, .int .i64 ((gdI K i1).kind.v)), (46, .bool false), (47, .bool false), (48, .bool false), (49, .agg #[.int .i64 ((gdI K i1).op.v), .int .i64 ((gdI K i1).inp.v), .int .i64 ((gdI K i1).ep.v), .int .i64 ((gdI K i1).kind.v), .slice ((gdI K i1).p) ((gdI K i1).bs.length) ((gdI K i1).c), .int .i64 ((gdI K i1).t.v)]), (50, .int .i64 (itE (gdI K i1))), (51, .bool false), (52, .bool false), (53, .slice (some ⟨bk17, 0, none⟩) 4 4), (54, .int .i64 1), (55, .slice (some ⟨bk17, 0, none⟩) 4 4), (56, .int .i64 1), (57, .pointer (some ⟨bk17, 1, none⟩)), (58, .slice p1 ((QD (K.take i1) 1).length) c1), (59, .agg #[.int .i64 ((gdI K i1).op.v), .int .i64 ((gdI K i1).inp.v), .int .i64 ((gdI K i1).ep.v), .int .i64 ((gdI K i1).kind.v), .slice ((gdI K i1).p) ((gdI K i1).bs.length) ((gdI K i1).c), .int .i64 ((gdI K i1).t.v)]), (60, .slice (some ⟨bk169, 0, none⟩) 1 1), (61, .slice pp176 ((QD (K.take i1) 1).length + 1) cc177), (62, .pointer (some ⟨bk17, 1, none⟩))]) (fun (x : Nat × Option Addr × Nat) w => match x with | (bk169, pp176, cc177) => St W w (blk bk169 (.cells #[.int .i64 ((gdI K i1).op.v), .int .i64 ((gdI K i1).inp.v), .int .i64 ((gdI K i1).ep.v), .int .i64 ((gdI K i1).kind.v), .slice ((gdI K i1).p) ((gdI K i1).bs.length) ((gdI K i1).c), .int .i64 ((gdI K i1).t.v)] 32 (0, 0)) :: blk bk154 (.cells #[.int .i64 ((gdI K i1).op.v), .int .i64 ((gdI K i1).inp.v), .int .i64 ((gdI K i1).ep.v), .int .i64 ((gdI K i1).kind.v), .slice ((gdI K i1).p) ((gdI K i1).bs.length) ((gdI K i1).c), .int .i64 ((gdI K i1).t.v)] 32 (0, 0)) :: Row 32 6 (.slice pp176 ((QD (K.take i1) 1).length + 1) cc177) ((QD (K.take i1) 1).length + 1) ((QD (K.take i1) 1).flatMap itCell ++ ([.int .i64 ((gdI K i1).op.v), .int .i64 ((gdI K i1).inp.v), .int .i64 ((gdI K i1).ep.v), .int .i64 ((gdI K i1).kind.v), .slice ((gdI K i1).p) ((gdI K i1).bs.length) ((gdI K i1).c), .int .i64 ((gdI K i1).t.v)] : List Value)) :: Row 32 6 (.slice q1 ((w1 ++ (QD (K.take i1) 1)).length) d1) ((w1 ++ (QD (K.take i1) 1)).length) ((w1 ++ (QD (K.take i1) 1)).flatMap itCell) :: blk bk17 (.cells #[.slice pp124 L0.length cc125, .slice pp176 ((QD (K.take i1) 1).length + 1) cc177, .slice none 0 0, .slice none 0 0] 22 (0, 0)) :: imi (0 < K.length) gA134 (.cells kA136 eA137 zA138) :: Row 32 6 (.slice pp124 L0.length cc125) L0.length (L0.flatMap itCell) :: Ag :: itsA K :: Ao :: Im 6 (.slice pp1 l.length cc2) l.length (l.flatMap itCell) :: F)) ?_ ?_
                · rintro ⟨bk169, pp176, cc177⟩ ρ172 w170 H171
                  change Ends _ _ (upds ρ172 [(0, .slice pp1 l.length cc2), (1, .slice pp5 od.length cc6), (4, .bool false), (5, .pointer (some ⟨bk12, 0, none⟩)), (6, .slice (some ⟨bk17, 0, none⟩) 4 4), (7, .slice q1 ((w1 ++ (QD (K.take i1) 1)).length) d1), (25, .int .i64 4), (26, .int .i64 1), (8, .int .i64 1), (33, .slice pp1 (min l.length 40) cc2), (34, .int .i64 (min l.length 40 : Int)), (35, .int .i64 (i1 : Int)), (36, .bool true), (37, .pointer (some ⟨gA134, oA135 + i1 * 6, none⟩)), (38, .agg #[.int .i64 ((gdI K i1).op.v), .int .i64 ((gdI K i1).inp.v), .int .i64 ((gdI K i1).ep.v), .int .i64 ((gdI K i1).kind.v), .slice ((gdI K i1).p) ((gdI K i1).bs.length) ((gdI K i1).c), .int .i64 ((gdI K i1).t.v)]), (10, .pointer (some ⟨bk154, 0, none⟩)), (39, .pointer (some ⟨bk154, 2, none⟩)), (40, .int .i64 ((gdI K i1).ep.v)), (41, .int .i64 1), (42, .bool false), (43, .bool false), (44, .pointer (some ⟨bk154, 3, none⟩)), (45, .int .i64 ((gdI K i1).kind.v)), (46, .bool false), (47, .bool false), (48, .bool false), (49, .agg #[.int .i64 ((gdI K i1).op.v), .int .i64 ((gdI K i1).inp.v), .int .i64 ((gdI K i1).ep.v), .int .i64 ((gdI K i1).kind.v), .slice ((gdI K i1).p) ((gdI K i1).bs.length) ((gdI K i1).c), .int .i64 ((gdI K i1).t.v)]), (50, .int .i64 (itE (gdI K i1))), (51, .bool false), (52, .bool false), (53, .slice (some ⟨bk17, 0, none⟩) 4 4), (54, .int .i64 1), (55, .slice (some ⟨bk17, 0, none⟩) 4 4), (56, .int .i64 1), (57, .pointer (some ⟨bk17, 1, none⟩)), (58, .slice p1 ((QD (K.take i1) 1).length) c1), (59, .agg #[.int .i64 ((gdI K i1).op.v), .int .i64 ((gdI K i1).inp.v), .int .i64 ((gdI K i1).ep.v), .int .i64 ((gdI K i1).kind.v), .slice ((gdI K i1).p) ((gdI K i1).bs.length) ((gdI K i1).c), .int .i64 ((gdI K i1).t.v)]), (60, .slice (some ⟨bk169, 0, none⟩) 1 1), (61, .slice pp176 ((QD (K.take i1) 1).length + 1) cc177), (62, .pointer (some ⟨bk17, 1, none⟩))]) w170
                  refine g_region ?_
                  refine r_cons (s_move (.slice q1 ((w1 ++ (QD (K.take i1) 1)).length) d1) rfl rfl ?_)
                  refine r_cons (s_loadAgg [.int .i64 ((gdI K i1).op.v), .int .i64 ((gdI K i1).inp.v), .int .i64 ((gdI K i1).ep.v), .int .i64 ((gdI K i1).kind.v), .slice ((gdI K i1).p) ((gdI K i1).bs.length) ((gdI K i1).c), .int .i64 ((gdI K i1).t.v)] 6 ag_32 rfl (H171.blk_at (i := 1) rfl) (Nat.le_of_ble_eq_true rfl) rfl rfl ?_)
                  refine r_cons (s_buildSlice H171 6 1 (cs := #[.int .i64 ((gdI K i1).op.v), .int .i64 ((gdI K i1).inp.v), .int .i64 ((gdI K i1).ep.v), .int .i64 ((gdI K i1).kind.v), .slice ((gdI K i1).p) ((gdI K i1).bs.length) ((gdI K i1).c), .int .i64 ((gdI K i1).t.v)]) #[.int .i64 0, .int .i64 0, .int .i64 0, .int .i64 0, .slice none 0 0, .int .i64 0] el_22 ze_32 (by decide) (by decide) (by kernel_rfl) rfl ?_); intro bk173 w174 H175
                  refine r_cons (s_append H175 4 rfl rfl rfl (rd_blk (H175.blk_at (i := 0) rfl) rfl (Nat.le_of_ble_eq_true rfl) (by simp [Value.oneCell'])) ap_22 (by decide) (by unfold maxLen; omega) (by omega) (n' := (w1 ++ (QD (K.take i1) 1)).length + 1) (xs' := (w1 ++ (QD (K.take i1) 1)).flatMap itCell ++ ([.int .i64 ((gdI K i1).op.v), .int .i64 ((gdI K i1).inp.v), .int .i64 ((gdI K i1).ep.v), .int .i64 ((gdI K i1).kind.v), .slice ((gdI K i1).p) ((gdI K i1).bs.length) ((gdI K i1).c), .int .i64 ((gdI K i1).t.v)] : List Value)) (by omega) (by first | rfl | simp) rfl ?_); intro vv176 w177 H178 hn179
                  obtain ⟨pp180, cc181, rfl⟩ := Row.slice H178 (i := 4) rfl
                  refine r_cons (s_assign (.slice pp180 ((w1 ++ (QD (K.take i1) 1)).length + 1) cc181) rfl rfl ?_)
                  refine r_nil ?_
                  refine g_inBlock ?_
                  refine g_region ?_
                  refine r_cons (s_add ((i1 : Int) + 1) rfl rfl (wi64 (by omega)) rfl ?_)
                  refine r_cons (s_move (.int .i64 ((i1 : Int) + 1)) rfl rfl ?_)
                  refine r_nil ?_
                  have hq := QD_yes (L := K) (k := 1) (i := i1) (by omega) (okk_4 (k := 1) (by simpa using hc161) hc162 hc167)
                  have hq1 : (QD (K.take (i1 + 1)) 1).length = (QD (K.take i1) 1).length + 1 := by rw [hq]; simp
                  have hq2 : (QD (K.take (i1 + 1)) 1).flatMap itCell = (QD (K.take i1) 1).flatMap itCell ++ itCell (gdI K i1) := by rw [hq]; simp
                  have hq3 : (w1 ++ (QD (K.take (i1 + 1)) 1)).length = (w1 ++ (QD (K.take i1) 1)).length + 1 := by rw [hq]; simp; omega
                  have hq4 : (w1 ++ (QD (K.take (i1 + 1)) 1)).flatMap itCell = (w1 ++ (QD (K.take i1) 1)).flatMap itCell ++ itCell (gdI K i1) := by rw [hq]; simp
                  have H182 : St W w177 (blk bk173 (.cells #[.int .i64 ((gdI K i1).op.v), .int .i64 ((gdI K i1).inp.v), .int .i64 ((gdI K i1).ep.v), .int .i64 ((gdI K i1).kind.v), .slice ((gdI K i1).p) ((gdI K i1).bs.length) ((gdI K i1).c), .int .i64 ((gdI K i1).t.v)] 32 (0, 0)) :: blk bk169 (.cells #[.int .i64 ((gdI K i1).op.v), .int .i64 ((gdI K i1).inp.v), .int .i64 ((gdI K i1).ep.v), .int .i64 ((gdI K i1).kind.v), .slice ((gdI K i1).p) ((gdI K i1).bs.length) ((gdI K i1).c), .int .i64 ((gdI K i1).t.v)] 32 (0, 0)) :: blk bk154 (.cells #[.int .i64 ((gdI K i1).op.v), .int .i64 ((gdI K i1).inp.v), .int .i64 ((gdI K i1).ep.v), .int .i64 ((gdI K i1).kind.v), .slice ((gdI K i1).p) ((gdI K i1).bs.length) ((gdI K i1).c), .int .i64 ((gdI K i1).t.v)] 32 (0, 0)) :: Row 32 6 (.slice pp176 ((QD (K.take (i1 + 1)) 1).length) cc177) ((QD (K.take (i1 + 1)) 1).length) ((QD (K.take (i1 + 1)) 1).flatMap itCell) :: Row 32 6 (.slice pp180 ((w1 ++ (QD (K.take (i1 + 1)) 1)).length) cc181) ((w1 ++ (QD (K.take (i1 + 1)) 1)).length) ((w1 ++ (QD (K.take (i1 + 1)) 1)).flatMap itCell) :: blk bk17 (.cells #[.slice pp124 L0.length cc125, .slice pp176 ((QD (K.take (i1 + 1)) 1).length) cc177, .slice none 0 0, .slice none 0 0] 22 (0, 0)) :: imi (0 < K.length) gA134 (.cells kA136 eA137 zA138) :: Row 32 6 (.slice pp124 L0.length cc125) L0.length (L0.flatMap itCell) :: Ag :: itsA K :: Ao :: Im 6 (.slice pp1 l.length cc2) l.length (l.flatMap itCell) :: F) := by rw [hq1, hq2, hq3, hq4]; exact H178
                  have H183 : St W w177 (Row 32 6 (.slice pp176 ((QD (K.take (i1 + 1)) 1).length) cc177) ((QD (K.take (i1 + 1)) 1).length) ((QD (K.take (i1 + 1)) 1).flatMap itCell) :: Row 32 6 (.slice pp180 ((w1 ++ (QD (K.take (i1 + 1)) 1)).length) cc181) ((w1 ++ (QD (K.take (i1 + 1)) 1)).length) ((w1 ++ (QD (K.take (i1 + 1)) 1)).flatMap itCell) :: blk bk17 (.cells #[.slice pp124 L0.length cc125, .slice pp176 ((QD (K.take (i1 + 1)) 1).length) cc177, .slice none 0 0, .slice none 0 0] 22 (0, 0)) :: imi (0 < K.length) gA134 (.cells kA136 eA137 zA138) :: Row 32 6 (.slice pp124 L0.length cc125) L0.length (L0.flatMap itCell) :: Ag :: itsA K :: Ao :: Im 6 (.slice pp1 l.length cc2) l.length (l.flatMap itCell) :: F) := ((((((((((((H182.move 11 rfl).move 11 rfl).move 11 rfl).move 11 rfl).move 11 rfl).move 11 rfl).move 11 rfl).move 11 rfl).move 11 rfl).drop 9 rfl).drop 9 rfl).drop 9 rfl)
                  exact nx152 (i1 + 1, pp176, cc177, pp180, cc181) _ _ ⟨(by omega), H183⟩ (by first | (dsimp only; omega) | omega) ⟨by first | rfl | exact vint (by omega), by first | rfl | exact vint (by omega), by first | rfl | exact vint (by omega), by first | rfl | exact vint (by omega), by first | rfl | exact vint (by omega), by rw [hq3]; rfl, by first | rfl | exact vint (by omega), by first | rfl | exact vint (by omega), by first | rfl | exact vint (by omega), by first | rfl | exact vint (by omega), by first | rfl | exact vint (by omega), by first | rfl | exact vint (by omega), trivial⟩
                · intro join169
                  refine g_any mixed 11 rfl ?_
                  intro w184 hw185
                  have H186 := H168.drew
                  rw [← hw185] at H186
                  clear hw185
                  refine a_take 0 (listed' := #[true, false, false, false, false, false, false, false, false, false, false]) rfl (by kernel_rfl) (by kernel_rfl) (by kernel_rfl) rfl rfl rfl rfl (fun w => x_move (.slice (some ⟨bk17, 0, none⟩) 4 4) rfl w) ?_
                  refine a_take 1 (listed' := #[true, true, false, false, false, false, false, false, false, false, false]) rfl (by kernel_rfl) (by kernel_rfl) (by kernel_rfl) rfl rfl rfl rfl (fun w => x_move (.int .i64 1) rfl w) ?_
                  refine a_take 2 (listed' := #[true, true, true, false, false, false, false, false, false, false, false]) rfl (by kernel_rfl) (by kernel_rfl) (by kernel_rfl) rfl rfl rfl rfl (fun w => x_move (.slice (some ⟨bk17, 0, none⟩) 4 4) rfl w) ?_
                  refine a_take 3 (listed' := #[true, true, true, true, false, false, false, false, false, false, false]) rfl (by kernel_rfl) (by kernel_rfl) (by kernel_rfl) rfl rfl rfl rfl (fun w => x_move (.int .i64 1) rfl w) ?_
                  refine a_take 4 (listed' := #[true, true, true, true, true, false, false, false, false, false, false]) rfl (by kernel_rfl) (by kernel_rfl) (by kernel_rfl) rfl rfl rfl rfl (fun w => x_indexAddr bk17 1 1 1 rfl rfl el_27 (by omega) rfl w) ?_
                  refine a_all (rs := [5, 6]) (by kernel_rfl) (by simp) ?_
                  refine a_cons ⟨_, rfl, ?_⟩ (a_cons ⟨_, rfl, ?_⟩ (fun x hx => absurd hx (by simp)))
                  · skip
                    refine s_load (.slice p1 ((QD (K.take i1) 1).length) c1) ag_22 rfl (H186.blk_at (i := 3) rfl) rfl rfl ?_
                    change AnyG _ _ _ _ #[true, true, true, true, true, true, false, false, false, false, false] _ _
                    refine a_all (rs := [6]) (by kernel_rfl) (by simp) ?_
                    refine a_cons ⟨_, rfl, ?_⟩ (fun x hx => absurd hx (by simp))
                    refine s_loadAgg [.int .i64 ((gdI K i1).op.v), .int .i64 ((gdI K i1).inp.v), .int .i64 ((gdI K i1).ep.v), .int .i64 ((gdI K i1).kind.v), .slice ((gdI K i1).p) ((gdI K i1).bs.length) ((gdI K i1).c), .int .i64 ((gdI K i1).t.v)] 6 ag_32 rfl (H186.blk_at (i := 0) rfl) (Nat.le_of_ble_eq_true rfl) rfl rfl ?_
                    change AnyG _ _ _ _ #[true, true, true, true, true, true, true, false, false, false, false] _ _
                    refine a_all (rs := [7]) (by kernel_rfl) (by simp) ?_
                    refine a_cons ⟨_, rfl, ?_⟩ (fun x hx => absurd hx (by simp))
                    refine s_buildSlice H186 6 1 (cs := #[.int .i64 ((gdI K i1).op.v), .int .i64 ((gdI K i1).inp.v), .int .i64 ((gdI K i1).ep.v), .int .i64 ((gdI K i1).kind.v), .slice ((gdI K i1).p) ((gdI K i1).bs.length) ((gdI K i1).c), .int .i64 ((gdI K i1).t.v)]) #[.int .i64 0, .int .i64 0, .int .i64 0, .int .i64 0, .slice none 0 0, .int .i64 0] el_22 ze_32 (by decide) (by decide) (by kernel_rfl) rfl ?_; intro bk187 w188 H189
                    change AnyG _ _ _ _ #[true, true, true, true, true, true, true, true, false, false, false] _ _
                    refine a_all (rs := [8]) (by kernel_rfl) (by simp) ?_
                    refine a_cons ⟨_, rfl, ?_⟩ (fun x hx => absurd hx (by simp))
                    refine s_append H189 2 rfl rfl rfl (rd_blk (H189.blk_at (i := 0) rfl) rfl (Nat.le_of_ble_eq_true rfl) (by simp [Value.oneCell'])) ap_22 (by decide) (by unfold maxLen; omega) (by omega) (n' := (QD (K.take i1) 1).length + 1) (xs' := (QD (K.take i1) 1).flatMap itCell ++ ([.int .i64 ((gdI K i1).op.v), .int .i64 ((gdI K i1).inp.v), .int .i64 ((gdI K i1).ep.v), .int .i64 ((gdI K i1).kind.v), .slice ((gdI K i1).p) ((gdI K i1).bs.length) ((gdI K i1).c), .int .i64 ((gdI K i1).t.v)] : List Value)) (by omega) (by first | rfl | simp) rfl ?_; intro vv190 w191 H192 hn193
                    obtain ⟨pp194, cc195, rfl⟩ := Row.slice H192 (i := 2) rfl
                    change AnyG _ _ _ _ #[true, true, true, true, true, true, true, true, true, false, false] _ _
                    refine a_take 9 (listed' := #[true, true, true, true, true, true, true, true, true, true, false]) rfl (by kernel_rfl) (by kernel_rfl) (by kernel_rfl) rfl rfl rfl rfl (fun w => x_indexAddr bk17 1 1 1 rfl rfl el_27 (by omega) rfl w) ?_
                    refine a_all (rs := [10]) (by kernel_rfl) (by simp) ?_
                    refine a_cons ⟨_, rfl, ?_⟩ (fun x hx => absurd hx (by simp))
                    refine s_store H192 4 (.slice pp194 ((QD (K.take i1) 1).length + 1) cc195) rfl rfl rfl sz_22 rfl (Nat.le_of_ble_eq_true rfl) rfl (cs' := #[.slice pp124 L0.length cc125, .slice pp194 ((QD (K.take i1) 1).length + 1) cc195, .slice none 0 0, .slice none 0 0]) rfl ?_; intro w196 H197
                    change AnyG _ _ _ _ #[true, true, true, true, true, true, true, true, true, true, true] _ _
                    refine a_done (by kernel_rfl) ?_
                    exact join169 (bk187, pp194, cc195) _ _ H197 ⟨rfl, rfl, rfl, rfl, rfl, rfl, rfl, rfl, rfl, rfl, rfl, rfl, rfl, rfl, rfl, rfl, rfl, rfl, rfl, rfl, rfl, rfl, rfl, rfl, rfl, rfl, rfl, rfl, rfl, rfl, rfl, rfl, rfl, rfl, rfl, rfl, rfl, rfl, rfl, rfl, trivial⟩
                  · skip
                    refine s_loadAgg [.int .i64 ((gdI K i1).op.v), .int .i64 ((gdI K i1).inp.v), .int .i64 ((gdI K i1).ep.v), .int .i64 ((gdI K i1).kind.v), .slice ((gdI K i1).p) ((gdI K i1).bs.length) ((gdI K i1).c), .int .i64 ((gdI K i1).t.v)] 6 ag_32 rfl (H186.blk_at (i := 0) rfl) (Nat.le_of_ble_eq_true rfl) rfl rfl ?_
                    change AnyG _ _ _ _ #[true, true, true, true, true, false, true, false, false, false, false] _ _
                    refine a_all (rs := [5, 7]) (by kernel_rfl) (by simp) ?_
                    refine a_cons ⟨_, rfl, ?_⟩ (a_cons ⟨_, rfl, ?_⟩ (fun x hx => absurd hx (by simp)))
                    · skip
                      refine s_load (.slice p1 ((QD (K.take i1) 1).length) c1) ag_22 rfl (H186.blk_at (i := 3) rfl) rfl rfl ?_
                      change AnyG _ _ _ _ #[true, true, true, true, true, true, true, false, false, false, false] _ _
                      refine a_all (rs := [7]) (by kernel_rfl) (by simp) ?_
                      refine a_cons ⟨_, rfl, ?_⟩ (fun x hx => absurd hx (by simp))
                      refine s_buildSlice H186 6 1 (cs := #[.int .i64 ((gdI K i1).op.v), .int .i64 ((gdI K i1).inp.v), .int .i64 ((gdI K i1).ep.v), .int .i64 ((gdI K i1).kind.v), .slice ((gdI K i1).p) ((gdI K i1).bs.length) ((gdI K i1).c), .int .i64 ((gdI K i1).t.v)]) #[.int .i64 0, .int .i64 0, .int .i64 0, .int .i64 0, .slice none 0 0, .int .i64 0] el_22 ze_32 (by decide) (by decide) (by kernel_rfl) rfl ?_; intro bk198 w199 H200
                      change AnyG _ _ _ _ #[true, true, true, true, true, true, true, true, false, false, false] _ _
                      refine a_all (rs := [8]) (by kernel_rfl) (by simp) ?_
                      refine a_cons ⟨_, rfl, ?_⟩ (fun x hx => absurd hx (by simp))
                      refine s_append H200 2 rfl rfl rfl (rd_blk (H200.blk_at (i := 0) rfl) rfl (Nat.le_of_ble_eq_true rfl) (by simp [Value.oneCell'])) ap_22 (by decide) (by unfold maxLen; omega) (by omega) (n' := (QD (K.take i1) 1).length + 1) (xs' := (QD (K.take i1) 1).flatMap itCell ++ ([.int .i64 ((gdI K i1).op.v), .int .i64 ((gdI K i1).inp.v), .int .i64 ((gdI K i1).ep.v), .int .i64 ((gdI K i1).kind.v), .slice ((gdI K i1).p) ((gdI K i1).bs.length) ((gdI K i1).c), .int .i64 ((gdI K i1).t.v)] : List Value)) (by omega) (by first | rfl | simp) rfl ?_; intro vv201 w202 H203 hn204
                      obtain ⟨pp205, cc206, rfl⟩ := Row.slice H203 (i := 2) rfl
                      change AnyG _ _ _ _ #[true, true, true, true, true, true, true, true, true, false, false] _ _
                      refine a_take 9 (listed' := #[true, true, true, true, true, true, true, true, true, true, false]) rfl (by kernel_rfl) (by kernel_rfl) (by kernel_rfl) rfl rfl rfl rfl (fun w => x_indexAddr bk17 1 1 1 rfl rfl el_27 (by omega) rfl w) ?_
                      refine a_all (rs := [10]) (by kernel_rfl) (by simp) ?_
                      refine a_cons ⟨_, rfl, ?_⟩ (fun x hx => absurd hx (by simp))
                      refine s_store H203 4 (.slice pp205 ((QD (K.take i1) 1).length + 1) cc206) rfl rfl rfl sz_22 rfl (Nat.le_of_ble_eq_true rfl) rfl (cs' := #[.slice pp124 L0.length cc125, .slice pp205 ((QD (K.take i1) 1).length + 1) cc206, .slice none 0 0, .slice none 0 0]) rfl ?_; intro w207 H208
                      change AnyG _ _ _ _ #[true, true, true, true, true, true, true, true, true, true, true] _ _
                      refine a_done (by kernel_rfl) ?_
                      exact join169 (bk198, pp205, cc206) _ _ H208 ⟨rfl, rfl, rfl, rfl, rfl, rfl, rfl, rfl, rfl, rfl, rfl, rfl, rfl, rfl, rfl, rfl, rfl, rfl, rfl, rfl, rfl, rfl, rfl, rfl, rfl, rfl, rfl, rfl, rfl, rfl, rfl, rfl, rfl, rfl, rfl, rfl, rfl, rfl, rfl, rfl, trivial⟩
                    · skip
                      refine s_buildSlice H186 6 1 (cs := #[.int .i64 ((gdI K i1).op.v), .int .i64 ((gdI K i1).inp.v), .int .i64 ((gdI K i1).ep.v), .int .i64 ((gdI K i1).kind.v), .slice ((gdI K i1).p) ((gdI K i1).bs.length) ((gdI K i1).c), .int .i64 ((gdI K i1).t.v)]) #[.int .i64 0, .int .i64 0, .int .i64 0, .int .i64 0, .slice none 0 0, .int .i64 0] el_22 ze_32 (by decide) (by decide) (by kernel_rfl) rfl ?_; intro bk209 w210 H211
                      change AnyG _ _ _ _ #[true, true, true, true, true, false, true, true, false, false, false] _ _
                      refine a_all (rs := [5]) (by kernel_rfl) (by simp) ?_
                      refine a_cons ⟨_, rfl, ?_⟩ (fun x hx => absurd hx (by simp))
                      refine s_load (.slice p1 ((QD (K.take i1) 1).length) c1) ag_22 rfl (H211.blk_at (i := 4) rfl) rfl rfl ?_
                      change AnyG _ _ _ _ #[true, true, true, true, true, true, true, true, false, false, false] _ _
                      refine a_all (rs := [8]) (by kernel_rfl) (by simp) ?_
                      refine a_cons ⟨_, rfl, ?_⟩ (fun x hx => absurd hx (by simp))
                      refine s_append H211 2 rfl rfl rfl (rd_blk (H211.blk_at (i := 0) rfl) rfl (Nat.le_of_ble_eq_true rfl) (by simp [Value.oneCell'])) ap_22 (by decide) (by unfold maxLen; omega) (by omega) (n' := (QD (K.take i1) 1).length + 1) (xs' := (QD (K.take i1) 1).flatMap itCell ++ ([.int .i64 ((gdI K i1).op.v), .int .i64 ((gdI K i1).inp.v), .int .i64 ((gdI K i1).ep.v), .int .i64 ((gdI K i1).kind.v), .slice ((gdI K i1).p) ((gdI K i1).bs.length) ((gdI K i1).c), .int .i64 ((gdI K i1).t.v)] : List Value)) (by omega) (by first | rfl | simp) rfl ?_; intro vv212 w213 H214 hn215
                      obtain ⟨pp216, cc217, rfl⟩ := Row.slice H214 (i := 2) rfl
                      change AnyG _ _ _ _ #[true, true, true, true, true, true, true, true, true, false, false] _ _
                      refine a_take 9 (listed' := #[true, true, true, true, true, true, true, true, true, true, false]) rfl (by kernel_rfl) (by kernel_rfl) (by kernel_rfl) rfl rfl rfl rfl (fun w => x_indexAddr bk17 1 1 1 rfl rfl el_27 (by omega) rfl w) ?_
                      refine a_all (rs := [10]) (by kernel_rfl) (by simp) ?_
                      refine a_cons ⟨_, rfl, ?_⟩ (fun x hx => absurd hx (by simp))
                      refine s_store H214 4 (.slice pp216 ((QD (K.take i1) 1).length + 1) cc217) rfl rfl rfl sz_22 rfl (Nat.le_of_ble_eq_true rfl) rfl (cs' := #[.slice pp124 L0.length cc125, .slice pp216 ((QD (K.take i1) 1).length + 1) cc217, .slice none 0 0, .slice none 0 0]) rfl ?_; intro w218 H219
                      change AnyG _ _ _ _ #[true, true, true, true, true, true, true, true, true, true, true] _ _
                      refine a_done (by kernel_rfl) ?_
                      exact join169 (bk209, pp216, cc217) _ _ H219 ⟨rfl, rfl, rfl, rfl, rfl, rfl, rfl, rfl, rfl, rfl, rfl, rfl, rfl, rfl, rfl, rfl, rfl, rfl, rfl, rfl, rfl, rfl, rfl, rfl, rfl, rfl, rfl, rfl, rfl, rfl, rfl, rfl, rfl, rfl, rfl, rfl, rfl, rfl, rfl, rfl, trivial⟩
              · skip
                refine s_neq true rfl rfl (nfalse hc167) rfl ?_
                refine r_cons (s_pick_f (.bool true) rfl rfl rfl ?_)
                refine r_nil ?_
                refine g_true rfl ?_
                refine g_exit (by rfl) ?_
                refine g_region ?_
                refine r_cons (s_add ((i1 : Int) + 1) rfl rfl (wi64 (by omega)) rfl ?_)
                refine r_cons (s_move (.int .i64 ((i1 : Int) + 1)) rfl rfl ?_)
                refine r_nil ?_
                have hq := QD_no (L := K) (k := 1) (i := i1) (by omega) (okk_3 hc167)
                have H220 : St W w165 (Im 6 (.slice ((gdI K i1).p) ((gdI K i1).bs.length) ((gdI K i1).c)) ((gdI K i1).bs.length) ((gdI K i1).bs.flatMap bndCell) :: bndsA ((gdI K i1).bs) :: blk bk154 (.cells #[.int .i64 ((gdI K i1).op.v), .int .i64 ((gdI K i1).inp.v), .int .i64 ((gdI K i1).ep.v), .int .i64 ((gdI K i1).kind.v), .slice ((gdI K i1).p) ((gdI K i1).bs.length) ((gdI K i1).c), .int .i64 ((gdI K i1).t.v)] 32 (0, 0)) :: Row 32 6 (.slice p1 ((QD (K.take (i1 + 1)) 1).length) c1) ((QD (K.take (i1 + 1)) 1).length) ((QD (K.take (i1 + 1)) 1).flatMap itCell) :: Row 32 6 (.slice q1 ((w1 ++ (QD (K.take (i1 + 1)) 1)).length) d1) ((w1 ++ (QD (K.take (i1 + 1)) 1)).length) ((w1 ++ (QD (K.take (i1 + 1)) 1)).flatMap itCell) :: blk bk17 (.cells #[.slice pp124 L0.length cc125, .slice p1 ((QD (K.take (i1 + 1)) 1).length) c1, .slice none 0 0, .slice none 0 0] 22 (0, 0)) :: imi (0 < K.length) gA134 (.cells kA136 eA137 zA138) :: Row 32 6 (.slice pp124 L0.length cc125) L0.length (L0.flatMap itCell) :: Ag :: itsA K :: Ao :: Im 6 (.slice pp1 l.length cc2) l.length (l.flatMap itCell) :: F) := by rw [hq]; exact H166
                have H221 : St W w165 (Row 32 6 (.slice p1 ((QD (K.take (i1 + 1)) 1).length) c1) ((QD (K.take (i1 + 1)) 1).length) ((QD (K.take (i1 + 1)) 1).flatMap itCell) :: Row 32 6 (.slice q1 ((w1 ++ (QD (K.take (i1 + 1)) 1)).length) d1) ((w1 ++ (QD (K.take (i1 + 1)) 1)).length) ((w1 ++ (QD (K.take (i1 + 1)) 1)).flatMap itCell) :: blk bk17 (.cells #[.slice pp124 L0.length cc125, .slice p1 ((QD (K.take (i1 + 1)) 1).length) c1, .slice none 0 0, .slice none 0 0] 22 (0, 0)) :: imi (0 < K.length) gA134 (.cells kA136 eA137 zA138) :: Row 32 6 (.slice pp124 L0.length cc125) L0.length (L0.flatMap itCell) :: Ag :: itsA K :: Ao :: Im 6 (.slice pp1 l.length cc2) l.length (l.flatMap itCell) :: F) := ((((((((((((H220.move 11 rfl).move 11 rfl).move 11 rfl).move 11 rfl).move 11 rfl).move 11 rfl).move 11 rfl).move 11 rfl).move 11 rfl).drop 9 rfl).drop 9 rfl).drop 9 rfl)
                exact nx152 (i1 + 1, p1, c1, q1, d1) _ _ ⟨(by omega), H221⟩ (by first | (dsimp only; omega) | omega) ⟨by first | rfl | exact vint (by omega), by first | rfl | exact vint (by omega), by first | rfl | exact vint (by omega), by first | rfl | exact vint (by omega), by first | rfl | exact vint (by omega), by rw [hq]; rfl, by first | rfl | exact vint (by omega), by first | rfl | exact vint (by omega), by first | rfl | exact vint (by omega), by first | rfl | exact vint (by omega), by first | rfl | exact vint (by omega), by first | rfl | exact vint (by omega), trivial⟩
          · skip
            refine r_cons (s_neq true rfl rfl (nfalse hc161) rfl ?_)
            refine r_cons (s_move (.bool true) rfl rfl ?_)
            refine r_cons (r_pass rfl rfl rfl rfl rfl ?_)
            refine r_cons (r_pass rfl rfl rfl rfl rfl ?_)
            refine r_cons (r_pass rfl rfl rfl rfl rfl ?_)
            refine r_cons (s_pick_t (.bool true) rfl rfl rfl ?_)
            refine r_cons (s_move (.bool true) rfl rfl ?_)
            refine r_cons (r_pass rfl rfl rfl rfl rfl ?_)
            refine r_cons (r_pass rfl rfl rfl rfl rfl ?_)
            refine r_cons (r_pass rfl rfl rfl rfl rfl ?_)
            refine r_cons (s_pick_t (.bool true) rfl rfl rfl ?_)
            refine r_nil ?_
            refine g_true rfl ?_
            refine g_exit (by rfl) ?_
            refine g_region ?_
            refine r_cons (s_add ((i1 : Int) + 1) rfl rfl (wi64 (by omega)) rfl ?_)
            refine r_cons (s_move (.int .i64 ((i1 : Int) + 1)) rfl rfl ?_)
            refine r_nil ?_
            have hq := QD_no (L := K) (k := 1) (i := i1) (by omega) (okk_1 (k := 1) (by simpa using hc161))
            have H222 : St W w157 (Im 6 (.slice ((gdI K i1).p) ((gdI K i1).bs.length) ((gdI K i1).c)) ((gdI K i1).bs.length) ((gdI K i1).bs.flatMap bndCell) :: bndsA ((gdI K i1).bs) :: blk bk154 (.cells #[.int .i64 ((gdI K i1).op.v), .int .i64 ((gdI K i1).inp.v), .int .i64 ((gdI K i1).ep.v), .int .i64 ((gdI K i1).kind.v), .slice ((gdI K i1).p) ((gdI K i1).bs.length) ((gdI K i1).c), .int .i64 ((gdI K i1).t.v)] 32 (0, 0)) :: Row 32 6 (.slice p1 ((QD (K.take (i1 + 1)) 1).length) c1) ((QD (K.take (i1 + 1)) 1).length) ((QD (K.take (i1 + 1)) 1).flatMap itCell) :: Row 32 6 (.slice q1 ((w1 ++ (QD (K.take (i1 + 1)) 1)).length) d1) ((w1 ++ (QD (K.take (i1 + 1)) 1)).length) ((w1 ++ (QD (K.take (i1 + 1)) 1)).flatMap itCell) :: blk bk17 (.cells #[.slice pp124 L0.length cc125, .slice p1 ((QD (K.take (i1 + 1)) 1).length) c1, .slice none 0 0, .slice none 0 0] 22 (0, 0)) :: imi (0 < K.length) gA134 (.cells kA136 eA137 zA138) :: Row 32 6 (.slice pp124 L0.length cc125) L0.length (L0.flatMap itCell) :: Ag :: itsA K :: Ao :: Im 6 (.slice pp1 l.length cc2) l.length (l.flatMap itCell) :: F) := by rw [hq]; exact H160
            have H223 : St W w157 (Row 32 6 (.slice p1 ((QD (K.take (i1 + 1)) 1).length) c1) ((QD (K.take (i1 + 1)) 1).length) ((QD (K.take (i1 + 1)) 1).flatMap itCell) :: Row 32 6 (.slice q1 ((w1 ++ (QD (K.take (i1 + 1)) 1)).length) d1) ((w1 ++ (QD (K.take (i1 + 1)) 1)).length) ((w1 ++ (QD (K.take (i1 + 1)) 1)).flatMap itCell) :: blk bk17 (.cells #[.slice pp124 L0.length cc125, .slice p1 ((QD (K.take (i1 + 1)) 1).length) c1, .slice none 0 0, .slice none 0 0] 22 (0, 0)) :: imi (0 < K.length) gA134 (.cells kA136 eA137 zA138) :: Row 32 6 (.slice pp124 L0.length cc125) L0.length (L0.flatMap itCell) :: Ag :: itsA K :: Ao :: Im 6 (.slice pp1 l.length cc2) l.length (l.flatMap itCell) :: F) := ((((((((((((H222.move 11 rfl).move 11 rfl).move 11 rfl).move 11 rfl).move 11 rfl).move 11 rfl).move 11 rfl).move 11 rfl).move 11 rfl).drop 9 rfl).drop 9 rfl).drop 9 rfl)
            exact nx152 (i1 + 1, p1, c1, q1, d1) _ _ ⟨(by omega), H223⟩ (by first | (dsimp only; omega) | omega) ⟨by first | rfl | exact vint (by omega), by first | rfl | exact vint (by omega), by first | rfl | exact vint (by omega), by first | rfl | exact vint (by omega), by first | rfl | exact vint (by omega), by rw [hq]; rfl, by first | rfl | exact vint (by omega), by first | rfl | exact vint (by omega), by first | rfl | exact vint (by omega), by first | rfl | exact vint (by omega), by first | rfl | exact vint (by omega), by first | rfl | exact vint (by omega), trivial⟩
        · skip
          refine r_cons (s_lss false rfl rfl (dfalse hc153) rfl ?_)
          refine r_nil ?_
          refine g_seq ?_
          refine g_false rfl ?_
          refine g_exit (by rfl) ?_
          refine g_region ?_
          refine r_cons (s_move (.slice (some ⟨bk17, 0, none⟩) 4 4) rfl rfl ?_)
          refine r_cons (s_move (.int .i64 1) rfl rfl ?_)
          refine r_cons (s_move (.slice (some ⟨bk17, 0, none⟩) 4 4) rfl rfl ?_)
          refine r_cons (s_move (.int .i64 1) rfl rfl ?_)
          refine r_cons (s_indexAddr bk17 1 1 1 rfl rfl el_27 (by omega) rfl rfl ?_)
          refine r_cons (s_load (.slice p1 ((QD (K.take i1) 1).length) c1) ag_22 rfl (H151.blk_at (i := 2) rfl) rfl rfl ?_)
          refine r_cons (s_move (.int .i64 1) rfl rfl ?_)
          refine r_cons (s_build (cs := #[.int .i64 0, .int .i64 0, .int .i64 1, .int .i64 3, .slice none 0 0, .int .i64 0]) (by kernel_rfl) rfl ?_)
          refine r_cons (s_buildSlice H151 6 1 (cs := #[.int .i64 0, .int .i64 0, .int .i64 1, .int .i64 3, .slice none 0 0, .int .i64 0]) #[.int .i64 0, .int .i64 0, .int .i64 0, .int .i64 0, .slice none 0 0, .int .i64 0] el_22 ze_32 (by decide) (by decide) (by kernel_rfl) rfl ?_); intro bk224 w225 H226
          refine r_cons (s_append H226 1 rfl rfl rfl (rd_blk (H226.blk_at (i := 0) rfl) rfl (Nat.le_of_ble_eq_true rfl) (by simp [Value.oneCell'])) ap_22 (by decide) (by unfold maxLen; omega) (by omega) (n' := (QD (K.take i1) 1).length + 1) (xs' := (QD (K.take i1) 1).flatMap itCell ++ ([.int .i64 0, .int .i64 0, .int .i64 1, .int .i64 3, .slice none 0 0, .int .i64 0] : List Value)) (by omega) (by first | rfl | simp) rfl ?_); intro vv227 w228 H229 hn230
          obtain ⟨pp231, cc232, rfl⟩ := Row.slice H229 (i := 1) rfl
          refine r_cons (s_indexAddr bk17 1 1 1 rfl rfl el_27 (by omega) rfl rfl ?_)
          refine r_cons (s_store H229 3 (.slice pp231 ((QD (K.take i1) 1).length + 1) cc232) rfl rfl rfl sz_22 rfl (Nat.le_of_ble_eq_true rfl) rfl (cs' := #[.slice pp124 L0.length cc125, .slice pp231 ((QD (K.take i1) 1).length + 1) cc232, .slice none 0 0, .slice none 0 0]) rfl ?_); intro w233 H234
          refine r_nil ?_
          refine g_inBlock ?_
          refine g_region ?_
          refine r_cons (s_add 2 rfl rfl (wi64 (by omega)) rfl ?_)
          refine r_cons (s_move (.int .i64 2) rfl rfl ?_)
          refine r_nil ?_
          refine g_inLoop ?_
          refine g_seq ?_
          refine g_region ?_
          refine r_cons (s_lss true rfl rfl (dtrue (by decide)) rfl ?_)
          refine r_nil ?_
          refine g_seq ?_
          refine g_true rfl ?_
          refine g_skip ?_
          refine g_seq ?_
          refine g_block ?_
          refine g_seq ?_
          refine g_region ?_
          refine r_cons (s_move (.int .i64 2) rfl rfl ?_)
          refine r_cons (s_assign (.int .i64 2) rfl rfl ?_)
          refine r_nil ?_
          refine g_seq ?_
          refine g_seq ?_
          refine g_region ?_
          refine r_cons (s_move (.slice pp1 l.length cc2) rfl rfl ?_)
          refine r_cons (s_move (.slice pp1 l.length cc2) rfl rfl ?_)
          refine r_cons (s_len l.length rfl ⟨_, un_22⟩ rfl ?_)
          refine r_cons (s_min2 ((min l.length 40 : Nat) : Int) rfl rfl (by omega) rfl ?_)
          have hc235 := Im.cap H234 (i := 9) rfl
          refine r_cons (s_slice_h pp1 ((min l.length 40 : Nat) : Int) 6 (.slice pp1 (min l.length 40) cc2) rfl rfl el_22 (by omega) (by first | rfl | (congr 1; omega)) rfl ?_)
          have H236 : St W w233 (Im 6 (.slice pp1 (min l.length 40) cc2) (min l.length 40) ((l.take (min l.length 40)).flatMap itCell) :: blk bk224 (.cells #[.int .i64 0, .int .i64 0, .int .i64 1, .int .i64 3, .slice none 0 0, .int .i64 0] 32 (0, 0)) :: Row 32 6 (.slice pp231 ((QD (K.take i1) 1).length + 1) cc232) ((QD (K.take i1) 1).length + 1) ((QD (K.take i1) 1).flatMap itCell ++ ([.int .i64 0, .int .i64 0, .int .i64 1, .int .i64 3, .slice none 0 0, .int .i64 0] : List Value)) :: Row 32 6 (.slice q1 ((w1 ++ (QD (K.take i1) 1)).length) d1) ((w1 ++ (QD (K.take i1) 1)).length) ((w1 ++ (QD (K.take i1) 1)).flatMap itCell) :: blk bk17 (.cells #[.slice pp124 L0.length cc125, .slice pp231 ((QD (K.take i1) 1).length + 1) cc232, .slice none 0 0, .slice none 0 0] 22 (0, 0)) :: imi (0 < K.length) gA134 (.cells kA136 eA137 zA138) :: Row 32 6 (.slice pp124 L0.length cc125) L0.length (L0.flatMap itCell) :: Ag :: itsA K :: Ao :: Im 6 (.slice pp1 l.length cc2) l.length (l.flatMap itCell) :: F) := Im.cutN_h itCell_len (by decide) (min l.length 40) H234 (i := 9) rfl (by omega)
          refine r_cons (s_len (min l.length 40) rfl ⟨_, un_22⟩ rfl ?_)
          refine r_cons (s_move (.int .i64 0) rfl rfl ?_)
          refine r_nil ?_
          refine g_block ?_
          have H237 : St W w233 (Im 6 (.slice pp1 (min l.length 40) cc2) (min l.length 40) ((l.take (min l.length 40)).flatMap itCell) :: Row 32 6 (.slice pp231 ((QD (K.take i1) 1).length + 1) cc232) ((QD (K.take i1) 1).length + 1) ((QD (K.take i1) 1).flatMap itCell ++ ([.int .i64 0, .int .i64 0, .int .i64 1, .int .i64 3, .slice none 0 0, .int .i64 0] : List Value)) :: Row 32 6 (.slice q1 ((w1 ++ (QD (K.take i1) 1)).length) d1) ((w1 ++ (QD (K.take i1) 1)).length) ((w1 ++ (QD (K.take i1) 1)).flatMap itCell) :: blk bk17 (.cells #[.slice pp124 L0.length cc125, .slice pp231 ((QD (K.take i1) 1).length + 1) cc232, .slice none 0 0, .slice none 0 0] 22 (0, 0)) :: Row 32 6 (.slice pp124 L0.length cc125) L0.length (L0.flatMap itCell) :: Ag :: itsA K :: Ao :: Im 6 (.slice pp1 l.length cc2) l.length (l.flatMap itCell) :: F) := (((((((((((H236.move 10 rfl).move 10 rfl).move 10 rfl).move 10 rfl).move 10 rfl).move 9 rfl).move 9 rfl).move 9 rfl).move 8 rfl).drop 9 rfl).drop 9 rfl)
          have H238 : St W w233 (Im 6 (.slice pp1 K.length cc2) K.length (K.flatMap itCell) :: Row 32 6 (.slice pp231 ((QD (K.take i1) 1).length + 1) cc232) ((QD (K.take i1) 1).length + 1) ((QD (K.take i1) 1).flatMap itCell ++ ([.int .i64 0, .int .i64 0, .int .i64 1, .int .i64 3, .slice none 0 0, .int .i64 0] : List Value)) :: Row 32 6 (.slice q1 ((w1 ++ (QD (K.take i1) 1)).length) d1) ((w1 ++ (QD (K.take i1) 1)).length) ((w1 ++ (QD (K.take i1) 1)).flatMap itCell) :: blk bk17 (.cells #[.slice pp124 L0.length cc125, .slice pp231 ((QD (K.take i1) 1).length + 1) cc232, .slice none 0 0, .slice none 0 0] 22 (0, 0)) :: Row 32 6 (.slice pp124 L0.length cc125) L0.length (L0.flatMap itCell) :: Ag :: itsA K :: Ao :: Im 6 (.slice pp1 l.length cc2) l.length (l.flatMap itCell) :: F) := by rw [hM, hKf]; exact H237
          obtain ⟨pA239, cA240, gA241, oA242, kA243, eA244, zA245, he251, hn246, hp247, hx248, hs249, hml, H250⟩ := Im.open_ H238 (i := 0) rfl
          obtain ⟨rfl, rfl⟩ : pp1 = pA239 ∧ cc2 = cA240 := by injection he251 with a_ b_ c_; exact ⟨a_, c_⟩
          obtain ⟨L1, hL1⟩ : ∃ L, L = (QD (K.take i1) 1) ++ [endD 1] := ⟨_, rfl⟩
          obtain ⟨w2, hw2⟩ : ∃ L, L = w1 ++ (QD (K.take i1) 1) := ⟨_, rfl⟩
          have hpn1 : L1.length = (QD (K.take i1) 1).length + 1 := by rw [hL1]; simp
          have hpf1 : L1.flatMap itCell = (QD (K.take i1) 1).flatMap itCell ++ itCell (endD 1) := by rw [hL1]; simp
          have H252 : St W w233 (imi (0 < K.length) gA241 (.cells kA243 eA244 zA245) :: Im 6 (.slice pp1 K.length cc2) K.length (K.flatMap itCell) :: Row 32 6 (.slice pp231 L1.length cc232) L1.length (L1.flatMap itCell) :: Row 32 6 (.slice q1 w2.length d1) w2.length (w2.flatMap itCell) :: blk bk17 (.cells #[.slice pp124 L0.length cc125, .slice pp231 L1.length cc232, .slice none 0 0, .slice none 0 0] 22 (0, 0)) :: Row 32 6 (.slice pp124 L0.length cc125) L0.length (L0.flatMap itCell) :: Ag :: itsA K :: Ao :: Im 6 (.slice pp1 l.length cc2) l.length (l.flatMap itCell) :: F) := by rw [hpn1, hpf1, hw2]; exact H250
          have hwl2 : w2.length ≤ 40 * 2 := by rw [hw2, List.length_append]; omega
          have H253 := Row.nil_intro H252 32 6
          have H254 : St W w233 (Row 32 6 (.slice none 0 0) 0 [] :: Row 32 6 (.slice q1 w2.length d1) w2.length (w2.flatMap itCell) :: blk bk17 (.cells #[.slice pp124 L0.length cc125, .slice pp231 L1.length cc232, .slice none 0 0, .slice none 0 0] 22 (0, 0)) :: imi (0 < K.length) gA241 (.cells kA243 eA244 zA245) :: Row 32 6 (.slice pp231 L1.length cc232) L1.length (L1.flatMap itCell) :: Row 32 6 (.slice pp124 L0.length cc125) L0.length (L0.flatMap itCell) :: Ag :: itsA K :: Ao :: Im 6 (.slice pp1 l.length cc2) l.length (l.flatMap itCell) :: F) := (((((((((((H253.move 10 rfl).move 10 rfl).move 10 rfl).move 10 rfl).move 10 rfl).move 8 rfl).move 7 rfl).move 10 rfl).move 10 rfl).move 9 rfl).drop 10 rfl)
          have hqz : QD (K.take 0) 2 = [] := by rw [List.take_zero]; rfl
          have H255 : St W w233 (Row 32 6 (.slice none 0 0) 0 [] :: Row 32 6 (.slice q1 ((w2 ++ QD (K.take 0) 2).length) d1) ((w2 ++ QD (K.take 0) 2).length) ((w2 ++ QD (K.take 0) 2).flatMap itCell) :: blk bk17 (.cells #[.slice pp124 L0.length cc125, .slice pp231 L1.length cc232, .slice none 0 0, .slice none 0 0] 22 (0, 0)) :: imi (0 < K.length) gA241 (.cells kA243 eA244 zA245) :: Row 32 6 (.slice pp231 L1.length cc232) L1.length (L1.flatMap itCell) :: Row 32 6 (.slice pp124 L0.length cc125) L0.length (L0.flatMap itCell) :: Ag :: itsA K :: Ao :: Im 6 (.slice pp1 l.length cc2) l.length (l.flatMap itCell) :: F) := by rw [hqz, List.append_nil]; exact H254
          refine g_loop_inv (fun (x_ : Nat × (Option Addr) × Nat × (Option Addr) × Nat) => match x_ with | (i2, p2, c2, q2, d2) => [(0, .slice pp1 l.length cc2), (1, .slice pp5 od.length cc6), (4, .bool false), (5, .pointer (some ⟨bk12, 0, none⟩)), (6, .slice (some ⟨bk17, 0, none⟩) 4 4), (7, .slice q2 ((w2 ++ (QD (K.take i2) 2)).length) d2), (25, .int .i64 4), (26, .int .i64 2), (8, .int .i64 2), (33, .slice pp1 (min l.length 40) cc2), (34, .int .i64 (min l.length 40 : Int)), (35, .int .i64 (i2 : Int))]) (fun (x_ : Nat × (Option Addr) × Nat × (Option Addr) × Nat) w => match x_ with | (i2, p2, c2, q2, d2) => (i2 ≤ K.length) ∧ St W w (Row 32 6 (.slice p2 ((QD (K.take i2) 2).length) c2) ((QD (K.take i2) 2).length) ((QD (K.take i2) 2).flatMap itCell) :: Row 32 6 (.slice q2 ((w2 ++ (QD (K.take i2) 2)).length) d2) ((w2 ++ (QD (K.take i2) 2)).length) ((w2 ++ (QD (K.take i2) 2)).flatMap itCell) :: blk bk17 (.cells #[.slice pp124 L0.length cc125, .slice pp231 L1.length cc232, .slice p2 ((QD (K.take i2) 2).length) c2, .slice none 0 0] 22 (0, 0)) :: imi (0 < K.length) gA241 (.cells kA243 eA244 zA245) :: Row 32 6 (.slice pp231 L1.length cc232) L1.length (L1.flatMap itCell) :: Row 32 6 (.slice pp124 L0.length cc125) L0.length (L0.flatMap itCell) :: Ag :: itsA K :: Ao :: Im 6 (.slice pp1 l.length cc2) l.length (l.flatMap itCell) :: F)) (fun (x_ : Nat × (Option Addr) × Nat × (Option Addr) × Nat) => match x_ with | (i2, p2, c2, q2, d2) => K.length - i2) (0, none, 0, q1, d1) ?_ ?_ ?_
          · exact ⟨by first | rfl | exact vint (by omega), by first | rfl | exact vint (by omega), by first | rfl | exact vint (by omega), by first | rfl | exact vint (by omega), by first | rfl | exact vint (by omega), by rw [hqz, List.append_nil, hw2]; rfl, by first | rfl | exact vint (by omega), by first | rfl | exact vint (by omega), by first | rfl | exact vint (by omega), by first | rfl | exact vint (by omega), by first | rfl | exact vint (by omega), by first | rfl | exact vint (by omega), trivial⟩
          · exact ⟨(by omega), H255⟩
          · rintro ⟨i2, p2, c2, q2, d2⟩ ρ256 w257 ⟨hi2, H258⟩ nx259
            change Ends _ _ (upds ρ256 [(0, .slice pp1 l.length cc2), (1, .slice pp5 od.length cc6), (4, .bool false), (5, .pointer (some ⟨bk12, 0, none⟩)), (6, .slice (some ⟨bk17, 0, none⟩) 4 4), (7, .slice q2 ((w2 ++ (QD (K.take i2) 2)).length) d2), (25, .int .i64 4), (26, .int .i64 2), (8, .int .i64 2), (33, .slice pp1 (min l.length 40) cc2), (34, .int .i64 (min l.length 40 : Int)), (35, .int .i64 (i2 : Int))]) w257
            have hql2 := QD_len (K.take i2) 2
            rw [List.length_take] at hql2
            have hwq2 : (w2 ++ (QD (K.take i2) 2)).length = w2.length + (QD (K.take i2) 2).length := List.length_append
            refine g_seq ?_
            refine g_region ?_
            by_cases hc260 : (i2 : Int) < (min l.length 40 : Int)
            · skip
              refine r_cons (s_lss true rfl rfl (dtrue hc260) rfl ?_)
              refine r_nil ?_
              refine g_seq ?_
              refine g_true rfl ?_
              refine g_skip ?_
              refine g_seq ?_
              refine g_block ?_
              refine g_seq ?_
              refine g_region ?_
              refine r_cons (s_indexAddr gA241 (off := oA242) (i2 : Int) 6 (oA242 + i2 * 6) (by exact congrArg (fun z_ => Value.slice z_ (min l.length 40) cc2) (hp247 (by omega))) rfl el_22 (by omega) rfl rfl ?_)
              refine r_cons (s_loadAgg [.int .i64 ((gdI K i2).op.v), .int .i64 ((gdI K i2).inp.v), .int .i64 ((gdI K i2).ep.v), .int .i64 ((gdI K i2).kind.v), .slice ((gdI K i2).p) ((gdI K i2).bs.length) ((gdI K i2).c), .int .i64 ((gdI K i2).t.v)] 6 ag_32 rfl (H258.imi_at (i := 3) rfl (by omega)) (by have := elem_size (i := i2) (s := 6) (hs249 (by omega)) (by omega); omega) (elem_take itCell_len (hx248 (by omega)) (by omega) default) rfl ?_)
              refine r_cons (s_alloc H258 32 ze_32 rfl ?_); intro bk261 w262 H263
              refine r_cons (s_storeAgg H263 0 #[.int .i64 ((gdI K i2).op.v), .int .i64 ((gdI K i2).inp.v), .int .i64 ((gdI K i2).ep.v), .int .i64 ((gdI K i2).kind.v), .slice ((gdI K i2).p) ((gdI K i2).bs.length) ((gdI K i2).c), .int .i64 ((gdI K i2).t.v)] 6 rfl rfl rfl sz_32 rfl (by simp [Value.oneCell']) (Nat.le_of_ble_eq_true rfl) (fun o h1 h2 => by first | (simp; done) | (simp; omega)) (cs' := #[.int .i64 ((gdI K i2).op.v), .int .i64 ((gdI K i2).inp.v), .int .i64 ((gdI K i2).ep.v), .int .i64 ((gdI K i2).kind.v), .slice ((gdI K i2).p) ((gdI K i2).bs.length) ((gdI K i2).c), .int .i64 ((gdI K i2).t.v)]) rfl ?_); intro w264 H265
              refine r_nil ?_
              refine g_seq ?_
              refine g_seq ?_
              refine g_region ?_
              have H266 : St W w264 (bndsA ((gdI K i2).bs) :: blk bk261 (.cells #[.int .i64 ((gdI K i2).op.v), .int .i64 ((gdI K i2).inp.v), .int .i64 ((gdI K i2).ep.v), .int .i64 ((gdI K i2).kind.v), .slice ((gdI K i2).p) ((gdI K i2).bs.length) ((gdI K i2).c), .int .i64 ((gdI K i2).t.v)] 32 (0, 0)) :: Row 32 6 (.slice p2 ((QD (K.take i2) 2).length) c2) ((QD (K.take i2) 2).length) ((QD (K.take i2) 2).flatMap itCell) :: Row 32 6 (.slice q2 ((w2 ++ (QD (K.take i2) 2)).length) d2) ((w2 ++ (QD (K.take i2) 2)).length) ((w2 ++ (QD (K.take i2) 2)).flatMap itCell) :: blk bk17 (.cells #[.slice pp124 L0.length cc125, .slice pp231 L1.length cc232, .slice p2 ((QD (K.take i2) 2).length) c2, .slice none 0 0] 22 (0, 0)) :: imi (0 < K.length) gA241 (.cells kA243 eA244 zA245) :: Row 32 6 (.slice pp231 L1.length cc232) L1.length (L1.flatMap itCell) :: Row 32 6 (.slice pp124 L0.length cc125) L0.length (L0.flatMap itCell) :: Ag :: itsA K :: Ao :: Im 6 (.slice pp1 l.length cc2) l.length (l.flatMap itCell) :: F) := itsA_at H265 (i := 8) rfl (j := i2) (by omega)
              have H267 : St W w264 (Im 6 (.slice ((gdI K i2).p) ((gdI K i2).bs.length) ((gdI K i2).c)) ((gdI K i2).bs.length) ((gdI K i2).bs.flatMap bndCell) :: bndsA ((gdI K i2).bs) :: blk bk261 (.cells #[.int .i64 ((gdI K i2).op.v), .int .i64 ((gdI K i2).inp.v), .int .i64 ((gdI K i2).ep.v), .int .i64 ((gdI K i2).kind.v), .slice ((gdI K i2).p) ((gdI K i2).bs.length) ((gdI K i2).c), .int .i64 ((gdI K i2).t.v)] 32 (0, 0)) :: Row 32 6 (.slice p2 ((QD (K.take i2) 2).length) c2) ((QD (K.take i2) 2).length) ((QD (K.take i2) 2).flatMap itCell) :: Row 32 6 (.slice q2 ((w2 ++ (QD (K.take i2) 2)).length) d2) ((w2 ++ (QD (K.take i2) 2)).length) ((w2 ++ (QD (K.take i2) 2)).flatMap itCell) :: blk bk17 (.cells #[.slice pp124 L0.length cc125, .slice pp231 L1.length cc232, .slice p2 ((QD (K.take i2) 2).length) c2, .slice none 0 0] 22 (0, 0)) :: imi (0 < K.length) gA241 (.cells kA243 eA244 zA245) :: Row 32 6 (.slice pp231 L1.length cc232) L1.length (L1.flatMap itCell) :: Row 32 6 (.slice pp124 L0.length cc125) L0.length (L0.flatMap itCell) :: Ag :: itsA K :: Ao :: Im 6 (.slice pp1 l.length cc2) l.length (l.flatMap itCell) :: F) := itsA_bs H266 (i := 9) rfl (j := i2) (by omega)
              refine r_cons (s_fieldAddr 32 2 2 2 2 rfl fi_32_2 rfl rfl ?_)
              refine r_cons (s_load (.int .i64 ((gdI K i2).ep.v)) ag_2 rfl (H267.blk_at (i := 2) rfl) rfl rfl ?_)
              refine r_cons (s_move (.int .i64 2) rfl rfl ?_)
              by_cases hc268 : (gdI K i2).ep.v = 2
              · skip
                refine r_cons (s_neq false rfl rfl (ntrue hc268) rfl ?_)
                refine r_cons (s_move (.bool false) rfl rfl ?_)
                refine r_cons (r_take rfl rfl ?_)
                refine s_fieldAddr 32 3 3 3 3 rfl fi_32_3 rfl rfl ?_
                refine r_cons (r_take rfl rfl ?_)
                refine s_load (.int .i64 ((gdI K i2).kind.v)) ag_3 rfl (H267.blk_at (i := 2) rfl) rfl rfl ?_
                refine r_cons (r_take rfl rfl ?_)
                by_cases hc269 : (gdI K i2).kind.v = 3
                · skip
                  refine s_eql true rfl rfl (dtrue hc269) rfl ?_
                  refine r_cons (s_pick_f (.bool true) rfl rfl rfl ?_)
                  refine r_cons (s_move (.bool true) rfl rfl ?_)
                  refine r_cons (r_pass rfl rfl rfl rfl rfl ?_)
                  refine r_cons (r_pass rfl rfl rfl rfl rfl ?_)
                  refine r_cons (r_pass rfl rfl rfl rfl rfl ?_)
                  refine r_cons (s_pick_t (.bool true) rfl rfl rfl ?_)
                  refine r_nil ?_
                  refine g_true rfl ?_
                  refine g_exit (by rfl) ?_
                  refine g_region ?_
                  refine r_cons (s_add ((i2 : Int) + 1) rfl rfl (wi64 (by omega)) rfl ?_)
                  refine r_cons (s_move (.int .i64 ((i2 : Int) + 1)) rfl rfl ?_)
                  refine r_nil ?_
                  have hq := QD_no (L := K) (k := 2) (i := i2) (by omega) (okk_2 hc269)
                  have H270 : St W w264 (Im 6 (.slice ((gdI K i2).p) ((gdI K i2).bs.length) ((gdI K i2).c)) ((gdI K i2).bs.length) ((gdI K i2).bs.flatMap bndCell) :: bndsA ((gdI K i2).bs) :: blk bk261 (.cells #[.int .i64 ((gdI K i2).op.v), .int .i64 ((gdI K i2).inp.v), .int .i64 ((gdI K i2).ep.v), .int .i64 ((gdI K i2).kind.v), .slice ((gdI K i2).p) ((gdI K i2).bs.length) ((gdI K i2).c), .int .i64 ((gdI K i2).t.v)] 32 (0, 0)) :: Row 32 6 (.slice p2 ((QD (K.take (i2 + 1)) 2).length) c2) ((QD (K.take (i2 + 1)) 2).length) ((QD (K.take (i2 + 1)) 2).flatMap itCell) :: Row 32 6 (.slice q2 ((w2 ++ (QD (K.take (i2 + 1)) 2)).length) d2) ((w2 ++ (QD (K.take (i2 + 1)) 2)).length) ((w2 ++ (QD (K.take (i2 + 1)) 2)).flatMap itCell) :: blk bk17 (.cells #[.slice pp124 L0.length cc125, .slice pp231 L1.length cc232, .slice p2 ((QD (K.take (i2 + 1)) 2).length) c2, .slice none 0 0] 22 (0, 0)) :: imi (0 < K.length) gA241 (.cells kA243 eA244 zA245) :: Row 32 6 (.slice pp231 L1.length cc232) L1.length (L1.flatMap itCell) :: Row 32 6 (.slice pp124 L0.length cc125) L0.length (L0.flatMap itCell) :: Ag :: itsA K :: Ao :: Im 6 (.slice pp1 l.length cc2) l.length (l.flatMap itCell) :: F) := by rw [hq]; exact H267
                  have H271 : St W w264 (Row 32 6 (.slice p2 ((QD (K.take (i2 + 1)) 2).length) c2) ((QD (K.take (i2 + 1)) 2).length) ((QD (K.take (i2 + 1)) 2).flatMap itCell) :: Row 32 6 (.slice q2 ((w2 ++ (QD (K.take (i2 + 1)) 2)).length) d2) ((w2 ++ (QD (K.take (i2 + 1)) 2)).length) ((w2 ++ (QD (K.take (i2 + 1)) 2)).flatMap itCell) :: blk bk17 (.cells #[.slice pp124 L0.length cc125, .slice pp231 L1.length cc232, .slice p2 ((QD (K.take (i2 + 1)) 2).length) c2, .slice none 0 0] 22 (0, 0)) :: imi (0 < K.length) gA241 (.cells kA243 eA244 zA245) :: Row 32 6 (.slice pp231 L1.length cc232) L1.length (L1.flatMap itCell) :: Row 32 6 (.slice pp124 L0.length cc125) L0.length (L0.flatMap itCell) :: Ag :: itsA K :: Ao :: Im 6 (.slice pp1 l.length cc2) l.length (l.flatMap itCell) :: F) := (((((((((((((H270.move 12 rfl).move 12 rfl).move 12 rfl).move 12 rfl).move 12 rfl).move 12 rfl).move 12 rfl).move 12 rfl).move 12 rfl).move 12 rfl).drop 10 rfl).drop 10 rfl).drop 10 rfl)
                  exact nx259 (i2 + 1, p2, c2, q2, d2) _ _ ⟨(by omega), H271⟩ (by first | (dsimp only; omega) | omega) ⟨by first | rfl | exact vint (by omega), by first | rfl | exact vint (by omega), by first | rfl | exact vint (by omega), by first | rfl | exact vint (by omega), by first | rfl | exact vint (by omega), by rw [hq]; rfl, by first | rfl | exact vint (by omega), by first | rfl | exact vint (by omega), by first | rfl | exact vint (by omega), by first | rfl | exact vint (by omega), by first | rfl | exact vint (by omega), by first | rfl | exact vint (by omega), trivial⟩
                · skip
                  refine s_eql false rfl rfl (dfalse hc269) rfl ?_
                  refine r_cons (s_pick_f (.bool false) rfl rfl rfl ?_)
                  refine r_cons (s_move (.bool false) rfl rfl ?_)
                  refine r_cons (r_take rfl rfl ?_)
                  refine s_loadAgg [.int .i64 ((gdI K i2).op.v), .int .i64 ((gdI K i2).inp.v), .int .i64 ((gdI K i2).ep.v), .int .i64 ((gdI K i2).kind.v), .slice ((gdI K i2).p) ((gdI K i2).bs.length) ((gdI K i2).c), .int .i64 ((gdI K i2).t.v)] 6 ag_32 rfl (H267.blk_at (i := 2) rfl) (Nat.le_of_ble_eq_true rfl) rfl rfl ?_
                  refine r_cons (r_take rfl rfl ?_)
                  refine s_call [.agg #[.int .i64 ((gdI K i2).op.v), .int .i64 ((gdI K i2).inp.v), .int .i64 ((gdI K i2).ep.v), .int .i64 ((gdI K i2).kind.v), .slice ((gdI K i2).p) ((gdI K i2).bs.length) ((gdI K i2).c), .int .i64 ((gdI K i2).t.v)]] pl_11 rfl rfl (ref24_CheckItem (gdI K i2) (ip := 0) rfl (iq := 1) rfl H267) ?_
                  rintro _ w272 ⟨rfl, H273⟩
                  refine r_cons (r_take rfl rfl ?_)
                  by_cases hc274 : itE (gdI K i2) = 0
                  · skip
                    refine s_neq false rfl rfl (ntrue hc274) rfl ?_
                    refine r_cons (s_pick_f (.bool false) rfl rfl rfl ?_)
                    refine r_nil ?_
                    refine g_false rfl ?_
                    refine g_skip ?_
                    refine g_seq ?_
                    have H275 : St W w272 (Row 32 6 (.slice pp124 L0.length cc125) L0.length (L0.flatMap itCell) :: Ag :: itsA K :: Ao :: Im 6 (.slice pp1 l.length cc2) l.length (l.flatMap itCell) :: Im 6 (.slice ((gdI K i2).p) ((gdI K i2).bs.length) ((gdI K i2).c)) ((gdI K i2).bs.length) ((gdI K i2).bs.flatMap bndCell) :: bndsA ((gdI K i2).bs) :: blk bk261 (.cells #[.int .i64 ((gdI K i2).op.v), .int .i64 ((gdI K i2).inp.v), .int .i64 ((gdI K i2).ep.v), .int .i64 ((gdI K i2).kind.v), .slice ((gdI K i2).p) ((gdI K i2).bs.length) ((gdI K i2).c), .int .i64 ((gdI K i2).t.v)] 32 (0, 0)) :: Row 32 6 (.slice p2 ((QD (K.take i2) 2).length) c2) ((QD (K.take i2) 2).length) ((QD (K.take i2) 2).flatMap itCell) :: Row 32 6 (.slice q2 ((w2 ++ (QD (K.take i2) 2)).length) d2) ((w2 ++ (QD (K.take i2) 2)).length) ((w2 ++ (QD (K.take i2) 2)).flatMap itCell) :: blk bk17 (.cells #[.slice pp124 L0.length cc125, .slice pp231 L1.length cc232, .slice p2 ((QD (K.take i2) 2).length) c2, .slice none 0 0] 22 (0, 0)) :: imi (0 < K.length) gA241 (.cells kA243 eA244 zA245) :: Row 32 6 (.slice pp231 L1.length cc232) L1.length (L1.flatMap itCell) :: F) := (((((H273.move 12 rfl).move 12 rfl).move 12 rfl).move 12 rfl).move 12 rfl)
                    have H276 : St W w272 (Row 32 6 (.slice p2 ((QD (K.take i2) 2).length) c2) ((QD (K.take i2) 2).length) ((QD (K.take i2) 2).flatMap itCell) :: Row 32 6 (.slice q2 ((w2 ++ (QD (K.take i2) 2)).length) d2) ((w2 ++ (QD (K.take i2) 2)).length) ((w2 ++ (QD (K.take i2) 2)).flatMap itCell) :: blk bk17 (.cells #[.slice pp124 L0.length cc125, .slice pp231 L1.length cc232, .slice p2 ((QD (K.take i2) 2).length) c2, .slice none 0 0] 22 (0, 0)) :: imi (0 < K.length) gA241 (.cells kA243 eA244 zA245) :: Row 32 6 (.slice pp231 L1.length cc232) L1.length (L1.flatMap itCell) :: Row 32 6 (.slice pp124 L0.length cc125) L0.length (L0.flatMap itCell) :: Ag :: itsA K :: Ao :: Im 6 (.slice pp1 l.length cc2) l.length (l.flatMap itCell) :: Im 6 (.slice ((gdI K i2).p) ((gdI K i2).bs.length) ((gdI K i2).c)) ((gdI K i2).bs.length) ((gdI K i2).bs.flatMap bndCell) :: bndsA ((gdI K i2).bs) :: blk bk261 (.cells #[.int .i64 ((gdI K i2).op.v), .int .i64 ((gdI K i2).inp.v), .int .i64 ((gdI K i2).ep.v), .int .i64 ((gdI K i2).kind.v), .slice ((gdI K i2).p) ((gdI K i2).bs.length) ((gdI K i2).c), .int .i64 ((gdI K i2).t.v)] 32 (0, 0)) :: F) := (((((H275.move 12 rfl).move 12 rfl).move 12 rfl).move 12 rfl).move 12 rfl)
                    have H277 : St W w272 (blk bk261 (.cells #[.int .i64 ((gdI K i2).op.v), .int .i64 ((gdI K i2).inp.v), .int .i64 ((gdI K i2).ep.v), .int .i64 ((gdI K i2).kind.v), .slice ((gdI K i2).p) ((gdI K i2).bs.length) ((gdI K i2).c), .int .i64 ((gdI K i2).t.v)] 32 (0, 0)) :: Row 32 6 (.slice p2 ((QD (K.take i2) 2).length) c2) ((QD (K.take i2) 2).length) ((QD (K.take i2) 2).flatMap itCell) :: Row 32 6 (.slice q2 ((w2 ++ (QD (K.take i2) 2)).length) d2) ((w2 ++ (QD (K.take i2) 2)).length) ((w2 ++ (QD (K.take i2) 2)).flatMap itCell) :: blk bk17 (.cells #[.slice pp124 L0.length cc125, .slice pp231 L1.length cc232, .slice p2 ((QD (K.take i2) 2).length) c2, .slice none 0 0] 22 (0, 0)) :: imi (0 < K.length) gA241 (.cells kA243 eA244 zA245) :: Row 32 6 (.slice pp231 L1.length cc232) L1.length (L1.flatMap itCell) :: Row 32 6 (.slice pp124 L0.length cc125) L0.length (L0.flatMap itCell) :: Ag :: itsA K :: Ao :: Im 6 (.slice pp1 l.length cc2) l.length (l.flatMap itCell) :: F) := (((H276.move 12 rfl).drop 11 rfl).drop 11 rfl)
                    refine g_cut (fun (x : Nat × Option Addr × Nat) => match x with | (bk278, pp285, cc286) => [(0, .slice pp1 l.length cc2), (1, .slice pp5 od.length cc6), (4, .bool false), (5, .pointer (some ⟨bk12, 0, none⟩)), (6, .slice (some ⟨bk17, 0, none⟩) 4 4), (7, .slice q2 ((w2 ++ (QD (K.take i2) 2)).length) d2), (25, .int .i64 4), (26, .int .i64 2), (8, .int .i64 2), (33, .slice pp1 (min l.length 40) cc2), (34, .int .i64 (min l.length 40 : Int)), (35, .int .i64 (i2 : Int)), (36, .bool true), (37, .pointer (some ⟨gA241, oA242 + i2 * 6, none⟩)), (38, .agg #[.int .i64 ((gdI K i2).op.v), .int .i64 ((gdI K i2).inp.v), .int .i64 ((gdI K i2).ep.v), .int .i64 ((gdI K i2).kind.v), .slice ((gdI K i2).p) ((gdI K i2).bs.length) ((gdI K i2).c), .int .i64 ((gdI K i2).t.v)]), (10, .pointer (some ⟨bk261, 0, none⟩)), (39, .pointer (some ⟨bk261, 2, none⟩)), (40, .int .i64 ((gdI K i2).ep.v)), (41, .int .i64 2), (42, .bool false), (43, .bool false), (44, .pointer (some ⟨bk261, 3, none⟩)), (45, .int .i64 ((gdI K i2).kind.v)), (46, .bool false), (47, .bool false), (48, .bool false), (49, .agg #[.int .i64 ((gdI K i2).op.v), .int .i64 ((gdI K i2).inp.v), .int .i64 ((gdI K i2).ep.v), .int .i64 ((gdI K i2).kind.v), .slice ((gdI K i2).p) ((gdI K i2).bs.length) ((gdI K i2).c), .int .i64 ((gdI K i2).t.v)]), (50, .int .i64 (itE (gdI K i2))), (51, .bool false), (52, .bool false), (53, .slice (some ⟨bk17, 0, none⟩) 4 4), (54, .int .i64 2), (55, .slice (some ⟨bk17, 0, none⟩) 4 4), (56, .int .i64 2), (57, .pointer (some ⟨bk17, 2, none⟩)), (58, .slice p2 ((QD (K.take i2) 2).length) c2), (59, .agg #[.int .i64 ((gdI K i2).op.v), .int .i64 ((gdI K i2).inp.v), .int .i64 ((gdI K i2).ep.v), .int .i64 ((gdI K i2).kind.v), .slice ((gdI K i2).p) ((gdI K i2).bs.length) ((gdI K i2).c), .int .i64 ((gdI K i2).t.v)]), (60, .slice (some ⟨bk278, 0, none⟩) 1 1), (61, .slice pp285 ((QD (K.take i2) 2).length + 1) cc286), (62, .pointer (some ⟨bk17, 2, none⟩))]) (fun (x : Nat × Option Addr × Nat) w => match x with | (bk278, pp285, cc286) => St W w (blk bk278 (.cells #[.int .i64 ((gdI K i2).op.v), .int .i64 ((gdI K i2).inp.v), .int .i64 ((gdI K i2).ep.v), .int .i64 ((gdI K i2).kind.v), .slice ((gdI K i2).p) ((gdI K i2).bs.length) ((gdI K i2).c), .int .i64 ((gdI K i2).t.v)] 32 (0, 0)) :: blk bk261 (.cells #[.int .i64 ((gdI K i2).op.v), .int .i64 ((gdI K i2).inp.v), .int .i64 ((gdI K i2).ep.v), .int .i64 ((gdI K i2).kind.v), .slice ((gdI K i2).p) ((gdI K i2).bs.length) ((gdI K i2).c), .int .i64 ((gdI K i2).t.v)] 32 (0, 0)) :: Row 32 6 (.slice pp285 ((QD (K.take i2) 2).length + 1) cc286) ((QD (K.take i2) 2).length + 1) ((QD (K.take i2) 2).flatMap itCell ++ ([.int .i64 ((gdI K i2).op.v), .int .i64 ((gdI K i2).inp.v), .int .i64 ((gdI K i2).ep.v), .int .i64 ((gdI K i2).kind.v), .slice ((gdI K i2).p) ((gdI K i2).bs.length) ((gdI K i2).c), .int .i64 ((gdI K i2).t.v)] : List Value)) :: Row 32 6 (.slice q2 ((w2 ++ (QD (K.take i2) 2)).length) d2) ((w2 ++ (QD (K.take i2) 2)).length) ((w2 ++ (QD (K.take i2) 2)).flatMap itCell) :: blk bk17 (.cells #[.slice pp124 L0.length cc125, .slice pp231 L1.length cc232, .slice pp285 ((QD (K.take i2) 2).length + 1) cc286, .slice none 0 0] 22 (0, 0)) :: imi (0 < K.length) gA241 (.cells kA243 eA244 zA245) :: Row 32 6 (.slice pp231 L1.length cc232) L1.length (L1.flatMap itCell) :: Row 32 6 (.slice pp124 L0.length cc125) L0.length (L0.flatMap itCell) :: Ag :: itsA K :: Ao :: Im 6 (.slice pp1 l.length cc2) l.length (l.flatMap itCell) :: F)) ?_ ?_
                    · rintro ⟨bk278, pp285, cc286⟩ ρ281 w279 H280
                      change Ends _ _ (upds ρ281 [(0, .slice pp1 l.length cc2), (1, .slice pp5 od.length cc6), (4, .bool false), (5, .pointer (some ⟨bk12, 0, none⟩)), (6, .slice (some ⟨bk17, 0, none⟩) 4 4), (7, .slice q2 ((w2 ++ (QD (K.take i2) 2)).length) d2), (25, .int .i64 4), (26, .int .i64 2), (8, .int .i64 2), (33, .slice pp1 (min l.length 40) cc2), (34, .int .i64 (min l.length 40 : Int)), (35, .int .i64 (i2 : Int)), (36, .bool true), (37, .pointer (some ⟨gA241, oA242 + i2 * 6, none⟩)), (38, .agg #[.int .i64 ((gdI K i2).op.v), .int .i64 ((gdI K i2).inp.v), .int .i64 ((gdI K i2).ep.v), .int .i64 ((gdI K i2).kind.v), .slice ((gdI K i2).p) ((gdI K i2).bs.length) ((gdI K i2).c), .int .i64 ((gdI K i2).t.v)]), (10, .pointer (some ⟨bk261, 0, none⟩)), (39, .pointer (some ⟨bk261, 2, none⟩)), (40, .int .i64 ((gdI K i2).ep.v)), (41, .int .i64 2), (42, .bool false), (43, .bool false), (44, .pointer (some ⟨bk261, 3, none⟩)), (45, .int .i64 ((gdI K i2).kind.v)), (46, .bool false), (47, .bool false), (48, .bool false), (49, .agg #[.int .i64 ((gdI K i2).op.v), .int .i64 ((gdI K i2).inp.v), .int .i64 ((gdI K i2).ep.v), .int .i64 ((gdI K i2).kind.v), .slice ((gdI K i2).p) ((gdI K i2).bs.length) ((gdI K i2).c), .int .i64 ((gdI K i2).t.v)]), (50, .int .i64 (itE (gdI K i2))), (51, .bool false), (52, .bool false), (53, .slice (some ⟨bk17, 0, none⟩) 4 4), (54, .int .i64 2), (55, .slice (some ⟨bk17, 0, none⟩) 4 4), (56, .int .i64 2), (57, .pointer (some ⟨bk17, 2, none⟩)), (58, .slice p2 ((QD (K.take i2) 2).length) c2), (59, .agg #[.int .i64 ((gdI K i2).op.v), .int .i64 ((gdI K i2).inp.v), .int .i64 ((gdI K i2).ep.v), .int .i64 ((gdI K i2).kind.v), .slice ((gdI K i2).p) ((gdI K i2).bs.length) ((gdI K i2).c), .int .i64 ((gdI K i2).t.v)]), (60, .slice (some ⟨bk278, 0, none⟩) 1 1), (61, .slice pp285 ((QD (K.take i2) 2).length + 1) cc286), (62, .pointer (some ⟨bk17, 2, none⟩))]) w279
                      refine g_region ?_
                      refine r_cons (s_move (.slice q2 ((w2 ++ (QD (K.take i2) 2)).length) d2) rfl rfl ?_)
                      refine r_cons (s_loadAgg [.int .i64 ((gdI K i2).op.v), .int .i64 ((gdI K i2).inp.v), .int .i64 ((gdI K i2).ep.v), .int .i64 ((gdI K i2).kind.v), .slice ((gdI K i2).p) ((gdI K i2).bs.length) ((gdI K i2).c), .int .i64 ((gdI K i2).t.v)] 6 ag_32 rfl (H280.blk_at (i := 1) rfl) (Nat.le_of_ble_eq_true rfl) rfl rfl ?_)
                      refine r_cons (s_buildSlice H280 6 1 (cs := #[.int .i64 ((gdI K i2).op.v), .int .i64 ((gdI K i2).inp.v), .int .i64 ((gdI K i2).ep.v), .int .i64 ((gdI K i2).kind.v), .slice ((gdI K i2).p) ((gdI K i2).bs.length) ((gdI K i2).c), .int .i64 ((gdI K i2).t.v)]) #[.int .i64 0, .int .i64 0, .int .i64 0, .int .i64 0, .slice none 0 0, .int .i64 0] el_22 ze_32 (by decide) (by decide) (by kernel_rfl) rfl ?_); intro bk282 w283 H284
                      refine r_cons (s_append H284 4 rfl rfl rfl (rd_blk (H284.blk_at (i := 0) rfl) rfl (Nat.le_of_ble_eq_true rfl) (by simp [Value.oneCell'])) ap_22 (by decide) (by unfold maxLen; omega) (by omega) (n' := (w2 ++ (QD (K.take i2) 2)).length + 1) (xs' := (w2 ++ (QD (K.take i2) 2)).flatMap itCell ++ ([.int .i64 ((gdI K i2).op.v), .int .i64 ((gdI K i2).inp.v), .int .i64 ((gdI K i2).ep.v), .int .i64 ((gdI K i2).kind.v), .slice ((gdI K i2).p) ((gdI K i2).bs.length) ((gdI K i2).c), .int .i64 ((gdI K i2).t.v)] : List Value)) (by omega) (by first | rfl | simp) rfl ?_); intro vv285 w286 H287 hn288
                      obtain ⟨pp289, cc290, rfl⟩ := Row.slice H287 (i := 4) rfl
                      refine r_cons (s_assign (.slice pp289 ((w2 ++ (QD (K.take i2) 2)).length + 1) cc290) rfl rfl ?_)
                      refine r_nil ?_
                      refine g_inBlock ?_
                      refine g_region ?_
                      refine r_cons (s_add ((i2 : Int) + 1) rfl rfl (wi64 (by omega)) rfl ?_)
                      refine r_cons (s_move (.int .i64 ((i2 : Int) + 1)) rfl rfl ?_)
                      refine r_nil ?_
                      have hq := QD_yes (L := K) (k := 2) (i := i2) (by omega) (okk_4 (k := 2) (by simpa using hc268) hc269 hc274)
                      have hq1 : (QD (K.take (i2 + 1)) 2).length = (QD (K.take i2) 2).length + 1 := by rw [hq]; simp
                      have hq2 : (QD (K.take (i2 + 1)) 2).flatMap itCell = (QD (K.take i2) 2).flatMap itCell ++ itCell (gdI K i2) := by rw [hq]; simp
                      have hq3 : (w2 ++ (QD (K.take (i2 + 1)) 2)).length = (w2 ++ (QD (K.take i2) 2)).length + 1 := by rw [hq]; simp; omega
                      have hq4 : (w2 ++ (QD (K.take (i2 + 1)) 2)).flatMap itCell = (w2 ++ (QD (K.take i2) 2)).flatMap itCell ++ itCell (gdI K i2) := by rw [hq]; simp
                      have H291 : St W w286 (blk bk282 (.cells #[.int .i64 ((gdI K i2).op.v), .int .i64 ((gdI K i2).inp.v), .int .i64 ((gdI K i2).ep.v), .int .i64 ((gdI K i2).kind.v), .slice ((gdI K i2).p) ((gdI K i2).bs.length) ((gdI K i2).c), .int .i64 ((gdI K i2).t.v)] 32 (0, 0)) :: blk bk278 (.cells #[.int .i64 ((gdI K i2).op.v), .int .i64 ((gdI K i2).inp.v), .int .i64 ((gdI K i2).ep.v), .int .i64 ((gdI K i2).kind.v), .slice ((gdI K i2).p) ((gdI K i2).bs.length) ((gdI K i2).c), .int .i64 ((gdI K i2).t.v)] 32 (0, 0)) :: blk bk261 (.cells #[.int .i64 ((gdI K i2).op.v), .int .i64 ((gdI K i2).inp.v), .int .i64 ((gdI K i2).ep.v), .int .i64 ((gdI K i2).kind.v), .slice ((gdI K i2).p) ((gdI K i2).bs.length) ((gdI K i2).c), .int .i64 ((gdI K i2).t.v)] 32 (0, 0)) :: Row 32 6 (.slice pp285 ((QD (K.take (i2 + 1)) 2).length) cc286) ((QD (K.take (i2 + 1)) 2).length) ((QD (K.take (i2 + 1)) 2).flatMap itCell) :: Row 32 6 (.slice pp289 ((w2 ++ (QD (K.take (i2 + 1)) 2)).length) cc290) ((w2 ++ (QD (K.take (i2 + 1)) 2)).length) ((w2 ++ (QD (K.take (i2 + 1)) 2)).flatMap itCell) :: blk bk17 (.cells #[.slice pp124 L0.length cc125, .slice pp231 L1.length cc232, .slice pp285 ((QD (K.take (i2 + 1)) 2).length) cc286, .slice none 0 0] 22 (0, 0)) :: imi (0 < K.length) gA241 (.cells kA243 eA244 zA245) :: Row 32 6 (.slice pp231 L1.length cc232) L1.length (L1.flatMap itCell) :: Row 32 6 (.slice pp124 L0.length cc125) L0.length (L0.flatMap itCell) :: Ag :: itsA K :: Ao :: Im 6 (.slice pp1 l.length cc2) l.length (l.flatMap itCell) :: F) := by rw [hq1, hq2, hq3, hq4]; exact H287
                      have H292 : St W w286 (Row 32 6 (.slice pp285 ((QD (K.take (i2 + 1)) 2).length) cc286) ((QD (K.take (i2 + 1)) 2).length) ((QD (K.take (i2 + 1)) 2).flatMap itCell) :: Row 32 6 (.slice pp289 ((w2 ++ (QD (K.take (i2 + 1)) 2)).length) cc290) ((w2 ++ (QD (K.take (i2 + 1)) 2)).length) ((w2 ++ (QD (K.take (i2 + 1)) 2)).flatMap itCell) :: blk bk17 (.cells #[.slice pp124 L0.length cc125, .slice pp231 L1.length cc232, .slice pp285 ((QD (K.take (i2 + 1)) 2).length) cc286, .slice none 0 0] 22 (0, 0)) :: imi (0 < K.length) gA241 (.cells kA243 eA244 zA245) :: Row 32 6 (.slice pp231 L1.length cc232) L1.length (L1.flatMap itCell) :: Row 32 6 (.slice pp124 L0.length cc125) L0.length (L0.flatMap itCell) :: Ag :: itsA K :: Ao :: Im 6 (.slice pp1 l.length cc2) l.length (l.flatMap itCell) :: F) := (((((((((((((H291.move 12 rfl).move 12 rfl).move 12 rfl).move 12 rfl).move 12 rfl).move 12 rfl).move 12 rfl).move 12 rfl).move 12 rfl).move 12 rfl).drop 10 rfl).drop 10 rfl).drop 10 rfl)
                      exact nx259 (i2 + 1, pp285, cc286, pp289, cc290) _ _ ⟨(by omega), H292⟩ (by first | (dsimp only; omega) | omega) ⟨by first | rfl | exact vint (by omega), by first | rfl | exact vint (by omega), by first | rfl | exact vint (by omega), by first | rfl | exact vint (by omega), by first | rfl | exact vint (by omega), by rw [hq3]; rfl, by first | rfl | exact vint (by omega), by first | rfl | exact vint (by omega), by first | rfl | exact vint (by omega), by first | rfl | exact vint (by omega), by first | rfl | exact vint (by omega), by first | rfl | exact vint (by omega), trivial⟩
                    · intro join278
                      refine g_any mixed 11 rfl ?_
                      intro w293 hw294
                      have H295 := H277.drew
                      rw [← hw294] at H295
                      clear hw294
                      refine a_take 0 (listed' := #[true, false, false, false, false, false, false, false, false, false, false]) rfl (by kernel_rfl) (by kernel_rfl) (by kernel_rfl) rfl rfl rfl rfl (fun w => x_move (.slice (some ⟨bk17, 0, none⟩) 4 4) rfl w) ?_
                      refine a_take 1 (listed' := #[true, true, false, false, false, false, false, false, false, false, false]) rfl (by kernel_rfl) (by kernel_rfl) (by kernel_rfl) rfl rfl rfl rfl (fun w => x_move (.int .i64 2) rfl w) ?_
                      refine a_take 2 (listed' := #[true, true, true, false, false, false, false, false, false, false, false]) rfl (by kernel_rfl) (by kernel_rfl) (by kernel_rfl) rfl rfl rfl rfl (fun w => x_move (.slice (some ⟨bk17, 0, none⟩) 4 4) rfl w) ?_
                      refine a_take 3 (listed' := #[true, true, true, true, false, false, false, false, false, false, false]) rfl (by kernel_rfl) (by kernel_rfl) (by kernel_rfl) rfl rfl rfl rfl (fun w => x_move (.int .i64 2) rfl w) ?_
                      refine a_take 4 (listed' := #[true, true, true, true, true, false, false, false, false, false, false]) rfl (by kernel_rfl) (by kernel_rfl) (by kernel_rfl) rfl rfl rfl rfl (fun w => x_indexAddr bk17 2 1 2 rfl rfl el_27 (by omega) rfl w) ?_
                      refine a_all (rs := [5, 6]) (by kernel_rfl) (by simp) ?_
                      refine a_cons ⟨_, rfl, ?_⟩ (a_cons ⟨_, rfl, ?_⟩ (fun x hx => absurd hx (by simp)))
                      · skip
                        refine s_load (.slice p2 ((QD (K.take i2) 2).length) c2) ag_22 rfl (H295.blk_at (i := 3) rfl) rfl rfl ?_
                        change AnyG _ _ _ _ #[true, true, true, true, true, true, false, false, false, false, false] _ _
                        refine a_all (rs := [6]) (by kernel_rfl) (by simp) ?_
                        refine a_cons ⟨_, rfl, ?_⟩ (fun x hx => absurd hx (by simp))
                        refine s_loadAgg [.int .i64 ((gdI K i2).op.v), .int .i64 ((gdI K i2).inp.v), .int .i64 ((gdI K i2).ep.v), .int .i64 ((gdI K i2).kind.v), .slice ((gdI K i2).p) ((gdI K i2).bs.length) ((gdI K i2).c), .int .i64 ((gdI K i2).t.v)] 6 ag_32 rfl (H295.blk_at (i := 0) rfl) (Nat.le_of_ble_eq_true rfl) rfl rfl ?_
                        change AnyG _ _ _ _ #[true, true, true, true, true, true, true, false, false, false, false] _ _
                        refine a_all (rs := [7]) (by kernel_rfl) (by simp) ?_
                        refine a_cons ⟨_, rfl, ?_⟩ (fun x hx => absurd hx (by simp))
                        refine s_buildSlice H295 6 1 (cs := #[.int .i64 ((gdI K i2).op.v), .int .i64 ((gdI K i2).inp.v), .int .i64 ((gdI K i2).ep.v), .int .i64 ((gdI K i2).kind.v), .slice ((gdI K i2).p) ((gdI K i2).bs.length) ((gdI K i2).c), .int .i64 ((gdI K i2).t.v)]) #[.int .i64 0, .int .i64 0, .int .i64 0, .int .i64 0, .slice none 0 0, .int .i64 0] el_22 ze_32 (by decide) (by decide) (by kernel_rfl) rfl ?_; intro bk296 w297 H298
                        change AnyG _ _ _ _ #[true, true, true, true, true, true, true, true, false, false, false] _ _
                        refine a_all (rs := [8]) (by kernel_rfl) (by simp) ?_
                        refine a_cons ⟨_, rfl, ?_⟩ (fun x hx => absurd hx (by simp))
                        refine s_append H298 2 rfl rfl rfl (rd_blk (H298.blk_at (i := 0) rfl) rfl (Nat.le_of_ble_eq_true rfl) (by simp [Value.oneCell'])) ap_22 (by decide) (by unfold maxLen; omega) (by omega) (n' := (QD (K.take i2) 2).length + 1) (xs' := (QD (K.take i2) 2).flatMap itCell ++ ([.int .i64 ((gdI K i2).op.v), .int .i64 ((gdI K i2).inp.v), .int .i64 ((gdI K i2).ep.v), .int .i64 ((gdI K i2).kind.v), .slice ((gdI K i2).p) ((gdI K i2).bs.length) ((gdI K i2).c), .int .i64 ((gdI K i2).t.v)] : List Value)) (by omega) (by first | rfl | simp) rfl ?_; intro vv299 w300 H301 hn302
                        obtain ⟨pp303, cc304, rfl⟩ := Row.slice H301 (i := 2) rfl
                        change AnyG _ _ _ _ #[true, true, true, true, true, true, true, true, true, false, false] _ _
                        refine a_take 9 (listed' := #[true, true, true, true, true, true, true, true, true, true, false]) rfl (by kernel_rfl) (by kernel_rfl) (by kernel_rfl) rfl rfl rfl rfl (fun w => x_indexAddr bk17 2 1 2 rfl rfl el_27 (by omega) rfl w) ?_
                        refine a_all (rs := [10]) (by kernel_rfl) (by simp) ?_
                        refine a_cons ⟨_, rfl, ?_⟩ (fun x hx => absurd hx (by simp))
                        refine s_store H301 4 (.slice pp303 ((QD (K.take i2) 2).length + 1) cc304) rfl rfl rfl sz_22 rfl (Nat.le_of_ble_eq_true rfl) rfl (cs' := #[.slice pp124 L0.length cc125, .slice pp231 L1.length cc232, .slice pp303 ((QD (K.take i2) 2).length + 1) cc304, .slice none 0 0]) rfl ?_; intro w305 H306
                        change AnyG _ _ _ _ #[true, true, true, true, true, true, true, true, true, true, true] _ _
                        refine a_done (by kernel_rfl) ?_
                        exact join278 (bk296, pp303, cc304) _ _ H306 ⟨rfl, rfl, rfl, rfl, rfl, rfl, rfl, rfl, rfl, rfl, rfl, rfl, rfl, rfl, rfl, rfl, rfl, rfl, rfl, rfl, rfl, rfl, rfl, rfl, rfl, rfl, rfl, rfl, rfl, rfl, rfl, rfl, rfl, rfl, rfl, rfl, rfl, rfl, rfl, rfl, trivial⟩
                      · skip
                        refine s_loadAgg [.int .i64 ((gdI K i2).op.v), .int .i64 ((gdI K i2).inp.v), .int .i64 ((gdI K i2).ep.v), .int .i64 ((gdI K i2).kind.v), .slice ((gdI K i2).p) ((gdI K i2).bs.length) ((gdI K i2).c), .int .i64 ((gdI K i2).t.v)] 6 ag_32 rfl (H295.blk_at (i := 0) rfl) (Nat.le_of_ble_eq_true rfl) rfl rfl ?_
                        change AnyG _ _ _ _ #[true, true, true, true, true, false, true, false, false, false, false] _ _
                        refine a_all (rs := [5, 7]) (by kernel_rfl) (by simp) ?_
                        refine a_cons ⟨_, rfl, ?_⟩ (a_cons ⟨_, rfl, ?_⟩ (fun x hx => absurd hx (by simp)))
                        · skip
                          refine s_load (.slice p2 ((QD (K.take i2) 2).length) c2) ag_22 rfl (H295.blk_at (i := 3) rfl) rfl rfl ?_
                          change AnyG _ _ _ _ #[true, true, true, true, true, true, true, false, false, false, false] _ _
                          refine a_all (rs := [7]) (by kernel_rfl) (by simp) ?_
                          refine a_cons ⟨_, rfl, ?_⟩ (fun x hx => absurd hx (by simp))
                          refine s_buildSlice H295 6 1 (cs := #[.int .i64 ((gdI K i2).op.v), .int .i64 ((gdI K i2).inp.v), .int .i64 ((gdI K i2).ep.v), .int .i64 ((gdI K i2).kind.v), .slice ((gdI K i2).p) ((gdI K i2).bs.length) ((gdI K i2).c), .int .i64 ((gdI K i2).t.v)]) #[.int .i64 0, .int .i64 0, .int .i64 0, .int .i64 0, .slice none 0 0, .int .i64 0] el_22 ze_32 (by decide) (by decide) (by kernel_rfl) rfl ?_; intro bk307 w308 H309
                          change AnyG _ _ _ _ #[true, true, true, true, true, true, true, true, false, false, false] _ _
                          refine a_all (rs := [8]) (by kernel_rfl) (by simp) ?_
                          refine a_cons ⟨_, rfl, ?_⟩ (fun x hx => absurd hx (by simp))
                          refine s_append H309 2 rfl rfl rfl (rd_blk (H309.blk_at (i := 0) rfl) rfl (Nat.le_of_ble_eq_true rfl) (by simp [Value.oneCell'])) ap_22 (by decide) (by unfold maxLen; omega) (by omega) (n' := (QD (K.take i2) 2).length + 1) (xs' := (QD (K.take i2) 2).flatMap itCell ++ ([.int .i64 ((gdI K i2).op.v), .int .i64 ((gdI K i2).inp.v), .int .i64 ((gdI K i2).ep.v), .int .i64 ((gdI K i2).kind.v), .slice ((gdI K i2).p) ((gdI K i2).bs.length) ((gdI K i2).c), .int .i64 ((gdI K i2).t.v)] : List Value)) (by omega) (by first | rfl | simp) rfl ?_; intro vv310 w311 H312 hn313
                          obtain ⟨pp314, cc315, rfl⟩ := Row.slice H312 (i := 2) rfl
                          change AnyG _ _ _ _ #[true, true, true, true, true, true, true, true, true, false, false] _ _
                          refine a_take 9 (listed' := #[true, true, true, true, true, true, true, true, true, true, false]) rfl (by kernel_rfl) (by kernel_rfl) (by kernel_rfl) rfl rfl rfl rfl (fun w => x_indexAddr bk17 2 1 2 rfl rfl el_27 (by omega) rfl w) ?_
                          refine a_all (rs := [10]) (by kernel_rfl) (by simp) ?_
                          refine a_cons ⟨_, rfl, ?_⟩ (fun x hx => absurd hx (by simp))
                          refine s_store H312 4 (.slice pp314 ((QD (K.take i2) 2).length + 1) cc315) rfl rfl rfl sz_22 rfl (Nat.le_of_ble_eq_true rfl) rfl (cs' := #[.slice pp124 L0.length cc125, .slice pp231 L1.length cc232, .slice pp314 ((QD (K.take i2) 2).length + 1) cc315, .slice none 0 0]) rfl ?_; intro w316 H317
                          change AnyG _ _ _ _ #[true, true, true, true, true, true, true, true, true, true, true] _ _
                          refine a_done (by kernel_rfl) ?_
                          exact join278 (bk307, pp314, cc315) _ _ H317 ⟨rfl, rfl, rfl, rfl, rfl, rfl, rfl, rfl, rfl, rfl, rfl, rfl, rfl, rfl, rfl, rfl, rfl, rfl, rfl, rfl, rfl, rfl, rfl, rfl, rfl, rfl, rfl, rfl, rfl, rfl, rfl, rfl, rfl, rfl, rfl, rfl, rfl, rfl, rfl, rfl, trivial⟩
                        · skip
                          refine s_buildSlice H295 6 1 (cs := #[.int .i64 ((gdI K i2).op.v), .int .i64 ((gdI K i2).inp.v), .int .i64 ((gdI K i2).ep.v), .int .i64 ((gdI K i2).kind.v), .slice ((gdI K i2).p) ((gdI K i2).bs.length) ((gdI K i2).c), .int .i64 ((gdI K i2).t.v)]) #[.int .i64 0, .int .i64 0, .int .i64 0, .int .i64 0, .slice none 0 0, .int .i64 0] el_22 ze_32 (by decide) (by decide) (by kernel_rfl) rfl ?_; intro bk318 w319 H320
                          change AnyG _ _ _ _ #[true, true, true, true, true, false, true, true, false, false, false] _ _
                          refine a_all (rs := [5]) (by kernel_rfl) (by simp) ?_
                          refine a_cons ⟨_, rfl, ?_⟩ (fun x hx => absurd hx (by simp))
                          refine s_load (.slice p2 ((QD (K.take i2) 2).length) c2) ag_22 rfl (H320.blk_at (i := 4) rfl) rfl rfl ?_
                          change AnyG _ _ _ _ #[true, true, true, true, true, true, true, true, false, false, false] _ _
                          refine a_all (rs := [8]) (by kernel_rfl) (by simp) ?_
                          refine a_cons ⟨_, rfl, ?_⟩ (fun x hx => absurd hx (by simp))
                          refine s_append H320 2 rfl rfl rfl (rd_blk (H320.blk_at (i := 0) rfl) rfl (Nat.le_of_ble_eq_true rfl) (by simp [Value.oneCell'])) ap_22 (by decide) (by unfold maxLen; omega) (by omega) (n' := (QD (K.take i2) 2).length + 1) (xs' := (QD (K.take i2) 2).flatMap itCell ++ ([.int .i64 ((gdI K i2).op.v), .int .i64 ((gdI K i2).inp.v), .int .i64 ((gdI K i2).ep.v), .int .i64 ((gdI K i2).kind.v), .slice ((gdI K i2).p) ((gdI K i2).bs.length) ((gdI K i2).c), .int .i64 ((gdI K i2).t.v)] : List Value)) (by omega) (by first | rfl | simp) rfl ?_; intro vv321 w322 H323 hn324
                          obtain ⟨pp325, cc326, rfl⟩ := Row.slice H323 (i := 2) rfl
                          change AnyG _ _ _ _ #[true, true, true, true, true, true, true, true, true, false, false] _ _
                          refine a_take 9 (listed' := #[true, true, true, true, true, true, true, true, true, true, false]) rfl (by kernel_rfl) (by kernel_rfl) (by kernel_rfl) rfl rfl rfl rfl (fun w => x_indexAddr bk17 2 1 2 rfl rfl el_27 (by omega) rfl w) ?_
                          refine a_all (rs := [10]) (by kernel_rfl) (by simp) ?_
                          refine a_cons ⟨_, rfl, ?_⟩ (fun x hx => absurd hx (by simp))
                          refine s_store H323 4 (.slice pp325 ((QD (K.take i2) 2).length + 1) cc326) rfl rfl rfl sz_22 rfl (Nat.le_of_ble_eq_true rfl) rfl (cs' := #[.slice pp124 L0.length cc125, .slice pp231 L1.length cc232, .slice pp325 ((QD (K.take i2) 2).length + 1) cc326, .slice none 0 0]) rfl ?_; intro w327 H328
                          change AnyG _ _ _ _ #[true, true, true, true, true, true, true, true, true, true, true] _ _
                          refine a_done (by kernel_rfl) ?_
                          exact join278 (bk318, pp325, cc326) _ _ H328 ⟨rfl, rfl, rfl, rfl, rfl, rfl, rfl, rfl, rfl, rfl, rfl, rfl, rfl, rfl, rfl, rfl, rfl, rfl, rfl, rfl, rfl, rfl, rfl, rfl, rfl, rfl, rfl, rfl, rfl, rfl, rfl, rfl, rfl, rfl, rfl, rfl, rfl, rfl, rfl, rfl, trivial⟩
                  · skip
                    refine s_neq true rfl rfl (nfalse hc274) rfl ?_
                    refine r_cons (s_pick_f (.bool true) rfl rfl rfl ?_)
                    refine r_nil ?_
                    refine g_true rfl ?_
                    refine g_exit (by rfl) ?_
                    refine g_region ?_
                    refine r_cons (s_add ((i2 : Int) + 1) rfl rfl (wi64 (by omega)) rfl ?_)
                    refine r_cons (s_move (.int .i64 ((i2 : Int) + 1)) rfl rfl ?_)
                    refine r_nil ?_
                    have hq := QD_no (L := K) (k := 2) (i := i2) (by omega) (okk_3 hc274)
                    have H329 : St W w272 (Im 6 (.slice ((gdI K i2).p) ((gdI K i2).bs.length) ((gdI K i2).c)) ((gdI K i2).bs.length) ((gdI K i2).bs.flatMap bndCell) :: bndsA ((gdI K i2).bs) :: blk bk261 (.cells #[.int .i64 ((gdI K i2).op.v), .int .i64 ((gdI K i2).inp.v), .int .i64 ((gdI K i2).ep.v), .int .i64 ((gdI K i2).kind.v), .slice ((gdI K i2).p) ((gdI K i2).bs.length) ((gdI K i2).c), .int .i64 ((gdI K i2).t.v)] 32 (0, 0)) :: Row 32 6 (.slice p2 ((QD (K.take (i2 + 1)) 2).length) c2) ((QD (K.take (i2 + 1)) 2).length) ((QD (K.take (i2 + 1)) 2).flatMap itCell) :: Row 32 6 (.slice q2 ((w2 ++ (QD (K.take (i2 + 1)) 2)).length) d2) ((w2 ++ (QD (K.take (i2 + 1)) 2)).length) ((w2 ++ (QD (K.take (i2 + 1)) 2)).flatMap itCell) :: blk bk17 (.cells #[.slice pp124 L0.length cc125, .slice pp231 L1.length cc232, .slice p2 ((QD (K.take (i2 + 1)) 2).length) c2, .slice none 0 0] 22 (0, 0)) :: imi (0 < K.length) gA241 (.cells kA243 eA244 zA245) :: Row 32 6 (.slice pp231 L1.length cc232) L1.length (L1.flatMap itCell) :: Row 32 6 (.slice pp124 L0.length cc125) L0.length (L0.flatMap itCell) :: Ag :: itsA K :: Ao :: Im 6 (.slice pp1 l.length cc2) l.length (l.flatMap itCell) :: F) := by rw [hq]; exact H273
                    have H330 : St W w272 (Row 32 6 (.slice p2 ((QD (K.take (i2 + 1)) 2).length) c2) ((QD (K.take (i2 + 1)) 2).length) ((QD (K.take (i2 + 1)) 2).flatMap itCell) :: Row 32 6 (.slice q2 ((w2 ++ (QD (K.take (i2 + 1)) 2)).length) d2) ((w2 ++ (QD (K.take (i2 + 1)) 2)).length) ((w2 ++ (QD (K.take (i2 + 1)) 2)).flatMap itCell) :: blk bk17 (.cells #[.slice pp124 L0.length cc125, .slice pp231 L1.length cc232, .slice p2 ((QD (K.take (i2 + 1)) 2).length) c2, .slice none 0 0] 22 (0, 0)) :: imi (0 < K.length) gA241 (.cells kA243 eA244 zA245) :: Row 32 6 (.slice pp231 L1.length cc232) L1.length (L1.flatMap itCell) :: Row 32 6 (.slice pp124 L0.length cc125) L0.length (L0.flatMap itCell) :: Ag :: itsA K :: Ao :: Im 6 (.slice pp1 l.length cc2) l.length (l.flatMap itCell) :: F) := (((((((((((((H329.move 12 rfl).move 12 rfl).move 12 rfl).move 12 rfl).move 12 rfl).move 12 rfl).move 12 rfl).move 12 rfl).move 12 rfl).move 12 rfl).drop 10 rfl).drop 10 rfl).drop 10 rfl)
                    exact nx259 (i2 + 1, p2, c2, q2, d2) _ _ ⟨(by omega), H330⟩ (by first | (dsimp only; omega) | omega) ⟨by first | rfl | exact vint (by omega), by first | rfl | exact vint (by omega), by first | rfl | exact vint (by omega), by first | rfl | exact vint (by omega), by first | rfl | exact vint (by omega), by rw [hq]; rfl, by first | rfl | exact vint (by omega), by first | rfl | exact vint (by omega), by first | rfl | exact vint (by omega), by first | rfl | exact vint (by omega), by first | rfl | exact vint (by omega), by first | rfl | exact vint (by omega), trivial⟩
              · skip
                refine r_cons (s_neq true rfl rfl (nfalse hc268) rfl ?_)
                refine r_cons (s_move (.bool true) rfl rfl ?_)
                refine r_cons (r_pass rfl rfl rfl rfl rfl ?_)
                refine r_cons (r_pass rfl rfl rfl rfl rfl ?_)
                refine r_cons (r_pass rfl rfl rfl rfl rfl ?_)
                refine r_cons (s_pick_t (.bool true) rfl rfl rfl ?_)
                refine r_cons (s_move (.bool true) rfl rfl ?_)
                refine r_cons (r_pass rfl rfl rfl rfl rfl ?_)
                refine r_cons (r_pass rfl rfl rfl rfl rfl ?_)
                refine r_cons (r_pass rfl rfl rfl rfl rfl ?_)
                refine r_cons (s_pick_t (.bool true) rfl rfl rfl ?_)
                refine r_nil ?_
                refine g_true rfl ?_
                refine g_exit (by rfl) ?_
                refine g_region ?_
                refine r_cons (s_add ((i2 : Int) + 1) rfl rfl (wi64 (by omega)) rfl ?_)
                refine r_cons (s_move (.int .i64 ((i2 : Int) + 1)) rfl rfl ?_)
                refine r_nil ?_
                have hq := QD_no (L := K) (k := 2) (i := i2) (by omega) (okk_1 (k := 2) (by simpa using hc268))
                have H331 : St W w264 (Im 6 (.slice ((gdI K i2).p) ((gdI K i2).bs.length) ((gdI K i2).c)) ((gdI K i2).bs.length) ((gdI K i2).bs.flatMap bndCell) :: bndsA ((gdI K i2).bs) :: blk bk261 (.cells #[.int .i64 ((gdI K i2).op.v), .int .i64 ((gdI K i2).inp.v), .int .i64 ((gdI K i2).ep.v), .int .i64 ((gdI K i2).kind.v), .slice ((gdI K i2).p) ((gdI K i2).bs.length) ((gdI K i2).c), .int .i64 ((gdI K i2).t.v)] 32 (0, 0)) :: Row 32 6 (.slice p2 ((QD (K.take (i2 + 1)) 2).length) c2) ((QD (K.take (i2 + 1)) 2).length) ((QD (K.take (i2 + 1)) 2).flatMap itCell) :: Row 32 6 (.slice q2 ((w2 ++ (QD (K.take (i2 + 1)) 2)).length) d2) ((w2 ++ (QD (K.take (i2 + 1)) 2)).length) ((w2 ++ (QD (K.take (i2 + 1)) 2)).flatMap itCell) :: blk bk17 (.cells #[.slice pp124 L0.length cc125, .slice pp231 L1.length cc232, .slice p2 ((QD (K.take (i2 + 1)) 2).length) c2, .slice none 0 0] 22 (0, 0)) :: imi (0 < K.length) gA241 (.cells kA243 eA244 zA245) :: Row 32 6 (.slice pp231 L1.length cc232) L1.length (L1.flatMap itCell) :: Row 32 6 (.slice pp124 L0.length cc125) L0.length (L0.flatMap itCell) :: Ag :: itsA K :: Ao :: Im 6 (.slice pp1 l.length cc2) l.length (l.flatMap itCell) :: F) := by rw [hq]; exact H267
                have H332 : St W w264 (Row 32 6 (.slice p2 ((QD (K.take (i2 + 1)) 2).length) c2) ((QD (K.take (i2 + 1)) 2).length) ((QD (K.take (i2 + 1)) 2).flatMap itCell) :: Row 32 6 (.slice q2 ((w2 ++ (QD (K.take (i2 + 1)) 2)).length) d2) ((w2 ++ (QD (K.take (i2 + 1)) 2)).length) ((w2 ++ (QD (K.take (i2 + 1)) 2)).flatMap itCell) :: blk bk17 (.cells #[.slice pp124 L0.length cc125, .slice pp231 L1.length cc232, .slice p2 ((QD (K.take (i2 + 1)) 2).length) c2, .slice none 0 0] 22 (0, 0)) :: imi (0 < K.length) gA241 (.cells kA243 eA244 zA245) :: Row 32 6 (.slice pp231 L1.length cc232) L1.length (L1.flatMap itCell) :: Row 32 6 (.slice pp124 L0.length cc125) L0.length (L0.flatMap itCell) :: Ag :: itsA K :: Ao :: Im 6 (.slice pp1 l.length cc2) l.length (l.flatMap itCell) :: F) := (((((((((((((H331.move 12 rfl).move 12 rfl).move 12 rfl).move 12 rfl).move 12 rfl).move 12 rfl).move 12 rfl).move 12 rfl).move 12 rfl).move 12 rfl).drop 10 rfl).drop 10 rfl).drop 10 rfl)
                exact nx259 (i2 + 1, p2, c2, q2, d2) _ _ ⟨(by omega), H332⟩ (by first | (dsimp only; omega) | omega) ⟨by first | rfl | exact vint (by omega), by first | rfl | exact vint (by omega), by first | rfl | exact vint (by omega), by first | rfl | exact vint (by omega), by first | rfl | exact vint (by omega), by rw [hq]; rfl, by first | rfl | exact vint (by omega), by first | rfl | exact vint (by omega), by first | rfl | exact vint (by omega), by first | rfl | exact vint (by omega), by first | rfl | exact vint (by omega), by first | rfl | exact vint (by omega), trivial⟩
            · skip
              refine r_cons (s_lss false rfl rfl (dfalse hc260) rfl ?_)
              refine r_nil ?_
              refine g_seq ?_
              refine g_false rfl ?_
              refine g_exit (by rfl) ?_
              refine g_region ?_
              refine r_cons (s_move (.slice (some ⟨bk17, 0, none⟩) 4 4) rfl rfl ?_)
              refine r_cons (s_move (.int .i64 2) rfl rfl ?_)
              refine r_cons (s_move (.slice (some ⟨bk17, 0, none⟩) 4 4) rfl rfl ?_)
              refine r_cons (s_move (.int .i64 2) rfl rfl ?_)
              refine r_cons (s_indexAddr bk17 2 1 2 rfl rfl el_27 (by omega) rfl rfl ?_)
              refine r_cons (s_load (.slice p2 ((QD (K.take i2) 2).length) c2) ag_22 rfl (H258.blk_at (i := 2) rfl) rfl rfl ?_)
              refine r_cons (s_move (.int .i64 2) rfl rfl ?_)
              refine r_cons (s_build (cs := #[.int .i64 0, .int .i64 0, .int .i64 2, .int .i64 3, .slice none 0 0, .int .i64 0]) (by kernel_rfl) rfl ?_)
              refine r_cons (s_buildSlice H258 6 1 (cs := #[.int .i64 0, .int .i64 0, .int .i64 2, .int .i64 3, .slice none 0 0, .int .i64 0]) #[.int .i64 0, .int .i64 0, .int .i64 0, .int .i64 0, .slice none 0 0, .int .i64 0] el_22 ze_32 (by decide) (by decide) (by kernel_rfl) rfl ?_); intro bk333 w334 H335
              refine r_cons (s_append H335 1 rfl rfl rfl (rd_blk (H335.blk_at (i := 0) rfl) rfl (Nat.le_of_ble_eq_true rfl) (by simp [Value.oneCell'])) ap_22 (by decide) (by unfold maxLen; omega) (by omega) (n' := (QD (K.take i2) 2).length + 1) (xs' := (QD (K.take i2) 2).flatMap itCell ++ ([.int .i64 0, .int .i64 0, .int .i64 2, .int .i64 3, .slice none 0 0, .int .i64 0] : List Value)) (by omega) (by first | rfl | simp) rfl ?_); intro vv336 w337 H338 hn339
              obtain ⟨pp340, cc341, rfl⟩ := Row.slice H338 (i := 1) rfl
              refine r_cons (s_indexAddr bk17 2 1 2 rfl rfl el_27 (by omega) rfl rfl ?_)
              refine r_cons (s_store H338 3 (.slice pp340 ((QD (K.take i2) 2).length + 1) cc341) rfl rfl rfl sz_22 rfl (Nat.le_of_ble_eq_true rfl) rfl (cs' := #[.slice pp124 L0.length cc125, .slice pp231 L1.length cc232, .slice pp340 ((QD (K.take i2) 2).length + 1) cc341, .slice none 0 0]) rfl ?_); intro w342 H343
              refine r_nil ?_
              refine g_inBlock ?_
              refine g_region ?_
              refine r_cons (s_add 3 rfl rfl (wi64 (by omega)) rfl ?_)
              refine r_cons (s_move (.int .i64 3) rfl rfl ?_)
              refine r_nil ?_
              refine g_inLoop ?_
              refine g_seq ?_
              refine g_region ?_
              refine r_cons (s_lss true rfl rfl (dtrue (by decide)) rfl ?_)
              refine r_nil ?_
              refine g_seq ?_
              refine g_true rfl ?_
              refine g_skip ?_
              refine g_seq ?_
              refine g_block ?_
              refine g_seq ?_
              refine g_region ?_
              refine r_cons (s_move (.int .i64 3) rfl rfl ?_)
              refine r_cons (s_assign (.int .i64 3) rfl rfl ?_)
              refine r_nil ?_
              refine g_seq ?_
              refine g_seq ?_
              refine g_region ?_
              refine r_cons (s_move (.slice pp1 l.length cc2) rfl rfl ?_)
              refine r_cons (s_move (.slice pp1 l.length cc2) rfl rfl ?_)
              refine r_cons (s_len l.length rfl ⟨_, un_22⟩ rfl ?_)
              refine r_cons (s_min2 ((min l.length 40 : Nat) : Int) rfl rfl (by omega) rfl ?_)
              have hc344 := Im.cap H343 (i := 10) rfl
              refine r_cons (s_slice_h pp1 ((min l.length 40 : Nat) : Int) 6 (.slice pp1 (min l.length 40) cc2) rfl rfl el_22 (by omega) (by first | rfl | (congr 1; omega)) rfl ?_)
              have H345 : St W w342 (Im 6 (.slice pp1 (min l.length 40) cc2) (min l.length 40) ((l.take (min l.length 40)).flatMap itCell) :: blk bk333 (.cells #[.int .i64 0, .int .i64 0, .int .i64 2, .int .i64 3, .slice none 0 0, .int .i64 0] 32 (0, 0)) :: Row 32 6 (.slice pp340 ((QD (K.take i2) 2).length + 1) cc341) ((QD (K.take i2) 2).length + 1) ((QD (K.take i2) 2).flatMap itCell ++ ([.int .i64 0, .int .i64 0, .int .i64 2, .int .i64 3, .slice none 0 0, .int .i64 0] : List Value)) :: Row 32 6 (.slice q2 ((w2 ++ (QD (K.take i2) 2)).length) d2) ((w2 ++ (QD (K.take i2) 2)).length) ((w2 ++ (QD (K.take i2) 2)).flatMap itCell) :: blk bk17 (.cells #[.slice pp124 L0.length cc125, .slice pp231 L1.length cc232, .slice pp340 ((QD (K.take i2) 2).length + 1) cc341, .slice none 0 0] 22 (0, 0)) :: imi (0 < K.length) gA241 (.cells kA243 eA244 zA245) :: Row 32 6 (.slice pp231 L1.length cc232) L1.length (L1.flatMap itCell) :: Row 32 6 (.slice pp124 L0.length cc125) L0.length (L0.flatMap itCell) :: Ag :: itsA K :: Ao :: Im 6 (.slice pp1 l.length cc2) l.length (l.flatMap itCell) :: F) := Im.cutN_h itCell_len (by decide) (min l.length 40) H343 (i := 10) rfl (by omega)
              refine r_cons (s_len (min l.length 40) rfl ⟨_, un_22⟩ rfl ?_)
              refine r_cons (s_move (.int .i64 0) rfl rfl ?_)
              refine r_nil ?_
              refine g_block ?_
              have H346 : St W w342 (Im 6 (.slice pp1 (min l.length 40) cc2) (min l.length 40) ((l.take (min l.length 40)).flatMap itCell) :: Row 32 6 (.slice pp340 ((QD (K.take i2) 2).length + 1) cc341) ((QD (K.take i2) 2).length + 1) ((QD (K.take i2) 2).flatMap itCell ++ ([.int .i64 0, .int .i64 0, .int .i64 2, .int .i64 3, .slice none 0 0, .int .i64 0] : List Value)) :: Row 32 6 (.slice q2 ((w2 ++ (QD (K.take i2) 2)).length) d2) ((w2 ++ (QD (K.take i2) 2)).length) ((w2 ++ (QD (K.take i2) 2)).flatMap itCell) :: blk bk17 (.cells #[.slice pp124 L0.length cc125, .slice pp231 L1.length cc232, .slice pp340 ((QD (K.take i2) 2).length + 1) cc341, .slice none 0 0] 22 (0, 0)) :: Row 32 6 (.slice pp231 L1.length cc232) L1.length (L1.flatMap itCell) :: Row 32 6 (.slice pp124 L0.length cc125) L0.length (L0.flatMap itCell) :: Ag :: itsA K :: Ao :: Im 6 (.slice pp1 l.length cc2) l.length (l.flatMap itCell) :: F) := ((((((((((((H345.move 11 rfl).move 11 rfl).move 11 rfl).move 11 rfl).move 11 rfl).move 11 rfl).move 10 rfl).move 10 rfl).move 10 rfl).move 9 rfl).drop 10 rfl).drop 10 rfl)
              have H347 : St W w342 (Im 6 (.slice pp1 K.length cc2) K.length (K.flatMap itCell) :: Row 32 6 (.slice pp340 ((QD (K.take i2) 2).length + 1) cc341) ((QD (K.take i2) 2).length + 1) ((QD (K.take i2) 2).flatMap itCell ++ ([.int .i64 0, .int .i64 0, .int .i64 2, .int .i64 3, .slice none 0 0, .int .i64 0] : List Value)) :: Row 32 6 (.slice q2 ((w2 ++ (QD (K.take i2) 2)).length) d2) ((w2 ++ (QD (K.take i2) 2)).length) ((w2 ++ (QD (K.take i2) 2)).flatMap itCell) :: blk bk17 (.cells #[.slice pp124 L0.length cc125, .slice pp231 L1.length cc232, .slice pp340 ((QD (K.take i2) 2).length + 1) cc341, .slice none 0 0] 22 (0, 0)) :: Row 32 6 (.slice pp231 L1.length cc232) L1.length (L1.flatMap itCell) :: Row 32 6 (.slice pp124 L0.length cc125) L0.length (L0.flatMap itCell) :: Ag :: itsA K :: Ao :: Im 6 (.slice pp1 l.length cc2) l.length (l.flatMap itCell) :: F) := by rw [hM, hKf]; exact H346
              obtain ⟨pA348, cA349, gA350, oA351, kA352, eA353, zA354, he360, hn355, hp356, hx357, hs358, hml, H359⟩ := Im.open_ H347 (i := 0) rfl
              obtain ⟨rfl, rfl⟩ : pp1 = pA348 ∧ cc2 = cA349 := by injection he360 with a_ b_ c_; exact ⟨a_, c_⟩
              obtain ⟨L2, hL2⟩ : ∃ L, L = (QD (K.take i2) 2) ++ [endD 2] := ⟨_, rfl⟩
              obtain ⟨w3, hw3⟩ : ∃ L, L = w2 ++ (QD (K.take i2) 2) := ⟨_, rfl⟩
              have hpn2 : L2.length = (QD (K.take i2) 2).length + 1 := by rw [hL2]; simp
              have hpf2 : L2.flatMap itCell = (QD (K.take i2) 2).flatMap itCell ++ itCell (endD 2) := by rw [hL2]; simp
              have H361 : St W w342 (imi (0 < K.length) gA350 (.cells kA352 eA353 zA354) :: Im 6 (.slice pp1 K.length cc2) K.length (K.flatMap itCell) :: Row 32 6 (.slice pp340 L2.length cc341) L2.length (L2.flatMap itCell) :: Row 32 6 (.slice q2 w3.length d2) w3.length (w3.flatMap itCell) :: blk bk17 (.cells #[.slice pp124 L0.length cc125, .slice pp231 L1.length cc232, .slice pp340 L2.length cc341, .slice none 0 0] 22 (0, 0)) :: Row 32 6 (.slice pp231 L1.length cc232) L1.length (L1.flatMap itCell) :: Row 32 6 (.slice pp124 L0.length cc125) L0.length (L0.flatMap itCell) :: Ag :: itsA K :: Ao :: Im 6 (.slice pp1 l.length cc2) l.length (l.flatMap itCell) :: F) := by rw [hpn2, hpf2, hw3]; exact H359
              have hwl3 : w3.length ≤ 40 * 3 := by rw [hw3, List.length_append]; omega
              have H362 := Row.nil_intro H361 32 6
              have H363 : St W w342 (Row 32 6 (.slice pp124 L0.length cc125) L0.length (L0.flatMap itCell) :: Ag :: itsA K :: Ao :: Im 6 (.slice pp1 l.length cc2) l.length (l.flatMap itCell) :: Row 32 6 (.slice none 0 0) 0 [] :: imi (0 < K.length) gA350 (.cells kA352 eA353 zA354) :: Im 6 (.slice pp1 K.length cc2) K.length (K.flatMap itCell) :: Row 32 6 (.slice pp340 L2.length cc341) L2.length (L2.flatMap itCell) :: Row 32 6 (.slice q2 w3.length d2) w3.length (w3.flatMap itCell) :: blk bk17 (.cells #[.slice pp124 L0.length cc125, .slice pp231 L1.length cc232, .slice pp340 L2.length cc341, .slice none 0 0] 22 (0, 0)) :: Row 32 6 (.slice pp231 L1.length cc232) L1.length (L1.flatMap itCell) :: F) := (((((H362.move 11 rfl).move 11 rfl).move 11 rfl).move 11 rfl).move 11 rfl)
              have H364 : St W w342 (Row 32 6 (.slice q2 w3.length d2) w3.length (w3.flatMap itCell) :: blk bk17 (.cells #[.slice pp124 L0.length cc125, .slice pp231 L1.length cc232, .slice pp340 L2.length cc341, .slice none 0 0] 22 (0, 0)) :: imi (0 < K.length) gA350 (.cells kA352 eA353 zA354) :: Row 32 6 (.slice pp340 L2.length cc341) L2.length (L2.flatMap itCell) :: Row 32 6 (.slice pp231 L1.length cc232) L1.length (L1.flatMap itCell) :: Row 32 6 (.slice pp124 L0.length cc125) L0.length (L0.flatMap itCell) :: Ag :: itsA K :: Ao :: Im 6 (.slice pp1 l.length cc2) l.length (l.flatMap itCell) :: Row 32 6 (.slice none 0 0) 0 [] :: Im 6 (.slice pp1 K.length cc2) K.length (K.flatMap itCell) :: F) := (((((H363.move 11 rfl).move 9 rfl).move 8 rfl).move 11 rfl).move 11 rfl)
              have H365 : St W w342 (Row 32 6 (.slice none 0 0) 0 [] :: Row 32 6 (.slice q2 w3.length d2) w3.length (w3.flatMap itCell) :: blk bk17 (.cells #[.slice pp124 L0.length cc125, .slice pp231 L1.length cc232, .slice pp340 L2.length cc341, .slice none 0 0] 22 (0, 0)) :: imi (0 < K.length) gA350 (.cells kA352 eA353 zA354) :: Row 32 6 (.slice pp340 L2.length cc341) L2.length (L2.flatMap itCell) :: Row 32 6 (.slice pp231 L1.length cc232) L1.length (L1.flatMap itCell) :: Row 32 6 (.slice pp124 L0.length cc125) L0.length (L0.flatMap itCell) :: Ag :: itsA K :: Ao :: Im 6 (.slice pp1 l.length cc2) l.length (l.flatMap itCell) :: F) := ((H364.move 10 rfl).drop 11 rfl)
              have hqz : QD (K.take 0) 3 = [] := by rw [List.take_zero]; rfl
              have H366 : St W w342 (Row 32 6 (.slice none 0 0) 0 [] :: Row 32 6 (.slice q2 ((w3 ++ QD (K.take 0) 3).length) d2) ((w3 ++ QD (K.take 0) 3).length) ((w3 ++ QD (K.take 0) 3).flatMap itCell) :: blk bk17 (.cells #[.slice pp124 L0.length cc125, .slice pp231 L1.length cc232, .slice pp340 L2.length cc341, .slice none 0 0] 22 (0, 0)) :: imi (0 < K.length) gA350 (.cells kA352 eA353 zA354) :: Row 32 6 (.slice pp340 L2.length cc341) L2.length (L2.flatMap itCell) :: Row 32 6 (.slice pp231 L1.length cc232) L1.length (L1.flatMap itCell) :: Row 32 6 (.slice pp124 L0.length cc125) L0.length (L0.flatMap itCell) :: Ag :: itsA K :: Ao :: Im 6 (.slice pp1 l.length cc2) l.length (l.flatMap itCell) :: F) := by rw [hqz, List.append_nil]; exact H365
              refine g_loop_inv (fun (x_ : Nat × (Option Addr) × Nat × (Option Addr) × Nat) => match x_ with | (i3, p3, c3, q3, d3) => [(0, .slice pp1 l.length cc2), (1, .slice pp5 od.length cc6), (4, .bool false), (5, .pointer (some ⟨bk12, 0, none⟩)), (6, .slice (some ⟨bk17, 0, none⟩) 4 4), (7, .slice q3 ((w3 ++ (QD (K.take i3) 3)).length) d3), (25, .int .i64 4), (26, .int .i64 3), (8, .int .i64 3), (33, .slice pp1 (min l.length 40) cc2), (34, .int .i64 (min l.length 40 : Int)), (35, .int .i64 (i3 : Int))]) (fun (x_ : Nat × (Option Addr) × Nat × (Option Addr) × Nat) w => match x_ with | (i3, p3, c3, q3, d3) => (i3 ≤ K.length) ∧ St W w (Row 32 6 (.slice p3 ((QD (K.take i3) 3).length) c3) ((QD (K.take i3) 3).length) ((QD (K.take i3) 3).flatMap itCell) :: Row 32 6 (.slice q3 ((w3 ++ (QD (K.take i3) 3)).length) d3) ((w3 ++ (QD (K.take i3) 3)).length) ((w3 ++ (QD (K.take i3) 3)).flatMap itCell) :: blk bk17 (.cells #[.slice pp124 L0.length cc125, .slice pp231 L1.length cc232, .slice pp340 L2.length cc341, .slice p3 ((QD (K.take i3) 3).length) c3] 22 (0, 0)) :: imi (0 < K.length) gA350 (.cells kA352 eA353 zA354) :: Row 32 6 (.slice pp340 L2.length cc341) L2.length (L2.flatMap itCell) :: Row 32 6 (.slice pp231 L1.length cc232) L1.length (L1.flatMap itCell) :: Row 32 6 (.slice pp124 L0.length cc125) L0.length (L0.flatMap itCell) :: Ag :: itsA K :: Ao :: Im 6 (.slice pp1 l.length cc2) l.length (l.flatMap itCell) :: F)) (fun (x_ : Nat × (Option Addr) × Nat × (Option Addr) × Nat) => match x_ with | (i3, p3, c3, q3, d3) => K.length - i3) (0, none, 0, q2, d2) ?_ ?_ ?_
              · exact ⟨by first | rfl | exact vint (by omega), by first | rfl | exact vint (by omega), by first | rfl | exact vint (by omega), by first | rfl | exact vint (by omega), by first | rfl | exact vint (by omega), by rw [hqz, List.append_nil, hw3]; rfl, by first | rfl | exact vint (by omega), by first | rfl | exact vint (by omega), by first | rfl | exact vint (by omega), by first | rfl | exact vint (by omega), by first | rfl | exact vint (by omega), by first | rfl | exact vint (by omega), trivial⟩
              · exact ⟨(by omega), H366⟩
              · rintro ⟨i3, p3, c3, q3, d3⟩ ρ367 w368 ⟨hi3, H369⟩ nx370
                change Ends _ _ (upds ρ367 [(0, .slice pp1 l.length cc2), (1, .slice pp5 od.length cc6), (4, .bool false), (5, .pointer (some ⟨bk12, 0, none⟩)), (6, .slice (some ⟨bk17, 0, none⟩) 4 4), (7, .slice q3 ((w3 ++ (QD (K.take i3) 3)).length) d3), (25, .int .i64 4), (26, .int .i64 3), (8, .int .i64 3), (33, .slice pp1 (min l.length 40) cc2), (34, .int .i64 (min l.length 40 : Int)), (35, .int .i64 (i3 : Int))]) w368
                have hql3 := QD_len (K.take i3) 3
                rw [List.length_take] at hql3
                have hwq3 : (w3 ++ (QD (K.take i3) 3)).length = w3.length + (QD (K.take i3) 3).length := List.length_append
                refine g_seq ?_
                refine g_region ?_
                by_cases hc371 : (i3 : Int) < (min l.length 40 : Int)
                · skip
                  refine r_cons (s_lss true rfl rfl (dtrue hc371) rfl ?_)
                  refine r_nil ?_
                  refine g_seq ?_
                  refine g_true rfl ?_
                  refine g_skip ?_
                  refine g_seq ?_
                  refine g_block ?_
                  refine g_seq ?_
                  refine g_region ?_
                  refine r_cons (s_indexAddr gA350 (off := oA351) (i3 : Int) 6 (oA351 + i3 * 6) (by exact congrArg (fun z_ => Value.slice z_ (min l.length 40) cc2) (hp356 (by omega))) rfl el_22 (by omega) rfl rfl ?_)
                  refine r_cons (s_loadAgg [.int .i64 ((gdI K i3).op.v), .int .i64 ((gdI K i3).inp.v), .int .i64 ((gdI K i3).ep.v), .int .i64 ((gdI K i3).kind.v), .slice ((gdI K i3).p) ((gdI K i3).bs.length) ((gdI K i3).c), .int .i64 ((gdI K i3).t.v)] 6 ag_32 rfl (H369.imi_at (i := 3) rfl (by omega)) (by have := elem_size (i := i3) (s := 6) (hs358 (by omega)) (by omega); omega) (elem_take itCell_len (hx357 (by omega)) (by omega) default) rfl ?_)
                  refine r_cons (s_alloc H369 32 ze_32 rfl ?_); intro bk372 w373 H374
                  refine r_cons (s_storeAgg H374 0 #[.int .i64 ((gdI K i3).op.v), .int .i64 ((gdI K i3).inp.v), .int .i64 ((gdI K i3).ep.v), .int .i64 ((gdI K i3).kind.v), .slice ((gdI K i3).p) ((gdI K i3).bs.length) ((gdI K i3).c), .int .i64 ((gdI K i3).t.v)] 6 rfl rfl rfl sz_32 rfl (by simp [Value.oneCell']) (Nat.le_of_ble_eq_true rfl) (fun o h1 h2 => by first | (simp; done) | (simp; omega)) (cs' := #[.int .i64 ((gdI K i3).op.v), .int .i64 ((gdI K i3).inp.v), .int .i64 ((gdI K i3).ep.v), .int .i64 ((gdI K i3).kind.v), .slice ((gdI K i3).p) ((gdI K i3).bs.length) ((gdI K i3).c), .int .i64 ((gdI K i3).t.v)]) rfl ?_); intro w375 H376
                  refine r_nil ?_
                  refine g_seq ?_
                  refine g_seq ?_
                  refine g_region ?_
                  have H377 : St W w375 (bndsA ((gdI K i3).bs) :: blk bk372 (.cells #[.int .i64 ((gdI K i3).op.v), .int .i64 ((gdI K i3).inp.v), .int .i64 ((gdI K i3).ep.v), .int .i64 ((gdI K i3).kind.v), .slice ((gdI K i3).p) ((gdI K i3).bs.length) ((gdI K i3).c), .int .i64 ((gdI K i3).t.v)] 32 (0, 0)) :: Row 32 6 (.slice p3 ((QD (K.take i3) 3).length) c3) ((QD (K.take i3) 3).length) ((QD (K.take i3) 3).flatMap itCell) :: Row 32 6 (.slice q3 ((w3 ++ (QD (K.take i3) 3)).length) d3) ((w3 ++ (QD (K.take i3) 3)).length) ((w3 ++ (QD (K.take i3) 3)).flatMap itCell) :: blk bk17 (.cells #[.slice pp124 L0.length cc125, .slice pp231 L1.length cc232, .slice pp340 L2.length cc341, .slice p3 ((QD (K.take i3) 3).length) c3] 22 (0, 0)) :: imi (0 < K.length) gA350 (.cells kA352 eA353 zA354) :: Row 32 6 (.slice pp340 L2.length cc341) L2.length (L2.flatMap itCell) :: Row 32 6 (.slice pp231 L1.length cc232) L1.length (L1.flatMap itCell) :: Row 32 6 (.slice pp124 L0.length cc125) L0.length (L0.flatMap itCell) :: Ag :: itsA K :: Ao :: Im 6 (.slice pp1 l.length cc2) l.length (l.flatMap itCell) :: F) := itsA_at H376 (i := 9) rfl (j := i3) (by omega)
                  have H378 : St W w375 (Im 6 (.slice ((gdI K i3).p) ((gdI K i3).bs.length) ((gdI K i3).c)) ((gdI K i3).bs.length) ((gdI K i3).bs.flatMap bndCell) :: bndsA ((gdI K i3).bs) :: blk bk372 (.cells #[.int .i64 ((gdI K i3).op.v), .int .i64 ((gdI K i3).inp.v), .int .i64 ((gdI K i3).ep.v), .int .i64 ((gdI K i3).kind.v), .slice ((gdI K i3).p) ((gdI K i3).bs.length) ((gdI K i3).c), .int .i64 ((gdI K i3).t.v)] 32 (0, 0)) :: Row 32 6 (.slice p3 ((QD (K.take i3) 3).length) c3) ((QD (K.take i3) 3).length) ((QD (K.take i3) 3).flatMap itCell) :: Row 32 6 (.slice q3 ((w3 ++ (QD (K.take i3) 3)).length) d3) ((w3 ++ (QD (K.take i3) 3)).length) ((w3 ++ (QD (K.take i3) 3)).flatMap itCell) :: blk bk17 (.cells #[.slice pp124 L0.length cc125, .slice pp231 L1.length cc232, .slice pp340 L2.length cc341, .slice p3 ((QD (K.take i3) 3).length) c3] 22 (0, 0)) :: imi (0 < K.length) gA350 (.cells kA352 eA353 zA354) :: Row 32 6 (.slice pp340 L2.length cc341) L2.length (L2.flatMap itCell) :: Row 32 6 (.slice pp231 L1.length cc232) L1.length (L1.flatMap itCell) :: Row 32 6 (.slice pp124 L0.length cc125) L0.length (L0.flatMap itCell) :: Ag :: itsA K :: Ao :: Im 6 (.slice pp1 l.length cc2) l.length (l.flatMap itCell) :: F) := itsA_bs H377 (i := 10) rfl (j := i3) (by omega)
                  refine r_cons (s_fieldAddr 32 2 2 2 2 rfl fi_32_2 rfl rfl ?_)
                  refine r_cons (s_load (.int .i64 ((gdI K i3).ep.v)) ag_2 rfl (H378.blk_at (i := 2) rfl) rfl rfl ?_)
                  refine r_cons (s_move (.int .i64 3) rfl rfl ?_)
                  by_cases hc379 : (gdI K i3).ep.v = 3
                  · skip
                    refine r_cons (s_neq false rfl rfl (ntrue hc379) rfl ?_)
                    refine r_cons (s_move (.bool false) rfl rfl ?_)
                    refine r_cons (r_take rfl rfl ?_)
                    refine s_fieldAddr 32 3 3 3 3 rfl fi_32_3 rfl rfl ?_
                    refine r_cons (r_take rfl rfl ?_)
                    refine s_load (.int .i64 ((gdI K i3).kind.v)) ag_3 rfl (H378.blk_at (i := 2) rfl) rfl rfl ?_
                    refine r_cons (r_take rfl rfl ?_)
                    by_cases hc380 : (gdI K i3).kind.v = 3
                    · skip
                      refine s_eql true rfl rfl (dtrue hc380) rfl ?_
                      refine r_cons (s_pick_f (.bool true) rfl rfl rfl ?_)
                      refine r_cons (s_move (.bool true) rfl rfl ?_)
                      refine r_cons (r_pass rfl rfl rfl rfl rfl ?_)
                      refine r_cons (r_pass rfl rfl rfl rfl rfl ?_)
                      refine r_cons (r_pass rfl rfl rfl rfl rfl ?_)
                      refine r_cons (s_pick_t (.bool true) rfl rfl rfl ?_)
                      refine r_nil ?_
                      refine g_true rfl ?_
                      refine g_exit (by rfl) ?_
                      refine g_region ?_
                      refine r_cons (s_add ((i3 : Int) + 1) rfl rfl (wi64 (by omega)) rfl ?_)
                      refine r_cons (s_move (.int .i64 ((i3 : Int) + 1)) rfl rfl ?_)
                      refine r_nil ?_
                      have hq := QD_no (L := K) (k := 3) (i := i3) (by omega) (okk_2 hc380)
                      have H381 : St W w375 (Im 6 (.slice ((gdI K i3).p) ((gdI K i3).bs.length) ((gdI K i3).c)) ((gdI K i3).bs.length) ((gdI K i3).bs.flatMap bndCell) :: bndsA ((gdI K i3).bs) :: blk bk372 (.cells #[.int .i64 ((gdI K i3).op.v), .int .i64 ((gdI K i3).inp.v), .int .i64 ((gdI K i3).ep.v), .int .i64 ((gdI K i3).kind.v), .slice ((gdI K i3).p) ((gdI K i3).bs.length) ((gdI K i3).c), .int .i64 ((gdI K i3).t.v)] 32 (0, 0)) :: Row 32 6 (.slice p3 ((QD (K.take (i3 + 1)) 3).length) c3) ((QD (K.take (i3 + 1)) 3).length) ((QD (K.take (i3 + 1)) 3).flatMap itCell) :: Row 32 6 (.slice q3 ((w3 ++ (QD (K.take (i3 + 1)) 3)).length) d3) ((w3 ++ (QD (K.take (i3 + 1)) 3)).length) ((w3 ++ (QD (K.take (i3 + 1)) 3)).flatMap itCell) :: blk bk17 (.cells #[.slice pp124 L0.length cc125, .slice pp231 L1.length cc232, .slice pp340 L2.length cc341, .slice p3 ((QD (K.take (i3 + 1)) 3).length) c3] 22 (0, 0)) :: imi (0 < K.length) gA350 (.cells kA352 eA353 zA354) :: Row 32 6 (.slice pp340 L2.length cc341) L2.length (L2.flatMap itCell) :: Row 32 6 (.slice pp231 L1.length cc232) L1.length (L1.flatMap itCell) :: Row 32 6 (.slice pp124 L0.length cc125) L0.length (L0.flatMap itCell) :: Ag :: itsA K :: Ao :: Im 6 (.slice pp1 l.length cc2) l.length (l.flatMap itCell) :: F) := by rw [hq]; exact H378
                      have H382 : St W w375 (Row 32 6 (.slice pp124 L0.length cc125) L0.length (L0.flatMap itCell) :: Ag :: itsA K :: Ao :: Im 6 (.slice pp1 l.length cc2) l.length (l.flatMap itCell) :: Im 6 (.slice ((gdI K i3).p) ((gdI K i3).bs.length) ((gdI K i3).c)) ((gdI K i3).bs.length) ((gdI K i3).bs.flatMap bndCell) :: bndsA ((gdI K i3).bs) :: blk bk372 (.cells #[.int .i64 ((gdI K i3).op.v), .int .i64 ((gdI K i3).inp.v), .int .i64 ((gdI K i3).ep.v), .int .i64 ((gdI K i3).kind.v), .slice ((gdI K i3).p) ((gdI K i3).bs.length) ((gdI K i3).c), .int .i64 ((gdI K i3).t.v)] 32 (0, 0)) :: Row 32 6 (.slice p3 ((QD (K.take (i3 + 1)) 3).length) c3) ((QD (K.take (i3 + 1)) 3).length) ((QD (K.take (i3 + 1)) 3).flatMap itCell) :: Row 32 6 (.slice q3 ((w3 ++ (QD (K.take (i3 + 1)) 3)).length) d3) ((w3 ++ (QD (K.take (i3 + 1)) 3)).length) ((w3 ++ (QD (K.take (i3 + 1)) 3)).flatMap itCell) :: blk bk17 (.cells #[.slice pp124 L0.length cc125, .slice pp231 L1.length cc232, .slice pp340 L2.length cc341, .slice p3 ((QD (K.take (i3 + 1)) 3).length) c3] 22 (0, 0)) :: imi (0 < K.length) gA350 (.cells kA352 eA353 zA354) :: Row 32 6 (.slice pp340 L2.length cc341) L2.length (L2.flatMap itCell) :: Row 32 6 (.slice pp231 L1.length cc232) L1.length (L1.flatMap itCell) :: F) := (((((H381.move 13 rfl).move 13 rfl).move 13 rfl).move 13 rfl).move 13 rfl)
                      have H383 : St W w375 (Row 32 6 (.slice q3 ((w3 ++ (QD (K.take (i3 + 1)) 3)).length) d3) ((w3 ++ (QD (K.take (i3 + 1)) 3)).length) ((w3 ++ (QD (K.take (i3 + 1)) 3)).flatMap itCell) :: blk bk17 (.cells #[.slice pp124 L0.length cc125, .slice pp231 L1.length cc232, .slice pp340 L2.length cc341, .slice p3 ((QD (K.take (i3 + 1)) 3).length) c3] 22 (0, 0)) :: imi (0 < K.length) gA350 (.cells kA352 eA353 zA354) :: Row 32 6 (.slice pp340 L2.length cc341) L2.length (L2.flatMap itCell) :: Row 32 6 (.slice pp231 L1.length cc232) L1.length (L1.flatMap itCell) :: Row 32 6 (.slice pp124 L0.length cc125) L0.length (L0.flatMap itCell) :: Ag :: itsA K :: Ao :: Im 6 (.slice pp1 l.length cc2) l.length (l.flatMap itCell) :: Im 6 (.slice ((gdI K i3).p) ((gdI K i3).bs.length) ((gdI K i3).c)) ((gdI K i3).bs.length) ((gdI K i3).bs.flatMap bndCell) :: bndsA ((gdI K i3).bs) :: blk bk372 (.cells #[.int .i64 ((gdI K i3).op.v), .int .i64 ((gdI K i3).inp.v), .int .i64 ((gdI K i3).ep.v), .int .i64 ((gdI K i3).kind.v), .slice ((gdI K i3).p) ((gdI K i3).bs.length) ((gdI K i3).c), .int .i64 ((gdI K i3).t.v)] 32 (0, 0)) :: Row 32 6 (.slice p3 ((QD (K.take (i3 + 1)) 3).length) c3) ((QD (K.take (i3 + 1)) 3).length) ((QD (K.take (i3 + 1)) 3).flatMap itCell) :: F) := (((((H382.move 13 rfl).move 13 rfl).move 13 rfl).move 13 rfl).move 13 rfl)
                      have H384 : St W w375 (Row 32 6 (.slice p3 ((QD (K.take (i3 + 1)) 3).length) c3) ((QD (K.take (i3 + 1)) 3).length) ((QD (K.take (i3 + 1)) 3).flatMap itCell) :: Row 32 6 (.slice q3 ((w3 ++ (QD (K.take (i3 + 1)) 3)).length) d3) ((w3 ++ (QD (K.take (i3 + 1)) 3)).length) ((w3 ++ (QD (K.take (i3 + 1)) 3)).flatMap itCell) :: blk bk17 (.cells #[.slice pp124 L0.length cc125, .slice pp231 L1.length cc232, .slice pp340 L2.length cc341, .slice p3 ((QD (K.take (i3 + 1)) 3).length) c3] 22 (0, 0)) :: imi (0 < K.length) gA350 (.cells kA352 eA353 zA354) :: Row 32 6 (.slice pp340 L2.length cc341) L2.length (L2.flatMap itCell) :: Row 32 6 (.slice pp231 L1.length cc232) L1.length (L1.flatMap itCell) :: Row 32 6 (.slice pp124 L0.length cc125) L0.length (L0.flatMap itCell) :: Ag :: itsA K :: Ao :: Im 6 (.slice pp1 l.length cc2) l.length (l.flatMap itCell) :: F) := ((((H383.move 13 rfl).drop 11 rfl).drop 11 rfl).drop 11 rfl)
                      exact nx370 (i3 + 1, p3, c3, q3, d3) _ _ ⟨(by omega), H384⟩ (by first | (dsimp only; omega) | omega) ⟨by first | rfl | exact vint (by omega), by first | rfl | exact vint (by omega), by first | rfl | exact vint (by omega), by first | rfl | exact vint (by omega), by first | rfl | exact vint (by omega), by rw [hq]; rfl, by first | rfl | exact vint (by omega), by first | rfl | exact vint (by omega), by first | rfl | exact vint (by omega), by first | rfl | exact vint (by omega), by first | rfl | exact vint (by omega), by first | rfl | exact vint (by omega), trivial⟩
                    · skip
                      refine s_eql false rfl rfl (dfalse hc380) rfl ?_
                      refine r_cons (s_pick_f (.bool false) rfl rfl rfl ?_)
                      refine r_cons (s_move (.bool false) rfl rfl ?_)
                      refine r_cons (r_take rfl rfl ?_)
                      refine s_loadAgg [.int .i64 ((gdI K i3).op.v), .int .i64 ((gdI K i3).inp.v), .int .i64 ((gdI K i3).ep.v), .int .i64 ((gdI K i3).kind.v), .slice ((gdI K i3).p) ((gdI K i3).bs.length) ((gdI K i3).c), .int .i64 ((gdI K i3).t.v)] 6 ag_32 rfl (H378.blk_at (i := 2) rfl) (Nat.le_of_ble_eq_true rfl) rfl rfl ?_
                      refine r_cons (r_take rfl rfl ?_)
                      refine s_call [.agg #[.int .i64 ((gdI K i3).op.v), .int .i64 ((gdI K i3).inp.v), .int .i64 ((gdI K i3).ep.v), .int .i64 ((gdI K i3).kind.v), .slice ((gdI K i3).p) ((gdI K i3).bs.length) ((gdI K i3).c), .int .i64 ((gdI K i3).t.v)]] pl_11 rfl rfl (ref24_CheckItem (gdI K i3) (ip := 0) rfl (iq := 1) rfl H378) ?_
                      rintro _ w385 ⟨rfl, H386⟩
                      refine r_cons (r_take rfl rfl ?_)
                      by_cases hc387 : itE (gdI K i3) = 0
                      · skip
                        refine s_neq false rfl rfl (ntrue hc387) rfl ?_
                        refine r_cons (s_pick_f (.bool false) rfl rfl rfl ?_)
                        refine r_nil ?_
                        refine g_false rfl ?_
                        refine g_skip ?_
                        refine g_seq ?_
                        have H388 : St W w385 (Row 32 6 (.slice pp124 L0.length cc125) L0.length (L0.flatMap itCell) :: Ag :: itsA K :: Ao :: Im 6 (.slice pp1 l.length cc2) l.length (l.flatMap itCell) :: Im 6 (.slice ((gdI K i3).p) ((gdI K i3).bs.length) ((gdI K i3).c)) ((gdI K i3).bs.length) ((gdI K i3).bs.flatMap bndCell) :: bndsA ((gdI K i3).bs) :: blk bk372 (.cells #[.int .i64 ((gdI K i3).op.v), .int .i64 ((gdI K i3).inp.v), .int .i64 ((gdI K i3).ep.v), .int .i64 ((gdI K i3).kind.v), .slice ((gdI K i3).p) ((gdI K i3).bs.length) ((gdI K i3).c), .int .i64 ((gdI K i3).t.v)] 32 (0, 0)) :: Row 32 6 (.slice p3 ((QD (K.take i3) 3).length) c3) ((QD (K.take i3) 3).length) ((QD (K.take i3) 3).flatMap itCell) :: Row 32 6 (.slice q3 ((w3 ++ (QD (K.take i3) 3)).length) d3) ((w3 ++ (QD (K.take i3) 3)).length) ((w3 ++ (QD (K.take i3) 3)).flatMap itCell) :: blk bk17 (.cells #[.slice pp124 L0.length cc125, .slice pp231 L1.length cc232, .slice pp340 L2.length cc341, .slice p3 ((QD (K.take i3) 3).length) c3] 22 (0, 0)) :: imi (0 < K.length) gA350 (.cells kA352 eA353 zA354) :: Row 32 6 (.slice pp340 L2.length cc341) L2.length (L2.flatMap itCell) :: Row 32 6 (.slice pp231 L1.length cc232) L1.length (L1.flatMap itCell) :: F) := (((((H386.move 13 rfl).move 13 rfl).move 13 rfl).move 13 rfl).move 13 rfl)
                        have H389 : St W w385 (Row 32 6 (.slice q3 ((w3 ++ (QD (K.take i3) 3)).length) d3) ((w3 ++ (QD (K.take i3) 3)).length) ((w3 ++ (QD (K.take i3) 3)).flatMap itCell) :: blk bk17 (.cells #[.slice pp124 L0.length cc125, .slice pp231 L1.length cc232, .slice pp340 L2.length cc341, .slice p3 ((QD (K.take i3) 3).length) c3] 22 (0, 0)) :: imi (0 < K.length) gA350 (.cells kA352 eA353 zA354) :: Row 32 6 (.slice pp340 L2.length cc341) L2.length (L2.flatMap itCell) :: Row 32 6 (.slice pp231 L1.length cc232) L1.length (L1.flatMap itCell) :: Row 32 6 (.slice pp124 L0.length cc125) L0.length (L0.flatMap itCell) :: Ag :: itsA K :: Ao :: Im 6 (.slice pp1 l.length cc2) l.length (l.flatMap itCell) :: Im 6 (.slice ((gdI K i3).p) ((gdI K i3).bs.length) ((gdI K i3).c)) ((gdI K i3).bs.length) ((gdI K i3).bs.flatMap bndCell) :: bndsA ((gdI K i3).bs) :: blk bk372 (.cells #[.int .i64 ((gdI K i3).op.v), .int .i64 ((gdI K i3).inp.v), .int .i64 ((gdI K i3).ep.v), .int .i64 ((gdI K i3).kind.v), .slice ((gdI K i3).p) ((gdI K i3).bs.length) ((gdI K i3).c), .int .i64 ((gdI K i3).t.v)] 32 (0, 0)) :: Row 32 6 (.slice p3 ((QD (K.take i3) 3).length) c3) ((QD (K.take i3) 3).length) ((QD (K.take i3) 3).flatMap itCell) :: F) := (((((H388.move 13 rfl).move 13 rfl).move 13 rfl).move 13 rfl).move 13 rfl)
                        have H390 : St W w385 (blk bk372 (.cells #[.int .i64 ((gdI K i3).op.v), .int .i64 ((gdI K i3).inp.v), .int .i64 ((gdI K i3).ep.v), .int .i64 ((gdI K i3).kind.v), .slice ((gdI K i3).p) ((gdI K i3).bs.length) ((gdI K i3).c), .int .i64 ((gdI K i3).t.v)] 32 (0, 0)) :: Row 32 6 (.slice p3 ((QD (K.take i3) 3).length) c3) ((QD (K.take i3) 3).length) ((QD (K.take i3) 3).flatMap itCell) :: Row 32 6 (.slice q3 ((w3 ++ (QD (K.take i3) 3)).length) d3) ((w3 ++ (QD (K.take i3) 3)).length) ((w3 ++ (QD (K.take i3) 3)).flatMap itCell) :: blk bk17 (.cells #[.slice pp124 L0.length cc125, .slice pp231 L1.length cc232, .slice pp340 L2.length cc341, .slice p3 ((QD (K.take i3) 3).length) c3] 22 (0, 0)) :: imi (0 < K.length) gA350 (.cells kA352 eA353 zA354) :: Row 32 6 (.slice pp340 L2.length cc341) L2.length (L2.flatMap itCell) :: Row 32 6 (.slice pp231 L1.length cc232) L1.length (L1.flatMap itCell) :: Row 32 6 (.slice pp124 L0.length cc125) L0.length (L0.flatMap itCell) :: Ag :: itsA K :: Ao :: Im 6 (.slice pp1 l.length cc2) l.length (l.flatMap itCell) :: F) := ((((H389.move 13 rfl).move 13 rfl).drop 12 rfl).drop 12 rfl)
                        refine g_cut (fun (x : Nat × Option Addr × Nat) => match x with | (bk391, pp398, cc399) => [(0, .slice pp1 l.length cc2), (1, .slice pp5 od.length cc6), (4, .bool false), (5, .pointer (some ⟨bk12, 0, none⟩)), (6, .slice (some ⟨bk17, 0, none⟩) 4 4), (7, .slice q3 ((w3 ++ (QD (K.take i3) 3)).length) d3), (25, .int .i64 4), (26, .int .i64 3), (8, .int .i64 3), (33, .slice pp1 (min l.length 40) cc2), (34, .int .i64 (min l.length 40 : Int)), (35, .int .i64 (i3 : Int)), (36, .bool true), (37, .pointer (some ⟨gA350, oA351 + i3 * 6, none⟩)), (38, .agg #[.int .i64 ((gdI K i3).op.v), .int .i64 ((gdI K i3).inp.v), .int .i64 ((gdI K i3).ep.v), .int .i64 ((gdI K i3).kind.v), .slice ((gdI K i3).p) ((gdI K i3).bs.length) ((gdI K i3).c), .int .i64 ((gdI K i3).t.v)]), (10, .pointer (some ⟨bk372, 0, none⟩)), (39, .pointer (some ⟨bk372, 2, none⟩)), (40, .int .i64 ((gdI K i3).ep.v)), (41, .int .i64 3), (42, .bool false), (43, .bool false), (44, .pointer (some ⟨bk372, 3, none⟩)), (45, .int .i64 ((gdI K i3).kind.v)), (46, .bool false), (47, .bool false), (48, .bool false), (49, .agg #[.int .i64 ((gdI K i3).op.v), .int .i64 ((gdI K i3).inp.v), .int .i64 ((gdI K i3).ep.v), .int .i64 ((gdI K i3).kind.v), .slice ((gdI K i3).p) ((gdI K i3).bs.length) ((gdI K i3).c), .int .i64 ((gdI K i3).t.v)]), (50, .int .i64 (itE (gdI K i3))), (51, .bool false), (52, .bool false), (53, .slice (some ⟨bk17, 0, none⟩) 4 4), (54, .int .i64 3), (55, .slice (some ⟨bk17, 0, none⟩) 4 4), (56, .int .i64 3), (57, .pointer (some ⟨bk17, 3, none⟩)), (58, .slice p3 ((QD (K.take i3) 3).length) c3), (59, .agg #[.int .i64 ((gdI K i3).op.v), .int .i64 ((gdI K i3).inp.v), .int .i64 ((gdI K i3).ep.v), .int .i64 ((gdI K i3).kind.v), .slice ((gdI K i3).p) ((gdI K i3).bs.length) ((gdI K i3).c), .int .i64 ((gdI K i3).t.v)]), (60, .slice (some ⟨bk391, 0, none⟩) 1 1), (61, .slice pp398 ((QD (K.take i3) 3).length + 1) cc399), (62, .pointer (some ⟨bk17, 3, none⟩))]) (fun (x : Nat × Option Addr × Nat) w => match x with | (bk391, pp398, cc399) => St W w (blk bk391 (.cells #[.int .i64 ((gdI K i3).op.v), .int .i64 ((gdI K i3).inp.v), .int .i64 ((gdI K i3).ep.v), .int .i64 ((gdI K i3).kind.v), .slice ((gdI K i3).p) ((gdI K i3).bs.length) ((gdI K i3).c), .int .i64 ((gdI K i3).t.v)] 32 (0, 0)) :: blk bk372 (.cells #[.int .i64 ((gdI K i3).op.v), .int .i64 ((gdI K i3).inp.v), .int .i64 ((gdI K i3).ep.v), .int .i64 ((gdI K i3).kind.v), .slice ((gdI K i3).p) ((gdI K i3).bs.length) ((gdI K i3).c), .int .i64 ((gdI K i3).t.v)] 32 (0, 0)) :: Row 32 6 (.slice pp398 ((QD (K.take i3) 3).length + 1) cc399) ((QD (K.take i3) 3).length + 1) ((QD (K.take i3) 3).flatMap itCell ++ ([.int .i64 ((gdI K i3).op.v), .int .i64 ((gdI K i3).inp.v), .int .i64 ((gdI K i3).ep.v), .int .i64 ((gdI K i3).kind.v), .slice ((gdI K i3).p) ((gdI K i3).bs.length) ((gdI K i3).c), .int .i64 ((gdI K i3).t.v)] : List Value)) :: Row 32 6 (.slice q3 ((w3 ++ (QD (K.take i3) 3)).length) d3) ((w3 ++ (QD (K.take i3) 3)).length) ((w3 ++ (QD (K.take i3) 3)).flatMap itCell) :: blk bk17 (.cells #[.slice pp124 L0.length cc125, .slice pp231 L1.length cc232, .slice pp340 L2.length cc341, .slice pp398 ((QD (K.take i3) 3).length + 1) cc399] 22 (0, 0)) :: imi (0 < K.length) gA350 (.cells kA352 eA353 zA354) :: Row 32 6 (.slice pp340 L2.length cc341) L2.length (L2.flatMap itCell) :: Row 32 6 (.slice pp231 L1.length cc232) L1.length (L1.flatMap itCell) :: Row 32 6 (.slice pp124 L0.length cc125) L0.length (L0.flatMap itCell) :: Ag :: itsA K :: Ao :: Im 6 (.slice pp1 l.length cc2) l.length (l.flatMap itCell) :: F)) ?_ ?_
                        · rintro ⟨bk391, pp398, cc399⟩ ρ394 w392 H393
                          change Ends _ _ (upds ρ394 [(0, .slice pp1 l.length cc2), (1, .slice pp5 od.length cc6), (4, .bool false), (5, .pointer (some ⟨bk12, 0, none⟩)), (6, .slice (some ⟨bk17, 0, none⟩) 4 4), (7, .slice q3 ((w3 ++ (QD (K.take i3) 3)).length) d3), (25, .int .i64 4), (26, .int .i64 3), (8, .int .i64 3), (33, .slice pp1 (min l.length 40) cc2), (34, .int .i64 (min l.length 40 : Int)), (35, .int .i64 (i3 : Int)), (36, .bool true), (37, .pointer (some ⟨gA350, oA351 + i3 * 6, none⟩)), (38, .agg #[.int .i64 ((gdI K i3).op.v), .int .i64 ((gdI K i3).inp.v), .int .i64 ((gdI K i3).ep.v), .int .i64 ((gdI K i3).kind.v), .slice ((gdI K i3).p) ((gdI K i3).bs.length) ((gdI K i3).c), .int .i64 ((gdI K i3).t.v)]), (10, .pointer (some ⟨bk372, 0, none⟩)), (39, .pointer (some ⟨bk372, 2, none⟩)), (40, .int .i64 ((gdI K i3).ep.v)), (41, .int .i64 3), (42, .bool false), (43, .bool false), (44, .pointer (some ⟨bk372, 3, none⟩)), (45, .int .i64 ((gdI K i3).kind.v)), (46, .bool false), (47, .bool false), (48, .bool false), (49, .agg #[.int .i64 ((gdI K i3).op.v), .int .i64 ((gdI K i3).inp.v), .int .i64 ((gdI K i3).ep.v), .int .i64 ((gdI K i3).kind.v), .slice ((gdI K i3).p) ((gdI K i3).bs.length) ((gdI K i3).c), .int .i64 ((gdI K i3).t.v)]), (50, .int .i64 (itE (gdI K i3))), (51, .bool false), (52, .bool false), (53, .slice (some ⟨bk17, 0, none⟩) 4 4), (54, .int .i64 3), (55, .slice (some ⟨bk17, 0, none⟩) 4 4), (56, .int .i64 3), (57, .pointer (some ⟨bk17, 3, none⟩)), (58, .slice p3 ((QD (K.take i3) 3).length) c3), (59, .agg #[.int .i64 ((gdI K i3).op.v), .int .i64 ((gdI K i3).inp.v), .int .i64 ((gdI K i3).ep.v), .int .i64 ((gdI K i3).kind.v), .slice ((gdI K i3).p) ((gdI K i3).bs.length) ((gdI K i3).c), .int .i64 ((gdI K i3).t.v)]), (60, .slice (some ⟨bk391, 0, none⟩) 1 1), (61, .slice pp398 ((QD (K.take i3) 3).length + 1) cc399), (62, .pointer (some ⟨bk17, 3, none⟩))]) w392
                          refine g_region ?_
                          refine r_cons (s_move (.slice q3 ((w3 ++ (QD (K.take i3) 3)).length) d3) rfl rfl ?_)
                          refine r_cons (s_loadAgg [.int .i64 ((gdI K i3).op.v), .int .i64 ((gdI K i3).inp.v), .int .i64 ((gdI K i3).ep.v), .int .i64 ((gdI K i3).kind.v), .slice ((gdI K i3).p) ((gdI K i3).bs.length) ((gdI K i3).c), .int .i64 ((gdI K i3).t.v)] 6 ag_32 rfl (H393.blk_at (i := 1) rfl) (Nat.le_of_ble_eq_true rfl) rfl rfl ?_)
                          refine r_cons (s_buildSlice H393 6 1 (cs := #[.int .i64 ((gdI K i3).op.v), .int .i64 ((gdI K i3).inp.v), .int .i64 ((gdI K i3).ep.v), .int .i64 ((gdI K i3).kind.v), .slice ((gdI K i3).p) ((gdI K i3).bs.length) ((gdI K i3).c), .int .i64 ((gdI K i3).t.v)]) #[.int .i64 0, .int .i64 0, .int .i64 0, .int .i64 0, .slice none 0 0, .int .i64 0] el_22 ze_32 (by decide) (by decide) (by kernel_rfl) rfl ?_); intro bk395 w396 H397
                          refine r_cons (s_append H397 4 rfl rfl rfl (rd_blk (H397.blk_at (i := 0) rfl) rfl (Nat.le_of_ble_eq_true rfl) (by simp [Value.oneCell'])) ap_22 (by decide) (by unfold maxLen; omega) (by omega) (n' := (w3 ++ (QD (K.take i3) 3)).length + 1) (xs' := (w3 ++ (QD (K.take i3) 3)).flatMap itCell ++ ([.int .i64 ((gdI K i3).op.v), .int .i64 ((gdI K i3).inp.v), .int .i64 ((gdI K i3).ep.v), .int .i64 ((gdI K i3).kind.v), .slice ((gdI K i3).p) ((gdI K i3).bs.length) ((gdI K i3).c), .int .i64 ((gdI K i3).t.v)] : List Value)) (by omega) (by first | rfl | simp) rfl ?_); intro vv398 w399 H400 hn401
                          obtain ⟨pp402, cc403, rfl⟩ := Row.slice H400 (i := 4) rfl
                          refine r_cons (s_assign (.slice pp402 ((w3 ++ (QD (K.take i3) 3)).length + 1) cc403) rfl rfl ?_)
                          refine r_nil ?_
                          refine g_inBlock ?_
                          refine g_region ?_
                          refine r_cons (s_add ((i3 : Int) + 1) rfl rfl (wi64 (by omega)) rfl ?_)
                          refine r_cons (s_move (.int .i64 ((i3 : Int) + 1)) rfl rfl ?_)
                          refine r_nil ?_
                          have hq := QD_yes (L := K) (k := 3) (i := i3) (by omega) (okk_4 (k := 3) (by simpa using hc379) hc380 hc387)
                          have hq1 : (QD (K.take (i3 + 1)) 3).length = (QD (K.take i3) 3).length + 1 := by rw [hq]; simp
                          have hq2 : (QD (K.take (i3 + 1)) 3).flatMap itCell = (QD (K.take i3) 3).flatMap itCell ++ itCell (gdI K i3) := by rw [hq]; simp
                          have hq3 : (w3 ++ (QD (K.take (i3 + 1)) 3)).length = (w3 ++ (QD (K.take i3) 3)).length + 1 := by rw [hq]; simp; omega
                          have hq4 : (w3 ++ (QD (K.take (i3 + 1)) 3)).flatMap itCell = (w3 ++ (QD (K.take i3) 3)).flatMap itCell ++ itCell (gdI K i3) := by rw [hq]; simp
                          have H404 : St W w399 (blk bk395 (.cells #[.int .i64 ((gdI K i3).op.v), .int .i64 ((gdI K i3).inp.v), .int .i64 ((gdI K i3).ep.v), .int .i64 ((gdI K i3).kind.v), .slice ((gdI K i3).p) ((gdI K i3).bs.length) ((gdI K i3).c), .int .i64 ((gdI K i3).t.v)] 32 (0, 0)) :: blk bk391 (.cells #[.int .i64 ((gdI K i3).op.v), .int .i64 ((gdI K i3).inp.v), .int .i64 ((gdI K i3).ep.v), .int .i64 ((gdI K i3).kind.v), .slice ((gdI K i3).p) ((gdI K i3).bs.length) ((gdI K i3).c), .int .i64 ((gdI K i3).t.v)] 32 (0, 0)) :: blk bk372 (.cells #[.int .i64 ((gdI K i3).op.v), .int .i64 ((gdI K i3).inp.v), .int .i64 ((gdI K i3).ep.v), .int .i64 ((gdI K i3).kind.v), .slice ((gdI K i3).p) ((gdI K i3).bs.length) ((gdI K i3).c), .int .i64 ((gdI K i3).t.v)] 32 (0, 0)) :: Row 32 6 (.slice pp398 ((QD (K.take (i3 + 1)) 3).length) cc399) ((QD (K.take (i3 + 1)) 3).length) ((QD (K.take (i3 + 1)) 3).flatMap itCell) :: Row 32 6 (.slice pp402 ((w3 ++ (QD (K.take (i3 + 1)) 3)).length) cc403) ((w3 ++ (QD (K.take (i3 + 1)) 3)).length) ((w3 ++ (QD (K.take (i3 + 1)) 3)).flatMap itCell) :: blk bk17 (.cells #[.slice pp124 L0.length cc125, .slice pp231 L1.length cc232, .slice pp340 L2.length cc341, .slice pp398 ((QD (K.take (i3 + 1)) 3).length) cc399] 22 (0, 0)) :: imi (0 < K.length) gA350 (.cells kA352 eA353 zA354) :: Row 32 6 (.slice pp340 L2.length cc341) L2.length (L2.flatMap itCell) :: Row 32 6 (.slice pp231 L1.length cc232) L1.length (L1.flatMap itCell) :: Row 32 6 (.slice pp124 L0.length cc125) L0.length (L0.flatMap itCell) :: Ag :: itsA K :: Ao :: Im 6 (.slice pp1 l.length cc2) l.length (l.flatMap itCell) :: F) := by rw [hq1, hq2, hq3, hq4]; exact H400
                          have H405 : St W w399 (Row 32 6 (.slice pp124 L0.length cc125) L0.length (L0.flatMap itCell) :: Ag :: itsA K :: Ao :: Im 6 (.slice pp1 l.length cc2) l.length (l.flatMap itCell) :: blk bk395 (.cells #[.int .i64 ((gdI K i3).op.v), .int .i64 ((gdI K i3).inp.v), .int .i64 ((gdI K i3).ep.v), .int .i64 ((gdI K i3).kind.v), .slice ((gdI K i3).p) ((gdI K i3).bs.length) ((gdI K i3).c), .int .i64 ((gdI K i3).t.v)] 32 (0, 0)) :: blk bk391 (.cells #[.int .i64 ((gdI K i3).op.v), .int .i64 ((gdI K i3).inp.v), .int .i64 ((gdI K i3).ep.v), .int .i64 ((gdI K i3).kind.v), .slice ((gdI K i3).p) ((gdI K i3).bs.length) ((gdI K i3).c), .int .i64 ((gdI K i3).t.v)] 32 (0, 0)) :: blk bk372 (.cells #[.int .i64 ((gdI K i3).op.v), .int .i64 ((gdI K i3).inp.v), .int .i64 ((gdI K i3).ep.v), .int .i64 ((gdI K i3).kind.v), .slice ((gdI K i3).p) ((gdI K i3).bs.length) ((gdI K i3).c), .int .i64 ((gdI K i3).t.v)] 32 (0, 0)) :: Row 32 6 (.slice pp398 ((QD (K.take (i3 + 1)) 3).length) cc399) ((QD (K.take (i3 + 1)) 3).length) ((QD (K.take (i3 + 1)) 3).flatMap itCell) :: Row 32 6 (.slice pp402 ((w3 ++ (QD (K.take (i3 + 1)) 3)).length) cc403) ((w3 ++ (QD (K.take (i3 + 1)) 3)).length) ((w3 ++ (QD (K.take (i3 + 1)) 3)).flatMap itCell) :: blk bk17 (.cells #[.slice pp124 L0.length cc125, .slice pp231 L1.length cc232, .slice pp340 L2.length cc341, .slice pp398 ((QD (K.take (i3 + 1)) 3).length) cc399] 22 (0, 0)) :: imi (0 < K.length) gA350 (.cells kA352 eA353 zA354) :: Row 32 6 (.slice pp340 L2.length cc341) L2.length (L2.flatMap itCell) :: Row 32 6 (.slice pp231 L1.length cc232) L1.length (L1.flatMap itCell) :: F) := (((((H404.move 13 rfl).move 13 rfl).move 13 rfl).move 13 rfl).move 13 rfl)
                          have H406 : St W w399 (Row 32 6 (.slice pp402 ((w3 ++ (QD (K.take (i3 + 1)) 3)).length) cc403) ((w3 ++ (QD (K.take (i3 + 1)) 3)).length) ((w3 ++ (QD (K.take (i3 + 1)) 3)).flatMap itCell) :: blk bk17 (.cells #[.slice pp124 L0.length cc125, .slice pp231 L1.length cc232, .slice pp340 L2.length cc341, .slice pp398 ((QD (K.take (i3 + 1)) 3).length) cc399] 22 (0, 0)) :: imi (0 < K.length) gA350 (.cells kA352 eA353 zA354) :: Row 32 6 (.slice pp340 L2.length cc341) L2.length (L2.flatMap itCell) :: Row 32 6 (.slice pp231 L1.length cc232) L1.length (L1.flatMap itCell) :: Row 32 6 (.slice pp124 L0.length cc125) L0.length (L0.flatMap itCell) :: Ag :: itsA K :: Ao :: Im 6 (.slice pp1 l.length cc2) l.length (l.flatMap itCell) :: blk bk395 (.cells #[.int .i64 ((gdI K i3).op.v), .int .i64 ((gdI K i3).inp.v), .int .i64 ((gdI K i3).ep.v), .int .i64 ((gdI K i3).kind.v), .slice ((gdI K i3).p) ((gdI K i3).bs.length) ((gdI K i3).c), .int .i64 ((gdI K i3).t.v)] 32 (0, 0)) :: blk bk391 (.cells #[.int .i64 ((gdI K i3).op.v), .int .i64 ((gdI K i3).inp.v), .int .i64 ((gdI K i3).ep.v), .int .i64 ((gdI K i3).kind.v), .slice ((gdI K i3).p) ((gdI K i3).bs.length) ((gdI K i3).c), .int .i64 ((gdI K i3).t.v)] 32 (0, 0)) :: blk bk372 (.cells #[.int .i64 ((gdI K i3).op.v), .int .i64 ((gdI K i3).inp.v), .int .i64 ((gdI K i3).ep.v), .int .i64 ((gdI K i3).kind.v), .slice ((gdI K i3).p) ((gdI K i3).bs.length) ((gdI K i3).c), .int .i64 ((gdI K i3).t.v)] 32 (0, 0)) :: Row 32 6 (.slice pp398 ((QD (K.take (i3 + 1)) 3).length) cc399) ((QD (K.take (i3 + 1)) 3).length) ((QD (K.take (i3 + 1)) 3).flatMap itCell) :: F) := (((((H405.move 13 rfl).move 13 rfl).move 13 rfl).move 13 rfl).move 13 rfl)
                          have H407 : St W w399 (Row 32 6 (.slice pp398 ((QD (K.take (i3 + 1)) 3).length) cc399) ((QD (K.take (i3 + 1)) 3).length) ((QD (K.take (i3 + 1)) 3).flatMap itCell) :: Row 32 6 (.slice pp402 ((w3 ++ (QD (K.take (i3 + 1)) 3)).length) cc403) ((w3 ++ (QD (K.take (i3 + 1)) 3)).length) ((w3 ++ (QD (K.take (i3 + 1)) 3)).flatMap itCell) :: blk bk17 (.cells #[.slice pp124 L0.length cc125, .slice pp231 L1.length cc232, .slice pp340 L2.length cc341, .slice pp398 ((QD (K.take (i3 + 1)) 3).length) cc399] 22 (0, 0)) :: imi (0 < K.length) gA350 (.cells kA352 eA353 zA354) :: Row 32 6 (.slice pp340 L2.length cc341) L2.length (L2.flatMap itCell) :: Row 32 6 (.slice pp231 L1.length cc232) L1.length (L1.flatMap itCell) :: Row 32 6 (.slice pp124 L0.length cc125) L0.length (L0.flatMap itCell) :: Ag :: itsA K :: Ao :: Im 6 (.slice pp1 l.length cc2) l.length (l.flatMap itCell) :: F) := ((((H406.move 13 rfl).drop 11 rfl).drop 11 rfl).drop 11 rfl)
                          exact nx370 (i3 + 1, pp398, cc399, pp402, cc403) _ _ ⟨(by omega), H407⟩ (by first | (dsimp only; omega) | omega) ⟨by first | rfl | exact vint (by omega), by first | rfl | exact vint (by omega), by first | rfl | exact vint (by omega), by first | rfl | exact vint (by omega), by first | rfl | exact vint (by omega), by rw [hq3]; rfl, by first | rfl | exact vint (by omega), by first | rfl | exact vint (by omega), by first | rfl | exact vint (by omega), by first | rfl | exact vint (by omega), by first | rfl | exact vint (by omega), by first | rfl | exact vint (by omega), trivial⟩
                        · intro join391
                          refine g_any mixed 11 rfl ?_
                          intro w408 hw409
                          have H410 := H390.drew
                          rw [← hw409] at H410
                          clear hw409
                          refine a_take 0 (listed' := #[true, false, false, false, false, false, false, false, false, false, false]) rfl (by kernel_rfl) (by kernel_rfl) (by kernel_rfl) rfl rfl rfl rfl (fun w => x_move (.slice (some ⟨bk17, 0, none⟩) 4 4) rfl w) ?_
                          refine a_take 1 (listed' := #[true, true, false, false, false, false, false, false, false, false, false]) rfl (by kernel_rfl) (by kernel_rfl) (by kernel_rfl) rfl rfl rfl rfl (fun w => x_move (.int .i64 3) rfl w) ?_
                          refine a_take 2 (listed' := #[true, true, true, false, false, false, false, false, false, false, false]) rfl (by kernel_rfl) (by kernel_rfl) (by kernel_rfl) rfl rfl rfl rfl (fun w => x_move (.slice (some ⟨bk17, 0, none⟩) 4 4) rfl w) ?_
                          refine a_take 3 (listed' := #[true, true, true, true, false, false, false, false, false, false, false]) rfl (by kernel_rfl) (by kernel_rfl) (by kernel_rfl) rfl rfl rfl rfl (fun w => x_move (.int .i64 3) rfl w) ?_
                          refine a_take 4 (listed' := #[true, true, true, true, true, false, false, false, false, false, false]) rfl (by kernel_rfl) (by kernel_rfl) (by kernel_rfl) rfl rfl rfl rfl (fun w => x_indexAddr bk17 3 1 3 rfl rfl el_27 (by omega) rfl w) ?_
                          refine a_all (rs := [5, 6]) (by kernel_rfl) (by simp) ?_
                          refine a_cons ⟨_, rfl, ?_⟩ (a_cons ⟨_, rfl, ?_⟩ (fun x hx => absurd hx (by simp)))
                          · skip
                            refine s_load (.slice p3 ((QD (K.take i3) 3).length) c3) ag_22 rfl (H410.blk_at (i := 3) rfl) rfl rfl ?_
                            change AnyG _ _ _ _ #[true, true, true, true, true, true, false, false, false, false, false] _ _
                            refine a_all (rs := [6]) (by kernel_rfl) (by simp) ?_
                            refine a_cons ⟨_, rfl, ?_⟩ (fun x hx => absurd hx (by simp))
                            refine s_loadAgg [.int .i64 ((gdI K i3).op.v), .int .i64 ((gdI K i3).inp.v), .int .i64 ((gdI K i3).ep.v), .int .i64 ((gdI K i3).kind.v), .slice ((gdI K i3).p) ((gdI K i3).bs.length) ((gdI K i3).c), .int .i64 ((gdI K i3).t.v)] 6 ag_32 rfl (H410.blk_at (i := 0) rfl) (Nat.le_of_ble_eq_true rfl) rfl rfl ?_
                            change AnyG _ _ _ _ #[true, true, true, true, true, true, true, false, false, false, false] _ _
                            refine a_all (rs := [7]) (by kernel_rfl) (by simp) ?_
                            refine a_cons ⟨_, rfl, ?_⟩ (fun x hx => absurd hx (by simp))
                            refine s_buildSlice H410 6 1 (cs := #[.int .i64 ((gdI K i3).op.v), .int .i64 ((gdI K i3).inp.v), .int .i64 ((gdI K i3).ep.v), .int .i64 ((gdI K i3).kind.v), .slice ((gdI K i3).p) ((gdI K i3).bs.length) ((gdI K i3).c), .int .i64 ((gdI K i3).t.v)]) #[.int .i64 0, .int .i64 0, .int .i64 0, .int .i64 0, .slice none 0 0, .int .i64 0] el_22 ze_32 (by decide) (by decide) (by kernel_rfl) rfl ?_; intro bk411 w412 H413
                            change AnyG _ _ _ _ #[true, true, true, true, true, true, true, true, false, false, false] _ _
                            refine a_all (rs := [8]) (by kernel_rfl) (by simp) ?_
                            refine a_cons ⟨_, rfl, ?_⟩ (fun x hx => absurd hx (by simp))
                            refine s_append H413 2 rfl rfl rfl (rd_blk (H413.blk_at (i := 0) rfl) rfl (Nat.le_of_ble_eq_true rfl) (by simp [Value.oneCell'])) ap_22 (by decide) (by unfold maxLen; omega) (by omega) (n' := (QD (K.take i3) 3).length + 1) (xs' := (QD (K.take i3) 3).flatMap itCell ++ ([.int .i64 ((gdI K i3).op.v), .int .i64 ((gdI K i3).inp.v), .int .i64 ((gdI K i3).ep.v), .int .i64 ((gdI K i3).kind.v), .slice ((gdI K i3).p) ((gdI K i3).bs.length) ((gdI K i3).c), .int .i64 ((gdI K i3).t.v)] : List Value)) (by omega) (by first | rfl | simp) rfl ?_; intro vv414 w415 H416 hn417
                            obtain ⟨pp418, cc419, rfl⟩ := Row.slice H416 (i := 2) rfl
                            change AnyG _ _ _ _ #[true, true, true, true, true, true, true, true, true, false, false] _ _
                            refine a_take 9 (listed' := #[true, true, true, true, true, true, true, true, true, true, false]) rfl (by kernel_rfl) (by kernel_rfl) (by kernel_rfl) rfl rfl rfl rfl (fun w => x_indexAddr bk17 3 1 3 rfl rfl el_27 (by omega) rfl w) ?_
                            refine a_all (rs := [10]) (by kernel_rfl) (by simp) ?_
                            refine a_cons ⟨_, rfl, ?_⟩ (fun x hx => absurd hx (by simp))
                            refine s_store H416 4 (.slice pp418 ((QD (K.take i3) 3).length + 1) cc419) rfl rfl rfl sz_22 rfl (Nat.le_of_ble_eq_true rfl) rfl (cs' := #[.slice pp124 L0.length cc125, .slice pp231 L1.length cc232, .slice pp340 L2.length cc341, .slice pp418 ((QD (K.take i3) 3).length + 1) cc419]) rfl ?_; intro w420 H421
                            change AnyG _ _ _ _ #[true, true, true, true, true, true, true, true, true, true, true] _ _
                            refine a_done (by kernel_rfl) ?_
                            exact join391 (bk411, pp418, cc419) _ _ H421 ⟨rfl, rfl, rfl, rfl, rfl, rfl, rfl, rfl, rfl, rfl, rfl, rfl, rfl, rfl, rfl, rfl, rfl, rfl, rfl, rfl, rfl, rfl, rfl, rfl, rfl, rfl, rfl, rfl, rfl, rfl, rfl, rfl, rfl, rfl, rfl, rfl, rfl, rfl, rfl, rfl, trivial⟩
                          · skip
                            refine s_loadAgg [.int .i64 ((gdI K i3).op.v), .int .i64 ((gdI K i3).inp.v), .int .i64 ((gdI K i3).ep.v), .int .i64 ((gdI K i3).kind.v), .slice ((gdI K i3).p) ((gdI K i3).bs.length) ((gdI K i3).c), .int .i64 ((gdI K i3).t.v)] 6 ag_32 rfl (H410.blk_at (i := 0) rfl) (Nat.le_of_ble_eq_true rfl) rfl rfl ?_
                            change AnyG _ _ _ _ #[true, true, true, true, true, false, true, false, false, false, false] _ _
                            refine a_all (rs := [5, 7]) (by kernel_rfl) (by simp) ?_
                            refine a_cons ⟨_, rfl, ?_⟩ (a_cons ⟨_, rfl, ?_⟩ (fun x hx => absurd hx (by simp)))
                            · skip
                              refine s_load (.slice p3 ((QD (K.take i3) 3).length) c3) ag_22 rfl (H410.blk_at (i := 3) rfl) rfl rfl ?_
                              change AnyG _ _ _ _ #[true, true, true, true, true, true, true, false, false, false, false] _ _
                              refine a_all (rs := [7]) (by kernel_rfl) (by simp) ?_
                              refine a_cons ⟨_, rfl, ?_⟩ (fun x hx => absurd hx (by simp))
                              refine s_buildSlice H410 6 1 (cs := #[.int .i64 ((gdI K i3).op.v), .int .i64 ((gdI K i3).inp.v), .int .i64 ((gdI K i3).ep.v), .int .i64 ((gdI K i3).kind.v), .slice ((gdI K i3).p) ((gdI K i3).bs.length) ((gdI K i3).c), .int .i64 ((gdI K i3).t.v)]) #[.int .i64 0, .int .i64 0, .int .i64 0, .int .i64 0, .slice none 0 0, .int .i64 0] el_22 ze_32 (by decide) (by decide) (by kernel_rfl) rfl ?_; intro bk422 w423 H424
                              change AnyG _ _ _ _ #[true, true, true, true, true, true, true, true, false, false, false] _ _
                              refine a_all (rs := [8]) (by kernel_rfl) (by simp) ?_
                              refine a_cons ⟨_, rfl, ?_⟩ (fun x hx => absurd hx (by simp))
                              refine s_append H424 2 rfl rfl rfl (rd_blk (H424.blk_at (i := 0) rfl) rfl (Nat.le_of_ble_eq_true rfl) (by simp [Value.oneCell'])) ap_22 (by decide) (by unfold maxLen; omega) (by omega) (n' := (QD (K.take i3) 3).length + 1) (xs' := (QD (K.take i3) 3).flatMap itCell ++ ([.int .i64 ((gdI K i3).op.v), .int .i64 ((gdI K i3).inp.v), .int .i64 ((gdI K i3).ep.v), .int .i64 ((gdI K i3).kind.v), .slice ((gdI K i3).p) ((gdI K i3).bs.length) ((gdI K i3).c), .int .i64 ((gdI K i3).t.v)] : List Value)) (by omega) (by first | rfl | simp) rfl ?_; intro vv425 w426 H427 hn428
                              obtain ⟨pp429, cc430, rfl⟩ := Row.slice H427 (i := 2) rfl
                              change AnyG _ _ _ _ #[true, true, true, true, true, true, true, true, true, false, false] _ _
                              refine a_take 9 (listed' := #[true, true, true, true, true, true, true, true, true, true, false]) rfl (by kernel_rfl) (by kernel_rfl) (by kernel_rfl) rfl rfl rfl rfl (fun w => x_indexAddr bk17 3 1 3 rfl rfl el_27 (by omega) rfl w) ?_
                              refine a_all (rs := [10]) (by kernel_rfl) (by simp) ?_
                              refine a_cons ⟨_, rfl, ?_⟩ (fun x hx => absurd hx (by simp))
                              refine s_store H427 4 (.slice pp429 ((QD (K.take i3) 3).length + 1) cc430) rfl rfl rfl sz_22 rfl (Nat.le_of_ble_eq_true rfl) rfl (cs' := #[.slice pp124 L0.length cc125, .slice pp231 L1.length cc232, .slice pp340 L2.length cc341, .slice pp429 ((QD (K.take i3) 3).length + 1) cc430]) rfl ?_; intro w431 H432
                              change AnyG _ _ _ _ #[true, true, true, true, true, true, true, true, true, true, true] _ _
                              refine a_done (by kernel_rfl) ?_
                              exact join391 (bk422, pp429, cc430) _ _ H432 ⟨rfl, rfl, rfl, rfl, rfl, rfl, rfl, rfl, rfl, rfl, rfl, rfl, rfl, rfl, rfl, rfl, rfl, rfl, rfl, rfl, rfl, rfl, rfl, rfl, rfl, rfl, rfl, rfl, rfl, rfl, rfl, rfl, rfl, rfl, rfl, rfl, rfl, rfl, rfl, rfl, trivial⟩
                            · skip
                              refine s_buildSlice H410 6 1 (cs := #[.int .i64 ((gdI K i3).op.v), .int .i64 ((gdI K i3).inp.v), .int .i64 ((gdI K i3).ep.v), .int .i64 ((gdI K i3).kind.v), .slice ((gdI K i3).p) ((gdI K i3).bs.length) ((gdI K i3).c), .int .i64 ((gdI K i3).t.v)]) #[.int .i64 0, .int .i64 0, .int .i64 0, .int .i64 0, .slice none 0 0, .int .i64 0] el_22 ze_32 (by decide) (by decide) (by kernel_rfl) rfl ?_; intro bk433 w434 H435
                              change AnyG _ _ _ _ #[true, true, true, true, true, false, true, true, false, false, false] _ _
                              refine a_all (rs := [5]) (by kernel_rfl) (by simp) ?_
                              refine a_cons ⟨_, rfl, ?_⟩ (fun x hx => absurd hx (by simp))
                              refine s_load (.slice p3 ((QD (K.take i3) 3).length) c3) ag_22 rfl (H435.blk_at (i := 4) rfl) rfl rfl ?_
                              change AnyG _ _ _ _ #[true, true, true, true, true, true, true, true, false, false, false] _ _
                              refine a_all (rs := [8]) (by kernel_rfl) (by simp) ?_
                              refine a_cons ⟨_, rfl, ?_⟩ (fun x hx => absurd hx (by simp))
                              refine s_append H435 2 rfl rfl rfl (rd_blk (H435.blk_at (i := 0) rfl) rfl (Nat.le_of_ble_eq_true rfl) (by simp [Value.oneCell'])) ap_22 (by decide) (by unfold maxLen; omega) (by omega) (n' := (QD (K.take i3) 3).length + 1) (xs' := (QD (K.take i3) 3).flatMap itCell ++ ([.int .i64 ((gdI K i3).op.v), .int .i64 ((gdI K i3).inp.v), .int .i64 ((gdI K i3).ep.v), .int .i64 ((gdI K i3).kind.v), .slice ((gdI K i3).p) ((gdI K i3).bs.length) ((gdI K i3).c), .int .i64 ((gdI K i3).t.v)] : List Value)) (by omega) (by first | rfl | simp) rfl ?_; intro vv436 w437 H438 hn439
                              obtain ⟨pp440, cc441, rfl⟩ := Row.slice H438 (i := 2) rfl
                              change AnyG _ _ _ _ #[true, true, true, true, true, true, true, true, true, false, false] _ _
                              refine a_take 9 (listed' := #[true, true, true, true, true, true, true, true, true, true, false]) rfl (by kernel_rfl) (by kernel_rfl) (by kernel_rfl) rfl rfl rfl rfl (fun w => x_indexAddr bk17 3 1 3 rfl rfl el_27 (by omega) rfl w) ?_
                              refine a_all (rs := [10]) (by kernel_rfl) (by simp) ?_
                              refine a_cons ⟨_, rfl, ?_⟩ (fun x hx => absurd hx (by simp))
                              refine s_store H438 4 (.slice pp440 ((QD (K.take i3) 3).length + 1) cc441) rfl rfl rfl sz_22 rfl (Nat.le_of_ble_eq_true rfl) rfl (cs' := #[.slice pp124 L0.length cc125, .slice pp231 L1.length cc232, .slice pp340 L2.length cc341, .slice pp440 ((QD (K.take i3) 3).length + 1) cc441]) rfl ?_; intro w442 H443
                              change AnyG _ _ _ _ #[true, true, true, true, true, true, true, true, true, true, true] _ _
                              refine a_done (by kernel_rfl) ?_
                              exact join391 (bk433, pp440, cc441) _ _ H443 ⟨rfl, rfl, rfl, rfl, rfl, rfl, rfl, rfl, rfl, rfl, rfl, rfl, rfl, rfl, rfl, rfl, rfl, rfl, rfl, rfl, rfl, rfl, rfl, rfl, rfl, rfl, rfl, rfl, rfl, rfl, rfl, rfl, rfl, rfl, rfl, rfl, rfl, rfl, rfl, rfl, trivial⟩
                      · skip
                        refine s_neq true rfl rfl (nfalse hc387) rfl ?_
                        refine r_cons (s_pick_f (.bool true) rfl rfl rfl ?_)
                        refine r_nil ?_
                        refine g_true rfl ?_
                        refine g_exit (by rfl) ?_
                        refine g_region ?_
                        refine r_cons (s_add ((i3 : Int) + 1) rfl rfl (wi64 (by omega)) rfl ?_)
                        refine r_cons (s_move (.int .i64 ((i3 : Int) + 1)) rfl rfl ?_)
                        refine r_nil ?_
                        have hq := QD_no (L := K) (k := 3) (i := i3) (by omega) (okk_3 hc387)
                        have H444 : St W w385 (Im 6 (.slice ((gdI K i3).p) ((gdI K i3).bs.length) ((gdI K i3).c)) ((gdI K i3).bs.length) ((gdI K i3).bs.flatMap bndCell) :: bndsA ((gdI K i3).bs) :: blk bk372 (.cells #[.int .i64 ((gdI K i3).op.v), .int .i64 ((gdI K i3).inp.v), .int .i64 ((gdI K i3).ep.v), .int .i64 ((gdI K i3).kind.v), .slice ((gdI K i3).p) ((gdI K i3).bs.length) ((gdI K i3).c), .int .i64 ((gdI K i3).t.v)] 32 (0, 0)) :: Row 32 6 (.slice p3 ((QD (K.take (i3 + 1)) 3).length) c3) ((QD (K.take (i3 + 1)) 3).length) ((QD (K.take (i3 + 1)) 3).flatMap itCell) :: Row 32 6 (.slice q3 ((w3 ++ (QD (K.take (i3 + 1)) 3)).length) d3) ((w3 ++ (QD (K.take (i3 + 1)) 3)).length) ((w3 ++ (QD (K.take (i3 + 1)) 3)).flatMap itCell) :: blk bk17 (.cells #[.slice pp124 L0.length cc125, .slice pp231 L1.length cc232, .slice pp340 L2.length cc341, .slice p3 ((QD (K.take (i3 + 1)) 3).length) c3] 22 (0, 0)) :: imi (0 < K.length) gA350 (.cells kA352 eA353 zA354) :: Row 32 6 (.slice pp340 L2.length cc341) L2.length (L2.flatMap itCell) :: Row 32 6 (.slice pp231 L1.length cc232) L1.length (L1.flatMap itCell) :: Row 32 6 (.slice pp124 L0.length cc125) L0.length (L0.flatMap itCell) :: Ag :: itsA K :: Ao :: Im 6 (.slice pp1 l.length cc2) l.length (l.flatMap itCell) :: F) := by rw [hq]; exact H386
                        have H445 : St W w385 (Row 32 6 (.slice pp124 L0.length cc125) L0.length (L0.flatMap itCell) :: Ag :: itsA K :: Ao :: Im 6 (.slice pp1 l.length cc2) l.length (l.flatMap itCell) :: Im 6 (.slice ((gdI K i3).p) ((gdI K i3).bs.length) ((gdI K i3).c)) ((gdI K i3).bs.length) ((gdI K i3).bs.flatMap bndCell) :: bndsA ((gdI K i3).bs) :: blk bk372 (.cells #[.int .i64 ((gdI K i3).op.v), .int .i64 ((gdI K i3).inp.v), .int .i64 ((gdI K i3).ep.v), .int .i64 ((gdI K i3).kind.v), .slice ((gdI K i3).p) ((gdI K i3).bs.length) ((gdI K i3).c), .int .i64 ((gdI K i3).t.v)] 32 (0, 0)) :: Row 32 6 (.slice p3 ((QD (K.take (i3 + 1)) 3).length) c3) ((QD (K.take (i3 + 1)) 3).length) ((QD (K.take (i3 + 1)) 3).flatMap itCell) :: Row 32 6 (.slice q3 ((w3 ++ (QD (K.take (i3 + 1)) 3)).length) d3) ((w3 ++ (QD (K.take (i3 + 1)) 3)).length) ((w3 ++ (QD (K.take (i3 + 1)) 3)).flatMap itCell) :: blk bk17 (.cells #[.slice pp124 L0.length cc125, .slice pp231 L1.length cc232, .slice pp340 L2.length cc341, .slice p3 ((QD (K.take (i3 + 1)) 3).length) c3] 22 (0, 0)) :: imi (0 < K.length) gA350 (.cells kA352 eA353 zA354) :: Row 32 6 (.slice pp340 L2.length cc341) L2.length (L2.flatMap itCell) :: Row 32 6 (.slice pp231 L1.length cc232) L1.length (L1.flatMap itCell) :: F) := (((((H444.move 13 rfl).move 13 rfl).move 13 rfl).move 13 rfl).move 13 rfl)
                        have H446 : St W w385 (Row 32 6 (.slice q3 ((w3 ++ (QD (K.take (i3 + 1)) 3)).length) d3) ((w3 ++ (QD (K.take (i3 + 1)) 3)).length) ((w3 ++ (QD (K.take (i3 + 1)) 3)).flatMap itCell) :: blk bk17 (.cells #[.slice pp124 L0.length cc125, .slice pp231 L1.length cc232, .slice pp340 L2.length cc341, .slice p3 ((QD (K.take (i3 + 1)) 3).length) c3] 22 (0, 0)) :: imi (0 < K.length) gA350 (.cells kA352 eA353 zA354) :: Row 32 6 (.slice pp340 L2.length cc341) L2.length (L2.flatMap itCell) :: Row 32 6 (.slice pp231 L1.length cc232) L1.length (L1.flatMap itCell) :: Row 32 6 (.slice pp124 L0.length cc125) L0.length (L0.flatMap itCell) :: Ag :: itsA K :: Ao :: Im 6 (.slice pp1 l.length cc2) l.length (l.flatMap itCell) :: Im 6 (.slice ((gdI K i3).p) ((gdI K i3).bs.length) ((gdI K i3).c)) ((gdI K i3).bs.length) ((gdI K i3).bs.flatMap bndCell) :: bndsA ((gdI K i3).bs) :: blk bk372 (.cells #[.int .i64 ((gdI K i3).op.v), .int .i64 ((gdI K i3).inp.v), .int .i64 ((gdI K i3).ep.v), .int .i64 ((gdI K i3).kind.v), .slice ((gdI K i3).p) ((gdI K i3).bs.length) ((gdI K i3).c), .int .i64 ((gdI K i3).t.v)] 32 (0, 0)) :: Row 32 6 (.slice p3 ((QD (K.take (i3 + 1)) 3).length) c3) ((QD (K.take (i3 + 1)) 3).length) ((QD (K.take (i3 + 1)) 3).flatMap itCell) :: F) := (((((H445.move 13 rfl).move 13 rfl).move 13 rfl).move 13 rfl).move 13 rfl)
                        have H447 : St W w385 (Row 32 6 (.slice p3 ((QD (K.take (i3 + 1)) 3).length) c3) ((QD (K.take (i3 + 1)) 3).length) ((QD (K.take (i3 + 1)) 3).flatMap itCell) :: Row 32 6 (.slice q3 ((w3 ++ (QD (K.take (i3 + 1)) 3)).length) d3) ((w3 ++ (QD (K.take (i3 + 1)) 3)).length) ((w3 ++ (QD (K.take (i3 + 1)) 3)).flatMap itCell) :: blk bk17 (.cells #[.slice pp124 L0.length cc125, .slice pp231 L1.length cc232, .slice pp340 L2.length cc341, .slice p3 ((QD (K.take (i3 + 1)) 3).length) c3] 22 (0, 0)) :: imi (0 < K.length) gA350 (.cells kA352 eA353 zA354) :: Row 32 6 (.slice pp340 L2.length cc341) L2.length (L2.flatMap itCell) :: Row 32 6 (.slice pp231 L1.length cc232) L1.length (L1.flatMap itCell) :: Row 32 6 (.slice pp124 L0.length cc125) L0.length (L0.flatMap itCell) :: Ag :: itsA K :: Ao :: Im 6 (.slice pp1 l.length cc2) l.length (l.flatMap itCell) :: F) := ((((H446.move 13 rfl).drop 11 rfl).drop 11 rfl).drop 11 rfl)
                        exact nx370 (i3 + 1, p3, c3, q3, d3) _ _ ⟨(by omega), H447⟩ (by first | (dsimp only; omega) | omega) ⟨by first | rfl | exact vint (by omega), by first | rfl | exact vint (by omega), by first | rfl | exact vint (by omega), by first | rfl | exact vint (by omega), by first | rfl | exact vint (by omega), by rw [hq]; rfl, by first | rfl | exact vint (by omega), by first | rfl | exact vint (by omega), by first | rfl | exact vint (by omega), by first | rfl | exact vint (by omega), by first | rfl | exact vint (by omega), by first | rfl | exact vint (by omega), trivial⟩
                  · skip
                    refine r_cons (s_neq true rfl rfl (nfalse hc379) rfl ?_)
                    refine r_cons (s_move (.bool true) rfl rfl ?_)
                    refine r_cons (r_pass rfl rfl rfl rfl rfl ?_)
                    refine r_cons (r_pass rfl rfl rfl rfl rfl ?_)
                    refine r_cons (r_pass rfl rfl rfl rfl rfl ?_)
                    refine r_cons (s_pick_t (.bool true) rfl rfl rfl ?_)
                    refine r_cons (s_move (.bool true) rfl rfl ?_)
                    refine r_cons (r_pass rfl rfl rfl rfl rfl ?_)
                    refine r_cons (r_pass rfl rfl rfl rfl rfl ?_)
                    refine r_cons (r_pass rfl rfl rfl rfl rfl ?_)
                    refine r_cons (s_pick_t (.bool true) rfl rfl rfl ?_)
                    refine r_nil ?_
                    refine g_true rfl ?_
                    refine g_exit (by rfl) ?_
                    refine g_region ?_
                    refine r_cons (s_add ((i3 : Int) + 1) rfl rfl (wi64 (by omega)) rfl ?_)
                    refine r_cons (s_move (.int .i64 ((i3 : Int) + 1)) rfl rfl ?_)
                    refine r_nil ?_
                    have hq := QD_no (L := K) (k := 3) (i := i3) (by omega) (okk_1 (k := 3) (by simpa using hc379))
                    have H448 : St W w375 (Im 6 (.slice ((gdI K i3).p) ((gdI K i3).bs.length) ((gdI K i3).c)) ((gdI K i3).bs.length) ((gdI K i3).bs.flatMap bndCell) :: bndsA ((gdI K i3).bs) :: blk bk372 (.cells #[.int .i64 ((gdI K i3).op.v), .int .i64 ((gdI K i3).inp.v), .int .i64 ((gdI K i3).ep.v), .int .i64 ((gdI K i3).kind.v), .slice ((gdI K i3).p) ((gdI K i3).bs.length) ((gdI K i3).c), .int .i64 ((gdI K i3).t.v)] 32 (0, 0)) :: Row 32 6 (.slice p3 ((QD (K.take (i3 + 1)) 3).length) c3) ((QD (K.take (i3 + 1)) 3).length) ((QD (K.take (i3 + 1)) 3).flatMap itCell) :: Row 32 6 (.slice q3 ((w3 ++ (QD (K.take (i3 + 1)) 3)).length) d3) ((w3 ++ (QD (K.take (i3 + 1)) 3)).length) ((w3 ++ (QD (K.take (i3 + 1)) 3)).flatMap itCell) :: blk bk17 (.cells #[.slice pp124 L0.length cc125, .slice pp231 L1.length cc232, .slice pp340 L2.length cc341, .slice p3 ((QD (K.take (i3 + 1)) 3).length) c3] 22 (0, 0)) :: imi (0 < K.length) gA350 (.cells kA352 eA353 zA354) :: Row 32 6 (.slice pp340 L2.length cc341) L2.length (L2.flatMap itCell) :: Row 32 6 (.slice pp231 L1.length cc232) L1.length (L1.flatMap itCell) :: Row 32 6 (.slice pp124 L0.length cc125) L0.length (L0.flatMap itCell) :: Ag :: itsA K :: Ao :: Im 6 (.slice pp1 l.length cc2) l.length (l.flatMap itCell) :: F) := by rw [hq]; exact H378
                    have H449 : St W w375 (Row 32 6 (.slice pp124 L0.length cc125) L0.length (L0.flatMap itCell) :: Ag :: itsA K :: Ao :: Im 6 (.slice pp1 l.length cc2) l.length (l.flatMap itCell) :: Im 6 (.slice ((gdI K i3).p) ((gdI K i3).bs.length) ((gdI K i3).c)) ((gdI K i3).bs.length) ((gdI K i3).bs.flatMap bndCell) :: bndsA ((gdI K i3).bs) :: blk bk372 (.cells #[.int .i64 ((gdI K i3).op.v), .int .i64 ((gdI K i3).inp.v), .int .i64 ((gdI K i3).ep.v), .int .i64 ((gdI K i3).kind.v), .slice ((gdI K i3).p) ((gdI K i3).bs.length) ((gdI K i3).c), .int .i64 ((gdI K i3).t.v)] 32 (0, 0)) :: Row 32 6 (.slice p3 ((QD (K.take (i3 + 1)) 3).length) c3) ((QD (K.take (i3 + 1)) 3).length) ((QD (K.take (i3 + 1)) 3).flatMap itCell) :: Row 32 6 (.slice q3 ((w3 ++ (QD (K.take (i3 + 1)) 3)).length) d3) ((w3 ++ (QD (K.take (i3 + 1)) 3)).length) ((w3 ++ (QD (K.take (i3 + 1)) 3)).flatMap itCell) :: blk bk17 (.cells #[.slice pp124 L0.length cc125, .slice pp231 L1.length cc232, .slice pp340 L2.length cc341, .slice p3 ((QD (K.take (i3 + 1)) 3).length) c3] 22 (0, 0)) :: imi (0 < K.length) gA350 (.cells kA352 eA353 zA354) :: Row 32 6 (.slice pp340 L2.length cc341) L2.length (L2.flatMap itCell) :: Row 32 6 (.slice pp231 L1.length cc232) L1.length (L1.flatMap itCell) :: F) := (((((H448.move 13 rfl).move 13 rfl).move 13 rfl).move 13 rfl).move 13 rfl)
                    have H450 : St W w375 (Row 32 6 (.slice q3 ((w3 ++ (QD (K.take (i3 + 1)) 3)).length) d3) ((w3 ++ (QD (K.take (i3 + 1)) 3)).length) ((w3 ++ (QD (K.take (i3 + 1)) 3)).flatMap itCell) :: blk bk17 (.cells #[.slice pp124 L0.length cc125, .slice pp231 L1.length cc232, .slice pp340 L2.length cc341, .slice p3 ((QD (K.take (i3 + 1)) 3).length) c3] 22 (0, 0)) :: imi (0 < K.length) gA350 (.cells kA352 eA353 zA354) :: Row 32 6 (.slice pp340 L2.length cc341) L2.length (L2.flatMap itCell) :: Row 32 6 (.slice pp231 L1.length cc232) L1.length (L1.flatMap itCell) :: Row 32 6 (.slice pp124 L0.length cc125) L0.length (L0.flatMap itCell) :: Ag :: itsA K :: Ao :: Im 6 (.slice pp1 l.length cc2) l.length (l.flatMap itCell) :: Im 6 (.slice ((gdI K i3).p) ((gdI K i3).bs.length) ((gdI K i3).c)) ((gdI K i3).bs.length) ((gdI K i3).bs.flatMap bndCell) :: bndsA ((gdI K i3).bs) :: blk bk372 (.cells #[.int .i64 ((gdI K i3).op.v), .int .i64 ((gdI K i3).inp.v), .int .i64 ((gdI K i3).ep.v), .int .i64 ((gdI K i3).kind.v), .slice ((gdI K i3).p) ((gdI K i3).bs.length) ((gdI K i3).c), .int .i64 ((gdI K i3).t.v)] 32 (0, 0)) :: Row 32 6 (.slice p3 ((QD (K.take (i3 + 1)) 3).length) c3) ((QD (K.take (i3 + 1)) 3).length) ((QD (K.take (i3 + 1)) 3).flatMap itCell) :: F) := (((((H449.move 13 rfl).move 13 rfl).move 13 rfl).move 13 rfl).move 13 rfl)
                    have H451 : St W w375 (Row 32 6 (.slice p3 ((QD (K.take (i3 + 1)) 3).length) c3) ((QD (K.take (i3 + 1)) 3).length) ((QD (K.take (i3 + 1)) 3).flatMap itCell) :: Row 32 6 (.slice q3 ((w3 ++ (QD (K.take (i3 + 1)) 3)).length) d3) ((w3 ++ (QD (K.take (i3 + 1)) 3)).length) ((w3 ++ (QD (K.take (i3 + 1)) 3)).flatMap itCell) :: blk bk17 (.cells #[.slice pp124 L0.length cc125, .slice pp231 L1.length cc232, .slice pp340 L2.length cc341, .slice p3 ((QD (K.take (i3 + 1)) 3).length) c3] 22 (0, 0)) :: imi (0 < K.length) gA350 (.cells kA352 eA353 zA354) :: Row 32 6 (.slice pp340 L2.length cc341) L2.length (L2.flatMap itCell) :: Row 32 6 (.slice pp231 L1.length cc232) L1.length (L1.flatMap itCell) :: Row 32 6 (.slice pp124 L0.length cc125) L0.length (L0.flatMap itCell) :: Ag :: itsA K :: Ao :: Im 6 (.slice pp1 l.length cc2) l.length (l.flatMap itCell) :: F) := ((((H450.move 13 rfl).drop 11 rfl).drop 11 rfl).drop 11 rfl)
                    exact nx370 (i3 + 1, p3, c3, q3, d3) _ _ ⟨(by omega), H451⟩ (by first | (dsimp only; omega) | omega) ⟨by first | rfl | exact vint (by omega), by first | rfl | exact vint (by omega), by first | rfl | exact vint (by omega), by first | rfl | exact vint (by omega), by first | rfl | exact vint (by omega), by rw [hq]; rfl, by first | rfl | exact vint (by omega), by first | rfl | exact vint (by omega), by first | rfl | exact vint (by omega), by first | rfl | exact vint (by omega), by first | rfl | exact vint (by omega), by first | rfl | exact vint (by omega), trivial⟩
                · skip
                  refine r_cons (s_lss false rfl rfl (dfalse hc371) rfl ?_)
                  refine r_nil ?_
                  refine g_seq ?_
                  refine g_false rfl ?_
                  refine g_exit (by rfl) ?_
                  refine g_region ?_
                  refine r_cons (s_move (.slice (some ⟨bk17, 0, none⟩) 4 4) rfl rfl ?_)
                  refine r_cons (s_move (.int .i64 3) rfl rfl ?_)
                  refine r_cons (s_move (.slice (some ⟨bk17, 0, none⟩) 4 4) rfl rfl ?_)
                  refine r_cons (s_move (.int .i64 3) rfl rfl ?_)
                  refine r_cons (s_indexAddr bk17 3 1 3 rfl rfl el_27 (by omega) rfl rfl ?_)
                  refine r_cons (s_load (.slice p3 ((QD (K.take i3) 3).length) c3) ag_22 rfl (H369.blk_at (i := 2) rfl) rfl rfl ?_)
                  refine r_cons (s_move (.int .i64 3) rfl rfl ?_)
                  refine r_cons (s_build (cs := #[.int .i64 0, .int .i64 0, .int .i64 3, .int .i64 3, .slice none 0 0, .int .i64 0]) (by kernel_rfl) rfl ?_)
                  refine r_cons (s_buildSlice H369 6 1 (cs := #[.int .i64 0, .int .i64 0, .int .i64 3, .int .i64 3, .slice none 0 0, .int .i64 0]) #[.int .i64 0, .int .i64 0, .int .i64 0, .int .i64 0, .slice none 0 0, .int .i64 0] el_22 ze_32 (by decide) (by decide) (by kernel_rfl) rfl ?_); intro bk452 w453 H454
                  refine r_cons (s_append H454 1 rfl rfl rfl (rd_blk (H454.blk_at (i := 0) rfl) rfl (Nat.le_of_ble_eq_true rfl) (by simp [Value.oneCell'])) ap_22 (by decide) (by unfold maxLen; omega) (by omega) (n' := (QD (K.take i3) 3).length + 1) (xs' := (QD (K.take i3) 3).flatMap itCell ++ ([.int .i64 0, .int .i64 0, .int .i64 3, .int .i64 3, .slice none 0 0, .int .i64 0] : List Value)) (by omega) (by first | rfl | simp) rfl ?_); intro vv455 w456 H457 hn458
                  obtain ⟨pp459, cc460, rfl⟩ := Row.slice H457 (i := 1) rfl
                  refine r_cons (s_indexAddr bk17 3 1 3 rfl rfl el_27 (by omega) rfl rfl ?_)
                  refine r_cons (s_store H457 3 (.slice pp459 ((QD (K.take i3) 3).length + 1) cc460) rfl rfl rfl sz_22 rfl (Nat.le_of_ble_eq_true rfl) rfl (cs' := #[.slice pp124 L0.length cc125, .slice pp231 L1.length cc232, .slice pp340 L2.length cc341, .slice pp459 ((QD (K.take i3) 3).length + 1) cc460]) rfl ?_); intro w461 H462
                  refine r_nil ?_
                  refine g_inBlock ?_
                  refine g_region ?_
                  refine r_cons (s_add 4 rfl rfl (wi64 (by omega)) rfl ?_)
                  refine r_cons (s_move (.int .i64 4) rfl rfl ?_)
                  refine r_nil ?_
                  refine g_inLoop ?_
                  refine g_seq ?_
                  refine g_region ?_
                  refine r_cons (s_lss false rfl rfl (dfalse (by decide)) rfl ?_)
                  refine r_nil ?_
                  refine g_seq ?_
                  refine g_false rfl ?_
                  refine g_exit (by rfl) ?_
                  refine g_seq ?_
                  refine g_region ?_
                  refine r_cons (s_assign (.slice none 0 0) rfl rfl ?_)
                  refine r_nil ?_
                  refine g_seq ?_
                  refine g_seq ?_
                  refine g_region ?_
                  refine r_cons (s_assign (.int .i64 0) rfl rfl ?_)
                  refine r_nil ?_
                  refine g_block ?_
                  have H463 : St W w461 (blk bk452 (.cells #[.int .i64 0, .int .i64 0, .int .i64 3, .int .i64 3, .slice none 0 0, .int .i64 0] 32 (0, 0)) :: Row 32 6 (.slice pp459 ((QD (K.take i3) 3).length + 1) cc460) ((QD (K.take i3) 3).length + 1) ((QD (K.take i3) 3).flatMap itCell ++ ([.int .i64 0, .int .i64 0, .int .i64 3, .int .i64 3, .slice none 0 0, .int .i64 0] : List Value)) :: Row 32 6 (.slice q3 ((w3 ++ (QD (K.take i3) 3)).length) d3) ((w3 ++ (QD (K.take i3) 3)).length) ((w3 ++ (QD (K.take i3) 3)).flatMap itCell) :: blk bk17 (.cells #[.slice pp124 L0.length cc125, .slice pp231 L1.length cc232, .slice pp340 L2.length cc341, .slice pp459 ((QD (K.take i3) 3).length + 1) cc460] 22 (0, 0)) :: imi (0 < K.length) gA350 (.cells kA352 eA353 zA354) :: Row 32 6 (.slice pp340 L2.length cc341) L2.length (L2.flatMap itCell) :: Row 32 6 (.slice pp231 L1.length cc232) L1.length (L1.flatMap itCell) :: Row 32 6 (.slice pp124 L0.length cc125) L0.length (L0.flatMap itCell) :: blk bk12 (.cells #[.bool true, .int .i64 0, .slice none 0 0] 80 (0, 0)) :: itsA K :: Im 1 (.slice pp5 od.length cc6) od.length (od.flatMap u8c) :: Im 6 (.slice pp1 l.length cc2) l.length (l.flatMap itCell) :: F) := by rw [← hAg, ← hAo]; exact H462
                  have htk : ∀ i : Nat, ¬ (i : Int) < ((min l.length 40 : Nat) : Int) → K.take i = K := fun i h => List.take_of_length_le (by omega)
                  obtain ⟨L3, hL3⟩ : ∃ L, L = (QD (K.take i3) 3) ++ [endD 3] := ⟨_, rfl⟩
                  obtain ⟨w4, hw4⟩ : ∃ L, L = w3 ++ (QD (K.take i3) 3) := ⟨_, rfl⟩
                  have hpn3 : L3.length = (QD (K.take i3) 3).length + 1 := by rw [hL3]; simp
                  have hpf3 : L3.flatMap itCell = (QD (K.take i3) 3).flatMap itCell ++ itCell (endD 3) := by rw [hL3]; simp
                  have H464 : St W w461 (blk bk452 (.cells #[.int .i64 0, .int .i64 0, .int .i64 3, .int .i64 3, .slice none 0 0, .int .i64 0] 32 (0, 0)) :: Row 32 6 (.slice pp459 L3.length cc460) L3.length (L3.flatMap itCell) :: Row 32 6 (.slice q3 w4.length d3) w4.length (w4.flatMap itCell) :: blk bk17 (.cells #[.slice pp124 L0.length cc125, .slice pp231 L1.length cc232, .slice pp340 L2.length cc341, .slice pp459 L3.length cc460] 22 (0, 0)) :: imi (0 < K.length) gA350 (.cells kA352 eA353 zA354) :: Row 32 6 (.slice pp340 L2.length cc341) L2.length (L2.flatMap itCell) :: Row 32 6 (.slice pp231 L1.length cc232) L1.length (L1.flatMap itCell) :: Row 32 6 (.slice pp124 L0.length cc125) L0.length (L0.flatMap itCell) :: blk bk12 (.cells #[.bool true, .int .i64 0, .slice none 0 0] 80 (0, 0)) :: itsA K :: Im 1 (.slice pp5 od.length cc6) od.length (od.flatMap u8c) :: Im 6 (.slice pp1 l.length cc2) l.length (l.flatMap itCell) :: F) := by rw [hpn3, hpf3, hw4]; exact H463
                  have hwl4 : w4.length ≤ 40 * 4 := by rw [hw4, List.length_append]; omega
                  have hK0 : L0 = QD K 0 ++ [endD 0] := by rw [hL0, htk i0 (by omega)]
                  have hK1 : L1 = QD K 1 ++ [endD 1] := by rw [hL1, htk i1 (by omega)]
                  have hK2 : L2 = QD K 2 ++ [endD 2] := by rw [hL2, htk i2 (by omega)]
                  have hK3 : L3 = QD K 3 ++ [endD 3] := by rw [hL3, htk i3 (by omega)]
                  have hwK : w4 = ((((([] : List ItemD) ++ (QD K 0)) ++ (QD K 1)) ++ (QD K 2)) ++ (QD K 3)) := by rw [hw4, hw3, hw2, hw1, hw0, htk i0 (by omega), htk i1 (by omega), htk i2 (by omega), htk i3 (by omega)]
                  have H465 : St W w461 (blk bk452 (.cells #[.int .i64 0, .int .i64 0, .int .i64 3, .int .i64 3, .slice none 0 0, .int .i64 0] 32 (0, 0)) :: Row 32 6 (.slice pp459 L3.length cc460) L3.length (L3.flatMap itCell) :: Row 32 6 (.slice q3 w4.length d3) w4.length (w4.flatMap itCell) :: blk bk17 (.cells #[.slice pp124 L0.length cc125, .slice pp231 L1.length cc232, .slice pp340 L2.length cc341, .slice pp459 L3.length cc460] 22 (0, 0)) :: imi (0 < K.length) gA350 (.cells kA352 eA353 zA354) :: Row 32 6 (.slice pp340 L2.length cc341) L2.length (L2.flatMap itCell) :: Row 32 6 (.slice pp231 L1.length cc232) L1.length (L1.flatMap itCell) :: Im 6 (.slice pp124 L0.length cc125) L0.length (L0.flatMap itCell) :: blk bk12 (.cells #[.bool true, .int .i64 0, .slice none 0 0] 80 (0, 0)) :: itsA K :: Im 1 (.slice pp5 od.length cc6) od.length (od.flatMap u8c) :: Im 6 (.slice pp1 l.length cc2) l.length (l.flatMap itCell) :: F) := Row.im H464 (i := 7) rfl
                  have H466 : St W w461 (blk bk452 (.cells #[.int .i64 0, .int .i64 0, .int .i64 3, .int .i64 3, .slice none 0 0, .int .i64 0] 32 (0, 0)) :: Row 32 6 (.slice pp459 L3.length cc460) L3.length (L3.flatMap itCell) :: Row 32 6 (.slice q3 w4.length d3) w4.length (w4.flatMap itCell) :: blk bk17 (.cells #[.slice pp124 L0.length cc125, .slice pp231 L1.length cc232, .slice pp340 L2.length cc341, .slice pp459 L3.length cc460] 22 (0, 0)) :: imi (0 < K.length) gA350 (.cells kA352 eA353 zA354) :: Row 32 6 (.slice pp340 L2.length cc341) L2.length (L2.flatMap itCell) :: Im 6 (.slice pp231 L1.length cc232) L1.length (L1.flatMap itCell) :: Im 6 (.slice pp124 L0.length cc125) L0.length (L0.flatMap itCell) :: blk bk12 (.cells #[.bool true, .int .i64 0, .slice none 0 0] 80 (0, 0)) :: itsA K :: Im 1 (.slice pp5 od.length cc6) od.length (od.flatMap u8c) :: Im 6 (.slice pp1 l.length cc2) l.length (l.flatMap itCell) :: F) := Row.im H465 (i := 6) rfl
                  have H467 : St W w461 (blk bk452 (.cells #[.int .i64 0, .int .i64 0, .int .i64 3, .int .i64 3, .slice none 0 0, .int .i64 0] 32 (0, 0)) :: Row 32 6 (.slice pp459 L3.length cc460) L3.length (L3.flatMap itCell) :: Row 32 6 (.slice q3 w4.length d3) w4.length (w4.flatMap itCell) :: blk bk17 (.cells #[.slice pp124 L0.length cc125, .slice pp231 L1.length cc232, .slice pp340 L2.length cc341, .slice pp459 L3.length cc460] 22 (0, 0)) :: imi (0 < K.length) gA350 (.cells kA352 eA353 zA354) :: Im 6 (.slice pp340 L2.length cc341) L2.length (L2.flatMap itCell) :: Im 6 (.slice pp231 L1.length cc232) L1.length (L1.flatMap itCell) :: Im 6 (.slice pp124 L0.length cc125) L0.length (L0.flatMap itCell) :: blk bk12 (.cells #[.bool true, .int .i64 0, .slice none 0 0] 80 (0, 0)) :: itsA K :: Im 1 (.slice pp5 od.length cc6) od.length (od.flatMap u8c) :: Im 6 (.slice pp1 l.length cc2) l.length (l.flatMap itCell) :: F) := Row.im H466 (i := 5) rfl
                  have H468 : St W w461 (blk bk452 (.cells #[.int .i64 0, .int .i64 0, .int .i64 3, .int .i64 3, .slice none 0 0, .int .i64 0] 32 (0, 0)) :: Im 6 (.slice pp459 L3.length cc460) L3.length (L3.flatMap itCell) :: Row 32 6 (.slice q3 w4.length d3) w4.length (w4.flatMap itCell) :: blk bk17 (.cells #[.slice pp124 L0.length cc125, .slice pp231 L1.length cc232, .slice pp340 L2.length cc341, .slice pp459 L3.length cc460] 22 (0, 0)) :: imi (0 < K.length) gA350 (.cells kA352 eA353 zA354) :: Im 6 (.slice pp340 L2.length cc341) L2.length (L2.flatMap itCell) :: Im 6 (.slice pp231 L1.length cc232) L1.length (L1.flatMap itCell) :: Im 6 (.slice pp124 L0.length cc125) L0.length (L0.flatMap itCell) :: blk bk12 (.cells #[.bool true, .int .i64 0, .slice none 0 0] 80 (0, 0)) :: itsA K :: Im 1 (.slice pp5 od.length cc6) od.length (od.flatMap u8c) :: Im 6 (.slice pp1 l.length cc2) l.length (l.flatMap itCell) :: F) := Row.im H467 (i := 1) rfl
                  have H469 := Row.im (Row.nil_intro H468 32 6) (i := 0) rfl
                  have H470 : St W w461 (itsA L0 :: Im 6 (.slice none 0 0) 0 [] :: blk bk452 (.cells #[.int .i64 0, .int .i64 0, .int .i64 3, .int .i64 3, .slice none 0 0, .int .i64 0] 32 (0, 0)) :: Im 6 (.slice pp459 L3.length cc460) L3.length (L3.flatMap itCell) :: Row 32 6 (.slice q3 w4.length d3) w4.length (w4.flatMap itCell) :: blk bk17 (.cells #[.slice pp124 L0.length cc125, .slice pp231 L1.length cc232, .slice pp340 L2.length cc341, .slice pp459 L3.length cc460] 22 (0, 0)) :: imi (0 < K.length) gA350 (.cells kA352 eA353 zA354) :: Im 6 (.slice pp340 L2.length cc341) L2.length (L2.flatMap itCell) :: Im 6 (.slice pp231 L1.length cc232) L1.length (L1.flatMap itCell) :: Im 6 (.slice pp124 L0.length cc125) L0.length (L0.flatMap itCell) :: blk bk12 (.cells #[.bool true, .int .i64 0, .slice none 0 0] 80 (0, 0)) :: itsA K :: Im 1 (.slice pp5 od.length cc6) od.length (od.flatMap u8c) :: Im 6 (.slice pp1 l.length cc2) l.length (l.flatMap itCell) :: F) := by have h9 := itsA_full (M := K) 0 H469 (i := 10) (j := 0) rfl rfl (fun x hx => hx); rw [← hK0] at h9; exact h9
                  have H471 : St W w461 (itsA L1 :: itsA L0 :: Im 6 (.slice none 0 0) 0 [] :: blk bk452 (.cells #[.int .i64 0, .int .i64 0, .int .i64 3, .int .i64 3, .slice none 0 0, .int .i64 0] 32 (0, 0)) :: Im 6 (.slice pp459 L3.length cc460) L3.length (L3.flatMap itCell) :: Row 32 6 (.slice q3 w4.length d3) w4.length (w4.flatMap itCell) :: blk bk17 (.cells #[.slice pp124 L0.length cc125, .slice pp231 L1.length cc232, .slice pp340 L2.length cc341, .slice pp459 L3.length cc460] 22 (0, 0)) :: imi (0 < K.length) gA350 (.cells kA352 eA353 zA354) :: Im 6 (.slice pp340 L2.length cc341) L2.length (L2.flatMap itCell) :: Im 6 (.slice pp231 L1.length cc232) L1.length (L1.flatMap itCell) :: Im 6 (.slice pp124 L0.length cc125) L0.length (L0.flatMap itCell) :: blk bk12 (.cells #[.bool true, .int .i64 0, .slice none 0 0] 80 (0, 0)) :: itsA K :: Im 1 (.slice pp5 od.length cc6) od.length (od.flatMap u8c) :: Im 6 (.slice pp1 l.length cc2) l.length (l.flatMap itCell) :: F) := by have h9 := itsA_full (M := K) 1 H470 (i := 11) (j := 1) rfl rfl (fun x hx => hx); rw [← hK1] at h9; exact h9
                  have H472 : St W w461 (itsA L2 :: itsA L1 :: itsA L0 :: Im 6 (.slice none 0 0) 0 [] :: blk bk452 (.cells #[.int .i64 0, .int .i64 0, .int .i64 3, .int .i64 3, .slice none 0 0, .int .i64 0] 32 (0, 0)) :: Im 6 (.slice pp459 L3.length cc460) L3.length (L3.flatMap itCell) :: Row 32 6 (.slice q3 w4.length d3) w4.length (w4.flatMap itCell) :: blk bk17 (.cells #[.slice pp124 L0.length cc125, .slice pp231 L1.length cc232, .slice pp340 L2.length cc341, .slice pp459 L3.length cc460] 22 (0, 0)) :: imi (0 < K.length) gA350 (.cells kA352 eA353 zA354) :: Im 6 (.slice pp340 L2.length cc341) L2.length (L2.flatMap itCell) :: Im 6 (.slice pp231 L1.length cc232) L1.length (L1.flatMap itCell) :: Im 6 (.slice pp124 L0.length cc125) L0.length (L0.flatMap itCell) :: blk bk12 (.cells #[.bool true, .int .i64 0, .slice none 0 0] 80 (0, 0)) :: itsA K :: Im 1 (.slice pp5 od.length cc6) od.length (od.flatMap u8c) :: Im 6 (.slice pp1 l.length cc2) l.length (l.flatMap itCell) :: F) := by have h9 := itsA_full (M := K) 2 H471 (i := 12) (j := 2) rfl rfl (fun x hx => hx); rw [← hK2] at h9; exact h9
                  have H473 : St W w461 (itsA L3 :: itsA L2 :: itsA L1 :: itsA L0 :: Im 6 (.slice none 0 0) 0 [] :: blk bk452 (.cells #[.int .i64 0, .int .i64 0, .int .i64 3, .int .i64 3, .slice none 0 0, .int .i64 0] 32 (0, 0)) :: Im 6 (.slice pp459 L3.length cc460) L3.length (L3.flatMap itCell) :: Row 32 6 (.slice q3 w4.length d3) w4.length (w4.flatMap itCell) :: blk bk17 (.cells #[.slice pp124 L0.length cc125, .slice pp231 L1.length cc232, .slice pp340 L2.length cc341, .slice pp459 L3.length cc460] 22 (0, 0)) :: imi (0 < K.length) gA350 (.cells kA352 eA353 zA354) :: Im 6 (.slice pp340 L2.length cc341) L2.length (L2.flatMap itCell) :: Im 6 (.slice pp231 L1.length cc232) L1.length (L1.flatMap itCell) :: Im 6 (.slice pp124 L0.length cc125) L0.length (L0.flatMap itCell) :: blk bk12 (.cells #[.bool true, .int .i64 0, .slice none 0 0] 80 (0, 0)) :: itsA K :: Im 1 (.slice pp5 od.length cc6) od.length (od.flatMap u8c) :: Im 6 (.slice pp1 l.length cc2) l.length (l.flatMap itCell) :: F) := by have h9 := itsA_full (M := K) 3 H472 (i := 13) (j := 3) rfl rfl (fun x hx => hx); rw [← hK3] at h9; exact h9
                  have H474 := itsA_sub (M := w4) H473 (i := 14) rfl (fun x hx => by rw [hwK] at hx; simp only [List.mem_append, List.not_mem_nil, false_or] at hx; rcases hx with ((h | h) | h) | h <;> exact (QD_mem h).1)
                  have H475 : St W w461 (Im 6 (.slice pp124 L0.length cc125) L0.length (L0.flatMap itCell) :: itsA L0 :: Im 6 (.slice pp231 L1.length cc232) L1.length (L1.flatMap itCell) :: itsA L1 :: Im 6 (.slice pp340 L2.length cc341) L2.length (L2.flatMap itCell) :: itsA L2 :: Im 6 (.slice pp459 L3.length cc460) L3.length (L3.flatMap itCell) :: itsA L3 :: itsA w4 :: Im 6 (.slice none 0 0) 0 [] :: blk bk452 (.cells #[.int .i64 0, .int .i64 0, .int .i64 3, .int .i64 3, .slice none 0 0, .int .i64 0] 32 (0, 0)) :: Row 32 6 (.slice q3 w4.length d3) w4.length (w4.flatMap itCell) :: blk bk17 (.cells #[.slice pp124 L0.length cc125, .slice pp231 L1.length cc232, .slice pp340 L2.length cc341, .slice pp459 L3.length cc460] 22 (0, 0)) :: imi (0 < K.length) gA350 (.cells kA352 eA353 zA354) :: blk bk12 (.cells #[.bool true, .int .i64 0, .slice none 0 0] 80 (0, 0)) :: itsA K :: Im 1 (.slice pp5 od.length cc6) od.length (od.flatMap u8c) :: Im 6 (.slice pp1 l.length cc2) l.length (l.flatMap itCell) :: F) := ((((((((H474.move 1 rfl).move 7 rfl).move 3 rfl).move 11 rfl).move 5 rfl).move 12 rfl).move 7 rfl).move 13 rfl)
                  have H476 : St W w461 (plsA [(⟨pp124, cc125, L0⟩ : PlD), (⟨pp231, cc232, L1⟩ : PlD), (⟨pp340, cc341, L2⟩ : PlD), (⟨pp459, cc460, L3⟩ : PlD)] :: Im 6 (.slice pp124 L0.length cc125) L0.length (L0.flatMap itCell) :: itsA L0 :: Im 6 (.slice pp231 L1.length cc232) L1.length (L1.flatMap itCell) :: itsA L1 :: Im 6 (.slice pp340 L2.length cc341) L2.length (L2.flatMap itCell) :: itsA L2 :: Im 6 (.slice pp459 L3.length cc460) L3.length (L3.flatMap itCell) :: itsA L3 :: itsA w4 :: Im 6 (.slice none 0 0) 0 [] :: blk bk452 (.cells #[.int .i64 0, .int .i64 0, .int .i64 3, .int .i64 3, .slice none 0 0, .int .i64 0] 32 (0, 0)) :: Row 32 6 (.slice q3 w4.length d3) w4.length (w4.flatMap itCell) :: blk bk17 (.cells #[.slice pp124 L0.length cc125, .slice pp231 L1.length cc232, .slice pp340 L2.length cc341, .slice pp459 L3.length cc460] 22 (0, 0)) :: imi (0 < K.length) gA350 (.cells kA352 eA353 zA354) :: blk bk12 (.cells #[.bool true, .int .i64 0, .slice none 0 0] 80 (0, 0)) :: itsA K :: Im 1 (.slice pp5 od.length cc6) od.length (od.flatMap u8c) :: Im 6 (.slice pp1 l.length cc2) l.length (l.flatMap itCell) :: F) := plsA_4 (a := (⟨pp124, cc125, L0⟩ : PlD)) (b := (⟨pp231, cc232, L1⟩ : PlD)) (c := (⟨pp340, cc341, L2⟩ : PlD)) (d := (⟨pp459, cc460, L3⟩ : PlD)) H475
                  have H477 : St W w461 (plsA [(⟨pp124, cc125, L0⟩ : PlD), (⟨pp231, cc232, L1⟩ : PlD), (⟨pp340, cc341, L2⟩ : PlD), (⟨pp459, cc460, L3⟩ : PlD)] :: Im 6 (.slice pp124 L0.length cc125) L0.length (L0.flatMap itCell) :: itsA L0 :: Im 6 (.slice pp231 L1.length cc232) L1.length (L1.flatMap itCell) :: itsA L1 :: Im 6 (.slice pp340 L2.length cc341) L2.length (L2.flatMap itCell) :: itsA L2 :: Im 6 (.slice pp459 L3.length cc460) L3.length (L3.flatMap itCell) :: itsA L3 :: itsA w4 :: Im 6 (.slice none 0 0) 0 [] :: blk bk452 (.cells #[.int .i64 0, .int .i64 0, .int .i64 3, .int .i64 3, .slice none 0 0, .int .i64 0] 32 (0, 0)) :: Row 32 6 (.slice q3 w4.length d3) w4.length (w4.flatMap itCell) :: Row 22 1 (.slice (some ⟨bk17, 0, none⟩) 4 4) 4 ([(⟨pp124, cc125, L0⟩ : PlD), (⟨pp231, cc232, L1⟩ : PlD), (⟨pp340, cc341, L2⟩ : PlD), (⟨pp459, cc460, L3⟩ : PlD)].flatMap plCell) :: imi (0 < K.length) gA350 (.cells kA352 eA353 zA354) :: blk bk12 (.cells #[.bool true, .int .i64 0, .slice none 0 0] 80 (0, 0)) :: itsA K :: Im 1 (.slice pp5 od.length cc6) od.length (od.flatMap u8c) :: Im 6 (.slice pp1 l.length cc2) l.length (l.flatMap itCell) :: F) := Row.of_blk (n := 4) (size := 1) H476 (i := 13) rfl (by unfold maxLen; omega) rfl (fun x_ hx_ => by obtain ⟨a_, _, ha_⟩ := List.mem_flatMap.1 (show x_ ∈ List.flatMap plCell [(⟨pp124, cc125, L0⟩ : PlD), (⟨pp231, cc232, L1⟩ : PlD), (⟨pp340, cc341, L2⟩ : PlD), (⟨pp459, cc460, L3⟩ : PlD)] from hx_); exact one_pl a_ x_ ha_)
                  have H478 := Row.nil_intro H477 32 6
                  have H479 := itsA_nil H478
                  have H480 : St W w461 (blk bk12 (.cells #[.bool true, .int .i64 0, .slice none 0 0] 80 (0, 0)) :: Row 32 6 (.slice none 0 0) 0 [] :: itsA ([] : List ItemD) :: plsA [(⟨pp124, cc125, L0⟩ : PlD), (⟨pp231, cc232, L1⟩ : PlD), (⟨pp340, cc341, L2⟩ : PlD), (⟨pp459, cc460, L3⟩ : PlD)] :: Im 6 (.slice pp124 L0.length cc125) L0.length (L0.flatMap itCell) :: itsA L0 :: Im 6 (.slice pp231 L1.length cc232) L1.length (L1.flatMap itCell) :: itsA L1 :: Im 6 (.slice pp340 L2.length cc341) L2.length (L2.flatMap itCell) :: itsA L2 :: Im 6 (.slice pp459 L3.length cc460) L3.length (L3.flatMap itCell) :: itsA L3 :: itsA w4 :: Im 6 (.slice none 0 0) 0 [] :: blk bk452 (.cells #[.int .i64 0, .int .i64 0, .int .i64 3, .int .i64 3, .slice none 0 0, .int .i64 0] 32 (0, 0)) :: Row 32 6 (.slice q3 w4.length d3) w4.length (w4.flatMap itCell) :: Row 22 1 (.slice (some ⟨bk17, 0, none⟩) 4 4) 4 ([(⟨pp124, cc125, L0⟩ : PlD), (⟨pp231, cc232, L1⟩ : PlD), (⟨pp340, cc341, L2⟩ : PlD), (⟨pp459, cc460, L3⟩ : PlD)].flatMap plCell) :: imi (0 < K.length) gA350 (.cells kA352 eA353 zA354) :: itsA K :: Im 1 (.slice pp5 od.length cc6) od.length (od.flatMap u8c) :: Im 6 (.slice pp1 l.length cc2) l.length (l.flatMap itCell) :: F) := ((H479.move 1 rfl).move 17 rfl)
                  have H481 : St W w461 (GtA bk12 (0 : Int) ([] : List ItemD) :: plsA [(⟨pp124, cc125, L0⟩ : PlD), (⟨pp231, cc232, L1⟩ : PlD), (⟨pp340, cc341, L2⟩ : PlD), (⟨pp459, cc460, L3⟩ : PlD)] :: Im 6 (.slice pp124 L0.length cc125) L0.length (L0.flatMap itCell) :: itsA L0 :: Im 6 (.slice pp231 L1.length cc232) L1.length (L1.flatMap itCell) :: itsA L1 :: Im 6 (.slice pp340 L2.length cc341) L2.length (L2.flatMap itCell) :: itsA L2 :: Im 6 (.slice pp459 L3.length cc460) L3.length (L3.flatMap itCell) :: itsA L3 :: itsA w4 :: Im 6 (.slice none 0 0) 0 [] :: blk bk452 (.cells #[.int .i64 0, .int .i64 0, .int .i64 3, .int .i64 3, .slice none 0 0, .int .i64 0] 32 (0, 0)) :: Row 32 6 (.slice q3 w4.length d3) w4.length (w4.flatMap itCell) :: Row 22 1 (.slice (some ⟨bk17, 0, none⟩) 4 4) 4 ([(⟨pp124, cc125, L0⟩ : PlD), (⟨pp231, cc232, L1⟩ : PlD), (⟨pp340, cc341, L2⟩ : PlD), (⟨pp459, cc460, L3⟩ : PlD)].flatMap plCell) :: imi (0 < K.length) gA350 (.cells kA352 eA353 zA354) :: itsA K :: Im 1 (.slice pp5 od.length cc6) od.length (od.flatMap u8c) :: Im 6 (.slice pp1 l.length cc2) l.length (l.flatMap itCell) :: F) := St.shut_ex (none, 0) (St.shut_star (ls := [blk bk12 (.cells #[.bool true, .int .i64 0, .slice none 0 0] 80 (0, 0)), Row 32 6 (.slice none 0 0) 0 [], itsA ([] : List ItemD)]) H480)
                  have H482 := Row.nil_intro H481 32 6
                  have H483 := itsA_nil H482
                  have hst := EpP.start (M := K) hM4 (fun x hx => hok x (List.take_subset _ _ (hK ▸ hx))) (p0 := pp124) (p1 := pp231) (p2 := pp340) (p3 := pp459) (c0 := cc125) (c1 := cc232) (c2 := cc341) (c3 := cc460)
                  rw [← hK0, ← hK1, ← hK2, ← hK3] at hst
                  obtain ⟨pA484, cA485, gA486, oA487, kA488, eA489, zA490, he496, hn491, hp492, hx493, hs494, hml, H495⟩ := Im.open_ H483 (i := 19) rfl
                  obtain ⟨rfl, rfl⟩ : pp5 = pA484 ∧ cc6 = cA485 := by injection he496 with a_ b_ c_; exact ⟨a_, c_⟩
                  have H497 : St W w461 (Row 32 6 (.slice none 0 0) 0 [] :: itsA ([] : List ItemD) :: GtA bk12 (0 : Int) ([] : List ItemD) :: Row 22 1 (.slice (some ⟨bk17, 0, none⟩) 4 4) 4 ([(⟨pp124, cc125, L0⟩ : PlD), (⟨pp231, cc232, L1⟩ : PlD), (⟨pp340, cc341, L2⟩ : PlD), (⟨pp459, cc460, L3⟩ : PlD)].flatMap plCell) :: plsA [(⟨pp124, cc125, L0⟩ : PlD), (⟨pp231, cc232, L1⟩ : PlD), (⟨pp340, cc341, L2⟩ : PlD), (⟨pp459, cc460, L3⟩ : PlD)] :: Row 32 6 (.slice q3 w4.length d3) w4.length (w4.flatMap itCell) :: itsA w4 :: imi (0 < od.length) gA486 (.cells kA488 eA489 zA490) :: Im 6 (.slice pp340 L2.length cc341) L2.length (L2.flatMap itCell) :: itsA L2 :: Im 6 (.slice pp459 L3.length cc460) L3.length (L3.flatMap itCell) :: itsA L3 :: Im 6 (.slice none 0 0) 0 [] :: blk bk452 (.cells #[.int .i64 0, .int .i64 0, .int .i64 3, .int .i64 3, .slice none 0 0, .int .i64 0] 32 (0, 0)) :: imi (0 < K.length) gA350 (.cells kA352 eA353 zA354) :: itsA K :: Im 1 (.slice pp5 od.length cc6) od.length (od.flatMap u8c) :: Im 6 (.slice pp1 l.length cc2) l.length (l.flatMap itCell) :: F) := (((((((((((H495.move 13 rfl).move 16 rfl).move 6 rfl).move 17 rfl).move 7 rfl).move 6 rfl).move 7 rfl).drop 8 rfl).drop 8 rfl).drop 8 rfl).drop 8 rfl)
                  have H498 : St W w461 (Row 32 6 (.slice none 0 0) 0 [] :: itsA ([] : List ItemD) :: GtA bk12 (0 : Int) ([] : List ItemD) :: Row 22 1 (.slice (some ⟨bk17, 0, none⟩) 4 4) 4 ([(⟨pp124, cc125, L0⟩ : PlD), (⟨pp231, cc232, L1⟩ : PlD), (⟨pp340, cc341, L2⟩ : PlD), (⟨pp459, cc460, L3⟩ : PlD)].flatMap plCell) :: plsA [(⟨pp124, cc125, L0⟩ : PlD), (⟨pp231, cc232, L1⟩ : PlD), (⟨pp340, cc341, L2⟩ : PlD), (⟨pp459, cc460, L3⟩ : PlD)] :: Row 32 6 (.slice q3 w4.length d3) w4.length (w4.flatMap itCell) :: itsA w4 :: imi (0 < od.length) gA486 (.cells kA488 eA489 zA490) :: Im 6 (.slice none 0 0) 0 [] :: blk bk452 (.cells #[.int .i64 0, .int .i64 0, .int .i64 3, .int .i64 3, .slice none 0 0, .int .i64 0] 32 (0, 0)) :: imi (0 < K.length) gA350 (.cells kA352 eA353 zA354) :: itsA K :: Im 1 (.slice pp5 od.length cc6) od.length (od.flatMap u8c) :: Im 6 (.slice pp1 l.length cc2) l.length (l.flatMap itCell) :: F) := ((((H497.drop 8 rfl).drop 8 rfl).drop 8 rfl).drop 8 rfl)
                  have H499 : St W w461 (Row 32 6 (.slice none 0 0) 0 [] :: itsA ([] : List ItemD) :: GtA bk12 (0 : Int) ([] : List ItemD) :: Row 22 1 (.slice (some ⟨bk17, 0, none⟩) 4 4) 4 ([(⟨pp124, cc125, L0⟩ : PlD), (⟨pp231, cc232, L1⟩ : PlD), (⟨pp340, cc341, L2⟩ : PlD), (⟨pp459, cc460, L3⟩ : PlD)].flatMap plCell) :: plsA [(⟨pp124, cc125, L0⟩ : PlD), (⟨pp231, cc232, L1⟩ : PlD), (⟨pp340, cc341, L2⟩ : PlD), (⟨pp459, cc460, L3⟩ : PlD)] :: Row 32 6 (.slice q3 w4.length d3) w4.length (w4.flatMap itCell) :: itsA w4 :: imi (0 < od.length) gA486 (.cells kA488 eA489 zA490) :: Im 1 (.slice pp5 od.length cc6) od.length (od.flatMap u8c) :: Im 6 (.slice pp1 l.length cc2) l.length (l.flatMap itCell) :: F) := ((((H498.drop 8 rfl).drop 8 rfl).drop 8 rfl).drop 8 rfl)
                  have H500 : St W w461 (Row 32 6 (.slice none 0 0) 0 [] :: itsA ([] : List ItemD) :: GtA bk12 (0 : Int) ([] : List ItemD) :: Row 22 1 (.slice (some ⟨bk17, 0, none⟩) 4 4) 4 ([(⟨pp124, cc125, L0⟩ : PlD), (⟨pp231, cc232, L1⟩ : PlD), (⟨pp340, cc341, L2⟩ : PlD), (⟨pp459, cc460, L3⟩ : PlD)].flatMap plCell) :: plsA [(⟨pp124, cc125, L0⟩ : PlD), (⟨pp231, cc232, L1⟩ : PlD), (⟨pp340, cc341, L2⟩ : PlD), (⟨pp459, cc460, L3⟩ : PlD)] :: Row 32 6 (.slice q3 w4.length d3) w4.length (w4.flatMap itCell) :: itsA w4 :: imi (0 < od.length) gA486 (.cells kA488 eA489 zA490) :: F) := ((H499.drop 8 rfl).drop 8 rfl)
                  refine g_loop_inv (fun (x_ : Nat × (List PlD) × Nat × (List ItemD) × (List ItemD) × (Option Addr) × Nat) => match x_ with | (n, P, e, Wt, G, q, d) => [(1, .slice pp5 od.length cc6), (4, .bool false), (5, .pointer (some ⟨bk12, 0, none⟩)), (6, .slice (some ⟨bk17, 0, none⟩) 4 4), (7, .slice q3 w4.length d3), (11, .slice q G.length d), (12, .int .i64 (n : Int))]) (fun (x_ : Nat × (List PlD) × Nat × (List ItemD) × (List ItemD) × (Option Addr) × Nat) w => match x_ with | (n, P, e, Wt, G, q, d) => (EpP K P e Wt G n) ∧ St W w (Row 32 6 (.slice q G.length d) G.length (G.flatMap itCell) :: itsA G :: GtA bk12 (e : Int) Wt :: Row 22 1 (.slice (some ⟨bk17, 0, none⟩) 4 4) 4 (P.flatMap plCell) :: plsA P :: Row 32 6 (.slice q3 w4.length d3) w4.length (w4.flatMap itCell) :: itsA w4 :: imi (0 < od.length) gA486 (.cells kA488 eA489 zA490) :: F)) (fun (x_ : Nat × (List PlD) × Nat × (List ItemD) × (List ItemD) × (Option Addr) × Nat) => match x_ with | (n, P, e, Wt, G, q, d) => totP P) (0, [(⟨pp124, cc125, L0⟩ : PlD), (⟨pp231, cc232, L1⟩ : PlD), (⟨pp340, cc341, L2⟩ : PlD), (⟨pp459, cc460, L3⟩ : PlD)], 0, [], [], none, 0) ?_ ?_ ?_
                  · exact ⟨by first | rfl | exact vint (by omega), by first | rfl | exact vint (by omega), by first | rfl | exact vint (by omega), by first | rfl | exact vint (by omega), by rw [hw4]; rfl, by first | rfl | exact vint (by omega), by first | rfl | exact vint (by omega), trivial⟩
                  · exact ⟨hst, H500⟩
                  · rintro ⟨n, P, e, Wt, G, q, d⟩ ρ501 w502 ⟨hEp, H503⟩ nx504
                    change Ends _ _ (upds ρ501 [(1, .slice pp5 od.length cc6), (4, .bool false), (5, .pointer (some ⟨bk12, 0, none⟩)), (6, .slice (some ⟨bk17, 0, none⟩) 4 4), (7, .slice q3 w4.length d3), (11, .slice q G.length d), (12, .int .i64 (n : Int))]) w502
                    have hEn := hEp.num
                    have hEl := hEp.len
                    refine g_seq ?_
                    refine g_block ?_
                    refine g_seq ?_
                    refine g_region ?_
                    refine r_cons (s_move (.int .i64 (n : Int)) rfl rfl ?_)
                    refine r_cons (s_rem ((n % 4 : Nat) : Int) rfl rfl (by omega) (tmod_pos (by omega)) rfl ?_)
                    refine r_cons (s_assign (.int .i64 ((n % 4 : Nat) : Int)) rfl rfl ?_)
                    refine r_nil ?_
                    refine g_seq ?_
                    refine g_seq ?_
                    refine g_region ?_
                    refine r_cons (s_move (.int .i64 (n : Int)) rfl rfl ?_)
                    refine r_cons (s_move (.slice pp5 od.length cc6) rfl rfl ?_)
                    refine r_cons (s_len od.length rfl ⟨_, un_23⟩ rfl ?_)
                    refine r_cons (s_lss (decide ((n : Int) < (od.length : Int))) rfl rfl rfl rfl ?_)
                    refine r_nil ?_
                    refine g_cut (fun (x_ : Nat) => match x_ with | k => [(1, .slice pp5 od.length cc6), (4, .bool false), (5, .pointer (some ⟨bk12, 0, none⟩)), (6, .slice (some ⟨bk17, 0, none⟩) 4 4), (7, .slice q3 w4.length d3), (11, .slice q G.length d), (12, .int .i64 (n : Int)), (13, .int .i64 (k : Int))]) (fun (x_ : Nat) w => match x_ with | k => (k < 4) ∧ St W w (Row 32 6 (.slice q G.length d) G.length (G.flatMap itCell) :: itsA G :: GtA bk12 (e : Int) Wt :: Row 22 1 (.slice (some ⟨bk17, 0, none⟩) 4 4) 4 (P.flatMap plCell) :: plsA P :: Row 32 6 (.slice q3 w4.length d3) w4.length (w4.flatMap itCell) :: itsA w4 :: imi (0 < od.length) gA486 (.cells kA488 eA489 zA490) :: F)) ?_ ?_
                    · rintro k ρ508 w506 ⟨hk4, H507⟩
                      change Ends _ _ (upds ρ508 [(1, .slice pp5 od.length cc6), (4, .bool false), (5, .pointer (some ⟨bk12, 0, none⟩)), (6, .slice (some ⟨bk17, 0, none⟩) 4 4), (7, .slice q3 w4.length d3), (11, .slice q G.length d), (12, .int .i64 (n : Int)), (13, .int .i64 (k : Int))]) w506
                      refine g_seq ?_
                      refine g_seq ?_
                      refine g_region ?_
                      obtain ⟨bk509, cur510, hp511, h512, h513, h514, h515, h516, H517⟩ := Row.open2 H507 (i := 3) rfl (by omega)
                      refine r_cons (s_move (.slice (some ⟨bk17, 0, none⟩) 4 4) rfl rfl ?_)
                      refine r_cons (s_move (.int .i64 (k : Int)) rfl rfl ?_)
                      refine r_cons (s_indexAddr bk509 (off := 0) (k : Int) 1 (0 + k * 1) (by exact congrArg (fun z_ => Value.slice z_ 4 4) ((fun (_ : 0 < 1) => hp511) (by omega))) rfl el_27 (by omega) rfl rfl ?_)
                      refine r_cons (s_load (.slice ((P.getD k default).p) ((P.getD k default).L.length) ((P.getD k default).c)) ag_22 rfl (H517.blk_at (i := 3) rfl) (elem_cell (L := P) (i := k) plCell_len (by rw [hEp.p4]; exact h515) (by have hh : P.length = 4 := hEp.p4; omega) default 0 (by decide) _ rfl) rfl ?_)
                      refine r_cons (s_len ((P.getD k default).L.length) rfl ⟨_, un_22⟩ rfl ?_)
                      refine r_cons (s_eql (decide (((P.getD k default).L.length : Int) = 0)) rfl rfl rfl rfl ?_)
                      refine r_nil ?_
                      have H518 := Row.shut2 (p := (some ⟨bk17, 0, none⟩)) (n := 4) (c := 4) (size := 1) (xs := P.flatMap plCell) H517 (i := 3) rfl hp511 h512 h513 h514 (by have hh : (cur510.toList.drop 0).take (P.length * 1) = P.flatMap plCell := (by rw [hEp.p4]; exact h515); have hk : P.length = 4 := hEp.p4; rw [hk] at hh; exact hh) (fun x_ hx_ => by obtain ⟨a_, _, ha_⟩ := List.mem_flatMap.1 hx_; exact one_pl a_ x_ ha_)
                      refine g_cut (fun (x_ : Int) => match x_ with | ki => [(1, .slice pp5 od.length cc6), (4, .bool false), (5, .pointer (some ⟨bk12, 0, none⟩)), (6, .slice (some ⟨bk17, 0, none⟩) 4 4), (7, .slice q3 w4.length d3), (11, .slice q G.length d), (12, .int .i64 (n : Int)), (13, .int .i64 ki)]) (fun (x_ : Int) w => match x_ with | ki => ((ki = -1 ∧ ∀ q, q < 4 → (P.getD q default).L.length = 0) ∨ ∃ q : Nat, ki = (q : Int) ∧ q < 4 ∧ 0 < (P.getD q default).L.length) ∧ St W w (Row 32 6 (.slice q G.length d) G.length (G.flatMap itCell) :: itsA G :: GtA bk12 (e : Int) Wt :: Row 22 1 (.slice (some ⟨bk17, 0, none⟩) 4 4) 4 (P.flatMap plCell) :: plsA P :: Row 32 6 (.slice q3 w4.length d3) w4.length (w4.flatMap itCell) :: itsA w4 :: imi (0 < od.length) gA486 (.cells kA488 eA489 zA490) :: F)) ?_ ?_
                      · rintro ki ρ522 w520 ⟨hki, H521⟩
                        change Ends _ _ (upds ρ522 [(1, .slice pp5 od.length cc6), (4, .bool false), (5, .pointer (some ⟨bk12, 0, none⟩)), (6, .slice (some ⟨bk17, 0, none⟩) 4 4), (7, .slice q3 w4.length d3), (11, .slice q G.length d), (12, .int .i64 (n : Int)), (13, .int .i64 ki)]) w520
                        refine g_seq ?_
                        refine g_seq ?_
                        refine g_region ?_
                        refine r_cons (s_move (.int .i64 ki) rfl rfl ?_)
                        by_cases hc523 : ki < 0
                        · skip
                          refine r_cons (s_lss true rfl rfl (dtrue hc523) rfl ?_)
                          refine r_nil ?_
                          refine g_true rfl ?_
                          refine g_exit (by rfl) ?_
                          refine g_seq ?_
                          refine g_region ?_
                          have hfin := hEp.done (hki.resolve_right (by rintro ⟨q, h1, h2, h3⟩; omega)).2
                          have hwant : upTo (QV K) 4 = w4.map ItemD.v := by rw [hwK]; exact upTo_4 K
                          refine r_cons (s_move (.slice q G.length d) rfl rfl ?_)
                          refine r_cons (s_move (.slice q3 w4.length d3) rfl rfl ?_)
                          have H524 : St W w520 (Im 6 (.slice q G.length d) G.length (G.flatMap itCell) :: itsA G :: GtA bk12 (e : Int) Wt :: Row 22 1 (.slice (some ⟨bk17, 0, none⟩) 4 4) 4 (P.flatMap plCell) :: plsA P :: Row 32 6 (.slice q3 w4.length d3) w4.length (w4.flatMap itCell) :: itsA w4 :: imi (0 < od.length) gA486 (.cells kA488 eA489 zA490) :: F) := Row.im H521 (i := 0) rfl
                          have H525 : St W w520 (Im 6 (.slice q G.length d) G.length (G.flatMap itCell) :: itsA G :: GtA bk12 (e : Int) Wt :: Row 22 1 (.slice (some ⟨bk17, 0, none⟩) 4 4) 4 (P.flatMap plCell) :: plsA P :: Im 6 (.slice q3 w4.length d3) w4.length (w4.flatMap itCell) :: itsA w4 :: imi (0 < od.length) gA486 (.cells kA488 eA489 zA490) :: F) := Row.im H524 (i := 5) rfl
                          refine r_cons (s_call [.slice q G.length d, .slice q3 w4.length d3] pl_15 rfl rfl (items_ G w4 _ _ (hfin.2.2.trans hwant) (j := 0) (k := 5) (a := 1) (b := 6) rfl rfl rfl rfl H525) ?_)
                          rintro _ w526 ⟨rfl, H527⟩
                          refine r_cons (s_move (.bool true) rfl rfl ?_)
                          refine r_cons (r_take rfl rfl ?_)
                          refine s_move (.pointer (some ⟨bk12, 0, none⟩)) rfl rfl ?_
                          refine r_cons (r_take rfl rfl ?_)
                          refine s_call [.pointer (some ⟨bk12, 0, none⟩)] pl_16 rfl rfl (GtA_Epoch bk12 (e : Int) Wt (i := 2) rfl H527) ?_
                          rintro _ w528 ⟨rfl, H529⟩
                          refine r_cons (r_take rfl rfl ?_)
                          refine s_eql true rfl rfl (dtrue (by rw [hfin.1]; rfl)) rfl ?_
                          refine r_cons (s_pick_t (.bool true) rfl rfl rfl ?_)
                          refine r_cons (s_move (.bool true) rfl rfl ?_)
                          refine r_cons (r_take rfl rfl ?_)
                          refine s_move (.pointer (some ⟨bk12, 0, none⟩)) rfl rfl ?_
                          refine r_cons (r_take rfl rfl ?_)
                          refine s_call [.pointer (some ⟨bk12, 0, none⟩)] pl_17 rfl rfl (GtA_Waiting bk12 (e : Int) Wt (i := 2) rfl H529) ?_
                          rintro _ w530 ⟨rfl, H531⟩
                          refine r_cons (r_take rfl rfl ?_)
                          refine s_eql true rfl rfl (dtrue (by rw [hfin.2.1]; rfl)) rfl ?_
                          refine r_cons (s_pick_t (.bool true) rfl rfl rfl ?_)
                          refine r_cons (s_assign (.bool true) rfl rfl ?_)
                          refine r_nil ?_
                          refine g_ret' [.bool true] Try.func3 Try.results3 ⟨rfl, trivial⟩ ?_
                          have H532 : St W w530 F := ((((((((H531.drop 0 rfl).drop 0 rfl).drop 0 rfl).drop 0 rfl).drop 0 rfl).drop 0 rfl).drop 0 rfl).drop 0 rfl)
                          exact ⟨rfl, H532⟩
                        · skip
                          refine r_cons (s_lss false rfl rfl (dfalse hc523) rfl ?_)
                          refine r_nil ?_
                          refine g_false rfl ?_
                          refine g_skip ?_
                          refine g_seq ?_
                          refine g_region ?_
                          obtain ⟨q9, rfl, hq4, hq0⟩ := hki.resolve_left (fun h => by omega)
                          obtain ⟨bk533, cur534, hp535, h536, h537, h538, h539, h540, H541⟩ := Row.open2 H521 (i := 3) rfl (by omega)
                          have hp4 := hEp.p4
                          have H542 := plsA_im H541 (i := 4) rfl (j := q9) (by omega)
                          have H543 := plsA_its H542 (i := 5) rfl (j := q9) (by omega)
                          obtain ⟨pA544, cA545, gA546, oA547, kA548, eA549, zA550, he556, hn551, hp552, hx553, hs554, hml, H555⟩ := Im.open_ H543 (i := 1) rfl
                          obtain ⟨rfl, rfl⟩ : (P.getD q9 default).p = pA544 ∧ (P.getD q9 default).c = cA545 := by injection he556 with a_ b_ c_; exact ⟨a_, c_⟩
                          have H557 := itsA_at H555 (i := 1) rfl (j := 0) hq0
                          have H558 := itsA_bs H557 (i := 2) rfl (j := 0) hq0
                          obtain ⟨hh1, hh2, hh3, hh4, hh5⟩ := hEp.head hq4 hq0
                          refine r_cons (s_move (.pointer (some ⟨bk12, 0, none⟩)) rfl rfl ?_)
                          refine r_cons (s_move (.slice (some ⟨bk17, 0, none⟩) 4 4) rfl rfl ?_)
                          refine r_cons (s_move (.int .i64 (q9 : Int)) rfl rfl ?_)
                          refine r_cons (s_indexAddr bk533 (off := 0) (q9 : Int) 1 (0 + q9 * 1) (by exact congrArg (fun z_ => Value.slice z_ 4 4) ((fun (_ : 0 < 1) => hp535) (by omega))) rfl el_27 (by omega) rfl rfl ?_)
                          refine r_cons (s_load (.slice ((P.getD q9 default).p) ((P.getD q9 default).L.length) ((P.getD q9 default).c)) ag_22 rfl (H558.blk_at (i := 8) rfl) (elem_cell (L := P) (i := q9) plCell_len (by rw [hEp.p4]; exact h539) (by have hh : P.length = 4 := hEp.p4; omega) default 0 (by decide) _ rfl) rfl ?_)
                          refine r_cons (s_indexAddr gA546 (off := oA547) 0 6 (oA547 + 0 * 6) (by exact congrArg (fun z_ => Value.slice z_ ((P.getD q9 default).L.length) ((P.getD q9 default).c)) (hp552 (by omega))) rfl el_22 (by omega) rfl rfl ?_)
                          refine r_cons (s_loadAgg [.int .i64 (((P.getD q9 default).L.getD 0 default).op.v), .int .i64 (((P.getD q9 default).L.getD 0 default).inp.v), .int .i64 (((P.getD q9 default).L.getD 0 default).ep.v), .int .i64 (((P.getD q9 default).L.getD 0 default).kind.v), .slice (((P.getD q9 default).L.getD 0 default).p) (((P.getD q9 default).L.getD 0 default).bs.length) (((P.getD q9 default).L.getD 0 default).c), .int .i64 (((P.getD q9 default).L.getD 0 default).t.v)] 6 ag_32 rfl (H558.imi_at (i := 2) rfl (by omega)) (by have := elem_size (i := 0) (s := 6) (hs554 (by omega)) (by omega); omega) (elem_take itCell_len (hx553 (by omega)) (by omega) default) rfl ?_)
                          refine r_cons (s_call [.pointer (some ⟨bk12, 0, none⟩), .agg #[.int .i64 (((P.getD q9 default).L.getD 0 default).op.v), .int .i64 (((P.getD q9 default).L.getD 0 default).inp.v), .int .i64 (((P.getD q9 default).L.getD 0 default).ep.v), .int .i64 (((P.getD q9 default).L.getD 0 default).kind.v), .slice (((P.getD q9 default).L.getD 0 default).p) (((P.getD q9 default).L.getD 0 default).bs.length) (((P.getD q9 default).L.getD 0 default).c), .int .i64 (((P.getD q9 default).L.getD 0 default).t.v)]] pl_14 rfl rfl (Gate_Take bk12 (e : Int) Wt ((P.getD q9 default).L.getD 0 default) hh1 (by omega) (by omega) (by omega) (i := 7) rfl (ip := 0) rfl (iq := 1) rfl H558) ?_)
                          rintro _ w565 ⟨O559, L560, e561, pp562, cc563, rfl, hT564, H566⟩
                          refine r_cons (s_move (.tuple #[.slice pp562 O559.length cc563, .int .i64 (tkE (e : Int) Wt.length ((P.getD q9 default).L.getD 0 default))]) rfl rfl ?_)
                          refine r_cons (s_extract (.slice pp562 O559.length cc563) #[.slice pp562 O559.length cc563, .int .i64 (tkE (e : Int) Wt.length ((P.getD q9 default).L.getD 0 default))] rfl rfl rfl ?_)
                          refine r_cons (s_extract (.int .i64 (tkE (e : Int) Wt.length ((P.getD q9 default).L.getD 0 default))) #[.slice pp562 O559.length cc563, .int .i64 (tkE (e : Int) Wt.length ((P.getD q9 default).L.getD 0 default))] rfl rfl rfl ?_)
                          refine r_cons (s_assign (.slice pp562 O559.length cc563) rfl rfl ?_)
                          refine r_cons (s_assign (.int .i64 (tkE (e : Int) Wt.length ((P.getD q9 default).L.getD 0 default))) rfl rfl ?_)
                          refine r_nil ?_
                          refine g_seq ?_
                          refine g_seq ?_
                          refine g_region ?_
                          have hT9 := hT564
                          have hOl : G.length + O559.length ≤ 164 := by obtain ⟨_, _, h9⟩ := hEp.step (y := ⟨none, 0, (P.getD q9 default).L.drop 1⟩) hq4 hq0 hT9 rfl; have h8 := h9.len; rw [List.length_append] at h8; omega
                          refine r_cons (s_move (.int .i64 (tkE (e : Int) Wt.length ((P.getD q9 default).L.getD 0 default))) rfl rfl ?_)
                          refine r_cons (s_neq false rfl rfl (ntrue hh5) rfl ?_)
                          refine r_nil ?_
                          refine g_false rfl ?_
                          refine g_skip ?_
                          refine g_seq ?_
                          refine g_region ?_
                          refine r_cons (s_move (.slice (some ⟨bk17, 0, none⟩) 4 4) rfl rfl ?_)
                          refine r_cons (s_move (.int .i64 (q9 : Int)) rfl rfl ?_)
                          refine r_cons (s_move (.slice (some ⟨bk17, 0, none⟩) 4 4) rfl rfl ?_)
                          refine r_cons (s_move (.int .i64 (q9 : Int)) rfl rfl ?_)
                          refine r_cons (s_indexAddr bk533 (off := 0) (q9 : Int) 1 (0 + q9 * 1) (by exact congrArg (fun z_ => Value.slice z_ 4 4) ((fun (_ : 0 < 1) => hp535) (by omega))) rfl el_27 (by omega) rfl rfl ?_)
                          refine r_cons (s_load (.slice ((P.getD q9 default).p) ((P.getD q9 default).L.length) ((P.getD q9 default).c)) ag_22 rfl (H566.blk_at (i := 10) rfl) (elem_cell (L := P) (i := q9) plCell_len (by rw [hEp.p4]; exact h539) (by have hh : P.length = 4 := hEp.p4; omega) default 0 (by decide) _ rfl) rfl ?_)
                          have hc567 := Im.cap H566 (i := 6) rfl
                          refine r_cons (s_slice_l ((P.getD q9 default).p) 1 6 (.slice (cutAt ((P.getD q9 default).p) 1 ((P.getD q9 default).c) 6) (((P.getD q9 default).L.length) - 1) (((P.getD q9 default).c) - 1)) rfl rfl el_22 (by omega) (by first | rfl | (congr 1; omega)) rfl ?_)
                          have H568 : St W w565 (Im 6 (.slice (cutAt ((P.getD q9 default).p) 1 ((P.getD q9 default).c) 6) (((P.getD q9 default).L.length) - 1) (((P.getD q9 default).c) - 1)) (((P.getD q9 default).L.length) - 1) ((((P.getD q9 default).L).drop 1).flatMap itCell) :: Row 32 6 (.slice pp562 O559.length cc563) O559.length (O559.flatMap itCell) :: itsA O559 :: Im 6 (.slice (((P.getD q9 default).L.getD 0 default).p) (((P.getD q9 default).L.getD 0 default).bs.length) (((P.getD q9 default).L.getD 0 default).c)) (((P.getD q9 default).L.getD 0 default).bs.length) (((P.getD q9 default).L.getD 0 default).bs.flatMap bndCell) :: bndsA (((P.getD q9 default).L.getD 0 default).bs) :: imi (0 < ((P.getD q9 default).L).length) gA546 (.cells kA548 eA549 zA550) :: itsA ((P.getD q9 default).L) :: Im 6 (.slice ((P.getD q9 default).p) ((P.getD q9 default).L.length) ((P.getD q9 default).c)) ((P.getD q9 default).L.length) ((P.getD q9 default).L.flatMap itCell) :: Row 32 6 (.slice q G.length d) G.length (G.flatMap itCell) :: itsA G :: GtA bk12 e561 L560 :: blk bk533 (.cells cur534 22 (0, 0)) :: plsA P :: Row 32 6 (.slice q3 w4.length d3) w4.length (w4.flatMap itCell) :: itsA w4 :: imi (0 < od.length) gA486 (.cells kA488 eA489 zA490) :: F) := Im.cutN_l itCell_len (by decide) 1 H566 (i := 6) rfl (by omega)
                          refine r_cons (s_indexAddr bk533 (off := 0) (q9 : Int) 1 (0 + q9 * 1) (by exact congrArg (fun z_ => Value.slice z_ 4 4) ((fun (_ : 0 < 1) => hp535) (by omega))) rfl el_27 (by omega) rfl rfl ?_)
                          have hx571 := row_set (f := plCell) (s := 1) (L := P) (cur := cur534) plCell_len (by rw [hEp.p4]; exact h539) (show P.length * 1 ≤ cur534.size by rw [hEp.p4, h538]; exact Nat.mul_le_mul_right 1 h536) (j := q9) (by have hh := hEp.p4; omega) default 0 (by decide) (.slice (cutAt ((P.getD q9 default).p) 1 ((P.getD q9 default).c) 6) (((P.getD q9 default).L.length) - 1) (((P.getD q9 default).c) - 1)) (⟨cutAt ((P.getD q9 default).p) 1 ((P.getD q9 default).c) 6, ((P.getD q9 default).c) - 1, (P.getD q9 default).L.drop 1⟩ : PlD) (by simp [plCell])
                          refine r_cons (s_store H568 11 (.slice (cutAt ((P.getD q9 default).p) 1 ((P.getD q9 default).c) 6) (((P.getD q9 default).L.length) - 1) (((P.getD q9 default).c) - 1)) rfl rfl rfl sz_22 rfl (by have hh := hEp.p4; have hk := (show P.length * 1 ≤ cur534.size by rw [hEp.p4, h538]; exact Nat.mul_le_mul_right 1 h536); omega) (by simp) (cs' := (cur534.setIfInBounds (0 + q9 * 1 + 0) (.slice (cutAt ((P.getD q9 default).p) 1 ((P.getD q9 default).c) 6) (((P.getD q9 default).L.length) - 1) (((P.getD q9 default).c) - 1)))) (by simp) ?_); intro w569 H570
                          refine r_nil ?_
                          refine g_region ?_
                          refine r_cons (s_move (.slice q G.length d) rfl rfl ?_)
                          refine r_cons (s_move (.slice pp562 O559.length cc563) rfl rfl ?_)
                          refine r_cons (s_append H570 8 rfl rfl rfl (Row.rd H570 (i := 1) rfl) ap_22 (by decide) (by unfold maxLen; omega) (by omega) (n' := G.length + O559.length) (xs' := G.flatMap itCell ++ O559.flatMap itCell) (by omega) (by first | rfl | simp) rfl ?_); intro vv572 w573 H574 hn575
                          obtain ⟨pp576, cc577, rfl⟩ := Row.slice H574 (i := 8) rfl
                          refine r_cons (s_assign (.slice pp576 (G.length + O559.length) cc577) rfl rfl ?_)
                          refine r_nil ?_
                          refine g_inBlock ?_
                          refine g_region ?_
                          refine r_cons (s_move (.int .i64 (n : Int)) rfl rfl ?_)
                          refine r_cons (s_add ((n : Int) + 1) rfl rfl (wi64 (by omega)) rfl ?_)
                          refine r_cons (s_assign (.int .i64 ((n : Int) + 1)) rfl rfl ?_)
                          refine r_nil ?_
                          have H578 := Row.shut2 (p := (some ⟨bk17, 0, none⟩)) (n := 4) (c := 4) (size := 1) (xs := (P.set q9 (⟨cutAt ((P.getD q9 default).p) 1 ((P.getD q9 default).c) 6, ((P.getD q9 default).c) - 1, (P.getD q9 default).L.drop 1⟩ : PlD)).flatMap plCell) H574 (i := 11) rfl hp535 h536 h537 (show (cur534.setIfInBounds (0 + q9 * 1 + 0) (.slice (cutAt ((P.getD q9 default).p) 1 ((P.getD q9 default).c) 6) (((P.getD q9 default).L.length) - 1) (((P.getD q9 default).c) - 1))).size = 4 * 1 from by rw [Array.size_setIfInBounds]; exact h538) (by have hh : ((cur534.setIfInBounds (0 + q9 * 1 + 0) (.slice (cutAt ((P.getD q9 default).p) 1 ((P.getD q9 default).c) 6) (((P.getD q9 default).L.length) - 1) (((P.getD q9 default).c) - 1))).toList.drop 0).take ((P.set q9 (⟨cutAt ((P.getD q9 default).p) 1 ((P.getD q9 default).c) 6, ((P.getD q9 default).c) - 1, (P.getD q9 default).L.drop 1⟩ : PlD)).length * 1) = (P.set q9 (⟨cutAt ((P.getD q9 default).p) 1 ((P.getD q9 default).c) 6, ((P.getD q9 default).c) - 1, (P.getD q9 default).L.drop 1⟩ : PlD)).flatMap plCell := hx571; have hk : (P.set q9 (⟨cutAt ((P.getD q9 default).p) 1 ((P.getD q9 default).c) 6, ((P.getD q9 default).c) - 1, (P.getD q9 default).L.drop 1⟩ : PlD)).length = 4 := (show ((P.set q9 (⟨cutAt ((P.getD q9 default).p) 1 ((P.getD q9 default).c) 6, ((P.getD q9 default).c) - 1, (P.getD q9 default).L.drop 1⟩ : PlD))).length = 4 from by first | (rw [List.length_set]; exact hEp.p4) | rw [List.length_set]); rw [hk] at hh; exact hh) (fun x_ hx_ => by obtain ⟨a_, _, ha_⟩ := List.mem_flatMap.1 hx_; exact one_pl a_ x_ ha_)
                          obtain ⟨e3, he3, hEp2⟩ := hEp.step (y := (⟨cutAt ((P.getD q9 default).p) 1 ((P.getD q9 default).c) 6, ((P.getD q9 default).c) - 1, (P.getD q9 default).L.drop 1⟩ : PlD)) hq4 hq0 hT9 rfl
                          have H579 : St W w573 (Im 6 (.slice (cutAt ((P.getD q9 default).p) 1 ((P.getD q9 default).c) 6) (((P.getD q9 default).L.length) - 1) (((P.getD q9 default).c) - 1)) (((P.getD q9 default).L.length) - 1) ((((P.getD q9 default).L).drop 1).flatMap itCell) :: Row 32 6 (.slice pp562 O559.length cc563) O559.length (O559.flatMap itCell) :: itsA O559 :: Im 6 (.slice (((P.getD q9 default).L.getD 0 default).p) (((P.getD q9 default).L.getD 0 default).bs.length) (((P.getD q9 default).L.getD 0 default).c)) (((P.getD q9 default).L.getD 0 default).bs.length) (((P.getD q9 default).L.getD 0 default).bs.flatMap bndCell) :: bndsA (((P.getD q9 default).L.getD 0 default).bs) :: imi (0 < ((P.getD q9 default).L).length) gA546 (.cells kA548 eA549 zA550) :: itsA ((P.getD q9 default).L) :: Im 6 (.slice ((P.getD q9 default).p) ((P.getD q9 default).L.length) ((P.getD q9 default).c)) ((P.getD q9 default).L.length) ((P.getD q9 default).L.flatMap itCell) :: Row 32 6 (.slice pp576 ((G ++ O559).length) cc577) ((G ++ O559).length) ((G ++ O559).flatMap itCell) :: itsA G :: GtA bk12 (e3 : Int) L560 :: Row 22 1 (.slice (some ⟨bk17, 0, none⟩) 4 4) 4 ((P.set q9 (⟨cutAt ((P.getD q9 default).p) 1 ((P.getD q9 default).c) 6, ((P.getD q9 default).c) - 1, (P.getD q9 default).L.drop 1⟩ : PlD)).flatMap plCell) :: plsA P :: Row 32 6 (.slice q3 w4.length d3) w4.length (w4.flatMap itCell) :: itsA w4 :: imi (0 < od.length) gA486 (.cells kA488 eA489 zA490) :: F) := by rw [List.flatMap_append, List.length_append, ← he3]; exact H578
                          have H580 : St W w573 (itsA O559 :: itsA G :: Im 6 (.slice (cutAt ((P.getD q9 default).p) 1 ((P.getD q9 default).c) 6) (((P.getD q9 default).L.length) - 1) (((P.getD q9 default).c) - 1)) (((P.getD q9 default).L.length) - 1) ((((P.getD q9 default).L).drop 1).flatMap itCell) :: Row 32 6 (.slice pp562 O559.length cc563) O559.length (O559.flatMap itCell) :: Im 6 (.slice (((P.getD q9 default).L.getD 0 default).p) (((P.getD q9 default).L.getD 0 default).bs.length) (((P.getD q9 default).L.getD 0 default).c)) (((P.getD q9 default).L.getD 0 default).bs.length) (((P.getD q9 default).L.getD 0 default).bs.flatMap bndCell) :: bndsA (((P.getD q9 default).L.getD 0 default).bs) :: imi (0 < ((P.getD q9 default).L).length) gA546 (.cells kA548 eA549 zA550) :: itsA ((P.getD q9 default).L) :: Im 6 (.slice ((P.getD q9 default).p) ((P.getD q9 default).L.length) ((P.getD q9 default).c)) ((P.getD q9 default).L.length) ((P.getD q9 default).L.flatMap itCell) :: Row 32 6 (.slice pp576 ((G ++ O559).length) cc577) ((G ++ O559).length) ((G ++ O559).flatMap itCell) :: GtA bk12 (e3 : Int) L560 :: Row 22 1 (.slice (some ⟨bk17, 0, none⟩) 4 4) 4 ((P.set q9 (⟨cutAt ((P.getD q9 default).p) 1 ((P.getD q9 default).c) 6, ((P.getD q9 default).c) - 1, (P.getD q9 default).L.drop 1⟩ : PlD)).flatMap plCell) :: plsA P :: Row 32 6 (.slice q3 w4.length d3) w4.length (w4.flatMap itCell) :: itsA w4 :: imi (0 < od.length) gA486 (.cells kA488 eA489 zA490) :: F) := ((H579.move 9 rfl).move 3 rfl)
                          have H581 : St W w573 (itsA (G ++ O559) :: Im 6 (.slice (cutAt ((P.getD q9 default).p) 1 ((P.getD q9 default).c) 6) (((P.getD q9 default).L.length) - 1) (((P.getD q9 default).c) - 1)) (((P.getD q9 default).L.length) - 1) ((((P.getD q9 default).L).drop 1).flatMap itCell) :: Row 32 6 (.slice pp562 O559.length cc563) O559.length (O559.flatMap itCell) :: Im 6 (.slice (((P.getD q9 default).L.getD 0 default).p) (((P.getD q9 default).L.getD 0 default).bs.length) (((P.getD q9 default).L.getD 0 default).c)) (((P.getD q9 default).L.getD 0 default).bs.length) (((P.getD q9 default).L.getD 0 default).bs.flatMap bndCell) :: bndsA (((P.getD q9 default).L.getD 0 default).bs) :: imi (0 < ((P.getD q9 default).L).length) gA546 (.cells kA548 eA549 zA550) :: itsA ((P.getD q9 default).L) :: Im 6 (.slice ((P.getD q9 default).p) ((P.getD q9 default).L.length) ((P.getD q9 default).c)) ((P.getD q9 default).L.length) ((P.getD q9 default).L.flatMap itCell) :: Row 32 6 (.slice pp576 ((G ++ O559).length) cc577) ((G ++ O559).length) ((G ++ O559).flatMap itCell) :: GtA bk12 (e3 : Int) L560 :: Row 22 1 (.slice (some ⟨bk17, 0, none⟩) 4 4) 4 ((P.set q9 (⟨cutAt ((P.getD q9 default).p) 1 ((P.getD q9 default).c) 6, ((P.getD q9 default).c) - 1, (P.getD q9 default).L.drop 1⟩ : PlD)).flatMap plCell) :: plsA P :: Row 32 6 (.slice q3 w4.length d3) w4.length (w4.flatMap itCell) :: itsA w4 :: imi (0 < od.length) gA486 (.cells kA488 eA489 zA490) :: F) := itsA_app H580
                          have H582 := itsA_sub (M := (P.getD q9 default).L.drop 1) H581 (i := 6) rfl (fun x hx => List.drop_subset _ _ hx)
                          have H583 : St W w573 (Im 6 (.slice (cutAt ((P.getD q9 default).p) 1 ((P.getD q9 default).c) 6) (((P.getD q9 default).L.length) - 1) (((P.getD q9 default).c) - 1)) (((P.getD q9 default).L.length) - 1) ((((P.getD q9 default).L).drop 1).flatMap itCell) :: itsA ((P.getD q9 default).L.drop 1) :: itsA (G ++ O559) :: Row 32 6 (.slice pp562 O559.length cc563) O559.length (O559.flatMap itCell) :: Im 6 (.slice (((P.getD q9 default).L.getD 0 default).p) (((P.getD q9 default).L.getD 0 default).bs.length) (((P.getD q9 default).L.getD 0 default).c)) (((P.getD q9 default).L.getD 0 default).bs.length) (((P.getD q9 default).L.getD 0 default).bs.flatMap bndCell) :: bndsA (((P.getD q9 default).L.getD 0 default).bs) :: imi (0 < ((P.getD q9 default).L).length) gA546 (.cells kA548 eA549 zA550) :: itsA ((P.getD q9 default).L) :: Im 6 (.slice ((P.getD q9 default).p) ((P.getD q9 default).L.length) ((P.getD q9 default).c)) ((P.getD q9 default).L.length) ((P.getD q9 default).L.flatMap itCell) :: Row 32 6 (.slice pp576 ((G ++ O559).length) cc577) ((G ++ O559).length) ((G ++ O559).flatMap itCell) :: GtA bk12 (e3 : Int) L560 :: Row 22 1 (.slice (some ⟨bk17, 0, none⟩) 4 4) 4 ((P.set q9 (⟨cutAt ((P.getD q9 default).p) 1 ((P.getD q9 default).c) 6, ((P.getD q9 default).c) - 1, (P.getD q9 default).L.drop 1⟩ : PlD)).flatMap plCell) :: plsA P :: Row 32 6 (.slice q3 w4.length d3) w4.length (w4.flatMap itCell) :: itsA w4 :: imi (0 < od.length) gA486 (.cells kA488 eA489 zA490) :: F) := (H582.move 2 rfl)
                          have H584 : St W w573 (Im 6 (.slice (cutAt ((P.getD q9 default).p) 1 ((P.getD q9 default).c) 6) (((P.getD q9 default).L.drop 1).length) (((P.getD q9 default).c) - 1)) (((P.getD q9 default).L.drop 1).length) (((P.getD q9 default).L.drop 1).flatMap itCell) :: itsA ((P.getD q9 default).L.drop 1) :: itsA (G ++ O559) :: Row 32 6 (.slice pp562 O559.length cc563) O559.length (O559.flatMap itCell) :: Im 6 (.slice (((P.getD q9 default).L.getD 0 default).p) (((P.getD q9 default).L.getD 0 default).bs.length) (((P.getD q9 default).L.getD 0 default).c)) (((P.getD q9 default).L.getD 0 default).bs.length) (((P.getD q9 default).L.getD 0 default).bs.flatMap bndCell) :: bndsA (((P.getD q9 default).L.getD 0 default).bs) :: imi (0 < ((P.getD q9 default).L).length) gA546 (.cells kA548 eA549 zA550) :: itsA ((P.getD q9 default).L) :: Im 6 (.slice ((P.getD q9 default).p) ((P.getD q9 default).L.length) ((P.getD q9 default).c)) ((P.getD q9 default).L.length) ((P.getD q9 default).L.flatMap itCell) :: Row 32 6 (.slice pp576 ((G ++ O559).length) cc577) ((G ++ O559).length) ((G ++ O559).flatMap itCell) :: GtA bk12 (e3 : Int) L560 :: Row 22 1 (.slice (some ⟨bk17, 0, none⟩) 4 4) 4 ((P.set q9 (⟨cutAt ((P.getD q9 default).p) 1 ((P.getD q9 default).c) 6, ((P.getD q9 default).c) - 1, (P.getD q9 default).L.drop 1⟩ : PlD)).flatMap plCell) :: plsA P :: Row 32 6 (.slice q3 w4.length d3) w4.length (w4.flatMap itCell) :: itsA w4 :: imi (0 < od.length) gA486 (.cells kA488 eA489 zA490) :: F) := by rw [List.length_drop]; exact H583
                          have H585 := plsA_set (j := q9) (x := (⟨cutAt ((P.getD q9 default).p) 1 ((P.getD q9 default).c) 6, ((P.getD q9 default).c) - 1, (P.getD q9 default).L.drop 1⟩ : PlD)) H584 (i := 10) rfl
                          have H586 : St W w573 (Row 32 6 (.slice pp576 ((G ++ O559).length) cc577) ((G ++ O559).length) ((G ++ O559).flatMap itCell) :: itsA (G ++ O559) :: GtA bk12 (e3 : Int) L560 :: Row 22 1 (.slice (some ⟨bk17, 0, none⟩) 4 4) 4 ((P.set q9 (⟨cutAt ((P.getD q9 default).p) 1 ((P.getD q9 default).c) 6, ((P.getD q9 default).c) - 1, (P.getD q9 default).L.drop 1⟩ : PlD)).flatMap plCell) :: plsA (P.set q9 (⟨cutAt ((P.getD q9 default).p) 1 ((P.getD q9 default).c) 6, ((P.getD q9 default).c) - 1, (P.getD q9 default).L.drop 1⟩ : PlD)) :: Row 32 6 (.slice q3 w4.length d3) w4.length (w4.flatMap itCell) :: itsA w4 :: imi (0 < od.length) gA486 (.cells kA488 eA489 zA490) :: bndsA (((P.getD q9 default).L.getD 0 default).bs) :: imi (0 < ((P.getD q9 default).L).length) gA546 (.cells kA548 eA549 zA550) :: itsA ((P.getD q9 default).L) :: Im 6 (.slice ((P.getD q9 default).p) ((P.getD q9 default).L.length) ((P.getD q9 default).c)) ((P.getD q9 default).L.length) ((P.getD q9 default).L.flatMap itCell) :: plsA P :: F) := ((((((((((((H585.move 16 rfl).move 16 rfl).move 16 rfl).move 3 rfl).move 15 rfl).move 15 rfl).move 8 rfl).move 15 rfl).drop 8 rfl).drop 8 rfl).drop 8 rfl).drop 8 rfl)
                          have H587 : St W w573 (Row 32 6 (.slice pp576 ((G ++ O559).length) cc577) ((G ++ O559).length) ((G ++ O559).flatMap itCell) :: itsA (G ++ O559) :: GtA bk12 (e3 : Int) L560 :: Row 22 1 (.slice (some ⟨bk17, 0, none⟩) 4 4) 4 ((P.set q9 (⟨cutAt ((P.getD q9 default).p) 1 ((P.getD q9 default).c) 6, ((P.getD q9 default).c) - 1, (P.getD q9 default).L.drop 1⟩ : PlD)).flatMap plCell) :: plsA (P.set q9 (⟨cutAt ((P.getD q9 default).p) 1 ((P.getD q9 default).c) 6, ((P.getD q9 default).c) - 1, (P.getD q9 default).L.drop 1⟩ : PlD)) :: Row 32 6 (.slice q3 w4.length d3) w4.length (w4.flatMap itCell) :: itsA w4 :: imi (0 < od.length) gA486 (.cells kA488 eA489 zA490) :: plsA P :: F) := ((((H586.drop 8 rfl).drop 8 rfl).drop 8 rfl).drop 8 rfl)
                          have H588 : St W w573 (Row 32 6 (.slice pp576 ((G ++ O559).length) cc577) ((G ++ O559).length) ((G ++ O559).flatMap itCell) :: itsA (G ++ O559) :: GtA bk12 (e3 : Int) L560 :: Row 22 1 (.slice (some ⟨bk17, 0, none⟩) 4 4) 4 ((P.set q9 (⟨cutAt ((P.getD q9 default).p) 1 ((P.getD q9 default).c) 6, ((P.getD q9 default).c) - 1, (P.getD q9 default).L.drop 1⟩ : PlD)).flatMap plCell) :: plsA (P.set q9 (⟨cutAt ((P.getD q9 default).p) 1 ((P.getD q9 default).c) 6, ((P.getD q9 default).c) - 1, (P.getD q9 default).L.drop 1⟩ : PlD)) :: Row 32 6 (.slice q3 w4.length d3) w4.length (w4.flatMap itCell) :: itsA w4 :: imi (0 < od.length) gA486 (.cells kA488 eA489 zA490) :: F) := (H587.drop 8 rfl)
                          exact nx504 (n + 1, (P.set q9 (⟨cutAt ((P.getD q9 default).p) 1 ((P.getD q9 default).c) 6, ((P.getD q9 default).c) - 1, (P.getD q9 default).L.drop 1⟩ : PlD)), e3, L560, (G ++ O559), pp576, cc577) _ _ ⟨hEp2, H588⟩ (by first | (dsimp only; have h9 := totP_dec hEp hq4 hq0 (p := cutAt (P.getD q9 default).p 1 (P.getD q9 default).c 6) (c := (P.getD q9 default).c - 1); omega) | have h9 := totP_dec hEp hq4 hq0 (p := cutAt (P.getD q9 default).p 1 (P.getD q9 default).c 6) (c := (P.getD q9 default).c - 1); omega) ⟨by first | rfl | exact vint (by omega), by first | rfl | exact vint (by omega), by first | rfl | exact vint (by omega), by first | rfl | exact vint (by omega), by first | rfl | exact vint (by omega), by first | rfl | (rw [List.length_append]; rfl), by first | rfl | exact vint (by omega), trivial⟩
                      · intro join519
                        by_cases hb589 : (decide (((P.getD k default).L.length : Int) = 0)) = true
                        · skip
                          refine g_true (congrArg Value.bool hb589) ?_
                          refine g_region ?_
                          refine r_cons (s_move (.slice (some ⟨bk17, 0, none⟩) 4 4) rfl rfl ?_)
                          have H590 : St W w506 (Row 22 1 (.slice (some ⟨bk17, 0, none⟩) 4 4) 4 (P.flatMap plCell) :: Row 32 6 (.slice q G.length d) G.length (G.flatMap itCell) :: itsA G :: GtA bk12 (e : Int) Wt :: plsA P :: Row 32 6 (.slice q3 w4.length d3) w4.length (w4.flatMap itCell) :: itsA w4 :: imi (0 < od.length) gA486 (.cells kA488 eA489 zA490) :: F) := (H518.move 3 rfl)
                          refine r_cons (s_call [.slice (some ⟨bk17, 0, none⟩) 4 4, .func (.func 13) #[] #[]] pl_12 rfl rfl (IndexFunc_pl P _ _ 4 hEp.p4 (by decide) (by decide) H590) ?_)
                          rintro _ w593 ⟨ki591, rfl, hki592, H594⟩
                          refine r_cons (s_assign (.int .i64 ki591) rfl rfl ?_)
                          refine r_nil ?_
                          have H595 : St W w593 (Row 32 6 (.slice q G.length d) G.length (G.flatMap itCell) :: itsA G :: GtA bk12 (e : Int) Wt :: Row 22 1 (.slice (some ⟨bk17, 0, none⟩) 4 4) 4 (P.flatMap plCell) :: plsA P :: Row 32 6 (.slice q3 w4.length d3) w4.length (w4.flatMap itCell) :: itsA w4 :: imi (0 < od.length) gA486 (.cells kA488 eA489 zA490) :: F) := ((((((((H594.move 7 rfl).move 7 rfl).move 7 rfl).move 7 rfl).move 4 rfl).move 7 rfl).move 7 rfl).move 7 rfl)
                          exact join519 (ki591) _ _ ⟨hki592, H595⟩ ⟨by first | rfl | exact vint (by omega), by first | rfl | exact vint (by omega), by first | rfl | exact vint (by omega), by first | rfl | exact vint (by omega), by first | rfl | exact vint (by omega), by first | rfl | exact vint (by omega), by first | rfl | exact vint (by omega), by first | rfl | exact vint (by omega), trivial⟩
                        · have hb589 := eq_false_of_ne_true hb589
                          refine g_false (congrArg Value.bool hb589) ?_
                          refine g_skip ?_
                          have H596 : St W w506 (Row 32 6 (.slice q G.length d) G.length (G.flatMap itCell) :: itsA G :: GtA bk12 (e : Int) Wt :: Row 22 1 (.slice (some ⟨bk17, 0, none⟩) 4 4) 4 (P.flatMap plCell) :: plsA P :: Row 32 6 (.slice q3 w4.length d3) w4.length (w4.flatMap itCell) :: itsA w4 :: imi (0 < od.length) gA486 (.cells kA488 eA489 zA490) :: F) := ((((((((H518.move 7 rfl).move 7 rfl).move 7 rfl).move 7 rfl).move 7 rfl).move 7 rfl).move 7 rfl).move 7 rfl)
                          exact join519 ((k : Int)) _ _ ⟨(.inr ⟨k, rfl, hk4, by have h9 := of_decide_eq_false hb589; omega⟩), H596⟩ ⟨by first | rfl | exact vint (by omega), by first | rfl | exact vint (by omega), by first | rfl | exact vint (by omega), by first | rfl | exact vint (by omega), by first | rfl | exact vint (by omega), by first | rfl | exact vint (by omega), by first | rfl | exact vint (by omega), by first | rfl | exact vint (by omega), trivial⟩
                    · intro join505
                      by_cases hb597 : (decide ((n : Int) < (od.length : Int))) = true
                      · skip
                        refine g_true (congrArg Value.bool hb597) ?_
                        refine g_region ?_
                        have hlt8 : n < od.length := by have h9 := of_decide_eq_true hb597; omega
                        refine r_cons (s_move (.slice pp5 od.length cc6) rfl rfl ?_)
                        refine r_cons (s_move (.int .i64 (n : Int)) rfl rfl ?_)
                        refine r_cons (s_indexAddr gA486 (off := oA487) (n : Int) 1 (oA487 + n * 1) (by exact congrArg (fun z_ => Value.slice z_ od.length cc6) (hp492 (by omega))) rfl el_23 (by omega) rfl rfl ?_)
                        refine r_cons (s_load (.int .u8 ((od.getD n 0).toNat : Int)) ag_5 rfl (H503.imi_at (i := 7) rfl (by omega)) (elem_cell (L := od) (i := n) u8c_len (hx493 (by omega)) (by omega) 0 0 (by decide) _ rfl) rfl ?_)
                        refine r_cons (s_conv ((od.getD n 0).toNat : Int) rfl us_5 ik_3 (wi64 (by have := UInt8.toNat_lt (od.getD n 0); omega)) rfl ?_)
                        refine r_cons (s_rem (((od.getD n 0).toNat % 4 : Nat) : Int) rfl rfl (by omega) (tmod_pos (by omega)) rfl ?_)
                        refine r_cons (s_assign (.int .i64 (((od.getD n 0).toNat % 4 : Nat) : Int)) rfl rfl ?_)
                        refine r_nil ?_
                        have H598 : St W w502 (Row 32 6 (.slice q G.length d) G.length (G.flatMap itCell) :: itsA G :: GtA bk12 (e : Int) Wt :: Row 22 1 (.slice (some ⟨bk17, 0, none⟩) 4 4) 4 (P.flatMap plCell) :: plsA P :: Row 32 6 (.slice q3 w4.length d3) w4.length (w4.flatMap itCell) :: itsA w4 :: imi (0 < od.length) gA486 (.cells kA488 eA489 zA490) :: F) := ((((((((H503.move 7 rfl).move 7 rfl).move 7 rfl).move 7 rfl).move 7 rfl).move 7 rfl).move 7 rfl).move 7 rfl)
                        exact join505 ((od.getD n 0).toNat % 4) _ _ ⟨(Nat.mod_lt _ (by decide)), H598⟩ ⟨by first | rfl | exact vint (by omega), by first | rfl | exact vint (by omega), by first | rfl | exact vint (by omega), by first | rfl | exact vint (by omega), by first | rfl | exact vint (by omega), by first | rfl | exact vint (by omega), by first | rfl | exact vint (by omega), by first | rfl | exact vint (by omega), trivial⟩
                      · have hb597 := eq_false_of_ne_true hb597
                        refine g_false (congrArg Value.bool hb597) ?_
                        refine g_skip ?_
                        have H599 : St W w502 (Row 32 6 (.slice q G.length d) G.length (G.flatMap itCell) :: itsA G :: GtA bk12 (e : Int) Wt :: Row 22 1 (.slice (some ⟨bk17, 0, none⟩) 4 4) 4 (P.flatMap plCell) :: plsA P :: Row 32 6 (.slice q3 w4.length d3) w4.length (w4.flatMap itCell) :: itsA w4 :: imi (0 < od.length) gA486 (.cells kA488 eA489 zA490) :: F) := ((((((((H503.move 7 rfl).move 7 rfl).move 7 rfl).move 7 rfl).move 7 rfl).move 7 rfl).move 7 rfl).move 7 rfl)
                        exact join505 (n % 4) _ _ ⟨(Nat.mod_lt _ (by decide)), H599⟩ ⟨by first | rfl | exact vint (by omega), by first | rfl | exact vint (by omega), by first | rfl | exact vint (by omega), by first | rfl | exact vint (by omega), by first | rfl | exact vint (by omega), by first | rfl | exact vint (by omega), by first | rfl | exact vint (by omega), by first | rfl | exact vint (by omega), trivial⟩
end Sl
