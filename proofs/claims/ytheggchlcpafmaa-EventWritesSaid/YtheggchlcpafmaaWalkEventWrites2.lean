/- Walks of the program's functions. Printed by a program of this claim's author. No condition. -/
import Derived.Test.YtheggchlcpafmaaSlQ
import Derived.Test.YtheggchlcpafmaaSlI
import Derived.Test.YtheggchlcpafmaaSlP
import Derived.Test.YtheggchlcpafmaaProg
import Derived.Test.YtheggchlcpafmaaWalkEventWrites1
namespace Sl
open _root_.Go _root_.Go.RowKit _root_.Go.Proofs
set_option linter.all false
set_option maxHeartbeats 4000000 in
set_option maxRecDepth 100000 in
theorem ref04_Form {W w : World} {F : List Atom} (e : EvM) (av : Value) (hev : evE e = 0) {j : Nat} (hj : F[j]? = some (Attrs av e.attrs)) (H : St W w F) : Calls Try.prog 40 #[.agg #[.int .i64 e.src.v, .int .i64 e.seq.v, .int .i64 e.time.v, .string e.typ.v, av]] w (Ret fun v w' => ∃ p n c, v = .slice p n c ∧ n = (formB e).length ∧ St W w' (Row 4 1 (.slice p n c) n ((formB e).flatMap blc) :: F)) := by
  obtain ⟨pA1, cA2, gA3, oA4, kA5, eA6, zA7, rfl, hn8, hp9, hx10, hs11, hml, H12⟩ := Im.open_ H hj
  have H13 := H12.dup (i := j + 1) (by exact hj) (Attrs_pers _ _)
  have H14 : St W w (Attrs (.slice pA1 e.attrs.length cA2) e.attrs :: imi (0 < e.attrs.length) gA3 (.cells kA5 eA6 zA7) :: F) := H13
  obtain ⟨hr1, hr2, hr3, hr4, hr5, hr6⟩ := evE_range hev
  have ht1 := timeB_range hr3
  have ht2 := timeB_range hr4
  have ha8 := attrsE_len hr6
  have hn5 := nameB_len hr5
  have hz1 := sizeU_le (u := e.seq.v.toNat) (by omega)
  have hz2 := sizeU_le (u := e.time.v.toNat) (by omega)
  have hz3 := sizeU_le (u := e.typ.v.size) (by omega)
  refine calls_of_go (n := 74) Try.func40 rfl Try.ntmps40 rfl ?_
  refine g_seq ?_
  refine g_region ?_
  refine r_cons (s_box H14 33 (.agg #[.int .i64 e.src.v, .int .i64 e.seq.v, .int .i64 e.time.v, .string e.typ.v, .slice pA1 e.attrs.length cA2]) rfl (cs := #[.int .i64 e.src.v, .int .i64 e.seq.v, .int .i64 e.time.v, .string e.typ.v, .slice pA1 e.attrs.length cA2]) rfl rfl ?_); intro bk15 w16 H17
  refine r_cons (s_assign (.slice none 0 0) rfl rfl ?_)
  refine r_nil ?_
  refine g_seq ?_
  refine g_mix (fun t_ w => St W w (blk bk15 (.cells #[.int .i64 e.src.v, .int .i64 e.seq.v, .int .i64 e.time.v, .string e.typ.v, .slice pA1 e.attrs.length cA2] 33 (0, 0)) :: Attrs (.slice pA1 e.attrs.length cA2) e.attrs :: imi (0 < e.attrs.length) gA3 (.cells kA5 eA6 zA7) :: t_)) F mixed 12 rfl H17.drew ?_
  refine f_first 0 (listed' := #[true, false, false, false, false, false, false, false, false, false, false, false]) rfl (by kernel_rfl) (by kernel_rfl) (by kernel_rfl) rfl ?_
  refine f_val rfl rfl rfl (by intro t_ w hw; exact x_fieldAddr 33 0 0 0 30 rfl fi_33_0 rfl w) ?_
  refine f_first 1 (listed' := #[true, true, false, false, false, false, false, false, false, false, false, false]) rfl (by kernel_rfl) (by kernel_rfl) (by kernel_rfl) rfl ?_
  refine f_val rfl rfl rfl (by intro t_ w hw; exact x_fieldAddr 30 0 0 0 3 rfl fi_30_0 rfl w) ?_
  refine f_first 2 (listed' := #[true, true, true, false, false, false, false, false, false, false, false, false]) rfl (by kernel_rfl) (by kernel_rfl) (by kernel_rfl) rfl ?_
  refine f_val rfl rfl rfl (by intro t_ w hw; exact x_load (.int .i64 e.src.v) ag_3 rfl (hw.blk_at (i := 0) rfl) rfl) ?_
  refine f_first 3 (listed' := #[true, true, true, true, false, false, false, false, false, false, false, false]) rfl (by kernel_rfl) (by kernel_rfl) (by kernel_rfl) rfl ?_
  refine f_val rfl rfl rfl (by intro t_ w hw; exact x_conv ((e.src.v.toNat : Nat) : Int) rfl us_3 ik_62 ((wu64 (by omega)).trans (by omega)) w) ?_
  refine f_first 5 (listed' := #[true, true, true, true, false, true, false, false, false, false, false, false]) rfl (by kernel_rfl) (by kernel_rfl) (by kernel_rfl) rfl ?_
  refine f_val rfl rfl rfl (by intro t_ w hw; exact x_fieldAddr 33 0 0 0 30 rfl fi_33_0 rfl w) ?_
  refine f_first 6 (listed' := #[true, true, true, true, false, true, true, false, false, false, false, false]) rfl (by kernel_rfl) (by kernel_rfl) (by kernel_rfl) rfl ?_
  refine f_val rfl rfl rfl (by intro t_ w hw; exact x_fieldAddr 30 1 1 1 2 rfl fi_30_1 rfl w) ?_
  refine f_first 7 (listed' := #[true, true, true, true, false, true, true, true, false, false, false, false]) rfl (by kernel_rfl) (by kernel_rfl) (by kernel_rfl) rfl ?_
  refine f_val rfl rfl rfl (by intro t_ w hw; exact x_load (.int .i64 e.seq.v) ag_2 rfl (hw.blk_at (i := 0) rfl) rfl) ?_
  refine f_first 8 (listed' := #[true, true, true, true, false, true, true, true, true, false, false, false]) rfl (by kernel_rfl) (by kernel_rfl) (by kernel_rfl) rfl ?_
  refine f_val rfl rfl rfl (by intro t_ w hw; exact x_conv ((e.seq.v.toNat : Nat) : Int) rfl us_2 ik_62 ((wu64 (by omega)).trans (by omega)) w) ?_
  refine f_all (rs := [4]) (by kernel_rfl) (by simp) ?_
  refine a_cons ⟨_, rfl, ?_⟩ (fun x hx => absurd hx (by simp))
  intro w18 H19
  try dsimp only at H19
  refine s_call [.int .u64 ((e.src.v.toNat : Nat) : Int), .int .i64 4] pl_43 rfl rfl (ref01_Low e.src.v.toNat 4 (by omega) (by omega) H19) ?_
  rintro _ w22 ⟨pp20, cc21, rfl, H23⟩
  have H24 : St W w22 (blk bk15 (.cells #[.int .i64 e.src.v, .int .i64 e.seq.v, .int .i64 e.time.v, .string e.typ.v, .slice pA1 e.attrs.length cA2] 33 (0, 0)) :: Attrs (.slice pA1 e.attrs.length cA2) e.attrs :: imi (0 < e.attrs.length) gA3 (.cells kA5 eA6 zA7) :: Row 4 1 (.slice pp20 4 cc21) 4 ((lowB e.src.v.toNat 4).flatMap blc) :: F) := (((H23.move 3 rfl).move 3 rfl).move 3 rfl)
  refine ⟨Row 4 1 (.slice pp20 4 cc21) 4 ((lowB e.src.v.toNat 4).flatMap blc) :: F, ?_, H24⟩
  change FReg _ _ _ _ _ #[true, true, true, true, true, true, true, true, true, false, false, false] _ _
  refine f_all (rs := [9]) (by kernel_rfl) (by simp) ?_
  refine a_cons ⟨_, rfl, ?_⟩ (fun x hx => absurd hx (by simp))
  intro w25 H26
  try dsimp only at H26
  refine s_call [.int .u64 ((e.seq.v.toNat : Nat) : Int)] pl_77 rfl rfl (ref01_Nat e.seq.v.toNat (by omega) H26) ?_
  rintro _ w29 ⟨pp27, cc28, rfl, H30⟩
  have H31 : St W w29 (blk bk15 (.cells #[.int .i64 e.src.v, .int .i64 e.seq.v, .int .i64 e.time.v, .string e.typ.v, .slice pA1 e.attrs.length cA2] 33 (0, 0)) :: Attrs (.slice pA1 e.attrs.length cA2) e.attrs :: imi (0 < e.attrs.length) gA3 (.cells kA5 eA6 zA7) :: Row 4 1 (.slice pp27 (sizeU e.seq.v.toNat) cc28) (sizeU e.seq.v.toNat) ((natB e.seq.v.toNat).flatMap blc) :: Row 4 1 (.slice pp20 4 cc21) 4 ((lowB e.src.v.toNat 4).flatMap blc) :: F) := (((((H30.move 4 rfl).move 1 rfl).move 4 rfl).move 4 rfl).move 4 rfl)
  refine ⟨Row 4 1 (.slice pp27 (sizeU e.seq.v.toNat) cc28) (sizeU e.seq.v.toNat) ((natB e.seq.v.toNat).flatMap blc) :: Row 4 1 (.slice pp20 4 cc21) 4 ((lowB e.src.v.toNat 4).flatMap blc) :: F, ?_, H31⟩
  change FReg _ _ _ _ _ #[true, true, true, true, true, true, true, true, true, true, false, false] _ _
  refine f_all (rs := [10]) (by kernel_rfl) (by simp) ?_
  refine a_cons ⟨_, rfl, ?_⟩ (fun x hx => absurd hx (by simp))
  intro w32 H33
  try dsimp only at H33
  refine s_append H33 4 rfl rfl rfl (Row.rd H33 (i := 3) rfl) ap_50 (by decide) (by unfold maxLen; omega) (by omega) (n' := 4 + sizeU e.seq.v.toNat) (xs' := (lowB e.src.v.toNat 4).flatMap blc ++ (natB e.seq.v.toNat).flatMap blc) (by omega) (by first | rfl | simp) rfl ?_; intro vv34 w35 H36 hn37
  obtain ⟨pp38, cc39, rfl⟩ := Row.slice H36 (i := 4) rfl
  refine ⟨Row 4 1 (.slice pp27 (sizeU e.seq.v.toNat) cc28) (sizeU e.seq.v.toNat) ((natB e.seq.v.toNat).flatMap blc) :: Row 4 1 (.slice pp38 (4 + sizeU e.seq.v.toNat) cc39) (4 + sizeU e.seq.v.toNat) ((lowB e.src.v.toNat 4).flatMap blc ++ (natB e.seq.v.toNat).flatMap blc) :: F, ?_, H36⟩
  change FReg _ _ _ _ _ #[true, true, true, true, true, true, true, true, true, true, true, false] _ _
  refine f_first 11 (listed' := #[true, true, true, true, true, true, true, true, true, true, true, true]) rfl (by kernel_rfl) (by kernel_rfl) (by kernel_rfl) rfl ?_
  refine f_val rfl rfl rfl (by intro t_ w hw; exact x_assign (.slice pp38 (4 + sizeU e.seq.v.toNat) cc39) rfl w) ?_
  refine f_done (by kernel_rfl) ?_
  intro w40 H41
  refine g_seq ?_
  refine g_mix (fun t_ w => St W w (blk bk15 (.cells #[.int .i64 e.src.v, .int .i64 e.seq.v, .int .i64 e.time.v, .string e.typ.v, .slice pA1 e.attrs.length cA2] 33 (0, 0)) :: Attrs (.slice pA1 e.attrs.length cA2) e.attrs :: imi (0 < e.attrs.length) gA3 (.cells kA5 eA6 zA7) :: Row 4 1 (.slice pp27 (sizeU e.seq.v.toNat) cc28) (sizeU e.seq.v.toNat) ((natB e.seq.v.toNat).flatMap blc) :: t_)) (Row 4 1 (.slice pp38 (4 + sizeU e.seq.v.toNat) cc39) (4 + sizeU e.seq.v.toNat) ((lowB e.src.v.toNat 4).flatMap blc ++ (natB e.seq.v.toNat).flatMap blc) :: F) mixed 11 rfl H41.drew ?_
  refine f_first 0 (listed' := #[true, false, false, false, false, false, false, false, false, false, false]) rfl (by kernel_rfl) (by kernel_rfl) (by kernel_rfl) rfl ?_
  refine f_val rfl rfl rfl (by intro t_ w hw; exact x_move (.slice pp38 (4 + sizeU e.seq.v.toNat) cc39) rfl w) ?_
  refine f_first 1 (listed' := #[true, true, false, false, false, false, false, false, false, false, false]) rfl (by kernel_rfl) (by kernel_rfl) (by kernel_rfl) rfl ?_
  refine f_val rfl rfl rfl (by intro t_ w hw; exact x_fieldAddr 33 1 2 2 2 rfl fi_33_1 rfl w) ?_
  refine f_first 2 (listed' := #[true, true, true, false, false, false, false, false, false, false, false]) rfl (by kernel_rfl) (by kernel_rfl) (by kernel_rfl) rfl ?_
  refine f_val rfl rfl rfl (by intro t_ w hw; exact x_load (.int .i64 e.time.v) ag_2 rfl (hw.blk_at (i := 0) rfl) rfl) ?_
  refine f_first 3 (listed' := #[true, true, true, true, false, false, false, false, false, false, false]) rfl (by kernel_rfl) (by kernel_rfl) (by kernel_rfl) rfl ?_
  refine f_val rfl rfl rfl (by intro t_ w hw; exact x_conv ((e.time.v.toNat : Nat) : Int) rfl us_2 ik_62 ((wu64 (by omega)).trans (by omega)) w) ?_
  refine f_first 6 (listed' := #[true, true, true, true, false, false, true, false, false, false, false]) rfl (by kernel_rfl) (by kernel_rfl) (by kernel_rfl) rfl ?_
  refine f_val rfl rfl rfl (by intro t_ w hw; exact x_fieldAddr 33 2 3 3 9 rfl fi_33_2 rfl w) ?_
  refine f_first 7 (listed' := #[true, true, true, true, false, false, true, true, false, false, false]) rfl (by kernel_rfl) (by kernel_rfl) (by kernel_rfl) rfl ?_
  refine f_val rfl rfl rfl (by intro t_ w hw; exact x_load (.string e.typ.v) ag_9 rfl (hw.blk_at (i := 0) rfl) rfl) ?_
  refine f_all (rs := [4]) (by kernel_rfl) (by simp) ?_
  refine a_cons ⟨_, rfl, ?_⟩ (fun x hx => absurd hx (by simp))
  intro w42 H43
  try dsimp only at H43
  refine s_call [.int .u64 ((e.time.v.toNat : Nat) : Int)] pl_77 rfl rfl (ref01_Nat e.time.v.toNat (by omega) H43) ?_
  rintro _ w46 ⟨pp44, cc45, rfl, H47⟩
  have H48 : St W w46 (blk bk15 (.cells #[.int .i64 e.src.v, .int .i64 e.seq.v, .int .i64 e.time.v, .string e.typ.v, .slice pA1 e.attrs.length cA2] 33 (0, 0)) :: Attrs (.slice pA1 e.attrs.length cA2) e.attrs :: imi (0 < e.attrs.length) gA3 (.cells kA5 eA6 zA7) :: Row 4 1 (.slice pp27 (sizeU e.seq.v.toNat) cc28) (sizeU e.seq.v.toNat) ((natB e.seq.v.toNat).flatMap blc) :: Row 4 1 (.slice pp44 (sizeU e.time.v.toNat) cc45) (sizeU e.time.v.toNat) ((natB e.time.v.toNat).flatMap blc) :: Row 4 1 (.slice pp38 (4 + sizeU e.seq.v.toNat) cc39) (4 + sizeU e.seq.v.toNat) ((lowB e.src.v.toNat 4).flatMap blc ++ (natB e.seq.v.toNat).flatMap blc) :: F) := ((((((H47.move 5 rfl).move 1 rfl).move 5 rfl).move 5 rfl).move 5 rfl).move 5 rfl)
  refine ⟨Row 4 1 (.slice pp44 (sizeU e.time.v.toNat) cc45) (sizeU e.time.v.toNat) ((natB e.time.v.toNat).flatMap blc) :: Row 4 1 (.slice pp38 (4 + sizeU e.seq.v.toNat) cc39) (4 + sizeU e.seq.v.toNat) ((lowB e.src.v.toNat 4).flatMap blc ++ (natB e.seq.v.toNat).flatMap blc) :: F, ?_, H48⟩
  change FReg _ _ _ _ _ #[true, true, true, true, true, false, true, true, false, false, false] _ _
  refine f_all (rs := [5]) (by kernel_rfl) (by simp) ?_
  refine a_cons ⟨_, rfl, ?_⟩ (fun x hx => absurd hx (by simp))
  intro w49 H50
  try dsimp only at H50
  refine s_append H50 5 rfl rfl rfl (Row.rd H50 (i := 4) rfl) ap_50 (by decide) (by unfold maxLen; omega) (by omega) (n' := 4 + sizeU e.seq.v.toNat + sizeU e.time.v.toNat) (xs' := (lowB e.src.v.toNat 4).flatMap blc ++ (natB e.seq.v.toNat).flatMap blc ++ (natB e.time.v.toNat).flatMap blc) (by omega) (by first | rfl | simp) rfl ?_; intro vv51 w52 H53 hn54
  obtain ⟨pp55, cc56, rfl⟩ := Row.slice H53 (i := 5) rfl
  refine ⟨Row 4 1 (.slice pp44 (sizeU e.time.v.toNat) cc45) (sizeU e.time.v.toNat) ((natB e.time.v.toNat).flatMap blc) :: Row 4 1 (.slice pp55 (4 + sizeU e.seq.v.toNat + sizeU e.time.v.toNat) cc56) (4 + sizeU e.seq.v.toNat + sizeU e.time.v.toNat) ((lowB e.src.v.toNat 4).flatMap blc ++ (natB e.seq.v.toNat).flatMap blc ++ (natB e.time.v.toNat).flatMap blc) :: F, ?_, H53⟩
  change FReg _ _ _ _ _ #[true, true, true, true, true, true, true, true, false, false, false] _ _
  refine f_all (rs := [8]) (by kernel_rfl) (by simp) ?_
  refine a_cons ⟨_, rfl, ?_⟩ (fun x hx => absurd hx (by simp))
  intro w57 H58
  try dsimp only at H58
  refine s_call [.string e.typ.v] pl_78 rfl rfl (ref01_Text e.typ.v (by omega) H58) ?_
  rintro _ w61 ⟨pp59, cc60, rfl, H62⟩
  have H63 : St W w61 (blk bk15 (.cells #[.int .i64 e.src.v, .int .i64 e.seq.v, .int .i64 e.time.v, .string e.typ.v, .slice pA1 e.attrs.length cA2] 33 (0, 0)) :: Attrs (.slice pA1 e.attrs.length cA2) e.attrs :: imi (0 < e.attrs.length) gA3 (.cells kA5 eA6 zA7) :: Row 4 1 (.slice pp27 (sizeU e.seq.v.toNat) cc28) (sizeU e.seq.v.toNat) ((natB e.seq.v.toNat).flatMap blc) :: Row 4 1 (.slice pp59 (sizeU e.typ.v.size + 8 * e.typ.v.size) cc60) (sizeU e.typ.v.size + 8 * e.typ.v.size) ((textB e.typ.v).flatMap blc) :: Row 4 1 (.slice pp44 (sizeU e.time.v.toNat) cc45) (sizeU e.time.v.toNat) ((natB e.time.v.toNat).flatMap blc) :: Row 4 1 (.slice pp55 (4 + sizeU e.seq.v.toNat + sizeU e.time.v.toNat) cc56) (4 + sizeU e.seq.v.toNat + sizeU e.time.v.toNat) ((lowB e.src.v.toNat 4).flatMap blc ++ (natB e.seq.v.toNat).flatMap blc ++ (natB e.time.v.toNat).flatMap blc) :: F) := (((((((H62.move 6 rfl).move 6 rfl).move 2 rfl).move 6 rfl).move 6 rfl).move 6 rfl).move 6 rfl)
  refine ⟨Row 4 1 (.slice pp59 (sizeU e.typ.v.size + 8 * e.typ.v.size) cc60) (sizeU e.typ.v.size + 8 * e.typ.v.size) ((textB e.typ.v).flatMap blc) :: Row 4 1 (.slice pp44 (sizeU e.time.v.toNat) cc45) (sizeU e.time.v.toNat) ((natB e.time.v.toNat).flatMap blc) :: Row 4 1 (.slice pp55 (4 + sizeU e.seq.v.toNat + sizeU e.time.v.toNat) cc56) (4 + sizeU e.seq.v.toNat + sizeU e.time.v.toNat) ((lowB e.src.v.toNat 4).flatMap blc ++ (natB e.seq.v.toNat).flatMap blc ++ (natB e.time.v.toNat).flatMap blc) :: F, ?_, H63⟩
  change FReg _ _ _ _ _ #[true, true, true, true, true, true, true, true, true, false, false] _ _
  refine f_all (rs := [9]) (by kernel_rfl) (by simp) ?_
  refine a_cons ⟨_, rfl, ?_⟩ (fun x hx => absurd hx (by simp))
  intro w64 H65
  try dsimp only at H65
  refine s_append H65 6 rfl rfl rfl (Row.rd H65 (i := 4) rfl) ap_50 (by decide) (by unfold maxLen; omega) (by omega) (n' := 4 + sizeU e.seq.v.toNat + sizeU e.time.v.toNat + sizeU e.typ.v.size + 8 * e.typ.v.size) (xs' := (lowB e.src.v.toNat 4).flatMap blc ++ (natB e.seq.v.toNat).flatMap blc ++ (natB e.time.v.toNat).flatMap blc ++ (textB e.typ.v).flatMap blc) (by omega) (by first | rfl | simp) rfl ?_; intro vv66 w67 H68 hn69
  obtain ⟨pp70, cc71, rfl⟩ := Row.slice H68 (i := 6) rfl
  refine ⟨Row 4 1 (.slice pp59 (sizeU e.typ.v.size + 8 * e.typ.v.size) cc60) (sizeU e.typ.v.size + 8 * e.typ.v.size) ((textB e.typ.v).flatMap blc) :: Row 4 1 (.slice pp44 (sizeU e.time.v.toNat) cc45) (sizeU e.time.v.toNat) ((natB e.time.v.toNat).flatMap blc) :: Row 4 1 (.slice pp70 (4 + sizeU e.seq.v.toNat + sizeU e.time.v.toNat + sizeU e.typ.v.size + 8 * e.typ.v.size) cc71) (4 + sizeU e.seq.v.toNat + sizeU e.time.v.toNat + sizeU e.typ.v.size + 8 * e.typ.v.size) ((lowB e.src.v.toNat 4).flatMap blc ++ (natB e.seq.v.toNat).flatMap blc ++ (natB e.time.v.toNat).flatMap blc ++ (textB e.typ.v).flatMap blc) :: F, ?_, H68⟩
  change FReg _ _ _ _ _ #[true, true, true, true, true, true, true, true, true, true, false] _ _
  refine f_first 10 (listed' := #[true, true, true, true, true, true, true, true, true, true, true]) rfl (by kernel_rfl) (by kernel_rfl) (by kernel_rfl) rfl ?_
  refine f_val rfl rfl rfl (by intro t_ w hw; exact x_assign (.slice pp70 (4 + sizeU e.seq.v.toNat + sizeU e.time.v.toNat + sizeU e.typ.v.size + 8 * e.typ.v.size) cc71) rfl w) ?_
  refine f_done (by kernel_rfl) ?_
  intro w72 H73
  refine g_seq ?_
  refine g_region ?_
  refine r_cons (s_move (.slice pp70 (4 + sizeU e.seq.v.toNat + sizeU e.time.v.toNat + sizeU e.typ.v.size + 8 * e.typ.v.size) cc71) rfl rfl ?_)
  refine r_cons (s_fieldAddr 33 3 4 4 31 rfl fi_33_3 rfl rfl ?_)
  refine r_cons (s_load (.slice pA1 e.attrs.length cA2) ag_31 rfl (H73.blk_at (i := 0) rfl) rfl rfl ?_)
  refine r_cons (s_len e.attrs.length rfl ⟨_, un_31⟩ rfl ?_)
  refine r_cons (s_conv ((e.attrs.length : Nat) : Int) rfl us_3 ik_62 (wu64 (by omega)) rfl ?_)
  refine r_cons (s_call [.int .u64 ((e.attrs.length : Nat) : Int), .int .i64 4] pl_43 rfl rfl (ref01_Low e.attrs.length 4 (by omega) (by omega) H73) ?_)
  rintro _ w76 ⟨pp74, cc75, rfl, H77⟩
  refine r_cons (s_append H77 7 rfl rfl rfl (Row.rd H77 (i := 0) rfl) ap_50 (by decide) (by unfold maxLen; omega) (by omega) (n' := 4 + sizeU e.seq.v.toNat + sizeU e.time.v.toNat + sizeU e.typ.v.size + 8 * e.typ.v.size + 4) (xs' := (lowB e.src.v.toNat 4).flatMap blc ++ (natB e.seq.v.toNat).flatMap blc ++ (natB e.time.v.toNat).flatMap blc ++ (textB e.typ.v).flatMap blc ++ (lowB e.attrs.length 4).flatMap blc) (by omega) (by first | rfl | simp) rfl ?_); intro vv78 w79 H80 hn81
  obtain ⟨pp82, cc83, rfl⟩ := Row.slice H80 (i := 7) rfl
  refine r_cons (s_assign (.slice pp82 (4 + sizeU e.seq.v.toNat + sizeU e.time.v.toNat + sizeU e.typ.v.size + 8 * e.typ.v.size + 4) cc83) rfl rfl ?_)
  refine r_nil ?_
  refine g_seq ?_
  refine g_seq ?_
  refine g_region ?_
  refine r_cons (s_assign (.int .i64 0) rfl rfl ?_)
  refine r_nil ?_
  refine g_block ?_
  have hX0 : (headB e ++ (e.attrs.take 0).flatMap attrB) = headB e := by rw [List.take_zero, List.flatMap_nil, List.append_nil]
  have hnn : (headB e ++ (e.attrs.take 0).flatMap attrB).length = 4 + sizeU e.seq.v.toNat + sizeU e.time.v.toNat + sizeU e.typ.v.size + 8 * e.typ.v.size + 4 := by rw [hX0]; unfold headB; simp only [List.length_append, lowB_len, natB_len, textB_len]; omega
  have H84 : St W w79 (Row 4 1 (.slice pp74 4 cc75) 4 ((lowB e.attrs.length 4).flatMap blc) :: blk bk15 (.cells #[.int .i64 e.src.v, .int .i64 e.seq.v, .int .i64 e.time.v, .string e.typ.v, .slice pA1 e.attrs.length cA2] 33 (0, 0)) :: Attrs (.slice pA1 e.attrs.length cA2) e.attrs :: imi (0 < e.attrs.length) gA3 (.cells kA5 eA6 zA7) :: Row 4 1 (.slice pp27 (sizeU e.seq.v.toNat) cc28) (sizeU e.seq.v.toNat) ((natB e.seq.v.toNat).flatMap blc) :: Row 4 1 (.slice pp59 (sizeU e.typ.v.size + 8 * e.typ.v.size) cc60) (sizeU e.typ.v.size + 8 * e.typ.v.size) ((textB e.typ.v).flatMap blc) :: Row 4 1 (.slice pp44 (sizeU e.time.v.toNat) cc45) (sizeU e.time.v.toNat) ((natB e.time.v.toNat).flatMap blc) :: Row 4 1 (.slice pp82 ((headB e ++ (e.attrs.take 0).flatMap attrB).length) cc83) ((headB e ++ (e.attrs.take 0).flatMap attrB).length) ((headB e ++ (e.attrs.take 0).flatMap attrB).flatMap blc) :: F) := by rw [hnn, hX0]; unfold headB; simp only [List.flatMap_append, List.append_assoc] at H80 ⊢; exact H80
  have H85 : St W w79 (Row 4 1 (.slice pp82 ((headB e ++ (e.attrs.take 0).flatMap attrB).length) cc83) ((headB e ++ (e.attrs.take 0).flatMap attrB).length) ((headB e ++ (e.attrs.take 0).flatMap attrB).flatMap blc) :: Row 4 1 (.slice pp74 4 cc75) 4 ((lowB e.attrs.length 4).flatMap blc) :: blk bk15 (.cells #[.int .i64 e.src.v, .int .i64 e.seq.v, .int .i64 e.time.v, .string e.typ.v, .slice pA1 e.attrs.length cA2] 33 (0, 0)) :: Attrs (.slice pA1 e.attrs.length cA2) e.attrs :: imi (0 < e.attrs.length) gA3 (.cells kA5 eA6 zA7) :: Row 4 1 (.slice pp27 (sizeU e.seq.v.toNat) cc28) (sizeU e.seq.v.toNat) ((natB e.seq.v.toNat).flatMap blc) :: Row 4 1 (.slice pp59 (sizeU e.typ.v.size + 8 * e.typ.v.size) cc60) (sizeU e.typ.v.size + 8 * e.typ.v.size) ((textB e.typ.v).flatMap blc) :: Row 4 1 (.slice pp44 (sizeU e.time.v.toNat) cc45) (sizeU e.time.v.toNat) ((natB e.time.v.toNat).flatMap blc) :: F) := ((((((((H84.move 6 rfl).move 6 rfl).move 6 rfl).move 6 rfl).move 6 rfl).move 6 rfl).move 6 rfl).move 7 rfl)
  refine g_loop_inv (fun (x_ : Nat × (Option Addr) × Nat) => match x_ with | (j2, pq, cq) => [(1, .pointer (some ⟨bk15, 0, none⟩)), (2, .slice none 0 0), (3, .slice pq ((headB e ++ (e.attrs.take j2).flatMap attrB).length) cq), (4, .int .i64 (j2 : Int))]) (fun (x_ : Nat × (Option Addr) × Nat) w => match x_ with | (j2, pq, cq) => (j2 ≤ e.attrs.length) ∧ St W w (Row 4 1 (.slice pq ((headB e ++ (e.attrs.take j2).flatMap attrB).length) cq) ((headB e ++ (e.attrs.take j2).flatMap attrB).length) ((headB e ++ (e.attrs.take j2).flatMap attrB).flatMap blc) :: Row 4 1 (.slice pp74 4 cc75) 4 ((lowB e.attrs.length 4).flatMap blc) :: blk bk15 (.cells #[.int .i64 e.src.v, .int .i64 e.seq.v, .int .i64 e.time.v, .string e.typ.v, .slice pA1 e.attrs.length cA2] 33 (0, 0)) :: Attrs (.slice pA1 e.attrs.length cA2) e.attrs :: imi (0 < e.attrs.length) gA3 (.cells kA5 eA6 zA7) :: Row 4 1 (.slice pp27 (sizeU e.seq.v.toNat) cc28) (sizeU e.seq.v.toNat) ((natB e.seq.v.toNat).flatMap blc) :: Row 4 1 (.slice pp59 (sizeU e.typ.v.size + 8 * e.typ.v.size) cc60) (sizeU e.typ.v.size + 8 * e.typ.v.size) ((textB e.typ.v).flatMap blc) :: Row 4 1 (.slice pp44 (sizeU e.time.v.toNat) cc45) (sizeU e.time.v.toNat) ((natB e.time.v.toNat).flatMap blc) :: F)) (fun (x_ : Nat × (Option Addr) × Nat) => match x_ with | (j2, pq, cq) => e.attrs.length - j2) (0, pp82, cc83) ?_ ?_ ?_
  · exact ⟨by first | rfl | exact vint (by omega), by first | rfl | exact vint (by omega), congrArg (fun z_ => Value.slice pp82 z_ cc83) hnn.symm, by first | rfl | exact vint (by omega), trivial⟩
  · exact ⟨(by omega), H85⟩
  · rintro ⟨j2, pq, cq⟩ ρ86 w87 ⟨hj2, H88⟩ nx89
    change Ends _ _ (upds ρ86 [(1, .pointer (some ⟨bk15, 0, none⟩)), (2, .slice none 0 0), (3, .slice pq ((headB e ++ (e.attrs.take j2).flatMap attrB).length) cq), (4, .int .i64 (j2 : Int))]) w87
    refine g_seq ?_
    refine g_seq ?_
    refine g_region ?_
    refine r_cons (s_move (.int .i64 (j2 : Int)) rfl rfl ?_)
    refine r_cons (s_fieldAddr 33 3 4 4 31 rfl fi_33_3 rfl rfl ?_)
    refine r_cons (s_load (.slice pA1 e.attrs.length cA2) ag_31 rfl (H88.blk_at (i := 2) rfl) rfl rfl ?_)
    refine r_cons (s_len e.attrs.length rfl ⟨_, un_31⟩ rfl ?_)
    by_cases hc90 : (j2 : Int) < (e.attrs.length : Int)
    · skip
      refine r_cons (s_lss true rfl rfl (dtrue hc90) rfl ?_)
      refine r_nil ?_
      refine g_true rfl ?_
      refine g_skip ?_
      refine g_seq ?_
      refine g_block ?_
      refine g_seq ?_
      refine g_region ?_
      refine r_cons (s_fieldAddr 33 3 4 4 31 rfl fi_33_3 rfl rfl ?_)
      refine r_cons (s_load (.slice pA1 e.attrs.length cA2) ag_31 rfl (H88.blk_at (i := 2) rfl) rfl rfl ?_)
      refine r_cons (s_move (.int .i64 (j2 : Int)) rfl rfl ?_)
      refine r_cons (s_indexAddr gA3 (off := oA4) (j2 : Int) 4 (oA4 + j2 * 4) (by exact congrArg (fun z_ => Value.slice z_ e.attrs.length cA2) (hp9 (by omega))) rfl el_31 (by omega) rfl rfl ?_)
      refine r_cons (s_loadAgg [.string ((e.attrs.getD j2 default).name.v), .int .i64 ((e.attrs.getD j2 default).kind.v), .int .i64 ((e.attrs.getD j2 default).n.v), .string ((e.attrs.getD j2 default).s.v)] 4 ag_91 rfl (H88.imi_at (i := 4) rfl (by omega)) (by have := elem_size (i := j2) (s := 4) (hs11 (by omega)) (by omega); omega) (elem_take attrCell_len (hx10 (by omega)) (by omega) default) rfl ?_)
      refine r_cons (s_alloc H88 91 ze_91 rfl ?_); intro bk91 w92 H93
      refine r_cons (s_storeAgg H93 0 #[.string ((e.attrs.getD j2 default).name.v), .int .i64 ((e.attrs.getD j2 default).kind.v), .int .i64 ((e.attrs.getD j2 default).n.v), .string ((e.attrs.getD j2 default).s.v)] 4 rfl rfl rfl sz_91 rfl (by simp [Value.oneCell']) (Nat.le_of_ble_eq_true rfl) (fun o h1 h2 => by first | (simp; done) | (simp; omega)) (cs' := #[.string ((e.attrs.getD j2 default).name.v), .int .i64 ((e.attrs.getD j2 default).kind.v), .int .i64 ((e.attrs.getD j2 default).n.v), .string ((e.attrs.getD j2 default).s.v)]) rfl ?_); intro w94 H95
      refine r_nil ?_
      refine g_seq ?_
      have H96 : St W w94 (blk bk91 (.cells #[.string ((e.attrs.getD j2 default).name.v), .int .i64 ((e.attrs.getD j2 default).kind.v), .int .i64 ((e.attrs.getD j2 default).n.v), .string ((e.attrs.getD j2 default).s.v)] 91 (0, 0)) :: Row 4 1 (.slice pp74 4 cc75) 4 ((lowB e.attrs.length 4).flatMap blc) :: blk bk15 (.cells #[.int .i64 e.src.v, .int .i64 e.seq.v, .int .i64 e.time.v, .string e.typ.v, .slice pA1 e.attrs.length cA2] 33 (0, 0)) :: Attrs (.slice pA1 e.attrs.length cA2) e.attrs :: imi (0 < e.attrs.length) gA3 (.cells kA5 eA6 zA7) :: Row 4 1 (.slice pp27 (sizeU e.seq.v.toNat) cc28) (sizeU e.seq.v.toNat) ((natB e.seq.v.toNat).flatMap blc) :: Row 4 1 (.slice pp59 (sizeU e.typ.v.size + 8 * e.typ.v.size) cc60) (sizeU e.typ.v.size + 8 * e.typ.v.size) ((textB e.typ.v).flatMap blc) :: Row 4 1 (.slice pp44 (sizeU e.time.v.toNat) cc45) (sizeU e.time.v.toNat) ((natB e.time.v.toNat).flatMap blc) :: Row 4 1 (.slice pq ((headB e ++ (e.attrs.take j2).flatMap attrB).length) cq) ((headB e ++ (e.attrs.take j2).flatMap attrB).length) ((headB e ++ (e.attrs.take j2).flatMap attrB).flatMap blc) :: F) := (((((((((H95.move 1 rfl).move 8 rfl).move 8 rfl).move 8 rfl).move 8 rfl).move 8 rfl).move 8 rfl).move 8 rfl).move 8 rfl)
      refine g_mix (fun t_ w => St W w (blk bk91 (.cells #[.string ((e.attrs.getD j2 default).name.v), .int .i64 ((e.attrs.getD j2 default).kind.v), .int .i64 ((e.attrs.getD j2 default).n.v), .string ((e.attrs.getD j2 default).s.v)] 91 (0, 0)) :: Row 4 1 (.slice pp74 4 cc75) 4 ((lowB e.attrs.length 4).flatMap blc) :: blk bk15 (.cells #[.int .i64 e.src.v, .int .i64 e.seq.v, .int .i64 e.time.v, .string e.typ.v, .slice pA1 e.attrs.length cA2] 33 (0, 0)) :: Attrs (.slice pA1 e.attrs.length cA2) e.attrs :: imi (0 < e.attrs.length) gA3 (.cells kA5 eA6 zA7) :: Row 4 1 (.slice pp27 (sizeU e.seq.v.toNat) cc28) (sizeU e.seq.v.toNat) ((natB e.seq.v.toNat).flatMap blc) :: Row 4 1 (.slice pp59 (sizeU e.typ.v.size + 8 * e.typ.v.size) cc60) (sizeU e.typ.v.size + 8 * e.typ.v.size) ((textB e.typ.v).flatMap blc) :: Row 4 1 (.slice pp44 (sizeU e.time.v.toNat) cc45) (sizeU e.time.v.toNat) ((natB e.time.v.toNat).flatMap blc) :: t_)) (Row 4 1 (.slice pq ((headB e ++ (e.attrs.take j2).flatMap attrB).length) cq) ((headB e ++ (e.attrs.take j2).flatMap attrB).length) ((headB e ++ (e.attrs.take j2).flatMap attrB).flatMap blc) :: F) mixed 12 rfl H96.drew ?_
      refine f_first 0 (listed' := #[true, false, false, false, false, false, false, false, false, false, false, false]) rfl (by kernel_rfl) (by kernel_rfl) (by kernel_rfl) rfl ?_
      obtain ⟨ha1, ha2, ha3, ha4⟩ := attr_ok hr6 (j := j2) (by omega)
      have hnlo := (e.attrs.getD j2 default).n.lo
      have hnhi := (e.attrs.getD j2 default).n.hi
      have hz4 := sizeU_le (u := (e.attrs.getD j2 default).name.v.size) (by omega)
      have hz5 := sizeU_le (u := (e.attrs.getD j2 default).s.v.size) (by omega)
      have hz6 := sizeU_le (zigN_lt hnlo hnhi)
      have hfl2 : (headB e ++ (e.attrs.take j2).flatMap attrB).length ≤ 20000 := by have h1 := attrs_le hr6 j2 (by omega); have h2 := textB_le hn5 (by omega); unfold headB; simp only [List.length_append, lowB_len, natB_len]; omega
      refine f_val rfl rfl rfl (by intro t_ w hw; exact x_move (.slice pq ((headB e ++ (e.attrs.take j2).flatMap attrB).length) cq) rfl w) ?_
      refine f_first 1 (listed' := #[true, true, false, false, false, false, false, false, false, false, false, false]) rfl (by kernel_rfl) (by kernel_rfl) (by kernel_rfl) rfl ?_
      refine f_val rfl rfl rfl (by intro t_ w hw; exact x_fieldAddr 91 0 0 0 9 rfl fi_91_0 rfl w) ?_
      refine f_first 2 (listed' := #[true, true, true, false, false, false, false, false, false, false, false, false]) rfl (by kernel_rfl) (by kernel_rfl) (by kernel_rfl) rfl ?_
      refine f_val rfl rfl rfl (by intro t_ w hw; exact x_load (.string ((e.attrs.getD j2 default).name.v)) ag_9 rfl (hw.blk_at (i := 0) rfl) rfl) ?_
      refine f_first 5 (listed' := #[true, true, true, false, false, true, false, false, false, false, false, false]) rfl (by kernel_rfl) (by kernel_rfl) (by kernel_rfl) rfl ?_
      refine f_val rfl rfl rfl (by intro t_ w hw; exact x_fieldAddr 91 1 1 1 89 rfl fi_91_1 rfl w) ?_
      refine f_first 6 (listed' := #[true, true, true, false, false, true, true, false, false, false, false, false]) rfl (by kernel_rfl) (by kernel_rfl) (by kernel_rfl) rfl ?_
      refine f_val rfl rfl rfl (by intro t_ w hw; exact x_fieldAddr 89 0 0 1 3 rfl fi_89_0 rfl w) ?_
      refine f_first 7 (listed' := #[true, true, true, false, false, true, true, true, false, false, false, false]) rfl (by kernel_rfl) (by kernel_rfl) (by kernel_rfl) rfl ?_
      refine f_val rfl rfl rfl (by intro t_ w hw; exact x_load (.int .i64 ((e.attrs.getD j2 default).kind.v)) ag_3 rfl (hw.blk_at (i := 0) rfl) rfl) ?_
      refine f_first 8 (listed' := #[true, true, true, false, false, true, true, true, true, false, false, false]) rfl (by kernel_rfl) (by kernel_rfl) (by kernel_rfl) rfl ?_
      refine f_val rfl rfl rfl (by intro t_ w hw; exact x_conv (((e.attrs.getD j2 default).kind.v.toNat : Nat) : Int) rfl us_3 ik_62 ((wu64 (by omega)).trans (by omega)) w) ?_
      refine f_all (rs := [3]) (by kernel_rfl) (by simp) ?_
      refine a_cons ⟨_, rfl, ?_⟩ (fun x hx => absurd hx (by simp))
      intro w97 H98
      try dsimp only at H98
      refine s_call [.string ((e.attrs.getD j2 default).name.v)] pl_78 rfl rfl (ref01_Text ((e.attrs.getD j2 default).name.v) (by omega) H98) ?_
      rintro _ w101 ⟨pp99, cc100, rfl, H102⟩
      have H103 : St W w101 (blk bk91 (.cells #[.string ((e.attrs.getD j2 default).name.v), .int .i64 ((e.attrs.getD j2 default).kind.v), .int .i64 ((e.attrs.getD j2 default).n.v), .string ((e.attrs.getD j2 default).s.v)] 91 (0, 0)) :: Row 4 1 (.slice pp74 4 cc75) 4 ((lowB e.attrs.length 4).flatMap blc) :: blk bk15 (.cells #[.int .i64 e.src.v, .int .i64 e.seq.v, .int .i64 e.time.v, .string e.typ.v, .slice pA1 e.attrs.length cA2] 33 (0, 0)) :: Attrs (.slice pA1 e.attrs.length cA2) e.attrs :: imi (0 < e.attrs.length) gA3 (.cells kA5 eA6 zA7) :: Row 4 1 (.slice pp27 (sizeU e.seq.v.toNat) cc28) (sizeU e.seq.v.toNat) ((natB e.seq.v.toNat).flatMap blc) :: Row 4 1 (.slice pp59 (sizeU e.typ.v.size + 8 * e.typ.v.size) cc60) (sizeU e.typ.v.size + 8 * e.typ.v.size) ((textB e.typ.v).flatMap blc) :: Row 4 1 (.slice pp44 (sizeU e.time.v.toNat) cc45) (sizeU e.time.v.toNat) ((natB e.time.v.toNat).flatMap blc) :: Row 4 1 (.slice pp99 (sizeU ((e.attrs.getD j2 default).name.v).size + 8 * ((e.attrs.getD j2 default).name.v).size) cc100) (sizeU ((e.attrs.getD j2 default).name.v).size + 8 * ((e.attrs.getD j2 default).name.v).size) ((textB ((e.attrs.getD j2 default).name.v)).flatMap blc) :: Row 4 1 (.slice pq ((headB e ++ (e.attrs.take j2).flatMap attrB).length) cq) ((headB e ++ (e.attrs.take j2).flatMap attrB).length) ((headB e ++ (e.attrs.take j2).flatMap attrB).flatMap blc) :: F) := ((((((((((H102.move 9 rfl).move 1 rfl).move 9 rfl).move 9 rfl).move 9 rfl).move 9 rfl).move 9 rfl).move 9 rfl).move 9 rfl).move 9 rfl)
      refine ⟨Row 4 1 (.slice pp99 (sizeU ((e.attrs.getD j2 default).name.v).size + 8 * ((e.attrs.getD j2 default).name.v).size) cc100) (sizeU ((e.attrs.getD j2 default).name.v).size + 8 * ((e.attrs.getD j2 default).name.v).size) ((textB ((e.attrs.getD j2 default).name.v)).flatMap blc) :: Row 4 1 (.slice pq ((headB e ++ (e.attrs.take j2).flatMap attrB).length) cq) ((headB e ++ (e.attrs.take j2).flatMap attrB).length) ((headB e ++ (e.attrs.take j2).flatMap attrB).flatMap blc) :: F, ?_, H103⟩
      change FReg _ _ _ _ _ #[true, true, true, true, false, true, true, true, true, false, false, false] _ _
      refine f_all (rs := [4]) (by kernel_rfl) (by simp) ?_
      refine a_cons ⟨_, rfl, ?_⟩ (fun x hx => absurd hx (by simp))
      intro w104 H105
      try dsimp only at H105
      refine s_append H105 9 rfl rfl rfl (Row.rd H105 (i := 8) rfl) ap_50 (by decide) (by unfold maxLen; omega) (by omega) (n' := (headB e ++ (e.attrs.take j2).flatMap attrB).length + sizeU ((e.attrs.getD j2 default).name.v).size + 8 * ((e.attrs.getD j2 default).name.v).size) (xs' := (headB e ++ (e.attrs.take j2).flatMap attrB).flatMap blc ++ (textB ((e.attrs.getD j2 default).name.v)).flatMap blc) (by omega) (by first | rfl | simp) rfl ?_; intro vv106 w107 H108 hn109
      obtain ⟨pp110, cc111, rfl⟩ := Row.slice H108 (i := 9) rfl
      refine ⟨Row 4 1 (.slice pp99 (sizeU ((e.attrs.getD j2 default).name.v).size + 8 * ((e.attrs.getD j2 default).name.v).size) cc100) (sizeU ((e.attrs.getD j2 default).name.v).size + 8 * ((e.attrs.getD j2 default).name.v).size) ((textB ((e.attrs.getD j2 default).name.v)).flatMap blc) :: Row 4 1 (.slice pp110 ((headB e ++ (e.attrs.take j2).flatMap attrB).length + sizeU ((e.attrs.getD j2 default).name.v).size + 8 * ((e.attrs.getD j2 default).name.v).size) cc111) ((headB e ++ (e.attrs.take j2).flatMap attrB).length + sizeU ((e.attrs.getD j2 default).name.v).size + 8 * ((e.attrs.getD j2 default).name.v).size) ((headB e ++ (e.attrs.take j2).flatMap attrB).flatMap blc ++ (textB ((e.attrs.getD j2 default).name.v)).flatMap blc) :: F, ?_, H108⟩
      change FReg _ _ _ _ _ #[true, true, true, true, true, true, true, true, true, false, false, false] _ _
      refine f_all (rs := [9]) (by kernel_rfl) (by simp) ?_
      refine a_cons ⟨_, rfl, ?_⟩ (fun x hx => absurd hx (by simp))
      intro w112 H113
      try dsimp only at H113
      refine s_call [.int .u64 (((e.attrs.getD j2 default).kind.v.toNat : Nat) : Int), .int .i64 2] pl_43 rfl rfl (ref01_Low ((e.attrs.getD j2 default).kind.v.toNat) 2 (by omega) (by omega) H113) ?_
      rintro _ w116 ⟨pp114, cc115, rfl, H117⟩
      have H118 : St W w116 (blk bk91 (.cells #[.string ((e.attrs.getD j2 default).name.v), .int .i64 ((e.attrs.getD j2 default).kind.v), .int .i64 ((e.attrs.getD j2 default).n.v), .string ((e.attrs.getD j2 default).s.v)] 91 (0, 0)) :: Row 4 1 (.slice pp74 4 cc75) 4 ((lowB e.attrs.length 4).flatMap blc) :: blk bk15 (.cells #[.int .i64 e.src.v, .int .i64 e.seq.v, .int .i64 e.time.v, .string e.typ.v, .slice pA1 e.attrs.length cA2] 33 (0, 0)) :: Attrs (.slice pA1 e.attrs.length cA2) e.attrs :: imi (0 < e.attrs.length) gA3 (.cells kA5 eA6 zA7) :: Row 4 1 (.slice pp27 (sizeU e.seq.v.toNat) cc28) (sizeU e.seq.v.toNat) ((natB e.seq.v.toNat).flatMap blc) :: Row 4 1 (.slice pp59 (sizeU e.typ.v.size + 8 * e.typ.v.size) cc60) (sizeU e.typ.v.size + 8 * e.typ.v.size) ((textB e.typ.v).flatMap blc) :: Row 4 1 (.slice pp44 (sizeU e.time.v.toNat) cc45) (sizeU e.time.v.toNat) ((natB e.time.v.toNat).flatMap blc) :: Row 4 1 (.slice pp114 2 cc115) 2 ((lowB ((e.attrs.getD j2 default).kind.v.toNat) 2).flatMap blc) :: Row 4 1 (.slice pp99 (sizeU ((e.attrs.getD j2 default).name.v).size + 8 * ((e.attrs.getD j2 default).name.v).size) cc100) (sizeU ((e.attrs.getD j2 default).name.v).size + 8 * ((e.attrs.getD j2 default).name.v).size) ((textB ((e.attrs.getD j2 default).name.v)).flatMap blc) :: Row 4 1 (.slice pp110 ((headB e ++ (e.attrs.take j2).flatMap attrB).length + sizeU ((e.attrs.getD j2 default).name.v).size + 8 * ((e.attrs.getD j2 default).name.v).size) cc111) ((headB e ++ (e.attrs.take j2).flatMap attrB).length + sizeU ((e.attrs.getD j2 default).name.v).size + 8 * ((e.attrs.getD j2 default).name.v).size) ((headB e ++ (e.attrs.take j2).flatMap attrB).flatMap blc ++ (textB ((e.attrs.getD j2 default).name.v)).flatMap blc) :: F) := (((((((((((H117.move 10 rfl).move 10 rfl).move 2 rfl).move 10 rfl).move 10 rfl).move 10 rfl).move 10 rfl).move 10 rfl).move 10 rfl).move 10 rfl).move 10 rfl)
      refine ⟨Row 4 1 (.slice pp114 2 cc115) 2 ((lowB ((e.attrs.getD j2 default).kind.v.toNat) 2).flatMap blc) :: Row 4 1 (.slice pp99 (sizeU ((e.attrs.getD j2 default).name.v).size + 8 * ((e.attrs.getD j2 default).name.v).size) cc100) (sizeU ((e.attrs.getD j2 default).name.v).size + 8 * ((e.attrs.getD j2 default).name.v).size) ((textB ((e.attrs.getD j2 default).name.v)).flatMap blc) :: Row 4 1 (.slice pp110 ((headB e ++ (e.attrs.take j2).flatMap attrB).length + sizeU ((e.attrs.getD j2 default).name.v).size + 8 * ((e.attrs.getD j2 default).name.v).size) cc111) ((headB e ++ (e.attrs.take j2).flatMap attrB).length + sizeU ((e.attrs.getD j2 default).name.v).size + 8 * ((e.attrs.getD j2 default).name.v).size) ((headB e ++ (e.attrs.take j2).flatMap attrB).flatMap blc ++ (textB ((e.attrs.getD j2 default).name.v)).flatMap blc) :: F, ?_, H118⟩
      change FReg _ _ _ _ _ #[true, true, true, true, true, true, true, true, true, true, false, false] _ _
      refine f_all (rs := [10]) (by kernel_rfl) (by simp) ?_
      refine a_cons ⟨_, rfl, ?_⟩ (fun x hx => absurd hx (by simp))
      intro w119 H120
      try dsimp only at H120
      refine s_append H120 10 rfl rfl rfl (Row.rd H120 (i := 8) rfl) ap_50 (by decide) (by unfold maxLen; omega) (by omega) (n' := (headB e ++ (e.attrs.take j2).flatMap attrB).length + sizeU ((e.attrs.getD j2 default).name.v).size + 8 * ((e.attrs.getD j2 default).name.v).size + 2) (xs' := (headB e ++ (e.attrs.take j2).flatMap attrB).flatMap blc ++ (textB ((e.attrs.getD j2 default).name.v)).flatMap blc ++ (lowB ((e.attrs.getD j2 default).kind.v.toNat) 2).flatMap blc) (by omega) (by first | rfl | simp) rfl ?_; intro vv121 w122 H123 hn124
      obtain ⟨pp125, cc126, rfl⟩ := Row.slice H123 (i := 10) rfl
      refine ⟨Row 4 1 (.slice pp114 2 cc115) 2 ((lowB ((e.attrs.getD j2 default).kind.v.toNat) 2).flatMap blc) :: Row 4 1 (.slice pp99 (sizeU ((e.attrs.getD j2 default).name.v).size + 8 * ((e.attrs.getD j2 default).name.v).size) cc100) (sizeU ((e.attrs.getD j2 default).name.v).size + 8 * ((e.attrs.getD j2 default).name.v).size) ((textB ((e.attrs.getD j2 default).name.v)).flatMap blc) :: Row 4 1 (.slice pp125 ((headB e ++ (e.attrs.take j2).flatMap attrB).length + sizeU ((e.attrs.getD j2 default).name.v).size + 8 * ((e.attrs.getD j2 default).name.v).size + 2) cc126) ((headB e ++ (e.attrs.take j2).flatMap attrB).length + sizeU ((e.attrs.getD j2 default).name.v).size + 8 * ((e.attrs.getD j2 default).name.v).size + 2) ((headB e ++ (e.attrs.take j2).flatMap attrB).flatMap blc ++ (textB ((e.attrs.getD j2 default).name.v)).flatMap blc ++ (lowB ((e.attrs.getD j2 default).kind.v.toNat) 2).flatMap blc) :: F, ?_, H123⟩
      change FReg _ _ _ _ _ #[true, true, true, true, true, true, true, true, true, true, true, false] _ _
      refine f_first 11 (listed' := #[true, true, true, true, true, true, true, true, true, true, true, true]) rfl (by kernel_rfl) (by kernel_rfl) (by kernel_rfl) rfl ?_
      refine f_val rfl rfl rfl (by intro t_ w hw; exact x_assign (.slice pp125 ((headB e ++ (e.attrs.take j2).flatMap attrB).length + sizeU ((e.attrs.getD j2 default).name.v).size + 8 * ((e.attrs.getD j2 default).name.v).size + 2) cc126) rfl w) ?_
      refine f_done (by kernel_rfl) ?_
      intro w127 H128
      refine g_seq ?_
      refine g_region ?_
      refine r_cons (s_fieldAddr 91 1 1 1 89 rfl fi_91_1 rfl rfl ?_)
      refine r_cons (s_fieldAddr 89 0 0 1 3 rfl fi_89_0 rfl rfl ?_)
      refine r_cons (s_load (.int .i64 ((e.attrs.getD j2 default).kind.v)) ag_3 rfl (H128.blk_at (i := 0) rfl) rfl rfl ?_)
      by_cases hc129 : (e.attrs.getD j2 default).kind.v = 1
      · skip
        refine r_cons (s_eql true rfl rfl (dtrue hc129) rfl ?_)
        refine r_nil ?_
        refine g_true rfl ?_
        refine g_region ?_
        have hAB : attrB (e.attrs.getD j2 default) = textB (e.attrs.getD j2 default).name.v ++ lowB (e.attrs.getD j2 default).kind.v.toNat 2 ++ natB (zigN (e.attrs.getD j2 default).n.v) := by unfold attrB; rw [if_pos (by assumption)]
        refine r_cons (s_move (.slice pp125 ((headB e ++ (e.attrs.take j2).flatMap attrB).length + sizeU ((e.attrs.getD j2 default).name.v).size + 8 * ((e.attrs.getD j2 default).name.v).size + 2) cc126) rfl rfl ?_)
        refine r_cons (s_fieldAddr 91 1 1 1 89 rfl fi_91_1 rfl rfl ?_)
        refine r_cons (s_fieldAddr 89 1 1 2 2 rfl fi_89_1 rfl rfl ?_)
        refine r_cons (s_load (.int .i64 ((e.attrs.getD j2 default).n.v)) ag_2 rfl (H128.blk_at (i := 0) rfl) rfl rfl ?_)
        refine r_cons (s_call [.int .i64 ((e.attrs.getD j2 default).n.v)] pl_79 rfl rfl (ref01_Num ((e.attrs.getD j2 default).n.v) (by omega) (by omega) H128) ?_)
        rintro _ w132 ⟨pp130, cc131, rfl, H133⟩
        refine r_cons (s_append H133 11 rfl rfl rfl (Row.rd H133 (i := 0) rfl) ap_50 (by decide) (by unfold maxLen; omega) (by omega) (n' := (headB e ++ (e.attrs.take j2).flatMap attrB).length + sizeU ((e.attrs.getD j2 default).name.v).size + 8 * ((e.attrs.getD j2 default).name.v).size + 2 + sizeU (zigN ((e.attrs.getD j2 default).n.v))) (xs' := (headB e ++ (e.attrs.take j2).flatMap attrB).flatMap blc ++ (textB ((e.attrs.getD j2 default).name.v)).flatMap blc ++ (lowB ((e.attrs.getD j2 default).kind.v.toNat) 2).flatMap blc ++ (natB (zigN ((e.attrs.getD j2 default).n.v))).flatMap blc) (by omega) (by first | rfl | simp) rfl ?_); intro vv134 w135 H136 hn137
        obtain ⟨pp138, cc139, rfl⟩ := Row.slice H136 (i := 11) rfl
        refine r_cons (s_assign (.slice pp138 ((headB e ++ (e.attrs.take j2).flatMap attrB).length + sizeU ((e.attrs.getD j2 default).name.v).size + 8 * ((e.attrs.getD j2 default).name.v).size + 2 + sizeU (zigN ((e.attrs.getD j2 default).n.v))) cc139) rfl rfl ?_)
        refine r_nil ?_
        refine g_inBlock ?_
        refine g_region ?_
        refine r_cons (s_move (.int .i64 (j2 : Int)) rfl rfl ?_)
        refine r_cons (s_add ((j2 : Int) + 1) rfl rfl (wi64 (by omega)) rfl ?_)
        refine r_cons (s_assign (.int .i64 ((j2 : Int) + 1)) rfl rfl ?_)
        refine r_nil ?_
        have H140 : St W w135 (Row 4 1 (.slice pp138 ((headB e ++ (e.attrs.take j2).flatMap attrB).length + sizeU ((e.attrs.getD j2 default).name.v).size + 8 * ((e.attrs.getD j2 default).name.v).size + 2 + sizeU (zigN ((e.attrs.getD j2 default).n.v))) cc139) ((headB e ++ (e.attrs.take j2).flatMap attrB).length + sizeU ((e.attrs.getD j2 default).name.v).size + 8 * ((e.attrs.getD j2 default).name.v).size + 2 + sizeU (zigN ((e.attrs.getD j2 default).n.v))) ((headB e ++ (e.attrs.take j2).flatMap attrB).flatMap blc ++ (textB ((e.attrs.getD j2 default).name.v)).flatMap blc ++ (lowB ((e.attrs.getD j2 default).kind.v.toNat) 2).flatMap blc ++ (natB (zigN ((e.attrs.getD j2 default).n.v))).flatMap blc) :: Row 4 1 (.slice pp74 4 cc75) 4 ((lowB e.attrs.length 4).flatMap blc) :: blk bk15 (.cells #[.int .i64 e.src.v, .int .i64 e.seq.v, .int .i64 e.time.v, .string e.typ.v, .slice pA1 e.attrs.length cA2] 33 (0, 0)) :: Attrs (.slice pA1 e.attrs.length cA2) e.attrs :: imi (0 < e.attrs.length) gA3 (.cells kA5 eA6 zA7) :: Row 4 1 (.slice pp27 (sizeU e.seq.v.toNat) cc28) (sizeU e.seq.v.toNat) ((natB e.seq.v.toNat).flatMap blc) :: Row 4 1 (.slice pp59 (sizeU e.typ.v.size + 8 * e.typ.v.size) cc60) (sizeU e.typ.v.size + 8 * e.typ.v.size) ((textB e.typ.v).flatMap blc) :: Row 4 1 (.slice pp44 (sizeU e.time.v.toNat) cc45) (sizeU e.time.v.toNat) ((natB e.time.v.toNat).flatMap blc) :: F) := ((((((((((((H136.move 8 rfl).move 8 rfl).move 8 rfl).move 8 rfl).move 8 rfl).move 8 rfl).move 8 rfl).move 11 rfl).drop 8 rfl).drop 8 rfl).drop 8 rfl).drop 8 rfl)
        have hnj : (headB e ++ (e.attrs.take (j2 + 1)).flatMap attrB).length = (headB e ++ (e.attrs.take j2).flatMap attrB).length + sizeU ((e.attrs.getD j2 default).name.v).size + 8 * ((e.attrs.getD j2 default).name.v).size + 2 + sizeU (zigN ((e.attrs.getD j2 default).n.v)) := by rw [attrs_take (by omega), hAB]; simp only [List.length_append, lowB_len, natB_len, textB_len]; omega
        have H141 : St W w135 (Row 4 1 (.slice pp138 ((headB e ++ (e.attrs.take (j2 + 1)).flatMap attrB).length) cc139) ((headB e ++ (e.attrs.take (j2 + 1)).flatMap attrB).length) ((headB e ++ (e.attrs.take (j2 + 1)).flatMap attrB).flatMap blc) :: Row 4 1 (.slice pp74 4 cc75) 4 ((lowB e.attrs.length 4).flatMap blc) :: blk bk15 (.cells #[.int .i64 e.src.v, .int .i64 e.seq.v, .int .i64 e.time.v, .string e.typ.v, .slice pA1 e.attrs.length cA2] 33 (0, 0)) :: Attrs (.slice pA1 e.attrs.length cA2) e.attrs :: imi (0 < e.attrs.length) gA3 (.cells kA5 eA6 zA7) :: Row 4 1 (.slice pp27 (sizeU e.seq.v.toNat) cc28) (sizeU e.seq.v.toNat) ((natB e.seq.v.toNat).flatMap blc) :: Row 4 1 (.slice pp59 (sizeU e.typ.v.size + 8 * e.typ.v.size) cc60) (sizeU e.typ.v.size + 8 * e.typ.v.size) ((textB e.typ.v).flatMap blc) :: Row 4 1 (.slice pp44 (sizeU e.time.v.toNat) cc45) (sizeU e.time.v.toNat) ((natB e.time.v.toNat).flatMap blc) :: F) := by rw [hnj, attrs_take (by omega), hAB]; simp only [List.flatMap_append, List.append_assoc] at H140 ⊢; exact H140
        exact nx89 (j2 + 1, pp138, cc139) _ _ ⟨(by omega), H141⟩ (by first | (dsimp only; omega) | omega) ⟨by first | rfl | exact vint (by omega), by first | rfl | exact vint (by omega), congrArg (fun z_ => Value.slice pp138 z_ cc139) hnj.symm, by first | rfl | exact vint (by omega), trivial⟩
      · skip
        refine r_cons (s_eql false rfl rfl (dfalse hc129) rfl ?_)
        refine r_nil ?_
        refine g_false rfl ?_
        refine g_region ?_
        have hAB : attrB (e.attrs.getD j2 default) = textB (e.attrs.getD j2 default).name.v ++ lowB (e.attrs.getD j2 default).kind.v.toNat 2 ++ textB (e.attrs.getD j2 default).s.v := by unfold attrB; rw [if_neg (by assumption)]
        refine r_cons (s_move (.slice pp125 ((headB e ++ (e.attrs.take j2).flatMap attrB).length + sizeU ((e.attrs.getD j2 default).name.v).size + 8 * ((e.attrs.getD j2 default).name.v).size + 2) cc126) rfl rfl ?_)
        refine r_cons (s_fieldAddr 91 1 1 1 89 rfl fi_91_1 rfl rfl ?_)
        refine r_cons (s_fieldAddr 89 2 2 3 9 rfl fi_89_2 rfl rfl ?_)
        refine r_cons (s_load (.string ((e.attrs.getD j2 default).s.v)) ag_9 rfl (H128.blk_at (i := 0) rfl) rfl rfl ?_)
        refine r_cons (s_call [.string ((e.attrs.getD j2 default).s.v)] pl_78 rfl rfl (ref01_Text ((e.attrs.getD j2 default).s.v) (by omega) H128) ?_)
        rintro _ w144 ⟨pp142, cc143, rfl, H145⟩
        refine r_cons (s_append H145 11 rfl rfl rfl (Row.rd H145 (i := 0) rfl) ap_50 (by decide) (by unfold maxLen; omega) (by omega) (n' := (headB e ++ (e.attrs.take j2).flatMap attrB).length + sizeU ((e.attrs.getD j2 default).name.v).size + 8 * ((e.attrs.getD j2 default).name.v).size + 2 + sizeU ((e.attrs.getD j2 default).s.v).size + 8 * ((e.attrs.getD j2 default).s.v).size) (xs' := (headB e ++ (e.attrs.take j2).flatMap attrB).flatMap blc ++ (textB ((e.attrs.getD j2 default).name.v)).flatMap blc ++ (lowB ((e.attrs.getD j2 default).kind.v.toNat) 2).flatMap blc ++ (textB ((e.attrs.getD j2 default).s.v)).flatMap blc) (by omega) (by first | rfl | simp) rfl ?_); intro vv146 w147 H148 hn149
        obtain ⟨pp150, cc151, rfl⟩ := Row.slice H148 (i := 11) rfl
        refine r_cons (s_assign (.slice pp150 ((headB e ++ (e.attrs.take j2).flatMap attrB).length + sizeU ((e.attrs.getD j2 default).name.v).size + 8 * ((e.attrs.getD j2 default).name.v).size + 2 + sizeU ((e.attrs.getD j2 default).s.v).size + 8 * ((e.attrs.getD j2 default).s.v).size) cc151) rfl rfl ?_)
        refine r_nil ?_
        refine g_inBlock ?_
        refine g_region ?_
        refine r_cons (s_move (.int .i64 (j2 : Int)) rfl rfl ?_)
        refine r_cons (s_add ((j2 : Int) + 1) rfl rfl (wi64 (by omega)) rfl ?_)
        refine r_cons (s_assign (.int .i64 ((j2 : Int) + 1)) rfl rfl ?_)
        refine r_nil ?_
        have H152 : St W w147 (Row 4 1 (.slice pp150 ((headB e ++ (e.attrs.take j2).flatMap attrB).length + sizeU ((e.attrs.getD j2 default).name.v).size + 8 * ((e.attrs.getD j2 default).name.v).size + 2 + sizeU ((e.attrs.getD j2 default).s.v).size + 8 * ((e.attrs.getD j2 default).s.v).size) cc151) ((headB e ++ (e.attrs.take j2).flatMap attrB).length + sizeU ((e.attrs.getD j2 default).name.v).size + 8 * ((e.attrs.getD j2 default).name.v).size + 2 + sizeU ((e.attrs.getD j2 default).s.v).size + 8 * ((e.attrs.getD j2 default).s.v).size) ((headB e ++ (e.attrs.take j2).flatMap attrB).flatMap blc ++ (textB ((e.attrs.getD j2 default).name.v)).flatMap blc ++ (lowB ((e.attrs.getD j2 default).kind.v.toNat) 2).flatMap blc ++ (textB ((e.attrs.getD j2 default).s.v)).flatMap blc) :: Row 4 1 (.slice pp74 4 cc75) 4 ((lowB e.attrs.length 4).flatMap blc) :: blk bk15 (.cells #[.int .i64 e.src.v, .int .i64 e.seq.v, .int .i64 e.time.v, .string e.typ.v, .slice pA1 e.attrs.length cA2] 33 (0, 0)) :: Attrs (.slice pA1 e.attrs.length cA2) e.attrs :: imi (0 < e.attrs.length) gA3 (.cells kA5 eA6 zA7) :: Row 4 1 (.slice pp27 (sizeU e.seq.v.toNat) cc28) (sizeU e.seq.v.toNat) ((natB e.seq.v.toNat).flatMap blc) :: Row 4 1 (.slice pp59 (sizeU e.typ.v.size + 8 * e.typ.v.size) cc60) (sizeU e.typ.v.size + 8 * e.typ.v.size) ((textB e.typ.v).flatMap blc) :: Row 4 1 (.slice pp44 (sizeU e.time.v.toNat) cc45) (sizeU e.time.v.toNat) ((natB e.time.v.toNat).flatMap blc) :: F) := ((((((((((((H148.move 8 rfl).move 8 rfl).move 8 rfl).move 8 rfl).move 8 rfl).move 8 rfl).move 8 rfl).move 11 rfl).drop 8 rfl).drop 8 rfl).drop 8 rfl).drop 8 rfl)
        have hnj : (headB e ++ (e.attrs.take (j2 + 1)).flatMap attrB).length = (headB e ++ (e.attrs.take j2).flatMap attrB).length + sizeU ((e.attrs.getD j2 default).name.v).size + 8 * ((e.attrs.getD j2 default).name.v).size + 2 + sizeU ((e.attrs.getD j2 default).s.v).size + 8 * ((e.attrs.getD j2 default).s.v).size := by rw [attrs_take (by omega), hAB]; simp only [List.length_append, lowB_len, natB_len, textB_len]; omega
        have H153 : St W w147 (Row 4 1 (.slice pp150 ((headB e ++ (e.attrs.take (j2 + 1)).flatMap attrB).length) cc151) ((headB e ++ (e.attrs.take (j2 + 1)).flatMap attrB).length) ((headB e ++ (e.attrs.take (j2 + 1)).flatMap attrB).flatMap blc) :: Row 4 1 (.slice pp74 4 cc75) 4 ((lowB e.attrs.length 4).flatMap blc) :: blk bk15 (.cells #[.int .i64 e.src.v, .int .i64 e.seq.v, .int .i64 e.time.v, .string e.typ.v, .slice pA1 e.attrs.length cA2] 33 (0, 0)) :: Attrs (.slice pA1 e.attrs.length cA2) e.attrs :: imi (0 < e.attrs.length) gA3 (.cells kA5 eA6 zA7) :: Row 4 1 (.slice pp27 (sizeU e.seq.v.toNat) cc28) (sizeU e.seq.v.toNat) ((natB e.seq.v.toNat).flatMap blc) :: Row 4 1 (.slice pp59 (sizeU e.typ.v.size + 8 * e.typ.v.size) cc60) (sizeU e.typ.v.size + 8 * e.typ.v.size) ((textB e.typ.v).flatMap blc) :: Row 4 1 (.slice pp44 (sizeU e.time.v.toNat) cc45) (sizeU e.time.v.toNat) ((natB e.time.v.toNat).flatMap blc) :: F) := by rw [hnj, attrs_take (by omega), hAB]; simp only [List.flatMap_append, List.append_assoc] at H152 ⊢; exact H152
        exact nx89 (j2 + 1, pp150, cc151) _ _ ⟨(by omega), H153⟩ (by first | (dsimp only; omega) | omega) ⟨by first | rfl | exact vint (by omega), by first | rfl | exact vint (by omega), congrArg (fun z_ => Value.slice pp150 z_ cc151) hnj.symm, by first | rfl | exact vint (by omega), trivial⟩
    · skip
      refine r_cons (s_lss false rfl rfl (dfalse hc90) rfl ?_)
      refine r_nil ?_
      refine g_false rfl ?_
      refine g_exit (by rfl) ?_
      refine g_seq ?_
      refine g_region ?_
      refine r_cons (s_move (.slice pq ((headB e ++ (e.attrs.take j2).flatMap attrB).length) cq) rfl rfl ?_)
      refine r_cons (s_assign (.slice pq ((headB e ++ (e.attrs.take j2).flatMap attrB).length) cq) rfl rfl ?_)
      refine r_nil ?_
      refine g_ret' [.slice pq ((headB e ++ (e.attrs.take j2).flatMap attrB).length) cq] Try.func40 Try.results40 ⟨rfl, trivial⟩ ?_
      have H154 : St W w87 (Row 4 1 (.slice pq ((headB e ++ (e.attrs.take j2).flatMap attrB).length) cq) ((headB e ++ (e.attrs.take j2).flatMap attrB).length) ((headB e ++ (e.attrs.take j2).flatMap attrB).flatMap blc) :: F) := (((((((H88.drop 1 rfl).drop 1 rfl).drop 1 rfl).drop 1 rfl).drop 1 rfl).drop 1 rfl).drop 1 rfl)
      obtain rfl : j2 = e.attrs.length := by omega
      have hfm : headB e ++ (e.attrs.take e.attrs.length).flatMap attrB = formB e := by rw [List.take_length]; rfl
      exact ⟨_, _, _, rfl, by rw [hfm], by rw [← hfm]; exact H154⟩
set_option maxHeartbeats 4000000 in
set_option maxRecDepth 100000 in
theorem ref04_Bytes {W w : World} {F : List Atom} (e : EvM) (av : Value) (hb : e.attrs.length * 48 ≤ 140737488355328) {j : Nat} (hj : F[j]? = some (Attrs av e.attrs)) (H : St W w F) : Calls Try.prog 42 #[.agg #[.int .i64 e.src.v, .int .i64 e.seq.v, .int .i64 e.time.v, .string e.typ.v, av]] w (Ret fun v w' => ∃ p n c, v = .tuple #[.slice p n c, .int .i64 (evE e)] ∧ n = (bytesE e).length ∧ St W w' (Row 5 1 (.slice p n c) n ((bytesE e).flatMap u8c) :: F)) := by
  obtain ⟨pA1, cA2, gA3, oA4, kA5, eA6, zA7, rfl, hn8, hp9, hx10, hs11, hml, H12⟩ := Im.open_ H hj
  have H13 := H12.dup (i := j + 1) (by exact hj) (Attrs_pers _ _)
  have H14 : St W w (Attrs (.slice pA1 e.attrs.length cA2) e.attrs :: imi (0 < e.attrs.length) gA3 (.cells kA5 eA6 zA7) :: F) := H13
  refine calls_of_go (n := 13) Try.func42 rfl Try.ntmps42 rfl ?_
  refine g_seq ?_
  refine g_region ?_
  refine r_cons (s_box H14 33 (.agg #[.int .i64 e.src.v, .int .i64 e.seq.v, .int .i64 e.time.v, .string e.typ.v, .slice pA1 e.attrs.length cA2]) rfl (cs := #[.int .i64 e.src.v, .int .i64 e.seq.v, .int .i64 e.time.v, .string e.typ.v, .slice pA1 e.attrs.length cA2]) rfl rfl ?_); intro bk15 w16 H17
  refine r_cons (s_assign (.slice none 0 0) rfl rfl ?_)
  refine r_cons (s_assign (.int .i64 0) rfl rfl ?_)
  refine r_nil ?_
  refine g_seq ?_
  refine g_seq ?_
  refine g_region ?_
  refine r_cons (s_loadAgg [.int .i64 e.src.v, .int .i64 e.seq.v, .int .i64 e.time.v, .string e.typ.v, .slice pA1 e.attrs.length cA2] 5 ag_33 rfl (H17.blk_at (i := 0) rfl) (Nat.le_of_ble_eq_true rfl) rfl rfl ?_)
  refine r_cons (s_call [.agg #[.int .i64 e.src.v, .int .i64 e.seq.v, .int .i64 e.time.v, .string e.typ.v, .slice pA1 e.attrs.length cA2]] pl_18 rfl rfl (ref04_Check e (.slice pA1 e.attrs.length cA2) (j := 1) rfl H17) ?_)
  rintro _ w18 ⟨rfl, H19⟩
  refine r_cons (s_assign (.int .i64 (evE e)) rfl rfl ?_)
  refine r_nil ?_
  refine g_seq ?_
  refine g_region ?_
  refine r_cons (s_move (.int .i64 (evE e)) rfl rfl ?_)
  by_cases hc20 : evE e = 0
  · skip
    refine r_cons (s_neq false rfl rfl (ntrue hc20) rfl ?_)
    refine r_nil ?_
    refine g_false rfl ?_
    refine g_skip ?_
    refine g_seq ?_
    refine g_region ?_
    refine r_cons (s_loadAgg [.int .i64 e.src.v, .int .i64 e.seq.v, .int .i64 e.time.v, .string e.typ.v, .slice pA1 e.attrs.length cA2] 5 ag_33 rfl (H19.blk_at (i := 0) rfl) (Nat.le_of_ble_eq_true rfl) rfl rfl ?_)
    refine r_cons (s_call [.agg #[.int .i64 e.src.v, .int .i64 e.seq.v, .int .i64 e.time.v, .string e.typ.v, .slice pA1 e.attrs.length cA2]] pl_40 rfl rfl (ref04_Form e (.slice pA1 e.attrs.length cA2) (by assumption) (j := 1) rfl H19) ?_)
    rintro _ w23 ⟨pp21, _, cc22, rfl, rfl, H24⟩
    have hfl := formB_le (e := e) (by assumption)
    have H25 : St W w23 (Im 1 (.slice pp21 ((formB e).length) cc22) ((formB e).length) ((formB e).flatMap blc) :: blk bk15 (.cells #[.int .i64 e.src.v, .int .i64 e.seq.v, .int .i64 e.time.v, .string e.typ.v, .slice pA1 e.attrs.length cA2] 33 (0, 0)) :: Attrs (.slice pA1 e.attrs.length cA2) e.attrs :: imi (0 < e.attrs.length) gA3 (.cells kA5 eA6 zA7) :: F) := Row.im H24 (i := 0) rfl
    refine r_cons (s_call [.slice pp21 ((formB e).length) cc22] pl_46 rfl rfl (ref01_Pack (formB e) ((formB e).length) _ (by first | rfl | (simp only [List.length_append, lowB_len, natB_len]; done) | (simp only [List.length_append, lowB_len, natB_len]; omega)) (by omega) (j := 0) rfl H25) ?_)
    rintro _ w28 ⟨pp26, cc27, rfl, H29⟩
    refine r_cons (s_assign (.slice pp26 (((formB e).length + 7) / 8) cc27) rfl rfl ?_)
    refine r_cons (s_assign (.int .i64 0) rfl rfl ?_)
    refine r_nil ?_
    refine g_ret' [.slice pp26 (((formB e).length + 7) / 8) cc27, .int .i64 0] Try.func42 Try.results42 ⟨rfl, rfl, trivial⟩ ?_
    have H30 : St W w28 (Row 5 1 (.slice pp26 (((formB e).length + 7) / 8) cc27) (((formB e).length + 7) / 8) ((pk (formB e)).flatMap u8c) :: F) := ((((H29.drop 1 rfl).drop 1 rfl).drop 1 rfl).drop 1 rfl)
    have hyes : evE e = 0 := by assumption
    exact ⟨_, _, _, by rw [hyes]; rfl, by rw [bytesE_yes hyes, pk_len], by rw [bytesE_yes hyes]; exact H30⟩
  · skip
    refine r_cons (s_neq true rfl rfl (nfalse hc20) rfl ?_)
    refine r_nil ?_
    refine g_true rfl ?_
    refine g_seq ?_
    refine g_region ?_
    refine r_cons (s_move (.int .i64 (evE e)) rfl rfl ?_)
    refine r_cons (s_assign (.slice none 0 0) rfl rfl ?_)
    refine r_cons (s_assign (.int .i64 (evE e)) rfl rfl ?_)
    refine r_nil ?_
    refine g_ret' [.slice none 0 0, .int .i64 (evE e)] Try.func42 Try.results42 ⟨rfl, rfl, trivial⟩ ?_
    have H31 := Row.nil_intro H19 5 1
    have H32 : St W w18 (Row 5 1 (.slice none 0 0) 0 [] :: F) := (((H31.drop 1 rfl).drop 1 rfl).drop 1 rfl)
    have hno : ¬ evE e = 0 := by assumption
    exact ⟨none, 0, 0, rfl, by rw [bytesE_no hno]; rfl, by rw [bytesE_no hno]; exact H32⟩
set_option maxHeartbeats 4000000 in
set_option maxRecDepth 100000 in
theorem EventWrites_ {W w : World} {F : List Atom} (x : EvM) (av : Value) (head : Nat) (hlt : head < 256) (hb : x.attrs.length * 48 ≤ 140737488355328) {j : Nat} (hj : F[j]? = some (Attrs av x.attrs)) (H : St W w F) : Calls Try.prog 7 #[.agg #[.int .i64 x.src.v, .int .i64 x.seq.v, .int .i64 x.time.v, .string x.typ.v, av], .int .u8 (head : Int)] w (Ret fun v w' => v = .bool true ∧ St W w' F) := by
  obtain ⟨pA1, cA2, gA3, oA4, kA5, eA6, zA7, rfl, hn8, hp9, hx10, hs11, hml, H12⟩ := Im.open_ H hj
  have H13 := H12.dup (i := j + 1) (by exact hj) (Attrs_pers _ _)
  have H14 : St W w (Attrs (.slice pA1 x.attrs.length cA2) x.attrs :: imi (0 < x.attrs.length) gA3 (.cells kA5 eA6 zA7) :: F) := H13
  have h7 : head &&& 7 < 8 := Nat.and_lt_two_pow (n := 3) _ (by decide)
  refine calls_of_go (n := 77) Try.func7 rfl Try.ntmps7 rfl ?_
  refine g_seq ?_
  refine g_region ?_
  refine r_cons (s_box H14 33 (.agg #[.int .i64 x.src.v, .int .i64 x.seq.v, .int .i64 x.time.v, .string x.typ.v, .slice pA1 x.attrs.length cA2]) rfl (cs := #[.int .i64 x.src.v, .int .i64 x.seq.v, .int .i64 x.time.v, .string x.typ.v, .slice pA1 x.attrs.length cA2]) rfl rfl ?_); intro bk15 w16 H17
  refine r_cons (s_assign (.bool false) rfl rfl ?_)
  refine r_nil ?_
  refine g_seq ?_
  refine g_region ?_
  refine r_cons (s_loadAgg [.int .i64 x.src.v, .int .i64 x.seq.v, .int .i64 x.time.v, .string x.typ.v, .slice pA1 x.attrs.length cA2] 5 ag_33 rfl (H17.blk_at (i := 0) rfl) (Nat.le_of_ble_eq_true rfl) rfl rfl ?_)
  refine r_cons (s_call [.agg #[.int .i64 x.src.v, .int .i64 x.seq.v, .int .i64 x.time.v, .string x.typ.v, .slice pA1 x.attrs.length cA2]] pl_41 rfl rfl (event_Bytes x (.slice pA1 x.attrs.length cA2) (by omega) (j := 1) rfl H17) ?_)
  rintro _ w20 ⟨pp18, _, cc19, rfl, rfl, H21⟩
  refine r_cons (s_move (.tuple #[.slice pp18 ((bytesE x).length) cc19, .int .i64 (evE x)]) rfl rfl ?_)
  refine r_cons (s_extract (.slice pp18 ((bytesE x).length) cc19) #[.slice pp18 ((bytesE x).length) cc19, .int .i64 (evE x)] rfl rfl rfl ?_)
  refine r_cons (s_extract (.int .i64 (evE x)) #[.slice pp18 ((bytesE x).length) cc19, .int .i64 (evE x)] rfl rfl rfl ?_)
  refine r_cons (s_assign (.slice pp18 ((bytesE x).length) cc19) rfl rfl ?_)
  refine r_cons (s_assign (.int .i64 (evE x)) rfl rfl ?_)
  refine r_nil ?_
  refine g_seq ?_
  refine g_region ?_
  refine r_cons (s_loadAgg [.int .i64 x.src.v, .int .i64 x.seq.v, .int .i64 x.time.v, .string x.typ.v, .slice pA1 x.attrs.length cA2] 5 ag_33 rfl (H21.blk_at (i := 1) rfl) (Nat.le_of_ble_eq_true rfl) rfl rfl ?_)
  refine r_cons (s_call [.agg #[.int .i64 x.src.v, .int .i64 x.seq.v, .int .i64 x.time.v, .string x.typ.v, .slice pA1 x.attrs.length cA2]] pl_42 rfl rfl (ref04_Bytes x (.slice pA1 x.attrs.length cA2) (by omega) (j := 2) rfl H21) ?_)
  rintro _ w24 ⟨pp22, _, cc23, rfl, rfl, H25⟩
  refine r_cons (s_move (.tuple #[.slice pp22 ((bytesE x).length) cc23, .int .i64 (evE x)]) rfl rfl ?_)
  refine r_cons (s_extract (.slice pp22 ((bytesE x).length) cc23) #[.slice pp22 ((bytesE x).length) cc23, .int .i64 (evE x)] rfl rfl rfl ?_)
  refine r_cons (s_extract (.int .i64 (evE x)) #[.slice pp22 ((bytesE x).length) cc23, .int .i64 (evE x)] rfl rfl rfl ?_)
  refine r_cons (s_assign (.slice pp22 ((bytesE x).length) cc23) rfl rfl ?_)
  refine r_cons (s_assign (.int .i64 (evE x)) rfl rfl ?_)
  refine r_nil ?_
  refine g_seq ?_
  refine g_region ?_
  refine r_cons (s_call [] pl_36 rfl rfl (NewSink H25) ?_)
  rintro _ w27 ⟨bk26, rfl, H28⟩
  refine r_cons (s_assign (.pointer (some ⟨bk26, 0, none⟩)) rfl rfl ?_)
  refine r_nil ?_
  refine g_seq ?_
  refine g_seq ?_
  refine g_region ?_
  refine r_cons (s_call [] pl_12 rfl rfl (begun_ H28) ?_)
  rintro _ w29 ⟨rfl, H30⟩
  refine r_cons (s_not true rfl false rfl rfl ?_)
  refine r_cons (s_move (.bool false) rfl rfl ?_)
  refine r_cons (r_take rfl rfl ?_)
  refine s_move (.pointer (some ⟨bk26, 0, none⟩)) rfl rfl ?_
  refine r_cons (r_take rfl rfl ?_)
  refine s_peql false un_59 rfl rfl rfl rfl ?_
  refine r_cons (s_pick_f (.bool false) rfl rfl rfl ?_)
  refine r_cons (s_move (.bool false) rfl rfl ?_)
  refine r_cons (r_take rfl rfl ?_)
  refine s_move (.pointer (some ⟨bk26, 0, none⟩)) rfl rfl ?_
  refine r_cons (r_take rfl rfl ?_)
  refine s_move (.int .u8 (head : Int)) rfl rfl ?_
  refine r_cons (r_take rfl rfl ?_)
  refine s_and ((head &&& 7 : Nat) : Int) rfl rfl (by rw [show (7 : Int) = ((7 : Nat) : Int) from rfl, bit_and (by exact hlt) (by decide)]; exact (wu8 (by omega)).trans (by omega)) rfl ?_
  refine r_cons (r_take rfl rfl ?_)
  refine s_conv ((head &&& 7 : Nat) : Int) rfl us_5 ik_62 (wu64 (by omega)) rfl ?_
  refine r_cons (r_take rfl rfl ?_)
  refine s_call [.pointer (some ⟨bk26, 0, none⟩), .int .u64 ((head &&& 7 : Nat) : Int), .int .i64 3] pl_38 rfl rfl (Sink_Bits bk26 [] (head &&& 7) 3 (by omega) (by first | omega | (simp only [List.length_append, List.length_nil, lowB_len, natB_len]; omega) | (repeat (first | exact Nat.zero_le _ | assumption | refine putL_le ?_ | refine bitsL_le ?_ | refine evPutL_le ?_ | (simp only [List.length_append, List.length_nil, lowB_len, natB_len]; omega)))) (i := 0) rfl H30) ?_
  rintro _ w31 ⟨rfl, H32⟩
  have hk33 : bitsE [] (head &&& 7) 3 = 0 ∧ bitsL [] (head &&& 7) 3 = [] ++ lowB (head &&& 7) 3 := (by have hh := bits_ok (L := []) (u := head &&& 7) (n := 3) (fits_small (k := 3) rfl (by decide) (by omega)) (by simp only [List.length_nil]; omega); exact hh)
  have H35 : St W w31 (SinkA bk26 ([] ++ lowB (head &&& 7) 3) :: Row 5 1 (.slice pp22 ((bytesE x).length) cc23) ((bytesE x).length) ((bytesE x).flatMap u8c) :: Row 5 1 (.slice pp18 ((bytesE x).length) cc19) ((bytesE x).length) ((bytesE x).flatMap u8c) :: blk bk15 (.cells #[.int .i64 x.src.v, .int .i64 x.seq.v, .int .i64 x.time.v, .string x.typ.v, .slice pA1 x.attrs.length cA2] 33 (0, 0)) :: Attrs (.slice pA1 x.attrs.length cA2) x.attrs :: imi (0 < x.attrs.length) gA3 (.cells kA5 eA6 zA7) :: F) := by rw [← hk33.2]; exact H32
  have hlast := hk33.1
  have hlw : (([] ++ lowB (head &&& 7) 3)).length = 3 := by simp only [List.length_append, List.length_nil, lowB_len]
  refine r_cons (r_take rfl rfl ?_)
  refine s_neq false rfl rfl (ntrue hlast) rfl ?_
  refine r_cons (s_pick_f (.bool false) rfl rfl rfl ?_)
  refine r_nil ?_
  refine g_false rfl ?_
  refine g_skip ?_
  refine g_seq ?_
  refine g_region ?_
  refine r_cons (s_move (.pointer (some ⟨bk26, 0, none⟩)) rfl rfl ?_)
  refine r_cons (s_loadAgg [.int .i64 x.src.v, .int .i64 x.seq.v, .int .i64 x.time.v, .string x.typ.v, .slice pA1 x.attrs.length cA2] 5 ag_33 rfl (H35.blk_at (i := 3) rfl) (Nat.le_of_ble_eq_true rfl) rfl rfl ?_)
  refine r_cons (s_call [.pointer (some ⟨bk26, 0, none⟩), .agg #[.int .i64 x.src.v, .int .i64 x.seq.v, .int .i64 x.time.v, .string x.typ.v, .slice pA1 x.attrs.length cA2]] pl_39 rfl rfl (event_Put bk26 ([] ++ lowB (head &&& 7) 3) x (.slice pA1 x.attrs.length cA2) (by first | omega | (simp only [List.length_append, List.length_nil, lowB_len, natB_len]; omega) | (repeat (first | exact Nat.zero_le _ | assumption | refine putL_le ?_ | refine bitsL_le ?_ | refine evPutL_le ?_ | (simp only [List.length_append, List.length_nil, lowB_len, natB_len]; omega)))) (j := 4) rfl (i := 0) rfl H35) ?_)
  rintro _ w36 ⟨rfl, H37⟩
  refine r_cons (s_assign (.int .i64 (evPutE ([] ++ lowB (head &&& 7) 3) x)) rfl rfl ?_)
  refine r_nil ?_
  refine g_seq ?_
  refine g_region ?_
  refine r_cons (s_move (.int .u8 (head : Int)) rfl rfl ?_)
  refine r_cons (s_and ((head &&& 7 : Nat) : Int) rfl rfl (by rw [show (7 : Int) = ((7 : Nat) : Int) from rfl, bit_and (by exact hlt) (by decide)]; exact (wu8 (by omega)).trans (by omega)) rfl ?_)
  refine r_cons (s_conv ((head &&& 7 : Nat) : Int) rfl us_5 ik_62 (wu64 (by omega)) rfl ?_)
  refine r_cons (s_call [.int .u64 ((head &&& 7 : Nat) : Int), .int .i64 3] pl_43 rfl rfl (ref01_Low (head &&& 7) 3 (by omega) (by omega) H37) ?_)
  rintro _ w40 ⟨pp38, cc39, rfl, H41⟩
  refine r_cons (s_assign (.slice pp38 3 cc39) rfl rfl ?_)
  refine r_nil ?_
  refine g_seq ?_
  refine g_seq ?_
  refine g_region ?_
  refine r_cons (s_move (.int .i64 (evE x)) rfl rfl ?_)
  by_cases hc42 : evE x = 0
  · skip
    refine r_cons (s_eql true rfl rfl (dtrue hc42) rfl ?_)
    refine r_nil ?_
    refine g_true rfl ?_
    refine g_region ?_
    refine r_cons (s_move (.slice pp38 3 cc39) rfl rfl ?_)
    refine r_cons (s_loadAgg [.int .i64 x.src.v, .int .i64 x.seq.v, .int .i64 x.time.v, .string x.typ.v, .slice pA1 x.attrs.length cA2] 5 ag_33 rfl (H41.blk_at (i := 4) rfl) (Nat.le_of_ble_eq_true rfl) rfl rfl ?_)
    refine r_cons (s_call [.agg #[.int .i64 x.src.v, .int .i64 x.seq.v, .int .i64 x.time.v, .string x.typ.v, .slice pA1 x.attrs.length cA2]] pl_40 rfl rfl (ref04_Form x (.slice pA1 x.attrs.length cA2) (by assumption) (j := 5) rfl H41) ?_)
    rintro _ w45 ⟨pp43, _, cc44, rfl, rfl, H46⟩
    have hfl := formB_le (e := x) (by assumption)
    refine r_cons (s_append H46 1 rfl rfl rfl (Row.rd H46 (i := 0) rfl) ap_50 (by decide) (by unfold maxLen; omega) (by omega) (n' := 3 + (formB x).length) (xs' := (lowB (head &&& 7) 3 ++ formB x).flatMap blc) (by omega) (by rw [List.flatMap_append]) rfl ?_); intro vv47 w48 H49 hn50
    obtain ⟨pp51, cc52, rfl⟩ := Row.slice H49 (i := 1) rfl
    refine r_cons (s_assign (.slice pp51 (3 + (formB x).length) cc52) rfl rfl ?_)
    refine r_nil ?_
    refine g_seq ?_
    refine g_region ?_
    refine r_cons (s_move (.slice pp18 ((bytesE x).length) cc19) rfl rfl ?_)
    refine r_cons (s_move (.slice pp22 ((bytesE x).length) cc23) rfl rfl ?_)
    refine r_cons (s_call [.slice pp18 ((bytesE x).length) cc19, .slice pp22 ((bytesE x).length) cc23] pl_44 rfl rfl (bytes_Equal _ _ _ _ _ _ (bytesE x) (bytesE x) RdA.row RdA.row (j := 4) rfl (k := 3) rfl H49) ?_)
    rintro _ w53 ⟨rfl, H54⟩
    have hbe : decide (bytesE x = bytesE x) = true := decide_eq_true rfl
    have hsm := evPut_small (L := ([] ++ lowB (head &&& 7) 3)) (e := x) (by omega)
    refine r_cons (s_move (.bool (decide ((bytesE x) = (bytesE x)))) rfl rfl ?_)
    refine r_cons (r_take rfl (congrArg some hbe) ?_)
    refine s_move (.int .i64 (evE x)) rfl rfl ?_
    refine r_cons (r_take rfl (congrArg some hbe) ?_)
    refine s_move (.int .i64 (evE x)) rfl rfl ?_
    refine r_cons (r_take rfl (congrArg some hbe) ?_)
    refine s_eql true rfl rfl (dtrue rfl) rfl ?_
    refine r_cons (s_pick_t (.bool true) (by exact congrArg Value.bool hbe) rfl rfl ?_)
    refine r_cons (s_move (.bool true) rfl rfl ?_)
    refine r_cons (r_take rfl rfl ?_)
    refine s_move (.int .i64 (evPutE ([] ++ lowB (head &&& 7) 3) x)) rfl rfl ?_
    refine r_cons (r_take rfl rfl ?_)
    refine s_move (.int .i64 (evE x)) rfl rfl ?_
    refine r_cons (r_take rfl rfl ?_)
    refine s_eql true rfl rfl (dtrue hsm.1) rfl ?_
    refine r_cons (s_pick_t (.bool true) rfl rfl rfl ?_)
    refine r_cons (s_move (.bool true) rfl rfl ?_)
    refine r_cons (r_take rfl rfl ?_)
    refine s_move (.pointer (some ⟨bk26, 0, none⟩)) rfl rfl ?_
    refine r_cons (r_take rfl rfl ?_)
    refine s_call [.pointer (some ⟨bk26, 0, none⟩)] pl_37 rfl rfl (Sink_Len bk26 (evPutL ([] ++ lowB (head &&& 7) 3) x)   (i := 2) rfl H54) ?_
    rintro _ w55 ⟨rfl, H56⟩
    refine r_cons (r_take rfl rfl ?_)
    refine s_move (.slice pp51 (3 + (formB x).length) cc52) rfl rfl ?_
    refine r_cons (r_take rfl rfl ?_)
    refine s_len (3 + (formB x).length) rfl ⟨_, un_50⟩ rfl ?_
    refine r_cons (r_take rfl rfl ?_)
    refine s_eql true rfl rfl (dtrue (by first | (have q5 := hsm.2.1 (by assumption); rw [q5, List.length_append, hlw] <;> omega) | (have q5 := hsm.2.2 (by assumption); rw [q5, hlw] <;> first | rfl | omega))) rfl ?_
    refine r_cons (s_pick_t (.bool true) rfl rfl rfl ?_)
    refine r_cons (s_move (.bool true) rfl rfl ?_)
    refine r_cons (r_take rfl rfl ?_)
    refine s_move (.pointer (some ⟨bk26, 0, none⟩)) rfl rfl ?_
    refine r_cons (r_take rfl rfl ?_)
    refine s_call [.pointer (some ⟨bk26, 0, none⟩)] pl_45 rfl rfl (Sink_Out bk26 (evPutL ([] ++ lowB (head &&& 7) 3) x) (by first | omega | (simp only [List.length_append, List.length_nil, lowB_len, natB_len]; omega) | (repeat (first | exact Nat.zero_le _ | assumption | refine putL_le ?_ | refine bitsL_le ?_ | refine evPutL_le ?_ | (simp only [List.length_append, List.length_nil, lowB_len, natB_len]; omega)))) (i := 2) rfl H56) ?_
    rintro _ w59 ⟨pp57, cc58, rfl, H60⟩
    refine r_cons (r_take rfl rfl ?_)
    refine s_move (.slice pp51 (3 + (formB x).length) cc52) rfl rfl ?_
    refine r_cons (r_take rfl rfl ?_)
    have H61 : St W w59 (Row 5 1 (.slice pp57 (((evPutL ([] ++ lowB (head &&& 7) 3) x).length + 7) / 8) cc58) (((evPutL ([] ++ lowB (head &&& 7) 3) x).length + 7) / 8) ((pk (evPutL ([] ++ lowB (head &&& 7) 3) x)).flatMap u8c) :: Row 4 1 (.slice pp43 ((formB x).length) cc44) ((formB x).length) ((formB x).flatMap blc) :: Im 1 (.slice pp51 (3 + (formB x).length) cc52) (3 + (formB x).length) ((lowB (head &&& 7) 3 ++ formB x).flatMap blc) :: SinkA bk26 (evPutL ([] ++ lowB (head &&& 7) 3) x) :: Row 5 1 (.slice pp22 ((bytesE x).length) cc23) ((bytesE x).length) ((bytesE x).flatMap u8c) :: Row 5 1 (.slice pp18 ((bytesE x).length) cc19) ((bytesE x).length) ((bytesE x).flatMap u8c) :: blk bk15 (.cells #[.int .i64 x.src.v, .int .i64 x.seq.v, .int .i64 x.time.v, .string x.typ.v, .slice pA1 x.attrs.length cA2] 33 (0, 0)) :: Attrs (.slice pA1 x.attrs.length cA2) x.attrs :: imi (0 < x.attrs.length) gA3 (.cells kA5 eA6 zA7) :: F) := Row.im H60 (i := 2) rfl
    refine s_call [.slice pp51 (3 + (formB x).length) cc52] pl_46 rfl rfl (ref01_Pack (lowB (head &&& 7) 3 ++ formB x) (3 + (formB x).length) _ (by first | rfl | (simp only [List.length_append, lowB_len, natB_len]; done) | (simp only [List.length_append, lowB_len, natB_len]; omega)) (by omega) (j := 2) rfl H61) ?_
    rintro _ w64 ⟨pp62, cc63, rfl, H65⟩
    refine r_cons (r_take rfl rfl ?_)
    refine s_call [.slice pp57 (((evPutL ([] ++ lowB (head &&& 7) 3) x).length + 7) / 8) cc58, .slice pp62 (((lowB (head &&& 7) 3 ++ formB x).length + 7) / 8) cc63] pl_44 rfl rfl (bytes_Equal _ _ _ _ _ _ (pk (evPutL ([] ++ lowB (head &&& 7) 3) x)) (pk (lowB (head &&& 7) 3 ++ formB x)) RdA.row RdA.row (j := 1) rfl (k := 0) rfl H65) ?_
    rintro _ w66 ⟨rfl, H67⟩
    refine r_cons (s_pick_t (.bool (decide ((pk (evPutL ([] ++ lowB (head &&& 7) 3) x)) = (pk (lowB (head &&& 7) 3 ++ formB x))))) rfl rfl rfl ?_)
    refine r_cons (s_assign (.bool (decide ((pk (evPutL ([] ++ lowB (head &&& 7) 3) x)) = (pk (lowB (head &&& 7) 3 ++ formB x))))) rfl rfl ?_)
    refine r_nil ?_
    refine g_ret' [.bool (decide ((pk (evPutL ([] ++ lowB (head &&& 7) 3) x)) = (pk (lowB (head &&& 7) 3 ++ formB x))))] Try.func7 Try.results7 ⟨rfl, trivial⟩ ?_
    have H68 : St W w66 F := ((((((((((H67.drop 0 rfl).drop 0 rfl).drop 0 rfl).drop 0 rfl).drop 0 rfl).drop 0 rfl).drop 0 rfl).drop 0 rfl).drop 0 rfl).drop 0 rfl)
    exact ⟨congrArg Value.bool (decide_eq_true (by first | (rw [hsm.2.1 (by assumption)]; rfl) | (rw [hsm.2.2 (by assumption)]; rfl))), H68⟩
  · skip
    refine r_cons (s_eql false rfl rfl (dfalse hc42) rfl ?_)
    refine r_nil ?_
    refine g_false rfl ?_
    refine g_skip ?_
    refine g_seq ?_
    refine g_region ?_
    refine r_cons (s_move (.slice pp18 ((bytesE x).length) cc19) rfl rfl ?_)
    refine r_cons (s_move (.slice pp22 ((bytesE x).length) cc23) rfl rfl ?_)
    refine r_cons (s_call [.slice pp18 ((bytesE x).length) cc19, .slice pp22 ((bytesE x).length) cc23] pl_44 rfl rfl (bytes_Equal _ _ _ _ _ _ (bytesE x) (bytesE x) RdA.row RdA.row (j := 3) rfl (k := 2) rfl H41) ?_)
    rintro _ w69 ⟨rfl, H70⟩
    have hbe : decide (bytesE x = bytesE x) = true := decide_eq_true rfl
    have hsm := evPut_small (L := ([] ++ lowB (head &&& 7) 3)) (e := x) (by omega)
    refine r_cons (s_move (.bool (decide ((bytesE x) = (bytesE x)))) rfl rfl ?_)
    refine r_cons (r_take rfl (congrArg some hbe) ?_)
    refine s_move (.int .i64 (evE x)) rfl rfl ?_
    refine r_cons (r_take rfl (congrArg some hbe) ?_)
    refine s_move (.int .i64 (evE x)) rfl rfl ?_
    refine r_cons (r_take rfl (congrArg some hbe) ?_)
    refine s_eql true rfl rfl (dtrue rfl) rfl ?_
    refine r_cons (s_pick_t (.bool true) (by exact congrArg Value.bool hbe) rfl rfl ?_)
    refine r_cons (s_move (.bool true) rfl rfl ?_)
    refine r_cons (r_take rfl rfl ?_)
    refine s_move (.int .i64 (evPutE ([] ++ lowB (head &&& 7) 3) x)) rfl rfl ?_
    refine r_cons (r_take rfl rfl ?_)
    refine s_move (.int .i64 (evE x)) rfl rfl ?_
    refine r_cons (r_take rfl rfl ?_)
    refine s_eql true rfl rfl (dtrue hsm.1) rfl ?_
    refine r_cons (s_pick_t (.bool true) rfl rfl rfl ?_)
    refine r_cons (s_move (.bool true) rfl rfl ?_)
    refine r_cons (r_take rfl rfl ?_)
    refine s_move (.pointer (some ⟨bk26, 0, none⟩)) rfl rfl ?_
    refine r_cons (r_take rfl rfl ?_)
    refine s_call [.pointer (some ⟨bk26, 0, none⟩)] pl_37 rfl rfl (Sink_Len bk26 (evPutL ([] ++ lowB (head &&& 7) 3) x)   (i := 1) rfl H70) ?_
    rintro _ w71 ⟨rfl, H72⟩
    refine r_cons (r_take rfl rfl ?_)
    refine s_move (.slice pp38 3 cc39) rfl rfl ?_
    refine r_cons (r_take rfl rfl ?_)
    refine s_len 3 rfl ⟨_, un_50⟩ rfl ?_
    refine r_cons (r_take rfl rfl ?_)
    refine s_eql true rfl rfl (dtrue (by first | (have q5 := hsm.2.1 (by assumption); rw [q5, List.length_append, hlw] <;> omega) | (have q5 := hsm.2.2 (by assumption); rw [q5, hlw] <;> first | rfl | omega))) rfl ?_
    refine r_cons (s_pick_t (.bool true) rfl rfl rfl ?_)
    refine r_cons (s_move (.bool true) rfl rfl ?_)
    refine r_cons (r_take rfl rfl ?_)
    refine s_move (.pointer (some ⟨bk26, 0, none⟩)) rfl rfl ?_
    refine r_cons (r_take rfl rfl ?_)
    refine s_call [.pointer (some ⟨bk26, 0, none⟩)] pl_45 rfl rfl (Sink_Out bk26 (evPutL ([] ++ lowB (head &&& 7) 3) x) (by first | omega | (simp only [List.length_append, List.length_nil, lowB_len, natB_len]; omega) | (repeat (first | exact Nat.zero_le _ | assumption | refine putL_le ?_ | refine bitsL_le ?_ | refine evPutL_le ?_ | (simp only [List.length_append, List.length_nil, lowB_len, natB_len]; omega)))) (i := 1) rfl H72) ?_
    rintro _ w75 ⟨pp73, cc74, rfl, H76⟩
    refine r_cons (r_take rfl rfl ?_)
    refine s_move (.slice pp38 3 cc39) rfl rfl ?_
    refine r_cons (r_take rfl rfl ?_)
    have H77 : St W w75 (Row 5 1 (.slice pp73 (((evPutL ([] ++ lowB (head &&& 7) 3) x).length + 7) / 8) cc74) (((evPutL ([] ++ lowB (head &&& 7) 3) x).length + 7) / 8) ((pk (evPutL ([] ++ lowB (head &&& 7) 3) x)).flatMap u8c) :: Im 1 (.slice pp38 3 cc39) 3 ((lowB (head &&& 7) 3).flatMap blc) :: SinkA bk26 (evPutL ([] ++ lowB (head &&& 7) 3) x) :: Row 5 1 (.slice pp22 ((bytesE x).length) cc23) ((bytesE x).length) ((bytesE x).flatMap u8c) :: Row 5 1 (.slice pp18 ((bytesE x).length) cc19) ((bytesE x).length) ((bytesE x).flatMap u8c) :: blk bk15 (.cells #[.int .i64 x.src.v, .int .i64 x.seq.v, .int .i64 x.time.v, .string x.typ.v, .slice pA1 x.attrs.length cA2] 33 (0, 0)) :: Attrs (.slice pA1 x.attrs.length cA2) x.attrs :: imi (0 < x.attrs.length) gA3 (.cells kA5 eA6 zA7) :: F) := Row.im H76 (i := 1) rfl
    refine s_call [.slice pp38 3 cc39] pl_46 rfl rfl (ref01_Pack (lowB (head &&& 7) 3) 3 _ (by first | rfl | (simp only [List.length_append, lowB_len, natB_len]; done) | (simp only [List.length_append, lowB_len, natB_len]; omega)) (by omega) (j := 1) rfl H77) ?_
    rintro _ w80 ⟨pp78, cc79, rfl, H81⟩
    refine r_cons (r_take rfl rfl ?_)
    refine s_call [.slice pp73 (((evPutL ([] ++ lowB (head &&& 7) 3) x).length + 7) / 8) cc74, .slice pp78 (((lowB (head &&& 7) 3).length + 7) / 8) cc79] pl_44 rfl rfl (bytes_Equal _ _ _ _ _ _ (pk (evPutL ([] ++ lowB (head &&& 7) 3) x)) (pk (lowB (head &&& 7) 3)) RdA.row RdA.row (j := 1) rfl (k := 0) rfl H81) ?_
    rintro _ w82 ⟨rfl, H83⟩
    refine r_cons (s_pick_t (.bool (decide ((pk (evPutL ([] ++ lowB (head &&& 7) 3) x)) = (pk (lowB (head &&& 7) 3))))) rfl rfl rfl ?_)
    refine r_cons (s_assign (.bool (decide ((pk (evPutL ([] ++ lowB (head &&& 7) 3) x)) = (pk (lowB (head &&& 7) 3))))) rfl rfl ?_)
    refine r_nil ?_
    refine g_ret' [.bool (decide ((pk (evPutL ([] ++ lowB (head &&& 7) 3) x)) = (pk (lowB (head &&& 7) 3))))] Try.func7 Try.results7 ⟨rfl, trivial⟩ ?_
    have H84 : St W w82 F := (((((((((H83.drop 0 rfl).drop 0 rfl).drop 0 rfl).drop 0 rfl).drop 0 rfl).drop 0 rfl).drop 0 rfl).drop 0 rfl).drop 0 rfl)
    exact ⟨congrArg Value.bool (decide_eq_true (by first | (rw [hsm.2.1 (by assumption)]; rfl) | (rw [hsm.2.2 (by assumption)]; rfl))), H84⟩
end Sl
