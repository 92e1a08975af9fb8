/- Walks of the program's functions. Printed by a program of this claim's author. No condition. -/
import Derived.Test.YtkclljglobeplaaSlCG
import Derived.Test.YtkclljglobeplaaSlQ
import Derived.Test.YtkclljglobeplaaProg
import Derived.Test.YtkclljglobeplaaWalkCheckPatterns2
namespace Sl
open _root_.Go _root_.Go.RowKit _root_.Go.Proofs
set_option linter.all false
set_option maxHeartbeats 4000000 in
set_option maxRecDepth 100000 in
theorem check_live {W w : World} {F : List Atom}  (H : St W w F) : Calls Try.prog 9 #[] w (Ret fun v w' => v = .bool true ∧ St W w' F) := by
  refine calls_of_go (n := 34) Try.func9 rfl Try.ntmps9 rfl ?_
  refine g_seq ?_
  refine g_region ?_
  refine r_cons (s_assign (.bool false) rfl rfl ?_)
  refine r_nil ?_
  refine g_seq ?_
  refine g_region ?_
  refine r_cons (s_build (cs := #[.int .i64 1, .string (⟨#[97]⟩), .string (⟨#[65]⟩), .slice none 0 0, .slice none 0 0]) (by kernel_rfl) rfl ?_)
  refine r_cons (s_alloc H 25 ze_25 rfl ?_); intro bk1 w2 H3
  refine r_cons (s_storeAgg H3 0 #[.int .i64 1, .string (⟨#[97]⟩), .string (⟨#[65]⟩), .slice none 0 0, .slice none 0 0] 5 rfl rfl rfl sz_25 rfl (by simp [Value.oneCell']) (Nat.le_of_ble_eq_true rfl) (fun o h1 h2 => by first | (simp; done) | (simp; omega)) (cs' := #[.int .i64 1, .string (⟨#[97]⟩), .string (⟨#[65]⟩), .slice none 0 0, .slice none 0 0]) rfl ?_); intro w4 H5
  refine r_nil ?_
  refine g_seq ?_
  refine g_region ?_
  refine r_cons (s_loadAgg [.int .i64 1, .string (⟨#[97]⟩), .string (⟨#[65]⟩), .slice none 0 0, .slice none 0 0] 5 ag_25 rfl (H5.blk_at (i := 0) rfl) (Nat.le_of_ble_eq_true rfl) rfl rfl ?_)
  refine r_cons (s_loadAgg [.int .i64 1, .string (⟨#[97]⟩), .string (⟨#[65]⟩), .slice none 0 0, .slice none 0 0] 5 ag_25 rfl (H5.blk_at (i := 0) rfl) (Nat.le_of_ble_eq_true rfl) rfl rfl ?_)
  refine r_cons (s_buildSlice H5 5 2 (cs := #[.int .i64 1, .string (⟨#[97]⟩), .string (⟨#[65]⟩), .slice none 0 0, .slice none 0 0, .int .i64 1, .string (⟨#[97]⟩), .string (⟨#[65]⟩), .slice none 0 0, .slice none 0 0]) #[.int .i64 0, .string ByteArray.empty, .string ByteArray.empty, .slice none 0 0, .slice none 0 0] el_23 ze_25 (by decide) (by decide) (by kernel_rfl) rfl ?_); intro bk6 w7 H8
  have H9 := Row.cut (n := 0) (m := 2) (c := 2) (size := 5) (xs := [.int .i64 1, .string (⟨#[97]⟩), .string (⟨#[65]⟩), .slice none 0 0, .slice none 0 0, .int .i64 1, .string (⟨#[97]⟩), .string (⟨#[65]⟩), .slice none 0 0, .slice none 0 0]) H8 (i := 0) rfl (by decide) (by decide +kernel) rfl rfl (by simp [Value.oneCell'])
  have H10 : St W w7 (Row 25 5 (.slice (some ⟨bk6, 0, none⟩) 2 2) 2 [.int .i64 1, .string (⟨#[97]⟩), .string (⟨#[65]⟩), .slice none 0 0, .slice none 0 0, .int .i64 1, .string (⟨#[97]⟩), .string (⟨#[65]⟩), .slice none 0 0, .slice none 0 0] :: blk bk1 (.cells #[.int .i64 1, .string (⟨#[97]⟩), .string (⟨#[65]⟩), .slice none 0 0, .slice none 0 0] 25 (0, 0)) :: F) := H9
  have H11 : St W w7 (Im 5 (.slice (some ⟨bk6, 0, none⟩) 2 2) 2 ([lvA, lvA].flatMap nodeCell) :: blk bk1 (.cells #[.int .i64 1, .string (⟨#[97]⟩), .string (⟨#[65]⟩), .slice none 0 0, .slice none 0 0] 25 (0, 0)) :: F) := Row.im H10 (i := 0) rfl
  refine r_cons (s_build (cs := #[.int .i64 2, .string ByteArray.empty, .string ByteArray.empty, .slice none 0 0, .slice (some ⟨bk6, 0, none⟩) 2 2]) (by kernel_rfl) rfl ?_)
  refine r_cons (s_build (cs := #[.string (⟨#[112]⟩), .int .i64 5, .int .i64 2, .string ByteArray.empty, .string ByteArray.empty, .slice none 0 0, .slice (some ⟨bk6, 0, none⟩) 2 2, .slice none 0 0]) (by kernel_rfl) rfl ?_)
  refine r_cons (s_alloc H11 27 ze_27 rfl ?_); intro bk12 w13 H14
  refine r_cons (s_storeAgg H14 0 #[.string (⟨#[112]⟩), .int .i64 5, .int .i64 2, .string ByteArray.empty, .string ByteArray.empty, .slice none 0 0, .slice (some ⟨bk6, 0, none⟩) 2 2, .slice none 0 0] 8 rfl rfl rfl sz_27 rfl (by simp [Value.oneCell']) (Nat.le_of_ble_eq_true rfl) (fun o h1 h2 => by first | (simp; done) | (simp; omega)) (cs' := #[.string (⟨#[112]⟩), .int .i64 5, .int .i64 2, .string ByteArray.empty, .string ByteArray.empty, .slice none 0 0, .slice (some ⟨bk6, 0, none⟩) 2 2, .slice none 0 0]) rfl ?_); intro w15 H16
  refine r_nil ?_
  refine g_seq ?_
  refine g_region ?_
  refine r_cons (s_loadAgg [.string (⟨#[112]⟩), .int .i64 5, .int .i64 2, .string ByteArray.empty, .string ByteArray.empty, .slice none 0 0, .slice (some ⟨bk6, 0, none⟩) 2 2, .slice none 0 0] 8 ag_27 rfl (H16.blk_at (i := 0) rfl) (Nat.le_of_ble_eq_true rfl) rfl rfl ?_)
  refine r_cons (s_alloc H16 27 ze_27 rfl ?_); intro bk17 w18 H19
  refine r_cons (s_storeAgg H19 0 #[.string (⟨#[112]⟩), .int .i64 5, .int .i64 2, .string ByteArray.empty, .string ByteArray.empty, .slice none 0 0, .slice (some ⟨bk6, 0, none⟩) 2 2, .slice none 0 0] 8 rfl rfl rfl sz_27 rfl (by simp [Value.oneCell']) (Nat.le_of_ble_eq_true rfl) (fun o h1 h2 => by first | (simp; done) | (simp; omega)) (cs' := #[.string (⟨#[112]⟩), .int .i64 5, .int .i64 2, .string ByteArray.empty, .string ByteArray.empty, .slice none 0 0, .slice (some ⟨bk6, 0, none⟩) 2 2, .slice none 0 0]) rfl ?_); intro w20 H21
  refine r_nil ?_
  refine g_seq ?_
  refine g_region ?_
  refine r_cons (s_fieldAddr 27 2 2 2 25 rfl fi_27_2 rfl rfl ?_)
  refine r_cons (s_fieldAddr 25 0 0 2 3 rfl fi_25_0 rfl rfl ?_)
  refine r_cons (s_store H21 0 (.int .i64 4) rfl rfl rfl sz_3 rfl (Nat.le_of_ble_eq_true rfl) rfl (cs' := #[.string (⟨#[112]⟩), .int .i64 5, .int .i64 4, .string ByteArray.empty, .string ByteArray.empty, .slice none 0 0, .slice (some ⟨bk6, 0, none⟩) 2 2, .slice none 0 0]) rfl ?_); intro w22 H23
  refine r_nil ?_
  refine g_seq ?_
  refine g_region ?_
  have H24 : St W w22 (Im 11 (.slice none 0 0) (([] : List CondV).length) (([] : List CondV).flatMap condCell) :: blk bk17 (.cells #[.string (⟨#[112]⟩), .int .i64 5, .int .i64 4, .string ByteArray.empty, .string ByteArray.empty, .slice none 0 0, .slice (some ⟨bk6, 0, none⟩) 2 2, .slice none 0 0] 27 (0, 0)) :: blk bk12 (.cells #[.string (⟨#[112]⟩), .int .i64 5, .int .i64 2, .string ByteArray.empty, .string ByteArray.empty, .slice none 0 0, .slice (some ⟨bk6, 0, none⟩) 2 2, .slice none 0 0] 27 (0, 0)) :: Im 5 (.slice (some ⟨bk6, 0, none⟩) 2 2) 2 ([lvA, lvA].flatMap nodeCell) :: blk bk1 (.cells #[.int .i64 1, .string (⟨#[97]⟩), .string (⟨#[65]⟩), .slice none 0 0, .slice none 0 0] 25 (0, 0)) :: F) := Row.im (Row.nil_intro H23 43 11) (i := 0) rfl
  have H25 : St W w22 (Im 5 (.slice none 0 0) (([] : List NodeD).length) (([] : List NodeD).flatMap nodeCell) :: Im 11 (.slice none 0 0) (([] : List CondV).length) (([] : List CondV).flatMap condCell) :: blk bk17 (.cells #[.string (⟨#[112]⟩), .int .i64 5, .int .i64 4, .string ByteArray.empty, .string ByteArray.empty, .slice none 0 0, .slice (some ⟨bk6, 0, none⟩) 2 2, .slice none 0 0] 27 (0, 0)) :: blk bk12 (.cells #[.string (⟨#[112]⟩), .int .i64 5, .int .i64 2, .string ByteArray.empty, .string ByteArray.empty, .slice none 0 0, .slice (some ⟨bk6, 0, none⟩) 2 2, .slice none 0 0] 27 (0, 0)) :: Im 5 (.slice (some ⟨bk6, 0, none⟩) 2 2) 2 ([lvA, lvA].flatMap nodeCell) :: blk bk1 (.cells #[.int .i64 1, .string (⟨#[97]⟩), .string (⟨#[65]⟩), .slice none 0 0, .slice none 0 0] 25 (0, 0)) :: F) := Row.im (Row.nil_intro H24 25 5) (i := 0) rfl
  have H26 : St W w22 (NodesA [] :: Im 5 (.slice none 0 0) (([] : List NodeD).length) (([] : List NodeD).flatMap nodeCell) :: Im 11 (.slice none 0 0) (([] : List CondV).length) (([] : List CondV).flatMap condCell) :: blk bk17 (.cells #[.string (⟨#[112]⟩), .int .i64 5, .int .i64 4, .string ByteArray.empty, .string ByteArray.empty, .slice none 0 0, .slice (some ⟨bk6, 0, none⟩) 2 2, .slice none 0 0] 27 (0, 0)) :: blk bk12 (.cells #[.string (⟨#[112]⟩), .int .i64 5, .int .i64 2, .string ByteArray.empty, .string ByteArray.empty, .slice none 0 0, .slice (some ⟨bk6, 0, none⟩) 2 2, .slice none 0 0] 27 (0, 0)) :: Im 5 (.slice (some ⟨bk6, 0, none⟩) 2 2) 2 ([lvA, lvA].flatMap nodeCell) :: blk bk1 (.cells #[.int .i64 1, .string (⟨#[97]⟩), .string (⟨#[65]⟩), .slice none 0 0, .slice none 0 0] 25 (0, 0)) :: F) := NodesA.nil H25
  have H27 : St W w22 (NodeA lvA :: NodesA [] :: Im 5 (.slice none 0 0) (([] : List NodeD).length) (([] : List NodeD).flatMap nodeCell) :: Im 11 (.slice none 0 0) (([] : List CondV).length) (([] : List CondV).flatMap condCell) :: blk bk17 (.cells #[.string (⟨#[112]⟩), .int .i64 5, .int .i64 4, .string ByteArray.empty, .string ByteArray.empty, .slice none 0 0, .slice (some ⟨bk6, 0, none⟩) 2 2, .slice none 0 0] 27 (0, 0)) :: blk bk12 (.cells #[.string (⟨#[112]⟩), .int .i64 5, .int .i64 2, .string ByteArray.empty, .string ByteArray.empty, .slice none 0 0, .slice (some ⟨bk6, 0, none⟩) 2 2, .slice none 0 0] 27 (0, 0)) :: Im 5 (.slice (some ⟨bk6, 0, none⟩) 2 2) 2 ([lvA, lvA].flatMap nodeCell) :: blk bk1 (.cells #[.int .i64 1, .string (⟨#[97]⟩), .string (⟨#[65]⟩), .slice none 0 0, .slice none 0 0] 25 (0, 0)) :: F) := NodeA.make (a := 2) (b := 1) (c := 0) lvA H26 rfl rfl rfl (by decide)
  have H28 : St W w22 (NodesA [lvA] :: NodeA lvA :: NodesA [] :: Im 5 (.slice none 0 0) (([] : List NodeD).length) (([] : List NodeD).flatMap nodeCell) :: Im 11 (.slice none 0 0) (([] : List CondV).length) (([] : List CondV).flatMap condCell) :: blk bk17 (.cells #[.string (⟨#[112]⟩), .int .i64 5, .int .i64 4, .string ByteArray.empty, .string ByteArray.empty, .slice none 0 0, .slice (some ⟨bk6, 0, none⟩) 2 2, .slice none 0 0] 27 (0, 0)) :: blk bk12 (.cells #[.string (⟨#[112]⟩), .int .i64 5, .int .i64 2, .string ByteArray.empty, .string ByteArray.empty, .slice none 0 0, .slice (some ⟨bk6, 0, none⟩) 2 2, .slice none 0 0] 27 (0, 0)) :: Im 5 (.slice (some ⟨bk6, 0, none⟩) 2 2) 2 ([lvA, lvA].flatMap nodeCell) :: blk bk1 (.cells #[.int .i64 1, .string (⟨#[97]⟩), .string (⟨#[65]⟩), .slice none 0 0, .slice none 0 0] 25 (0, 0)) :: F) := NodesA.cons (a := 0) (b := 1) H27 rfl rfl
  have H29 : St W w22 (NodesA [lvA, lvA] :: NodesA [lvA] :: NodeA lvA :: NodesA [] :: Im 5 (.slice none 0 0) (([] : List NodeD).length) (([] : List NodeD).flatMap nodeCell) :: Im 11 (.slice none 0 0) (([] : List CondV).length) (([] : List CondV).flatMap condCell) :: blk bk17 (.cells #[.string (⟨#[112]⟩), .int .i64 5, .int .i64 4, .string ByteArray.empty, .string ByteArray.empty, .slice none 0 0, .slice (some ⟨bk6, 0, none⟩) 2 2, .slice none 0 0] 27 (0, 0)) :: blk bk12 (.cells #[.string (⟨#[112]⟩), .int .i64 5, .int .i64 2, .string ByteArray.empty, .string ByteArray.empty, .slice none 0 0, .slice (some ⟨bk6, 0, none⟩) 2 2, .slice none 0 0] 27 (0, 0)) :: Im 5 (.slice (some ⟨bk6, 0, none⟩) 2 2) 2 ([lvA, lvA].flatMap nodeCell) :: blk bk1 (.cells #[.int .i64 1, .string (⟨#[97]⟩), .string (⟨#[65]⟩), .slice none 0 0, .slice none 0 0] 25 (0, 0)) :: F) := NodesA.cons (a := 1) (b := 0) H28 rfl rfl
  have H30 : St W w22 (NodeA ((lvP (lvR2 bk6)).root) :: NodesA [lvA, lvA] :: NodesA [lvA] :: NodeA lvA :: NodesA [] :: Im 5 (.slice none 0 0) (([] : List NodeD).length) (([] : List NodeD).flatMap nodeCell) :: Im 11 (.slice none 0 0) (([] : List CondV).length) (([] : List CondV).flatMap condCell) :: blk bk17 (.cells #[.string (⟨#[112]⟩), .int .i64 5, .int .i64 4, .string ByteArray.empty, .string ByteArray.empty, .slice none 0 0, .slice (some ⟨bk6, 0, none⟩) 2 2, .slice none 0 0] 27 (0, 0)) :: blk bk12 (.cells #[.string (⟨#[112]⟩), .int .i64 5, .int .i64 2, .string ByteArray.empty, .string ByteArray.empty, .slice none 0 0, .slice (some ⟨bk6, 0, none⟩) 2 2, .slice none 0 0] 27 (0, 0)) :: Im 5 (.slice (some ⟨bk6, 0, none⟩) 2 2) 2 ([lvA, lvA].flatMap nodeCell) :: blk bk1 (.cells #[.int .i64 1, .string (⟨#[97]⟩), .string (⟨#[65]⟩), .slice none 0 0, .slice none 0 0] 25 (0, 0)) :: F) := NodeA.make (a := 5) (b := 8) (c := 0) (lvR2 bk6) H29 rfl rfl rfl ⟨Nat.le_of_ble_eq_true rfl, Nat.le_of_ble_eq_true rfl⟩
  have H31 : St W w22 (Im 11 (.slice ((lvP (lvR2 bk6)).wp) ((lvP (lvR2 bk6)).wh.length) ((lvP (lvR2 bk6)).wc)) ((lvP (lvR2 bk6)).wh.length) ((lvP (lvR2 bk6)).wh.flatMap condCell) :: NodeA ((lvP (lvR2 bk6)).root) :: NodesA [lvA, lvA] :: NodesA [lvA] :: NodeA lvA :: NodesA [] :: Im 5 (.slice none 0 0) (([] : List NodeD).length) (([] : List NodeD).flatMap nodeCell) :: Im 11 (.slice none 0 0) (([] : List CondV).length) (([] : List CondV).flatMap condCell) :: blk bk17 (.cells #[.string (⟨#[112]⟩), .int .i64 5, .int .i64 4, .string ByteArray.empty, .string ByteArray.empty, .slice none 0 0, .slice (some ⟨bk6, 0, none⟩) 2 2, .slice none 0 0] 27 (0, 0)) :: blk bk12 (.cells #[.string (⟨#[112]⟩), .int .i64 5, .int .i64 2, .string ByteArray.empty, .string ByteArray.empty, .slice none 0 0, .slice (some ⟨bk6, 0, none⟩) 2 2, .slice none 0 0] 27 (0, 0)) :: Im 5 (.slice (some ⟨bk6, 0, none⟩) 2 2) 2 ([lvA, lvA].flatMap nodeCell) :: blk bk1 (.cells #[.int .i64 1, .string (⟨#[97]⟩), .string (⟨#[65]⟩), .slice none 0 0, .slice none 0 0] 25 (0, 0)) :: F) := H30.dup (i := 6) rfl (Im_pers _ _ _ _)
  have H32 : St W w22 (NodeA ((lvP (lvR4 bk6)).root) :: Im 11 (.slice ((lvP (lvR2 bk6)).wp) ((lvP (lvR2 bk6)).wh.length) ((lvP (lvR2 bk6)).wc)) ((lvP (lvR2 bk6)).wh.length) ((lvP (lvR2 bk6)).wh.flatMap condCell) :: NodeA ((lvP (lvR2 bk6)).root) :: NodesA [lvA, lvA] :: NodesA [lvA] :: NodeA lvA :: NodesA [] :: Im 5 (.slice none 0 0) (([] : List NodeD).length) (([] : List NodeD).flatMap nodeCell) :: Im 11 (.slice none 0 0) (([] : List CondV).length) (([] : List CondV).flatMap condCell) :: blk bk17 (.cells #[.string (⟨#[112]⟩), .int .i64 5, .int .i64 4, .string ByteArray.empty, .string ByteArray.empty, .slice none 0 0, .slice (some ⟨bk6, 0, none⟩) 2 2, .slice none 0 0] 27 (0, 0)) :: blk bk12 (.cells #[.string (⟨#[112]⟩), .int .i64 5, .int .i64 2, .string ByteArray.empty, .string ByteArray.empty, .slice none 0 0, .slice (some ⟨bk6, 0, none⟩) 2 2, .slice none 0 0] 27 (0, 0)) :: Im 5 (.slice (some ⟨bk6, 0, none⟩) 2 2) 2 ([lvA, lvA].flatMap nodeCell) :: blk bk1 (.cells #[.int .i64 1, .string (⟨#[97]⟩), .string (⟨#[65]⟩), .slice none 0 0, .slice none 0 0] 25 (0, 0)) :: F) := NodeA.make (a := 0) (b := 10) (c := 2) (lvR4 bk6) H31 rfl rfl rfl ⟨Nat.le_of_ble_eq_true rfl, Nat.le_of_ble_eq_true rfl⟩
  have H33 : St W w22 (Im 11 (.slice ((lvP (lvR4 bk6)).wp) ((lvP (lvR4 bk6)).wh.length) ((lvP (lvR4 bk6)).wc)) ((lvP (lvR4 bk6)).wh.length) ((lvP (lvR4 bk6)).wh.flatMap condCell) :: NodeA ((lvP (lvR4 bk6)).root) :: Im 11 (.slice ((lvP (lvR2 bk6)).wp) ((lvP (lvR2 bk6)).wh.length) ((lvP (lvR2 bk6)).wc)) ((lvP (lvR2 bk6)).wh.length) ((lvP (lvR2 bk6)).wh.flatMap condCell) :: NodeA ((lvP (lvR2 bk6)).root) :: NodesA [lvA, lvA] :: NodesA [lvA] :: NodeA lvA :: NodesA [] :: Im 5 (.slice none 0 0) (([] : List NodeD).length) (([] : List NodeD).flatMap nodeCell) :: Im 11 (.slice none 0 0) (([] : List CondV).length) (([] : List CondV).flatMap condCell) :: blk bk17 (.cells #[.string (⟨#[112]⟩), .int .i64 5, .int .i64 4, .string ByteArray.empty, .string ByteArray.empty, .slice none 0 0, .slice (some ⟨bk6, 0, none⟩) 2 2, .slice none 0 0] 27 (0, 0)) :: blk bk12 (.cells #[.string (⟨#[112]⟩), .int .i64 5, .int .i64 2, .string ByteArray.empty, .string ByteArray.empty, .slice none 0 0, .slice (some ⟨bk6, 0, none⟩) 2 2, .slice none 0 0] 27 (0, 0)) :: Im 5 (.slice (some ⟨bk6, 0, none⟩) 2 2) 2 ([lvA, lvA].flatMap nodeCell) :: blk bk1 (.cells #[.int .i64 1, .string (⟨#[97]⟩), .string (⟨#[65]⟩), .slice none 0 0, .slice none 0 0] 25 (0, 0)) :: F) := H32.dup (i := 1) rfl (Im_pers _ _ _ _)
  refine r_cons (s_loadAgg [.string (⟨#[112]⟩), .int .i64 5, .int .i64 2, .string ByteArray.empty, .string ByteArray.empty, .slice none 0 0, .slice (some ⟨bk6, 0, none⟩) 2 2, .slice none 0 0] 8 ag_27 rfl (H33.blk_at (i := 11) rfl) (Nat.le_of_ble_eq_true rfl) rfl rfl ?_)
  refine r_cons (s_call [.agg #[.string (⟨#[112]⟩), .int .i64 5, .int .i64 2, .string ByteArray.empty, .string ByteArray.empty, .slice none 0 0, .slice (some ⟨bk6, 0, none⟩) 2 2, .slice none 0 0]] pl_11 rfl rfl (check_Pattern (lvP (lvR2 bk6)) (i := 3) rfl (k := 2) rfl (Nat.le_of_ble_eq_true rfl) H33) ?_)
  rintro _ w34 ⟨rfl, H35⟩
  refine r_cons (s_eql true rfl rfl (dtrue (lv_pat2 _)) rfl ?_)
  refine r_cons (s_move (.bool true) rfl rfl ?_)
  refine r_cons (r_take rfl rfl ?_)
  refine s_loadAgg [.string (⟨#[112]⟩), .int .i64 5, .int .i64 4, .string ByteArray.empty, .string ByteArray.empty, .slice none 0 0, .slice (some ⟨bk6, 0, none⟩) 2 2, .slice none 0 0] 8 ag_27 rfl (H35.blk_at (i := 10) rfl) (Nat.le_of_ble_eq_true rfl) rfl rfl ?_
  refine r_cons (r_take rfl rfl ?_)
  refine s_call [.agg #[.string (⟨#[112]⟩), .int .i64 5, .int .i64 4, .string ByteArray.empty, .string ByteArray.empty, .slice none 0 0, .slice (some ⟨bk6, 0, none⟩) 2 2, .slice none 0 0]] pl_11 rfl rfl (check_Pattern (lvP (lvR4 bk6)) (i := 1) rfl (k := 0) rfl (Nat.le_of_ble_eq_true rfl) H35) ?_
  rintro _ w36 ⟨rfl, H37⟩
  refine r_cons (r_take rfl rfl ?_)
  refine s_eql true rfl rfl (dtrue (lv_pat4 _)) rfl ?_
  refine r_cons (s_pick_t (.bool true) rfl rfl rfl ?_)
  refine r_cons (s_move (.bool true) rfl rfl ?_)
  refine r_cons (r_take rfl rfl ?_)
  refine s_fieldAddr 27 2 2 2 25 rfl fi_27_2 rfl rfl ?_
  refine r_cons (r_take rfl rfl ?_)
  refine s_loadAgg [.int .i64 4, .string ByteArray.empty, .string ByteArray.empty, .slice none 0 0, .slice (some ⟨bk6, 0, none⟩) 2 2] 5 ag_25 rfl (H37.blk_at (i := 10) rfl) (Nat.le_of_ble_eq_true rfl) rfl rfl ?_
  refine r_cons (r_take rfl rfl ?_)
  refine s_call [.agg #[.int .i64 4, .string ByteArray.empty, .string ByteArray.empty, .slice none 0 0, .slice (some ⟨bk6, 0, none⟩) 2 2]] pl_26 rfl rfl (check_Sure ((lvP (lvR4 bk6)).root) (i := 1) rfl (Nat.le_of_ble_eq_true rfl) H37) ?_
  rintro _ w40 ⟨pp38, cc39, rfl, H41⟩
  refine r_cons (r_take rfl rfl ?_)
  refine s_buildSlice H41 1 1 (cs := #[.string (⟨#[97]⟩)]) #[.string ByteArray.empty] el_36 ze_9 (by decide) (by decide) (by kernel_rfl) rfl ?_; intro bk42 w43 H44
  refine r_cons (r_take rfl rfl ?_)
  have H45 := Row.cut (n := 0) (m := 1) (c := 1) (size := 1) (xs := [.string (⟨#[97]⟩)]) H44 (i := 0) rfl (by decide) (by decide +kernel) rfl rfl (by simp [Value.oneCell'])
  have H46 : St W w43 (Row 9 1 (.slice (some ⟨bk42, 0, none⟩) 1 1) 1 [.string (⟨#[97]⟩)] :: Im 1 (.slice pp38 ((sureN ((lvP (lvR4 bk6)).root)).length) cc39) ((sureN ((lvP (lvR4 bk6)).root)).length) ((sureN ((lvP (lvR4 bk6)).root)).flatMap strCell) :: Im 11 (.slice ((lvP (lvR4 bk6)).wp) ((lvP (lvR4 bk6)).wh.length) ((lvP (lvR4 bk6)).wc)) ((lvP (lvR4 bk6)).wh.length) ((lvP (lvR4 bk6)).wh.flatMap condCell) :: NodeA ((lvP (lvR4 bk6)).root) :: Im 11 (.slice ((lvP (lvR2 bk6)).wp) ((lvP (lvR2 bk6)).wh.length) ((lvP (lvR2 bk6)).wc)) ((lvP (lvR2 bk6)).wh.length) ((lvP (lvR2 bk6)).wh.flatMap condCell) :: NodeA ((lvP (lvR2 bk6)).root) :: NodesA [lvA, lvA] :: NodesA [lvA] :: NodeA lvA :: NodesA [] :: Im 5 (.slice none 0 0) (([] : List NodeD).length) (([] : List NodeD).flatMap nodeCell) :: Im 11 (.slice none 0 0) (([] : List CondV).length) (([] : List CondV).flatMap condCell) :: blk bk17 (.cells #[.string (⟨#[112]⟩), .int .i64 5, .int .i64 4, .string ByteArray.empty, .string ByteArray.empty, .slice none 0 0, .slice (some ⟨bk6, 0, none⟩) 2 2, .slice none 0 0] 27 (0, 0)) :: blk bk12 (.cells #[.string (⟨#[112]⟩), .int .i64 5, .int .i64 2, .string ByteArray.empty, .string ByteArray.empty, .slice none 0 0, .slice (some ⟨bk6, 0, none⟩) 2 2, .slice none 0 0] 27 (0, 0)) :: Im 5 (.slice (some ⟨bk6, 0, none⟩) 2 2) 2 ([lvA, lvA].flatMap nodeCell) :: blk bk1 (.cells #[.int .i64 1, .string (⟨#[97]⟩), .string (⟨#[65]⟩), .slice none 0 0, .slice none 0 0] 25 (0, 0)) :: F) := H45
  have H47 : St W w43 (Im 1 (.slice (some ⟨bk42, 0, none⟩) 1 1) 1 ([lvS].flatMap strCell) :: Im 1 (.slice pp38 ((sureN ((lvP (lvR4 bk6)).root)).length) cc39) ((sureN ((lvP (lvR4 bk6)).root)).length) ((sureN ((lvP (lvR4 bk6)).root)).flatMap strCell) :: Im 11 (.slice ((lvP (lvR4 bk6)).wp) ((lvP (lvR4 bk6)).wh.length) ((lvP (lvR4 bk6)).wc)) ((lvP (lvR4 bk6)).wh.length) ((lvP (lvR4 bk6)).wh.flatMap condCell) :: NodeA ((lvP (lvR4 bk6)).root) :: Im 11 (.slice ((lvP (lvR2 bk6)).wp) ((lvP (lvR2 bk6)).wh.length) ((lvP (lvR2 bk6)).wc)) ((lvP (lvR2 bk6)).wh.length) ((lvP (lvR2 bk6)).wh.flatMap condCell) :: NodeA ((lvP (lvR2 bk6)).root) :: NodesA [lvA, lvA] :: NodesA [lvA] :: NodeA lvA :: NodesA [] :: Im 5 (.slice none 0 0) (([] : List NodeD).length) (([] : List NodeD).flatMap nodeCell) :: Im 11 (.slice none 0 0) (([] : List CondV).length) (([] : List CondV).flatMap condCell) :: blk bk17 (.cells #[.string (⟨#[112]⟩), .int .i64 5, .int .i64 4, .string ByteArray.empty, .string ByteArray.empty, .slice none 0 0, .slice (some ⟨bk6, 0, none⟩) 2 2, .slice none 0 0] 27 (0, 0)) :: blk bk12 (.cells #[.string (⟨#[112]⟩), .int .i64 5, .int .i64 2, .string ByteArray.empty, .string ByteArray.empty, .slice none 0 0, .slice (some ⟨bk6, 0, none⟩) 2 2, .slice none 0 0] 27 (0, 0)) :: Im 5 (.slice (some ⟨bk6, 0, none⟩) 2 2) 2 ([lvA, lvA].flatMap nodeCell) :: blk bk1 (.cells #[.int .i64 1, .string (⟨#[97]⟩), .string (⟨#[65]⟩), .slice none 0 0, .slice none 0 0] 25 (0, 0)) :: F) := Row.im H46 (i := 0) rfl
  refine s_call [.slice pp38 ((sureN ((lvP (lvR4 bk6)).root)).length) cc39, .slice (some ⟨bk42, 0, none⟩) 1 1] pl_23 rfl rfl (Equal_str (sureN ((lvP (lvR4 bk6)).root)) [lvS] (.slice pp38 ((sureN ((lvP (lvR4 bk6)).root)).length) cc39) (.slice (some ⟨bk42, 0, none⟩) 1 1) (m := 1) rfl (n := 0) rfl H47) ?_
  rintro _ w48 ⟨rfl, H49⟩
  refine r_cons (s_pick_t (.bool (eqS (sureN ((lvP (lvR4 bk6)).root)) [lvS])) rfl rfl rfl ?_)
  refine r_cons (s_move (.bool (eqS (sureN ((lvP (lvR4 bk6)).root)) [lvS])) rfl rfl ?_)
  refine r_cons (r_take rfl (congrArg some (by rw [show (eqS (sureN ((lvP (lvR4 bk6)).root)) [lvS]) = eqS [lvS] [lvS] from congrArg (fun z_ => eqS z_ [lvS]) (lv_sure4 _)]; exact eqS_refl _)) ?_)
  refine s_fieldAddr 27 2 2 2 25 rfl fi_27_2 rfl rfl ?_
  refine r_cons (r_take rfl (congrArg some (by rw [show (eqS (sureN ((lvP (lvR4 bk6)).root)) [lvS]) = eqS [lvS] [lvS] from congrArg (fun z_ => eqS z_ [lvS]) (lv_sure4 _)]; exact eqS_refl _)) ?_)
  refine s_loadAgg [.int .i64 4, .string ByteArray.empty, .string ByteArray.empty, .slice none 0 0, .slice (some ⟨bk6, 0, none⟩) 2 2] 5 ag_25 rfl (H49.blk_at (i := 12) rfl) (Nat.le_of_ble_eq_true rfl) rfl rfl ?_
  refine r_cons (r_take rfl (congrArg some (by rw [show (eqS (sureN ((lvP (lvR4 bk6)).root)) [lvS]) = eqS [lvS] [lvS] from congrArg (fun z_ => eqS z_ [lvS]) (lv_sure4 _)]; exact eqS_refl _)) ?_)
  refine s_call [.agg #[.int .i64 4, .string ByteArray.empty, .string ByteArray.empty, .slice none 0 0, .slice (some ⟨bk6, 0, none⟩) 2 2]] pl_13 rfl rfl (check_Terms ((lvP (lvR4 bk6)).root) (i := 3) rfl H49) ?_
  rintro _ w50 ⟨rfl, H51⟩
  refine r_cons (r_take rfl (congrArg some (by rw [show (eqS (sureN ((lvP (lvR4 bk6)).root)) [lvS]) = eqS [lvS] [lvS] from congrArg (fun z_ => eqS z_ [lvS]) (lv_sure4 _)]; exact eqS_refl _)) ?_)
  refine s_eql true rfl rfl (dtrue (lv_terms _)) rfl ?_
  refine r_cons (s_pick_t (.bool true) (by exact congrArg Value.bool (by rw [show (eqS (sureN ((lvP (lvR4 bk6)).root)) [lvS]) = eqS [lvS] [lvS] from congrArg (fun z_ => eqS z_ [lvS]) (lv_sure4 _)]; exact eqS_refl _)) rfl rfl ?_)
  refine r_cons (s_assign (.bool true) rfl rfl ?_)
  refine r_nil ?_
  refine g_ret' [.bool true] Try.func9 Try.results9 ⟨rfl, trivial⟩ ?_
  have H52 : St W w50 F := ((((((((((((((((H51.drop 0 rfl).drop 0 rfl).drop 0 rfl).drop 0 rfl).drop 0 rfl).drop 0 rfl).drop 0 rfl).drop 0 rfl).drop 0 rfl).drop 0 rfl).drop 0 rfl).drop 0 rfl).drop 0 rfl).drop 0 rfl).drop 0 rfl).drop 0 rfl)
  exact ⟨rfl, H52⟩
set_option maxHeartbeats 4000000 in
set_option maxRecDepth 100000 in
theorem check_fits {W w : World} {F : List Atom} (n : NodeD) {i : Nat} (hi : F[i]? = some (NodeA n)) (H : St W w F) : Calls Try.prog 10 #[.agg #[.int .i64 n.kind.v, .string n.var.v, .string n.typ.v, .slice n.tp n.tests.length n.tc, .slice n.kp n.kids.length n.kc]] w (Ret fun v w' => v = .bool (fitB n) ∧ St W w' F) := by
  have H1 := H.dup (i := i + 0) (by exact hi) (NodeA_pers _)
  have H2 : St W w (NodeA n :: F) := H1
  refine calls_of_go (n := 11) Try.func10 rfl Try.ntmps10 rfl ?_
  refine g_seq ?_
  refine g_region ?_
  refine r_cons (s_box H2 25 (.agg #[.int .i64 n.kind.v, .string n.var.v, .string n.typ.v, .slice n.tp n.tests.length n.tc, .slice n.kp n.kids.length n.kc]) rfl (cs := #[.int .i64 n.kind.v, .string n.var.v, .string n.typ.v, .slice n.tp n.tests.length n.tc, .slice n.kp n.kids.length n.kc]) rfl rfl ?_); intro bk3 w4 H5
  refine r_cons (s_assign (.bool false) rfl rfl ?_)
  refine r_nil ?_
  refine g_seq ?_
  refine g_region ?_
  refine r_cons (s_loadAgg [.int .i64 n.kind.v, .string n.var.v, .string n.typ.v, .slice n.tp n.tests.length n.tc, .slice n.kp n.kids.length n.kc] 5 ag_25 rfl (H5.blk_at (i := 0) rfl) (Nat.le_of_ble_eq_true rfl) rfl rfl ?_)
  refine r_cons (s_call [.agg #[.int .i64 n.kind.v, .string n.var.v, .string n.typ.v, .slice n.tp n.tests.length n.tc, .slice n.kp n.kids.length n.kc]] pl_14 rfl rfl (ref07_Terms n (i := 1) rfl H5) ?_)
  rintro _ w6 ⟨rfl, H7⟩
  by_cases hc8 : termsN n ≤ 200
  · skip
    refine r_cons (s_leq true rfl rfl (dtrue hc8) rfl ?_)
    refine r_cons (s_move (.bool true) rfl rfl ?_)
    refine r_cons (r_take rfl rfl ?_)
    refine s_loadAgg [.int .i64 n.kind.v, .string n.var.v, .string n.typ.v, .slice n.tp n.tests.length n.tc, .slice n.kp n.kids.length n.kc] 5 ag_25 rfl (H7.blk_at (i := 0) rfl) (Nat.le_of_ble_eq_true rfl) rfl rfl ?_
    refine r_cons (r_take rfl rfl ?_)
    refine s_call [.agg #[.int .i64 n.kind.v, .string n.var.v, .string n.typ.v, .slice n.tp n.tests.length n.tc, .slice n.kp n.kids.length n.kc]] pl_16 rfl rfl (ref07_Deep n (i := 1) rfl H7) ?_
    rintro _ w9 ⟨rfl, H10⟩
    refine r_cons (r_take rfl rfl ?_)
    by_cases hc11 : deepN n ≤ 50
    · skip
      refine s_leq true rfl rfl (dtrue hc11) rfl ?_
      refine r_cons (s_pick_t (.bool true) rfl rfl rfl ?_)
      refine r_cons (s_assign (.bool true) rfl rfl ?_)
      refine r_nil ?_
      refine g_ret' [.bool true] Try.func10 Try.results10 ⟨rfl, trivial⟩ ?_
      have H12 : St W w9 F := ((H10.drop 0 rfl).drop 0 rfl)
      exact ⟨congrArg Value.bool (decide_eq_true ⟨by omega, by omega⟩).symm, H12⟩
    · skip
      refine s_leq false rfl rfl (dfalse hc11) rfl ?_
      refine r_cons (s_pick_t (.bool false) rfl rfl rfl ?_)
      refine r_cons (s_assign (.bool false) rfl rfl ?_)
      refine r_nil ?_
      refine g_ret' [.bool false] Try.func10 Try.results10 ⟨rfl, trivial⟩ ?_
      have H13 : St W w9 F := ((H10.drop 0 rfl).drop 0 rfl)
      exact ⟨congrArg Value.bool (decide_eq_false (by omega)).symm, H13⟩
  · skip
    refine r_cons (s_leq false rfl rfl (dfalse hc8) rfl ?_)
    refine r_cons (s_move (.bool false) rfl rfl ?_)
    refine r_cons (r_pass rfl rfl rfl rfl rfl ?_)
    refine r_cons (r_pass rfl rfl rfl rfl rfl ?_)
    refine r_cons (r_pass rfl rfl rfl rfl rfl ?_)
    refine r_cons (s_pick_f (.bool false) rfl rfl rfl ?_)
    refine r_cons (s_assign (.bool false) rfl rfl ?_)
    refine r_nil ?_
    refine g_ret' [.bool false] Try.func10 Try.results10 ⟨rfl, trivial⟩ ?_
    have H14 : St W w6 F := ((H7.drop 0 rfl).drop 0 rfl)
    exact ⟨congrArg Value.bool (decide_eq_false (by omega)).symm, H14⟩
set_option maxHeartbeats 4000000 in
set_option maxRecDepth 100000 in
theorem law_CheckPatterns {W w : World} {F : List Atom} (p : PatD) {i : Nat} (hi : F[i]? = some (NodeA p.root)) {k : Nat} (hk : F[k]? = some (Im 11 (.slice p.wp p.wh.length p.wc) p.wh.length (p.wh.flatMap condCell))) (hz : sizeN p.root ≤ 1048576) (H : St W w F) : Calls Try.prog 3 #[.agg #[.string p.name.v, .int .i64 p.win.v, .int .i64 p.root.kind.v, .string p.root.var.v, .string p.root.typ.v, .slice p.root.tp p.root.tests.length p.root.tc, .slice p.root.kp p.root.kids.length p.root.kc, .slice p.wp p.wh.length p.wc]] w (Ret fun v w' => v = .bool true ∧ St W w' F) := by
  have H1 := H.dup (i := i + 0) (by exact hi) (NodeA_pers _)
  have H2 := H1.dup (i := k + 1) (by exact hk) (Im_pers _ _ _ _)
  have H3 : St W w (Im 11 (.slice p.wp p.wh.length p.wc) p.wh.length (p.wh.flatMap condCell) :: NodeA p.root :: F) := H2
  refine calls_of_go (n := 17) Try.func3 rfl Try.ntmps3 rfl ?_
  refine g_seq ?_
  refine g_region ?_
  refine r_cons (s_box H3 27 (.agg #[.string p.name.v, .int .i64 p.win.v, .int .i64 p.root.kind.v, .string p.root.var.v, .string p.root.typ.v, .slice p.root.tp p.root.tests.length p.root.tc, .slice p.root.kp p.root.kids.length p.root.kc, .slice p.wp p.wh.length p.wc]) rfl (cs := #[.string p.name.v, .int .i64 p.win.v, .int .i64 p.root.kind.v, .string p.root.var.v, .string p.root.typ.v, .slice p.root.tp p.root.tests.length p.root.tc, .slice p.root.kp p.root.kids.length p.root.kc, .slice p.wp p.wh.length p.wc]) rfl rfl ?_); intro bk4 w5 H6
  refine r_cons (s_assign (.bool false) rfl rfl ?_)
  refine r_nil ?_
  refine g_seq ?_
  refine g_quiet (fun w' => St W w' (blk bk4 (.cells #[.string p.name.v, .int .i64 p.win.v, .int .i64 p.root.kind.v, .string p.root.var.v, .string p.root.typ.v, .slice p.root.tp p.root.tests.length p.root.tc, .slice p.root.kp p.root.kids.length p.root.kc, .slice p.wp p.wh.length p.wc] 27 (0, 0)) :: Im 11 (.slice p.wp p.wh.length p.wc) p.wh.length (p.wh.flatMap condCell) :: NodeA p.root :: F)) mixed (by kernel_rfl) H6.drew ?_
  refine q_cons (q_enter (args := #[]) (v := .bool true) rfl rfl rfl (x_call pl_9 [] rfl) (fun w hw => check_live hw) ?_)
  refine q_cons (q_val rfl rfl rfl (by intro w hw; exact x_move (.bool true) rfl w) ?_)
  refine q_cons (q_take rfl rfl ?_)
  refine q_val rfl rfl rfl (by intro w hw; exact x_fieldAddr 27 2 2 2 25 rfl fi_27_2 rfl w) ?_
  refine q_cons (q_take rfl rfl ?_)
  refine q_val rfl rfl rfl (by intro w hw; exact x_loadAgg [.int .i64 p.root.kind.v, .string p.root.var.v, .string p.root.typ.v, .slice p.root.tp p.root.tests.length p.root.tc, .slice p.root.kp p.root.kids.length p.root.kc] 5 ag_25 rfl (hw.blk_at (i := 0) rfl) (Nat.le_of_ble_eq_true rfl) rfl) ?_
  refine q_cons (q_take rfl rfl ?_)
  refine q_enter (args := #[.agg #[.int .i64 p.root.kind.v, .string p.root.var.v, .string p.root.typ.v, .slice p.root.tp p.root.tests.length p.root.tc, .slice p.root.kp p.root.kids.length p.root.kc]]) (v := .bool (fitB p.root)) rfl rfl rfl (x_call pl_10 [.agg #[.int .i64 p.root.kind.v, .string p.root.var.v, .string p.root.typ.v, .slice p.root.tp p.root.tests.length p.root.tc, .slice p.root.kp p.root.kids.length p.root.kc]] rfl) (fun w hw => check_fits p.root (i := 2) rfl hw) ?_
  refine q_cons (q_take rfl rfl ?_)
  refine q_val rfl rfl rfl (by intro w hw; exact x_not (fitB p.root) rfl (!(fitB p.root)) rfl w) ?_
  refine q_cons (q_take rfl rfl ?_)
  refine q_val rfl rfl rfl (by intro w hw; exact x_move (.bool (!(fitB p.root))) rfl w) ?_
  by_cases hb7 : (!(fitB p.root)) = true
  · skip
    refine q_cons (q_pass rfl (congrArg some hb7) rfl rfl rfl ?_)
    refine q_cons (q_pass rfl (congrArg some hb7) rfl rfl rfl ?_)
    refine q_cons (q_pass rfl (congrArg some hb7) rfl rfl rfl ?_)
    refine q_cons (q_pass rfl (congrArg some hb7) rfl rfl rfl ?_)
    refine q_cons (q_pass rfl (congrArg some hb7) rfl rfl rfl ?_)
    refine q_cons (q_take rfl rfl ?_)
    refine q_val rfl rfl rfl (by intro w hw; exact x_pick_t (.bool true) (by exact congrArg Value.bool hb7) rfl w) ?_
    refine q_cons (q_val rfl rfl rfl (by intro w hw; exact x_pick_t (.bool true) rfl rfl w) ?_)
    refine q_cons (q_val rfl rfl rfl (by intro w hw; exact x_assign (.bool true) rfl w) ?_)
    refine q_nil ?_
    intro w8 H9
    refine g_ret' [.bool true] Try.func3 Try.results3 ⟨rfl, trivial⟩ ?_
    have H10 : St W w8 F := (((H9.drop 0 rfl).drop 0 rfl).drop 0 rfl)
    exact ⟨rfl, H10⟩
  · have hb7 := eq_false_of_ne_true hb7
    refine q_cons (q_take rfl (congrArg some hb7) ?_)
    refine q_val rfl rfl rfl (by intro w hw; exact x_loadAgg [.string p.name.v, .int .i64 p.win.v, .int .i64 p.root.kind.v, .string p.root.var.v, .string p.root.typ.v, .slice p.root.tp p.root.tests.length p.root.tc, .slice p.root.kp p.root.kids.length p.root.kc, .slice p.wp p.wh.length p.wc] 8 ag_27 rfl (hw.blk_at (i := 0) rfl) (Nat.le_of_ble_eq_true rfl) rfl) ?_
    refine q_cons (q_take rfl (congrArg some hb7) ?_)
    refine q_enter (args := #[.agg #[.string p.name.v, .int .i64 p.win.v, .int .i64 p.root.kind.v, .string p.root.var.v, .string p.root.typ.v, .slice p.root.tp p.root.tests.length p.root.tc, .slice p.root.kp p.root.kids.length p.root.kc, .slice p.wp p.wh.length p.wc]]) (v := .int .i64 (patE p)) rfl rfl rfl (x_call pl_11 [.agg #[.string p.name.v, .int .i64 p.win.v, .int .i64 p.root.kind.v, .string p.root.var.v, .string p.root.typ.v, .slice p.root.tp p.root.tests.length p.root.tc, .slice p.root.kp p.root.kids.length p.root.kc, .slice p.wp p.wh.length p.wc]] rfl) (fun w hw => check_Pattern p (i := 2) rfl (k := 1) rfl (by omega) hw) ?_
    refine q_cons (q_take rfl (congrArg some hb7) ?_)
    refine q_val rfl rfl rfl (by intro w hw; exact x_loadAgg [.string p.name.v, .int .i64 p.win.v, .int .i64 p.root.kind.v, .string p.root.var.v, .string p.root.typ.v, .slice p.root.tp p.root.tests.length p.root.tc, .slice p.root.kp p.root.kids.length p.root.kc, .slice p.wp p.wh.length p.wc] 8 ag_27 rfl (hw.blk_at (i := 0) rfl) (Nat.le_of_ble_eq_true rfl) rfl) ?_
    refine q_cons (q_take rfl (congrArg some hb7) ?_)
    refine q_enter (args := #[.agg #[.string p.name.v, .int .i64 p.win.v, .int .i64 p.root.kind.v, .string p.root.var.v, .string p.root.typ.v, .slice p.root.tp p.root.tests.length p.root.tc, .slice p.root.kp p.root.kids.length p.root.kc, .slice p.wp p.wh.length p.wc]]) (v := .int .i64 (patE p)) rfl rfl rfl (x_call pl_12 [.agg #[.string p.name.v, .int .i64 p.win.v, .int .i64 p.root.kind.v, .string p.root.var.v, .string p.root.typ.v, .slice p.root.tp p.root.tests.length p.root.tc, .slice p.root.kp p.root.kids.length p.root.kc, .slice p.wp p.wh.length p.wc]] rfl) (fun w hw => ref07_Pattern p (i := 2) rfl (k := 1) rfl (by omega) hw) ?_
    refine q_cons (q_take rfl (congrArg some hb7) ?_)
    refine q_val rfl rfl rfl (by intro w hw; exact x_eql true rfl rfl (dtrue rfl) w) ?_
    refine q_cons (q_take rfl rfl ?_)
    refine q_val rfl rfl rfl (by intro w hw; exact x_pick_f (.bool true) (by exact congrArg Value.bool hb7) rfl w) ?_
    refine q_cons (q_val rfl rfl rfl (by intro w hw; exact x_pick_t (.bool true) rfl rfl w) ?_)
    refine q_cons (q_val rfl rfl rfl (by intro w hw; exact x_assign (.bool true) rfl w) ?_)
    refine q_nil ?_
    intro w11 H12
    refine g_ret' [.bool true] Try.func3 Try.results3 ⟨rfl, trivial⟩ ?_
    have H13 : St W w11 F := (((H12.drop 0 rfl).drop 0 rfl).drop 0 rfl)
    exact ⟨rfl, H13⟩
end Sl
