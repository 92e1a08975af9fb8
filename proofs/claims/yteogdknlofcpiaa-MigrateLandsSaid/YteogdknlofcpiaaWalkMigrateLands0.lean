/- Walks of the program's functions. Printed by a program of this claim's author. No condition. -/
import Derived.Test.YteogdknlofcpiaaSlBA
import Derived.Test.YteogdknlofcpiaaSlDB
import Derived.Test.YteogdknlofcpiaaSlQ
import Derived.Test.YteogdknlofcpiaaSlR
import Derived.Test.YteogdknlofcpiaaSlG
import Derived.Test.YteogdknlofcpiaaSlDK
import Derived.Test.YteogdknlofcpiaaSlDH
import Derived.Test.YteogdknlofcpiaaSlDN
import Derived.Test.YteogdknlofcpiaaSlDO
import Derived.Test.YteogdknlofcpiaaSlDP
import Derived.Test.YteogdknlofcpiaaProg
namespace Sl
open _root_.Go _root_.Go.RowKit _root_.Go.Proofs
set_option linter.all false
theorem un_174 : Try.prog.underlying 174 = some (.slice 2) := by kernel_rfl
theorem el_174 : elemSize Try.prog 174 = some (2, 1) := by kernel_rfl
theorem ag_2 : isAggB Try.prog 2 = false ∧ (Try.prog.underlying 2).isSome = true := ⟨by kernel_rfl, by kernel_rfl⟩
theorem fi_32_0 : fieldOff Try.prog 32 0 = some (0, 3) := by kernel_rfl
theorem ag_3 : isAggB Try.prog 3 = false ∧ (Try.prog.underlying 3).isSome = true := ⟨by kernel_rfl, by kernel_rfl⟩
theorem fi_32_1 : fieldOff Try.prog 32 1 = some (1, 3) := by kernel_rfl
theorem fi_32_2 : fieldOff Try.prog 32 2 = some (2, 2) := by kernel_rfl
theorem ze_2 : zeroOf Try.prog 2 = some #[.int .i64 0] := by kernel_rfl
theorem pl_68 : plainFn Try.prog 68 = true := by kernel_rfl
theorem fi_32_3 : fieldOff Try.prog 32 3 = some (3, 3) := by kernel_rfl
theorem fi_32_5 : fieldOff Try.prog 32 5 = some (5, 2) := by kernel_rfl
theorem fi_32_4 : fieldOff Try.prog 32 4 = some (4, 30) := by kernel_rfl
theorem fi_30_0 : fieldOff Try.prog 30 0 = some (0, 28) := by kernel_rfl
theorem ag_28 : isAggB Try.prog 28 = false ∧ (Try.prog.underlying 28).isSome = true := ⟨by kernel_rfl, by kernel_rfl⟩
theorem un_28 : Try.prog.underlying 28 = some (.slice 170) := by kernel_rfl
theorem ze_30 : zeroOf Try.prog 30 = some #[.slice none 0 0] := by kernel_rfl
theorem sz_30 : (Try.prog.info? 30).map (·.size) = some 1 := by kernel_rfl
theorem ag_30 : isAggB Try.prog 30 = true ∧ (Try.prog.info? 30).map (·.size) = some 1 := ⟨by kernel_rfl, by kernel_rfl⟩
theorem ze_32 : zeroOf Try.prog 32 = some #[.int .i64 0, .int .i64 0, .int .i64 0, .int .i64 0, .slice none 0 0, .int .i64 0] := by kernel_rfl
theorem pl_105 : plainFn Try.prog 105 = true := by kernel_rfl
theorem ag_32 : isAggB Try.prog 32 = true ∧ (Try.prog.info? 32).map (·.size) = some 6 := ⟨by kernel_rfl, by kernel_rfl⟩
theorem sz_32 : (Try.prog.info? 32).map (·.size) = some 6 := by kernel_rfl
theorem un_24 : Try.prog.underlying 24 = some (.pointer 80) := by kernel_rfl
theorem fi_80_0 : fieldOff Try.prog 80 0 = some (0, 4) := by kernel_rfl
theorem ag_4 : isAggB Try.prog 4 = false ∧ (Try.prog.underlying 4).isSome = true := ⟨by kernel_rfl, by kernel_rfl⟩
theorem pl_62 : plainFn Try.prog 62 = true := by kernel_rfl
theorem fi_80_1 : fieldOff Try.prog 80 1 = some (1, 2) := by kernel_rfl
theorem pl_63 : plainFn Try.prog 63 = true := by kernel_rfl
theorem mixed : Try.prog.follows .mixedOrders = true := by kernel_rfl
theorem fi_80_2 : fieldOff Try.prog 80 2 = some (2, 22) := by kernel_rfl
theorem ag_22 : isAggB Try.prog 22 = false ∧ (Try.prog.underlying 22).isSome = true := ⟨by kernel_rfl, by kernel_rfl⟩
theorem un_22 : Try.prog.underlying 22 = some (.slice 32) := by kernel_rfl
theorem pl_64 : plainFn Try.prog 64 = true := by kernel_rfl
theorem el_22 : elemSize Try.prog 22 = some (32, 6) := by kernel_rfl
theorem in_32 : (Try.prog.info? 32).map (fun i => (i.zero, i.size, i.bytes)) = some (some (.agg #[.int .i64 0, .int .i64 0, .int .i64 0, .int .i64 0, .slice none 0 0, .int .i64 0]), 6, 64) := by kernel_rfl
theorem ap_22 : appInfo Try.prog 22 32 6 64 6 := appInfo_mk un_22 in_32 rfl
theorem sz_22 : (Try.prog.info? 22).map (·.size) = some 1 := by kernel_rfl
theorem sz_2 : (Try.prog.info? 2).map (·.size) = some 1 := by kernel_rfl
theorem pl_65 : plainFn Try.prog 65 = true := by kernel_rfl
theorem pl_9 : plainFn Try.prog 9 = true := by kernel_rfl
theorem pl_59 : plainFn Try.prog 59 = true := by kernel_rfl
theorem pl_14 : plainFn Try.prog 14 = true := by kernel_rfl
theorem pl_16 : plainFn Try.prog 16 = true := by kernel_rfl
theorem sz_3 : (Try.prog.info? 3).map (·.size) = some 1 := by kernel_rfl
theorem sz_4 : (Try.prog.info? 4).map (·.size) = some 1 := by kernel_rfl
theorem un_44 : Try.prog.underlying 44 = some (.pointer 98) := by kernel_rfl
theorem fi_98_0 : fieldOff Try.prog 98 0 = some (0, 4) := by kernel_rfl
theorem pl_71 : plainFn Try.prog 71 = true := by kernel_rfl
theorem pl_10 : plainFn Try.prog 10 = true := by kernel_rfl
theorem un_23 : Try.prog.underlying 23 = some (.slice 5) := by kernel_rfl
theorem un_60 : Try.prog.underlying 60 = some (.slice 51) := by kernel_rfl
theorem ag_51 : isAggB Try.prog 51 = true ∧ (Try.prog.info? 51).map (·.size) = some 4 := ⟨by kernel_rfl, by kernel_rfl⟩
theorem pl_22 : plainFn Try.prog 22 = true := by kernel_rfl
theorem pl_25 : plainFn Try.prog 25 = true := by kernel_rfl
theorem pl_21 : plainFn Try.prog 21 = true := by kernel_rfl
theorem pl_28 : plainFn Try.prog 28 = true := by kernel_rfl
theorem pl_20 : plainFn Try.prog 20 = true := by kernel_rfl
theorem el_23 : elemSize Try.prog 23 = some (5, 1) := by kernel_rfl
theorem in_5 : (Try.prog.info? 5).map (fun i => (i.zero, i.size, i.bytes)) = some (some (.int .u8 0), 1, 1) := by kernel_rfl
theorem ap_23 : appInfo Try.prog 23 5 1 1 1 := appInfo_mk un_23 in_5 rfl
theorem pl_73 : plainFn Try.prog 73 = true := by kernel_rfl
theorem el_60 : elemSize Try.prog 60 = some (51, 4) := by kernel_rfl
theorem ze_51 : zeroOf Try.prog 51 = some #[.int .i64 0, .int .i64 0, .int .i64 0, .slice none 0 0] := by kernel_rfl
theorem in_51 : (Try.prog.info? 51).map (fun i => (i.zero, i.size, i.bytes)) = some (some (.agg #[.int .i64 0, .int .i64 0, .int .i64 0, .slice none 0 0]), 4, 48) := by kernel_rfl
theorem ap_60 : appInfo Try.prog 60 51 4 48 4 := appInfo_mk un_60 in_51 rfl
theorem pl_60 : plainFn Try.prog 60 = true := by kernel_rfl
theorem fi_51_0 : fieldOff Try.prog 51 0 = some (0, 3) := by kernel_rfl
theorem fi_51_1 : fieldOff Try.prog 51 1 = some (1, 3) := by kernel_rfl
theorem fi_51_2 : fieldOff Try.prog 51 2 = some (2, 3) := by kernel_rfl
theorem fi_51_3 : fieldOff Try.prog 51 3 = some (3, 23) := by kernel_rfl
theorem ag_23 : isAggB Try.prog 23 = false ∧ (Try.prog.underlying 23).isSome = true := ⟨by kernel_rfl, by kernel_rfl⟩
theorem un_5 : Try.prog.underlying 5 = some (.int .u8) := by kernel_rfl
theorem un_9 : Try.prog.underlying 9 = some (.string) := by kernel_rfl
theorem pl_39 : plainFn Try.prog 39 = true := by kernel_rfl
theorem us_9 : (Try.prog.underlying 9).isSome = true := by kernel_rfl
theorem ag_5 : isAggB Try.prog 5 = false ∧ (Try.prog.underlying 5).isSome = true := ⟨by kernel_rfl, by kernel_rfl⟩
theorem st_9 : isStr Try.prog 9 = true := by kernel_rfl
theorem fi_211_0 : fieldOff Try.prog 211 0 = some (0, 3) := by kernel_rfl
theorem fi_211_2 : fieldOff Try.prog 211 2 = some (2, 9) := by kernel_rfl
theorem ag_9 : isAggB Try.prog 9 = false ∧ (Try.prog.underlying 9).isSome = true := ⟨by kernel_rfl, by kernel_rfl⟩
theorem fi_211_1 : fieldOff Try.prog 211 1 = some (1, 2) := by kernel_rfl
theorem un_166 : Try.prog.underlying 166 = some (.slice 213) := by kernel_rfl
theorem el_166 : elemSize Try.prog 166 = some (213, 4) := by kernel_rfl
theorem ag_213 : isAggB Try.prog 213 = true ∧ (Try.prog.info? 213).map (·.size) = some 4 := ⟨by kernel_rfl, by kernel_rfl⟩
theorem ze_213 : zeroOf Try.prog 213 = some #[.string ByteArray.empty, .int .i64 0, .int .i64 0, .string ByteArray.empty] := by kernel_rfl
theorem sz_213 : (Try.prog.info? 213).map (·.size) = some 4 := by kernel_rfl
theorem fi_213_0 : fieldOff Try.prog 213 0 = some (0, 9) := by kernel_rfl
theorem pl_133 : plainFn Try.prog 133 = true := by kernel_rfl
theorem fi_213_1 : fieldOff Try.prog 213 1 = some (1, 211) := by kernel_rfl
theorem ag_211 : isAggB Try.prog 211 = true ∧ (Try.prog.info? 211).map (·.size) = some 3 := ⟨by kernel_rfl, by kernel_rfl⟩
theorem pl_165 : plainFn Try.prog 165 = true := by kernel_rfl
theorem pl_130 : plainFn Try.prog 130 = true := by kernel_rfl
theorem pl_102 : plainFn Try.prog 102 = true := by kernel_rfl
theorem pl_149 : plainFn Try.prog 149 = true := by kernel_rfl
theorem ev_213 {a0 b0 : ByteArray} {a1 b1 : Int} {a2 b2 : Int} {a3 b3 : ByteArray} : EqV Try.prog Op.maxDepth 213 (.agg #[.string a0, .int .i64 a1, .int .i64 a2, .string a3]) (.agg #[.string b0, .int .i64 b1, .int .i64 b2, .string b3]) (decide (a0 = b0) && ((decide (a1 = b1) && (decide (a2 = b2) && (decide (a3 = b3) && true))) && true)) := (EqV.struct (d := 9999) (l := [_, _]) Try.underlying213 rfl (by kernel_rfl) (EqF.cons (a := .string a0) (b := .string b0) rfl (fun w => by kernel_rfl) (fun w => by kernel_rfl) (EqV.str (d := 9998) Try.underlying9) (EqF.cons (a := .agg #[.int .i64 a1, .int .i64 a2, .string a3]) (b := .agg #[.int .i64 b1, .int .i64 b2, .string b3]) rfl (fun w => by kernel_rfl) (fun w => by kernel_rfl) (EqV.struct (d := 9998) (l := [_, _, _]) Try.underlying211 rfl (by kernel_rfl) (EqF.cons (a := .int .i64 a1) (b := .int .i64 b1) rfl (fun w => by kernel_rfl) (fun w => by kernel_rfl) (EqV.int (d := 9997) Try.underlying3) (EqF.cons (a := .int .i64 a2) (b := .int .i64 b2) rfl (fun w => by kernel_rfl) (fun w => by kernel_rfl) (EqV.int (d := 9997) Try.underlying2) (EqF.cons (a := .string a3) (b := .string b3) rfl (fun w => by kernel_rfl) (fun w => by kernel_rfl) (EqV.str (d := 9997) Try.underlying9) EqF.nil)))) EqF.nil)))
theorem gd_213 : Try.prog.eqGuardType Try.prog.depth 213 = false := by kernel_rfl
theorem fi_168_0 : fieldOff Try.prog 168 0 = some (0, 165) := by kernel_rfl
theorem fi_165_0 : fieldOff Try.prog 165 0 = some (0, 3) := by kernel_rfl
theorem fi_165_1 : fieldOff Try.prog 165 1 = some (1, 2) := by kernel_rfl
theorem pl_150 : plainFn Try.prog 150 = true := by kernel_rfl
theorem fi_168_1 : fieldOff Try.prog 168 1 = some (2, 2) := by kernel_rfl
theorem fi_168_2 : fieldOff Try.prog 168 2 = some (3, 9) := by kernel_rfl
theorem fi_168_3 : fieldOff Try.prog 168 3 = some (4, 166) := by kernel_rfl
theorem ag_166 : isAggB Try.prog 166 = false ∧ (Try.prog.underlying 166).isSome = true := ⟨by kernel_rfl, by kernel_rfl⟩
theorem pl_151 : plainFn Try.prog 151 = true := by kernel_rfl
theorem in_213 : (Try.prog.info? 213).map (fun i => (i.zero, i.size, i.bytes)) = some (some (.agg #[.string ByteArray.empty, .int .i64 0, .int .i64 0, .string ByteArray.empty]), 4, 48) := by kernel_rfl
theorem ap_166 : appInfo Try.prog 166 213 4 48 4 := appInfo_mk un_166 in_213 rfl
theorem ze_168 : zeroOf Try.prog 168 = some #[.int .i64 0, .int .i64 0, .int .i64 0, .string ByteArray.empty, .slice none 0 0] := by kernel_rfl
theorem pl_152 : plainFn Try.prog 152 = true := by kernel_rfl
theorem sz_166 : (Try.prog.info? 166).map (·.size) = some 1 := by kernel_rfl
theorem ag_168 : isAggB Try.prog 168 = true ∧ (Try.prog.info? 168).map (·.size) = some 5 := ⟨by kernel_rfl, by kernel_rfl⟩
theorem sz_168 : (Try.prog.info? 168).map (·.size) = some 5 := by kernel_rfl
theorem pl_131 : plainFn Try.prog 131 = true := by kernel_rfl
theorem pl_132 : plainFn Try.prog 132 = true := by kernel_rfl
theorem ag_165 : isAggB Try.prog 165 = true ∧ (Try.prog.info? 165).map (·.size) = some 2 := ⟨by kernel_rfl, by kernel_rfl⟩
theorem ev_165 {a0 b0 : Int} {a1 b1 : Int} : EqV Try.prog Op.maxDepth 165 (.agg #[.int .i64 a0, .int .i64 a1]) (.agg #[.int .i64 b0, .int .i64 b1]) (decide (a0 = b0) && (decide (a1 = b1) && true)) := (EqV.struct (d := 9999) (l := [_, _]) Try.underlying165 rfl (by kernel_rfl) (EqF.cons (a := .int .i64 a0) (b := .int .i64 b0) rfl (fun w => by kernel_rfl) (fun w => by kernel_rfl) (EqV.int (d := 9998) Try.underlying3) (EqF.cons (a := .int .i64 a1) (b := .int .i64 b1) rfl (fun w => by kernel_rfl) (fun w => by kernel_rfl) (EqV.int (d := 9998) Try.underlying2) EqF.nil)))
theorem gd_165 : Try.prog.eqGuardType Try.prog.depth 165 = false := by kernel_rfl
theorem pl_153 : plainFn Try.prog 153 = true := by kernel_rfl
theorem kl_165 : KeyLaw Try.prog 165 kID := KeyLaw.wide (fun em k w => by kernel_rfl) (by kernel_rfl) (fun a b w => by rw [idk_dec]; simp only [Op.equal]; exact ev_165 w) kID_bits
theorem el_28 : elemSize Try.prog 28 = some (170, 6) := by kernel_rfl
theorem ag_170 : isAggB Try.prog 170 = true ∧ (Try.prog.info? 170).map (·.size) = some 6 := ⟨by kernel_rfl, by kernel_rfl⟩
theorem ze_170 : zeroOf Try.prog 170 = some #[.string ByteArray.empty, .int .i64 0, .int .i64 0, .int .i64 0, .string ByteArray.empty, .slice none 0 0] := by kernel_rfl
theorem sz_170 : (Try.prog.info? 170).map (·.size) = some 6 := by kernel_rfl
theorem fi_170_0 : fieldOff Try.prog 170 0 = some (0, 9) := by kernel_rfl
theorem fi_170_1 : fieldOff Try.prog 170 1 = some (1, 168) := by kernel_rfl
theorem un_199 : Try.prog.underlying 199 = some (.map 165 4) := by kernel_rfl
theorem zv_4 : ∀ w : World, (zeroValue 4).run Try.prog w = .ok (.bool false) w := fun w => by kernel_rfl
theorem pl_134 : plainFn Try.prog 134 = true := by kernel_rfl
theorem pl_103 : plainFn Try.prog 103 = true := by kernel_rfl
theorem pl_135 : plainFn Try.prog 135 = true := by kernel_rfl
theorem in_170 : (Try.prog.info? 170).map (fun i => (i.zero, i.size, i.bytes)) = some (some (.agg #[.string ByteArray.empty, .int .i64 0, .int .i64 0, .int .i64 0, .string ByteArray.empty, .slice none 0 0]), 6, 80) := by kernel_rfl
theorem ap_28 : appInfo Try.prog 28 170 6 80 6 := appInfo_mk un_28 in_170 rfl
theorem pl_137 : plainFn Try.prog 137 = true := by kernel_rfl
theorem pl_136 : plainFn Try.prog 136 = true := by kernel_rfl
theorem pl_104 : plainFn Try.prog 104 = true := by kernel_rfl
theorem pl_61 : plainFn Try.prog 61 = true := by kernel_rfl
theorem pl_108 : plainFn Try.prog 108 = true := by kernel_rfl
theorem pl_106 : plainFn Try.prog 106 = true := by kernel_rfl
theorem pl_67 : plainFn Try.prog 67 = true := by kernel_rfl
theorem pl_66 : plainFn Try.prog 66 = true := by kernel_rfl
theorem un_3 : Try.prog.underlying 3 = some (.int .i64) := by kernel_rfl
theorem fi_98_1 : fieldOff Try.prog 98 1 = some (1, 4) := by kernel_rfl
theorem fi_98_3 : fieldOff Try.prog 98 3 = some (3, 3) := by kernel_rfl
theorem fi_98_4 : fieldOff Try.prog 98 4 = some (4, 96) := by kernel_rfl
theorem ag_96 : isAggB Try.prog 96 = false ∧ (Try.prog.underlying 96).isSome = true := ⟨by kernel_rfl, by kernel_rfl⟩
theorem un_96 : Try.prog.underlying 96 = some (.map 3 23) := by kernel_rfl
theorem fi_98_2 : fieldOff Try.prog 98 2 = some (2, 3) := by kernel_rfl
theorem fi_98_5 : fieldOff Try.prog 98 5 = some (5, 22) := by kernel_rfl
theorem zv_23 : ∀ w : World, (zeroValue 23).run Try.prog w = .ok (.slice none 0 0) w := fun w => by kernel_rfl
theorem pl_27 : plainFn Try.prog 27 = true := by kernel_rfl
theorem pl_74 : plainFn Try.prog 74 = true := by kernel_rfl
theorem pl_72 : plainFn Try.prog 72 = true := by kernel_rfl
theorem ag_98 : isAggB Try.prog 98 = true ∧ (Try.prog.info? 98).map (·.size) = some 6 := ⟨by kernel_rfl, by kernel_rfl⟩
theorem ze_98 : zeroOf Try.prog 98 = some #[.bool false, .bool false, .int .i64 0, .int .i64 0, .map none, .slice none 0 0] := by kernel_rfl
theorem sz_98 : (Try.prog.info? 98).map (·.size) = some 6 := by kernel_rfl
theorem pl_69 : plainFn Try.prog 69 = true := by kernel_rfl
theorem pl_70 : plainFn Try.prog 70 = true := by kernel_rfl
theorem sz_96 : (Try.prog.info? 96).map (·.size) = some 1 := by kernel_rfl
theorem fi_62_2 : fieldOff Try.prog 62 2 = some (2, 60) := by kernel_rfl
theorem ag_60 : isAggB Try.prog 60 = false ∧ (Try.prog.underlying 60).isSome = true := ⟨by kernel_rfl, by kernel_rfl⟩
theorem fi_62_3 : fieldOff Try.prog 62 3 = some (3, 4) := by kernel_rfl
theorem pl_11 : plainFn Try.prog 11 = true := by kernel_rfl
theorem fi_62_0 : fieldOff Try.prog 62 0 = some (0, 3) := by kernel_rfl
theorem fi_62_1 : fieldOff Try.prog 62 1 = some (1, 22) := by kernel_rfl
theorem pl_75 : plainFn Try.prog 75 = true := by kernel_rfl
theorem pl_76 : plainFn Try.prog 76 = true := by kernel_rfl
theorem sz_23 : (Try.prog.info? 23).map (·.size) = some 1 := by kernel_rfl
theorem sz_60 : (Try.prog.info? 60).map (·.size) = some 1 := by kernel_rfl
theorem pl_77 : plainFn Try.prog 77 = true := by kernel_rfl
theorem pl_18 : plainFn Try.prog 18 = true := by kernel_rfl
theorem pl_19 : plainFn Try.prog 19 = true := by kernel_rfl
theorem un_47 : Try.prog.underlying 47 = some (.pointer 62) := by kernel_rfl
theorem un_4 : Try.prog.underlying 4 = some (.bool) := by kernel_rfl
theorem un_43 : Try.prog.underlying 43 = some (.slice 53) := by kernel_rfl
theorem el_43 : elemSize Try.prog 43 = some (53, 11) := by kernel_rfl
theorem ag_53 : isAggB Try.prog 53 = true ∧ (Try.prog.info? 53).map (·.size) = some 11 := ⟨by kernel_rfl, by kernel_rfl⟩
theorem ze_53 : zeroOf Try.prog 53 = some #[.int .i64 0, .int .i64 0, .int .i64 0, .int .i64 0, .int .i64 0, .slice none 0 0, .int .i64 0, .int .i64 0, .int .i64 0, .int .i64 0, .slice none 0 0] := by kernel_rfl
theorem sz_53 : (Try.prog.info? 53).map (·.size) = some 11 := by kernel_rfl
theorem fi_53_0 : fieldOff Try.prog 53 0 = some (0, 3) := by kernel_rfl
theorem fi_53_1 : fieldOff Try.prog 53 1 = some (1, 32) := by kernel_rfl
theorem pl_23 : plainFn Try.prog 23 = true := by kernel_rfl
theorem fi_53_2 : fieldOff Try.prog 53 2 = some (7, 51) := by kernel_rfl
theorem pl_24 : plainFn Try.prog 24 = true := by kernel_rfl
theorem pl_26 : plainFn Try.prog 26 = true := by kernel_rfl
theorem pl_15 : plainFn Try.prog 15 = true := by kernel_rfl
set_option maxHeartbeats 4000000 in
set_option maxRecDepth 100000 in
theorem time3 {W w : World} {F : List Atom} (g : Nat) (x y z : Int) (h1 : 0 ≤ x ∧ x ≤ 1099511627776) (h2 : 0 ≤ y ∧ y ≤ 1099511627776) (h3 : 0 ≤ z ∧ z ≤ 1099511627776) (H : St W w (blk g (.cells #[.int .i64 x, .int .i64 y, .int .i64 z] 2 (0, 0)) :: F)) : Calls Try.prog 68 #[.slice (some ⟨g, 0, none⟩) 3 3] w (Ret fun v w' => v = .bool true ∧ St W w' (blk g (.cells #[.int .i64 x, .int .i64 y, .int .i64 z] 2 (0, 0)) :: F)) := by
  have H0 := H
  refine calls_of_go (n := 18) Try.func68 rfl Try.ntmps68 rfl ?_
  refine g_seq ?_
  refine g_region ?_
  refine r_cons (s_assign (.bool false) rfl rfl ?_)
  refine r_nil ?_
  refine g_seq ?_
  refine g_seq ?_
  refine g_region ?_
  refine r_cons (s_move (.slice (some ⟨g, 0, none⟩) 3 3) rfl rfl ?_)
  refine r_cons (s_len 3 rfl ⟨_, un_174⟩ rfl ?_)
  refine r_cons (s_move (.int .i64 0) rfl rfl ?_)
  refine r_nil ?_
  refine g_block ?_
  refine g_loop ?_
  refine g_seq ?_
  refine g_region ?_
  refine r_cons (s_lss true rfl rfl (dtrue (by decide)) rfl ?_)
  refine r_nil ?_
  refine g_seq ?_
  refine g_true rfl ?_
  refine g_skip ?_
  refine g_seq ?_
  refine g_block ?_
  refine g_seq ?_
  refine g_region ?_
  refine r_cons (s_indexAddr g 0 1 0 rfl rfl el_174 (by omega) rfl rfl ?_)
  refine r_cons (s_load (.int .i64 x) ag_2 rfl (H0.blk_at (i := 0) rfl) rfl rfl ?_)
  refine r_cons (s_assign (.int .i64 x) rfl rfl ?_)
  refine r_nil ?_
  refine g_seq ?_
  refine g_region ?_
  refine r_cons (s_move (.int .i64 x) rfl rfl ?_)
  refine r_cons (s_lss false rfl rfl (dfalse (by omega)) rfl ?_)
  refine r_cons (s_move (.bool false) rfl rfl ?_)
  refine r_cons (r_take rfl rfl ?_)
  refine s_move (.int .i64 x) rfl rfl ?_
  refine r_cons (r_take rfl rfl ?_)
  refine s_gtr false rfl rfl (dfalse (by omega)) rfl ?_
  refine r_cons (s_pick_f (.bool false) rfl rfl rfl ?_)
  refine r_nil ?_
  refine g_false rfl ?_
  refine g_skip ?_
  refine g_inBlock ?_
  refine g_region ?_
  refine r_cons (s_add 1 rfl rfl (wi64 (by omega)) rfl ?_)
  refine r_cons (s_move (.int .i64 1) rfl rfl ?_)
  refine r_nil ?_
  refine g_inLoop ?_
  refine g_seq ?_
  refine g_region ?_
  refine r_cons (s_lss true rfl rfl (dtrue (by decide)) rfl ?_)
  refine r_nil ?_
  refine g_seq ?_
  refine g_true rfl ?_
  refine g_skip ?_
  refine g_seq ?_
  refine g_block ?_
  refine g_seq ?_
  refine g_region ?_
  refine r_cons (s_indexAddr g 1 1 1 rfl rfl el_174 (by omega) rfl rfl ?_)
  refine r_cons (s_load (.int .i64 y) ag_2 rfl (H0.blk_at (i := 0) rfl) rfl rfl ?_)
  refine r_cons (s_assign (.int .i64 y) rfl rfl ?_)
  refine r_nil ?_
  refine g_seq ?_
  refine g_region ?_
  refine r_cons (s_move (.int .i64 y) rfl rfl ?_)
  refine r_cons (s_lss false rfl rfl (dfalse (by omega)) rfl ?_)
  refine r_cons (s_move (.bool false) rfl rfl ?_)
  refine r_cons (r_take rfl rfl ?_)
  refine s_move (.int .i64 y) rfl rfl ?_
  refine r_cons (r_take rfl rfl ?_)
  refine s_gtr false rfl rfl (dfalse (by omega)) rfl ?_
  refine r_cons (s_pick_f (.bool false) rfl rfl rfl ?_)
  refine r_nil ?_
  refine g_false rfl ?_
  refine g_skip ?_
  refine g_inBlock ?_
  refine g_region ?_
  refine r_cons (s_add 2 rfl rfl (wi64 (by omega)) rfl ?_)
  refine r_cons (s_move (.int .i64 2) rfl rfl ?_)
  refine r_nil ?_
  refine g_inLoop ?_
  refine g_seq ?_
  refine g_region ?_
  refine r_cons (s_lss true rfl rfl (dtrue (by decide)) rfl ?_)
  refine r_nil ?_
  refine g_seq ?_
  refine g_true rfl ?_
  refine g_skip ?_
  refine g_seq ?_
  refine g_block ?_
  refine g_seq ?_
  refine g_region ?_
  refine r_cons (s_indexAddr g 2 1 2 rfl rfl el_174 (by omega) rfl rfl ?_)
  refine r_cons (s_load (.int .i64 z) ag_2 rfl (H0.blk_at (i := 0) rfl) rfl rfl ?_)
  refine r_cons (s_assign (.int .i64 z) rfl rfl ?_)
  refine r_nil ?_
  refine g_seq ?_
  refine g_region ?_
  refine r_cons (s_move (.int .i64 z) rfl rfl ?_)
  refine r_cons (s_lss false rfl rfl (dfalse (by omega)) rfl ?_)
  refine r_cons (s_move (.bool false) rfl rfl ?_)
  refine r_cons (r_take rfl rfl ?_)
  refine s_move (.int .i64 z) rfl rfl ?_
  refine r_cons (r_take rfl rfl ?_)
  refine s_gtr false rfl rfl (dfalse (by omega)) rfl ?_
  refine r_cons (s_pick_f (.bool false) rfl rfl rfl ?_)
  refine r_nil ?_
  refine g_false rfl ?_
  refine g_skip ?_
  refine g_inBlock ?_
  refine g_region ?_
  refine r_cons (s_add 3 rfl rfl (wi64 (by omega)) rfl ?_)
  refine r_cons (s_move (.int .i64 3) rfl rfl ?_)
  refine r_nil ?_
  refine g_inLoop ?_
  refine g_seq ?_
  refine g_region ?_
  refine r_cons (s_lss false rfl rfl (dfalse (by decide)) rfl ?_)
  refine r_nil ?_
  refine g_seq ?_
  refine g_false rfl ?_
  refine g_exit (by rfl) ?_
  refine g_seq ?_
  refine g_region ?_
  refine r_cons (s_assign (.bool true) rfl rfl ?_)
  refine r_nil ?_
  refine g_ret' [.bool true] Try.func68 Try.results68 ⟨rfl, trivial⟩ ?_
  have H1 : St W w (blk g (.cells #[.int .i64 x, .int .i64 y, .int .i64 z] 2 (0, 0)) :: F) := H0
  exact ⟨rfl, H1⟩
set_option maxHeartbeats 4000000 in
set_option maxRecDepth 100000 in
theorem CheckItem_mark {W w : World} {F : List Atom} (o n e t : Int) (ho : 0 ≤ o ∧ o ≤ 1099511627776) (hn : 0 ≤ n ∧ n ≤ 1099511627776) (he : 0 ≤ e ∧ e ≤ 1099511627776) (ht : 0 ≤ t ∧ t ≤ 1099511627777) (H : St W w F) : Calls Try.prog 63 #[.agg #[.int .i64 o, .int .i64 n, .int .i64 e, .int .i64 2, .slice none 0 0, .int .i64 t]] w (Ret fun v w' => v = .int .i64 0 ∧ St W w' F) := by
  refine calls_of_go (n := 55) Try.func63 rfl Try.ntmps63 rfl ?_
  refine g_seq ?_
  refine g_region ?_
  refine r_cons (s_box H 32 (.agg #[.int .i64 o, .int .i64 n, .int .i64 e, .int .i64 2, .slice none 0 0, .int .i64 t]) rfl (cs := #[.int .i64 o, .int .i64 n, .int .i64 e, .int .i64 2, .slice none 0 0, .int .i64 t]) rfl rfl ?_); intro bk1 w2 H3
  refine r_cons (s_assign (.int .i64 0) rfl rfl ?_)
  refine r_nil ?_
  refine g_seq ?_
  refine g_region ?_
  refine r_cons (s_fieldAddr 32 0 0 0 3 rfl fi_32_0 rfl rfl ?_)
  refine r_cons (s_load (.int .i64 o) ag_3 rfl (H3.blk_at (i := 0) rfl) rfl rfl ?_)
  refine r_cons (s_fieldAddr 32 1 1 1 3 rfl fi_32_1 rfl rfl ?_)
  refine r_cons (s_load (.int .i64 n) ag_3 rfl (H3.blk_at (i := 0) rfl) rfl rfl ?_)
  refine r_cons (s_fieldAddr 32 2 2 2 2 rfl fi_32_2 rfl rfl ?_)
  refine r_cons (s_load (.int .i64 e) ag_2 rfl (H3.blk_at (i := 0) rfl) rfl rfl ?_)
  refine r_cons (s_buildSlice H3 1 3 (cs := #[.int .i64 o, .int .i64 n, .int .i64 e]) #[.int .i64 0] el_174 ze_2 (by decide) (by decide) (by kernel_rfl) rfl ?_); intro bk4 w5 H6
  refine r_cons (s_call [.slice (some ⟨bk4, 0, none⟩) 3 3] pl_68 rfl rfl (time3 bk4 o n e (by omega) (by omega) (by omega) H6) ?_)
  rintro _ w7 ⟨rfl, H8⟩
  refine r_cons (s_assign (.bool true) rfl rfl ?_)
  refine r_nil ?_
  refine g_seq ?_
  refine g_seq ?_
  refine g_region ?_
  refine r_cons (s_fieldAddr 32 3 3 3 3 rfl fi_32_3 rfl rfl ?_)
  refine r_cons (s_load (.int .i64 2) ag_3 rfl (H8.blk_at (i := 1) rfl) rfl rfl ?_)
  refine r_nil ?_
  refine g_block ?_
  refine g_seq ?_
  refine g_region ?_
  refine r_cons (s_eql false rfl rfl (dfalse (by decide)) rfl ?_)
  refine r_cons (s_assign (.bool false) rfl rfl ?_)
  refine r_nil ?_
  refine g_false rfl ?_
  refine g_seq ?_
  refine g_region ?_
  refine r_cons (s_eql true rfl rfl (dtrue (by decide)) rfl ?_)
  refine r_cons (s_assign (.bool true) rfl rfl ?_)
  refine r_nil ?_
  refine g_true rfl ?_
  refine g_region ?_
  refine r_cons (s_move (.bool true) rfl rfl ?_)
  refine r_cons (s_move (.bool true) rfl rfl ?_)
  refine r_cons (r_take rfl rfl ?_)
  refine s_fieldAddr 32 5 5 5 2 rfl fi_32_5 rfl rfl ?_
  refine r_cons (r_take rfl rfl ?_)
  refine s_load (.int .i64 t) ag_2 rfl (H8.blk_at (i := 1) rfl) rfl rfl ?_
  refine r_cons (r_take rfl rfl ?_)
  refine s_geq true rfl rfl (dtrue (by omega)) rfl ?_
  refine r_cons (s_pick_t (.bool true) rfl rfl rfl ?_)
  refine r_cons (s_move (.bool true) rfl rfl ?_)
  refine r_cons (r_take rfl rfl ?_)
  refine s_fieldAddr 32 5 5 5 2 rfl fi_32_5 rfl rfl ?_
  refine r_cons (r_take rfl rfl ?_)
  refine s_load (.int .i64 t) ag_2 rfl (H8.blk_at (i := 1) rfl) rfl rfl ?_
  refine r_cons (r_take rfl rfl ?_)
  refine s_leq true rfl rfl (dtrue (by omega)) rfl ?_
  refine r_cons (s_pick_t (.bool true) rfl rfl rfl ?_)
  refine r_cons (s_assign (.bool true) rfl rfl ?_)
  refine r_nil ?_
  refine g_inBlock ?_
  refine g_seq ?_
  refine g_seq ?_
  refine g_region ?_
  refine r_cons (s_move (.bool true) rfl rfl ?_)
  refine r_cons (s_not true rfl false rfl rfl ?_)
  refine r_cons (s_move (.bool false) rfl rfl ?_)
  refine r_cons (r_take rfl rfl ?_)
  refine s_fieldAddr 32 4 4 4 30 rfl fi_32_4 rfl rfl ?_
  refine r_cons (r_take rfl rfl ?_)
  refine s_fieldAddr 30 0 0 4 28 rfl fi_30_0 rfl rfl ?_
  refine r_cons (r_take rfl rfl ?_)
  refine s_load (.slice none 0 0) ag_28 rfl (H8.blk_at (i := 1) rfl) rfl rfl ?_
  refine r_cons (r_take rfl rfl ?_)
  refine s_len 0 rfl ⟨_, un_28⟩ rfl ?_
  refine r_cons (r_take rfl rfl ?_)
  refine s_gtr false rfl rfl (dfalse (by decide)) rfl ?_
  refine r_cons (s_pick_f (.bool false) rfl rfl rfl ?_)
  refine r_nil ?_
  refine g_false rfl ?_
  refine g_skip ?_
  refine g_seq ?_
  refine g_region ?_
  refine r_cons (s_assign (.int .i64 0) rfl rfl ?_)
  refine r_nil ?_
  refine g_ret' [.int .i64 0] Try.func63 Try.results63 ⟨rfl, trivial⟩ ?_
  have H9 : St W w7 F := ((H8.drop 0 rfl).drop 0 rfl)
  exact ⟨rfl, H9⟩
set_option maxHeartbeats 4000000 in
set_option maxRecDepth 100000 in
theorem CheckItem_end {W w : World} {F : List Atom} (o n e : Int) (ho : 0 ≤ o ∧ o ≤ 1099511627776) (hn : 0 ≤ n ∧ n ≤ 1099511627776) (he : 0 ≤ e ∧ e ≤ 1099511627776) (H : St W w F) : Calls Try.prog 63 #[.agg #[.int .i64 o, .int .i64 n, .int .i64 e, .int .i64 3, .slice none 0 0, .int .i64 0]] w (Ret fun v w' => v = .int .i64 0 ∧ St W w' F) := by
  refine calls_of_go (n := 55) Try.func63 rfl Try.ntmps63 rfl ?_
  refine g_seq ?_
  refine g_region ?_
  refine r_cons (s_box H 32 (.agg #[.int .i64 o, .int .i64 n, .int .i64 e, .int .i64 3, .slice none 0 0, .int .i64 0]) rfl (cs := #[.int .i64 o, .int .i64 n, .int .i64 e, .int .i64 3, .slice none 0 0, .int .i64 0]) rfl rfl ?_); intro bk1 w2 H3
  refine r_cons (s_assign (.int .i64 0) rfl rfl ?_)
  refine r_nil ?_
  refine g_seq ?_
  refine g_region ?_
  refine r_cons (s_fieldAddr 32 0 0 0 3 rfl fi_32_0 rfl rfl ?_)
  refine r_cons (s_load (.int .i64 o) ag_3 rfl (H3.blk_at (i := 0) rfl) rfl rfl ?_)
  refine r_cons (s_fieldAddr 32 1 1 1 3 rfl fi_32_1 rfl rfl ?_)
  refine r_cons (s_load (.int .i64 n) ag_3 rfl (H3.blk_at (i := 0) rfl) rfl rfl ?_)
  refine r_cons (s_fieldAddr 32 2 2 2 2 rfl fi_32_2 rfl rfl ?_)
  refine r_cons (s_load (.int .i64 e) ag_2 rfl (H3.blk_at (i := 0) rfl) rfl rfl ?_)
  refine r_cons (s_buildSlice H3 1 3 (cs := #[.int .i64 o, .int .i64 n, .int .i64 e]) #[.int .i64 0] el_174 ze_2 (by decide) (by decide) (by kernel_rfl) rfl ?_); intro bk4 w5 H6
  refine r_cons (s_call [.slice (some ⟨bk4, 0, none⟩) 3 3] pl_68 rfl rfl (time3 bk4 o n e (by omega) (by omega) (by omega) H6) ?_)
  rintro _ w7 ⟨rfl, H8⟩
  refine r_cons (s_assign (.bool true) rfl rfl ?_)
  refine r_nil ?_
  refine g_seq ?_
  refine g_seq ?_
  refine g_region ?_
  refine r_cons (s_fieldAddr 32 3 3 3 3 rfl fi_32_3 rfl rfl ?_)
  refine r_cons (s_load (.int .i64 3) ag_3 rfl (H8.blk_at (i := 1) rfl) rfl rfl ?_)
  refine r_nil ?_
  refine g_block ?_
  refine g_seq ?_
  refine g_region ?_
  refine r_cons (s_eql false rfl rfl (dfalse (by decide)) rfl ?_)
  refine r_cons (s_assign (.bool false) rfl rfl ?_)
  refine r_nil ?_
  refine g_false rfl ?_
  refine g_seq ?_
  refine g_region ?_
  refine r_cons (s_eql false rfl rfl (dfalse (by decide)) rfl ?_)
  refine r_cons (s_assign (.bool false) rfl rfl ?_)
  refine r_nil ?_
  refine g_false rfl ?_
  refine g_seq ?_
  refine g_region ?_
  refine r_cons (s_eql true rfl rfl (dtrue (by decide)) rfl ?_)
  refine r_cons (s_assign (.bool true) rfl rfl ?_)
  refine r_nil ?_
  refine g_true rfl ?_
  refine g_region ?_
  refine r_cons (s_move (.bool true) rfl rfl ?_)
  refine r_cons (s_move (.bool true) rfl rfl ?_)
  refine r_cons (r_take rfl rfl ?_)
  refine s_fieldAddr 32 5 5 5 2 rfl fi_32_5 rfl rfl ?_
  refine r_cons (r_take rfl rfl ?_)
  refine s_load (.int .i64 0) ag_2 rfl (H8.blk_at (i := 1) rfl) rfl rfl ?_
  refine r_cons (r_take rfl rfl ?_)
  refine s_eql true rfl rfl (dtrue (by decide)) rfl ?_
  refine r_cons (s_pick_t (.bool true) rfl rfl rfl ?_)
  refine r_cons (s_assign (.bool true) rfl rfl ?_)
  refine r_nil ?_
  refine g_inBlock ?_
  refine g_seq ?_
  refine g_seq ?_
  refine g_region ?_
  refine r_cons (s_move (.bool true) rfl rfl ?_)
  refine r_cons (s_not true rfl false rfl rfl ?_)
  refine r_cons (s_move (.bool false) rfl rfl ?_)
  refine r_cons (r_take rfl rfl ?_)
  refine s_fieldAddr 32 4 4 4 30 rfl fi_32_4 rfl rfl ?_
  refine r_cons (r_take rfl rfl ?_)
  refine s_fieldAddr 30 0 0 4 28 rfl fi_30_0 rfl rfl ?_
  refine r_cons (r_take rfl rfl ?_)
  refine s_load (.slice none 0 0) ag_28 rfl (H8.blk_at (i := 1) rfl) rfl rfl ?_
  refine r_cons (r_take rfl rfl ?_)
  refine s_len 0 rfl ⟨_, un_28⟩ rfl ?_
  refine r_cons (r_take rfl rfl ?_)
  refine s_gtr false rfl rfl (dfalse (by decide)) rfl ?_
  refine r_cons (s_pick_f (.bool false) rfl rfl rfl ?_)
  refine r_nil ?_
  refine g_false rfl ?_
  refine g_skip ?_
  refine g_seq ?_
  refine g_region ?_
  refine r_cons (s_assign (.int .i64 0) rfl rfl ?_)
  refine r_nil ?_
  refine g_ret' [.int .i64 0] Try.func63 Try.results63 ⟨rfl, trivial⟩ ?_
  have H9 : St W w7 F := ((H8.drop 0 rfl).drop 0 rfl)
  exact ⟨rfl, H9⟩
set_option maxHeartbeats 4000000 in
set_option maxRecDepth 100000 in
theorem clone_nobounds {W w : World} {F : List Atom}  (H : St W w F) : Calls Try.prog 105 #[.agg #[.slice none 0 0]] w (Ret fun v w' => v = .agg #[.slice none 0 0] ∧ St W w' F) := by
  refine calls_of_go (n := 25) Try.func105 rfl Try.ntmps105 rfl ?_
  refine g_seq ?_
  refine g_region ?_
  refine r_cons (s_box H 30 (.agg #[.slice none 0 0]) rfl (cs := #[.slice none 0 0]) rfl rfl ?_); intro bk1 w2 H3
  refine r_cons (s_alloc H3 30 ze_30 rfl ?_); intro bk4 w5 H6
  refine r_nil ?_
  refine g_seq ?_
  refine g_region ?_
  refine r_cons (s_assign (.slice none 0 0) rfl rfl ?_)
  refine r_nil ?_
  refine g_seq ?_
  refine g_seq ?_
  refine g_region ?_
  refine r_cons (s_fieldAddr 30 0 0 0 28 rfl fi_30_0 rfl rfl ?_)
  refine r_cons (s_load (.slice none 0 0) ag_28 rfl (H6.blk_at (i := 1) rfl) rfl rfl ?_)
  refine r_cons (s_len 0 rfl ⟨_, un_28⟩ rfl ?_)
  refine r_cons (s_move (.int .i64 0) rfl rfl ?_)
  refine r_nil ?_
  refine g_block ?_
  refine g_loop ?_
  refine g_seq ?_
  refine g_region ?_
  refine r_cons (s_lss false rfl rfl (dfalse (by decide)) rfl ?_)
  refine r_nil ?_
  refine g_seq ?_
  refine g_false rfl ?_
  refine g_exit (by rfl) ?_
  refine g_seq ?_
  refine g_region ?_
  refine r_cons (s_move (.slice none 0 0) rfl rfl ?_)
  refine r_cons (s_build (cs := #[.slice none 0 0]) (by kernel_rfl) rfl ?_)
  refine r_cons (s_storeAgg H6 0 #[.slice none 0 0] 1 rfl rfl rfl sz_30 rfl (by simp [Value.oneCell']) (Nat.le_of_ble_eq_true rfl) (fun o h1 h2 => by first | (simp; done) | (simp; omega)) (cs' := #[.slice none 0 0]) rfl ?_); intro w7 H8
  refine r_nil ?_
  refine g_ret' [.agg #[.slice none 0 0]] Try.func105 Try.results105 ⟨(res_cellN rfl ag_30 (H8.blk_at (i := 0) rfl) (Nat.le_of_ble_eq_true rfl) rfl), trivial⟩ ?_
  have H9 : St W w7 F := ((H8.drop 0 rfl).drop 0 rfl)
  exact ⟨rfl, H9⟩
set_option maxHeartbeats 4000000 in
set_option maxRecDepth 100000 in
theorem own_plain {W w : World} {F : List Atom} (o n e k t : Int) (H : St W w F) : Calls Try.prog 64 #[.agg #[.int .i64 o, .int .i64 n, .int .i64 e, .int .i64 k, .slice none 0 0, .int .i64 t]] w (Ret fun v w' => v = .agg #[.int .i64 o, .int .i64 n, .int .i64 e, .int .i64 k, .slice none 0 0, .int .i64 t] ∧ St W w' F) := by
  refine calls_of_go (n := 8) Try.func64 rfl Try.ntmps64 rfl ?_
  refine g_seq ?_
  refine g_region ?_
  refine r_cons (s_box H 32 (.agg #[.int .i64 o, .int .i64 n, .int .i64 e, .int .i64 k, .slice none 0 0, .int .i64 t]) rfl (cs := #[.int .i64 o, .int .i64 n, .int .i64 e, .int .i64 k, .slice none 0 0, .int .i64 t]) rfl rfl ?_); intro bk1 w2 H3
  refine r_cons (s_alloc H3 32 ze_32 rfl ?_); intro bk4 w5 H6
  refine r_nil ?_
  refine g_seq ?_
  refine g_region ?_
  refine r_cons (s_fieldAddr 32 4 4 4 30 rfl fi_32_4 rfl rfl ?_)
  refine r_cons (s_loadAgg [.slice none 0 0] 1 ag_30 rfl (H6.blk_at (i := 1) rfl) (Nat.le_of_ble_eq_true rfl) rfl rfl ?_)
  refine r_cons (s_call [.agg #[.slice none 0 0]] pl_105 rfl rfl (clone_nobounds H6) ?_)
  rintro _ w7 ⟨rfl, H8⟩
  refine r_cons (s_fieldAddr 32 4 4 4 30 rfl fi_32_4 rfl rfl ?_)
  refine r_cons (s_storeAgg H8 1 #[.slice none 0 0] 1 rfl rfl rfl sz_30 rfl (by simp [Value.oneCell']) (Nat.le_of_ble_eq_true rfl) (fun o h1 h2 => by first | (simp; done) | (simp; omega)) (cs' := #[.int .i64 o, .int .i64 n, .int .i64 e, .int .i64 k, .slice none 0 0, .int .i64 t]) rfl ?_); intro w9 H10
  refine r_nil ?_
  refine g_seq ?_
  refine g_region ?_
  refine r_cons (s_loadAgg [.int .i64 o, .int .i64 n, .int .i64 e, .int .i64 k, .slice none 0 0, .int .i64 t] 6 ag_32 rfl (H10.blk_at (i := 1) rfl) (Nat.le_of_ble_eq_true rfl) rfl rfl ?_)
  refine r_cons (s_storeAgg H10 0 #[.int .i64 o, .int .i64 n, .int .i64 e, .int .i64 k, .slice none 0 0, .int .i64 t] 6 rfl rfl rfl sz_32 rfl (by simp [Value.oneCell']) (Nat.le_of_ble_eq_true rfl) (fun o h1 h2 => by first | (simp; done) | (simp; omega)) (cs' := #[.int .i64 o, .int .i64 n, .int .i64 e, .int .i64 k, .slice none 0 0, .int .i64 t]) rfl ?_); intro w11 H12
  refine r_nil ?_
  refine g_ret' [.agg #[.int .i64 o, .int .i64 n, .int .i64 e, .int .i64 k, .slice none 0 0, .int .i64 t]] Try.func64 Try.results64 ⟨(res_cellN rfl ag_32 (H12.blk_at (i := 0) rfl) (Nat.le_of_ble_eq_true rfl) rfl), trivial⟩ ?_
  have H13 : St W w11 F := ((H12.drop 0 rfl).drop 0 rfl)
  exact ⟨rfl, H13⟩
set_option maxHeartbeats 4000000 in
set_option maxRecDepth 100000 in
theorem NewGate_ {W w : World} {F : List Atom}  (H : St W w F) : Calls Try.prog 9 #[] w (Ret fun v w' => ∃ g, v = .pointer (some ⟨g, 0, none⟩) ∧ St W w' (blk g (.cells #[.bool true, .int .i64 0, .slice none 0 0] 80 (0, 0)) :: F)) := by
  refine calls_of_go (n := 3) Try.func9 rfl Try.ntmps9 rfl ?_
  refine g_seq ?_
  refine g_region ?_
  refine r_cons (s_assign (.pointer none) rfl rfl ?_)
  refine r_nil ?_
  refine g_seq ?_
  refine g_region ?_
  refine r_cons (s_build (cs := #[.bool true, .int .i64 0, .slice none 0 0]) (by kernel_rfl) rfl ?_)
  refine r_cons (s_box H 80 (.agg #[.bool true, .int .i64 0, .slice none 0 0]) rfl (cs := #[.bool true, .int .i64 0, .slice none 0 0]) rfl rfl ?_); intro bk1 w2 H3
  refine r_cons (s_assign (.pointer (some ⟨bk1, 0, none⟩)) rfl rfl ?_)
  refine r_nil ?_
  refine g_ret' [.pointer (some ⟨bk1, 0, none⟩)] Try.func9 Try.results9 ⟨rfl, trivial⟩ ?_
  have H4 : St W w2 (blk bk1 (.cells #[.bool true, .int .i64 0, .slice none 0 0] 80 (0, 0)) :: F) := H3
  exact ⟨bk1, rfl, H4⟩
set_option maxHeartbeats 4000000 in
set_option maxRecDepth 100000 in
theorem Gate_none {W w : World} {F : List Atom} (g : Nat) (e : Int) (sv : Value) {i : Nat} (hi : F[i]? = some (blk g (.cells #[.bool true, .int .i64 e, sv] 80 (0, 0)))) (H : St W w F) : Calls Try.prog 62 #[.pointer (some ⟨g, 0, none⟩)] w (Ret fun v w' => v = .bool false ∧ St W w' F) := by
  have H0 := H.front hi
  refine calls_of_go (n := 12) Try.func62 rfl Try.ntmps62 rfl ?_
  refine g_seq ?_
  refine g_region ?_
  refine r_cons (s_assign (.bool false) rfl rfl ?_)
  refine r_nil ?_
  refine g_seq ?_
  refine g_region ?_
  refine r_cons (s_move (.pointer (some ⟨g, 0, none⟩)) rfl rfl ?_)
  refine r_cons (s_peql false un_24 rfl rfl rfl rfl ?_)
  refine r_cons (s_move (.bool false) rfl rfl ?_)
  refine r_cons (r_take rfl rfl ?_)
  refine s_move (.pointer (some ⟨g, 0, none⟩)) rfl rfl ?_
  refine r_cons (r_take rfl rfl ?_)
  refine s_nilCheck (.pointer (some ⟨g, 0, none⟩)) rfl ⟨_, rfl⟩ rfl ?_
  refine r_cons (r_take rfl rfl ?_)
  refine s_fieldAddr 80 0 0 0 4 rfl fi_80_0 rfl rfl ?_
  refine r_cons (r_take rfl rfl ?_)
  refine s_load (.bool true) ag_4 rfl (H0.blk_at (i := 0) rfl) rfl rfl ?_
  refine r_cons (r_take rfl rfl ?_)
  refine s_not true rfl false rfl rfl ?_
  refine r_cons (s_pick_f (.bool false) rfl rfl rfl ?_)
  refine r_cons (s_assign (.bool false) rfl rfl ?_)
  refine r_nil ?_
  refine g_ret' [.bool false] Try.func62 Try.results62 ⟨rfl, trivial⟩ ?_
  have H1 : St W w (blk g (.cells #[.bool true, .int .i64 e, sv] 80 (0, 0)) :: (F.set i emp)) := H0
  exact ⟨rfl, St.back_same hi H1⟩
set_option maxHeartbeats 4000000 in
set_option maxRecDepth 100000 in
theorem Gate_Epoch {W w : World} {F : List Atom} (g : Nat) (e : Int) (sv : Value) {i : Nat} (hi : F[i]? = some (blk g (.cells #[.bool true, .int .i64 e, sv] 80 (0, 0)))) (H : St W w F) : Calls Try.prog 16 #[.pointer (some ⟨g, 0, none⟩)] w (Ret fun v w' => v = .int .i64 e ∧ St W w' F) := by
  have H0 := H.front hi
  refine calls_of_go (n := 9) Try.func16 rfl Try.ntmps16 rfl ?_
  refine g_seq ?_
  refine g_region ?_
  refine r_cons (s_assign (.int .i64 0) rfl rfl ?_)
  refine r_nil ?_
  refine g_seq ?_
  refine g_seq ?_
  refine g_region ?_
  refine r_cons (s_move (.pointer (some ⟨g, 0, none⟩)) rfl rfl ?_)
  refine r_cons (s_call [.pointer (some ⟨g, 0, none⟩)] pl_62 rfl rfl (Gate_none g (e : Int) sv (i := 0) rfl H0) ?_)
  rintro _ w1 ⟨rfl, H2⟩
  refine r_nil ?_
  refine g_false rfl ?_
  refine g_skip ?_
  refine g_seq ?_
  refine g_region ?_
  refine r_cons (s_move (.pointer (some ⟨g, 0, none⟩)) rfl rfl ?_)
  refine r_cons (s_nilCheck (.pointer (some ⟨g, 0, none⟩)) rfl ⟨_, rfl⟩ rfl ?_)
  refine r_cons (s_fieldAddr 80 1 1 1 2 rfl fi_80_1 rfl rfl ?_)
  refine r_cons (s_load (.int .i64 e) ag_2 rfl (H2.blk_at (i := 0) rfl) rfl rfl ?_)
  refine r_cons (s_assign (.int .i64 e) rfl rfl ?_)
  refine r_nil ?_
  refine g_ret' [.int .i64 e] Try.func16 Try.results16 ⟨rfl, trivial⟩ ?_
  have H3 : St W w1 (blk g (.cells #[.bool true, .int .i64 e, sv] 80 (0, 0)) :: (F.set i emp)) := H2
  exact ⟨rfl, St.back_same hi H3⟩
set_option maxHeartbeats 4000000 in
set_option maxRecDepth 100000 in
theorem Take_old {W w : World} {F : List Atom} (g : Nat) (a : Int) (sv : Value) (o n e t : Int) (ho : 0 ≤ o ∧ o ≤ 1099511627776) (hn : 0 ≤ n ∧ n ≤ 1099511627776) (he : 0 ≤ e ∧ e ≤ 1099511627776) (ht : 0 ≤ t ∧ t ≤ 1099511627777) (hlt : e < a) (H : St W w (blk g (.cells #[.bool true, .int .i64 a, sv] 80 (0, 0)) :: F)) : Calls Try.prog 14 #[.pointer (some ⟨g, 0, none⟩), .agg #[.int .i64 o, .int .i64 n, .int .i64 e, .int .i64 2, .slice none 0 0, .int .i64 t]] w (Ret fun v w' => v = .tuple #[.slice none 0 0, .int .i64 240] ∧ St W w' (blk g (.cells #[.bool true, .int .i64 a, sv] 80 (0, 0)) :: F)) := by
  refine calls_of_go (n := 74) Try.func14 rfl Try.ntmps14 rfl ?_
  refine g_seq ?_
  refine g_region ?_
  refine r_cons (s_box H 32 (.agg #[.int .i64 o, .int .i64 n, .int .i64 e, .int .i64 2, .slice none 0 0, .int .i64 t]) rfl (cs := #[.int .i64 o, .int .i64 n, .int .i64 e, .int .i64 2, .slice none 0 0, .int .i64 t]) rfl rfl ?_); intro bk1 w2 H3
  refine r_cons (s_assign (.slice none 0 0) rfl rfl ?_)
  refine r_cons (s_assign (.int .i64 0) rfl rfl ?_)
  refine r_nil ?_
  refine g_seq ?_
  refine g_seq ?_
  refine g_region ?_
  refine r_cons (s_move (.pointer (some ⟨g, 0, none⟩)) rfl rfl ?_)
  refine r_cons (s_call [.pointer (some ⟨g, 0, none⟩)] pl_62 rfl rfl (Gate_none g (a : Int) sv (i := 1) rfl H3) ?_)
  rintro _ w4 ⟨rfl, H5⟩
  refine r_nil ?_
  refine g_false rfl ?_
  refine g_skip ?_
  refine g_seq ?_
  refine g_seq ?_
  refine g_region ?_
  refine r_cons (s_loadAgg [.int .i64 o, .int .i64 n, .int .i64 e, .int .i64 2, .slice none 0 0, .int .i64 t] 6 ag_32 rfl (H5.blk_at (i := 0) rfl) (Nat.le_of_ble_eq_true rfl) rfl rfl ?_)
  refine r_cons (s_call [.agg #[.int .i64 o, .int .i64 n, .int .i64 e, .int .i64 2, .slice none 0 0, .int .i64 t]] pl_63 rfl rfl (CheckItem_mark (o : Int) (n : Int) (e : Int) (t : Int) (by omega) (by omega) (by omega) (by omega) H5) ?_)
  rintro _ w6 ⟨rfl, H7⟩
  refine r_cons (s_assign (.int .i64 0) rfl rfl ?_)
  refine r_nil ?_
  refine g_seq ?_
  refine g_region ?_
  refine r_cons (s_move (.int .i64 0) rfl rfl ?_)
  refine r_cons (s_neq false rfl rfl (ntrue (by decide)) rfl ?_)
  refine r_nil ?_
  refine g_false rfl ?_
  refine g_skip ?_
  refine g_seq ?_
  refine g_block ?_
  refine g_seq ?_
  refine g_quiet (fun w' => St W w' (blk bk1 (.cells #[.int .i64 o, .int .i64 n, .int .i64 e, .int .i64 2, .slice none 0 0, .int .i64 t] 32 (0, 0)) :: blk g (.cells #[.bool true, .int .i64 a, sv] 80 (0, 0)) :: F)) mixed (by kernel_rfl) H7.drew ?_
  refine q_cons (q_val rfl rfl rfl (by intro w hw; exact x_fieldAddr 32 2 2 2 2 rfl fi_32_2 rfl w) ?_)
  refine q_cons (q_val rfl rfl rfl (by intro w hw; exact x_load (.int .i64 e) ag_2 rfl (hw.blk_at (i := 0) rfl) rfl) ?_)
  refine q_cons (q_val rfl rfl rfl (by intro w hw; exact x_move (.pointer (some ⟨g, 0, none⟩)) rfl w) ?_)
  refine q_cons (q_val rfl rfl rfl (by intro w hw; exact x_nilCheck (.pointer (some ⟨g, 0, none⟩)) rfl ⟨_, rfl⟩ w) ?_)
  refine q_cons (q_val rfl rfl rfl (by intro w hw; exact x_fieldAddr 80 1 1 1 2 rfl fi_80_1 rfl w) ?_)
  refine q_cons (q_val rfl rfl rfl (by intro w hw; exact x_load (.int .i64 a) ag_2 rfl (hw.blk_at (i := 1) rfl) rfl) ?_)
  refine q_cons (q_val rfl rfl rfl (by intro w hw; exact x_lss true rfl rfl (dtrue hlt) w) ?_)
  refine q_cons (q_val rfl rfl rfl (by intro w hw; exact x_assign (.bool true) rfl w) ?_)
  refine q_nil ?_
  intro w8 H9
  refine g_true rfl ?_
  refine g_seq ?_
  refine g_region ?_
  refine r_cons (s_assign (.slice none 0 0) rfl rfl ?_)
  refine r_cons (s_assign (.int .i64 240) rfl rfl ?_)
  refine r_nil ?_
  refine g_ret' [.slice none 0 0, .int .i64 240] Try.func14 Try.results14 ⟨rfl, rfl, trivial⟩ ?_
  have H10 : St W w8 (blk g (.cells #[.bool true, .int .i64 a, sv] 80 (0, 0)) :: F) := ((H9.move 1 rfl).drop 1 rfl)
  exact ⟨rfl, H10⟩
set_option maxHeartbeats 4000000 in
set_option maxRecDepth 100000 in
theorem Take_wait {W w : World} {F : List Atom} (g : Nat) (a : Int) (o n e t : Int) (ho : 0 ≤ o ∧ o ≤ 1099511627776) (hn : 0 ≤ n ∧ n ≤ 1099511627776) (he : 0 ≤ e ∧ e ≤ 1099511627776) (ht : 0 ≤ t ∧ t ≤ 1099511627777) (hlt : a < e) (H : St W w (blk g (.cells #[.bool true, .int .i64 a, .slice none 0 0] 80 (0, 0)) :: F)) : Calls Try.prog 14 #[.pointer (some ⟨g, 0, none⟩), .agg #[.int .i64 o, .int .i64 n, .int .i64 e, .int .i64 2, .slice none 0 0, .int .i64 t]] w (Ret fun v w' => v = .tuple #[.slice none 0 0, .int .i64 0] ∧ ∃ p c, St W w' (blk g (.cells #[.bool true, .int .i64 a, .slice p 1 c] 80 (0, 0)) :: Row 32 6 (.slice p 1 c) 1 [.int .i64 o, .int .i64 n, .int .i64 e, .int .i64 2, .slice none 0 0, .int .i64 t] :: F)) := by
  refine calls_of_go (n := 74) Try.func14 rfl Try.ntmps14 rfl ?_
  refine g_seq ?_
  refine g_region ?_
  refine r_cons (s_box H 32 (.agg #[.int .i64 o, .int .i64 n, .int .i64 e, .int .i64 2, .slice none 0 0, .int .i64 t]) rfl (cs := #[.int .i64 o, .int .i64 n, .int .i64 e, .int .i64 2, .slice none 0 0, .int .i64 t]) rfl rfl ?_); intro bk1 w2 H3
  refine r_cons (s_assign (.slice none 0 0) rfl rfl ?_)
  refine r_cons (s_assign (.int .i64 0) rfl rfl ?_)
  refine r_nil ?_
  refine g_seq ?_
  refine g_seq ?_
  refine g_region ?_
  refine r_cons (s_move (.pointer (some ⟨g, 0, none⟩)) rfl rfl ?_)
  refine r_cons (s_call [.pointer (some ⟨g, 0, none⟩)] pl_62 rfl rfl (Gate_none g (a : Int) (.slice none 0 0) (i := 1) rfl H3) ?_)
  rintro _ w4 ⟨rfl, H5⟩
  refine r_nil ?_
  refine g_false rfl ?_
  refine g_skip ?_
  refine g_seq ?_
  refine g_seq ?_
  refine g_region ?_
  refine r_cons (s_loadAgg [.int .i64 o, .int .i64 n, .int .i64 e, .int .i64 2, .slice none 0 0, .int .i64 t] 6 ag_32 rfl (H5.blk_at (i := 0) rfl) (Nat.le_of_ble_eq_true rfl) rfl rfl ?_)
  refine r_cons (s_call [.agg #[.int .i64 o, .int .i64 n, .int .i64 e, .int .i64 2, .slice none 0 0, .int .i64 t]] pl_63 rfl rfl (CheckItem_mark (o : Int) (n : Int) (e : Int) (t : Int) (by omega) (by omega) (by omega) (by omega) H5) ?_)
  rintro _ w6 ⟨rfl, H7⟩
  refine r_cons (s_assign (.int .i64 0) rfl rfl ?_)
  refine r_nil ?_
  refine g_seq ?_
  refine g_region ?_
  refine r_cons (s_move (.int .i64 0) rfl rfl ?_)
  refine r_cons (s_neq false rfl rfl (ntrue (by decide)) rfl ?_)
  refine r_nil ?_
  refine g_false rfl ?_
  refine g_skip ?_
  refine g_seq ?_
  refine g_block ?_
  refine g_seq ?_
  refine g_quiet (fun w' => St W w' (blk bk1 (.cells #[.int .i64 o, .int .i64 n, .int .i64 e, .int .i64 2, .slice none 0 0, .int .i64 t] 32 (0, 0)) :: blk g (.cells #[.bool true, .int .i64 a, .slice none 0 0] 80 (0, 0)) :: F)) mixed (by kernel_rfl) H7.drew ?_
  refine q_cons (q_val rfl rfl rfl (by intro w hw; exact x_fieldAddr 32 2 2 2 2 rfl fi_32_2 rfl w) ?_)
  refine q_cons (q_val rfl rfl rfl (by intro w hw; exact x_load (.int .i64 e) ag_2 rfl (hw.blk_at (i := 0) rfl) rfl) ?_)
  refine q_cons (q_val rfl rfl rfl (by intro w hw; exact x_move (.pointer (some ⟨g, 0, none⟩)) rfl w) ?_)
  refine q_cons (q_val rfl rfl rfl (by intro w hw; exact x_nilCheck (.pointer (some ⟨g, 0, none⟩)) rfl ⟨_, rfl⟩ w) ?_)
  refine q_cons (q_val rfl rfl rfl (by intro w hw; exact x_fieldAddr 80 1 1 1 2 rfl fi_80_1 rfl w) ?_)
  refine q_cons (q_val rfl rfl rfl (by intro w hw; exact x_load (.int .i64 a) ag_2 rfl (hw.blk_at (i := 1) rfl) rfl) ?_)
  refine q_cons (q_val rfl rfl rfl (by intro w hw; exact x_lss false rfl rfl (dfalse (by omega)) w) ?_)
  refine q_cons (q_val rfl rfl rfl (by intro w hw; exact x_assign (.bool false) rfl w) ?_)
  refine q_nil ?_
  intro w8 H9
  refine g_false rfl ?_
  refine g_seq ?_
  refine g_quiet (fun w' => St W w' (blk bk1 (.cells #[.int .i64 o, .int .i64 n, .int .i64 e, .int .i64 2, .slice none 0 0, .int .i64 t] 32 (0, 0)) :: blk g (.cells #[.bool true, .int .i64 a, .slice none 0 0] 80 (0, 0)) :: F)) mixed (by kernel_rfl) H9.drew ?_
  refine q_cons (q_val rfl rfl rfl (by intro w hw; exact x_fieldAddr 32 2 2 2 2 rfl fi_32_2 rfl w) ?_)
  refine q_cons (q_val rfl rfl rfl (by intro w hw; exact x_load (.int .i64 e) ag_2 rfl (hw.blk_at (i := 0) rfl) rfl) ?_)
  refine q_cons (q_val rfl rfl rfl (by intro w hw; exact x_move (.pointer (some ⟨g, 0, none⟩)) rfl w) ?_)
  refine q_cons (q_val rfl rfl rfl (by intro w hw; exact x_nilCheck (.pointer (some ⟨g, 0, none⟩)) rfl ⟨_, rfl⟩ w) ?_)
  refine q_cons (q_val rfl rfl rfl (by intro w hw; exact x_fieldAddr 80 1 1 1 2 rfl fi_80_1 rfl w) ?_)
  refine q_cons (q_val rfl rfl rfl (by intro w hw; exact x_load (.int .i64 a) ag_2 rfl (hw.blk_at (i := 1) rfl) rfl) ?_)
  refine q_cons (q_val rfl rfl rfl (by intro w hw; exact x_gtr true rfl rfl (dtrue (by omega)) w) ?_)
  refine q_cons (q_val rfl rfl rfl (by intro w hw; exact x_assign (.bool true) rfl w) ?_)
  refine q_nil ?_
  intro w10 H11
  refine g_true rfl ?_
  refine g_seq ?_
  refine g_seq ?_
  refine g_region ?_
  refine r_cons (s_move (.pointer (some ⟨g, 0, none⟩)) rfl rfl ?_)
  refine r_cons (s_nilCheck (.pointer (some ⟨g, 0, none⟩)) rfl ⟨_, rfl⟩ rfl ?_)
  refine r_cons (s_fieldAddr 80 2 2 2 22 rfl fi_80_2 rfl rfl ?_)
  refine r_cons (s_load (.slice none 0 0) ag_22 rfl (H11.blk_at (i := 1) rfl) rfl rfl ?_)
  refine r_cons (s_len 0 rfl ⟨_, un_22⟩ rfl ?_)
  refine r_cons (s_geq false rfl rfl (dfalse (by decide)) rfl ?_)
  refine r_nil ?_
  refine g_false rfl ?_
  refine g_skip ?_
  refine g_seq ?_
  refine g_cut (fun (x_ : Option Addr × Nat × Nat) => match x_ with | (pp22, cc23, bk14) => [(0, .pointer (some ⟨g, 0, none⟩)), (4, .slice none 0 0), (5, .int .i64 0)]) (fun (x_ : Option Addr × Nat × Nat) w => match x_ with | (pp22, cc23, bk14) => St W w (Row 32 6 (.slice pp22 1 cc23) 1 [.int .i64 o, .int .i64 n, .int .i64 e, .int .i64 2, .slice none 0 0, .int .i64 t] :: blk bk14 (.cells #[.int .i64 o, .int .i64 n, .int .i64 e, .int .i64 2, .slice none 0 0, .int .i64 t] 32 (0, 0)) :: blk bk1 (.cells #[.int .i64 o, .int .i64 n, .int .i64 e, .int .i64 2, .slice none 0 0, .int .i64 t] 32 (0, 0)) :: blk g (.cells #[.bool true, .int .i64 a, .slice pp22 1 cc23] 80 (0, 0)) :: F)) ?_ ?_
  · rintro ⟨pp22, cc23, bk14⟩ ρ15 w13 H14
    change Ends _ _ (upds ρ15 [(0, .pointer (some ⟨g, 0, none⟩)), (4, .slice none 0 0), (5, .int .i64 0)]) w13
    refine g_seq ?_
    refine g_region ?_
    refine r_cons (s_assign (.slice none 0 0) rfl rfl ?_)
    refine r_cons (s_assign (.int .i64 0) rfl rfl ?_)
    refine r_nil ?_
    refine g_ret' [.slice none 0 0, .int .i64 0] Try.func14 Try.results14 ⟨rfl, rfl, trivial⟩ ?_
    have H16 : St W w13 (blk g (.cells #[.bool true, .int .i64 a, .slice pp22 1 cc23] 80 (0, 0)) :: Row 32 6 (.slice pp22 1 cc23) 1 [.int .i64 o, .int .i64 n, .int .i64 e, .int .i64 2, .slice none 0 0, .int .i64 t] :: F) := (((H14.move 3 rfl).drop 2 rfl).drop 2 rfl)
    exact ⟨rfl, _, _, H16⟩
  · intro join12
    refine g_any mixed 12 rfl ?_
    intro w17 hw18
    have H19 := H11.drew
    rw [← hw18] at H19
    clear hw18
    refine a_take 0 (listed' := #[true, false, false, false, false, false, false, false, false, false, false, false]) rfl (by kernel_rfl) (by kernel_rfl) (by kernel_rfl) rfl rfl rfl rfl (fun w => x_move (.pointer (some ⟨g, 0, none⟩)) rfl w) ?_
    refine a_take 1 (listed' := #[true, true, false, false, false, false, false, false, false, false, false, false]) rfl (by kernel_rfl) (by kernel_rfl) (by kernel_rfl) rfl rfl rfl rfl (fun w => x_move (.pointer (some ⟨g, 0, none⟩)) rfl w) ?_
    refine a_take 2 (listed' := #[true, true, true, false, false, false, false, false, false, false, false, false]) rfl (by kernel_rfl) (by kernel_rfl) (by kernel_rfl) rfl rfl rfl rfl (fun w => x_nilCheck (.pointer (some ⟨g, 0, none⟩)) rfl ⟨_, rfl⟩ w) ?_
    refine a_take 3 (listed' := #[true, true, true, true, false, false, false, false, false, false, false, false]) rfl (by kernel_rfl) (by kernel_rfl) (by kernel_rfl) rfl rfl rfl rfl (fun w => x_fieldAddr 80 2 2 2 22 rfl fi_80_2 rfl w) ?_
    refine a_all (rs := [4, 5]) (by kernel_rfl) (by simp) ?_
    refine a_cons ⟨_, rfl, ?_⟩ (a_cons ⟨_, rfl, ?_⟩ (fun x hx => absurd hx (by simp)))
    · skip
      refine s_load (.slice none 0 0) ag_22 rfl (H19.blk_at (i := 1) rfl) rfl rfl ?_
      change AnyG _ _ _ _ #[true, true, true, true, true, false, false, false, false, false, false, false] _ _
      refine a_all (rs := [5]) (by kernel_rfl) (by simp) ?_
      refine a_cons ⟨_, rfl, ?_⟩ (fun x hx => absurd hx (by simp))
      refine s_loadAgg [.int .i64 o, .int .i64 n, .int .i64 e, .int .i64 2, .slice none 0 0, .int .i64 t] 6 ag_32 rfl (H19.blk_at (i := 0) rfl) (Nat.le_of_ble_eq_true rfl) rfl rfl ?_
      change AnyG _ _ _ _ #[true, true, true, true, true, true, false, false, false, false, false, false] _ _
      refine a_all (rs := [6]) (by kernel_rfl) (by simp) ?_
      refine a_cons ⟨_, rfl, ?_⟩ (fun x hx => absurd hx (by simp))
      refine s_call [.agg #[.int .i64 o, .int .i64 n, .int .i64 e, .int .i64 2, .slice none 0 0, .int .i64 t]] pl_64 rfl rfl (own_plain (o : Int) (n : Int) (e : Int) (2 : Int) (t : Int) H19) ?_
      rintro _ w20 ⟨rfl, H21⟩
      change AnyG _ _ _ _ #[true, true, true, true, true, true, true, false, false, false, false, false] _ _
      refine a_all (rs := [7]) (by kernel_rfl) (by simp) ?_
      refine a_cons ⟨_, rfl, ?_⟩ (fun x hx => absurd hx (by simp))
      refine s_buildSlice H21 6 1 (cs := #[.int .i64 o, .int .i64 n, .int .i64 e, .int .i64 2, .slice none 0 0, .int .i64 t]) #[.int .i64 0, .int .i64 0, .int .i64 0, .int .i64 0, .slice none 0 0, .int .i64 0] el_22 ze_32 (by decide) (by decide) (by kernel_rfl) rfl ?_; intro bk22 w23 H24
      change AnyG _ _ _ _ #[true, true, true, true, true, true, true, true, false, false, false, false] _ _
      refine a_all (rs := [8]) (by kernel_rfl) (by simp) ?_
      refine a_cons ⟨_, rfl, ?_⟩ (fun x hx => absurd hx (by simp))
      have H25 := Row.nil_intro H24 32 6
      refine s_append H25 0 rfl rfl rfl (rd_blk (H25.blk_at (i := 1) rfl) rfl (Nat.le_of_ble_eq_true rfl) (by simp [Value.oneCell'])) ap_22 (by decide) (by unfold maxLen; omega) (by omega) (n' := 1) (xs' := [.int .i64 o, .int .i64 n, .int .i64 e, .int .i64 2, .slice none 0 0, .int .i64 t]) (by omega) (by first | rfl | simp) rfl ?_; intro vv26 w27 H28 hn29
      obtain ⟨pp30, cc31, rfl⟩ := Row.slice H28 (i := 0) rfl
      change AnyG _ _ _ _ #[true, true, true, true, true, true, true, true, true, false, false, false] _ _
      refine a_take 9 (listed' := #[true, true, true, true, true, true, true, true, true, true, false, false]) rfl (by kernel_rfl) (by kernel_rfl) (by kernel_rfl) rfl rfl rfl rfl (fun w => x_nilCheck (.pointer (some ⟨g, 0, none⟩)) rfl ⟨_, rfl⟩ w) ?_
      refine a_take 10 (listed' := #[true, true, true, true, true, true, true, true, true, true, true, false]) rfl (by kernel_rfl) (by kernel_rfl) (by kernel_rfl) rfl rfl rfl rfl (fun w => x_fieldAddr 80 2 2 2 22 rfl fi_80_2 rfl w) ?_
      refine a_all (rs := [11]) (by kernel_rfl) (by simp) ?_
      refine a_cons ⟨_, rfl, ?_⟩ (fun x hx => absurd hx (by simp))
      refine s_store H28 3 (.slice pp30 1 cc31) rfl rfl rfl sz_22 rfl (Nat.le_of_ble_eq_true rfl) rfl (cs' := #[.bool true, .int .i64 a, .slice pp30 1 cc31]) rfl ?_; intro w32 H33
      change AnyG _ _ _ _ #[true, true, true, true, true, true, true, true, true, true, true, true] _ _
      refine a_done (by kernel_rfl) ?_
      exact join12 (pp30, cc31, bk22) _ _ H33 ⟨rfl, rfl, rfl, trivial⟩
    · skip
      refine s_loadAgg [.int .i64 o, .int .i64 n, .int .i64 e, .int .i64 2, .slice none 0 0, .int .i64 t] 6 ag_32 rfl (H19.blk_at (i := 0) rfl) (Nat.le_of_ble_eq_true rfl) rfl rfl ?_
      change AnyG _ _ _ _ #[true, true, true, true, false, true, false, false, false, false, false, false] _ _
      refine a_all (rs := [4, 6]) (by kernel_rfl) (by simp) ?_
      refine a_cons ⟨_, rfl, ?_⟩ (a_cons ⟨_, rfl, ?_⟩ (fun x hx => absurd hx (by simp)))
      · skip
        refine s_load (.slice none 0 0) ag_22 rfl (H19.blk_at (i := 1) rfl) rfl rfl ?_
        change AnyG _ _ _ _ #[true, true, true, true, true, true, false, false, false, false, false, false] _ _
        refine a_all (rs := [6]) (by kernel_rfl) (by simp) ?_
        refine a_cons ⟨_, rfl, ?_⟩ (fun x hx => absurd hx (by simp))
        refine s_call [.agg #[.int .i64 o, .int .i64 n, .int .i64 e, .int .i64 2, .slice none 0 0, .int .i64 t]] pl_64 rfl rfl (own_plain (o : Int) (n : Int) (e : Int) (2 : Int) (t : Int) H19) ?_
        rintro _ w34 ⟨rfl, H35⟩
        change AnyG _ _ _ _ #[true, true, true, true, true, true, true, false, false, false, false, false] _ _
        refine a_all (rs := [7]) (by kernel_rfl) (by simp) ?_
        refine a_cons ⟨_, rfl, ?_⟩ (fun x hx => absurd hx (by simp))
        refine s_buildSlice H35 6 1 (cs := #[.int .i64 o, .int .i64 n, .int .i64 e, .int .i64 2, .slice none 0 0, .int .i64 t]) #[.int .i64 0, .int .i64 0, .int .i64 0, .int .i64 0, .slice none 0 0, .int .i64 0] el_22 ze_32 (by decide) (by decide) (by kernel_rfl) rfl ?_; intro bk36 w37 H38
        change AnyG _ _ _ _ #[true, true, true, true, true, true, true, true, false, false, false, false] _ _
        refine a_all (rs := [8]) (by kernel_rfl) (by simp) ?_
        refine a_cons ⟨_, rfl, ?_⟩ (fun x hx => absurd hx (by simp))
        have H39 := Row.nil_intro H38 32 6
        refine s_append H39 0 rfl rfl rfl (rd_blk (H39.blk_at (i := 1) rfl) rfl (Nat.le_of_ble_eq_true rfl) (by simp [Value.oneCell'])) ap_22 (by decide) (by unfold maxLen; omega) (by omega) (n' := 1) (xs' := [.int .i64 o, .int .i64 n, .int .i64 e, .int .i64 2, .slice none 0 0, .int .i64 t]) (by omega) (by first | rfl | simp) rfl ?_; intro vv40 w41 H42 hn43
        obtain ⟨pp44, cc45, rfl⟩ := Row.slice H42 (i := 0) rfl
        change AnyG _ _ _ _ #[true, true, true, true, true, true, true, true, true, false, false, false] _ _
        refine a_take 9 (listed' := #[true, true, true, true, true, true, true, true, true, true, false, false]) rfl (by kernel_rfl) (by kernel_rfl) (by kernel_rfl) rfl rfl rfl rfl (fun w => x_nilCheck (.pointer (some ⟨g, 0, none⟩)) rfl ⟨_, rfl⟩ w) ?_
        refine a_take 10 (listed' := #[true, true, true, true, true, true, true, true, true, true, true, false]) rfl (by kernel_rfl) (by kernel_rfl) (by kernel_rfl) rfl rfl rfl rfl (fun w => x_fieldAddr 80 2 2 2 22 rfl fi_80_2 rfl w) ?_
        refine a_all (rs := [11]) (by kernel_rfl) (by simp) ?_
        refine a_cons ⟨_, rfl, ?_⟩ (fun x hx => absurd hx (by simp))
        refine s_store H42 3 (.slice pp44 1 cc45) rfl rfl rfl sz_22 rfl (Nat.le_of_ble_eq_true rfl) rfl (cs' := #[.bool true, .int .i64 a, .slice pp44 1 cc45]) rfl ?_; intro w46 H47
        change AnyG _ _ _ _ #[true, true, true, true, true, true, true, true, true, true, true, true] _ _
        refine a_done (by kernel_rfl) ?_
        exact join12 (pp44, cc45, bk36) _ _ H47 ⟨rfl, rfl, rfl, trivial⟩
      · skip
        refine s_call [.agg #[.int .i64 o, .int .i64 n, .int .i64 e, .int .i64 2, .slice none 0 0, .int .i64 t]] pl_64 rfl rfl (own_plain (o : Int) (n : Int) (e : Int) (2 : Int) (t : Int) H19) ?_
        rintro _ w48 ⟨rfl, H49⟩
        change AnyG _ _ _ _ #[true, true, true, true, false, true, true, false, false, false, false, false] _ _
        refine a_all (rs := [4, 7]) (by kernel_rfl) (by simp) ?_
        refine a_cons ⟨_, rfl, ?_⟩ (a_cons ⟨_, rfl, ?_⟩ (fun x hx => absurd hx (by simp)))
        · skip
          refine s_load (.slice none 0 0) ag_22 rfl (H49.blk_at (i := 1) rfl) rfl rfl ?_
          change AnyG _ _ _ _ #[true, true, true, true, true, true, true, false, false, false, false, false] _ _
          refine a_all (rs := [7]) (by kernel_rfl) (by simp) ?_
          refine a_cons ⟨_, rfl, ?_⟩ (fun x hx => absurd hx (by simp))
          refine s_buildSlice H49 6 1 (cs := #[.int .i64 o, .int .i64 n, .int .i64 e, .int .i64 2, .slice none 0 0, .int .i64 t]) #[.int .i64 0, .int .i64 0, .int .i64 0, .int .i64 0, .slice none 0 0, .int .i64 0] el_22 ze_32 (by decide) (by decide) (by kernel_rfl) rfl ?_; intro bk50 w51 H52
          change AnyG _ _ _ _ #[true, true, true, true, true, true, true, true, false, false, false, false] _ _
          refine a_all (rs := [8]) (by kernel_rfl) (by simp) ?_
          refine a_cons ⟨_, rfl, ?_⟩ (fun x hx => absurd hx (by simp))
          have H53 := Row.nil_intro H52 32 6
          refine s_append H53 0 rfl rfl rfl (rd_blk (H53.blk_at (i := 1) rfl) rfl (Nat.le_of_ble_eq_true rfl) (by simp [Value.oneCell'])) ap_22 (by decide) (by unfold maxLen; omega) (by omega) (n' := 1) (xs' := [.int .i64 o, .int .i64 n, .int .i64 e, .int .i64 2, .slice none 0 0, .int .i64 t]) (by omega) (by first | rfl | simp) rfl ?_; intro vv54 w55 H56 hn57
          obtain ⟨pp58, cc59, rfl⟩ := Row.slice H56 (i := 0) rfl
          change AnyG _ _ _ _ #[true, true, true, true, true, true, true, true, true, false, false, false] _ _
          refine a_take 9 (listed' := #[true, true, true, true, true, true, true, true, true, true, false, false]) rfl (by kernel_rfl) (by kernel_rfl) (by kernel_rfl) rfl rfl rfl rfl (fun w => x_nilCheck (.pointer (some ⟨g, 0, none⟩)) rfl ⟨_, rfl⟩ w) ?_
          refine a_take 10 (listed' := #[true, true, true, true, true, true, true, true, true, true, true, false]) rfl (by kernel_rfl) (by kernel_rfl) (by kernel_rfl) rfl rfl rfl rfl (fun w => x_fieldAddr 80 2 2 2 22 rfl fi_80_2 rfl w) ?_
          refine a_all (rs := [11]) (by kernel_rfl) (by simp) ?_
          refine a_cons ⟨_, rfl, ?_⟩ (fun x hx => absurd hx (by simp))
          refine s_store H56 3 (.slice pp58 1 cc59) rfl rfl rfl sz_22 rfl (Nat.le_of_ble_eq_true rfl) rfl (cs' := #[.bool true, .int .i64 a, .slice pp58 1 cc59]) rfl ?_; intro w60 H61
          change AnyG _ _ _ _ #[true, true, true, true, true, true, true, true, true, true, true, true] _ _
          refine a_done (by kernel_rfl) ?_
          exact join12 (pp58, cc59, bk50) _ _ H61 ⟨rfl, rfl, rfl, trivial⟩
        · skip
          refine s_buildSlice H49 6 1 (cs := #[.int .i64 o, .int .i64 n, .int .i64 e, .int .i64 2, .slice none 0 0, .int .i64 t]) #[.int .i64 0, .int .i64 0, .int .i64 0, .int .i64 0, .slice none 0 0, .int .i64 0] el_22 ze_32 (by decide) (by decide) (by kernel_rfl) rfl ?_; intro bk62 w63 H64
          change AnyG _ _ _ _ #[true, true, true, true, false, true, true, true, false, false, false, false] _ _
          refine a_all (rs := [4]) (by kernel_rfl) (by simp) ?_
          refine a_cons ⟨_, rfl, ?_⟩ (fun x hx => absurd hx (by simp))
          refine s_load (.slice none 0 0) ag_22 rfl (H64.blk_at (i := 2) rfl) rfl rfl ?_
          change AnyG _ _ _ _ #[true, true, true, true, true, true, true, true, false, false, false, false] _ _
          refine a_all (rs := [8]) (by kernel_rfl) (by simp) ?_
          refine a_cons ⟨_, rfl, ?_⟩ (fun x hx => absurd hx (by simp))
          have H65 := Row.nil_intro H64 32 6
          refine s_append H65 0 rfl rfl rfl (rd_blk (H65.blk_at (i := 1) rfl) rfl (Nat.le_of_ble_eq_true rfl) (by simp [Value.oneCell'])) ap_22 (by decide) (by unfold maxLen; omega) (by omega) (n' := 1) (xs' := [.int .i64 o, .int .i64 n, .int .i64 e, .int .i64 2, .slice none 0 0, .int .i64 t]) (by omega) (by first | rfl | simp) rfl ?_; intro vv66 w67 H68 hn69
          obtain ⟨pp70, cc71, rfl⟩ := Row.slice H68 (i := 0) rfl
          change AnyG _ _ _ _ #[true, true, true, true, true, true, true, true, true, false, false, false] _ _
          refine a_take 9 (listed' := #[true, true, true, true, true, true, true, true, true, true, false, false]) rfl (by kernel_rfl) (by kernel_rfl) (by kernel_rfl) rfl rfl rfl rfl (fun w => x_nilCheck (.pointer (some ⟨g, 0, none⟩)) rfl ⟨_, rfl⟩ w) ?_
          refine a_take 10 (listed' := #[true, true, true, true, true, true, true, true, true, true, true, false]) rfl (by kernel_rfl) (by kernel_rfl) (by kernel_rfl) rfl rfl rfl rfl (fun w => x_fieldAddr 80 2 2 2 22 rfl fi_80_2 rfl w) ?_
          refine a_all (rs := [11]) (by kernel_rfl) (by simp) ?_
          refine a_cons ⟨_, rfl, ?_⟩ (fun x hx => absurd hx (by simp))
          refine s_store H68 3 (.slice pp70 1 cc71) rfl rfl rfl sz_22 rfl (Nat.le_of_ble_eq_true rfl) rfl (cs' := #[.bool true, .int .i64 a, .slice pp70 1 cc71]) rfl ?_; intro w72 H73
          change AnyG _ _ _ _ #[true, true, true, true, true, true, true, true, true, true, true, true] _ _
          refine a_done (by kernel_rfl) ?_
          exact join12 (pp70, cc71, bk62) _ _ H73 ⟨rfl, rfl, rfl, trivial⟩
set_option maxHeartbeats 4000000 in
set_option maxRecDepth 100000 in
theorem Take_now {W w : World} {F : List Atom} (g : Nat) (a : Int) (sv : Value) (o n e t : Int) (ho : 0 ≤ o ∧ o ≤ 1099511627776) (hn : 0 ≤ n ∧ n ≤ 1099511627776) (he : 0 ≤ e ∧ e ≤ 1099511627776) (ht : 0 ≤ t ∧ t ≤ 1099511627777) (hea : e = a) (H : St W w (blk g (.cells #[.bool true, .int .i64 a, sv] 80 (0, 0)) :: F)) : Calls Try.prog 14 #[.pointer (some ⟨g, 0, none⟩), .agg #[.int .i64 o, .int .i64 n, .int .i64 e, .int .i64 2, .slice none 0 0, .int .i64 t]] w (Ret fun v w' => ∃ p c, v = .tuple #[.slice p 1 c, .int .i64 0] ∧ St W w' (Row 32 6 (.slice p 1 c) 1 [.int .i64 o, .int .i64 n, .int .i64 e, .int .i64 2, .slice none 0 0, .int .i64 t] :: blk g (.cells #[.bool true, .int .i64 a, sv] 80 (0, 0)) :: F)) := by
  refine calls_of_go (n := 74) Try.func14 rfl Try.ntmps14 rfl ?_
  refine g_seq ?_
  refine g_region ?_
  refine r_cons (s_box H 32 (.agg #[.int .i64 o, .int .i64 n, .int .i64 e, .int .i64 2, .slice none 0 0, .int .i64 t]) rfl (cs := #[.int .i64 o, .int .i64 n, .int .i64 e, .int .i64 2, .slice none 0 0, .int .i64 t]) rfl rfl ?_); intro bk1 w2 H3
  refine r_cons (s_assign (.slice none 0 0) rfl rfl ?_)
  refine r_cons (s_assign (.int .i64 0) rfl rfl ?_)
  refine r_nil ?_
  refine g_seq ?_
  refine g_seq ?_
  refine g_region ?_
  refine r_cons (s_move (.pointer (some ⟨g, 0, none⟩)) rfl rfl ?_)
  refine r_cons (s_call [.pointer (some ⟨g, 0, none⟩)] pl_62 rfl rfl (Gate_none g (a : Int) sv (i := 1) rfl H3) ?_)
  rintro _ w4 ⟨rfl, H5⟩
  refine r_nil ?_
  refine g_false rfl ?_
  refine g_skip ?_
  refine g_seq ?_
  refine g_seq ?_
  refine g_region ?_
  refine r_cons (s_loadAgg [.int .i64 o, .int .i64 n, .int .i64 e, .int .i64 2, .slice none 0 0, .int .i64 t] 6 ag_32 rfl (H5.blk_at (i := 0) rfl) (Nat.le_of_ble_eq_true rfl) rfl rfl ?_)
  refine r_cons (s_call [.agg #[.int .i64 o, .int .i64 n, .int .i64 e, .int .i64 2, .slice none 0 0, .int .i64 t]] pl_63 rfl rfl (CheckItem_mark (o : Int) (n : Int) (e : Int) (t : Int) (by omega) (by omega) (by omega) (by omega) H5) ?_)
  rintro _ w6 ⟨rfl, H7⟩
  refine r_cons (s_assign (.int .i64 0) rfl rfl ?_)
  refine r_nil ?_
  refine g_seq ?_
  refine g_region ?_
  refine r_cons (s_move (.int .i64 0) rfl rfl ?_)
  refine r_cons (s_neq false rfl rfl (ntrue (by decide)) rfl ?_)
  refine r_nil ?_
  refine g_false rfl ?_
  refine g_skip ?_
  refine g_seq ?_
  refine g_block ?_
  refine g_seq ?_
  refine g_quiet (fun w' => St W w' (blk bk1 (.cells #[.int .i64 o, .int .i64 n, .int .i64 e, .int .i64 2, .slice none 0 0, .int .i64 t] 32 (0, 0)) :: blk g (.cells #[.bool true, .int .i64 a, sv] 80 (0, 0)) :: F)) mixed (by kernel_rfl) H7.drew ?_
  refine q_cons (q_val rfl rfl rfl (by intro w hw; exact x_fieldAddr 32 2 2 2 2 rfl fi_32_2 rfl w) ?_)
  refine q_cons (q_val rfl rfl rfl (by intro w hw; exact x_load (.int .i64 e) ag_2 rfl (hw.blk_at (i := 0) rfl) rfl) ?_)
  refine q_cons (q_val rfl rfl rfl (by intro w hw; exact x_move (.pointer (some ⟨g, 0, none⟩)) rfl w) ?_)
  refine q_cons (q_val rfl rfl rfl (by intro w hw; exact x_nilCheck (.pointer (some ⟨g, 0, none⟩)) rfl ⟨_, rfl⟩ w) ?_)
  refine q_cons (q_val rfl rfl rfl (by intro w hw; exact x_fieldAddr 80 1 1 1 2 rfl fi_80_1 rfl w) ?_)
  refine q_cons (q_val rfl rfl rfl (by intro w hw; exact x_load (.int .i64 a) ag_2 rfl (hw.blk_at (i := 1) rfl) rfl) ?_)
  refine q_cons (q_val rfl rfl rfl (by intro w hw; exact x_lss false rfl rfl (dfalse (by omega)) w) ?_)
  refine q_cons (q_val rfl rfl rfl (by intro w hw; exact x_assign (.bool false) rfl w) ?_)
  refine q_nil ?_
  intro w8 H9
  refine g_false rfl ?_
  refine g_seq ?_
  refine g_quiet (fun w' => St W w' (blk bk1 (.cells #[.int .i64 o, .int .i64 n, .int .i64 e, .int .i64 2, .slice none 0 0, .int .i64 t] 32 (0, 0)) :: blk g (.cells #[.bool true, .int .i64 a, sv] 80 (0, 0)) :: F)) mixed (by kernel_rfl) H9.drew ?_
  refine q_cons (q_val rfl rfl rfl (by intro w hw; exact x_fieldAddr 32 2 2 2 2 rfl fi_32_2 rfl w) ?_)
  refine q_cons (q_val rfl rfl rfl (by intro w hw; exact x_load (.int .i64 e) ag_2 rfl (hw.blk_at (i := 0) rfl) rfl) ?_)
  refine q_cons (q_val rfl rfl rfl (by intro w hw; exact x_move (.pointer (some ⟨g, 0, none⟩)) rfl w) ?_)
  refine q_cons (q_val rfl rfl rfl (by intro w hw; exact x_nilCheck (.pointer (some ⟨g, 0, none⟩)) rfl ⟨_, rfl⟩ w) ?_)
  refine q_cons (q_val rfl rfl rfl (by intro w hw; exact x_fieldAddr 80 1 1 1 2 rfl fi_80_1 rfl w) ?_)
  refine q_cons (q_val rfl rfl rfl (by intro w hw; exact x_load (.int .i64 a) ag_2 rfl (hw.blk_at (i := 1) rfl) rfl) ?_)
  refine q_cons (q_val rfl rfl rfl (by intro w hw; exact x_gtr false rfl rfl (dfalse (by omega)) w) ?_)
  refine q_cons (q_val rfl rfl rfl (by intro w hw; exact x_assign (.bool false) rfl w) ?_)
  refine q_nil ?_
  intro w10 H11
  refine g_false rfl ?_
  refine g_seq ?_
  refine g_region ?_
  refine r_cons (s_fieldAddr 32 3 3 3 3 rfl fi_32_3 rfl rfl ?_)
  refine r_cons (s_load (.int .i64 2) ag_3 rfl (H11.blk_at (i := 0) rfl) rfl rfl ?_)
  refine r_cons (s_neq true rfl rfl (nfalse (by decide)) rfl ?_)
  refine r_cons (s_assign (.bool true) rfl rfl ?_)
  refine r_nil ?_
  refine g_true rfl ?_
  refine g_seq ?_
  refine g_region ?_
  refine r_cons (s_loadAgg [.int .i64 o, .int .i64 n, .int .i64 e, .int .i64 2, .slice none 0 0, .int .i64 t] 6 ag_32 rfl (H11.blk_at (i := 0) rfl) (Nat.le_of_ble_eq_true rfl) rfl rfl ?_)
  refine r_cons (s_call [.agg #[.int .i64 o, .int .i64 n, .int .i64 e, .int .i64 2, .slice none 0 0, .int .i64 t]] pl_64 rfl rfl (own_plain (o : Int) (n : Int) (e : Int) (2 : Int) (t : Int) H11) ?_)
  rintro _ w12 ⟨rfl, H13⟩
  refine r_cons (s_buildSlice H13 6 1 (cs := #[.int .i64 o, .int .i64 n, .int .i64 e, .int .i64 2, .slice none 0 0, .int .i64 t]) #[.int .i64 0, .int .i64 0, .int .i64 0, .int .i64 0, .slice none 0 0, .int .i64 0] el_22 ze_32 (by decide) (by decide) (by kernel_rfl) rfl ?_); intro bk14 w15 H16
  refine r_cons (s_assign (.slice (some ⟨bk14, 0, none⟩) 1 1) rfl rfl ?_)
  refine r_cons (s_assign (.int .i64 0) rfl rfl ?_)
  refine r_nil ?_
  refine g_ret' [.slice (some ⟨bk14, 0, none⟩) 1 1, .int .i64 0] Try.func14 Try.results14 ⟨rfl, rfl, trivial⟩ ?_
  have H17 : St W w15 (Row 32 6 (.slice (some ⟨bk14, 0, none⟩) 1 1) 1 [.int .i64 o, .int .i64 n, .int .i64 e, .int .i64 2, .slice none 0 0, .int .i64 t] :: blk bk1 (.cells #[.int .i64 o, .int .i64 n, .int .i64 e, .int .i64 2, .slice none 0 0, .int .i64 t] 32 (0, 0)) :: blk g (.cells #[.bool true, .int .i64 a, sv] 80 (0, 0)) :: F) := Row.of_blk (n := 1) (size := 6) H16 (i := 0) rfl (by unfold maxLen; omega) rfl (by simp [Value.oneCell'])
  have H18 : St W w15 (Row 32 6 (.slice (some ⟨bk14, 0, none⟩) 1 1) 1 [.int .i64 o, .int .i64 n, .int .i64 e, .int .i64 2, .slice none 0 0, .int .i64 t] :: blk g (.cells #[.bool true, .int .i64 a, sv] 80 (0, 0)) :: F) := (((H17.move 2 rfl).move 1 rfl).drop 2 rfl)
  exact ⟨_, _, rfl, H18⟩
set_option maxHeartbeats 4000000 in
set_option maxRecDepth 100000 in
theorem turn_1 {W w : World} {F : List Atom} (g : Nat) (p : Option Addr) (c : Nat) (H : St W w (blk g (.cells #[.bool true, .int .i64 1, .slice p 1 c] 80 (0, 0)) :: Row 32 6 (.slice p 1 c) 1 [.int .i64 1, .int .i64 0, .int .i64 1, .int .i64 2, .slice none 0 0, .int .i64 9] :: F)) : Calls Try.prog 65 #[.pointer (some ⟨g, 0, none⟩)] w (Ret fun v w' => ∃ q d, v = .tuple #[.slice q 1 d, .bool false] ∧ St W w' (Row 32 6 (.slice q 1 d) 1 [.int .i64 1, .int .i64 0, .int .i64 1, .int .i64 2, .slice none 0 0, .int .i64 9] :: blk g (.cells #[.bool true, .int .i64 1, .slice none 0 0] 80 (0, 0)) :: F)) := by
  refine calls_of_go (n := 47) Try.func65 rfl Try.ntmps65 rfl ?_
  refine g_seq ?_
  refine g_region ?_
  refine r_cons (s_assign (.slice none 0 0) rfl rfl ?_)
  refine r_cons (s_assign (.bool false) rfl rfl ?_)
  refine r_nil ?_
  refine g_seq ?_
  refine g_region ?_
  refine r_cons (s_assign (.slice none 0 0) rfl rfl ?_)
  refine r_cons (s_assign (.slice none 0 0) rfl rfl ?_)
  refine r_nil ?_
  refine g_seq ?_
  refine g_region ?_
  refine r_cons (s_assign (.bool false) rfl rfl ?_)
  refine r_nil ?_
  refine g_seq ?_
  refine g_seq ?_
  refine g_region ?_
  refine r_cons (s_move (.pointer (some ⟨g, 0, none⟩)) rfl rfl ?_)
  refine r_cons (s_nilCheck (.pointer (some ⟨g, 0, none⟩)) rfl ⟨_, rfl⟩ rfl ?_)
  refine r_cons (s_fieldAddr 80 2 2 2 22 rfl fi_80_2 rfl rfl ?_)
  refine r_cons (s_load (.slice p 1 c) ag_22 rfl (H.blk_at (i := 0) rfl) rfl rfl ?_)
  refine r_cons (s_len 1 rfl ⟨_, un_22⟩ rfl ?_)
  refine r_cons (s_move (.int .i64 0) rfl rfl ?_)
  refine r_nil ?_
  refine g_block ?_
  refine g_loop ?_
  refine g_seq ?_
  refine g_region ?_
  refine r_cons (s_lss true rfl rfl (dtrue (by decide)) rfl ?_)
  refine r_nil ?_
  refine g_seq ?_
  refine g_true rfl ?_
  refine g_skip ?_
  refine g_seq ?_
  refine g_block ?_
  refine g_seq ?_
  refine g_region ?_
  obtain ⟨bk1, cur2, hp3, h4, h5, h6, h7, h8, H9⟩ := Row.open2 H (i := 1) rfl (by omega)
  refine r_cons (s_indexAddr bk1 (off := 0) 0 6 (0 + 0 * 6) (by exact congrArg (fun z_ => Value.slice z_ 1 c) ((fun (_ : 0 < 1) => hp3) (by omega))) rfl el_22 (by omega) rfl rfl ?_)
  refine r_cons (s_loadAgg [.int .i64 1, .int .i64 0, .int .i64 1, .int .i64 2, .slice none 0 0, .int .i64 9] 6 ag_32 rfl (H9.blk_at (i := 1) rfl) (by omega) (by exact h7) rfl ?_)
  refine r_cons (s_alloc H9 32 ze_32 rfl ?_); intro bk10 w11 H12
  refine r_cons (s_storeAgg H12 0 #[.int .i64 1, .int .i64 0, .int .i64 1, .int .i64 2, .slice none 0 0, .int .i64 9] 6 rfl rfl rfl sz_32 rfl (by simp [Value.oneCell']) (Nat.le_of_ble_eq_true rfl) (fun o h1 h2 => by first | (simp; done) | (simp; omega)) (cs' := #[.int .i64 1, .int .i64 0, .int .i64 1, .int .i64 2, .slice none 0 0, .int .i64 9]) rfl ?_); intro w13 H14
  refine r_nil ?_
  refine g_block ?_
  refine g_seq ?_
  refine g_quiet (fun w' => St W w' (blk bk10 (.cells #[.int .i64 1, .int .i64 0, .int .i64 1, .int .i64 2, .slice none 0 0, .int .i64 9] 32 (0, 0)) :: blk g (.cells #[.bool true, .int .i64 1, .slice p 1 c] 80 (0, 0)) :: blk bk1 (.cells cur2 32 (0, 0)) :: F)) mixed (by kernel_rfl) H14.drew ?_
  refine q_cons (q_val rfl rfl rfl (by intro w hw; exact x_fieldAddr 32 2 2 2 2 rfl fi_32_2 rfl w) ?_)
  refine q_cons (q_val rfl rfl rfl (by intro w hw; exact x_load (.int .i64 1) ag_2 rfl (hw.blk_at (i := 0) rfl) rfl) ?_)
  refine q_cons (q_val rfl rfl rfl (by intro w hw; exact x_move (.pointer (some ⟨g, 0, none⟩)) rfl w) ?_)
  refine q_cons (q_val rfl rfl rfl (by intro w hw; exact x_nilCheck (.pointer (some ⟨g, 0, none⟩)) rfl ⟨_, rfl⟩ w) ?_)
  refine q_cons (q_val rfl rfl rfl (by intro w hw; exact x_fieldAddr 80 1 1 1 2 rfl fi_80_1 rfl w) ?_)
  refine q_cons (q_val rfl rfl rfl (by intro w hw; exact x_load (.int .i64 1) ag_2 rfl (hw.blk_at (i := 1) rfl) rfl) ?_)
  refine q_cons (q_val rfl rfl rfl (by intro w hw; exact x_neq false rfl rfl (ntrue (by decide)) w) ?_)
  refine q_cons (q_val rfl rfl rfl (by intro w hw; exact x_assign (.bool false) rfl w) ?_)
  refine q_nil ?_
  intro w15 H16
  refine g_false rfl ?_
  refine g_seq ?_
  refine g_region ?_
  refine r_cons (s_move (.bool false) rfl rfl ?_)
  refine r_cons (s_assign (.bool false) rfl rfl ?_)
  refine r_nil ?_
  refine g_false rfl ?_
  refine g_seq ?_
  refine g_region ?_
  refine r_cons (s_fieldAddr 32 3 3 3 3 rfl fi_32_3 rfl rfl ?_)
  refine r_cons (s_load (.int .i64 2) ag_3 rfl (H16.blk_at (i := 0) rfl) rfl rfl ?_)
  refine r_cons (s_eql false rfl rfl (dfalse (by decide)) rfl ?_)
  refine r_cons (s_assign (.bool false) rfl rfl ?_)
  refine r_nil ?_
  refine g_false rfl ?_
  refine g_region ?_
  refine r_cons (s_move (.slice none 0 0) rfl rfl ?_)
  refine r_cons (s_loadAgg [.int .i64 1, .int .i64 0, .int .i64 1, .int .i64 2, .slice none 0 0, .int .i64 9] 6 ag_32 rfl (H16.blk_at (i := 0) rfl) (Nat.le_of_ble_eq_true rfl) rfl rfl ?_)
  refine r_cons (s_buildSlice H16 6 1 (cs := #[.int .i64 1, .int .i64 0, .int .i64 1, .int .i64 2, .slice none 0 0, .int .i64 9]) #[.int .i64 0, .int .i64 0, .int .i64 0, .int .i64 0, .slice none 0 0, .int .i64 0] el_22 ze_32 (by decide) (by decide) (by kernel_rfl) rfl ?_); intro bk17 w18 H19
  have H20 := Row.nil_intro H19 32 6
  refine r_cons (s_append H20 0 rfl rfl rfl (rd_blk (H20.blk_at (i := 1) rfl) rfl (Nat.le_of_ble_eq_true rfl) (by simp [Value.oneCell'])) ap_22 (by decide) (by unfold maxLen; omega) (by omega) (n' := 1) (xs' := [.int .i64 1, .int .i64 0, .int .i64 1, .int .i64 2, .slice none 0 0, .int .i64 9]) (by omega) (by first | rfl | simp) rfl ?_); intro vv21 w22 H23 hn24
  obtain ⟨pp25, cc26, rfl⟩ := Row.slice H23 (i := 0) rfl
  refine r_cons (s_assign (.slice pp25 1 cc26) rfl rfl ?_)
  refine r_nil ?_
  refine g_inBlock ?_
  refine g_inBlock ?_
  refine g_region ?_
  refine r_cons (s_add 1 rfl rfl (wi64 (by omega)) rfl ?_)
  refine r_cons (s_move (.int .i64 1) rfl rfl ?_)
  refine r_nil ?_
  refine g_inLoop ?_
  refine g_seq ?_
  refine g_region ?_
  refine r_cons (s_lss false rfl rfl (dfalse (by decide)) rfl ?_)
  refine r_nil ?_
  refine g_seq ?_
  refine g_false rfl ?_
  refine g_exit (by rfl) ?_
  refine g_seq ?_
  refine g_region ?_
  refine r_cons (s_move (.pointer (some ⟨g, 0, none⟩)) rfl rfl ?_)
  refine r_cons (s_move (.slice none 0 0) rfl rfl ?_)
  refine r_cons (s_nilCheck (.pointer (some ⟨g, 0, none⟩)) rfl ⟨_, rfl⟩ rfl ?_)
  refine r_cons (s_fieldAddr 80 2 2 2 22 rfl fi_80_2 rfl rfl ?_)
  refine r_cons (s_store H23 3 (.slice none 0 0) rfl rfl rfl sz_22 rfl (Nat.le_of_ble_eq_true rfl) rfl (cs' := #[.bool true, .int .i64 1, .slice none 0 0]) rfl ?_); intro w27 H28
  refine r_nil ?_
  refine g_seq ?_
  refine g_region ?_
  refine r_cons (s_move (.slice pp25 1 cc26) rfl rfl ?_)
  refine r_cons (s_move (.bool false) rfl rfl ?_)
  refine r_cons (s_assign (.slice pp25 1 cc26) rfl rfl ?_)
  refine r_cons (s_assign (.bool false) rfl rfl ?_)
  refine r_nil ?_
  refine g_ret' [.slice pp25 1 cc26, .bool false] Try.func65 Try.results65 ⟨rfl, rfl, trivial⟩ ?_
  have H29 : St W w27 (Row 32 6 (.slice pp25 1 cc26) 1 [.int .i64 1, .int .i64 0, .int .i64 1, .int .i64 2, .slice none 0 0, .int .i64 9] :: blk g (.cells #[.bool true, .int .i64 1, .slice none 0 0] 80 (0, 0)) :: F) := (((((H28.move 3 rfl).move 1 rfl).drop 2 rfl).drop 2 rfl).drop 2 rfl)
  exact ⟨_, _, rfl, H29⟩
set_option maxHeartbeats 4000000 in
set_option maxRecDepth 100000 in
theorem Take_end {W w : World} {F : List Atom} (g : Nat) (p : Option Addr) (c : Nat) (H : St W w (blk g (.cells #[.bool true, .int .i64 0, .slice p 1 c] 80 (0, 0)) :: Row 32 6 (.slice p 1 c) 1 [.int .i64 1, .int .i64 0, .int .i64 1, .int .i64 2, .slice none 0 0, .int .i64 9] :: F)) : Calls Try.prog 14 #[.pointer (some ⟨g, 0, none⟩), .agg #[.int .i64 1, .int .i64 0, .int .i64 0, .int .i64 3, .slice none 0 0, .int .i64 0]] w (Ret fun v w' => ∃ q d, v = .tuple #[.slice q 1 d, .int .i64 0] ∧ St W w' (Row 32 6 (.slice q 1 d) 1 [.int .i64 1, .int .i64 0, .int .i64 1, .int .i64 2, .slice none 0 0, .int .i64 9] :: blk g (.cells #[.bool true, .int .i64 1, .slice none 0 0] 80 (0, 0)) :: F)) := by
  refine calls_of_go (n := 74) Try.func14 rfl Try.ntmps14 rfl ?_
  refine g_seq ?_
  refine g_region ?_
  refine r_cons (s_box H 32 (.agg #[.int .i64 1, .int .i64 0, .int .i64 0, .int .i64 3, .slice none 0 0, .int .i64 0]) rfl (cs := #[.int .i64 1, .int .i64 0, .int .i64 0, .int .i64 3, .slice none 0 0, .int .i64 0]) rfl rfl ?_); intro bk1 w2 H3
  refine r_cons (s_assign (.slice none 0 0) rfl rfl ?_)
  refine r_cons (s_assign (.int .i64 0) rfl rfl ?_)
  refine r_nil ?_
  refine g_seq ?_
  refine g_seq ?_
  refine g_region ?_
  refine r_cons (s_move (.pointer (some ⟨g, 0, none⟩)) rfl rfl ?_)
  refine r_cons (s_call [.pointer (some ⟨g, 0, none⟩)] pl_62 rfl rfl (Gate_none g (0 : Int) (.slice p 1 c) (i := 1) rfl H3) ?_)
  rintro _ w4 ⟨rfl, H5⟩
  refine r_nil ?_
  refine g_false rfl ?_
  refine g_skip ?_
  refine g_seq ?_
  refine g_seq ?_
  refine g_region ?_
  refine r_cons (s_loadAgg [.int .i64 1, .int .i64 0, .int .i64 0, .int .i64 3, .slice none 0 0, .int .i64 0] 6 ag_32 rfl (H5.blk_at (i := 0) rfl) (Nat.le_of_ble_eq_true rfl) rfl rfl ?_)
  refine r_cons (s_call [.agg #[.int .i64 1, .int .i64 0, .int .i64 0, .int .i64 3, .slice none 0 0, .int .i64 0]] pl_63 rfl rfl (CheckItem_end (1 : Int) (0 : Int) (0 : Int) (by omega) (by omega) (by omega) H5) ?_)
  rintro _ w6 ⟨rfl, H7⟩
  refine r_cons (s_assign (.int .i64 0) rfl rfl ?_)
  refine r_nil ?_
  refine g_seq ?_
  refine g_region ?_
  refine r_cons (s_move (.int .i64 0) rfl rfl ?_)
  refine r_cons (s_neq false rfl rfl (ntrue (by decide)) rfl ?_)
  refine r_nil ?_
  refine g_false rfl ?_
  refine g_skip ?_
  refine g_seq ?_
  refine g_block ?_
  refine g_seq ?_
  refine g_quiet (fun w' => St W w' (blk bk1 (.cells #[.int .i64 1, .int .i64 0, .int .i64 0, .int .i64 3, .slice none 0 0, .int .i64 0] 32 (0, 0)) :: blk g (.cells #[.bool true, .int .i64 0, .slice p 1 c] 80 (0, 0)) :: Row 32 6 (.slice p 1 c) 1 [.int .i64 1, .int .i64 0, .int .i64 1, .int .i64 2, .slice none 0 0, .int .i64 9] :: F)) mixed (by kernel_rfl) H7.drew ?_
  refine q_cons (q_val rfl rfl rfl (by intro w hw; exact x_fieldAddr 32 2 2 2 2 rfl fi_32_2 rfl w) ?_)
  refine q_cons (q_val rfl rfl rfl (by intro w hw; exact x_load (.int .i64 0) ag_2 rfl (hw.blk_at (i := 0) rfl) rfl) ?_)
  refine q_cons (q_val rfl rfl rfl (by intro w hw; exact x_move (.pointer (some ⟨g, 0, none⟩)) rfl w) ?_)
  refine q_cons (q_val rfl rfl rfl (by intro w hw; exact x_nilCheck (.pointer (some ⟨g, 0, none⟩)) rfl ⟨_, rfl⟩ w) ?_)
  refine q_cons (q_val rfl rfl rfl (by intro w hw; exact x_fieldAddr 80 1 1 1 2 rfl fi_80_1 rfl w) ?_)
  refine q_cons (q_val rfl rfl rfl (by intro w hw; exact x_load (.int .i64 0) ag_2 rfl (hw.blk_at (i := 1) rfl) rfl) ?_)
  refine q_cons (q_val rfl rfl rfl (by intro w hw; exact x_lss false rfl rfl (dfalse (by decide)) w) ?_)
  refine q_cons (q_val rfl rfl rfl (by intro w hw; exact x_assign (.bool false) rfl w) ?_)
  refine q_nil ?_
  intro w8 H9
  refine g_false rfl ?_
  refine g_seq ?_
  refine g_quiet (fun w' => St W w' (blk bk1 (.cells #[.int .i64 1, .int .i64 0, .int .i64 0, .int .i64 3, .slice none 0 0, .int .i64 0] 32 (0, 0)) :: blk g (.cells #[.bool true, .int .i64 0, .slice p 1 c] 80 (0, 0)) :: Row 32 6 (.slice p 1 c) 1 [.int .i64 1, .int .i64 0, .int .i64 1, .int .i64 2, .slice none 0 0, .int .i64 9] :: F)) mixed (by kernel_rfl) H9.drew ?_
  refine q_cons (q_val rfl rfl rfl (by intro w hw; exact x_fieldAddr 32 2 2 2 2 rfl fi_32_2 rfl w) ?_)
  refine q_cons (q_val rfl rfl rfl (by intro w hw; exact x_load (.int .i64 0) ag_2 rfl (hw.blk_at (i := 0) rfl) rfl) ?_)
  refine q_cons (q_val rfl rfl rfl (by intro w hw; exact x_move (.pointer (some ⟨g, 0, none⟩)) rfl w) ?_)
  refine q_cons (q_val rfl rfl rfl (by intro w hw; exact x_nilCheck (.pointer (some ⟨g, 0, none⟩)) rfl ⟨_, rfl⟩ w) ?_)
  refine q_cons (q_val rfl rfl rfl (by intro w hw; exact x_fieldAddr 80 1 1 1 2 rfl fi_80_1 rfl w) ?_)
  refine q_cons (q_val rfl rfl rfl (by intro w hw; exact x_load (.int .i64 0) ag_2 rfl (hw.blk_at (i := 1) rfl) rfl) ?_)
  refine q_cons (q_val rfl rfl rfl (by intro w hw; exact x_gtr false rfl rfl (dfalse (by decide)) w) ?_)
  refine q_cons (q_val rfl rfl rfl (by intro w hw; exact x_assign (.bool false) rfl w) ?_)
  refine q_nil ?_
  intro w10 H11
  refine g_false rfl ?_
  refine g_seq ?_
  refine g_region ?_
  refine r_cons (s_fieldAddr 32 3 3 3 3 rfl fi_32_3 rfl rfl ?_)
  refine r_cons (s_load (.int .i64 3) ag_3 rfl (H11.blk_at (i := 0) rfl) rfl rfl ?_)
  refine r_cons (s_neq false rfl rfl (ntrue (by decide)) rfl ?_)
  refine r_cons (s_assign (.bool false) rfl rfl ?_)
  refine r_nil ?_
  refine g_false rfl ?_
  refine g_skip ?_
  refine g_inBlock ?_
  refine g_seq ?_
  refine g_region ?_
  refine r_cons (s_assign (.slice none 0 0) rfl rfl ?_)
  refine r_nil ?_
  refine g_seq ?_
  refine g_seq ?_
  refine g_region ?_
  refine r_cons (s_assign (.bool true) rfl rfl ?_)
  refine r_nil ?_
  refine g_block ?_
  refine g_loop ?_
  refine g_seq ?_
  refine g_seq ?_
  refine g_region ?_
  refine r_cons (s_move (.bool true) rfl rfl ?_)
  refine r_nil ?_
  refine g_true rfl ?_
  refine g_skip ?_
  refine g_block ?_
  refine g_seq ?_
  refine g_region ?_
  refine r_cons (s_move (.pointer (some ⟨g, 0, none⟩)) rfl rfl ?_)
  refine r_cons (s_nilCheck (.pointer (some ⟨g, 0, none⟩)) rfl ⟨_, rfl⟩ rfl ?_)
  refine r_cons (s_fieldAddr 80 1 1 1 2 rfl fi_80_1 rfl rfl ?_)
  refine r_cons (s_load (.int .i64 0) ag_2 rfl (H11.blk_at (i := 1) rfl) rfl rfl ?_)
  refine r_cons (s_add 1 rfl rfl (wi64 (by omega)) rfl ?_)
  refine r_cons (s_nilCheck (.pointer (some ⟨g, 0, none⟩)) rfl ⟨_, rfl⟩ rfl ?_)
  refine r_cons (s_fieldAddr 80 1 1 1 2 rfl fi_80_1 rfl rfl ?_)
  refine r_cons (s_store H11 1 (.int .i64 1) rfl rfl rfl sz_2 rfl (Nat.le_of_ble_eq_true rfl) rfl (cs' := #[.bool true, .int .i64 1, .slice p 1 c]) rfl ?_); intro w12 H13
  refine r_nil ?_
  refine g_seq ?_
  refine g_region ?_
  refine r_cons (s_assign (.slice none 0 0) rfl rfl ?_)
  refine r_nil ?_
  refine g_seq ?_
  refine g_region ?_
  refine r_cons (s_move (.pointer (some ⟨g, 0, none⟩)) rfl rfl ?_)
  have H14 : St W w12 (blk g (.cells #[.bool true, .int .i64 1, .slice p 1 c] 80 (0, 0)) :: Row 32 6 (.slice p 1 c) 1 [.int .i64 1, .int .i64 0, .int .i64 1, .int .i64 2, .slice none 0 0, .int .i64 9] :: blk bk1 (.cells #[.int .i64 1, .int .i64 0, .int .i64 0, .int .i64 3, .slice none 0 0, .int .i64 0] 32 (0, 0)) :: F) := ((H13.move 2 rfl).move 2 rfl)
  refine r_cons (s_call [.pointer (some ⟨g, 0, none⟩)] pl_65 rfl rfl (turn_1 g p c H14) ?_)
  rintro _ w17 ⟨pp15, cc16, rfl, H18⟩
  refine r_cons (s_move (.tuple #[.slice pp15 1 cc16, .bool false]) rfl rfl ?_)
  refine r_cons (s_extract (.slice pp15 1 cc16) #[.slice pp15 1 cc16, .bool false] rfl rfl rfl ?_)
  refine r_cons (s_extract (.bool false) #[.slice pp15 1 cc16, .bool false] rfl rfl rfl ?_)
  refine r_cons (s_assign (.slice pp15 1 cc16) rfl rfl ?_)
  refine r_cons (s_assign (.bool false) rfl rfl ?_)
  refine r_nil ?_
  refine g_region ?_
  refine r_cons (s_move (.slice none 0 0) rfl rfl ?_)
  refine r_cons (s_move (.slice pp15 1 cc16) rfl rfl ?_)
  have H19 := Row.nil_intro H18 32 6
  refine r_cons (s_append H19 0 rfl rfl rfl (Row.rd H19 (i := 1) rfl) ap_22 (by decide) (by unfold maxLen; omega) (by omega) (n' := 1) (xs' := [.int .i64 1, .int .i64 0, .int .i64 1, .int .i64 2, .slice none 0 0, .int .i64 9]) (by omega) (by first | rfl | simp) rfl ?_); intro vv20 w21 H22 hn23
  obtain ⟨pp24, cc25, rfl⟩ := Row.slice H22 (i := 0) rfl
  refine r_cons (s_assign (.slice pp24 1 cc25) rfl rfl ?_)
  refine r_nil ?_
  refine g_inBlock ?_
  refine g_inLoop ?_
  refine g_seq ?_
  refine g_seq ?_
  refine g_region ?_
  refine r_cons (s_move (.bool false) rfl rfl ?_)
  refine r_nil ?_
  refine g_false rfl ?_
  refine g_exit (by rfl) ?_
  refine g_seq ?_
  refine g_region ?_
  refine r_cons (s_move (.slice pp24 1 cc25) rfl rfl ?_)
  refine r_cons (s_assign (.slice pp24 1 cc25) rfl rfl ?_)
  refine r_cons (s_assign (.int .i64 0) rfl rfl ?_)
  refine r_nil ?_
  refine g_ret' [.slice pp24 1 cc25, .int .i64 0] Try.func14 Try.results14 ⟨rfl, rfl, trivial⟩ ?_
  have H26 : St W w21 (Row 32 6 (.slice pp24 1 cc25) 1 [.int .i64 1, .int .i64 0, .int .i64 1, .int .i64 2, .slice none 0 0, .int .i64 9] :: blk g (.cells #[.bool true, .int .i64 1, .slice none 0 0] 80 (0, 0)) :: F) := ((((H22.move 2 rfl).move 1 rfl).drop 2 rfl).drop 2 rfl)
  exact ⟨_, _, rfl, H26⟩
set_option maxHeartbeats 4000000 in
set_option maxRecDepth 100000 in
theorem begun_mark {W w : World} {F : List Atom} (e t : Int) (H : St W w F) : Calls Try.prog 59 #[.int .i64 e, .int .i64 t] w (Ret fun v w' => v = .agg #[.int .i64 1, .int .i64 0, .int .i64 e, .int .i64 2, .slice none 0 0, .int .i64 t] ∧ St W w' F) := by
  refine calls_of_go (n := 8) Try.func59 rfl Try.ntmps59 rfl ?_
  refine g_seq ?_
  refine g_region ?_
  refine r_cons (s_alloc H 32 ze_32 rfl ?_); intro bk1 w2 H3
  refine r_nil ?_
  refine g_seq ?_
  refine g_region ?_
  refine r_cons (s_move (.int .i64 e) rfl rfl ?_)
  refine r_cons (s_move (.int .i64 t) rfl rfl ?_)
  refine r_cons (s_build (cs := #[.int .i64 1, .int .i64 0, .int .i64 e, .int .i64 2, .slice none 0 0, .int .i64 t]) (by kernel_rfl) rfl ?_)
  refine r_cons (s_storeAgg H3 0 #[.int .i64 1, .int .i64 0, .int .i64 e, .int .i64 2, .slice none 0 0, .int .i64 t] 6 rfl rfl rfl sz_32 rfl (by simp [Value.oneCell']) (Nat.le_of_ble_eq_true rfl) (fun o h1 h2 => by first | (simp; done) | (simp; omega)) (cs' := #[.int .i64 1, .int .i64 0, .int .i64 e, .int .i64 2, .slice none 0 0, .int .i64 t]) rfl ?_); intro w4 H5
  refine r_nil ?_
  refine g_ret' [.agg #[.int .i64 1, .int .i64 0, .int .i64 e, .int .i64 2, .slice none 0 0, .int .i64 t]] Try.func59 Try.results59 ⟨(res_cellN rfl ag_32 (H5.blk_at (i := 0) rfl) (Nat.le_of_ble_eq_true rfl) rfl), trivial⟩ ?_
  have H6 : St W w4 F := (H5.drop 0 rfl)
  exact ⟨rfl, H6⟩
set_option maxHeartbeats 4000000 in
set_option maxRecDepth 100000 in
theorem begun_ {W w : World} {F : List Atom}  (H : St W w F) : Calls Try.prog 10 #[] w (Ret fun v w' => v = .bool true ∧ St W w' F) := by
  refine calls_of_go (n := 82) Try.func10 rfl Try.ntmps10 rfl ?_
  refine g_seq ?_
  refine g_region ?_
  refine r_cons (s_assign (.bool false) rfl rfl ?_)
  refine r_nil ?_
  refine g_seq ?_
  refine g_region ?_
  refine r_cons (s_call [] pl_9 rfl rfl (NewGate_ H) ?_)
  rintro _ w2 ⟨bk1, rfl, H3⟩
  refine r_cons (s_assign (.pointer (some ⟨bk1, 0, none⟩)) rfl rfl ?_)
  refine r_nil ?_
  refine g_seq ?_
  refine g_seq ?_
  refine g_region ?_
  refine r_cons (s_move (.pointer (some ⟨bk1, 0, none⟩)) rfl rfl ?_)
  refine r_cons (s_peql false un_24 rfl rfl rfl rfl ?_)
  refine r_nil ?_
  refine g_false rfl ?_
  refine g_skip ?_
  refine g_seq ?_
  refine g_region ?_
  refine r_cons (s_assign (.func (.func 59) #[] #[]) rfl rfl ?_)
  refine r_nil ?_
  refine g_seq ?_
  refine g_region ?_
  refine r_cons (s_move (.pointer (some ⟨bk1, 0, none⟩)) rfl rfl ?_)
  refine r_cons (s_move (.func (.func 59) #[] #[]) rfl rfl ?_)
  refine r_cons (s_callv [] [.int .i64 1, .int .i64 9] rfl pl_59 rfl rfl (begun_mark (1 : Int) (9 : Int) H3) ?_)
  rintro _ w4 ⟨rfl, H5⟩
  refine r_cons (s_call [.pointer (some ⟨bk1, 0, none⟩), .agg #[.int .i64 1, .int .i64 0, .int .i64 1, .int .i64 2, .slice none 0 0, .int .i64 9]] pl_14 rfl rfl (Take_wait bk1 (0 : Int) (1 : Int) (0 : Int) (1 : Int) (9 : Int) (by omega) (by omega) (by omega) (by omega) (by omega) H5) ?_)
  rintro _ w8 ⟨rfl, pp6, cc7, H9⟩
  refine r_cons (s_move (.tuple #[.slice none 0 0, .int .i64 0]) rfl rfl ?_)
  refine r_cons (s_extract (.slice none 0 0) #[.slice none 0 0, .int .i64 0] rfl rfl rfl ?_)
  refine r_cons (s_extract (.int .i64 0) #[.slice none 0 0, .int .i64 0] rfl rfl rfl ?_)
  refine r_cons (s_assign (.slice none 0 0) rfl rfl ?_)
  refine r_cons (s_assign (.int .i64 0) rfl rfl ?_)
  refine r_nil ?_
  refine g_seq ?_
  refine g_region ?_
  refine r_cons (s_move (.pointer (some ⟨bk1, 0, none⟩)) rfl rfl ?_)
  refine r_cons (s_move (.func (.func 59) #[] #[]) rfl rfl ?_)
  refine r_cons (s_callv [] [.int .i64 0, .int .i64 4] rfl pl_59 rfl rfl (begun_mark (0 : Int) (4 : Int) H9) ?_)
  rintro _ w10 ⟨rfl, H11⟩
  refine r_cons (s_call [.pointer (some ⟨bk1, 0, none⟩), .agg #[.int .i64 1, .int .i64 0, .int .i64 0, .int .i64 2, .slice none 0 0, .int .i64 4]] pl_14 rfl rfl (Take_now bk1 (0 : Int) (.slice pp6 1 cc7) (1 : Int) (0 : Int) (0 : Int) (4 : Int) (by omega) (by omega) (by omega) (by omega) (by omega) H11) ?_)
  rintro _ w14 ⟨pp12, cc13, rfl, H15⟩
  refine r_cons (s_move (.tuple #[.slice pp12 1 cc13, .int .i64 0]) rfl rfl ?_)
  refine r_cons (s_extract (.slice pp12 1 cc13) #[.slice pp12 1 cc13, .int .i64 0] rfl rfl rfl ?_)
  refine r_cons (s_extract (.int .i64 0) #[.slice pp12 1 cc13, .int .i64 0] rfl rfl rfl ?_)
  refine r_cons (s_assign (.slice pp12 1 cc13) rfl rfl ?_)
  refine r_cons (s_assign (.int .i64 0) rfl rfl ?_)
  refine r_nil ?_
  refine g_seq ?_
  refine g_region ?_
  refine r_cons (s_move (.pointer (some ⟨bk1, 0, none⟩)) rfl rfl ?_)
  refine r_cons (s_build (cs := #[.int .i64 1, .int .i64 0, .int .i64 0, .int .i64 3, .slice none 0 0, .int .i64 0]) (by kernel_rfl) rfl ?_)
  have H16 : St W w14 (blk bk1 (.cells #[.bool true, .int .i64 0, .slice pp6 1 cc7] 80 (0, 0)) :: Row 32 6 (.slice pp6 1 cc7) 1 [.int .i64 1, .int .i64 0, .int .i64 1, .int .i64 2, .slice none 0 0, .int .i64 9] :: Row 32 6 (.slice pp12 1 cc13) 1 [.int .i64 1, .int .i64 0, .int .i64 0, .int .i64 2, .slice none 0 0, .int .i64 4] :: F) := ((H15.move 2 rfl).move 2 rfl)
  refine r_cons (s_call [.pointer (some ⟨bk1, 0, none⟩), .agg #[.int .i64 1, .int .i64 0, .int .i64 0, .int .i64 3, .slice none 0 0, .int .i64 0]] pl_14 rfl rfl (Take_end bk1 pp6 cc7 H16) ?_)
  rintro _ w19 ⟨pp17, cc18, rfl, H20⟩
  refine r_cons (s_move (.tuple #[.slice pp17 1 cc18, .int .i64 0]) rfl rfl ?_)
  refine r_cons (s_extract (.slice pp17 1 cc18) #[.slice pp17 1 cc18, .int .i64 0] rfl rfl rfl ?_)
  refine r_cons (s_extract (.int .i64 0) #[.slice pp17 1 cc18, .int .i64 0] rfl rfl rfl ?_)
  refine r_cons (s_assign (.slice pp17 1 cc18) rfl rfl ?_)
  refine r_cons (s_assign (.int .i64 0) rfl rfl ?_)
  refine r_nil ?_
  refine g_seq ?_
  refine g_region ?_
  refine r_cons (s_move (.pointer (some ⟨bk1, 0, none⟩)) rfl rfl ?_)
  refine r_cons (s_move (.func (.func 59) #[] #[]) rfl rfl ?_)
  refine r_cons (s_callv [] [.int .i64 0, .int .i64 5] rfl pl_59 rfl rfl (begun_mark (0 : Int) (5 : Int) H20) ?_)
  rintro _ w21 ⟨rfl, H22⟩
  have H23 : St W w21 (blk bk1 (.cells #[.bool true, .int .i64 1, .slice none 0 0] 80 (0, 0)) :: Row 32 6 (.slice pp17 1 cc18) 1 [.int .i64 1, .int .i64 0, .int .i64 1, .int .i64 2, .slice none 0 0, .int .i64 9] :: Row 32 6 (.slice pp12 1 cc13) 1 [.int .i64 1, .int .i64 0, .int .i64 0, .int .i64 2, .slice none 0 0, .int .i64 4] :: F) := (H22.move 1 rfl)
  refine r_cons (s_call [.pointer (some ⟨bk1, 0, none⟩), .agg #[.int .i64 1, .int .i64 0, .int .i64 0, .int .i64 2, .slice none 0 0, .int .i64 5]] pl_14 rfl rfl (Take_old bk1 (1 : Int) (.slice none 0 0) (1 : Int) (0 : Int) (0 : Int) (5 : Int) (by omega) (by omega) (by omega) (by omega) (by omega) H23) ?_)
  rintro _ w24 ⟨rfl, H25⟩
  refine r_cons (s_move (.tuple #[.slice none 0 0, .int .i64 240]) rfl rfl ?_)
  refine r_cons (s_extract (.slice none 0 0) #[.slice none 0 0, .int .i64 240] rfl rfl rfl ?_)
  refine r_cons (s_extract (.int .i64 240) #[.slice none 0 0, .int .i64 240] rfl rfl rfl ?_)
  refine r_cons (s_assign (.slice none 0 0) rfl rfl ?_)
  refine r_cons (s_assign (.int .i64 240) rfl rfl ?_)
  refine r_nil ?_
  refine g_seq ?_
  refine g_region ?_
  refine r_cons (s_move (.slice none 0 0) rfl rfl ?_)
  refine r_cons (s_len 0 rfl ⟨_, un_22⟩ rfl ?_)
  refine r_cons (s_eql true rfl rfl (dtrue (by decide)) rfl ?_)
  refine r_cons (s_move (.bool true) rfl rfl ?_)
  refine r_cons (r_take rfl rfl ?_)
  refine s_move (.int .i64 0) rfl rfl ?_
  refine r_cons (r_take rfl rfl ?_)
  refine s_eql true rfl rfl (dtrue (by decide)) rfl ?_
  refine r_cons (s_pick_t (.bool true) rfl rfl rfl ?_)
  refine r_cons (s_move (.bool true) rfl rfl ?_)
  refine r_cons (r_take rfl rfl ?_)
  refine s_move (.slice pp12 1 cc13) rfl rfl ?_
  refine r_cons (r_take rfl rfl ?_)
  refine s_len 1 rfl ⟨_, un_22⟩ rfl ?_
  refine r_cons (r_take rfl rfl ?_)
  refine s_eql true rfl rfl (dtrue (by decide)) rfl ?_
  refine r_cons (s_pick_t (.bool true) rfl rfl rfl ?_)
  refine r_cons (s_move (.bool true) rfl rfl ?_)
  refine r_cons (r_take rfl rfl ?_)
  refine s_move (.int .i64 0) rfl rfl ?_
  refine r_cons (r_take rfl rfl ?_)
  refine s_eql true rfl rfl (dtrue (by decide)) rfl ?_
  refine r_cons (s_pick_t (.bool true) rfl rfl rfl ?_)
  refine r_cons (s_move (.bool true) rfl rfl ?_)
  refine r_cons (r_take rfl rfl ?_)
  refine s_move (.slice pp17 1 cc18) rfl rfl ?_
  refine r_cons (r_take rfl rfl ?_)
  refine s_len 1 rfl ⟨_, un_22⟩ rfl ?_
  refine r_cons (r_take rfl rfl ?_)
  refine s_eql true rfl rfl (dtrue (by decide)) rfl ?_
  refine r_cons (s_pick_t (.bool true) rfl rfl rfl ?_)
  refine r_cons (s_move (.bool true) rfl rfl ?_)
  refine r_cons (r_take rfl rfl ?_)
  refine s_move (.slice pp17 1 cc18) rfl rfl ?_
  refine r_cons (r_take rfl rfl ?_)
  obtain ⟨bk26, cur27, hp28, h29, h30, h31, h32, h33, H34⟩ := Row.open2 H25 (i := 1) rfl (by omega)
  have hc35 : cur27[5]? = some (.int .i64 9) := cell_of_take (k := 5) (xs := [.int .i64 1, .int .i64 0, .int .i64 1, .int .i64 2, .slice none 0 0, .int .i64 9]) h32 (by decide) rfl
  refine s_indexAddr bk26 (off := 0) 0 6 (0 + 0 * 6) (by exact congrArg (fun z_ => Value.slice z_ 1 cc18) ((fun (_ : 0 < 1) => hp28) (by omega))) rfl el_22 (by omega) rfl rfl ?_
  refine r_cons (r_take rfl rfl ?_)
  refine s_fieldAddr 32 5 5 (0 + 0 * 6 + 5) 2 rfl fi_32_5 rfl rfl ?_
  refine r_cons (r_take rfl rfl ?_)
  refine s_load (.int .i64 9) ag_2 rfl (H34.blk_at (i := 1) rfl) hc35 rfl ?_
  refine r_cons (r_take rfl rfl ?_)
  refine s_eql true rfl rfl (dtrue (by decide)) rfl ?_
  refine r_cons (s_pick_t (.bool true) rfl rfl rfl ?_)
  refine r_cons (s_move (.bool true) rfl rfl ?_)
  refine r_cons (r_take rfl rfl ?_)
  refine s_move (.int .i64 0) rfl rfl ?_
  refine r_cons (r_take rfl rfl ?_)
  refine s_eql true rfl rfl (dtrue (by decide)) rfl ?_
  refine r_cons (s_pick_t (.bool true) rfl rfl rfl ?_)
  refine r_cons (s_move (.bool true) rfl rfl ?_)
  refine r_cons (r_take rfl rfl ?_)
  refine s_move (.int .i64 240) rfl rfl ?_
  refine r_cons (r_take rfl rfl ?_)
  refine s_eql true rfl rfl (dtrue (by decide)) rfl ?_
  refine r_cons (s_pick_t (.bool true) rfl rfl rfl ?_)
  refine r_cons (s_move (.bool true) rfl rfl ?_)
  refine r_cons (r_take rfl rfl ?_)
  refine s_move (.pointer (some ⟨bk1, 0, none⟩)) rfl rfl ?_
  refine r_cons (r_take rfl rfl ?_)
  refine s_call [.pointer (some ⟨bk1, 0, none⟩)] pl_16 rfl rfl (Gate_Epoch bk1 (1 : Int) (.slice none 0 0) (i := 0) rfl H34) ?_
  rintro _ w36 ⟨rfl, H37⟩
  refine r_cons (r_take rfl rfl ?_)
  refine s_eql true rfl rfl (dtrue (by decide)) rfl ?_
  refine r_cons (s_pick_t (.bool true) rfl rfl rfl ?_)
  refine r_cons (s_assign (.bool true) rfl rfl ?_)
  refine r_nil ?_
  refine g_ret' [.bool true] Try.func10 Try.results10 ⟨rfl, trivial⟩ ?_
  have H38 : St W w36 F := (((H37.drop 0 rfl).drop 0 rfl).drop 0 rfl)
  exact ⟨rfl, H38⟩
set_option maxHeartbeats 4000000 in
set_option maxRecDepth 100000 in
theorem bytes_Clone {W w : World} {F : List Atom} (A : Atom) (v0 : Value) (n : Nat) (xs : List Value) (hA : RdA A 1 v0 n xs) (hn : n ≤ 140737488355328) {j : Nat} (hj : F[j]? = some A) (H : St W w F) : Calls Try.prog 73 #[v0] w (Ret fun v w' => ∃ p c, v = .slice p n c ∧ St W w' (Row 5 1 (.slice p n c) n xs :: F)) := by
  have hml := (hA _ _ _ j H hj).2
  obtain ⟨pp1, cc2, rfl, hn3⟩ := Rd.shape (hA _ _ _ j H hj).1
  refine calls_of_go (n := 8) Try.func73 rfl Try.ntmps73 rfl ?_
  refine g_seq ?_
  refine g_region ?_
  refine r_cons (s_assign (.slice none 0 0) rfl rfl ?_)
  refine r_nil ?_
  refine g_seq ?_
  refine g_seq ?_
  refine g_region ?_
  refine r_cons (s_move (.slice pp1 n cc2) rfl rfl ?_)
  by_cases hc4 : pp1 = none
  · skip
    refine r_cons (s_sleql true un_23 rfl rfl (isNone_t hc4) rfl ?_)
    refine r_nil ?_
    refine g_true rfl ?_
    refine g_seq ?_
    refine g_region ?_
    refine r_cons (s_assign (.slice none 0 0) rfl rfl ?_)
    refine r_nil ?_
    refine g_ret' [.slice none 0 0] Try.func73 Try.results73 ⟨rfl, trivial⟩ ?_
    have H5 : St W w F := H
    obtain ⟨h1, h2, h3⟩ := hn3 ‹_›
    subst h1 h3
    exact ⟨none, 0, rfl, Row.nil_intro H5 5 1⟩
  · skip
    refine r_cons (s_sleql false un_23 rfl rfl (isNone_f hc4) rfl ?_)
    refine r_nil ?_
    refine g_false rfl ?_
    refine g_skip ?_
    refine g_seq ?_
    refine g_region ?_
    refine r_cons (s_buildSlice0 H 1 el_23 rfl ?_); intro bk7 w8 H9
    have H10 := Row.of_blk (n := 0) (size := 1) H9 (i := 0) rfl (by unfold maxLen; omega) (by simp) (by simp)
    refine r_cons (s_move (.slice pp1 n cc2) rfl rfl ?_)
    refine r_cons (s_append H10 0 rfl rfl rfl (hA _ _ _ (j + 1) H10 (by exact hj)).1 ap_23 (by decide) (by unfold maxLen; omega) (by omega) (n' := n) (xs' := xs) (by omega) (by first | rfl | simp) rfl ?_); intro vv11 w12 H13 hn14
    obtain ⟨pp15, cc16, rfl⟩ := Row.slice H13 (i := 0) rfl
    refine r_cons (s_assign (.slice pp15 n cc16) rfl rfl ?_)
    refine r_nil ?_
    refine g_ret' [.slice pp15 n cc16] Try.func73 Try.results73 ⟨rfl, trivial⟩ ?_
    have H17 : St W w12 (Row 5 1 (.slice pp15 n cc16) n xs :: F) := H13
    exact ⟨_, _, rfl, H17⟩
set_option maxHeartbeats 4000000 in
set_option maxRecDepth 100000 in
theorem time1 {W w : World} {F : List Atom} (g : Nat) (x : Int) (H : St W w (blk g (.cells #[.int .i64 x] 2 (0, 0)) :: F)) : Calls Try.prog 68 #[.slice (some ⟨g, 0, none⟩) 1 1] w (Ret fun v w' => v = .bool (timeB x) ∧ St W w' (blk g (.cells #[.int .i64 x] 2 (0, 0)) :: F)) := by
  refine calls_of_go (n := 18) Try.func68 rfl Try.ntmps68 rfl ?_
  refine g_seq ?_
  refine g_region ?_
  refine r_cons (s_assign (.bool false) rfl rfl ?_)
  refine r_nil ?_
  refine g_seq ?_
  refine g_seq ?_
  refine g_region ?_
  refine r_cons (s_move (.slice (some ⟨g, 0, none⟩) 1 1) rfl rfl ?_)
  refine r_cons (s_len 1 rfl ⟨_, un_174⟩ rfl ?_)
  refine r_cons (s_move (.int .i64 0) rfl rfl ?_)
  refine r_nil ?_
  refine g_block ?_
  refine g_loop ?_
  refine g_seq ?_
  refine g_region ?_
  refine r_cons (s_lss true rfl rfl (dtrue (by decide)) rfl ?_)
  refine r_nil ?_
  refine g_seq ?_
  refine g_true rfl ?_
  refine g_skip ?_
  refine g_seq ?_
  refine g_block ?_
  refine g_seq ?_
  refine g_region ?_
  refine r_cons (s_indexAddr g 0 1 0 rfl rfl el_174 (by omega) rfl rfl ?_)
  refine r_cons (s_load (.int .i64 x) ag_2 rfl (H.blk_at (i := 0) rfl) rfl rfl ?_)
  refine r_cons (s_assign (.int .i64 x) rfl rfl ?_)
  refine r_nil ?_
  refine g_seq ?_
  refine g_region ?_
  refine r_cons (s_move (.int .i64 x) rfl rfl ?_)
  by_cases hc1 : x < 0
  · skip
    refine r_cons (s_lss true rfl rfl (dtrue hc1) rfl ?_)
    refine r_cons (s_move (.bool true) rfl rfl ?_)
    refine r_cons (r_pass rfl rfl rfl rfl rfl ?_)
    refine r_cons (r_pass rfl rfl rfl rfl rfl ?_)
    refine r_cons (s_pick_t (.bool true) rfl rfl rfl ?_)
    refine r_nil ?_
    refine g_true rfl ?_
    refine g_seq ?_
    refine g_region ?_
    refine r_cons (s_assign (.bool false) rfl rfl ?_)
    refine r_nil ?_
    refine g_ret' [.bool false] Try.func68 Try.results68 ⟨rfl, trivial⟩ ?_
    have H2 : St W w (blk g (.cells #[.int .i64 x] 2 (0, 0)) :: F) := H
    exact ⟨congrArg Value.bool (by unfold timeB; first | exact (decide_eq_true (by omega)).symm | exact (decide_eq_false (by omega)).symm), H2⟩
  · skip
    refine r_cons (s_lss false rfl rfl (dfalse hc1) rfl ?_)
    refine r_cons (s_move (.bool false) rfl rfl ?_)
    refine r_cons (r_take rfl rfl ?_)
    refine s_move (.int .i64 x) rfl rfl ?_
    refine r_cons (r_take rfl rfl ?_)
    by_cases hc3 : (1099511627776 : Int) < x
    · skip
      refine s_gtr true rfl rfl (dtrue hc3) rfl ?_
      refine r_cons (s_pick_f (.bool true) rfl rfl rfl ?_)
      refine r_nil ?_
      refine g_true rfl ?_
      refine g_seq ?_
      refine g_region ?_
      refine r_cons (s_assign (.bool false) rfl rfl ?_)
      refine r_nil ?_
      refine g_ret' [.bool false] Try.func68 Try.results68 ⟨rfl, trivial⟩ ?_
      have H4 : St W w (blk g (.cells #[.int .i64 x] 2 (0, 0)) :: F) := H
      exact ⟨congrArg Value.bool (by unfold timeB; first | exact (decide_eq_true (by omega)).symm | exact (decide_eq_false (by omega)).symm), H4⟩
    · skip
      refine s_gtr false rfl rfl (dfalse hc3) rfl ?_
      refine r_cons (s_pick_f (.bool false) rfl rfl rfl ?_)
      refine r_nil ?_
      refine g_false rfl ?_
      refine g_skip ?_
      refine g_inBlock ?_
      refine g_region ?_
      refine r_cons (s_add 1 rfl rfl (wi64 (by omega)) rfl ?_)
      refine r_cons (s_move (.int .i64 1) rfl rfl ?_)
      refine r_nil ?_
      refine g_inLoop ?_
      refine g_seq ?_
      refine g_region ?_
      refine r_cons (s_lss false rfl rfl (dfalse (by decide)) rfl ?_)
      refine r_nil ?_
      refine g_seq ?_
      refine g_false rfl ?_
      refine g_exit (by rfl) ?_
      refine g_seq ?_
      refine g_region ?_
      refine r_cons (s_assign (.bool true) rfl rfl ?_)
      refine r_nil ?_
      refine g_ret' [.bool true] Try.func68 Try.results68 ⟨rfl, trivial⟩ ?_
      have H5 : St W w (blk g (.cells #[.int .i64 x] 2 (0, 0)) :: F) := H
      exact ⟨congrArg Value.bool (by unfold timeB; first | exact (decide_eq_true (by omega)).symm | exact (decide_eq_false (by omega)).symm), H5⟩
set_option maxHeartbeats 4000000 in
set_option maxRecDepth 100000 in
theorem ref24_time {W w : World} {F : List Atom} (n : Int) (H : St W w F) : Calls Try.prog 60 #[.int .i64 n] w (Ret fun v w' => v = .bool (timeB n) ∧ St W w' F) := by
  refine calls_of_go (n := 9) Try.func60 rfl Try.ntmps60 rfl ?_
  refine g_seq ?_
  refine g_region ?_
  refine r_cons (s_assign (.bool false) rfl rfl ?_)
  refine r_nil ?_
  refine g_seq ?_
  refine g_region ?_
  refine r_cons (s_move (.int .i64 n) rfl rfl ?_)
  by_cases hc1 : (0 : Int) ≤ n
  · skip
    refine r_cons (s_geq true rfl rfl (dtrue hc1) rfl ?_)
    refine r_cons (s_move (.bool true) rfl rfl ?_)
    refine r_cons (r_take rfl rfl ?_)
    refine s_move (.int .i64 n) rfl rfl ?_
    refine r_cons (r_take rfl rfl ?_)
    by_cases hc2 : n ≤ 1099511627776
    · skip
      refine s_leq true rfl rfl (dtrue hc2) rfl ?_
      refine r_cons (s_pick_t (.bool true) rfl rfl rfl ?_)
      refine r_cons (s_assign (.bool true) rfl rfl ?_)
      refine r_nil ?_
      refine g_ret' [.bool true] Try.func60 Try.results60 ⟨rfl, trivial⟩ ?_
      exact ⟨congrArg Value.bool (by simp only [timeB]; first | (exact (decide_eq_true (by omega)).symm) | (exact (decide_eq_false (by omega)).symm)), H⟩
    · skip
      refine s_leq false rfl rfl (dfalse hc2) rfl ?_
      refine r_cons (s_pick_t (.bool false) rfl rfl rfl ?_)
      refine r_cons (s_assign (.bool false) rfl rfl ?_)
      refine r_nil ?_
      refine g_ret' [.bool false] Try.func60 Try.results60 ⟨rfl, trivial⟩ ?_
      exact ⟨congrArg Value.bool (by simp only [timeB]; first | (exact (decide_eq_true (by omega)).symm) | (exact (decide_eq_false (by omega)).symm)), H⟩
  · skip
    refine r_cons (s_geq false rfl rfl (dfalse hc1) rfl ?_)
    refine r_cons (s_move (.bool false) rfl rfl ?_)
    refine r_cons (r_pass rfl rfl rfl rfl rfl ?_)
    refine r_cons (r_pass rfl rfl rfl rfl rfl ?_)
    refine r_cons (s_pick_f (.bool false) rfl rfl rfl ?_)
    refine r_cons (s_assign (.bool false) rfl rfl ?_)
    refine r_nil ?_
    refine g_ret' [.bool false] Try.func60 Try.results60 ⟨rfl, trivial⟩ ?_
    exact ⟨congrArg Value.bool (by simp only [timeB]; first | (exact (decide_eq_true (by omega)).symm) | (exact (decide_eq_false (by omega)).symm)), H⟩
set_option maxHeartbeats 4000000 in
set_option maxRecDepth 100000 in
theorem SamePiece_ {W w : World} {F : List Atom} (x y : PieceD) {j k : Nat} (hj : F[j]? = some (DtA x.p x.c x.v.data)) (hk : F[k]? = some (DtA y.p y.c y.v.data)) (H : St W w F) : Calls Try.prog 39 #[.agg #[.int .i64 x.v.op.v, .int .i64 x.v.many.v, .int .i64 x.v.index.v, .slice x.p x.v.data.length x.c], .agg #[.int .i64 y.v.op.v, .int .i64 y.v.many.v, .int .i64 y.v.index.v, .slice y.p y.v.data.length y.c]] w (Ret fun v w' => v = .bool (samePc x.v y.v) ∧ St W w' F) := by
  have H0 := (H.dup hj (DtA_pers _ _ _)).dup (i := k + 1) (by exact hk) (DtA_pers _ _ _)
  have H1 : St W w (Im 1 (.slice y.p y.v.data.length y.c) y.v.data.length (y.v.data.flatMap u8c) :: Im 1 (.slice x.p x.v.data.length x.c) x.v.data.length (x.v.data.flatMap u8c) :: F) := H0
  refine calls_of_go (n := 33) Try.func39 rfl Try.ntmps39 rfl ?_
  refine g_seq ?_
  refine g_region ?_
  refine r_cons (s_box H1 51 (.agg #[.int .i64 x.v.op.v, .int .i64 x.v.many.v, .int .i64 x.v.index.v, .slice x.p x.v.data.length x.c]) rfl (cs := #[.int .i64 x.v.op.v, .int .i64 x.v.many.v, .int .i64 x.v.index.v, .slice x.p x.v.data.length x.c]) rfl rfl ?_); intro bk2 w3 H4
  refine r_cons (s_box H4 51 (.agg #[.int .i64 y.v.op.v, .int .i64 y.v.many.v, .int .i64 y.v.index.v, .slice y.p y.v.data.length y.c]) rfl (cs := #[.int .i64 y.v.op.v, .int .i64 y.v.many.v, .int .i64 y.v.index.v, .slice y.p y.v.data.length y.c]) rfl rfl ?_); intro bk5 w6 H7
  refine r_cons (s_assign (.bool false) rfl rfl ?_)
  refine r_nil ?_
  refine g_seq ?_
  refine g_region ?_
  refine r_cons (s_fieldAddr 51 0 0 0 3 rfl fi_51_0 rfl rfl ?_)
  refine r_cons (s_load (.int .i64 x.v.op.v) ag_3 rfl (H7.blk_at (i := 1) rfl) rfl rfl ?_)
  refine r_cons (s_fieldAddr 51 0 0 0 3 rfl fi_51_0 rfl rfl ?_)
  refine r_cons (s_load (.int .i64 y.v.op.v) ag_3 rfl (H7.blk_at (i := 0) rfl) rfl rfl ?_)
  by_cases hc8 : x.v.op.v = y.v.op.v
  · skip
    refine r_cons (s_eql true rfl rfl (dtrue hc8) rfl ?_)
    refine r_cons (s_move (.bool true) rfl rfl ?_)
    refine r_cons (r_take rfl rfl ?_)
    refine s_fieldAddr 51 1 1 1 3 rfl fi_51_1 rfl rfl ?_
    refine r_cons (r_take rfl rfl ?_)
    refine s_load (.int .i64 x.v.many.v) ag_3 rfl (H7.blk_at (i := 1) rfl) rfl rfl ?_
    refine r_cons (r_take rfl rfl ?_)
    refine s_fieldAddr 51 1 1 1 3 rfl fi_51_1 rfl rfl ?_
    refine r_cons (r_take rfl rfl ?_)
    refine s_load (.int .i64 y.v.many.v) ag_3 rfl (H7.blk_at (i := 0) rfl) rfl rfl ?_
    refine r_cons (r_take rfl rfl ?_)
    by_cases hc9 : x.v.many.v = y.v.many.v
    · skip
      refine s_eql true rfl rfl (dtrue hc9) rfl ?_
      refine r_cons (s_pick_t (.bool true) rfl rfl rfl ?_)
      refine r_cons (s_move (.bool true) rfl rfl ?_)
      refine r_cons (r_take rfl rfl ?_)
      refine s_fieldAddr 51 2 2 2 3 rfl fi_51_2 rfl rfl ?_
      refine r_cons (r_take rfl rfl ?_)
      refine s_load (.int .i64 x.v.index.v) ag_3 rfl (H7.blk_at (i := 1) rfl) rfl rfl ?_
      refine r_cons (r_take rfl rfl ?_)
      refine s_fieldAddr 51 2 2 2 3 rfl fi_51_2 rfl rfl ?_
      refine r_cons (r_take rfl rfl ?_)
      refine s_load (.int .i64 y.v.index.v) ag_3 rfl (H7.blk_at (i := 0) rfl) rfl rfl ?_
      refine r_cons (r_take rfl rfl ?_)
      by_cases hc10 : x.v.index.v = y.v.index.v
      · skip
        refine s_eql true rfl rfl (dtrue hc10) rfl ?_
        refine r_cons (s_pick_t (.bool true) rfl rfl rfl ?_)
        refine r_cons (s_move (.bool true) rfl rfl ?_)
        refine r_cons (r_take rfl rfl ?_)
        refine s_fieldAddr 51 3 3 3 23 rfl fi_51_3 rfl rfl ?_
        refine r_cons (r_take rfl rfl ?_)
        refine s_load (.slice x.p x.v.data.length x.c) ag_23 rfl (H7.blk_at (i := 1) rfl) rfl rfl ?_
        refine r_cons (r_take rfl rfl ?_)
        refine (s_bytes_str (xs := x.v.data) rfl (by rw [bytesV_flat]; exact (Im.rd H7 (i := 3) rfl)) un_23 un_5 un_9 rfl ?_)
        refine r_cons (r_take rfl rfl ?_)
        refine s_fieldAddr 51 3 3 3 23 rfl fi_51_3 rfl rfl ?_
        refine r_cons (r_take rfl rfl ?_)
        refine s_load (.slice y.p y.v.data.length y.c) ag_23 rfl (H7.blk_at (i := 0) rfl) rfl rfl ?_
        refine r_cons (r_take rfl rfl ?_)
        refine (s_bytes_str (xs := y.v.data) rfl (by rw [bytesV_flat]; exact (Im.rd H7 (i := 2) rfl)) un_23 un_5 un_9 rfl ?_)
        refine r_cons (r_take rfl rfl ?_)
        refine s_seql (decide ((⟨(x.v.data).toArray⟩ : ByteArray) = ⟨(y.v.data).toArray⟩)) rfl rfl rfl rfl ?_
        refine r_cons (s_pick_t (.bool (decide ((⟨(x.v.data).toArray⟩ : ByteArray) = ⟨(y.v.data).toArray⟩))) rfl rfl rfl ?_)
        refine r_cons (s_assign (.bool (decide ((⟨(x.v.data).toArray⟩ : ByteArray) = ⟨(y.v.data).toArray⟩))) rfl rfl ?_)
        refine r_nil ?_
        refine g_ret' [.bool (decide ((⟨(x.v.data).toArray⟩ : ByteArray) = ⟨(y.v.data).toArray⟩))] Try.func39 Try.results39 ⟨rfl, trivial⟩ ?_
        have H11 : St W w6 F := ((((H7.drop 0 rfl).drop 0 rfl).drop 0 rfl).drop 0 rfl)
        exact ⟨congrArg Value.bool (by unfold samePc; (try simp only [Bool.and_true, Bool.and_eq_true, Bool.and_eq_false_iff, decide_eq_true_eq, decide_eq_false_iff_not] at *); first | (simp_all; done) | (simp_all; omega)), H11⟩
      · skip
        refine s_eql false rfl rfl (dfalse hc10) rfl ?_
        refine r_cons (s_pick_t (.bool false) rfl rfl rfl ?_)
        refine r_cons (s_move (.bool false) rfl rfl ?_)
        refine r_cons (r_pass rfl rfl rfl rfl rfl ?_)
        refine r_cons (r_pass rfl rfl rfl rfl rfl ?_)
        refine r_cons (r_pass rfl rfl rfl rfl rfl ?_)
        refine r_cons (r_pass rfl rfl rfl rfl rfl ?_)
        refine r_cons (r_pass rfl rfl rfl rfl rfl ?_)
        refine r_cons (r_pass rfl rfl rfl rfl rfl ?_)
        refine r_cons (r_pass rfl rfl rfl rfl rfl ?_)
        refine r_cons (s_pick_f (.bool false) rfl rfl rfl ?_)
        refine r_cons (s_assign (.bool false) rfl rfl ?_)
        refine r_nil ?_
        refine g_ret' [.bool false] Try.func39 Try.results39 ⟨rfl, trivial⟩ ?_
        have H12 : St W w6 F := ((((H7.drop 0 rfl).drop 0 rfl).drop 0 rfl).drop 0 rfl)
        exact ⟨congrArg Value.bool (by unfold samePc; (try simp only [Bool.and_true, Bool.and_eq_true, Bool.and_eq_false_iff, decide_eq_true_eq, decide_eq_false_iff_not] at *); first | (simp_all; done) | (simp_all; omega)), H12⟩
    · skip
      refine s_eql false rfl rfl (dfalse hc9) rfl ?_
      refine r_cons (s_pick_t (.bool false) rfl rfl rfl ?_)
      refine r_cons (s_move (.bool false) rfl rfl ?_)
      refine r_cons (r_pass rfl rfl rfl rfl rfl ?_)
      refine r_cons (r_pass rfl rfl rfl rfl rfl ?_)
      refine r_cons (r_pass rfl rfl rfl rfl rfl ?_)
      refine r_cons (r_pass rfl rfl rfl rfl rfl ?_)
      refine r_cons (r_pass rfl rfl rfl rfl rfl ?_)
      refine r_cons (s_pick_f (.bool false) rfl rfl rfl ?_)
      refine r_cons (s_move (.bool false) rfl rfl ?_)
      refine r_cons (r_pass rfl rfl rfl rfl rfl ?_)
      refine r_cons (r_pass rfl rfl rfl rfl rfl ?_)
      refine r_cons (r_pass rfl rfl rfl rfl rfl ?_)
      refine r_cons (r_pass rfl rfl rfl rfl rfl ?_)
      refine r_cons (r_pass rfl rfl rfl rfl rfl ?_)
      refine r_cons (r_pass rfl rfl rfl rfl rfl ?_)
      refine r_cons (r_pass rfl rfl rfl rfl rfl ?_)
      refine r_cons (s_pick_f (.bool false) rfl rfl rfl ?_)
      refine r_cons (s_assign (.bool false) rfl rfl ?_)
      refine r_nil ?_
      refine g_ret' [.bool false] Try.func39 Try.results39 ⟨rfl, trivial⟩ ?_
      have H13 : St W w6 F := ((((H7.drop 0 rfl).drop 0 rfl).drop 0 rfl).drop 0 rfl)
      exact ⟨congrArg Value.bool (by unfold samePc; (try simp only [Bool.and_true, Bool.and_eq_true, Bool.and_eq_false_iff, decide_eq_true_eq, decide_eq_false_iff_not] at *); first | (simp_all; done) | (simp_all; omega)), H13⟩
  · skip
    refine r_cons (s_eql false rfl rfl (dfalse hc8) rfl ?_)
    refine r_cons (s_move (.bool false) rfl rfl ?_)
    refine r_cons (r_pass rfl rfl rfl rfl rfl ?_)
    refine r_cons (r_pass rfl rfl rfl rfl rfl ?_)
    refine r_cons (r_pass rfl rfl rfl rfl rfl ?_)
    refine r_cons (r_pass rfl rfl rfl rfl rfl ?_)
    refine r_cons (r_pass rfl rfl rfl rfl rfl ?_)
    refine r_cons (s_pick_f (.bool false) rfl rfl rfl ?_)
    refine r_cons (s_move (.bool false) rfl rfl ?_)
    refine r_cons (r_pass rfl rfl rfl rfl rfl ?_)
    refine r_cons (r_pass rfl rfl rfl rfl rfl ?_)
    refine r_cons (r_pass rfl rfl rfl rfl rfl ?_)
    refine r_cons (r_pass rfl rfl rfl rfl rfl ?_)
    refine r_cons (r_pass rfl rfl rfl rfl rfl ?_)
    refine r_cons (s_pick_f (.bool false) rfl rfl rfl ?_)
    refine r_cons (s_move (.bool false) rfl rfl ?_)
    refine r_cons (r_pass rfl rfl rfl rfl rfl ?_)
    refine r_cons (r_pass rfl rfl rfl rfl rfl ?_)
    refine r_cons (r_pass rfl rfl rfl rfl rfl ?_)
    refine r_cons (r_pass rfl rfl rfl rfl rfl ?_)
    refine r_cons (r_pass rfl rfl rfl rfl rfl ?_)
    refine r_cons (r_pass rfl rfl rfl rfl rfl ?_)
    refine r_cons (r_pass rfl rfl rfl rfl rfl ?_)
    refine r_cons (s_pick_f (.bool false) rfl rfl rfl ?_)
    refine r_cons (s_assign (.bool false) rfl rfl ?_)
    refine r_nil ?_
    refine g_ret' [.bool false] Try.func39 Try.results39 ⟨rfl, trivial⟩ ?_
    have H14 : St W w6 F := ((((H7.drop 0 rfl).drop 0 rfl).drop 0 rfl).drop 0 rfl)
    exact ⟨congrArg Value.bool (by unfold samePc; (try simp only [Bool.and_true, Bool.and_eq_true, Bool.and_eq_false_iff, decide_eq_true_eq, decide_eq_false_iff_not] at *); first | (simp_all; done) | (simp_all; omega)), H14⟩
set_option maxHeartbeats 4000000 in
set_option maxRecDepth 100000 in
theorem value_Name {W w : World} {F : List Atom} (s : ByteArray) (hs : s.size ≤ 140737488355328) (H : St W w F) : Calls Try.prog 133 #[.string s] w (Ret fun v w' => v = .bool (nameB s) ∧ St W w' F) := by
  refine calls_of_go (n := 54) Try.func133 rfl Try.ntmps133 rfl ?_
  refine g_seq ?_
  refine g_region ?_
  refine r_cons (s_assign (.bool false) rfl rfl ?_)
  refine r_nil ?_
  refine g_seq ?_
  refine g_seq ?_
  refine g_region ?_
  refine r_cons (s_move (.string s) rfl rfl ?_)
  refine r_cons (s_str_bytes H s rfl us_9 un_23 un_5 rfl ?_); intro bk1 w2 cap4 N5 tl6 hN5 hcap4 htl6 H3
  refine r_cons (s_len s.size rfl ⟨_, un_23⟩ rfl ?_)
  refine r_cons (s_move (.int .i64 0) rfl rfl ?_)
  refine r_nil ?_
  refine g_block ?_
  have H7 : St W w2 (blk bk1 (.cells ((bytesV s.data.toList ++ tl6).toArray) 5 (N5, N5 + 1)) :: F) := H3
  refine g_loop_inv (fun (x_ : Nat) => match x_ with | i => [(7, .slice (some ⟨bk1, 0, none⟩) s.size cap4), (8, .int .i64 (s.size : Int)), (9, .int .i64 (i : Int)), (0, .string s)]) (fun (x_ : Nat) w => match x_ with | i => (i ≤ s.size) ∧ (∀ j, j < i → charB j (bAt s j) = true) ∧ St W w (blk bk1 (.cells ((bytesV s.data.toList ++ tl6).toArray) 5 (N5, N5 + 1)) :: F)) (fun (x_ : Nat) => match x_ with | i => s.size - i) (0) ?_ ?_ ?_
  · exact ⟨by first | rfl | exact vint (by omega), by first | rfl | exact vint (by omega), by first | rfl | exact vint (by omega), by first | rfl | exact vint (by omega), trivial⟩
  · exact ⟨(by omega), (fun j hj => by omega), H7⟩
  · rintro i ρ8 w9 ⟨hi, hz, H10⟩ nx11
    change Ends _ _ (upds ρ8 [(7, .slice (some ⟨bk1, 0, none⟩) s.size cap4), (8, .int .i64 (s.size : Int)), (9, .int .i64 (i : Int)), (0, .string s)]) w9
    refine g_seq ?_
    refine g_region ?_
    by_cases hc12 : (i : Int) < (s.size : Int)
    · skip
      refine r_cons (s_lss true rfl rfl (dtrue hc12) rfl ?_)
      refine r_nil ?_
      refine g_seq ?_
      refine g_true rfl ?_
      refine g_skip ?_
      refine g_seq ?_
      refine g_block ?_
      refine g_seq ?_
      refine g_region ?_
      refine r_cons (s_move (.int .i64 (i : Int)) rfl rfl ?_)
      refine r_cons (s_indexAddr bk1 (i : Int) 1 (0 + i * 1) rfl rfl el_23 (by omega) rfl rfl ?_)
      refine r_cons (s_load (.int .u8 (bAt s i)) ag_5 rfl (H10.blk_at (i := 0) rfl) (by simpa using bytes_get s tl6 i (by omega)) rfl ?_)
      refine r_cons (s_assign (.int .i64 (i : Int)) rfl rfl ?_)
      refine r_cons (s_assign (.int .u8 (bAt s i)) rfl rfl ?_)
      refine r_nil ?_
      refine g_seq ?_
      refine g_cut (fun _ : Unit => [(7, .slice (some ⟨bk1, 0, none⟩) s.size cap4), (8, .int .i64 (s.size : Int)), (9, .int .i64 (i : Int)), (0, .string s), (10, .bool true), (11, .int .i64 (i : Int)), (12, .pointer (some ⟨bk1, 0 + i * 1, none⟩)), (13, .int .u8 (bAt s i)), (3, .int .i64 (i : Int)), (4, .int .u8 (bAt s i)), (5, .bool (letterB (bAt s i)))]) (fun _ w => St W w (blk bk1 (.cells ((bytesV s.data.toList ++ tl6).toArray) 5 (N5, N5 + 1)) :: F)) ?_ ?_
      · rintro ⟨⟩ ρ16 w14 H15
        change Ends _ _ (upds ρ16 [(7, .slice (some ⟨bk1, 0, none⟩) s.size cap4), (8, .int .i64 (s.size : Int)), (9, .int .i64 (i : Int)), (0, .string s), (10, .bool true), (11, .int .i64 (i : Int)), (12, .pointer (some ⟨bk1, 0 + i * 1, none⟩)), (13, .int .u8 (bAt s i)), (3, .int .i64 (i : Int)), (4, .int .u8 (bAt s i)), (5, .bool (letterB (bAt s i)))]) w14
        refine g_seq ?_
        refine g_cut (fun _ : Unit => [(7, .slice (some ⟨bk1, 0, none⟩) s.size cap4), (8, .int .i64 (s.size : Int)), (9, .int .i64 (i : Int)), (0, .string s), (10, .bool true), (11, .int .i64 (i : Int)), (12, .pointer (some ⟨bk1, 0 + i * 1, none⟩)), (13, .int .u8 (bAt s i)), (3, .int .i64 (i : Int)), (4, .int .u8 (bAt s i)), (5, .bool (letterB (bAt s i))), (45, .bool (!charB i (bAt s i)))]) (fun _ w => St W w (blk bk1 (.cells ((bytesV s.data.toList ++ tl6).toArray) 5 (N5, N5 + 1)) :: F)) ?_ ?_
        · rintro ⟨⟩ ρ20 w18 H19
          change Ends _ _ (upds ρ20 [(7, .slice (some ⟨bk1, 0, none⟩) s.size cap4), (8, .int .i64 (s.size : Int)), (9, .int .i64 (i : Int)), (0, .string s), (10, .bool true), (11, .int .i64 (i : Int)), (12, .pointer (some ⟨bk1, 0 + i * 1, none⟩)), (13, .int .u8 (bAt s i)), (3, .int .i64 (i : Int)), (4, .int .u8 (bAt s i)), (5, .bool (letterB (bAt s i))), (45, .bool (!charB i (bAt s i)))]) w18
          by_cases hb21 : (!charB i (bAt s i)) = true
          · skip
            refine g_true (congrArg Value.bool hb21) ?_
            refine g_seq ?_
            refine g_region ?_
            refine r_cons (s_assign (.bool false) rfl rfl ?_)
            refine r_nil ?_
            refine g_ret' [.bool false] Try.func133 Try.results133 ⟨rfl, trivial⟩ ?_
            have H22 : St W w18 F := (H19.drop 0 rfl)
            exact ⟨congrArg Value.bool (by first | exact (nameB_no s i (by omega) (by simpa using hb21)).symm | (rw [nameB_is s (fun j hj => hz j (by omega))]; first | exact (decide_eq_true ⟨by assumption, by omega⟩).symm | exact (decide_eq_false (by intro h; first | exact absurd h.1 (by simpa using ‹_›) | omega)).symm)), H22⟩
          · have hb21 := eq_false_of_ne_true hb21
            refine g_false (congrArg Value.bool hb21) ?_
            refine g_skip ?_
            refine g_inBlock ?_
            refine g_region ?_
            refine r_cons (s_add ((i : Int) + 1) rfl rfl (wi64 (by omega)) rfl ?_)
            refine r_cons (s_move (.int .i64 ((i : Int) + 1)) rfl rfl ?_)
            refine r_nil ?_
            have H23 : St W w18 (blk bk1 (.cells ((bytesV s.data.toList ++ tl6).toArray) 5 (N5, N5 + 1)) :: F) := H19
            exact nx11 (i + 1) _ _ ⟨(by omega), (fun j hj => (Nat.lt_or_ge j i).elim (hz j) (fun h => by rw [show j = i from by omega]; simpa using hb21)), H23⟩ (by first | (dsimp only; omega) | omega) ⟨by first | rfl | exact vint (by omega), by first | rfl | exact vint (by omega), by first | rfl | exact vint (by omega), by first | rfl | exact vint (by omega), trivial⟩
        · intro join17
          refine g_region ?_
          refine r_cons (s_move (.bool (letterB (bAt s i))) rfl rfl ?_)
          refine r_cons (s_not (letterB (bAt s i)) rfl (!(letterB (bAt s i))) rfl rfl ?_)
          refine r_cons (s_move (.bool (!(letterB (bAt s i)))) rfl rfl ?_)
          by_cases hb24 : (!(letterB (bAt s i))) = true
          · skip
            refine r_cons (r_take rfl (congrArg some hb24) ?_)
            refine s_move (.int .i64 (i : Int)) rfl rfl ?_
            refine r_cons (r_take rfl (congrArg some hb24) ?_)
            by_cases hc25 : (i : Int) = 0
            · skip
              refine s_eql true rfl rfl (dtrue hc25) rfl ?_
              refine r_cons (r_take rfl (congrArg some hb24) ?_)
              refine s_move (.bool true) rfl rfl ?_
              refine r_cons (r_pass rfl rfl rfl rfl rfl ?_)
              refine r_cons (r_pass rfl rfl rfl rfl rfl ?_)
              refine r_cons (r_take rfl (congrArg some hb24) ?_)
              refine s_pick_t (.bool true) rfl rfl rfl ?_
              refine r_cons (r_take rfl (congrArg some hb24) ?_)
              refine s_move (.bool true) rfl rfl ?_
              refine r_cons (r_pass rfl rfl rfl rfl rfl ?_)
              refine r_cons (r_pass rfl rfl rfl rfl rfl ?_)
              refine r_cons (r_take rfl (congrArg some hb24) ?_)
              refine s_pick_t (.bool true) rfl rfl rfl ?_
              refine r_cons (s_pick_t (.bool true) (by exact congrArg Value.bool hb24) rfl rfl ?_)
              refine r_nil ?_
              exact join17 () _ _ H15 ⟨rfl, rfl, rfl, rfl, rfl, rfl, rfl, rfl, rfl, rfl, rfl, congrArg Value.bool (by unfold charB; simp [*]; try omega), trivial⟩
            · skip
              refine s_eql false rfl rfl (dfalse hc25) rfl ?_
              refine r_cons (r_take rfl (congrArg some hb24) ?_)
              refine s_move (.bool false) rfl rfl ?_
              refine r_cons (r_take rfl rfl ?_)
              refine s_move (.int .u8 (bAt s i)) rfl rfl ?_
              refine r_cons (r_take rfl rfl ?_)
              by_cases hc26 : bAt s i < 48
              · skip
                refine s_lss true rfl rfl (dtrue hc26) rfl ?_
                refine r_cons (r_take rfl (congrArg some hb24) ?_)
                refine s_pick_f (.bool true) rfl rfl rfl ?_
                refine r_cons (r_take rfl (congrArg some hb24) ?_)
                refine s_move (.bool true) rfl rfl ?_
                refine r_cons (r_pass rfl rfl rfl rfl rfl ?_)
                refine r_cons (r_pass rfl rfl rfl rfl rfl ?_)
                refine r_cons (r_take rfl (congrArg some hb24) ?_)
                refine s_pick_t (.bool true) rfl rfl rfl ?_
                refine r_cons (s_pick_t (.bool true) (by exact congrArg Value.bool hb24) rfl rfl ?_)
                refine r_nil ?_
                exact join17 () _ _ H15 ⟨rfl, rfl, rfl, rfl, rfl, rfl, rfl, rfl, rfl, rfl, rfl, congrArg Value.bool (by unfold charB; simp [*]; try omega), trivial⟩
              · skip
                refine s_lss false rfl rfl (dfalse hc26) rfl ?_
                refine r_cons (r_take rfl (congrArg some hb24) ?_)
                refine s_pick_f (.bool false) rfl rfl rfl ?_
                refine r_cons (r_take rfl (congrArg some hb24) ?_)
                refine s_move (.bool false) rfl rfl ?_
                refine r_cons (r_take rfl rfl ?_)
                refine s_move (.int .u8 (bAt s i)) rfl rfl ?_
                refine r_cons (r_take rfl rfl ?_)
                by_cases hc27 : (57 : Int) < bAt s i
                · skip
                  refine s_gtr true rfl rfl (dtrue hc27) rfl ?_
                  refine r_cons (r_take rfl (congrArg some hb24) ?_)
                  refine s_pick_f (.bool true) rfl rfl rfl ?_
                  refine r_cons (s_pick_t (.bool true) (by exact congrArg Value.bool hb24) rfl rfl ?_)
                  refine r_nil ?_
                  exact join17 () _ _ H15 ⟨rfl, rfl, rfl, rfl, rfl, rfl, rfl, rfl, rfl, rfl, rfl, congrArg Value.bool (by unfold charB; simp [*]; try omega), trivial⟩
                · skip
                  refine s_gtr false rfl rfl (dfalse hc27) rfl ?_
                  refine r_cons (r_take rfl (congrArg some hb24) ?_)
                  refine s_pick_f (.bool false) rfl rfl rfl ?_
                  refine r_cons (s_pick_t (.bool false) (by exact congrArg Value.bool hb24) rfl rfl ?_)
                  refine r_nil ?_
                  exact join17 () _ _ H15 ⟨rfl, rfl, rfl, rfl, rfl, rfl, rfl, rfl, rfl, rfl, rfl, congrArg Value.bool (by unfold charB; simp [*]; try omega), trivial⟩
          · have hb24 := eq_false_of_ne_true hb24
            refine r_cons (r_pass rfl (congrArg some hb24) rfl rfl rfl ?_)
            refine r_cons (r_pass rfl (congrArg some hb24) rfl rfl rfl ?_)
            refine r_cons (r_pass rfl (congrArg some hb24) rfl rfl rfl ?_)
            refine r_cons (r_passN rfl rfl rfl rfl ?_)
            refine r_cons (r_passN rfl rfl rfl rfl ?_)
            refine r_cons (r_pass rfl (congrArg some hb24) rfl rfl rfl ?_)
            refine r_cons (r_pass rfl (congrArg some hb24) rfl rfl rfl ?_)
            refine r_cons (r_passN rfl rfl rfl rfl ?_)
            refine r_cons (r_passN rfl rfl rfl rfl ?_)
            refine r_cons (r_pass rfl (congrArg some hb24) rfl rfl rfl ?_)
            refine r_cons (s_pick_f (.bool false) (by exact congrArg Value.bool hb24) rfl rfl ?_)
            refine r_nil ?_
            exact join17 () _ _ H15 ⟨rfl, rfl, rfl, rfl, rfl, rfl, rfl, rfl, rfl, rfl, rfl, congrArg Value.bool (by unfold charB; simp [*]; try omega), trivial⟩
      · intro join13
        refine g_region ?_
        refine r_cons (s_move (.int .u8 (bAt s i)) rfl rfl ?_)
        by_cases hc28 : bAt s i = 95
        · skip
          refine r_cons (s_eql true rfl rfl (dtrue hc28) rfl ?_)
          refine r_cons (s_move (.bool true) rfl rfl ?_)
          refine r_cons (r_pass rfl rfl rfl rfl rfl ?_)
          refine r_cons (r_pass rfl rfl rfl rfl rfl ?_)
          refine r_cons (r_pass rfl rfl rfl rfl rfl ?_)
          refine r_cons (r_passN rfl rfl rfl rfl ?_)
          refine r_cons (r_passN rfl rfl rfl rfl ?_)
          refine r_cons (r_pass rfl rfl rfl rfl rfl ?_)
          refine r_cons (s_pick_t (.bool true) rfl rfl rfl ?_)
          refine r_cons (s_move (.bool true) rfl rfl ?_)
          refine r_cons (r_pass rfl rfl rfl rfl rfl ?_)
          refine r_cons (r_pass rfl rfl rfl rfl rfl ?_)
          refine r_cons (r_pass rfl rfl rfl rfl rfl ?_)
          refine r_cons (r_passN rfl rfl rfl rfl ?_)
          refine r_cons (r_passN rfl rfl rfl rfl ?_)
          refine r_cons (r_pass rfl rfl rfl rfl rfl ?_)
          refine r_cons (s_pick_t (.bool true) rfl rfl rfl ?_)
          refine r_cons (s_assign (.bool true) rfl rfl ?_)
          refine r_nil ?_
          exact join13 () _ _ H10 ⟨rfl, rfl, rfl, rfl, rfl, rfl, rfl, rfl, rfl, rfl, congrArg Value.bool (by unfold letterB; first | exact (decide_eq_true (by omega)).symm | exact (decide_eq_false (by omega)).symm), trivial⟩
        · skip
          refine r_cons (s_eql false rfl rfl (dfalse hc28) rfl ?_)
          refine r_cons (s_move (.bool false) rfl rfl ?_)
          refine r_cons (r_take rfl rfl ?_)
          refine s_move (.int .u8 (bAt s i)) rfl rfl ?_
          refine r_cons (r_take rfl rfl ?_)
          by_cases hc29 : (97 : Int) ≤ bAt s i
          · skip
            refine s_geq true rfl rfl (dtrue hc29) rfl ?_
            refine r_cons (r_take rfl rfl ?_)
            refine s_move (.bool true) rfl rfl ?_
            refine r_cons (r_take rfl rfl ?_)
            refine s_move (.int .u8 (bAt s i)) rfl rfl ?_
            refine r_cons (r_take rfl rfl ?_)
            by_cases hc30 : bAt s i ≤ 122
            · skip
              refine s_leq true rfl rfl (dtrue hc30) rfl ?_
              refine r_cons (r_take rfl rfl ?_)
              refine s_pick_t (.bool true) rfl rfl rfl ?_
              refine r_cons (s_pick_f (.bool true) rfl rfl rfl ?_)
              refine r_cons (s_move (.bool true) rfl rfl ?_)
              refine r_cons (r_pass rfl rfl rfl rfl rfl ?_)
              refine r_cons (r_pass rfl rfl rfl rfl rfl ?_)
              refine r_cons (r_pass rfl rfl rfl rfl rfl ?_)
              refine r_cons (r_passN rfl rfl rfl rfl ?_)
              refine r_cons (r_passN rfl rfl rfl rfl ?_)
              refine r_cons (r_pass rfl rfl rfl rfl rfl ?_)
              refine r_cons (s_pick_t (.bool true) rfl rfl rfl ?_)
              refine r_cons (s_assign (.bool true) rfl rfl ?_)
              refine r_nil ?_
              exact join13 () _ _ H10 ⟨rfl, rfl, rfl, rfl, rfl, rfl, rfl, rfl, rfl, rfl, congrArg Value.bool (by unfold letterB; first | exact (decide_eq_true (by omega)).symm | exact (decide_eq_false (by omega)).symm), trivial⟩
            · skip
              refine s_leq false rfl rfl (dfalse hc30) rfl ?_
              refine r_cons (r_take rfl rfl ?_)
              refine s_pick_t (.bool false) rfl rfl rfl ?_
              refine r_cons (s_pick_f (.bool false) rfl rfl rfl ?_)
              refine r_cons (s_move (.bool false) rfl rfl ?_)
              refine r_cons (r_take rfl rfl ?_)
              refine s_move (.int .u8 (bAt s i)) rfl rfl ?_
              refine r_cons (r_take rfl rfl ?_)
              refine s_geq true rfl rfl (dtrue (by omega)) rfl ?_
              refine r_cons (r_take rfl rfl ?_)
              refine s_move (.bool true) rfl rfl ?_
              refine r_cons (r_take rfl rfl ?_)
              refine s_move (.int .u8 (bAt s i)) rfl rfl ?_
              refine r_cons (r_take rfl rfl ?_)
              refine s_leq false rfl rfl (dfalse (by omega)) rfl ?_
              refine r_cons (r_take rfl rfl ?_)
              refine s_pick_t (.bool false) rfl rfl rfl ?_
              refine r_cons (s_pick_f (.bool false) rfl rfl rfl ?_)
              refine r_cons (s_assign (.bool false) rfl rfl ?_)
              refine r_nil ?_
              exact join13 () _ _ H10 ⟨rfl, rfl, rfl, rfl, rfl, rfl, rfl, rfl, rfl, rfl, congrArg Value.bool (by unfold letterB; first | exact (decide_eq_true (by omega)).symm | exact (decide_eq_false (by omega)).symm), trivial⟩
          · skip
            refine s_geq false rfl rfl (dfalse hc29) rfl ?_
            refine r_cons (r_take rfl rfl ?_)
            refine s_move (.bool false) rfl rfl ?_
            refine r_cons (r_pass rfl rfl rfl rfl rfl ?_)
            refine r_cons (r_pass rfl rfl rfl rfl rfl ?_)
            refine r_cons (r_take rfl rfl ?_)
            refine s_pick_f (.bool false) rfl rfl rfl ?_
            refine r_cons (s_pick_f (.bool false) rfl rfl rfl ?_)
            refine r_cons (s_move (.bool false) rfl rfl ?_)
            refine r_cons (r_take rfl rfl ?_)
            refine s_move (.int .u8 (bAt s i)) rfl rfl ?_
            refine r_cons (r_take rfl rfl ?_)
            by_cases hc31 : (65 : Int) ≤ bAt s i
            · skip
              refine s_geq true rfl rfl (dtrue hc31) rfl ?_
              refine r_cons (r_take rfl rfl ?_)
              refine s_move (.bool true) rfl rfl ?_
              refine r_cons (r_take rfl rfl ?_)
              refine s_move (.int .u8 (bAt s i)) rfl rfl ?_
              refine r_cons (r_take rfl rfl ?_)
              by_cases hc32 : bAt s i ≤ 90
              · skip
                refine s_leq true rfl rfl (dtrue hc32) rfl ?_
                refine r_cons (r_take rfl rfl ?_)
                refine s_pick_t (.bool true) rfl rfl rfl ?_
                refine r_cons (s_pick_f (.bool true) rfl rfl rfl ?_)
                refine r_cons (s_assign (.bool true) rfl rfl ?_)
                refine r_nil ?_
                exact join13 () _ _ H10 ⟨rfl, rfl, rfl, rfl, rfl, rfl, rfl, rfl, rfl, rfl, congrArg Value.bool (by unfold letterB; first | exact (decide_eq_true (by omega)).symm | exact (decide_eq_false (by omega)).symm), trivial⟩
              · skip
                refine s_leq false rfl rfl (dfalse hc32) rfl ?_
                refine r_cons (r_take rfl rfl ?_)
                refine s_pick_t (.bool false) rfl rfl rfl ?_
                refine r_cons (s_pick_f (.bool false) rfl rfl rfl ?_)
                refine r_cons (s_assign (.bool false) rfl rfl ?_)
                refine r_nil ?_
                exact join13 () _ _ H10 ⟨rfl, rfl, rfl, rfl, rfl, rfl, rfl, rfl, rfl, rfl, congrArg Value.bool (by unfold letterB; first | exact (decide_eq_true (by omega)).symm | exact (decide_eq_false (by omega)).symm), trivial⟩
            · skip
              refine s_geq false rfl rfl (dfalse hc31) rfl ?_
              refine r_cons (r_take rfl rfl ?_)
              refine s_move (.bool false) rfl rfl ?_
              refine r_cons (r_pass rfl rfl rfl rfl rfl ?_)
              refine r_cons (r_pass rfl rfl rfl rfl rfl ?_)
              refine r_cons (r_take rfl rfl ?_)
              refine s_pick_f (.bool false) rfl rfl rfl ?_
              refine r_cons (s_pick_f (.bool false) rfl rfl rfl ?_)
              refine r_cons (s_assign (.bool false) rfl rfl ?_)
              refine r_nil ?_
              exact join13 () _ _ H10 ⟨rfl, rfl, rfl, rfl, rfl, rfl, rfl, rfl, rfl, rfl, congrArg Value.bool (by unfold letterB; first | exact (decide_eq_true (by omega)).symm | exact (decide_eq_false (by omega)).symm), trivial⟩
    · skip
      refine r_cons (s_lss false rfl rfl (dfalse hc12) rfl ?_)
      refine r_nil ?_
      refine g_seq ?_
      refine g_false rfl ?_
      refine g_exit (by rfl) ?_
      refine g_seq ?_
      refine g_region ?_
      refine r_cons (s_move (.string s) rfl rfl ?_)
      by_cases hc33 : s = ByteArray.empty
      · skip
        refine r_cons (s_sneq false rfl rfl (ntrue hc33) rfl ?_)
        refine r_cons (s_move (.bool false) rfl rfl ?_)
        refine r_cons (r_pass rfl rfl rfl rfl rfl ?_)
        refine r_cons (r_pass rfl rfl rfl rfl rfl ?_)
        refine r_cons (r_pass rfl rfl rfl rfl rfl ?_)
        refine r_cons (s_pick_f (.bool false) rfl rfl rfl ?_)
        refine r_cons (s_assign (.bool false) rfl rfl ?_)
        refine r_nil ?_
        refine g_ret' [.bool false] Try.func133 Try.results133 ⟨rfl, trivial⟩ ?_
        have H34 : St W w9 F := (H10.drop 0 rfl)
        exact ⟨congrArg Value.bool (by first | exact (nameB_no s i (by omega) (by simpa using rfl)).symm | (rw [nameB_is s (fun j hj => hz j (by omega))]; first | exact (decide_eq_true ⟨by assumption, by omega⟩).symm | exact (decide_eq_false (by intro h; first | exact absurd h.1 (by simpa using ‹_›) | omega)).symm)), H34⟩
      · skip
        refine r_cons (s_sneq true rfl rfl (nfalse hc33) rfl ?_)
        refine r_cons (s_move (.bool true) rfl rfl ?_)
        refine r_cons (r_take rfl rfl ?_)
        refine s_move (.string s) rfl rfl ?_
        refine r_cons (r_take rfl rfl ?_)
        refine s_len_str (s).size rfl st_9 rfl rfl ?_
        refine r_cons (r_take rfl rfl ?_)
        by_cases hc35 : (s.size : Int) ≤ 32
        · skip
          refine s_leq true rfl rfl (dtrue hc35) rfl ?_
          refine r_cons (s_pick_t (.bool true) rfl rfl rfl ?_)
          refine r_cons (s_assign (.bool true) rfl rfl ?_)
          refine r_nil ?_
          refine g_ret' [.bool true] Try.func133 Try.results133 ⟨rfl, trivial⟩ ?_
          have H36 : St W w9 F := (H10.drop 0 rfl)
          exact ⟨congrArg Value.bool (by first | exact (nameB_no s i (by omega) (by simpa using rfl)).symm | (rw [nameB_is s (fun j hj => hz j (by omega))]; first | exact (decide_eq_true ⟨by assumption, by omega⟩).symm | exact (decide_eq_false (by intro h; first | exact absurd h.1 (by simpa using ‹_›) | omega)).symm)), H36⟩
        · skip
          refine s_leq false rfl rfl (dfalse hc35) rfl ?_
          refine r_cons (s_pick_t (.bool false) rfl rfl rfl ?_)
          refine r_cons (s_assign (.bool false) rfl rfl ?_)
          refine r_nil ?_
          refine g_ret' [.bool false] Try.func133 Try.results133 ⟨rfl, trivial⟩ ?_
          have H37 : St W w9 F := (H10.drop 0 rfl)
          exact ⟨congrArg Value.bool (by first | exact (nameB_no s i (by omega) (by simpa using rfl)).symm | (rw [nameB_is s (fun j hj => hz j (by omega))]; first | exact (decide_eq_true ⟨by assumption, by omega⟩).symm | exact (decide_eq_false (by intro h; first | exact absurd h.1 (by simpa using ‹_›) | omega)).symm)), H37⟩
set_option maxHeartbeats 4000000 in
set_option maxRecDepth 100000 in
theorem value_Check {W w : World} {F : List Atom} (k n : Int) (s : ByteArray) (H : St W w F) : Calls Try.prog 165 #[.agg #[.int .i64 k, .int .i64 n, .string s]] w (Ret fun v w' => v = .int .i64 (valE k n s) ∧ St W w' F) := by
  refine calls_of_go (n := 27) Try.func165 rfl Try.ntmps165 rfl ?_
  refine g_seq ?_
  refine g_region ?_
  refine r_cons (s_box H 211 (.agg #[.int .i64 k, .int .i64 n, .string s]) rfl (cs := #[.int .i64 k, .int .i64 n, .string s]) rfl rfl ?_); intro bk1 w2 H3
  refine r_cons (s_assign (.int .i64 0) rfl rfl ?_)
  refine r_nil ?_
  refine g_seq ?_
  refine g_seq ?_
  refine g_region ?_
  refine r_cons (s_fieldAddr 211 0 0 0 3 rfl fi_211_0 rfl rfl ?_)
  refine r_cons (s_load (.int .i64 k) ag_3 rfl (H3.blk_at (i := 0) rfl) rfl rfl ?_)
  by_cases hc4 : k = 1
  · skip
    refine r_cons (s_eql true rfl rfl (dtrue hc4) rfl ?_)
    refine r_cons (s_move (.bool true) rfl rfl ?_)
    refine r_cons (r_take rfl rfl ?_)
    refine s_fieldAddr 211 2 2 2 9 rfl fi_211_2 rfl rfl ?_
    refine r_cons (r_take rfl rfl ?_)
    refine s_load (.string s) ag_9 rfl (H3.blk_at (i := 0) rfl) rfl rfl ?_
    refine r_cons (r_take rfl rfl ?_)
    by_cases hc5 : s = ByteArray.empty
    · skip
      refine s_seql true rfl rfl (dtrue hc5) rfl ?_
      refine r_cons (s_pick_t (.bool true) rfl rfl rfl ?_)
      refine r_cons (s_move (.bool true) rfl rfl ?_)
      refine r_cons (r_pass rfl rfl rfl rfl rfl ?_)
      refine r_cons (r_pass rfl rfl rfl rfl rfl ?_)
      refine r_cons (r_pass rfl rfl rfl rfl rfl ?_)
      refine r_cons (r_pass rfl rfl rfl rfl rfl ?_)
      refine r_cons (r_passN rfl rfl rfl rfl ?_)
      refine r_cons (r_passN rfl rfl rfl rfl ?_)
      refine r_cons (r_passN rfl rfl rfl rfl ?_)
      refine r_cons (r_pass rfl rfl rfl rfl rfl ?_)
      refine r_cons (r_pass rfl rfl rfl rfl rfl ?_)
      refine r_cons (r_passN rfl rfl rfl rfl ?_)
      refine r_cons (r_passN rfl rfl rfl rfl ?_)
      refine r_cons (r_passN rfl rfl rfl rfl ?_)
      refine r_cons (r_passN rfl rfl rfl rfl ?_)
      refine r_cons (r_pass rfl rfl rfl rfl rfl ?_)
      refine r_cons (s_pick_t (.bool true) rfl rfl rfl ?_)
      refine r_nil ?_
      refine g_true rfl ?_
      refine g_seq ?_
      refine g_region ?_
      refine r_cons (s_assign (.int .i64 0) rfl rfl ?_)
      refine r_nil ?_
      refine g_ret' [.int .i64 0] Try.func165 Try.results165 ⟨rfl, trivial⟩ ?_
      have H6 : St W w2 F := (H3.drop 0 rfl)
      exact ⟨vint (by first | (exfalso; omega) | exact (valE_0 (.inl ⟨by omega, by assumption⟩)).symm | exact (valE_0 (.inr ⟨by omega, by omega, by omega⟩)).symm | exact (valE_30 (by rintro (⟨_, _⟩ | ⟨_, _, _⟩) <;> first | omega | contradiction)).symm), H6⟩
    · skip
      refine s_seql false rfl rfl (dfalse hc5) rfl ?_
      refine r_cons (s_pick_t (.bool false) rfl rfl rfl ?_)
      refine r_cons (s_move (.bool false) rfl rfl ?_)
      refine r_cons (r_take rfl rfl ?_)
      refine s_fieldAddr 211 0 0 0 3 rfl fi_211_0 rfl rfl ?_
      refine r_cons (r_take rfl rfl ?_)
      refine s_load (.int .i64 k) ag_3 rfl (H3.blk_at (i := 0) rfl) rfl rfl ?_
      refine r_cons (r_take rfl rfl ?_)
      refine s_eql false rfl rfl (dfalse (by omega)) rfl ?_
      refine r_cons (r_take rfl rfl ?_)
      refine s_move (.bool false) rfl rfl ?_
      refine r_cons (r_pass rfl rfl rfl rfl rfl ?_)
      refine r_cons (r_pass rfl rfl rfl rfl rfl ?_)
      refine r_cons (r_pass rfl rfl rfl rfl rfl ?_)
      refine r_cons (r_take rfl rfl ?_)
      refine s_pick_f (.bool false) rfl rfl rfl ?_
      refine r_cons (r_take rfl rfl ?_)
      refine s_move (.bool false) rfl rfl ?_
      refine r_cons (r_pass rfl rfl rfl rfl rfl ?_)
      refine r_cons (r_pass rfl rfl rfl rfl rfl ?_)
      refine r_cons (r_pass rfl rfl rfl rfl rfl ?_)
      refine r_cons (r_pass rfl rfl rfl rfl rfl ?_)
      refine r_cons (r_take rfl rfl ?_)
      refine s_pick_f (.bool false) rfl rfl rfl ?_
      refine r_cons (s_pick_f (.bool false) rfl rfl rfl ?_)
      refine r_nil ?_
      refine g_false rfl ?_
      refine g_skip ?_
      refine g_seq ?_
      refine g_region ?_
      refine r_cons (s_assign (.int .i64 30) rfl rfl ?_)
      refine r_nil ?_
      refine g_ret' [.int .i64 30] Try.func165 Try.results165 ⟨rfl, trivial⟩ ?_
      have H7 : St W w2 F := (H3.drop 0 rfl)
      exact ⟨vint (by first | (exfalso; omega) | exact (valE_0 (.inl ⟨by omega, by assumption⟩)).symm | exact (valE_0 (.inr ⟨by omega, by omega, by omega⟩)).symm | exact (valE_30 (by rintro (⟨_, _⟩ | ⟨_, _, _⟩) <;> first | omega | contradiction)).symm), H7⟩
  · skip
    refine r_cons (s_eql false rfl rfl (dfalse hc4) rfl ?_)
    refine r_cons (s_move (.bool false) rfl rfl ?_)
    refine r_cons (r_pass rfl rfl rfl rfl rfl ?_)
    refine r_cons (r_pass rfl rfl rfl rfl rfl ?_)
    refine r_cons (r_pass rfl rfl rfl rfl rfl ?_)
    refine r_cons (s_pick_f (.bool false) rfl rfl rfl ?_)
    refine r_cons (s_move (.bool false) rfl rfl ?_)
    refine r_cons (r_take rfl rfl ?_)
    refine s_fieldAddr 211 0 0 0 3 rfl fi_211_0 rfl rfl ?_
    refine r_cons (r_take rfl rfl ?_)
    refine s_load (.int .i64 k) ag_3 rfl (H3.blk_at (i := 0) rfl) rfl rfl ?_
    refine r_cons (r_take rfl rfl ?_)
    by_cases hc8 : k = 2
    · skip
      refine s_eql true rfl rfl (dtrue hc8) rfl ?_
      refine r_cons (r_take rfl rfl ?_)
      refine s_move (.bool true) rfl rfl ?_
      refine r_cons (r_take rfl rfl ?_)
      refine s_fieldAddr 211 1 1 1 2 rfl fi_211_1 rfl rfl ?_
      refine r_cons (r_take rfl rfl ?_)
      refine s_load (.int .i64 n) ag_2 rfl (H3.blk_at (i := 0) rfl) rfl rfl ?_
      refine r_cons (r_take rfl rfl ?_)
      by_cases hc9 : n = 0
      · skip
        refine s_eql true rfl rfl (dtrue hc9) rfl ?_
        refine r_cons (r_take rfl rfl ?_)
        refine s_pick_t (.bool true) rfl rfl rfl ?_
        refine r_cons (r_take rfl rfl ?_)
        refine s_move (.bool true) rfl rfl ?_
        refine r_cons (r_take rfl rfl ?_)
        refine s_fieldAddr 211 2 2 2 9 rfl fi_211_2 rfl rfl ?_
        refine r_cons (r_take rfl rfl ?_)
        refine s_load (.string s) ag_9 rfl (H3.blk_at (i := 0) rfl) rfl rfl ?_
        refine r_cons (r_take rfl rfl ?_)
        refine s_len_str (s).size rfl st_9 rfl rfl ?_
        refine r_cons (r_take rfl rfl ?_)
        by_cases hc10 : (s.size : Int) ≤ 64
        · skip
          refine s_leq true rfl rfl (dtrue hc10) rfl ?_
          refine r_cons (r_take rfl rfl ?_)
          refine s_pick_t (.bool true) rfl rfl rfl ?_
          refine r_cons (s_pick_f (.bool true) rfl rfl rfl ?_)
          refine r_nil ?_
          refine g_true rfl ?_
          refine g_seq ?_
          refine g_region ?_
          refine r_cons (s_assign (.int .i64 0) rfl rfl ?_)
          refine r_nil ?_
          refine g_ret' [.int .i64 0] Try.func165 Try.results165 ⟨rfl, trivial⟩ ?_
          have H11 : St W w2 F := (H3.drop 0 rfl)
          exact ⟨vint (by first | (exfalso; omega) | exact (valE_0 (.inl ⟨by omega, by assumption⟩)).symm | exact (valE_0 (.inr ⟨by omega, by omega, by omega⟩)).symm | exact (valE_30 (by rintro (⟨_, _⟩ | ⟨_, _, _⟩) <;> first | omega | contradiction)).symm), H11⟩
        · skip
          refine s_leq false rfl rfl (dfalse hc10) rfl ?_
          refine r_cons (r_take rfl rfl ?_)
          refine s_pick_t (.bool false) rfl rfl rfl ?_
          refine r_cons (s_pick_f (.bool false) rfl rfl rfl ?_)
          refine r_nil ?_
          refine g_false rfl ?_
          refine g_skip ?_
          refine g_seq ?_
          refine g_region ?_
          refine r_cons (s_assign (.int .i64 30) rfl rfl ?_)
          refine r_nil ?_
          refine g_ret' [.int .i64 30] Try.func165 Try.results165 ⟨rfl, trivial⟩ ?_
          have H12 : St W w2 F := (H3.drop 0 rfl)
          exact ⟨vint (by first | (exfalso; omega) | exact (valE_0 (.inl ⟨by omega, by assumption⟩)).symm | exact (valE_0 (.inr ⟨by omega, by omega, by omega⟩)).symm | exact (valE_30 (by rintro (⟨_, _⟩ | ⟨_, _, _⟩) <;> first | omega | contradiction)).symm), H12⟩
      · skip
        refine s_eql false rfl rfl (dfalse hc9) rfl ?_
        refine r_cons (r_take rfl rfl ?_)
        refine s_pick_t (.bool false) rfl rfl rfl ?_
        refine r_cons (r_take rfl rfl ?_)
        refine s_move (.bool false) rfl rfl ?_
        refine r_cons (r_pass rfl rfl rfl rfl rfl ?_)
        refine r_cons (r_pass rfl rfl rfl rfl rfl ?_)
        refine r_cons (r_pass rfl rfl rfl rfl rfl ?_)
        refine r_cons (r_pass rfl rfl rfl rfl rfl ?_)
        refine r_cons (r_take rfl rfl ?_)
        refine s_pick_f (.bool false) rfl rfl rfl ?_
        refine r_cons (s_pick_f (.bool false) rfl rfl rfl ?_)
        refine r_nil ?_
        refine g_false rfl ?_
        refine g_skip ?_
        refine g_seq ?_
        refine g_region ?_
        refine r_cons (s_assign (.int .i64 30) rfl rfl ?_)
        refine r_nil ?_
        refine g_ret' [.int .i64 30] Try.func165 Try.results165 ⟨rfl, trivial⟩ ?_
        have H13 : St W w2 F := (H3.drop 0 rfl)
        exact ⟨vint (by first | (exfalso; omega) | exact (valE_0 (.inl ⟨by omega, by assumption⟩)).symm | exact (valE_0 (.inr ⟨by omega, by omega, by omega⟩)).symm | exact (valE_30 (by rintro (⟨_, _⟩ | ⟨_, _, _⟩) <;> first | omega | contradiction)).symm), H13⟩
    · skip
      refine s_eql false rfl rfl (dfalse hc8) rfl ?_
      refine r_cons (r_take rfl rfl ?_)
      refine s_move (.bool false) rfl rfl ?_
      refine r_cons (r_pass rfl rfl rfl rfl rfl ?_)
      refine r_cons (r_pass rfl rfl rfl rfl rfl ?_)
      refine r_cons (r_pass rfl rfl rfl rfl rfl ?_)
      refine r_cons (r_take rfl rfl ?_)
      refine s_pick_f (.bool false) rfl rfl rfl ?_
      refine r_cons (r_take rfl rfl ?_)
      refine s_move (.bool false) rfl rfl ?_
      refine r_cons (r_pass rfl rfl rfl rfl rfl ?_)
      refine r_cons (r_pass rfl rfl rfl rfl rfl ?_)
      refine r_cons (r_pass rfl rfl rfl rfl rfl ?_)
      refine r_cons (r_pass rfl rfl rfl rfl rfl ?_)
      refine r_cons (r_take rfl rfl ?_)
      refine s_pick_f (.bool false) rfl rfl rfl ?_
      refine r_cons (s_pick_f (.bool false) rfl rfl rfl ?_)
      refine r_nil ?_
      refine g_false rfl ?_
      refine g_skip ?_
      refine g_seq ?_
      refine g_region ?_
      refine r_cons (s_assign (.int .i64 30) rfl rfl ?_)
      refine r_nil ?_
      refine g_ret' [.int .i64 30] Try.func165 Try.results165 ⟨rfl, trivial⟩ ?_
      have H14 : St W w2 F := (H3.drop 0 rfl)
      exact ⟨vint (by first | (exfalso; omega) | exact (valE_0 (.inl ⟨by omega, by assumption⟩)).symm | exact (valE_0 (.inr ⟨by omega, by omega, by omega⟩)).symm | exact (valE_30 (by rintro (⟨_, _⟩ | ⟨_, _, _⟩) <;> first | omega | contradiction)).symm), H14⟩
set_option maxHeartbeats 4000000 in
set_option maxRecDepth 100000 in
theorem ref03_Check {W w : World} {F : List Atom} (k n : Int) (s : ByteArray) (H : St W w F) : Calls Try.prog 149 #[.agg #[.int .i64 k, .int .i64 n, .string s]] w (Ret fun v w' => v = .int .i64 (valE k n s) ∧ St W w' F) := by
  refine calls_of_go (n := 27) Try.func149 rfl Try.ntmps149 rfl ?_
  refine g_seq ?_
  refine g_region ?_
  refine r_cons (s_box H 211 (.agg #[.int .i64 k, .int .i64 n, .string s]) rfl (cs := #[.int .i64 k, .int .i64 n, .string s]) rfl rfl ?_); intro bk1 w2 H3
  refine r_cons (s_assign (.int .i64 0) rfl rfl ?_)
  refine r_nil ?_
  refine g_seq ?_
  refine g_seq ?_
  refine g_region ?_
  refine r_cons (s_fieldAddr 211 0 0 0 3 rfl fi_211_0 rfl rfl ?_)
  refine r_cons (s_load (.int .i64 k) ag_3 rfl (H3.blk_at (i := 0) rfl) rfl rfl ?_)
  by_cases hc4 : k = 1
  · skip
    refine r_cons (s_eql true rfl rfl (dtrue hc4) rfl ?_)
    refine r_cons (s_move (.bool true) rfl rfl ?_)
    refine r_cons (r_take rfl rfl ?_)
    refine s_fieldAddr 211 2 2 2 9 rfl fi_211_2 rfl rfl ?_
    refine r_cons (r_take rfl rfl ?_)
    refine s_load (.string s) ag_9 rfl (H3.blk_at (i := 0) rfl) rfl rfl ?_
    refine r_cons (r_take rfl rfl ?_)
    by_cases hc5 : s = ByteArray.empty
    · skip
      refine s_seql true rfl rfl (dtrue hc5) rfl ?_
      refine r_cons (s_pick_t (.bool true) rfl rfl rfl ?_)
      refine r_cons (s_move (.bool true) rfl rfl ?_)
      refine r_cons (r_pass rfl rfl rfl rfl rfl ?_)
      refine r_cons (r_pass rfl rfl rfl rfl rfl ?_)
      refine r_cons (r_pass rfl rfl rfl rfl rfl ?_)
      refine r_cons (r_pass rfl rfl rfl rfl rfl ?_)
      refine r_cons (r_passN rfl rfl rfl rfl ?_)
      refine r_cons (r_passN rfl rfl rfl rfl ?_)
      refine r_cons (r_passN rfl rfl rfl rfl ?_)
      refine r_cons (r_pass rfl rfl rfl rfl rfl ?_)
      refine r_cons (r_pass rfl rfl rfl rfl rfl ?_)
      refine r_cons (r_passN rfl rfl rfl rfl ?_)
      refine r_cons (r_passN rfl rfl rfl rfl ?_)
      refine r_cons (r_passN rfl rfl rfl rfl ?_)
      refine r_cons (r_passN rfl rfl rfl rfl ?_)
      refine r_cons (r_pass rfl rfl rfl rfl rfl ?_)
      refine r_cons (s_pick_t (.bool true) rfl rfl rfl ?_)
      refine r_nil ?_
      refine g_true rfl ?_
      refine g_seq ?_
      refine g_region ?_
      refine r_cons (s_assign (.int .i64 0) rfl rfl ?_)
      refine r_nil ?_
      refine g_ret' [.int .i64 0] Try.func149 Try.results149 ⟨rfl, trivial⟩ ?_
      have H6 : St W w2 F := (H3.drop 0 rfl)
      exact ⟨vint (by first | (exfalso; omega) | exact (valE_0 (.inl ⟨by omega, by assumption⟩)).symm | exact (valE_0 (.inr ⟨by omega, by omega, by omega⟩)).symm | exact (valE_30 (by rintro (⟨_, _⟩ | ⟨_, _, _⟩) <;> first | omega | contradiction)).symm), H6⟩
    · skip
      refine s_seql false rfl rfl (dfalse hc5) rfl ?_
      refine r_cons (s_pick_t (.bool false) rfl rfl rfl ?_)
      refine r_cons (s_move (.bool false) rfl rfl ?_)
      refine r_cons (r_take rfl rfl ?_)
      refine s_fieldAddr 211 0 0 0 3 rfl fi_211_0 rfl rfl ?_
      refine r_cons (r_take rfl rfl ?_)
      refine s_load (.int .i64 k) ag_3 rfl (H3.blk_at (i := 0) rfl) rfl rfl ?_
      refine r_cons (r_take rfl rfl ?_)
      refine s_eql false rfl rfl (dfalse (by omega)) rfl ?_
      refine r_cons (r_take rfl rfl ?_)
      refine s_move (.bool false) rfl rfl ?_
      refine r_cons (r_pass rfl rfl rfl rfl rfl ?_)
      refine r_cons (r_pass rfl rfl rfl rfl rfl ?_)
      refine r_cons (r_pass rfl rfl rfl rfl rfl ?_)
      refine r_cons (r_take rfl rfl ?_)
      refine s_pick_f (.bool false) rfl rfl rfl ?_
      refine r_cons (r_take rfl rfl ?_)
      refine s_move (.bool false) rfl rfl ?_
      refine r_cons (r_pass rfl rfl rfl rfl rfl ?_)
      refine r_cons (r_pass rfl rfl rfl rfl rfl ?_)
      refine r_cons (r_pass rfl rfl rfl rfl rfl ?_)
      refine r_cons (r_pass rfl rfl rfl rfl rfl ?_)
      refine r_cons (r_take rfl rfl ?_)
      refine s_pick_f (.bool false) rfl rfl rfl ?_
      refine r_cons (s_pick_f (.bool false) rfl rfl rfl ?_)
      refine r_nil ?_
      refine g_false rfl ?_
      refine g_skip ?_
      refine g_seq ?_
      refine g_region ?_
      refine r_cons (s_assign (.int .i64 30) rfl rfl ?_)
      refine r_nil ?_
      refine g_ret' [.int .i64 30] Try.func149 Try.results149 ⟨rfl, trivial⟩ ?_
      have H7 : St W w2 F := (H3.drop 0 rfl)
      exact ⟨vint (by first | (exfalso; omega) | exact (valE_0 (.inl ⟨by omega, by assumption⟩)).symm | exact (valE_0 (.inr ⟨by omega, by omega, by omega⟩)).symm | exact (valE_30 (by rintro (⟨_, _⟩ | ⟨_, _, _⟩) <;> first | omega | contradiction)).symm), H7⟩
  · skip
    refine r_cons (s_eql false rfl rfl (dfalse hc4) rfl ?_)
    refine r_cons (s_move (.bool false) rfl rfl ?_)
    refine r_cons (r_pass rfl rfl rfl rfl rfl ?_)
    refine r_cons (r_pass rfl rfl rfl rfl rfl ?_)
    refine r_cons (r_pass rfl rfl rfl rfl rfl ?_)
    refine r_cons (s_pick_f (.bool false) rfl rfl rfl ?_)
    refine r_cons (s_move (.bool false) rfl rfl ?_)
    refine r_cons (r_take rfl rfl ?_)
    refine s_fieldAddr 211 0 0 0 3 rfl fi_211_0 rfl rfl ?_
    refine r_cons (r_take rfl rfl ?_)
    refine s_load (.int .i64 k) ag_3 rfl (H3.blk_at (i := 0) rfl) rfl rfl ?_
    refine r_cons (r_take rfl rfl ?_)
    by_cases hc8 : k = 2
    · skip
      refine s_eql true rfl rfl (dtrue hc8) rfl ?_
      refine r_cons (r_take rfl rfl ?_)
      refine s_move (.bool true) rfl rfl ?_
      refine r_cons (r_take rfl rfl ?_)
      refine s_fieldAddr 211 1 1 1 2 rfl fi_211_1 rfl rfl ?_
      refine r_cons (r_take rfl rfl ?_)
      refine s_load (.int .i64 n) ag_2 rfl (H3.blk_at (i := 0) rfl) rfl rfl ?_
      refine r_cons (r_take rfl rfl ?_)
      by_cases hc9 : n = 0
      · skip
        refine s_eql true rfl rfl (dtrue hc9) rfl ?_
        refine r_cons (r_take rfl rfl ?_)
        refine s_pick_t (.bool true) rfl rfl rfl ?_
        refine r_cons (r_take rfl rfl ?_)
        refine s_move (.bool true) rfl rfl ?_
        refine r_cons (r_take rfl rfl ?_)
        refine s_fieldAddr 211 2 2 2 9 rfl fi_211_2 rfl rfl ?_
        refine r_cons (r_take rfl rfl ?_)
        refine s_load (.string s) ag_9 rfl (H3.blk_at (i := 0) rfl) rfl rfl ?_
        refine r_cons (r_take rfl rfl ?_)
        refine s_len_str (s).size rfl st_9 rfl rfl ?_
        refine r_cons (r_take rfl rfl ?_)
        by_cases hc10 : (s.size : Int) ≤ 64
        · skip
          refine s_leq true rfl rfl (dtrue hc10) rfl ?_
          refine r_cons (r_take rfl rfl ?_)
          refine s_pick_t (.bool true) rfl rfl rfl ?_
          refine r_cons (s_pick_f (.bool true) rfl rfl rfl ?_)
          refine r_nil ?_
          refine g_true rfl ?_
          refine g_seq ?_
          refine g_region ?_
          refine r_cons (s_assign (.int .i64 0) rfl rfl ?_)
          refine r_nil ?_
          refine g_ret' [.int .i64 0] Try.func149 Try.results149 ⟨rfl, trivial⟩ ?_
          have H11 : St W w2 F := (H3.drop 0 rfl)
          exact ⟨vint (by first | (exfalso; omega) | exact (valE_0 (.inl ⟨by omega, by assumption⟩)).symm | exact (valE_0 (.inr ⟨by omega, by omega, by omega⟩)).symm | exact (valE_30 (by rintro (⟨_, _⟩ | ⟨_, _, _⟩) <;> first | omega | contradiction)).symm), H11⟩
        · skip
          refine s_leq false rfl rfl (dfalse hc10) rfl ?_
          refine r_cons (r_take rfl rfl ?_)
          refine s_pick_t (.bool false) rfl rfl rfl ?_
          refine r_cons (s_pick_f (.bool false) rfl rfl rfl ?_)
          refine r_nil ?_
          refine g_false rfl ?_
          refine g_skip ?_
          refine g_seq ?_
          refine g_region ?_
          refine r_cons (s_assign (.int .i64 30) rfl rfl ?_)
          refine r_nil ?_
          refine g_ret' [.int .i64 30] Try.func149 Try.results149 ⟨rfl, trivial⟩ ?_
          have H12 : St W w2 F := (H3.drop 0 rfl)
          exact ⟨vint (by first | (exfalso; omega) | exact (valE_0 (.inl ⟨by omega, by assumption⟩)).symm | exact (valE_0 (.inr ⟨by omega, by omega, by omega⟩)).symm | exact (valE_30 (by rintro (⟨_, _⟩ | ⟨_, _, _⟩) <;> first | omega | contradiction)).symm), H12⟩
      · skip
        refine s_eql false rfl rfl (dfalse hc9) rfl ?_
        refine r_cons (r_take rfl rfl ?_)
        refine s_pick_t (.bool false) rfl rfl rfl ?_
        refine r_cons (r_take rfl rfl ?_)
        refine s_move (.bool false) rfl rfl ?_
        refine r_cons (r_pass rfl rfl rfl rfl rfl ?_)
        refine r_cons (r_pass rfl rfl rfl rfl rfl ?_)
        refine r_cons (r_pass rfl rfl rfl rfl rfl ?_)
        refine r_cons (r_pass rfl rfl rfl rfl rfl ?_)
        refine r_cons (r_take rfl rfl ?_)
        refine s_pick_f (.bool false) rfl rfl rfl ?_
        refine r_cons (s_pick_f (.bool false) rfl rfl rfl ?_)
        refine r_nil ?_
        refine g_false rfl ?_
        refine g_skip ?_
        refine g_seq ?_
        refine g_region ?_
        refine r_cons (s_assign (.int .i64 30) rfl rfl ?_)
        refine r_nil ?_
        refine g_ret' [.int .i64 30] Try.func149 Try.results149 ⟨rfl, trivial⟩ ?_
        have H13 : St W w2 F := (H3.drop 0 rfl)
        exact ⟨vint (by first | (exfalso; omega) | exact (valE_0 (.inl ⟨by omega, by assumption⟩)).symm | exact (valE_0 (.inr ⟨by omega, by omega, by omega⟩)).symm | exact (valE_30 (by rintro (⟨_, _⟩ | ⟨_, _, _⟩) <;> first | omega | contradiction)).symm), H13⟩
    · skip
      refine s_eql false rfl rfl (dfalse hc8) rfl ?_
      refine r_cons (r_take rfl rfl ?_)
      refine s_move (.bool false) rfl rfl ?_
      refine r_cons (r_pass rfl rfl rfl rfl rfl ?_)
      refine r_cons (r_pass rfl rfl rfl rfl rfl ?_)
      refine r_cons (r_pass rfl rfl rfl rfl rfl ?_)
      refine r_cons (r_take rfl rfl ?_)
      refine s_pick_f (.bool false) rfl rfl rfl ?_
      refine r_cons (r_take rfl rfl ?_)
      refine s_move (.bool false) rfl rfl ?_
      refine r_cons (r_pass rfl rfl rfl rfl rfl ?_)
      refine r_cons (r_pass rfl rfl rfl rfl rfl ?_)
      refine r_cons (r_pass rfl rfl rfl rfl rfl ?_)
      refine r_cons (r_pass rfl rfl rfl rfl rfl ?_)
      refine r_cons (r_take rfl rfl ?_)
      refine s_pick_f (.bool false) rfl rfl rfl ?_
      refine r_cons (s_pick_f (.bool false) rfl rfl rfl ?_)
      refine r_nil ?_
      refine g_false rfl ?_
      refine g_skip ?_
      refine g_seq ?_
      refine g_region ?_
      refine r_cons (s_assign (.int .i64 30) rfl rfl ?_)
      refine r_nil ?_
      refine g_ret' [.int .i64 30] Try.func149 Try.results149 ⟨rfl, trivial⟩ ?_
      have H14 : St W w2 F := (H3.drop 0 rfl)
      exact ⟨vint (by first | (exfalso; omega) | exact (valE_0 (.inl ⟨by omega, by assumption⟩)).symm | exact (valE_0 (.inr ⟨by omega, by omega, by omega⟩)).symm | exact (valE_30 (by rintro (⟨_, _⟩ | ⟨_, _, _⟩) <;> first | omega | contradiction)).symm), H14⟩
set_option maxHeartbeats 4000000 in
set_option maxRecDepth 100000 in
theorem value_CheckAttrs {W w : World} {F : List Atom} (ats : List AttrV) (av : Value) {j : Nat} (hj : F[j]? = some (Attrs av ats)) (H : St W w F) : Calls Try.prog 151 #[av] w (Ret fun v w' => v = .int .i64 (attrsE ats) ∧ St W w' F) := by
  obtain ⟨pA1, cA2, gA3, oA4, kA5, eA6, zA7, rfl, hn8, hp9, hx10, hs11, hml, H12⟩ := Im.open_ H hj
  refine calls_of_go (n := 40) Try.func151 rfl Try.ntmps151 rfl ?_
  refine g_seq ?_
  refine g_region ?_
  refine r_cons (s_assign (.int .i64 0) rfl rfl ?_)
  refine r_nil ?_
  refine g_seq ?_
  refine g_seq ?_
  refine g_region ?_
  refine r_cons (s_move (.slice pA1 ats.length cA2) rfl rfl ?_)
  refine r_cons (s_len ats.length rfl ⟨_, un_166⟩ rfl ?_)
  by_cases hc13 : (8 : Int) < (ats.length : Int)
  · skip
    refine r_cons (s_gtr true rfl rfl (dtrue hc13) rfl ?_)
    refine r_nil ?_
    refine g_true rfl ?_
    refine g_seq ?_
    refine g_region ?_
    refine r_cons (s_assign (.int .i64 3) rfl rfl ?_)
    refine r_nil ?_
    refine g_ret' [.int .i64 3] Try.func151 Try.results151 ⟨rfl, trivial⟩ ?_
    have H14 : St W w F := (H12.drop 0 rfl)
    exact ⟨vint (by unfold attrsE; first | rw [if_pos (by omega)] | (rw [if_neg (by omega)]; first | exact (firstNZ_zero (fun j hj => hz j (by omega))).symm | exact (firstNZ_at hz (by first | exact attrE_31 (nottrue ‹_›) | exact attrE_val (notfalse ‹_›) ‹_› | exact attrE_32 (notfalse ‹_›) ‹_› (by omega) ‹_›) (by first | decide | assumption) (by omega)).symm)), H14⟩
  · skip
    refine r_cons (s_gtr false rfl rfl (dfalse hc13) rfl ?_)
    refine r_nil ?_
    refine g_false rfl ?_
    refine g_skip ?_
    refine g_seq ?_
    refine g_seq ?_
    refine g_region ?_
    refine r_cons (s_move (.slice pA1 ats.length cA2) rfl rfl ?_)
    refine r_cons (s_len ats.length rfl ⟨_, un_166⟩ rfl ?_)
    refine r_cons (s_move (.int .i64 0) rfl rfl ?_)
    refine r_nil ?_
    refine g_block ?_
    have H15 : St W w (imi (0 < ats.length) gA3 (.cells kA5 eA6 zA7) :: F) := H12
    refine g_loop_inv (fun (x_ : Nat) => match x_ with | i => [(9, .slice pA1 ats.length cA2), (10, .int .i64 (ats.length : Int)), (11, .int .i64 (i : Int)), (0, .slice pA1 ats.length cA2)]) (fun (x_ : Nat) w => match x_ with | i => (i ≤ ats.length) ∧ (∀ j, j < i → attrE ats j = 0) ∧ St W w (imi (0 < ats.length) gA3 (.cells kA5 eA6 zA7) :: F)) (fun (x_ : Nat) => match x_ with | i => ats.length - i) (0) ?_ ?_ ?_
    · exact ⟨by first | rfl | exact vint (by omega), by first | rfl | exact vint (by omega), by first | rfl | exact vint (by omega), by first | rfl | exact vint (by omega), trivial⟩
    · exact ⟨(by omega), (fun j hj => by omega), H15⟩
    · rintro i ρ16 w17 ⟨hi, hz, H18⟩ nx19
      change Ends _ _ (upds ρ16 [(9, .slice pA1 ats.length cA2), (10, .int .i64 (ats.length : Int)), (11, .int .i64 (i : Int)), (0, .slice pA1 ats.length cA2)]) w17
      refine g_seq ?_
      refine g_region ?_
      by_cases hc20 : (i : Int) < (ats.length : Int)
      · skip
        refine r_cons (s_lss true rfl rfl (dtrue hc20) rfl ?_)
        refine r_nil ?_
        refine g_seq ?_
        refine g_true rfl ?_
        refine g_skip ?_
        refine g_seq ?_
        refine g_block ?_
        refine g_seq ?_
        refine g_region ?_
        refine r_cons (s_move (.int .i64 (i : Int)) rfl rfl ?_)
        refine r_cons (s_indexAddr gA3 (off := oA4) (i : Int) 4 (oA4 + i * 4) (by exact congrArg (fun z_ => Value.slice z_ ats.length cA2) (hp9 (by omega))) rfl el_166 (by omega) rfl rfl ?_)
        refine r_cons (s_loadAgg [.string ((ats.getD i default).name.v), .int .i64 ((ats.getD i default).kind.v), .int .i64 ((ats.getD i default).n.v), .string ((ats.getD i default).s.v)] 4 ag_213 rfl (H18.imi_at (i := 0) rfl (by omega)) (by have := elem_size (i := i) (s := 4) (hs11 (by omega)) (by omega); omega) (elem_take attrCell_len (hx10 (by omega)) (by omega) default) rfl ?_)
        refine r_cons (s_alloc H18 213 ze_213 rfl ?_); intro bk21 w22 H23
        refine r_cons (s_assign (.int .i64 (i : Int)) rfl rfl ?_)
        refine r_cons (s_storeAgg H23 0 #[.string ((ats.getD i default).name.v), .int .i64 ((ats.getD i default).kind.v), .int .i64 ((ats.getD i default).n.v), .string ((ats.getD i default).s.v)] 4 rfl rfl rfl sz_213 rfl (by simp [Value.oneCell']) (Nat.le_of_ble_eq_true rfl) (fun o h1 h2 => by first | (simp; done) | (simp; omega)) (cs' := #[.string ((ats.getD i default).name.v), .int .i64 ((ats.getD i default).kind.v), .int .i64 ((ats.getD i default).n.v), .string ((ats.getD i default).s.v)]) rfl ?_); intro w24 H25
        refine r_nil ?_
        refine g_seq ?_
        refine g_seq ?_
        refine g_region ?_
        refine r_cons (s_fieldAddr 213 0 0 0 9 rfl fi_213_0 rfl rfl ?_)
        refine r_cons (s_load (.string ((ats.getD i default).name.v)) ag_9 rfl (H25.blk_at (i := 0) rfl) rfl rfl ?_)
        refine r_cons (s_call [.string ((ats.getD i default).name.v)] pl_133 rfl rfl (value_Name ((ats.getD i default).name.v) (ats.getD i default).name.ok H25) ?_)
        rintro _ w26 ⟨rfl, H27⟩
        refine r_cons (s_not (nameB ((ats.getD i default).name.v)) rfl (!(nameB ((ats.getD i default).name.v))) rfl rfl ?_)
        refine r_nil ?_
        by_cases hb28 : (!(nameB ((ats.getD i default).name.v))) = true
        · skip
          refine g_true (congrArg Value.bool hb28) ?_
          refine g_seq ?_
          refine g_region ?_
          refine r_cons (s_assign (.int .i64 31) rfl rfl ?_)
          refine r_nil ?_
          refine g_ret' [.int .i64 31] Try.func151 Try.results151 ⟨rfl, trivial⟩ ?_
          have H29 : St W w26 F := ((H27.drop 0 rfl).drop 0 rfl)
          exact ⟨vint (by unfold attrsE; first | rw [if_pos (by omega)] | (rw [if_neg (by omega)]; first | exact (firstNZ_zero (fun j hj => hz j (by omega))).symm | exact (firstNZ_at hz (by first | exact attrE_31 (nottrue ‹_›) | exact attrE_val (notfalse ‹_›) ‹_› | exact attrE_32 (notfalse ‹_›) ‹_› (by omega) ‹_›) (by first | decide | assumption) (by omega)).symm)), H29⟩
        · have hb28 := eq_false_of_ne_true hb28
          refine g_false (congrArg Value.bool hb28) ?_
          refine g_skip ?_
          refine g_seq ?_
          refine g_seq ?_
          refine g_region ?_
          refine r_cons (s_fieldAddr 213 1 1 1 211 rfl fi_213_1 rfl rfl ?_)
          refine r_cons (s_loadAgg [.int .i64 ((ats.getD i default).kind.v), .int .i64 ((ats.getD i default).n.v), .string ((ats.getD i default).s.v)] 3 ag_211 rfl (H27.blk_at (i := 0) rfl) (Nat.le_of_ble_eq_true rfl) rfl rfl ?_)
          refine r_cons (s_call [.agg #[.int .i64 ((ats.getD i default).kind.v), .int .i64 ((ats.getD i default).n.v), .string ((ats.getD i default).s.v)]] pl_165 rfl rfl (value_Check ((ats.getD i default).kind.v) ((ats.getD i default).n.v) ((ats.getD i default).s.v) H27) ?_)
          rintro _ w30 ⟨rfl, H31⟩
          refine r_cons (s_assign (.int .i64 (valE ((ats.getD i default).kind.v) ((ats.getD i default).n.v) ((ats.getD i default).s.v))) rfl rfl ?_)
          refine r_nil ?_
          refine g_seq ?_
          refine g_region ?_
          refine r_cons (s_move (.int .i64 (valE ((ats.getD i default).kind.v) ((ats.getD i default).n.v) ((ats.getD i default).s.v))) rfl rfl ?_)
          by_cases hc32 : valE ((ats.getD i default).kind.v) ((ats.getD i default).n.v) ((ats.getD i default).s.v) = 0
          · skip
            refine r_cons (s_neq false rfl rfl (ntrue hc32) rfl ?_)
            refine r_nil ?_
            refine g_false rfl ?_
            refine g_skip ?_
            refine g_seq ?_
            refine g_quiet (fun w' => St W w' (blk bk21 (.cells #[.string ((ats.getD i default).name.v), .int .i64 ((ats.getD i default).kind.v), .int .i64 ((ats.getD i default).n.v), .string ((ats.getD i default).s.v)] 213 (0, 0)) :: imi (0 < ats.length) gA3 (.cells kA5 eA6 zA7) :: F)) mixed (by kernel_rfl) H31.drew ?_
            refine q_cons (q_val rfl rfl rfl (by intro w hw; exact x_move (.int .i64 (i : Int)) rfl w) ?_)
            by_cases hc33 : (0 : Int) < (i : Int)
            · skip
              refine q_cons (q_val rfl rfl rfl (by intro w hw; exact x_gtr true rfl rfl (dtrue hc33) w) ?_)
              refine q_cons (q_val rfl rfl rfl (by intro w hw; exact x_move (.bool true) rfl w) ?_)
              refine q_cons (q_take rfl rfl ?_)
              refine q_val rfl rfl rfl (by intro w hw; exact x_fieldAddr 213 0 0 0 9 rfl fi_213_0 rfl w) ?_
              refine q_cons (q_take rfl rfl ?_)
              refine q_val rfl rfl rfl (by intro w hw; exact x_load (.string ((ats.getD i default).name.v)) ag_9 rfl (hw.blk_at (i := 0) rfl) rfl) ?_
              refine q_cons (q_take rfl rfl ?_)
              refine q_val rfl rfl rfl (by intro w hw; exact x_move (.slice pA1 ats.length cA2) rfl w) ?_
              refine q_cons (q_take rfl rfl ?_)
              refine q_val rfl rfl rfl (by intro w hw; exact x_move (.int .i64 (i : Int)) rfl w) ?_
              refine q_cons (q_take rfl rfl ?_)
              refine q_val rfl rfl rfl (by intro w hw; exact x_sub ((i : Int) - 1) rfl rfl (wi64 (by omega)) w) ?_
              refine q_cons (q_take rfl rfl ?_)
              refine q_val rfl rfl rfl (by intro w hw; exact x_indexAddr gA3 (off := oA4) ((i : Int) - 1) 4 (oA4 + (i - 1) * 4) (by exact congrArg (fun z_ => Value.slice z_ ats.length cA2) (hp9 (by omega))) rfl el_166 (by omega) (by rw [show ((i : Int) - 1 : Int).toNat = i - 1 from by omega]) w) ?_
              refine q_cons (q_take rfl rfl ?_)
              refine q_val rfl rfl rfl (by intro w hw; exact x_fieldAddr 213 0 0 (oA4 + (i - 1) * 4) 9 rfl fi_213_0 rfl w) ?_
              refine q_cons (q_take rfl rfl ?_)
              refine q_val rfl rfl rfl (by intro w hw; exact x_load (.string ((ats.getD (i - 1) default).name.v)) ag_9 rfl (hw.imi_at (i := 1) rfl (by omega)) (elem_cell (L := ats) (i := i - 1) attrCell_len (hx10 (by omega)) (by omega) default 0 (by decide) _ rfl)) ?_
              refine q_cons (q_take rfl rfl ?_)
              refine q_val rfl rfl rfl (by intro w hw; exact x_sleq ((sLt ((ats.getD i default).name.v) ((ats.getD (i - 1) default).name.v) || decide (((ats.getD i default).name.v) = ((ats.getD (i - 1) default).name.v)))) rfl rfl rfl w) ?_
              refine q_cons (q_val rfl rfl rfl (by intro w hw; exact x_pick_t (.bool (sLt ((ats.getD i default).name.v) ((ats.getD (i - 1) default).name.v) || decide (((ats.getD i default).name.v) = ((ats.getD (i - 1) default).name.v)))) rfl rfl w) ?_)
              refine q_nil ?_
              intro w34 H35
              by_cases hb36 : ((sLt ((ats.getD i default).name.v) ((ats.getD (i - 1) default).name.v) || decide (((ats.getD i default).name.v) = ((ats.getD (i - 1) default).name.v)))) = true
              · skip
                refine g_true (congrArg Value.bool hb36) ?_
                refine g_seq ?_
                refine g_region ?_
                refine r_cons (s_assign (.int .i64 32) rfl rfl ?_)
                refine r_nil ?_
                refine g_ret' [.int .i64 32] Try.func151 Try.results151 ⟨rfl, trivial⟩ ?_
                have H37 : St W w34 F := ((H35.drop 0 rfl).drop 0 rfl)
                exact ⟨vint (by unfold attrsE; first | rw [if_pos (by omega)] | (rw [if_neg (by omega)]; first | exact (firstNZ_zero (fun j hj => hz j (by omega))).symm | exact (firstNZ_at hz (by first | exact attrE_31 (nottrue ‹_›) | exact attrE_val (notfalse ‹_›) ‹_› | exact attrE_32 (notfalse ‹_›) ‹_› (by omega) ‹_›) (by first | decide | assumption) (by omega)).symm)), H37⟩
              · have hb36 := eq_false_of_ne_true hb36
                refine g_false (congrArg Value.bool hb36) ?_
                refine g_skip ?_
                refine g_inBlock ?_
                refine g_region ?_
                refine r_cons (s_add ((i : Int) + 1) rfl rfl (wi64 (by omega)) rfl ?_)
                refine r_cons (s_move (.int .i64 ((i : Int) + 1)) rfl rfl ?_)
                refine r_nil ?_
                have H38 : St W w34 (imi (0 < ats.length) gA3 (.cells kA5 eA6 zA7) :: F) := ((H35.move 1 rfl).drop 1 rfl)
                exact nx19 (i + 1) _ _ ⟨(by omega), (fun j hj => (Nat.lt_or_ge j i).elim (hz j) (fun h => by rw [show j = i from by omega]; exact attrE_0 (notfalse ‹_›) ‹_› (fun h0 => by first | (exfalso; omega) | assumption))), H38⟩ (by first | (dsimp only; omega) | omega) ⟨by first | rfl | exact vint (by omega), by first | rfl | exact vint (by omega), by first | rfl | exact vint (by omega), by first | rfl | exact vint (by omega), trivial⟩
            · skip
              refine q_cons (q_val rfl rfl rfl (by intro w hw; exact x_gtr false rfl rfl (dfalse hc33) w) ?_)
              refine q_cons (q_val rfl rfl rfl (by intro w hw; exact x_move (.bool false) rfl w) ?_)
              refine q_cons (q_pass rfl rfl rfl rfl rfl ?_)
              refine q_cons (q_pass rfl rfl rfl rfl rfl ?_)
              refine q_cons (q_pass rfl rfl rfl rfl rfl ?_)
              refine q_cons (q_pass rfl rfl rfl rfl rfl ?_)
              refine q_cons (q_pass rfl rfl rfl rfl rfl ?_)
              refine q_cons (q_pass rfl rfl rfl rfl rfl ?_)
              refine q_cons (q_pass rfl rfl rfl rfl rfl ?_)
              refine q_cons (q_pass rfl rfl rfl rfl rfl ?_)
              refine q_cons (q_pass rfl rfl rfl rfl rfl ?_)
              refine q_cons (q_val rfl rfl rfl (by intro w hw; exact x_pick_f (.bool false) rfl rfl w) ?_)
              refine q_nil ?_
              intro w39 H40
              refine g_false rfl ?_
              refine g_skip ?_
              refine g_inBlock ?_
              refine g_region ?_
              refine r_cons (s_add ((i : Int) + 1) rfl rfl (wi64 (by omega)) rfl ?_)
              refine r_cons (s_move (.int .i64 ((i : Int) + 1)) rfl rfl ?_)
              refine r_nil ?_
              have H41 : St W w39 (imi (0 < ats.length) gA3 (.cells kA5 eA6 zA7) :: F) := ((H40.move 1 rfl).drop 1 rfl)
              exact nx19 (i + 1) _ _ ⟨(by omega), (fun j hj => (Nat.lt_or_ge j i).elim (hz j) (fun h => by rw [show j = i from by omega]; exact attrE_0 (notfalse ‹_›) ‹_› (fun h0 => by first | (exfalso; omega) | assumption))), H41⟩ (by first | (dsimp only; omega) | omega) ⟨by first | rfl | exact vint (by omega), by first | rfl | exact vint (by omega), by first | rfl | exact vint (by omega), by first | rfl | exact vint (by omega), trivial⟩
          · skip
            refine r_cons (s_neq true rfl rfl (nfalse hc32) rfl ?_)
            refine r_nil ?_
            refine g_true rfl ?_
            refine g_seq ?_
            refine g_region ?_
            refine r_cons (s_move (.int .i64 (valE ((ats.getD i default).kind.v) ((ats.getD i default).n.v) ((ats.getD i default).s.v))) rfl rfl ?_)
            refine r_cons (s_assign (.int .i64 (valE ((ats.getD i default).kind.v) ((ats.getD i default).n.v) ((ats.getD i default).s.v))) rfl rfl ?_)
            refine r_nil ?_
            refine g_ret' [.int .i64 (valE ((ats.getD i default).kind.v) ((ats.getD i default).n.v) ((ats.getD i default).s.v))] Try.func151 Try.results151 ⟨rfl, trivial⟩ ?_
            have H42 : St W w30 F := ((H31.drop 0 rfl).drop 0 rfl)
            exact ⟨vint (by unfold attrsE; first | rw [if_pos (by omega)] | (rw [if_neg (by omega)]; first | exact (firstNZ_zero (fun j hj => hz j (by omega))).symm | exact (firstNZ_at hz (by first | exact attrE_31 (nottrue ‹_›) | exact attrE_val (notfalse ‹_›) ‹_› | exact attrE_32 (notfalse ‹_›) ‹_› (by omega) ‹_›) (by first | decide | assumption) (by omega)).symm)), H42⟩
      · skip
        refine r_cons (s_lss false rfl rfl (dfalse hc20) rfl ?_)
        refine r_nil ?_
        refine g_seq ?_
        refine g_false rfl ?_
        refine g_exit (by rfl) ?_
        refine g_seq ?_
        refine g_region ?_
        refine r_cons (s_assign (.int .i64 0) rfl rfl ?_)
        refine r_nil ?_
        refine g_ret' [.int .i64 0] Try.func151 Try.results151 ⟨rfl, trivial⟩ ?_
        have H43 : St W w17 F := (H18.drop 0 rfl)
        exact ⟨vint (by unfold attrsE; first | rw [if_pos (by omega)] | (rw [if_neg (by omega)]; first | exact (firstNZ_zero (fun j hj => hz j (by omega))).symm | exact (firstNZ_at hz (by first | exact attrE_31 (nottrue ‹_›) | exact attrE_val (notfalse ‹_›) ‹_› | exact attrE_32 (notfalse ‹_›) ‹_› (by omega) ‹_›) (by first | decide | assumption) (by omega)).symm)), H43⟩
set_option maxHeartbeats 4000000 in
set_option maxRecDepth 100000 in
theorem ref03_letter {W w : World} {F : List Atom} (c : Int) (H : St W w F) : Calls Try.prog 130 #[.int .u8 c] w (Ret fun v w' => v = .bool (letterB c) ∧ St W w' F) := by
  refine calls_of_go (n := 21) Try.func130 rfl Try.ntmps130 rfl ?_
  refine g_seq ?_
  refine g_region ?_
  refine r_cons (s_assign (.bool false) rfl rfl ?_)
  refine r_nil ?_
  refine g_seq ?_
  refine g_region ?_
  refine r_cons (s_move (.int .u8 c) rfl rfl ?_)
  by_cases hc1 : (97 : Int) ≤ c
  · skip
    refine r_cons (s_geq true rfl rfl (dtrue hc1) rfl ?_)
    refine r_cons (s_move (.bool true) rfl rfl ?_)
    refine r_cons (r_take rfl rfl ?_)
    refine s_move (.int .u8 c) rfl rfl ?_
    refine r_cons (r_take rfl rfl ?_)
    by_cases hc2 : c ≤ 122
    · skip
      refine s_leq true rfl rfl (dtrue hc2) rfl ?_
      refine r_cons (s_pick_t (.bool true) rfl rfl rfl ?_)
      refine r_cons (s_move (.bool true) rfl rfl ?_)
      refine r_cons (r_pass rfl rfl rfl rfl rfl ?_)
      refine r_cons (r_pass rfl rfl rfl rfl rfl ?_)
      refine r_cons (r_pass rfl rfl rfl rfl rfl ?_)
      refine r_cons (r_passN rfl rfl rfl rfl ?_)
      refine r_cons (r_passN rfl rfl rfl rfl ?_)
      refine r_cons (r_pass rfl rfl rfl rfl rfl ?_)
      refine r_cons (s_pick_t (.bool true) rfl rfl rfl ?_)
      refine r_cons (s_move (.bool true) rfl rfl ?_)
      refine r_cons (r_pass rfl rfl rfl rfl rfl ?_)
      refine r_cons (r_pass rfl rfl rfl rfl rfl ?_)
      refine r_cons (s_pick_t (.bool true) rfl rfl rfl ?_)
      refine r_cons (s_assign (.bool true) rfl rfl ?_)
      refine r_nil ?_
      refine g_ret' [.bool true] Try.func130 Try.results130 ⟨rfl, trivial⟩ ?_
      exact ⟨congrArg Value.bool (by unfold letterB; first | exact (decide_eq_true (by omega)).symm | exact (decide_eq_false (by omega)).symm), H⟩
    · skip
      refine s_leq false rfl rfl (dfalse hc2) rfl ?_
      refine r_cons (s_pick_t (.bool false) rfl rfl rfl ?_)
      refine r_cons (s_move (.bool false) rfl rfl ?_)
      refine r_cons (r_take rfl rfl ?_)
      refine s_move (.int .u8 c) rfl rfl ?_
      refine r_cons (r_take rfl rfl ?_)
      refine s_geq true rfl rfl (dtrue (by omega)) rfl ?_
      refine r_cons (r_take rfl rfl ?_)
      refine s_move (.bool true) rfl rfl ?_
      refine r_cons (r_take rfl rfl ?_)
      refine s_move (.int .u8 c) rfl rfl ?_
      refine r_cons (r_take rfl rfl ?_)
      refine s_leq false rfl rfl (dfalse (by omega)) rfl ?_
      refine r_cons (r_take rfl rfl ?_)
      refine s_pick_t (.bool false) rfl rfl rfl ?_
      refine r_cons (s_pick_f (.bool false) rfl rfl rfl ?_)
      refine r_cons (s_move (.bool false) rfl rfl ?_)
      refine r_cons (r_take rfl rfl ?_)
      refine s_move (.int .u8 c) rfl rfl ?_
      refine r_cons (r_take rfl rfl ?_)
      refine s_eql false rfl rfl (dfalse (by omega)) rfl ?_
      refine r_cons (s_pick_f (.bool false) rfl rfl rfl ?_)
      refine r_cons (s_assign (.bool false) rfl rfl ?_)
      refine r_nil ?_
      refine g_ret' [.bool false] Try.func130 Try.results130 ⟨rfl, trivial⟩ ?_
      exact ⟨congrArg Value.bool (by unfold letterB; first | exact (decide_eq_true (by omega)).symm | exact (decide_eq_false (by omega)).symm), H⟩
  · skip
    refine r_cons (s_geq false rfl rfl (dfalse hc1) rfl ?_)
    refine r_cons (s_move (.bool false) rfl rfl ?_)
    refine r_cons (r_pass rfl rfl rfl rfl rfl ?_)
    refine r_cons (r_pass rfl rfl rfl rfl rfl ?_)
    refine r_cons (s_pick_f (.bool false) rfl rfl rfl ?_)
    refine r_cons (s_move (.bool false) rfl rfl ?_)
    refine r_cons (r_take rfl rfl ?_)
    refine s_move (.int .u8 c) rfl rfl ?_
    refine r_cons (r_take rfl rfl ?_)
    by_cases hc3 : (65 : Int) ≤ c
    · skip
      refine s_geq true rfl rfl (dtrue hc3) rfl ?_
      refine r_cons (r_take rfl rfl ?_)
      refine s_move (.bool true) rfl rfl ?_
      refine r_cons (r_take rfl rfl ?_)
      refine s_move (.int .u8 c) rfl rfl ?_
      refine r_cons (r_take rfl rfl ?_)
      by_cases hc4 : c ≤ 90
      · skip
        refine s_leq true rfl rfl (dtrue hc4) rfl ?_
        refine r_cons (r_take rfl rfl ?_)
        refine s_pick_t (.bool true) rfl rfl rfl ?_
        refine r_cons (s_pick_f (.bool true) rfl rfl rfl ?_)
        refine r_cons (s_move (.bool true) rfl rfl ?_)
        refine r_cons (r_pass rfl rfl rfl rfl rfl ?_)
        refine r_cons (r_pass rfl rfl rfl rfl rfl ?_)
        refine r_cons (s_pick_t (.bool true) rfl rfl rfl ?_)
        refine r_cons (s_assign (.bool true) rfl rfl ?_)
        refine r_nil ?_
        refine g_ret' [.bool true] Try.func130 Try.results130 ⟨rfl, trivial⟩ ?_
        exact ⟨congrArg Value.bool (by unfold letterB; first | exact (decide_eq_true (by omega)).symm | exact (decide_eq_false (by omega)).symm), H⟩
      · skip
        refine s_leq false rfl rfl (dfalse hc4) rfl ?_
        refine r_cons (r_take rfl rfl ?_)
        refine s_pick_t (.bool false) rfl rfl rfl ?_
        refine r_cons (s_pick_f (.bool false) rfl rfl rfl ?_)
        refine r_cons (s_move (.bool false) rfl rfl ?_)
        refine r_cons (r_take rfl rfl ?_)
        refine s_move (.int .u8 c) rfl rfl ?_
        refine r_cons (r_take rfl rfl ?_)
        by_cases hc5 : c = 95
        · skip
          refine s_eql true rfl rfl (dtrue hc5) rfl ?_
          refine r_cons (s_pick_f (.bool true) rfl rfl rfl ?_)
          refine r_cons (s_assign (.bool true) rfl rfl ?_)
          refine r_nil ?_
          refine g_ret' [.bool true] Try.func130 Try.results130 ⟨rfl, trivial⟩ ?_
          exact ⟨congrArg Value.bool (by unfold letterB; first | exact (decide_eq_true (by omega)).symm | exact (decide_eq_false (by omega)).symm), H⟩
        · skip
          refine s_eql false rfl rfl (dfalse hc5) rfl ?_
          refine r_cons (s_pick_f (.bool false) rfl rfl rfl ?_)
          refine r_cons (s_assign (.bool false) rfl rfl ?_)
          refine r_nil ?_
          refine g_ret' [.bool false] Try.func130 Try.results130 ⟨rfl, trivial⟩ ?_
          exact ⟨congrArg Value.bool (by unfold letterB; first | exact (decide_eq_true (by omega)).symm | exact (decide_eq_false (by omega)).symm), H⟩
    · skip
      refine s_geq false rfl rfl (dfalse hc3) rfl ?_
      refine r_cons (r_take rfl rfl ?_)
      refine s_move (.bool false) rfl rfl ?_
      refine r_cons (r_pass rfl rfl rfl rfl rfl ?_)
      refine r_cons (r_pass rfl rfl rfl rfl rfl ?_)
      refine r_cons (r_take rfl rfl ?_)
      refine s_pick_f (.bool false) rfl rfl rfl ?_
      refine r_cons (s_pick_f (.bool false) rfl rfl rfl ?_)
      refine r_cons (s_move (.bool false) rfl rfl ?_)
      refine r_cons (r_take rfl rfl ?_)
      refine s_move (.int .u8 c) rfl rfl ?_
      refine r_cons (r_take rfl rfl ?_)
      refine s_eql false rfl rfl (dfalse (by omega)) rfl ?_
      refine r_cons (s_pick_f (.bool false) rfl rfl rfl ?_)
      refine r_cons (s_assign (.bool false) rfl rfl ?_)
      refine r_nil ?_
      refine g_ret' [.bool false] Try.func130 Try.results130 ⟨rfl, trivial⟩ ?_
      exact ⟨congrArg Value.bool (by unfold letterB; first | exact (decide_eq_true (by omega)).symm | exact (decide_eq_false (by omega)).symm), H⟩
set_option maxHeartbeats 4000000 in
set_option maxRecDepth 100000 in
theorem ref03_Name {W w : World} {F : List Atom} (s : ByteArray) (hs : s.size ≤ 140737488355328) (H : St W w F) : Calls Try.prog 102 #[.string s] w (Ret fun v w' => v = .bool (nameB s) ∧ St W w' F) := by
  refine calls_of_go (n := 38) Try.func102 rfl Try.ntmps102 rfl ?_
  refine g_seq ?_
  refine g_region ?_
  refine r_cons (s_assign (.bool false) rfl rfl ?_)
  refine r_nil ?_
  refine g_seq ?_
  refine g_seq ?_
  refine g_region ?_
  refine r_cons (s_move (.string s) rfl rfl ?_)
  by_cases hc1 : s = ByteArray.empty
  · skip
    refine r_cons (s_seql true rfl rfl (dtrue hc1) rfl ?_)
    refine r_cons (s_move (.bool true) rfl rfl ?_)
    refine r_cons (r_pass rfl rfl rfl rfl rfl ?_)
    refine r_cons (r_pass rfl rfl rfl rfl rfl ?_)
    refine r_cons (r_pass rfl rfl rfl rfl rfl ?_)
    refine r_cons (s_pick_t (.bool true) rfl rfl rfl ?_)
    refine r_nil ?_
    refine g_true rfl ?_
    refine g_seq ?_
    refine g_region ?_
    refine r_cons (s_assign (.bool false) rfl rfl ?_)
    refine r_nil ?_
    refine g_ret' [.bool false] Try.func102 Try.results102 ⟨rfl, trivial⟩ ?_
    have H2 : St W w F := H
    exact ⟨congrArg Value.bool (show nameB s = false by first | exact nameB_empty ‹_› | exact nameB_long (by omega)).symm, H2⟩
  · skip
    refine r_cons (s_seql false rfl rfl (dfalse hc1) rfl ?_)
    refine r_cons (s_move (.bool false) rfl rfl ?_)
    refine r_cons (r_take rfl rfl ?_)
    refine s_move (.string s) rfl rfl ?_
    refine r_cons (r_take rfl rfl ?_)
    refine s_len_str (s).size rfl st_9 rfl rfl ?_
    refine r_cons (r_take rfl rfl ?_)
    by_cases hc3 : (32 : Int) < (s.size : Int)
    · skip
      refine s_gtr true rfl rfl (dtrue hc3) rfl ?_
      refine r_cons (s_pick_f (.bool true) rfl rfl rfl ?_)
      refine r_nil ?_
      refine g_true rfl ?_
      refine g_seq ?_
      refine g_region ?_
      refine r_cons (s_assign (.bool false) rfl rfl ?_)
      refine r_nil ?_
      refine g_ret' [.bool false] Try.func102 Try.results102 ⟨rfl, trivial⟩ ?_
      have H4 : St W w F := H
      exact ⟨congrArg Value.bool (show nameB s = false by first | exact nameB_empty ‹_› | exact nameB_long (by omega)).symm, H4⟩
    · skip
      refine s_gtr false rfl rfl (dfalse hc3) rfl ?_
      refine r_cons (s_pick_f (.bool false) rfl rfl rfl ?_)
      refine r_nil ?_
      refine g_false rfl ?_
      refine g_skip ?_
      refine g_seq ?_
      refine g_seq ?_
      refine g_region ?_
      refine r_cons (s_assign (.int .i64 0) rfl rfl ?_)
      refine r_nil ?_
      refine g_block ?_
      have H5 : St W w F := H
      refine g_loop_inv (fun (x_ : Nat) => match x_ with | i => [(0, .string s), (2, .bool false), (3, .int .i64 (i : Int))]) (fun (x_ : Nat) w => match x_ with | i => (i ≤ s.size) ∧ (∀ j, j < i → charB j (bAt s j) = true) ∧ St W w F) (fun (x_ : Nat) => match x_ with | i => s.size - i) (0) ?_ ?_ ?_
      · exact ⟨by first | rfl | exact vint (by omega), by first | rfl | exact vint (by omega), by first | rfl | exact vint (by omega), trivial⟩
      · exact ⟨(by omega), (fun j hj => by omega), H5⟩
      · rintro i ρ6 w7 ⟨hi, hz, H8⟩ nx9
        change Ends _ _ (upds ρ6 [(0, .string s), (2, .bool false), (3, .int .i64 (i : Int))]) w7
        refine g_seq ?_
        refine g_seq ?_
        refine g_region ?_
        refine r_cons (s_move (.int .i64 (i : Int)) rfl rfl ?_)
        refine r_cons (s_move (.string s) rfl rfl ?_)
        refine r_cons (s_len_str (s).size rfl st_9 rfl rfl ?_)
        by_cases hc10 : (i : Int) < (s.size : Int)
        · skip
          refine r_cons (s_lss true rfl rfl (dtrue hc10) rfl ?_)
          refine r_nil ?_
          refine g_true rfl ?_
          refine g_skip ?_
          refine g_seq ?_
          refine g_block ?_
          refine g_seq ?_
          refine g_cut (fun _ : Unit => [(0, .string s), (2, .bool false), (3, .int .i64 (i : Int)), (11, .int .i64 (i : Int)), (12, .string s), (13, .int .i64 (s.size : Int)), (14, .bool true), (37, .bool (!charB i (bAt s i)))]) (fun _ w => St W w F) ?_ ?_
          · rintro ⟨⟩ ρ14 w12 H13
            change Ends _ _ (upds ρ14 [(0, .string s), (2, .bool false), (3, .int .i64 (i : Int)), (11, .int .i64 (i : Int)), (12, .string s), (13, .int .i64 (s.size : Int)), (14, .bool true), (37, .bool (!charB i (bAt s i)))]) w12
            by_cases hb15 : (!charB i (bAt s i)) = true
            · skip
              refine g_true (congrArg Value.bool hb15) ?_
              refine g_seq ?_
              refine g_region ?_
              refine r_cons (s_assign (.bool false) rfl rfl ?_)
              refine r_nil ?_
              refine g_ret' [.bool false] Try.func102 Try.results102 ⟨rfl, trivial⟩ ?_
              have H16 : St W w12 F := H13
              exact ⟨congrArg Value.bool (nameB_no s i (by omega) (by simpa using hb15)).symm, H16⟩
            · have hb15 := eq_false_of_ne_true hb15
              refine g_false (congrArg Value.bool hb15) ?_
              refine g_skip ?_
              refine g_inBlock ?_
              refine g_region ?_
              refine r_cons (s_move (.int .i64 (i : Int)) rfl rfl ?_)
              refine r_cons (s_add ((i : Int) + 1) rfl rfl (wi64 (by omega)) rfl ?_)
              refine r_cons (s_assign (.int .i64 ((i : Int) + 1)) rfl rfl ?_)
              refine r_nil ?_
              have H17 : St W w12 F := H13
              exact nx9 (i + 1) _ _ ⟨(by omega), (fun j hj => (Nat.lt_or_ge j i).elim (hz j) (fun h => by rw [show j = i from by omega]; simpa using hb15)), H17⟩ (by first | (dsimp only; omega) | omega) ⟨by first | rfl | exact vint (by omega), by first | rfl | exact vint (by omega), by first | rfl | exact vint (by omega), trivial⟩
          · intro join11
            refine g_region ?_
            refine r_cons (s_move (.string s) rfl rfl ?_)
            refine r_cons (s_move (.int .i64 (i : Int)) rfl rfl ?_)
            refine r_cons (s_index_str s (i : Int) (bAt s i) rfl rfl st_9 (by omega) (str_at (n := i) (by omega) (by omega)) rfl ?_)
            refine r_cons (s_call [.int .u8 (bAt s i)] pl_130 rfl rfl (ref03_letter (bAt s i) H8) ?_)
            rintro _ w18 ⟨rfl, H19⟩
            refine r_cons (s_not (letterB (bAt s i)) rfl (!(letterB (bAt s i))) rfl rfl ?_)
            refine r_cons (s_move (.bool (!(letterB (bAt s i)))) rfl rfl ?_)
            by_cases hb20 : (!(letterB (bAt s i))) = true
            · skip
              refine r_cons (r_take rfl (congrArg some hb20) ?_)
              refine s_move (.int .i64 (i : Int)) rfl rfl ?_
              refine r_cons (r_take rfl (congrArg some hb20) ?_)
              by_cases hc21 : (i : Int) = 0
              · skip
                refine s_eql true rfl rfl (dtrue hc21) rfl ?_
                refine r_cons (r_take rfl (congrArg some hb20) ?_)
                refine s_move (.bool true) rfl rfl ?_
                refine r_cons (r_pass rfl rfl rfl rfl rfl ?_)
                refine r_cons (r_pass rfl rfl rfl rfl rfl ?_)
                refine r_cons (r_pass rfl rfl rfl rfl rfl ?_)
                refine r_cons (r_pass rfl rfl rfl rfl rfl ?_)
                refine r_cons (r_take rfl (congrArg some hb20) ?_)
                refine s_pick_t (.bool true) rfl rfl rfl ?_
                refine r_cons (r_take rfl (congrArg some hb20) ?_)
                refine s_move (.bool true) rfl rfl ?_
                refine r_cons (r_pass rfl rfl rfl rfl rfl ?_)
                refine r_cons (r_pass rfl rfl rfl rfl rfl ?_)
                refine r_cons (r_pass rfl rfl rfl rfl rfl ?_)
                refine r_cons (r_pass rfl rfl rfl rfl rfl ?_)
                refine r_cons (r_take rfl (congrArg some hb20) ?_)
                refine s_pick_t (.bool true) rfl rfl rfl ?_
                refine r_cons (s_pick_t (.bool true) (by exact congrArg Value.bool hb20) rfl rfl ?_)
                refine r_nil ?_
                exact join11 () _ _ H19 ⟨rfl, rfl, rfl, rfl, rfl, rfl, rfl, congrArg Value.bool (by unfold charB; simp [*]; try omega), trivial⟩
              · skip
                refine s_eql false rfl rfl (dfalse hc21) rfl ?_
                refine r_cons (r_take rfl (congrArg some hb20) ?_)
                refine s_move (.bool false) rfl rfl ?_
                refine r_cons (r_take rfl rfl ?_)
                refine s_move (.string s) rfl rfl ?_
                refine r_cons (r_take rfl rfl ?_)
                refine s_move (.int .i64 (i : Int)) rfl rfl ?_
                refine r_cons (r_take rfl rfl ?_)
                refine s_index_str s (i : Int) (bAt s i) rfl rfl st_9 (by omega) (str_at (n := i) (by omega) (by omega)) rfl ?_
                refine r_cons (r_take rfl rfl ?_)
                by_cases hc22 : bAt s i < 48
                · skip
                  refine s_lss true rfl rfl (dtrue hc22) rfl ?_
                  refine r_cons (r_take rfl (congrArg some hb20) ?_)
                  refine s_pick_f (.bool true) rfl rfl rfl ?_
                  refine r_cons (r_take rfl (congrArg some hb20) ?_)
                  refine s_move (.bool true) rfl rfl ?_
                  refine r_cons (r_pass rfl rfl rfl rfl rfl ?_)
                  refine r_cons (r_pass rfl rfl rfl rfl rfl ?_)
                  refine r_cons (r_pass rfl rfl rfl rfl rfl ?_)
                  refine r_cons (r_pass rfl rfl rfl rfl rfl ?_)
                  refine r_cons (r_take rfl (congrArg some hb20) ?_)
                  refine s_pick_t (.bool true) rfl rfl rfl ?_
                  refine r_cons (s_pick_t (.bool true) (by exact congrArg Value.bool hb20) rfl rfl ?_)
                  refine r_nil ?_
                  exact join11 () _ _ H19 ⟨rfl, rfl, rfl, rfl, rfl, rfl, rfl, congrArg Value.bool (by unfold charB; simp [*]; try omega), trivial⟩
                · skip
                  refine s_lss false rfl rfl (dfalse hc22) rfl ?_
                  refine r_cons (r_take rfl (congrArg some hb20) ?_)
                  refine s_pick_f (.bool false) rfl rfl rfl ?_
                  refine r_cons (r_take rfl (congrArg some hb20) ?_)
                  refine s_move (.bool false) rfl rfl ?_
                  refine r_cons (r_take rfl rfl ?_)
                  refine s_move (.string s) rfl rfl ?_
                  refine r_cons (r_take rfl rfl ?_)
                  refine s_move (.int .i64 (i : Int)) rfl rfl ?_
                  refine r_cons (r_take rfl rfl ?_)
                  refine s_index_str s (i : Int) (bAt s i) rfl rfl st_9 (by omega) (str_at (n := i) (by omega) (by omega)) rfl ?_
                  refine r_cons (r_take rfl rfl ?_)
                  by_cases hc23 : (57 : Int) < bAt s i
                  · skip
                    refine s_gtr true rfl rfl (dtrue hc23) rfl ?_
                    refine r_cons (r_take rfl (congrArg some hb20) ?_)
                    refine s_pick_f (.bool true) rfl rfl rfl ?_
                    refine r_cons (s_pick_t (.bool true) (by exact congrArg Value.bool hb20) rfl rfl ?_)
                    refine r_nil ?_
                    exact join11 () _ _ H19 ⟨rfl, rfl, rfl, rfl, rfl, rfl, rfl, congrArg Value.bool (by unfold charB; simp [*]; try omega), trivial⟩
                  · skip
                    refine s_gtr false rfl rfl (dfalse hc23) rfl ?_
                    refine r_cons (r_take rfl (congrArg some hb20) ?_)
                    refine s_pick_f (.bool false) rfl rfl rfl ?_
                    refine r_cons (s_pick_t (.bool false) (by exact congrArg Value.bool hb20) rfl rfl ?_)
                    refine r_nil ?_
                    exact join11 () _ _ H19 ⟨rfl, rfl, rfl, rfl, rfl, rfl, rfl, congrArg Value.bool (by unfold charB; simp [*]; try omega), trivial⟩
            · have hb20 := eq_false_of_ne_true hb20
              refine r_cons (r_pass rfl (congrArg some hb20) rfl rfl rfl ?_)
              refine r_cons (r_pass rfl (congrArg some hb20) rfl rfl rfl ?_)
              refine r_cons (r_pass rfl (congrArg some hb20) rfl rfl rfl ?_)
              refine r_cons (r_passN rfl rfl rfl rfl ?_)
              refine r_cons (r_passN rfl rfl rfl rfl ?_)
              refine r_cons (r_passN rfl rfl rfl rfl ?_)
              refine r_cons (r_passN rfl rfl rfl rfl ?_)
              refine r_cons (r_pass rfl (congrArg some hb20) rfl rfl rfl ?_)
              refine r_cons (r_pass rfl (congrArg some hb20) rfl rfl rfl ?_)
              refine r_cons (r_passN rfl rfl rfl rfl ?_)
              refine r_cons (r_passN rfl rfl rfl rfl ?_)
              refine r_cons (r_passN rfl rfl rfl rfl ?_)
              refine r_cons (r_passN rfl rfl rfl rfl ?_)
              refine r_cons (r_pass rfl (congrArg some hb20) rfl rfl rfl ?_)
              refine r_cons (s_pick_f (.bool false) (by exact congrArg Value.bool hb20) rfl rfl ?_)
              refine r_nil ?_
              exact join11 () _ _ H19 ⟨rfl, rfl, rfl, rfl, rfl, rfl, rfl, congrArg Value.bool (by unfold charB; simp [*]; try omega), trivial⟩
        · skip
          refine r_cons (s_lss false rfl rfl (dfalse hc10) rfl ?_)
          refine r_nil ?_
          refine g_false rfl ?_
          refine g_exit (by rfl) ?_
          refine g_seq ?_
          refine g_region ?_
          refine r_cons (s_assign (.bool true) rfl rfl ?_)
          refine r_nil ?_
          refine g_ret' [.bool true] Try.func102 Try.results102 ⟨rfl, trivial⟩ ?_
          have H24 : St W w7 F := H8
          exact ⟨congrArg Value.bool (nameB_yes (fun j hj => hz j (by omega)) ‹_› (by omega)).symm, H24⟩
set_option maxHeartbeats 4000000 in
set_option maxRecDepth 100000 in
theorem ref03_CheckAttrs {W w : World} {F : List Atom} (ats : List AttrV) (av : Value) {j : Nat} (hj : F[j]? = some (Attrs av ats)) (H : St W w F) : Calls Try.prog 132 #[av] w (Ret fun v w' => v = .int .i64 (attrsE ats) ∧ St W w' F) := by
  obtain ⟨pA1, cA2, gA3, oA4, kA5, eA6, zA7, rfl, hn8, hp9, hx10, hs11, hml, H12⟩ := Im.open_ H hj
  refine calls_of_go (n := 46) Try.func132 rfl Try.ntmps132 rfl ?_
  refine g_seq ?_
  refine g_region ?_
  refine r_cons (s_assign (.int .i64 0) rfl rfl ?_)
  refine r_nil ?_
  refine g_seq ?_
  refine g_seq ?_
  refine g_region ?_
  refine r_cons (s_move (.slice pA1 ats.length cA2) rfl rfl ?_)
  refine r_cons (s_len ats.length rfl ⟨_, un_166⟩ rfl ?_)
  by_cases hc13 : (8 : Int) < (ats.length : Int)
  · skip
    refine r_cons (s_gtr true rfl rfl (dtrue hc13) rfl ?_)
    refine r_nil ?_
    refine g_true rfl ?_
    refine g_seq ?_
    refine g_region ?_
    refine r_cons (s_assign (.int .i64 3) rfl rfl ?_)
    refine r_nil ?_
    refine g_ret' [.int .i64 3] Try.func132 Try.results132 ⟨rfl, trivial⟩ ?_
    have H14 : St W w F := (H12.drop 0 rfl)
    exact ⟨vint (by unfold attrsE; first | rw [if_pos (by omega)] | (rw [if_neg (by omega)]; first | exact (firstNZ_zero (fun j hj => hz j (by omega))).symm | exact (firstNZ_at hz (by first | exact attrE_31 (nottrue ‹_›) | exact attrE_val (notfalse ‹_›) ‹_› | exact attrE_32 (notfalse ‹_›) ‹_› (by omega) ‹_›) (by first | decide | assumption) (by omega)).symm)), H14⟩
  · skip
    refine r_cons (s_gtr false rfl rfl (dfalse hc13) rfl ?_)
    refine r_nil ?_
    refine g_false rfl ?_
    refine g_skip ?_
    refine g_seq ?_
    refine g_seq ?_
    refine g_region ?_
    refine r_cons (s_assign (.int .i64 0) rfl rfl ?_)
    refine r_nil ?_
    refine g_block ?_
    have H15 : St W w (imi (0 < ats.length) gA3 (.cells kA5 eA6 zA7) :: F) := H12
    refine g_loop_inv (fun (x_ : Nat) => match x_ with | i => [(0, .slice pA1 ats.length cA2), (2, .int .i64 0), (3, .int .i64 (i : Int))]) (fun (x_ : Nat) w => match x_ with | i => (i ≤ ats.length) ∧ (∀ j, j < i → attrE ats j = 0) ∧ St W w (imi (0 < ats.length) gA3 (.cells kA5 eA6 zA7) :: F)) (fun (x_ : Nat) => match x_ with | i => ats.length - i) (0) ?_ ?_ ?_
    · exact ⟨by first | rfl | exact vint (by omega), by first | rfl | exact vint (by omega), by first | rfl | exact vint (by omega), trivial⟩
    · exact ⟨(by omega), (fun j hj => by omega), H15⟩
    · rintro i ρ16 w17 ⟨hi, hz, H18⟩ nx19
      change Ends _ _ (upds ρ16 [(0, .slice pA1 ats.length cA2), (2, .int .i64 0), (3, .int .i64 (i : Int))]) w17
      refine g_seq ?_
      refine g_seq ?_
      refine g_region ?_
      refine r_cons (s_move (.int .i64 (i : Int)) rfl rfl ?_)
      refine r_cons (s_move (.slice pA1 ats.length cA2) rfl rfl ?_)
      refine r_cons (s_len ats.length rfl ⟨_, un_166⟩ rfl ?_)
      by_cases hc20 : (i : Int) < (ats.length : Int)
      · skip
        refine r_cons (s_lss true rfl rfl (dtrue hc20) rfl ?_)
        refine r_nil ?_
        refine g_true rfl ?_
        refine g_skip ?_
        refine g_seq ?_
        refine g_block ?_
        refine g_seq ?_
        refine g_seq ?_
        refine g_region ?_
        refine r_cons (s_move (.slice pA1 ats.length cA2) rfl rfl ?_)
        refine r_cons (s_move (.int .i64 (i : Int)) rfl rfl ?_)
        refine r_cons (s_indexAddr gA3 (off := oA4) (i : Int) 4 (oA4 + i * 4) (by exact congrArg (fun z_ => Value.slice z_ ats.length cA2) (hp9 (by omega))) rfl el_166 (by omega) rfl rfl ?_)
        refine r_cons (s_fieldAddr 213 0 0 (oA4 + i * 4) 9 rfl fi_213_0 rfl rfl ?_)
        refine r_cons (s_load (.string ((ats.getD i default).name.v)) ag_9 rfl (H18.imi_at (i := 0) rfl (by omega)) (elem_cell (L := ats) (i := i) attrCell_len (hx10 (by omega)) (by omega) default 0 (by decide) _ rfl) rfl ?_)
        refine r_cons (s_call [.string ((ats.getD i default).name.v)] pl_102 rfl rfl (ref03_Name ((ats.getD i default).name.v) (ats.getD i default).name.ok H18) ?_)
        rintro _ w21 ⟨rfl, H22⟩
        refine r_cons (s_not (nameB ((ats.getD i default).name.v)) rfl (!(nameB ((ats.getD i default).name.v))) rfl rfl ?_)
        refine r_nil ?_
        by_cases hb23 : (!(nameB ((ats.getD i default).name.v))) = true
        · skip
          refine g_true (congrArg Value.bool hb23) ?_
          refine g_seq ?_
          refine g_region ?_
          refine r_cons (s_assign (.int .i64 31) rfl rfl ?_)
          refine r_nil ?_
          refine g_ret' [.int .i64 31] Try.func132 Try.results132 ⟨rfl, trivial⟩ ?_
          have H24 : St W w21 F := (H22.drop 0 rfl)
          exact ⟨vint (by unfold attrsE; first | rw [if_pos (by omega)] | (rw [if_neg (by omega)]; first | exact (firstNZ_zero (fun j hj => hz j (by omega))).symm | exact (firstNZ_at hz (by first | exact attrE_31 (nottrue ‹_›) | exact attrE_val (notfalse ‹_›) ‹_› | exact attrE_32 (notfalse ‹_›) ‹_› (by omega) ‹_›) (by first | decide | assumption) (by omega)).symm)), H24⟩
        · have hb23 := eq_false_of_ne_true hb23
          refine g_false (congrArg Value.bool hb23) ?_
          refine g_skip ?_
          refine g_seq ?_
          refine g_seq ?_
          refine g_region ?_
          refine r_cons (s_move (.slice pA1 ats.length cA2) rfl rfl ?_)
          refine r_cons (s_move (.int .i64 (i : Int)) rfl rfl ?_)
          refine r_cons (s_indexAddr gA3 (off := oA4) (i : Int) 4 (oA4 + i * 4) (by exact congrArg (fun z_ => Value.slice z_ ats.length cA2) (hp9 (by omega))) rfl el_166 (by omega) rfl rfl ?_)
          refine r_cons (s_fieldAddr 213 1 1 (oA4 + i * 4 + 1) 211 rfl fi_213_1 rfl rfl ?_)
          refine r_cons (s_loadAgg [.int .i64 ((ats.getD i default).kind.v), .int .i64 ((ats.getD i default).n.v), .string ((ats.getD i default).s.v)] 3 ag_211 rfl (H22.imi_at (i := 0) rfl (by omega)) (by have := elem_size (i := i) (s := 4) (hs11 (by omega)) (by omega); omega) (elem_sub attrCell_len (hx10 (by omega)) (by omega) default 1 3 (by decide)) rfl ?_)
          refine r_cons (s_call [.agg #[.int .i64 ((ats.getD i default).kind.v), .int .i64 ((ats.getD i default).n.v), .string ((ats.getD i default).s.v)]] pl_149 rfl rfl (ref03_Check ((ats.getD i default).kind.v) ((ats.getD i default).n.v) ((ats.getD i default).s.v) H22) ?_)
          rintro _ w25 ⟨rfl, H26⟩
          refine r_cons (s_assign (.int .i64 (valE ((ats.getD i default).kind.v) ((ats.getD i default).n.v) ((ats.getD i default).s.v))) rfl rfl ?_)
          refine r_nil ?_
          refine g_seq ?_
          refine g_region ?_
          refine r_cons (s_move (.int .i64 (valE ((ats.getD i default).kind.v) ((ats.getD i default).n.v) ((ats.getD i default).s.v))) rfl rfl ?_)
          by_cases hc27 : valE ((ats.getD i default).kind.v) ((ats.getD i default).n.v) ((ats.getD i default).s.v) = 0
          · skip
            refine r_cons (s_neq false rfl rfl (ntrue hc27) rfl ?_)
            refine r_nil ?_
            refine g_false rfl ?_
            refine g_skip ?_
            refine g_seq ?_
            refine g_quiet (fun w' => St W w' (imi (0 < ats.length) gA3 (.cells kA5 eA6 zA7) :: F)) mixed (by kernel_rfl) H26.drew ?_
            refine q_cons (q_val rfl rfl rfl (by intro w hw; exact x_move (.int .i64 (i : Int)) rfl w) ?_)
            by_cases hc28 : (0 : Int) < (i : Int)
            · skip
              refine q_cons (q_val rfl rfl rfl (by intro w hw; exact x_gtr true rfl rfl (dtrue hc28) w) ?_)
              refine q_cons (q_val rfl rfl rfl (by intro w hw; exact x_move (.bool true) rfl w) ?_)
              refine q_cons (q_take rfl rfl ?_)
              refine q_val rfl rfl rfl (by intro w hw; exact x_move (.slice pA1 ats.length cA2) rfl w) ?_
              refine q_cons (q_take rfl rfl ?_)
              refine q_val rfl rfl rfl (by intro w hw; exact x_move (.int .i64 (i : Int)) rfl w) ?_
              refine q_cons (q_take rfl rfl ?_)
              refine q_val rfl rfl rfl (by intro w hw; exact x_indexAddr gA3 (off := oA4) (i : Int) 4 (oA4 + i * 4) (by exact congrArg (fun z_ => Value.slice z_ ats.length cA2) (hp9 (by omega))) rfl el_166 (by omega) rfl w) ?_
              refine q_cons (q_take rfl rfl ?_)
              refine q_val rfl rfl rfl (by intro w hw; exact x_fieldAddr 213 0 0 (oA4 + i * 4) 9 rfl fi_213_0 rfl w) ?_
              refine q_cons (q_take rfl rfl ?_)
              refine q_val rfl rfl rfl (by intro w hw; exact x_load (.string ((ats.getD i default).name.v)) ag_9 rfl (hw.imi_at (i := 0) rfl (by omega)) (elem_cell (L := ats) (i := i) attrCell_len (hx10 (by omega)) (by omega) default 0 (by decide) _ rfl)) ?_
              refine q_cons (q_take rfl rfl ?_)
              refine q_val rfl rfl rfl (by intro w hw; exact x_move (.slice pA1 ats.length cA2) rfl w) ?_
              refine q_cons (q_take rfl rfl ?_)
              refine q_val rfl rfl rfl (by intro w hw; exact x_move (.int .i64 (i : Int)) rfl w) ?_
              refine q_cons (q_take rfl rfl ?_)
              refine q_val rfl rfl rfl (by intro w hw; exact x_sub ((i : Int) - 1) rfl rfl (wi64 (by omega)) w) ?_
              refine q_cons (q_take rfl rfl ?_)
              refine q_val rfl rfl rfl (by intro w hw; exact x_indexAddr gA3 (off := oA4) ((i : Int) - 1) 4 (oA4 + (i - 1) * 4) (by exact congrArg (fun z_ => Value.slice z_ ats.length cA2) (hp9 (by omega))) rfl el_166 (by omega) (by rw [show ((i : Int) - 1 : Int).toNat = i - 1 from by omega]) w) ?_
              refine q_cons (q_take rfl rfl ?_)
              refine q_val rfl rfl rfl (by intro w hw; exact x_fieldAddr 213 0 0 (oA4 + (i - 1) * 4) 9 rfl fi_213_0 rfl w) ?_
              refine q_cons (q_take rfl rfl ?_)
              refine q_val rfl rfl rfl (by intro w hw; exact x_load (.string ((ats.getD (i - 1) default).name.v)) ag_9 rfl (hw.imi_at (i := 0) rfl (by omega)) (elem_cell (L := ats) (i := i - 1) attrCell_len (hx10 (by omega)) (by omega) default 0 (by decide) _ rfl)) ?_
              refine q_cons (q_take rfl rfl ?_)
              refine q_val rfl rfl rfl (by intro w hw; exact x_sleq ((sLt ((ats.getD i default).name.v) ((ats.getD (i - 1) default).name.v) || decide (((ats.getD i default).name.v) = ((ats.getD (i - 1) default).name.v)))) rfl rfl rfl w) ?_
              refine q_cons (q_val rfl rfl rfl (by intro w hw; exact x_pick_t (.bool (sLt ((ats.getD i default).name.v) ((ats.getD (i - 1) default).name.v) || decide (((ats.getD i default).name.v) = ((ats.getD (i - 1) default).name.v)))) rfl rfl w) ?_)
              refine q_nil ?_
              intro w29 H30
              by_cases hb31 : ((sLt ((ats.getD i default).name.v) ((ats.getD (i - 1) default).name.v) || decide (((ats.getD i default).name.v) = ((ats.getD (i - 1) default).name.v)))) = true
              · skip
                refine g_true (congrArg Value.bool hb31) ?_
                refine g_seq ?_
                refine g_region ?_
                refine r_cons (s_assign (.int .i64 32) rfl rfl ?_)
                refine r_nil ?_
                refine g_ret' [.int .i64 32] Try.func132 Try.results132 ⟨rfl, trivial⟩ ?_
                have H32 : St W w29 F := (H30.drop 0 rfl)
                exact ⟨vint (by unfold attrsE; first | rw [if_pos (by omega)] | (rw [if_neg (by omega)]; first | exact (firstNZ_zero (fun j hj => hz j (by omega))).symm | exact (firstNZ_at hz (by first | exact attrE_31 (nottrue ‹_›) | exact attrE_val (notfalse ‹_›) ‹_› | exact attrE_32 (notfalse ‹_›) ‹_› (by omega) ‹_›) (by first | decide | assumption) (by omega)).symm)), H32⟩
              · have hb31 := eq_false_of_ne_true hb31
                refine g_false (congrArg Value.bool hb31) ?_
                refine g_skip ?_
                refine g_inBlock ?_
                refine g_region ?_
                refine r_cons (s_move (.int .i64 (i : Int)) rfl rfl ?_)
                refine r_cons (s_add ((i : Int) + 1) rfl rfl (wi64 (by omega)) rfl ?_)
                refine r_cons (s_assign (.int .i64 ((i : Int) + 1)) rfl rfl ?_)
                refine r_nil ?_
                have H33 : St W w29 (imi (0 < ats.length) gA3 (.cells kA5 eA6 zA7) :: F) := H30
                exact nx19 (i + 1) _ _ ⟨(by omega), (fun j hj => (Nat.lt_or_ge j i).elim (hz j) (fun h => by rw [show j = i from by omega]; exact attrE_0 (notfalse ‹_›) ‹_› (fun h0 => by first | (exfalso; omega) | assumption))), H33⟩ (by first | (dsimp only; omega) | omega) ⟨by first | rfl | exact vint (by omega), by first | rfl | exact vint (by omega), by first | rfl | exact vint (by omega), trivial⟩
            · skip
              refine q_cons (q_val rfl rfl rfl (by intro w hw; exact x_gtr false rfl rfl (dfalse hc28) w) ?_)
              refine q_cons (q_val rfl rfl rfl (by intro w hw; exact x_move (.bool false) rfl w) ?_)
              refine q_cons (q_pass rfl rfl rfl rfl rfl ?_)
              refine q_cons (q_pass rfl rfl rfl rfl rfl ?_)
              refine q_cons (q_pass rfl rfl rfl rfl rfl ?_)
              refine q_cons (q_pass rfl rfl rfl rfl rfl ?_)
              refine q_cons (q_pass rfl rfl rfl rfl rfl ?_)
              refine q_cons (q_pass rfl rfl rfl rfl rfl ?_)
              refine q_cons (q_pass rfl rfl rfl rfl rfl ?_)
              refine q_cons (q_pass rfl rfl rfl rfl rfl ?_)
              refine q_cons (q_pass rfl rfl rfl rfl rfl ?_)
              refine q_cons (q_pass rfl rfl rfl rfl rfl ?_)
              refine q_cons (q_pass rfl rfl rfl rfl rfl ?_)
              refine q_cons (q_pass rfl rfl rfl rfl rfl ?_)
              refine q_cons (q_val rfl rfl rfl (by intro w hw; exact x_pick_f (.bool false) rfl rfl w) ?_)
              refine q_nil ?_
              intro w34 H35
              refine g_false rfl ?_
              refine g_skip ?_
              refine g_inBlock ?_
              refine g_region ?_
              refine r_cons (s_move (.int .i64 (i : Int)) rfl rfl ?_)
              refine r_cons (s_add ((i : Int) + 1) rfl rfl (wi64 (by omega)) rfl ?_)
              refine r_cons (s_assign (.int .i64 ((i : Int) + 1)) rfl rfl ?_)
              refine r_nil ?_
              have H36 : St W w34 (imi (0 < ats.length) gA3 (.cells kA5 eA6 zA7) :: F) := H35
              exact nx19 (i + 1) _ _ ⟨(by omega), (fun j hj => (Nat.lt_or_ge j i).elim (hz j) (fun h => by rw [show j = i from by omega]; exact attrE_0 (notfalse ‹_›) ‹_› (fun h0 => by first | (exfalso; omega) | assumption))), H36⟩ (by first | (dsimp only; omega) | omega) ⟨by first | rfl | exact vint (by omega), by first | rfl | exact vint (by omega), by first | rfl | exact vint (by omega), trivial⟩
          · skip
            refine r_cons (s_neq true rfl rfl (nfalse hc27) rfl ?_)
            refine r_nil ?_
            refine g_true rfl ?_
            refine g_seq ?_
            refine g_region ?_
            refine r_cons (s_move (.int .i64 (valE ((ats.getD i default).kind.v) ((ats.getD i default).n.v) ((ats.getD i default).s.v))) rfl rfl ?_)
            refine r_cons (s_assign (.int .i64 (valE ((ats.getD i default).kind.v) ((ats.getD i default).n.v) ((ats.getD i default).s.v))) rfl rfl ?_)
            refine r_nil ?_
            refine g_ret' [.int .i64 (valE ((ats.getD i default).kind.v) ((ats.getD i default).n.v) ((ats.getD i default).s.v))] Try.func132 Try.results132 ⟨rfl, trivial⟩ ?_
            have H37 : St W w25 F := (H26.drop 0 rfl)
            exact ⟨vint (by unfold attrsE; first | rw [if_pos (by omega)] | (rw [if_neg (by omega)]; first | exact (firstNZ_zero (fun j hj => hz j (by omega))).symm | exact (firstNZ_at hz (by first | exact attrE_31 (nottrue ‹_›) | exact attrE_val (notfalse ‹_›) ‹_› | exact attrE_32 (notfalse ‹_›) ‹_› (by omega) ‹_›) (by first | decide | assumption) (by omega)).symm)), H37⟩
      · skip
        refine r_cons (s_lss false rfl rfl (dfalse hc20) rfl ?_)
        refine r_nil ?_
        refine g_false rfl ?_
        refine g_exit (by rfl) ?_
        refine g_seq ?_
        refine g_region ?_
        refine r_cons (s_assign (.int .i64 0) rfl rfl ?_)
        refine r_nil ?_
        refine g_ret' [.int .i64 0] Try.func132 Try.results132 ⟨rfl, trivial⟩ ?_
        have H38 : St W w17 F := (H18.drop 0 rfl)
        exact ⟨vint (by unfold attrsE; first | rw [if_pos (by omega)] | (rw [if_neg (by omega)]; first | exact (firstNZ_zero (fun j hj => hz j (by omega))).symm | exact (firstNZ_at hz (by first | exact attrE_31 (nottrue ‹_›) | exact attrE_val (notfalse ‹_›) ‹_› | exact attrE_32 (notfalse ‹_›) ‹_› (by omega) ‹_›) (by first | decide | assumption) (by omega)).symm)), H38⟩
set_option maxHeartbeats 4000000 in
set_option maxRecDepth 100000 in
theorem ref03_SameAttrs {W w : World} {F : List Atom} (ats bts : List AttrV) (av bv : Value) {j k : Nat} (hj : F[j]? = some (Attrs av ats)) (hk : F[k]? = some (Attrs bv bts)) (H : St W w F) : Calls Try.prog 153 #[av, bv] w (Ret fun v w' => v = .bool (sameAs ats bts) ∧ St W w' F) := by
  obtain ⟨pA1, cA2, gA3, oA4, kA5, eA6, zA7, rfl, hn8, hp9, hx10, hs11, hml, H12⟩ := Im.open_ H hj
  obtain ⟨pA13, cA14, gA15, oA16, kA17, eA18, zA19, rfl, hn20, hp21, hx22, hs23, hml, H24⟩ := Im.open_ H12 (i := k + 1) (by exact hk)
  refine calls_of_go (n := 26) Try.func153 rfl Try.ntmps153 rfl ?_
  refine g_seq ?_
  refine g_region ?_
  refine r_cons (s_assign (.bool false) rfl rfl ?_)
  refine r_nil ?_
  refine g_seq ?_
  refine g_seq ?_
  refine g_region ?_
  refine r_cons (s_move (.slice pA1 ats.length cA2) rfl rfl ?_)
  refine r_cons (s_len ats.length rfl ⟨_, un_166⟩ rfl ?_)
  refine r_cons (s_move (.slice pA13 bts.length cA14) rfl rfl ?_)
  refine r_cons (s_len bts.length rfl ⟨_, un_166⟩ rfl ?_)
  by_cases hc25 : (ats.length : Int) = (bts.length : Int)
  · skip
    refine r_cons (s_neq false rfl rfl (ntrue hc25) rfl ?_)
    refine r_nil ?_
    refine g_false rfl ?_
    refine g_skip ?_
    refine g_seq ?_
    refine g_seq ?_
    refine g_region ?_
    refine r_cons (s_assign (.int .i64 0) rfl rfl ?_)
    refine r_nil ?_
    refine g_block ?_
    have H26 : St W w (imi (0 < bts.length) gA15 (.cells kA17 eA18 zA19) :: imi (0 < ats.length) gA3 (.cells kA5 eA6 zA7) :: F) := ((H24.move 1 rfl).move 1 rfl)
    refine g_loop_inv (fun (x_ : Nat) => match x_ with | i => [(0, .slice pA1 ats.length cA2), (1, .slice pA13 bts.length cA14), (4, .bool false), (5, .int .i64 (i : Int))]) (fun (x_ : Nat) w => match x_ with | i => (i ≤ ats.length) ∧ (∀ j, j < i → sameAt (ats.getD j default) (bts.getD j default) = true) ∧ St W w (imi (0 < bts.length) gA15 (.cells kA17 eA18 zA19) :: imi (0 < ats.length) gA3 (.cells kA5 eA6 zA7) :: F)) (fun (x_ : Nat) => match x_ with | i => ats.length - i) (0) ?_ ?_ ?_
    · exact ⟨by first | rfl | exact vint (by omega), by first | rfl | exact vint (by omega), by first | rfl | exact vint (by omega), by first | rfl | exact vint (by omega), trivial⟩
    · exact ⟨(by omega), (fun j hj => by omega), H26⟩
    · rintro i ρ27 w28 ⟨hi, hz, H29⟩ nx30
      change Ends _ _ (upds ρ27 [(0, .slice pA1 ats.length cA2), (1, .slice pA13 bts.length cA14), (4, .bool false), (5, .int .i64 (i : Int))]) w28
      refine g_seq ?_
      refine g_seq ?_
      refine g_region ?_
      refine r_cons (s_move (.int .i64 (i : Int)) rfl rfl ?_)
      refine r_cons (s_move (.slice pA1 ats.length cA2) rfl rfl ?_)
      refine r_cons (s_len ats.length rfl ⟨_, un_166⟩ rfl ?_)
      by_cases hc31 : (i : Int) < (ats.length : Int)
      · skip
        refine r_cons (s_lss true rfl rfl (dtrue hc31) rfl ?_)
        refine r_nil ?_
        refine g_true rfl ?_
        refine g_skip ?_
        refine g_seq ?_
        refine g_block ?_
        refine g_seq ?_
        refine g_quiet (fun w' => St W w' (imi (0 < bts.length) gA15 (.cells kA17 eA18 zA19) :: imi (0 < ats.length) gA3 (.cells kA5 eA6 zA7) :: F)) mixed (by kernel_rfl) H29.drew ?_
        refine q_cons (q_val rfl rfl rfl (by intro w hw; exact x_move (.slice pA1 ats.length cA2) rfl w) ?_)
        refine q_cons (q_val rfl rfl rfl (by intro w hw; exact x_move (.int .i64 (i : Int)) rfl w) ?_)
        refine q_cons (q_val rfl rfl rfl (by intro w hw; exact x_indexAddr gA3 (off := oA4) (i : Int) 4 (oA4 + i * 4) (by exact congrArg (fun z_ => Value.slice z_ ats.length cA2) (hp9 (by omega))) rfl el_166 (by omega) rfl w) ?_)
        refine q_cons (q_val rfl rfl rfl (by intro w hw; exact x_loadAgg [.string ((ats.getD i default).name.v), .int .i64 ((ats.getD i default).kind.v), .int .i64 ((ats.getD i default).n.v), .string ((ats.getD i default).s.v)] 4 ag_213 rfl (hw.imi_at (i := 1) rfl (by omega)) (by have := elem_size (i := i) (s := 4) (hs11 (by omega)) (by omega); omega) (elem_take attrCell_len (hx10 (by omega)) (by omega) default)) ?_)
        refine q_cons (q_val rfl rfl rfl (by intro w hw; exact x_move (.slice pA13 bts.length cA14) rfl w) ?_)
        refine q_cons (q_val rfl rfl rfl (by intro w hw; exact x_move (.int .i64 (i : Int)) rfl w) ?_)
        refine q_cons (q_val rfl rfl rfl (by intro w hw; exact x_indexAddr gA15 (off := oA16) (i : Int) 4 (oA16 + i * 4) (by exact congrArg (fun z_ => Value.slice z_ bts.length cA14) (hp21 (by omega))) rfl el_166 (by omega) rfl w) ?_)
        refine q_cons (q_val rfl rfl rfl (by intro w hw; exact x_loadAgg [.string ((bts.getD i default).name.v), .int .i64 ((bts.getD i default).kind.v), .int .i64 ((bts.getD i default).n.v), .string ((bts.getD i default).s.v)] 4 ag_213 rfl (hw.imi_at (i := 0) rfl (by omega)) (by have := elem_size (i := i) (s := 4) (hs23 (by omega)) (by omega); omega) (elem_take attrCell_len (hx22 (by omega)) (by omega) default)) ?_)
        refine q_cons (q_val rfl rfl rfl (by intro w hw; exact x_aneq (!(sameAt (ats.getD i default) (bts.getD i default))) gd_213 ev_213 rfl rfl rfl w) ?_)
        refine q_nil ?_
        intro w32 H33
        by_cases hb34 : (!(sameAt (ats.getD i default) (bts.getD i default))) = true
        · skip
          refine g_true (congrArg Value.bool hb34) ?_
          refine g_seq ?_
          refine g_region ?_
          refine r_cons (s_assign (.bool false) rfl rfl ?_)
          refine r_nil ?_
          refine g_ret' [.bool false] Try.func153 Try.results153 ⟨rfl, trivial⟩ ?_
          have H35 : St W w32 F := ((H33.drop 0 rfl).drop 0 rfl)
          exact ⟨congrArg Value.bool (sameAs_at i (by simpa using hb34)).symm, H35⟩
        · have hb34 := eq_false_of_ne_true hb34
          refine g_false (congrArg Value.bool hb34) ?_
          refine g_skip ?_
          refine g_inBlock ?_
          refine g_region ?_
          refine r_cons (s_move (.int .i64 (i : Int)) rfl rfl ?_)
          refine r_cons (s_add ((i : Int) + 1) rfl rfl (wi64 (by omega)) rfl ?_)
          refine r_cons (s_assign (.int .i64 ((i : Int) + 1)) rfl rfl ?_)
          refine r_nil ?_
          have H36 : St W w32 (imi (0 < bts.length) gA15 (.cells kA17 eA18 zA19) :: imi (0 < ats.length) gA3 (.cells kA5 eA6 zA7) :: F) := ((H33.move 1 rfl).move 1 rfl)
          exact nx30 (i + 1) _ _ ⟨(by omega), (fun j hj => (Nat.lt_or_ge j i).elim (hz j) (fun h => by rw [show j = i from by omega]; simpa using hb34)), H36⟩ (by first | (dsimp only; omega) | omega) ⟨by first | rfl | exact vint (by omega), by first | rfl | exact vint (by omega), by first | rfl | exact vint (by omega), by first | rfl | exact vint (by omega), trivial⟩
      · skip
        refine r_cons (s_lss false rfl rfl (dfalse hc31) rfl ?_)
        refine r_nil ?_
        refine g_false rfl ?_
        refine g_exit (by rfl) ?_
        refine g_seq ?_
        refine g_region ?_
        refine r_cons (s_assign (.bool true) rfl rfl ?_)
        refine r_nil ?_
        refine g_ret' [.bool true] Try.func153 Try.results153 ⟨rfl, trivial⟩ ?_
        have H37 : St W w28 F := ((H29.drop 0 rfl).drop 0 rfl)
        exact ⟨congrArg Value.bool (sameAs_all (by omega) (fun j hj => hz j (by omega))).symm, H37⟩
  · skip
    refine r_cons (s_neq true rfl rfl (nfalse hc25) rfl ?_)
    refine r_nil ?_
    refine g_true rfl ?_
    refine g_seq ?_
    refine g_region ?_
    refine r_cons (s_assign (.bool false) rfl rfl ?_)
    refine r_nil ?_
    refine g_ret' [.bool false] Try.func153 Try.results153 ⟨rfl, trivial⟩ ?_
    have H38 : St W w F := ((H24.drop 0 rfl).drop 0 rfl)
    exact ⟨congrArg Value.bool (sameAs_len (by omega)).symm, H38⟩
set_option maxHeartbeats 4000000 in
set_option maxRecDepth 100000 in
theorem event_time {W w : World} {F : List Atom} (n : Int) (H : St W w F) : Calls Try.prog 150 #[.int .i64 n] w (Ret fun v w' => v = .bool (timeB n) ∧ St W w' F) := by
  refine calls_of_go (n := 9) Try.func150 rfl Try.ntmps150 rfl ?_
  refine g_seq ?_
  refine g_region ?_
  refine r_cons (s_assign (.bool false) rfl rfl ?_)
  refine r_nil ?_
  refine g_seq ?_
  refine g_region ?_
  refine r_cons (s_move (.int .i64 n) rfl rfl ?_)
  by_cases hc1 : (0 : Int) ≤ n
  · skip
    refine r_cons (s_geq true rfl rfl (dtrue hc1) rfl ?_)
    refine r_cons (s_move (.bool true) rfl rfl ?_)
    refine r_cons (r_take rfl rfl ?_)
    refine s_move (.int .i64 n) rfl rfl ?_
    refine r_cons (r_take rfl rfl ?_)
    by_cases hc2 : n ≤ 1099511627776
    · skip
      refine s_leq true rfl rfl (dtrue hc2) rfl ?_
      refine r_cons (s_pick_t (.bool true) rfl rfl rfl ?_)
      refine r_cons (s_assign (.bool true) rfl rfl ?_)
      refine r_nil ?_
      refine g_ret' [.bool true] Try.func150 Try.results150 ⟨rfl, trivial⟩ ?_
      exact ⟨congrArg Value.bool (by simp only [timeB]; first | (exact (decide_eq_true (by omega)).symm) | (exact (decide_eq_false (by omega)).symm)), H⟩
    · skip
      refine s_leq false rfl rfl (dfalse hc2) rfl ?_
      refine r_cons (s_pick_t (.bool false) rfl rfl rfl ?_)
      refine r_cons (s_assign (.bool false) rfl rfl ?_)
      refine r_nil ?_
      refine g_ret' [.bool false] Try.func150 Try.results150 ⟨rfl, trivial⟩ ?_
      exact ⟨congrArg Value.bool (by simp only [timeB]; first | (exact (decide_eq_true (by omega)).symm) | (exact (decide_eq_false (by omega)).symm)), H⟩
  · skip
    refine r_cons (s_geq false rfl rfl (dfalse hc1) rfl ?_)
    refine r_cons (s_move (.bool false) rfl rfl ?_)
    refine r_cons (r_pass rfl rfl rfl rfl rfl ?_)
    refine r_cons (r_pass rfl rfl rfl rfl rfl ?_)
    refine r_cons (s_pick_f (.bool false) rfl rfl rfl ?_)
    refine r_cons (s_assign (.bool false) rfl rfl ?_)
    refine r_nil ?_
    refine g_ret' [.bool false] Try.func150 Try.results150 ⟨rfl, trivial⟩ ?_
    exact ⟨congrArg Value.bool (by simp only [timeB]; first | (exact (decide_eq_true (by omega)).symm) | (exact (decide_eq_false (by omega)).symm)), H⟩
set_option maxHeartbeats 4000000 in
set_option maxRecDepth 100000 in
theorem ref04_time {W w : World} {F : List Atom} (n : Int) (H : St W w F) : Calls Try.prog 131 #[.int .i64 n] w (Ret fun v w' => v = .bool (timeB n) ∧ St W w' F) := by
  refine calls_of_go (n := 9) Try.func131 rfl Try.ntmps131 rfl ?_
  refine g_seq ?_
  refine g_region ?_
  refine r_cons (s_assign (.bool false) rfl rfl ?_)
  refine r_nil ?_
  refine g_seq ?_
  refine g_region ?_
  refine r_cons (s_move (.int .i64 n) rfl rfl ?_)
  by_cases hc1 : (0 : Int) ≤ n
  · skip
    refine r_cons (s_geq true rfl rfl (dtrue hc1) rfl ?_)
    refine r_cons (s_move (.bool true) rfl rfl ?_)
    refine r_cons (r_take rfl rfl ?_)
    refine s_move (.int .i64 n) rfl rfl ?_
    refine r_cons (r_take rfl rfl ?_)
    by_cases hc2 : n ≤ 1099511627776
    · skip
      refine s_leq true rfl rfl (dtrue hc2) rfl ?_
      refine r_cons (s_pick_t (.bool true) rfl rfl rfl ?_)
      refine r_cons (s_assign (.bool true) rfl rfl ?_)
      refine r_nil ?_
      refine g_ret' [.bool true] Try.func131 Try.results131 ⟨rfl, trivial⟩ ?_
      exact ⟨congrArg Value.bool (by simp only [timeB]; first | (exact (decide_eq_true (by omega)).symm) | (exact (decide_eq_false (by omega)).symm)), H⟩
    · skip
      refine s_leq false rfl rfl (dfalse hc2) rfl ?_
      refine r_cons (s_pick_t (.bool false) rfl rfl rfl ?_)
      refine r_cons (s_assign (.bool false) rfl rfl ?_)
      refine r_nil ?_
      refine g_ret' [.bool false] Try.func131 Try.results131 ⟨rfl, trivial⟩ ?_
      exact ⟨congrArg Value.bool (by simp only [timeB]; first | (exact (decide_eq_true (by omega)).symm) | (exact (decide_eq_false (by omega)).symm)), H⟩
  · skip
    refine r_cons (s_geq false rfl rfl (dfalse hc1) rfl ?_)
    refine r_cons (s_move (.bool false) rfl rfl ?_)
    refine r_cons (r_pass rfl rfl rfl rfl rfl ?_)
    refine r_cons (r_pass rfl rfl rfl rfl rfl ?_)
    refine r_cons (s_pick_f (.bool false) rfl rfl rfl ?_)
    refine r_cons (s_assign (.bool false) rfl rfl ?_)
    refine r_nil ?_
    refine g_ret' [.bool false] Try.func131 Try.results131 ⟨rfl, trivial⟩ ?_
    exact ⟨congrArg Value.bool (by simp only [timeB]; first | (exact (decide_eq_true (by omega)).symm) | (exact (decide_eq_false (by omega)).symm)), H⟩
set_option maxHeartbeats 4000000 in
set_option maxRecDepth 100000 in
theorem event_Check {W w : World} {F : List Atom} (e : EvM) (av : Value) {j : Nat} (hj : F[j]? = some (Attrs av e.attrs)) (H : St W w F) : Calls Try.prog 134 #[.agg #[.int .i64 e.src.v, .int .i64 e.seq.v, .int .i64 e.time.v, .string e.typ.v, av]] w (Ret fun v w' => v = .int .i64 (evE e) ∧ St W w' F) := by
  replace H := H.dup hj (Attrs_pers _ _)
  refine calls_of_go (n := 35) Try.func134 rfl Try.ntmps134 rfl ?_
  refine g_seq ?_
  refine g_region ?_
  refine r_cons (s_box H 168 (.agg #[.int .i64 e.src.v, .int .i64 e.seq.v, .int .i64 e.time.v, .string e.typ.v, av]) rfl (cs := #[.int .i64 e.src.v, .int .i64 e.seq.v, .int .i64 e.time.v, .string e.typ.v, av]) rfl rfl ?_); intro bk1 w2 H3
  refine r_cons (s_assign (.int .i64 0) rfl rfl ?_)
  refine r_nil ?_
  refine g_seq ?_
  refine g_seq ?_
  refine g_region ?_
  refine r_cons (s_fieldAddr 168 0 0 0 165 rfl fi_168_0 rfl rfl ?_)
  refine r_cons (s_fieldAddr 165 0 0 0 3 rfl fi_165_0 rfl rfl ?_)
  refine r_cons (s_load (.int .i64 e.src.v) ag_3 rfl (H3.blk_at (i := 0) rfl) rfl rfl ?_)
  by_cases hc4 : e.src.v < 0
  · skip
    refine r_cons (s_lss true rfl rfl (dtrue hc4) rfl ?_)
    refine r_cons (s_move (.bool true) rfl rfl ?_)
    refine r_cons (r_pass rfl rfl rfl rfl rfl ?_)
    refine r_cons (r_pass rfl rfl rfl rfl rfl ?_)
    refine r_cons (r_pass rfl rfl rfl rfl rfl ?_)
    refine r_cons (r_pass rfl rfl rfl rfl rfl ?_)
    refine r_cons (s_pick_t (.bool true) rfl rfl rfl ?_)
    refine r_cons (s_move (.bool true) rfl rfl ?_)
    refine r_cons (r_pass rfl rfl rfl rfl rfl ?_)
    refine r_cons (r_pass rfl rfl rfl rfl rfl ?_)
    refine r_cons (r_pass rfl rfl rfl rfl rfl ?_)
    refine r_cons (r_pass rfl rfl rfl rfl rfl ?_)
    refine r_cons (r_pass rfl rfl rfl rfl rfl ?_)
    refine r_cons (s_pick_t (.bool true) rfl rfl rfl ?_)
    refine r_cons (s_move (.bool true) rfl rfl ?_)
    refine r_cons (r_pass rfl rfl rfl rfl rfl ?_)
    refine r_cons (r_pass rfl rfl rfl rfl rfl ?_)
    refine r_cons (r_pass rfl rfl rfl rfl rfl ?_)
    refine r_cons (r_pass rfl rfl rfl rfl rfl ?_)
    refine r_cons (s_pick_t (.bool true) rfl rfl rfl ?_)
    refine r_cons (s_move (.bool true) rfl rfl ?_)
    refine r_cons (r_pass rfl rfl rfl rfl rfl ?_)
    refine r_cons (r_pass rfl rfl rfl rfl rfl ?_)
    refine r_cons (r_pass rfl rfl rfl rfl rfl ?_)
    refine r_cons (r_pass rfl rfl rfl rfl rfl ?_)
    refine r_cons (s_pick_t (.bool true) rfl rfl rfl ?_)
    refine r_nil ?_
    refine g_true rfl ?_
    refine g_seq ?_
    refine g_region ?_
    refine r_cons (s_assign (.int .i64 40) rfl rfl ?_)
    refine r_nil ?_
    refine g_ret' [.int .i64 40] Try.func134 Try.results134 ⟨rfl, trivial⟩ ?_
    have H5 : St W w2 F := ((H3.drop 0 rfl).drop 0 rfl)
    exact ⟨vint (by first | exact (evE_40 (by first | exact .inl (by omega) | exact .inr (.inl (by omega)) | exact .inr (.inr (.inl (nottrue ‹_›))) | exact .inr (.inr (.inr (.inl (nottrue ‹_›)))) | exact .inr (.inr (.inr (.inr (nottrue ‹_›)))))).symm | exact (evE_in (by omega) (by omega) ).symm), H5⟩
  · skip
    refine r_cons (s_lss false rfl rfl (dfalse hc4) rfl ?_)
    refine r_cons (s_move (.bool false) rfl rfl ?_)
    refine r_cons (r_take rfl rfl ?_)
    refine s_fieldAddr 168 0 0 0 165 rfl fi_168_0 rfl rfl ?_
    refine r_cons (r_take rfl rfl ?_)
    refine s_fieldAddr 165 0 0 0 3 rfl fi_165_0 rfl rfl ?_
    refine r_cons (r_take rfl rfl ?_)
    refine s_load (.int .i64 e.src.v) ag_3 rfl (H3.blk_at (i := 0) rfl) rfl rfl ?_
    refine r_cons (r_take rfl rfl ?_)
    by_cases hc6 : (16 : Int) ≤ e.src.v
    · skip
      refine s_geq true rfl rfl (dtrue hc6) rfl ?_
      refine r_cons (s_pick_f (.bool true) rfl rfl rfl ?_)
      refine r_cons (s_move (.bool true) rfl rfl ?_)
      refine r_cons (r_pass rfl rfl rfl rfl rfl ?_)
      refine r_cons (r_pass rfl rfl rfl rfl rfl ?_)
      refine r_cons (r_pass rfl rfl rfl rfl rfl ?_)
      refine r_cons (r_pass rfl rfl rfl rfl rfl ?_)
      refine r_cons (r_pass rfl rfl rfl rfl rfl ?_)
      refine r_cons (s_pick_t (.bool true) rfl rfl rfl ?_)
      refine r_cons (s_move (.bool true) rfl rfl ?_)
      refine r_cons (r_pass rfl rfl rfl rfl rfl ?_)
      refine r_cons (r_pass rfl rfl rfl rfl rfl ?_)
      refine r_cons (r_pass rfl rfl rfl rfl rfl ?_)
      refine r_cons (r_pass rfl rfl rfl rfl rfl ?_)
      refine r_cons (s_pick_t (.bool true) rfl rfl rfl ?_)
      refine r_cons (s_move (.bool true) rfl rfl ?_)
      refine r_cons (r_pass rfl rfl rfl rfl rfl ?_)
      refine r_cons (r_pass rfl rfl rfl rfl rfl ?_)
      refine r_cons (r_pass rfl rfl rfl rfl rfl ?_)
      refine r_cons (r_pass rfl rfl rfl rfl rfl ?_)
      refine r_cons (s_pick_t (.bool true) rfl rfl rfl ?_)
      refine r_nil ?_
      refine g_true rfl ?_
      refine g_seq ?_
      refine g_region ?_
      refine r_cons (s_assign (.int .i64 40) rfl rfl ?_)
      refine r_nil ?_
      refine g_ret' [.int .i64 40] Try.func134 Try.results134 ⟨rfl, trivial⟩ ?_
      have H7 : St W w2 F := ((H3.drop 0 rfl).drop 0 rfl)
      exact ⟨vint (by first | exact (evE_40 (by first | exact .inl (by omega) | exact .inr (.inl (by omega)) | exact .inr (.inr (.inl (nottrue ‹_›))) | exact .inr (.inr (.inr (.inl (nottrue ‹_›)))) | exact .inr (.inr (.inr (.inr (nottrue ‹_›)))))).symm | exact (evE_in (by omega) (by omega) ).symm), H7⟩
    · skip
      refine s_geq false rfl rfl (dfalse hc6) rfl ?_
      refine r_cons (s_pick_f (.bool false) rfl rfl rfl ?_)
      refine r_cons (s_move (.bool false) rfl rfl ?_)
      refine r_cons (r_take rfl rfl ?_)
      refine s_fieldAddr 168 0 0 0 165 rfl fi_168_0 rfl rfl ?_
      refine r_cons (r_take rfl rfl ?_)
      refine s_fieldAddr 165 1 1 1 2 rfl fi_165_1 rfl rfl ?_
      refine r_cons (r_take rfl rfl ?_)
      refine s_load (.int .i64 e.seq.v) ag_2 rfl (H3.blk_at (i := 0) rfl) rfl rfl ?_
      refine r_cons (r_take rfl rfl ?_)
      refine s_call [.int .i64 e.seq.v] pl_150 rfl rfl (event_time e.seq.v H3) ?_
      rintro _ w8 ⟨rfl, H9⟩
      refine r_cons (r_take rfl rfl ?_)
      refine s_not (timeB e.seq.v) rfl (!(timeB e.seq.v)) rfl rfl ?_
      refine r_cons (s_pick_f (.bool (!(timeB e.seq.v))) rfl rfl rfl ?_)
      refine r_cons (s_move (.bool (!(timeB e.seq.v))) rfl rfl ?_)
      by_cases hb10 : (!(timeB e.seq.v)) = true
      · skip
        refine r_cons (r_pass rfl (congrArg some hb10) rfl rfl rfl ?_)
        refine r_cons (r_pass rfl (congrArg some hb10) rfl rfl rfl ?_)
        refine r_cons (r_pass rfl (congrArg some hb10) rfl rfl rfl ?_)
        refine r_cons (r_pass rfl (congrArg some hb10) rfl rfl rfl ?_)
        refine r_cons (s_pick_t (.bool true) (by exact congrArg Value.bool hb10) rfl rfl ?_)
        refine r_cons (s_move (.bool true) rfl rfl ?_)
        refine r_cons (r_pass rfl rfl rfl rfl rfl ?_)
        refine r_cons (r_pass rfl rfl rfl rfl rfl ?_)
        refine r_cons (r_pass rfl rfl rfl rfl rfl ?_)
        refine r_cons (r_pass rfl rfl rfl rfl rfl ?_)
        refine r_cons (s_pick_t (.bool true) rfl rfl rfl ?_)
        refine r_nil ?_
        refine g_true rfl ?_
        refine g_seq ?_
        refine g_region ?_
        refine r_cons (s_assign (.int .i64 40) rfl rfl ?_)
        refine r_nil ?_
        refine g_ret' [.int .i64 40] Try.func134 Try.results134 ⟨rfl, trivial⟩ ?_
        have H11 : St W w8 F := ((H9.drop 0 rfl).drop 0 rfl)
        exact ⟨vint (by first | exact (evE_40 (by first | exact .inl (by omega) | exact .inr (.inl (by omega)) | exact .inr (.inr (.inl (nottrue ‹_›))) | exact .inr (.inr (.inr (.inl (nottrue ‹_›)))) | exact .inr (.inr (.inr (.inr (nottrue ‹_›)))))).symm | exact (evE_in (by omega) (by omega) (notfalse hb10)).symm), H11⟩
      · have hb10 := eq_false_of_ne_true hb10
        refine r_cons (r_take rfl (congrArg some hb10) ?_)
        refine s_fieldAddr 168 1 2 2 2 rfl fi_168_1 rfl rfl ?_
        refine r_cons (r_take rfl (congrArg some hb10) ?_)
        refine s_load (.int .i64 e.time.v) ag_2 rfl (H9.blk_at (i := 0) rfl) rfl rfl ?_
        refine r_cons (r_take rfl (congrArg some hb10) ?_)
        refine s_call [.int .i64 e.time.v] pl_150 rfl rfl (event_time e.time.v H9) ?_
        rintro _ w12 ⟨rfl, H13⟩
        refine r_cons (r_take rfl (congrArg some hb10) ?_)
        refine s_not (timeB e.time.v) rfl (!(timeB e.time.v)) rfl rfl ?_
        refine r_cons (s_pick_f (.bool (!(timeB e.time.v))) (by exact congrArg Value.bool hb10) rfl rfl ?_)
        refine r_cons (s_move (.bool (!(timeB e.time.v))) rfl rfl ?_)
        by_cases hb14 : (!(timeB e.time.v)) = true
        · skip
          refine r_cons (r_pass rfl (congrArg some hb14) rfl rfl rfl ?_)
          refine r_cons (r_pass rfl (congrArg some hb14) rfl rfl rfl ?_)
          refine r_cons (r_pass rfl (congrArg some hb14) rfl rfl rfl ?_)
          refine r_cons (r_pass rfl (congrArg some hb14) rfl rfl rfl ?_)
          refine r_cons (s_pick_t (.bool true) (by exact congrArg Value.bool hb14) rfl rfl ?_)
          refine r_nil ?_
          refine g_true rfl ?_
          refine g_seq ?_
          refine g_region ?_
          refine r_cons (s_assign (.int .i64 40) rfl rfl ?_)
          refine r_nil ?_
          refine g_ret' [.int .i64 40] Try.func134 Try.results134 ⟨rfl, trivial⟩ ?_
          have H15 : St W w12 F := ((H13.drop 0 rfl).drop 0 rfl)
          exact ⟨vint (by first | exact (evE_40 (by first | exact .inl (by omega) | exact .inr (.inl (by omega)) | exact .inr (.inr (.inl (nottrue ‹_›))) | exact .inr (.inr (.inr (.inl (nottrue ‹_›)))) | exact .inr (.inr (.inr (.inr (nottrue ‹_›)))))).symm | exact (evE_in (by omega) (by omega) (notfalse hb10) (notfalse hb14)).symm), H15⟩
        · have hb14 := eq_false_of_ne_true hb14
          refine r_cons (r_take rfl (congrArg some hb14) ?_)
          refine s_fieldAddr 168 2 3 3 9 rfl fi_168_2 rfl rfl ?_
          refine r_cons (r_take rfl (congrArg some hb14) ?_)
          refine s_load (.string e.typ.v) ag_9 rfl (H13.blk_at (i := 0) rfl) rfl rfl ?_
          refine r_cons (r_take rfl (congrArg some hb14) ?_)
          refine s_call [.string e.typ.v] pl_133 rfl rfl (value_Name e.typ.v e.typ.ok H13) ?_
          rintro _ w16 ⟨rfl, H17⟩
          refine r_cons (r_take rfl (congrArg some hb14) ?_)
          refine s_not (nameB e.typ.v) rfl (!(nameB e.typ.v)) rfl rfl ?_
          refine r_cons (s_pick_f (.bool (!(nameB e.typ.v))) (by exact congrArg Value.bool hb14) rfl rfl ?_)
          refine r_nil ?_
          by_cases hb18 : (!(nameB e.typ.v)) = true
          · skip
            refine g_true (congrArg Value.bool hb18) ?_
            refine g_seq ?_
            refine g_region ?_
            refine r_cons (s_assign (.int .i64 40) rfl rfl ?_)
            refine r_nil ?_
            refine g_ret' [.int .i64 40] Try.func134 Try.results134 ⟨rfl, trivial⟩ ?_
            have H19 : St W w16 F := ((H17.drop 0 rfl).drop 0 rfl)
            exact ⟨vint (by first | exact (evE_40 (by first | exact .inl (by omega) | exact .inr (.inl (by omega)) | exact .inr (.inr (.inl (nottrue ‹_›))) | exact .inr (.inr (.inr (.inl (nottrue ‹_›)))) | exact .inr (.inr (.inr (.inr (nottrue ‹_›)))))).symm | exact (evE_in (by omega) (by omega) (notfalse hb10) (notfalse hb14) (notfalse hb18)).symm), H19⟩
          · have hb18 := eq_false_of_ne_true hb18
            refine g_false (congrArg Value.bool hb18) ?_
            refine g_skip ?_
            refine g_seq ?_
            refine g_region ?_
            refine r_cons (s_fieldAddr 168 3 4 4 166 rfl fi_168_3 rfl rfl ?_)
            refine r_cons (s_load (av) ag_166 rfl (H17.blk_at (i := 0) rfl) rfl rfl ?_)
            refine r_cons (s_call [av] pl_151 rfl rfl (value_CheckAttrs e.attrs av (j := 1) rfl H17) ?_)
            rintro _ w20 ⟨rfl, H21⟩
            refine r_cons (s_assign (.int .i64 (attrsE e.attrs)) rfl rfl ?_)
            refine r_nil ?_
            refine g_ret' [.int .i64 (attrsE e.attrs)] Try.func134 Try.results134 ⟨rfl, trivial⟩ ?_
            have H22 : St W w20 F := ((H21.drop 0 rfl).drop 0 rfl)
            exact ⟨vint (by first | exact (evE_40 (by first | exact .inl (by omega) | exact .inr (.inl (by omega)) | exact .inr (.inr (.inl (nottrue ‹_›))) | exact .inr (.inr (.inr (.inl (nottrue ‹_›)))) | exact .inr (.inr (.inr (.inr (nottrue ‹_›)))))).symm | exact (evE_in (by omega) (by omega) (notfalse hb10) (notfalse hb14) (notfalse hb18)).symm), H22⟩
set_option maxHeartbeats 4000000 in
set_option maxRecDepth 100000 in
theorem clone_attrs {W w : World} {F : List Atom} (ats : List AttrV) (av : Value) (hb : ats.length * 48 ≤ 140737488355328) {j : Nat} (hj : F[j]? = some (Attrs av ats)) (H : St W w F) : Calls Try.prog 152 #[av] w (Ret fun v w' => ∃ p c, v = .slice p ats.length c ∧ St W w' (Attrs (.slice p ats.length c) ats :: F)) := by
  obtain ⟨pA1, cA2, gA3, oA4, kA5, eA6, zA7, rfl, hn8, hp9, hx10, hs11, hml, H12⟩ := Im.open_ H hj
  have H13 := H.dup hj (Attrs_pers _ _)
  refine calls_of_go (n := 8) Try.func152 rfl Try.ntmps152 rfl ?_
  refine g_seq ?_
  refine g_region ?_
  refine r_cons (s_assign (.slice none 0 0) rfl rfl ?_)
  refine r_nil ?_
  refine g_seq ?_
  refine g_seq ?_
  refine g_region ?_
  refine r_cons (s_move (.slice pA1 ats.length cA2) rfl rfl ?_)
  by_cases hc14 : pA1 = none
  · skip
    refine r_cons (s_sleql true un_166 rfl rfl (isNone_t hc14) rfl ?_)
    refine r_nil ?_
    refine g_true rfl ?_
    refine g_seq ?_
    refine g_region ?_
    refine r_cons (s_assign (.slice none 0 0) rfl rfl ?_)
    refine r_nil ?_
    refine g_ret' [.slice none 0 0] Try.func152 Try.results152 ⟨rfl, trivial⟩ ?_
    have H15 : St W w F := (H13.drop 0 rfl)
    have H16 := Row.im (Row.nil_intro H15 213 4) (i := 0) rfl
    obtain rfl : ats = [] := List.eq_nil_of_length_eq_zero (by have := hn8 ‹_›; omega)
    exact ⟨none, 0, rfl, H16⟩
  · skip
    refine r_cons (s_sleql false un_166 rfl rfl (isNone_f hc14) rfl ?_)
    refine r_nil ?_
    refine g_false rfl ?_
    refine g_skip ?_
    refine g_seq ?_
    refine g_region ?_
    refine r_cons (s_buildSlice0 H13 4 el_166 rfl ?_); intro bk17 w18 H19
    have H20 := Row.of_blk (n := 0) (size := 4) H19 (i := 0) rfl (by unfold maxLen; omega) (by simp) (by simp)
    refine r_cons (s_move (.slice pA1 ats.length cA2) rfl rfl ?_)
    refine r_cons (s_append H20 0 rfl rfl rfl (Im.rd H20 (i := 1) rfl) ap_166 (by decide) (by unfold maxLen; omega) (by omega) (n' := ats.length) (xs' := ats.flatMap attrCell) (by omega) (by first | rfl | simp) rfl ?_); intro vv21 w22 H23 hn24
    obtain ⟨pp25, cc26, rfl⟩ := Row.slice H23 (i := 0) rfl
    refine r_cons (s_assign (.slice pp25 ats.length cc26) rfl rfl ?_)
    refine r_nil ?_
    refine g_ret' [.slice pp25 ats.length cc26] Try.func152 Try.results152 ⟨rfl, trivial⟩ ?_
    have H27 : St W w22 (Row 213 4 (.slice pp25 ats.length cc26) ats.length (ats.flatMap attrCell) :: F) := (H23.drop 1 rfl)
    have H28 := Row.im H27 (i := 0) rfl
    exact ⟨_, _, rfl, H28⟩
set_option maxHeartbeats 4000000 in
set_option maxRecDepth 100000 in
theorem event_Clone {W w : World} {F : List Atom} (e : EvM) (av : Value) (hb : e.attrs.length * 48 ≤ 140737488355328) {j : Nat} (hj : F[j]? = some (Attrs av e.attrs)) (H : St W w F) : Calls Try.prog 135 #[.agg #[.int .i64 e.src.v, .int .i64 e.seq.v, .int .i64 e.time.v, .string e.typ.v, av]] w (Ret fun v w' => ∃ p c, v = .agg #[.int .i64 e.src.v, .int .i64 e.seq.v, .int .i64 e.time.v, .string e.typ.v, .slice p e.attrs.length c] ∧ St W w' (Attrs (.slice p e.attrs.length c) e.attrs :: F)) := by
  replace H := H.dup hj (Attrs_pers _ _)
  refine calls_of_go (n := 8) Try.func135 rfl Try.ntmps135 rfl ?_
  refine g_seq ?_
  refine g_region ?_
  refine r_cons (s_box H 168 (.agg #[.int .i64 e.src.v, .int .i64 e.seq.v, .int .i64 e.time.v, .string e.typ.v, av]) rfl (cs := #[.int .i64 e.src.v, .int .i64 e.seq.v, .int .i64 e.time.v, .string e.typ.v, av]) rfl rfl ?_); intro bk1 w2 H3
  refine r_cons (s_alloc H3 168 ze_168 rfl ?_); intro bk4 w5 H6
  refine r_nil ?_
  refine g_seq ?_
  refine g_region ?_
  refine r_cons (s_fieldAddr 168 3 4 4 166 rfl fi_168_3 rfl rfl ?_)
  refine r_cons (s_load (av) ag_166 rfl (H6.blk_at (i := 1) rfl) rfl rfl ?_)
  refine r_cons (s_call [av] pl_152 rfl rfl (clone_attrs e.attrs av (by omega) (j := 2) rfl H6) ?_)
  rintro _ w9 ⟨pp7, cc8, rfl, H10⟩
  refine r_cons (s_fieldAddr 168 3 4 4 166 rfl fi_168_3 rfl rfl ?_)
  refine r_cons (s_store H10 2 (.slice pp7 e.attrs.length cc8) rfl rfl rfl sz_166 rfl (Nat.le_of_ble_eq_true rfl) rfl (cs' := #[.int .i64 e.src.v, .int .i64 e.seq.v, .int .i64 e.time.v, .string e.typ.v, .slice pp7 e.attrs.length cc8]) rfl ?_); intro w11 H12
  refine r_nil ?_
  refine g_seq ?_
  refine g_region ?_
  refine r_cons (s_loadAgg [.int .i64 e.src.v, .int .i64 e.seq.v, .int .i64 e.time.v, .string e.typ.v, .slice pp7 e.attrs.length cc8] 5 ag_168 rfl (H12.blk_at (i := 2) rfl) (Nat.le_of_ble_eq_true rfl) rfl rfl ?_)
  refine r_cons (s_storeAgg H12 1 #[.int .i64 e.src.v, .int .i64 e.seq.v, .int .i64 e.time.v, .string e.typ.v, .slice pp7 e.attrs.length cc8] 5 rfl rfl rfl sz_168 rfl (by simp [Value.oneCell']) (Nat.le_of_ble_eq_true rfl) (fun o h1 h2 => by first | (simp; done) | (simp; omega)) (cs' := #[.int .i64 e.src.v, .int .i64 e.seq.v, .int .i64 e.time.v, .string e.typ.v, .slice pp7 e.attrs.length cc8]) rfl ?_); intro w13 H14
  refine r_nil ?_
  refine g_ret' [.agg #[.int .i64 e.src.v, .int .i64 e.seq.v, .int .i64 e.time.v, .string e.typ.v, .slice pp7 e.attrs.length cc8]] Try.func135 Try.results135 ⟨(res_cellN rfl ag_168 (H14.blk_at (i := 1) rfl) (Nat.le_of_ble_eq_true rfl) rfl), trivial⟩ ?_
  have H15 : St W w13 (Attrs (.slice pp7 e.attrs.length cc8) e.attrs :: F) := (((H14.drop 1 rfl).drop 1 rfl).drop 1 rfl)
  exact ⟨_, _, rfl, H15⟩
end Sl
