/- Walks of the program's functions. Printed by a program of this claim's author. No condition. -/
import Derived.Test.YteogdknlofcpiaaGreatSlBA
import Derived.Test.YteogdknlofcpiaaGreatSlDB
import Derived.Test.YteogdknlofcpiaaGreatSlQ
import Derived.Test.YteogdknlofcpiaaGreatSlR
import Derived.Test.YteogdknlofcpiaaGreatSlP
import Derived.Test.YteogdknlofcpiaaGreatSlI
import Derived.Test.YteogdknlofcpiaaGreatSlAF
import Derived.Test.YteogdknlofcpiaaGreatSlDK
import Derived.Test.YteogdknlofcpiaaGreatSlDL
import Derived.Test.YteogdknlofcpiaaGreatSlDS
import Derived.Test.YteogdknlofcpiaaGreatSlDM
import Derived.Test.YteogdknlofcpiaaGreatSlDN
import Derived.Test.YteogdknlofcpiaaGreatSlDT
import Derived.Test.YteogdknlofcpiaaGreatSlZC
import Derived.Test.YteogdknlofcpiaaGreatProg
namespace Sl
open _root_.Go _root_.Go.RowKit _root_.Go.Proofs
set_option linter.all false
theorem nbl {m n : Nat} (h : Nat.ble m n = true) : m ≤ n := Nat.le_of_ble_eq_true h
theorem t0 {p : Prop} (h : p := by omega) : p := h
theorem t1 {p : Prop} (h : p := by repeat' (first | exact trivial | refine ⟨by first | rfl | exact vint t0, ?_⟩)) : p := h
theorem t2 {p : Prop} (h : p := by first | omega | (simp only [List.length_append, List.length_nil, lowB_len, natB_len]; omega) | (repeat (first | exact Nat.zero_le _ | assumption | refine putL_le ?_ | refine bitsL_le ?_ | refine evPutL_le ?_ | (simp only [List.length_append, List.length_nil, lowB_len, natB_len]; omega)))) : p := h
theorem t3 {p : Prop} (h : p := by first | exact bad_t3 (by assumption) | exact bad_1 (by first | assumption | exact nottrue (by assumption)) | exact bad_2 (by first | assumption | exact nottrue (by assumption)) | exact bad_3 (by first | assumption | exact nottrue (by assumption)) | exact bad_4 t0) : p := h
theorem t4 {p : Prop} (h : p := by first | omega | decide +kernel | (repeat (first | assumption | exact Nat.zero_le _ | refine natN_pos ?_ | refine srcN_pos ?_ | refine textN_pos ?_))) : p := h
theorem t5 {p : Prop} (h : p := by kernel_rfl) : p := h
theorem t6 {p : Prop} (h : p := by unfold attrsE; first | rw [if_pos t0] | (rw [if_neg t0]; first | exact (firstNZ_zero (fun j hj => hz j t0)).symm | exact (firstNZ_at hz (by first | exact attrE_31 (nottrue ‹_›) | exact attrE_val (notfalse ‹_›) ‹_› | exact attrE_32 (notfalse ‹_›) ‹_› t0 ‹_›) (by first | decide | assumption) t0).symm)) : p := h
theorem t7 {p : Prop} (h : p := by first | (dsimp only; omega) | omega) : p := h
theorem t8 {p : Prop} (h : p := by first | (exfalso; omega) | exact (valE_0 (.inl ⟨by omega, by assumption⟩)).symm | exact (valE_0 (.inr ⟨by omega, by omega, by omega⟩)).symm | exact (valE_30 (by rintro (⟨_, _⟩ | ⟨_, _, _⟩) <;> first | omega | contradiction)).symm) : p := h
theorem t9 {p : Prop} (h : p := by decide) : p := h
theorem t10 {p : Prop} (h : p := by first | exact .inl t0 | exact .inr (.inl t0) | exact .inr (.inr (.inl (nottrue ‹_›))) | exact .inr (.inr (.inr (.inl (nottrue ‹_›)))) | exact .inr (.inr (.inr (.inr (nottrue ‹_›))))) : p := h
theorem t11 {p : Prop} (h : p := by assumption) : p := h
theorem t12 {p : Prop} (h : p := by unfold maxLen; omega) : p := h
theorem t13 {p : Prop} (h : p := by simp) : p := h
theorem t14 {p : Prop} (h : p := by exact congrArg (fun z_ => Value.slice z_ bs.length cc2) (hp21 t0)) : p := h
theorem t15 {p : Prop} (h : p := by simp [Value.oneCell']) : p := h
theorem t16 {p : Prop} (h : p := by first | rfl | simp) : p := h
theorem t17 {p : Prop} (h : p := by unfold letterB; first | exact (decide_eq_true t0).symm | exact (decide_eq_false t0).symm) : p := h
theorem t18 {p : Prop} (h : p := by first | omega | decide +kernel) : p := h
theorem t19 {p : Prop} (h : p := by simp only [timeB]; first | (exact (decide_eq_true t0).symm) | (exact (decide_eq_false t0).symm)) : p := h
theorem t20 {p : Prop} (h : p := by first | exact .inl t11 | exact .inl (notfalse t11) | exact .inr ⟨by assumption, by omega⟩) : p := h
theorem t21 {p : Prop} (h : p := by (try simp only [List.length_append, List.length_nil, lowB_len, natB_len]); omega) : p := h
theorem t22 {p : Prop} (h : p := by have hL2 := remB_len bs p; first | exact (endE_long t0).symm | exact (endE_bit (j := k) t0 (by rw [remB_getD t0]; cases hh : bitAt bs (p + k) with | true => rfl | false => (have h1 : (((bitAt bs (p + k)).toNat : Nat) : Int) = 1 := ‹_›; rw [hh] at h1; cases h1))).symm | exact (endE_0 t0 (fun j hj => hz j t0)).symm) : p := h
theorem t23 {p : Prop} (h : p := by first | exact okI_of t11 t0 | exact okI_of3 (notfalse t11) (notfalse t11) (notfalse t11) t0 | exact okI_of3 t11 t11 t11 t0) : p := h
theorem t24 {p : Prop} (h : p := by first | exact .inl t0 | exact .inr t11 | exact .inr (by simpa [leS] using ‹_›)) : p := h
theorem t25 {p : Prop} (h : p := by rw [sameIt_eq]; (try simp only [Bool.and_true, Bool.and_eq_true, Bool.and_eq_false_iff, decide_eq_true_eq, decide_eq_false_iff_not]); simp_all) : p := h
theorem t26 {p : Prop} (h : p := by unfold sameEv; (try simp only [Bool.and_true, Bool.and_eq_true, Bool.and_eq_false_iff, decide_eq_true_eq, decide_eq_false_iff_not] at *); first | (simp_all; done) | (simp_all; omega)) : p := h
theorem t27 {p : Prop} (h : p := by first | exact (nameB_no s i t0 (by simpa using rfl)).symm | (rw [nameB_is s (fun j hj => hz j t0)]; first | exact (decide_eq_true ⟨by assumption, by omega⟩).symm | exact (decide_eq_false (by intro h; first | exact absurd h.1 (by simpa using ‹_›) | omega)).symm)) : p := h
theorem t28 {p : Prop} (h : p := by (try simp only [List.length_append, lowB_len, natB_len]); omega) : p := h
theorem t29 {p : Prop} (h : p := by unfold t3B; first | exact (decide_eq_true t0).symm | exact (decide_eq_false t0).symm) : p := h
theorem t30 {p : Prop} (h : p := by have hh : (cur21.toList.drop 0).take (L.length * 6) = L.flatMap itCell := (by rw [(rfl : L.length = L.length)]; exact h26); have hk : L.length = L.length := (rfl : L.length = L.length); rw [hk] at hh; exact hh) : p := h
theorem t31 {p : Prop} (h : p := by exact congrArg (fun z_ => Value.slice z_ ats.length cA2) (hp9 t0)) : p := h
theorem t32 {p : Prop} (h : p := by have := elem_size (i := j) (s := 6) (hs23 t0) t0; omega) : p := h
theorem t33 {p : Prop} (h : p := by generalize 2 ^ k = q at *; omega) : p := h
theorem t34 {p : Prop} (h : p := by exact hi) : p := h
theorem t35 {p : Prop} (h : p := by first | exact (evE_40 t10).symm | exact (evE_in t0 t0 (notfalse hb10) (notfalse hb14) (notfalse hb18)).symm) : p := h
theorem t36 {p : Prop} (h : p := by first | rfl | (simp only [List.length_append, lowB_len, natB_len, textB_len]; done) | (simp only [List.length_append, lowB_len, natB_len, textB_len]; omega)) : p := h
theorem t37 {p : Prop} (h : p := by unfold charB; simp [*]; try omega) : p := h
theorem t38 {p : Prop} (h : p := by first | (left; omega) | (right; left; omega) | (right; right; rw [remB_getD t0]; exact Bool.of_not_eq_false fun h => absurd (toNat_1.2 h) ‹_›)) : p := h
theorem t39 {p : Prop} (h : p := by rfl) : p := h
theorem t40 {p : Prop} (h : p := by (try simp only [List.length_append, List.length_cons, List.length_nil, lowB_len]); omega) : p := h
theorem t41 {p : Prop} (h : p := by exact congrArg (fun z_ => Value.slice z_ B.length cc2) (hp15 t0)) : p := h
theorem t42 {p : Prop} (h : p := by exact congrArg (fun z_ => Value.slice z_ ((pkL (L.drop k)).length) bc) (hp21 t0)) : p := h
theorem t43 {p : Prop} (h : p := by rw [List.length_map]; omega) : p := h
theorem t44 {p : Prop} (h : p := by rw [show ((L.length : Int) / 8 : Int).toNat = L.length / 8 from by omega]) : p := h
theorem t45 {p : Prop} (h : p := by exact congrArg Value.bool hb20) : p := h
theorem t46 {p : Prop} (h : p := by (try simp only [List.length_append, List.length_cons, List.length_nil, lowK_len, lowB_len]); omega) : p := h
theorem t47 {p : Prop} (h : p := by have := tr_sum (ep := epD) (kd := kdD) (e := e2 + 1) (L := L2); rw [List.length_append]; omega) : p := h
theorem t48 {p : Prop} (h : p := by first | exact (evE_40 t10).symm | exact (evE_in t0 t0 ).symm) : p := h
theorem t49 {p : Prop} (h : p := by rw [show ((j : Int) - 1 : Int).toNat = j - 1 from by omega]) : p := h
theorem t50 {p : Prop} (h : p := by have := elem_size (i := k) (s := 6) (hs23 t0) t0; omega) : p := h
theorem t51 {p : Prop} (h : p := by exact hq) : p := h
theorem t52 {p : Prop} (h : p := by rw [List.flatMap_append]; rfl) : p := h
theorem t53 {p : Prop} (h : p := by rw [← hu1]; omega) : p := h
theorem t54 {p : Prop} (h : p := by intro t_ w hw; exact x_nilCheck (.pointer (pa bk13)) rfl ⟨_, rfl⟩ w) : p := h
theorem t55 {p : Prop} (h : p := by exact hp) : p := h
theorem t56 {p : Prop} (h : p := by exact congrArg (fun z_ => Value.slice z_ bs.length cc2) (hp25 t0)) : p := h
theorem t57 {p : Prop} (h : p := by exact congrArg (fun z_ => Value.slice z_ bs.length cc2) (hp22 t0)) : p := h
theorem t58 {p : Prop} (h : p := by rw [tdiv_pos t0]; exact wi64 t0) : p := h
theorem t59 {p : Prop} (h : p := by simp only [List.flatMap_append]) : p := h
set_option maxHeartbeats 4000000
set_option maxRecDepth 100000
variable {W w : World} {F : List Atom}
theorem un_130 : Tryz.prog.underlying 130 = some (.slice 2) := by kernel_rfl
theorem el_130 : elemSize Tryz.prog 130 = some (2, 1) := by kernel_rfl
theorem ag_2 : isAggB Tryz.prog 2 = false ∧ (Tryz.prog.underlying 2).isSome = true := ⟨by kernel_rfl, by kernel_rfl⟩
theorem fi_26_0 : fieldOff Tryz.prog 26 0 = some (0, 3) := by kernel_rfl
theorem ag_3 : isAggB Tryz.prog 3 = false ∧ (Tryz.prog.underlying 3).isSome = true := ⟨by kernel_rfl, by kernel_rfl⟩
theorem fi_26_1 : fieldOff Tryz.prog 26 1 = some (1, 3) := by kernel_rfl
theorem fi_26_2 : fieldOff Tryz.prog 26 2 = some (2, 2) := by kernel_rfl
theorem ze_2 : zeroOf Tryz.prog 2 = some #[.int .i64 0] := by kernel_rfl
theorem pl_47 : plainFn Tryz.prog 47 = true := by kernel_rfl
theorem fi_26_3 : fieldOff Tryz.prog 26 3 = some (3, 3) := by kernel_rfl
theorem fi_26_5 : fieldOff Tryz.prog 26 5 = some (5, 2) := by kernel_rfl
theorem fi_26_4 : fieldOff Tryz.prog 26 4 = some (4, 24) := by kernel_rfl
theorem fi_24_0 : fieldOff Tryz.prog 24 0 = some (0, 22) := by kernel_rfl
theorem ag_22 : isAggB Tryz.prog 22 = false ∧ (Tryz.prog.underlying 22).isSome = true := ⟨by kernel_rfl, by kernel_rfl⟩
theorem un_22 : Tryz.prog.underlying 22 = some (.slice 121) := by kernel_rfl
theorem ze_24 : zeroOf Tryz.prog 24 = some #[.slice none 0 0] := by kernel_rfl
theorem sz_24 : (Tryz.prog.info? 24).map (·.size) = some 1 := by kernel_rfl
theorem ag_24 : isAggB Tryz.prog 24 = true ∧ (Tryz.prog.info? 24).map (·.size) = some 1 := ⟨by kernel_rfl, by kernel_rfl⟩
theorem ze_26 : zeroOf Tryz.prog 26 = some #[.int .i64 0, .int .i64 0, .int .i64 0, .int .i64 0, .slice none 0 0, .int .i64 0] := by kernel_rfl
theorem pl_91 : plainFn Tryz.prog 91 = true := by kernel_rfl
theorem ag_26 : isAggB Tryz.prog 26 = true ∧ (Tryz.prog.info? 26).map (·.size) = some 6 := ⟨by kernel_rfl, by kernel_rfl⟩
theorem sz_26 : (Tryz.prog.info? 26).map (·.size) = some 6 := by kernel_rfl
theorem un_40 : Tryz.prog.underlying 40 = some (.pointer 90) := by kernel_rfl
theorem fi_90_0 : fieldOff Tryz.prog 90 0 = some (0, 4) := by kernel_rfl
theorem ag_4 : isAggB Tryz.prog 4 = false ∧ (Tryz.prog.underlying 4).isSome = true := ⟨by kernel_rfl, by kernel_rfl⟩
theorem pl_53 : plainFn Tryz.prog 53 = true := by kernel_rfl
theorem fi_90_1 : fieldOff Tryz.prog 90 1 = some (1, 2) := by kernel_rfl
theorem pl_10 : plainFn Tryz.prog 10 = true := by kernel_rfl
theorem mixed : Tryz.prog.follows .mixedOrders = true := by kernel_rfl
theorem fi_90_2 : fieldOff Tryz.prog 90 2 = some (2, 38) := by kernel_rfl
theorem ag_38 : isAggB Tryz.prog 38 = false ∧ (Tryz.prog.underlying 38).isSome = true := ⟨by kernel_rfl, by kernel_rfl⟩
theorem un_38 : Tryz.prog.underlying 38 = some (.slice 26) := by kernel_rfl
theorem pl_54 : plainFn Tryz.prog 54 = true := by kernel_rfl
theorem el_38 : elemSize Tryz.prog 38 = some (26, 6) := by kernel_rfl
theorem in_26 : (Tryz.prog.info? 26).map (fun i => (i.zero, i.size, i.bytes)) = some (some (.agg #[.int .i64 0, .int .i64 0, .int .i64 0, .int .i64 0, .slice none 0 0, .int .i64 0]), 6, 64) := by kernel_rfl
theorem ap_38 : appInfo Tryz.prog 38 26 6 64 6 := appInfo_mk un_38 in_26 rfl
theorem sz_38 : (Tryz.prog.info? 38).map (·.size) = some 1 := by kernel_rfl
theorem sz_2 : (Tryz.prog.info? 2).map (·.size) = some 1 := by kernel_rfl
theorem pl_55 : plainFn Tryz.prog 55 = true := by kernel_rfl
theorem pl_15 : plainFn Tryz.prog 15 = true := by kernel_rfl
theorem pl_46 : plainFn Tryz.prog 46 = true := by kernel_rfl
theorem pl_16 : plainFn Tryz.prog 16 = true := by kernel_rfl
theorem pl_19 : plainFn Tryz.prog 19 = true := by kernel_rfl
theorem un_27 : Tryz.prog.underlying 27 = some (.slice 5) := by kernel_rfl
theorem el_27 : elemSize Tryz.prog 27 = some (5, 1) := by kernel_rfl
theorem in_5 : (Tryz.prog.info? 5).map (fun i => (i.zero, i.size, i.bytes)) = some (some (.int .u8 0), 1, 1) := by kernel_rfl
theorem ap_27 : appInfo Tryz.prog 27 5 1 1 1 := appInfo_mk un_27 in_5 rfl
theorem us_9 : (Tryz.prog.underlying 9).isSome = true := by kernel_rfl
theorem un_5 : Tryz.prog.underlying 5 = some (.int .u8) := by kernel_rfl
theorem ag_5 : isAggB Tryz.prog 5 = false ∧ (Tryz.prog.underlying 5).isSome = true := ⟨by kernel_rfl, by kernel_rfl⟩
theorem st_9 : isStr Tryz.prog 9 = true := by kernel_rfl
theorem fi_145_0 : fieldOff Tryz.prog 145 0 = some (0, 3) := by kernel_rfl
theorem fi_145_2 : fieldOff Tryz.prog 145 2 = some (2, 9) := by kernel_rfl
theorem ag_9 : isAggB Tryz.prog 9 = false ∧ (Tryz.prog.underlying 9).isSome = true := ⟨by kernel_rfl, by kernel_rfl⟩
theorem fi_145_1 : fieldOff Tryz.prog 145 1 = some (1, 2) := by kernel_rfl
theorem un_117 : Tryz.prog.underlying 117 = some (.slice 147) := by kernel_rfl
theorem el_117 : elemSize Tryz.prog 117 = some (147, 4) := by kernel_rfl
theorem ag_147 : isAggB Tryz.prog 147 = true ∧ (Tryz.prog.info? 147).map (·.size) = some 4 := ⟨by kernel_rfl, by kernel_rfl⟩
theorem ze_147 : zeroOf Tryz.prog 147 = some #[.string ByteArray.empty, .int .i64 0, .int .i64 0, .string ByteArray.empty] := by kernel_rfl
theorem sz_147 : (Tryz.prog.info? 147).map (·.size) = some 4 := by kernel_rfl
theorem fi_147_0 : fieldOff Tryz.prog 147 0 = some (0, 9) := by kernel_rfl
theorem pl_83 : plainFn Tryz.prog 83 = true := by kernel_rfl
theorem fi_147_1 : fieldOff Tryz.prog 147 1 = some (1, 145) := by kernel_rfl
theorem ag_145 : isAggB Tryz.prog 145 = true ∧ (Tryz.prog.info? 145).map (·.size) = some 3 := ⟨by kernel_rfl, by kernel_rfl⟩
theorem pl_120 : plainFn Tryz.prog 120 = true := by kernel_rfl
theorem pl_108 : plainFn Tryz.prog 108 = true := by kernel_rfl
theorem pl_85 : plainFn Tryz.prog 85 = true := by kernel_rfl
theorem pl_121 : plainFn Tryz.prog 121 = true := by kernel_rfl
theorem ev_147 {a0 b0 : ByteArray} {a1 b1 : Int} {a2 b2 : Int} {a3 b3 : ByteArray} : EqV Tryz.prog Op.maxDepth 147 (.agg #[.string a0, .int .i64 a1, .int .i64 a2, .string a3]) (.agg #[.string b0, .int .i64 b1, .int .i64 b2, .string b3]) (decide (a0 = b0) && ((decide (a1 = b1) && (decide (a2 = b2) && (decide (a3 = b3) && true))) && true)) := (EqV.struct (d := 9999) (l := [_, _]) Tryz.underlying147 rfl t5 (EqF.cons (a := .string a0) (b := .string b0) rfl (fun w => by kernel_rfl) (fun w => by kernel_rfl) (EqV.str (d := 9998) Tryz.underlying9) (EqF.cons (a := .agg #[.int .i64 a1, .int .i64 a2, .string a3]) (b := .agg #[.int .i64 b1, .int .i64 b2, .string b3]) rfl (fun w => by kernel_rfl) (fun w => by kernel_rfl) (EqV.struct (d := 9998) (l := [_, _, _]) Tryz.underlying145 rfl t5 (EqF.cons (a := .int .i64 a1) (b := .int .i64 b1) rfl (fun w => by kernel_rfl) (fun w => by kernel_rfl) (EqV.int (d := 9997) Tryz.underlying3) (EqF.cons (a := .int .i64 a2) (b := .int .i64 b2) rfl (fun w => by kernel_rfl) (fun w => by kernel_rfl) (EqV.int (d := 9997) Tryz.underlying2) (EqF.cons (a := .string a3) (b := .string b3) rfl (fun w => by kernel_rfl) (fun w => by kernel_rfl) (EqV.str (d := 9997) Tryz.underlying9) EqF.nil)))) EqF.nil)))
theorem gd_147 : Tryz.prog.eqGuardType Tryz.prog.depth 147 = false := by kernel_rfl
theorem fi_119_0 : fieldOff Tryz.prog 119 0 = some (0, 116) := by kernel_rfl
theorem fi_116_0 : fieldOff Tryz.prog 116 0 = some (0, 3) := by kernel_rfl
theorem fi_116_1 : fieldOff Tryz.prog 116 1 = some (1, 2) := by kernel_rfl
theorem pl_106 : plainFn Tryz.prog 106 = true := by kernel_rfl
theorem fi_119_1 : fieldOff Tryz.prog 119 1 = some (2, 2) := by kernel_rfl
theorem fi_119_2 : fieldOff Tryz.prog 119 2 = some (3, 9) := by kernel_rfl
theorem fi_119_3 : fieldOff Tryz.prog 119 3 = some (4, 117) := by kernel_rfl
theorem ag_117 : isAggB Tryz.prog 117 = false ∧ (Tryz.prog.underlying 117).isSome = true := ⟨by kernel_rfl, by kernel_rfl⟩
theorem pl_107 : plainFn Tryz.prog 107 = true := by kernel_rfl
theorem in_147 : (Tryz.prog.info? 147).map (fun i => (i.zero, i.size, i.bytes)) = some (some (.agg #[.string ByteArray.empty, .int .i64 0, .int .i64 0, .string ByteArray.empty]), 4, 48) := by kernel_rfl
theorem ap_117 : appInfo Tryz.prog 117 147 4 48 4 := appInfo_mk un_117 in_147 rfl
theorem ze_119 : zeroOf Tryz.prog 119 = some #[.int .i64 0, .int .i64 0, .int .i64 0, .string ByteArray.empty, .slice none 0 0] := by kernel_rfl
theorem pl_123 : plainFn Tryz.prog 123 = true := by kernel_rfl
theorem sz_117 : (Tryz.prog.info? 117).map (·.size) = some 1 := by kernel_rfl
theorem ag_119 : isAggB Tryz.prog 119 = true ∧ (Tryz.prog.info? 119).map (·.size) = some 5 := ⟨by kernel_rfl, by kernel_rfl⟩
theorem sz_119 : (Tryz.prog.info? 119).map (·.size) = some 5 := by kernel_rfl
theorem pl_109 : plainFn Tryz.prog 109 = true := by kernel_rfl
theorem pl_110 : plainFn Tryz.prog 110 = true := by kernel_rfl
theorem ag_116 : isAggB Tryz.prog 116 = true ∧ (Tryz.prog.info? 116).map (·.size) = some 2 := ⟨by kernel_rfl, by kernel_rfl⟩
theorem ev_116 {a0 b0 : Int} {a1 b1 : Int} : EqV Tryz.prog Op.maxDepth 116 (.agg #[.int .i64 a0, .int .i64 a1]) (.agg #[.int .i64 b0, .int .i64 b1]) (decide (a0 = b0) && (decide (a1 = b1) && true)) := (EqV.struct (d := 9999) (l := [_, _]) Tryz.underlying116 rfl t5 (EqF.cons (a := .int .i64 a0) (b := .int .i64 b0) rfl (fun w => by kernel_rfl) (fun w => by kernel_rfl) (EqV.int (d := 9998) Tryz.underlying3) (EqF.cons (a := .int .i64 a1) (b := .int .i64 b1) rfl (fun w => by kernel_rfl) (fun w => by kernel_rfl) (EqV.int (d := 9998) Tryz.underlying2) EqF.nil)))
theorem gd_116 : Tryz.prog.eqGuardType Tryz.prog.depth 116 = false := by kernel_rfl
theorem pl_111 : plainFn Tryz.prog 111 = true := by kernel_rfl
theorem fi_106_2 : fieldOff Tryz.prog 106 2 = some (2, 3) := by kernel_rfl
theorem fi_106_1 : fieldOff Tryz.prog 106 1 = some (1, 27) := by kernel_rfl
theorem ag_27 : isAggB Tryz.prog 27 = false ∧ (Tryz.prog.underlying 27).isSome = true := ⟨by kernel_rfl, by kernel_rfl⟩
theorem ze_5 : zeroOf Tryz.prog 5 = some #[.int .u8 0] := by kernel_rfl
theorem sz_27 : (Tryz.prog.info? 27).map (·.size) = some 1 := by kernel_rfl
theorem sz_5 : (Tryz.prog.info? 5).map (·.size) = some 1 := by kernel_rfl
theorem sz_3 : (Tryz.prog.info? 3).map (·.size) = some 1 := by kernel_rfl
theorem us_61 : (Tryz.prog.underlying 61).isSome = true := by kernel_rfl
theorem ik_5 : intKind Tryz.prog 5 = some .u8 := by kernel_rfl
theorem us_5 : (Tryz.prog.underlying 5).isSome = true := by kernel_rfl
theorem ik_3 : intKind Tryz.prog 3 = some .i64 := by kernel_rfl
theorem pl_94 : plainFn Tryz.prog 94 = true := by kernel_rfl
theorem un_58 : Tryz.prog.underlying 58 = some (.pointer 106) := by kernel_rfl
theorem fi_106_0 : fieldOff Tryz.prog 106 0 = some (0, 4) := by kernel_rfl
theorem pl_95 : plainFn Tryz.prog 95 = true := by kernel_rfl
theorem pl_65 : plainFn Tryz.prog 65 = true := by kernel_rfl
theorem pl_67 : plainFn Tryz.prog 67 = true := by kernel_rfl
theorem pl_64 : plainFn Tryz.prog 64 = true := by kernel_rfl
theorem pl_66 : plainFn Tryz.prog 66 = true := by kernel_rfl
theorem us_2 : (Tryz.prog.underlying 2).isSome = true := by kernel_rfl
theorem ik_61 : intKind Tryz.prog 61 = some .u64 := by kernel_rfl
theorem pl_28 : plainFn Tryz.prog 28 = true := by kernel_rfl
theorem us_3 : (Tryz.prog.underlying 3).isSome = true := by kernel_rfl
theorem un_39 : Tryz.prog.underlying 39 = some (.slice 4) := by kernel_rfl
theorem el_39 : elemSize Tryz.prog 39 = some (4, 1) := by kernel_rfl
theorem pl_71 : plainFn Tryz.prog 71 = true := by kernel_rfl
theorem ze_4 : zeroOf Tryz.prog 4 = some #[.bool false] := by kernel_rfl
theorem in_4 : (Tryz.prog.info? 4).map (fun i => (i.zero, i.size, i.bytes)) = some (some (.bool false), 1, 1) := by kernel_rfl
theorem ap_39 : appInfo Tryz.prog 39 4 1 1 1 := appInfo_mk un_39 in_4 rfl
theorem un_3 : Tryz.prog.underlying 3 = some (.int .i64) := by kernel_rfl
theorem pl_72 : plainFn Tryz.prog 72 = true := by kernel_rfl
theorem pl_33 : plainFn Tryz.prog 33 = true := by kernel_rfl
theorem pl_116 : plainFn Tryz.prog 116 = true := by kernel_rfl
theorem pl_32 : plainFn Tryz.prog 32 = true := by kernel_rfl
theorem un_70 : Tryz.prog.underlying 70 = some (.pointer 124) := by kernel_rfl
theorem fi_124_1 : fieldOff Tryz.prog 124 1 = some (1, 27) := by kernel_rfl
theorem fi_124_2 : fieldOff Tryz.prog 124 2 = some (2, 3) := by kernel_rfl
theorem fi_124_0 : fieldOff Tryz.prog 124 0 = some (0, 4) := by kernel_rfl
theorem pl_99 : plainFn Tryz.prog 99 = true := by kernel_rfl
theorem pl_100 : plainFn Tryz.prog 100 = true := by kernel_rfl
theorem pl_76 : plainFn Tryz.prog 76 = true := by kernel_rfl
theorem pl_101 : plainFn Tryz.prog 101 = true := by kernel_rfl
theorem pl_75 : plainFn Tryz.prog 75 = true := by kernel_rfl
theorem ik_2 : intKind Tryz.prog 2 = some .i64 := by kernel_rfl
theorem un_9 : Tryz.prog.underlying 9 = some (.string) := by kernel_rfl
theorem sz_4 : (Tryz.prog.info? 4).map (·.size) = some 1 := by kernel_rfl
theorem pl_29 : plainFn Tryz.prog 29 = true := by kernel_rfl
theorem pl_124 : plainFn Tryz.prog 124 = true := by kernel_rfl
theorem pl_96 : plainFn Tryz.prog 96 = true := by kernel_rfl
theorem pl_125 : plainFn Tryz.prog 125 = true := by kernel_rfl
theorem pl_68 : plainFn Tryz.prog 68 = true := by kernel_rfl
theorem pl_84 : plainFn Tryz.prog 84 = true := by kernel_rfl
theorem pl_27 : plainFn Tryz.prog 27 = true := by kernel_rfl
theorem pl_115 : plainFn Tryz.prog 115 = true := by kernel_rfl
theorem pl_70 : plainFn Tryz.prog 70 = true := by kernel_rfl
theorem pl_73 : plainFn Tryz.prog 73 = true := by kernel_rfl
theorem pl_98 : plainFn Tryz.prog 98 = true := by kernel_rfl
theorem fi_164_1 : fieldOff Tryz.prog 164 1 = some (1, 28) := by kernel_rfl
theorem ag_28 : isAggB Tryz.prog 28 = false ∧ (Tryz.prog.underlying 28).isSome = true := ⟨by kernel_rfl, by kernel_rfl⟩
theorem sz_28 : (Tryz.prog.info? 28).map (·.size) = some 1 := by kernel_rfl
theorem fi_164_0 : fieldOff Tryz.prog 164 0 = some (0, 70) := by kernel_rfl
theorem ag_70 : isAggB Tryz.prog 70 = false ∧ (Tryz.prog.underlying 70).isSome = true := ⟨by kernel_rfl, by kernel_rfl⟩
theorem pl_129 : plainFn Tryz.prog 129 = true := by kernel_rfl
theorem pl_102 : plainFn Tryz.prog 102 = true := by kernel_rfl
theorem pl_134 : plainFn Tryz.prog 134 = true := by kernel_rfl
theorem pl_128 : plainFn Tryz.prog 128 = true := by kernel_rfl
theorem pl_126 : plainFn Tryz.prog 126 = true := by kernel_rfl
theorem pl_132 : plainFn Tryz.prog 132 = true := by kernel_rfl
theorem sz_9 : (Tryz.prog.info? 9).map (·.size) = some 1 := by kernel_rfl
theorem pl_127 : plainFn Tryz.prog 127 = true := by kernel_rfl
theorem pl_130 : plainFn Tryz.prog 130 = true := by kernel_rfl
theorem ag_124 : isAggB Tryz.prog 124 = true ∧ (Tryz.prog.info? 124).map (·.size) = some 3 := ⟨by kernel_rfl, by kernel_rfl⟩
theorem ze_124 : zeroOf Tryz.prog 124 = some #[.bool false, .slice none 0 0, .int .i64 0] := by kernel_rfl
theorem sz_124 : (Tryz.prog.info? 124).map (·.size) = some 3 := by kernel_rfl
theorem pl_117 : plainFn Tryz.prog 117 = true := by kernel_rfl
theorem pl_86 : plainFn Tryz.prog 86 = true := by kernel_rfl
theorem kl_116 : KeyLaw Tryz.prog 116 kID := KeyLaw.wide (fun em k w => by kernel_rfl) t5 (fun a b w => by rw [idk_dec]; simp only [Op.equal]; exact ev_116 w) kID_bits
theorem el_22 : elemSize Tryz.prog 22 = some (121, 6) := by kernel_rfl
theorem ag_121 : isAggB Tryz.prog 121 = true ∧ (Tryz.prog.info? 121).map (·.size) = some 6 := ⟨by kernel_rfl, by kernel_rfl⟩
theorem ze_121 : zeroOf Tryz.prog 121 = some #[.string ByteArray.empty, .int .i64 0, .int .i64 0, .int .i64 0, .string ByteArray.empty, .slice none 0 0] := by kernel_rfl
theorem sz_121 : (Tryz.prog.info? 121).map (·.size) = some 6 := by kernel_rfl
theorem fi_121_0 : fieldOff Tryz.prog 121 0 = some (0, 9) := by kernel_rfl
theorem fi_121_1 : fieldOff Tryz.prog 121 1 = some (1, 119) := by kernel_rfl
theorem un_134 : Tryz.prog.underlying 134 = some (.map 116 4) := by kernel_rfl
theorem zv_4 : ∀ w : World, (zeroValue 4).run Tryz.prog w = .ok (.bool false) w := fun w => by kernel_rfl
theorem pl_113 : plainFn Tryz.prog 113 = true := by kernel_rfl
theorem in_121 : (Tryz.prog.info? 121).map (fun i => (i.zero, i.size, i.bytes)) = some (some (.agg #[.string ByteArray.empty, .int .i64 0, .int .i64 0, .int .i64 0, .string ByteArray.empty, .slice none 0 0]), 6, 80) := by kernel_rfl
theorem ap_22 : appInfo Tryz.prog 22 121 6 80 6 := appInfo_mk un_22 in_121 rfl
theorem pl_114 : plainFn Tryz.prog 114 = true := by kernel_rfl
theorem pl_87 : plainFn Tryz.prog 87 = true := by kernel_rfl
theorem pl_48 : plainFn Tryz.prog 48 = true := by kernel_rfl
theorem pl_49 : plainFn Tryz.prog 49 = true := by kernel_rfl
theorem pl_50 : plainFn Tryz.prog 50 = true := by kernel_rfl
theorem pl_92 : plainFn Tryz.prog 92 = true := by kernel_rfl
theorem pl_51 : plainFn Tryz.prog 51 = true := by kernel_rfl
theorem pl_97 : plainFn Tryz.prog 97 = true := by kernel_rfl
theorem pl_69 : plainFn Tryz.prog 69 = true := by kernel_rfl
theorem pl_74 : plainFn Tryz.prog 74 = true := by kernel_rfl
theorem pl_30 : plainFn Tryz.prog 30 = true := by kernel_rfl
theorem pl_31 : plainFn Tryz.prog 31 = true := by kernel_rfl
theorem pl_11 : plainFn Tryz.prog 11 = true := by kernel_rfl
theorem pl_34 : plainFn Tryz.prog 34 = true := by kernel_rfl
theorem pl_35 : plainFn Tryz.prog 35 = true := by kernel_rfl
theorem pl_103 : plainFn Tryz.prog 103 = true := by kernel_rfl
theorem sz_22 : (Tryz.prog.info? 22).map (·.size) = some 1 := by kernel_rfl
theorem pl_77 : plainFn Tryz.prog 77 = true := by kernel_rfl
theorem fi_73_1 : fieldOff Tryz.prog 73 1 = some (1, 28) := by kernel_rfl
theorem fi_73_0 : fieldOff Tryz.prog 73 0 = some (0, 70) := by kernel_rfl
theorem pl_78 : plainFn Tryz.prog 78 = true := by kernel_rfl
theorem pl_36 : plainFn Tryz.prog 36 = true := by kernel_rfl
theorem pl_37 : plainFn Tryz.prog 37 = true := by kernel_rfl
theorem pl_38 : plainFn Tryz.prog 38 = true := by kernel_rfl
theorem pl_39 : plainFn Tryz.prog 39 = true := by kernel_rfl
theorem pl_40 : plainFn Tryz.prog 40 = true := by kernel_rfl
theorem pl_42 : plainFn Tryz.prog 42 = true := by kernel_rfl
theorem pl_41 : plainFn Tryz.prog 41 = true := by kernel_rfl
theorem pl_5 : plainFn Tryz.prog 5 = true := by kernel_rfl
theorem pl_6 : plainFn Tryz.prog 6 = true := by kernel_rfl
theorem pl_7 : plainFn Tryz.prog 7 = true := by kernel_rfl
theorem pl_9 : plainFn Tryz.prog 9 = true := by kernel_rfl
theorem pl_12 : plainFn Tryz.prog 12 = true := by kernel_rfl
theorem pl_13 : plainFn Tryz.prog 13 = true := by kernel_rfl
theorem pl_58 : plainFn Tryz.prog 58 = true := by kernel_rfl
theorem fi_44_1 : fieldOff Tryz.prog 44 1 = some (1, 38) := by kernel_rfl
theorem fi_44_0 : fieldOff Tryz.prog 44 0 = some (0, 2) := by kernel_rfl
theorem pl_56 : plainFn Tryz.prog 56 = true := by kernel_rfl
theorem pl_57 : plainFn Tryz.prog 57 = true := by kernel_rfl
theorem pl_63 : plainFn Tryz.prog 63 = true := by kernel_rfl
theorem ze_38 : zeroOf Tryz.prog 38 = some #[.slice none 0 0] := by kernel_rfl
theorem ze_3 : zeroOf Tryz.prog 3 = some #[.int .i64 0] := by kernel_rfl
theorem pl_59 : plainFn Tryz.prog 59 = true := by kernel_rfl
theorem un_98 : Tryz.prog.underlying 98 = some (.slice 27) := by kernel_rfl
theorem el_98 : elemSize Tryz.prog 98 = some (27, 1) := by kernel_rfl
theorem pl_93 : plainFn Tryz.prog 93 = true := by kernel_rfl
theorem ze_27 : zeroOf Tryz.prog 27 = some #[.slice none 0 0] := by kernel_rfl
theorem in_27 : (Tryz.prog.info? 27).map (fun i => (i.zero, i.size, i.bytes)) = some (some (.slice none 0 0), 1, 24) := by kernel_rfl
theorem ap_98 : appInfo Tryz.prog 98 27 1 24 1 := appInfo_mk un_98 in_27 rfl
theorem pl_61 : plainFn Tryz.prog 61 = true := by kernel_rfl
theorem ze_98 : zeroOf Tryz.prog 98 = some #[.slice none 0 0] := by kernel_rfl
theorem sz_98 : (Tryz.prog.info? 98).map (·.size) = some 1 := by kernel_rfl
theorem pl_22 : plainFn Tryz.prog 22 = true := by kernel_rfl
theorem ag_98 : isAggB Tryz.prog 98 = false ∧ (Tryz.prog.underlying 98).isSome = true := ⟨by kernel_rfl, by kernel_rfl⟩
theorem pl_60 : plainFn Tryz.prog 60 = true := by kernel_rfl
theorem pl_62 : plainFn Tryz.prog 62 = true := by kernel_rfl
theorem pl_17 : plainFn Tryz.prog 17 = true := by kernel_rfl
theorem pl_18 : plainFn Tryz.prog 18 = true := by kernel_rfl
theorem pl_20 : plainFn Tryz.prog 20 = true := by kernel_rfl
theorem pl_21 : plainFn Tryz.prog 21 = true := by kernel_rfl
theorem pl_23 : plainFn Tryz.prog 23 = true := by kernel_rfl
theorem pl_24 : plainFn Tryz.prog 24 = true := by kernel_rfl
theorem pl_25 : plainFn Tryz.prog 25 = true := by kernel_rfl
theorem pl_26 : plainFn Tryz.prog 26 = true := by kernel_rfl
theorem time3 (g : Nat) (x y z : Int) (h1 : 0 ≤ x ∧ x ≤ 1099511627776) (h2 : 0 ≤ y ∧ y ≤ 1099511627776) (h3 : 0 ≤ z ∧ z ≤ 1099511627776) (H : St W w (blk g (.cells #[.int .i64 x, .int .i64 y, .int .i64 z] 2 (0, 0)) :: F)) : Calls Tryz.prog 47 #[.slice (pa g) 3 3] w (Ret fun v w' => v = .bool true ∧ St W w' (blk g (.cells #[.int .i64 x, .int .i64 y, .int .i64 z] 2 (0, 0)) :: F)) := by
 have H0 := H
 refine calls_of_go (n := 18) Tryz.func47 rfl Tryz.ntmps47 rfl ?_
 refine g_seq (g_region (Ag (.bool false) (r_nil (g_seq (g_seq (g_region (Mv (.slice (pa g) 3 3) (rc (s_len 3 rfl ⟨_, un_130⟩ rfl (Mv (.int .i64 0) (r_nil (g_block ?_))))))))))))
 refine g_loop ?_
 refine g_seq (g_region (rc (s_lss true rfl rfl (dtrue t9) rfl (r_nil (g_seq (g_true rfl (g_skip (g_seq (g_block (g_seq (g_region (rc (s_indexAddr g 0 1 0 rfl rfl el_130 t0 rfl rfl (Lo (.int .i64 x) ag_2 H0 0 (Ag (.int .i64 x) (r_nil (g_seq (g_region (Mv (.int .i64 x) (rc (s_lss false rfl rfl (dfalse t0) rfl (Mv (.bool false) (Rt (Mw (.int .i64 x) (Rt (s_gtr false rfl rfl (dfalse t0) rfl (Pf (.bool false) (r_nil (g_false rfl (g_skip (g_inBlock (g_region (rc (s_add 1 rfl rfl (wi64 t0) rfl (Mv (.int .i64 1) (r_nil (g_inLoop (g_seq (g_region (rc (s_lss true rfl rfl (dtrue t9) rfl (r_nil (g_seq (g_true rfl (g_skip ?_)))))))))))))))))))))))))))))))))))))))))))))
 refine g_seq (g_block (g_seq (g_region (rc (s_indexAddr g 1 1 1 rfl rfl el_130 t0 rfl rfl (Lo (.int .i64 y) ag_2 H0 0 (Ag (.int .i64 y) (r_nil (g_seq (g_region (Mv (.int .i64 y) (rc (s_lss false rfl rfl (dfalse t0) rfl (Mv (.bool false) (Rt (Mw (.int .i64 y) (Rt (s_gtr false rfl rfl (dfalse t0) rfl (Pf (.bool false) (r_nil (g_false rfl (g_skip (g_inBlock (g_region (rc (s_add 2 rfl rfl (wi64 t0) rfl (Mv (.int .i64 2) (r_nil (g_inLoop (g_seq (g_region (rc (s_lss true rfl rfl (dtrue t9) rfl (r_nil (g_seq (g_true rfl (g_skip (g_seq (g_block (g_seq (g_region (rc (s_indexAddr g 2 1 2 rfl rfl el_130 t0 rfl rfl (Lo (.int .i64 z) ag_2 H0 0 (Ag (.int .i64 z) ?_)))))))))))))))))))))))))))))))))))))))))))))
 refine r_nil (g_seq (g_region (Mv (.int .i64 z) (rc (s_lss false rfl rfl (dfalse t0) rfl (Mv (.bool false) (Rt (Mw (.int .i64 z) (Rt (s_gtr false rfl rfl (dfalse t0) rfl (Pf (.bool false) (r_nil (g_false rfl (g_skip (g_inBlock (g_region (rc (s_add 3 rfl rfl (wi64 t0) rfl (Mv (.int .i64 3) (r_nil (g_inLoop (g_seq (g_region (rc (s_lss false rfl rfl (dfalse t9) rfl (r_nil (g_seq (g_false rfl (g_exit t39 (g_seq (g_region (Ag (.bool true) (r_nil (Gr [.bool true] Tryz.func47 Tryz.results47 ?_))))))))))))))))))))))))))))))))))
 have H1 : St W w (_ :: F) := H0
 exact ⟨rfl, H1⟩
theorem CheckItem_mark (o n e t : Int) (ho : 0 ≤ o ∧ o ≤ 1099511627776) (hn : 0 ≤ n ∧ n ≤ 1099511627776) (he : 0 ≤ e ∧ e ≤ 1099511627776) (ht : 0 ≤ t ∧ t ≤ 1099511627777) (H : St W w F) : Calls Tryz.prog 10 #[.agg #[.int .i64 o, .int .i64 n, .int .i64 e, .int .i64 2, .slice none 0 0, .int .i64 t]] w (Ret fun v w' => v = .int .i64 0 ∧ St W w' F) := by
 refine calls_of_go (n := 55) Tryz.func10 rfl Tryz.ntmps10 rfl ?_
 refine g_seq (g_region (Bx H 26 #[.int .i64 o, .int .i64 n, .int .i64 e, .int .i64 2, .slice none 0 0, .int .i64 t] (fun bk1 w2 H3 => Ag (.int .i64 0) (r_nil (g_seq (g_region (Fa 0 fi_26_0 rfl (Lo (.int .i64 o) ag_3 H3 0 (Fa 1 fi_26_1 rfl (Lo (.int .i64 n) ag_3 H3 0 (Fa 2 fi_26_2 rfl (Lo (.int .i64 e) ag_2 H3 0 (rc (s_buildSlice H3 1 3 (cs := #[.int .i64 o, .int .i64 n, .int .i64 e]) #[.int .i64 0] el_130 ze_2 t9 t9 t5 rfl (fun bk4 w5 H6 => rc (s_call [.slice (pa bk4) 3 3] pl_47 rfl rfl (time3 bk4 o n e t0 t0 t0 H6) ?_))))))))))))))))
 rintro _ w7 ⟨rfl, H8⟩
 refine Ag (.bool true) (r_nil (g_seq (g_seq (g_region (Fa 3 fi_26_3 rfl (Lo (.int .i64 2) ag_3 H8 1 (r_nil (g_block (g_seq (g_region (rc (s_eql false rfl rfl (dfalse t9) rfl (Ag (.bool false) (r_nil (g_false rfl (g_seq (g_region (rc (s_eql true rfl rfl (dtrue t9) rfl (Ag (.bool true) (r_nil (g_true rfl (g_region (Mv (.bool true) (Mv (.bool true) (Rt (s_fieldAddr 26 5 5 5 2 rfl fi_26_5 rfl rfl (Rt (s_load (.int .i64 t) ag_2 rfl (H8.blk_at (i := 1) rfl) rfl rfl (Rt (s_geq true rfl rfl (dtrue t0) rfl (Pt (.bool true) (Mv (.bool true) (Rt (s_fieldAddr 26 5 5 5 2 rfl fi_26_5 rfl rfl (Rt (s_load (.int .i64 t) ag_2 rfl (H8.blk_at (i := 1) rfl) rfl rfl (Rt (s_leq true rfl rfl (dtrue t0) rfl (Pt (.bool true) (Ag (.bool true) (r_nil ?_))))))))))))))))))))))))))))))))))))))))))
 refine g_inBlock (g_seq (g_seq (g_region (Mv (.bool true) (rc (s_not true rfl false rfl rfl (Mv (.bool false) (Rt (s_fieldAddr 26 4 4 4 24 rfl fi_26_4 rfl rfl (Rt (s_fieldAddr 24 0 0 4 22 rfl fi_24_0 rfl rfl (Rt (s_load (.slice none 0 0) ag_22 rfl (H8.blk_at (i := 1) rfl) rfl rfl (Rt (s_len 0 rfl ⟨_, un_22⟩ rfl (Rt (s_gtr false rfl rfl (dfalse t9) rfl (Pf (.bool false) (r_nil (g_false rfl (g_skip (g_seq (g_region (Ag (.int .i64 0) (r_nil (Gr [.int .i64 0] Tryz.func10 Tryz.results10 ?_))))))))))))))))))))))))))
 have H9 : St W w7 F := (H8.mv [100, 100])
 exact ⟨rfl, H9⟩
theorem CheckItem_end (o n e : Int) (ho : 0 ≤ o ∧ o ≤ 1099511627776) (hn : 0 ≤ n ∧ n ≤ 1099511627776) (he : 0 ≤ e ∧ e ≤ 1099511627776) (H : St W w F) : Calls Tryz.prog 10 #[.agg #[.int .i64 o, .int .i64 n, .int .i64 e, .int .i64 3, .slice none 0 0, .int .i64 0]] w (Ret fun v w' => v = .int .i64 0 ∧ St W w' F) := by
 refine calls_of_go (n := 55) Tryz.func10 rfl Tryz.ntmps10 rfl ?_
 refine g_seq (g_region (Bx H 26 #[.int .i64 o, .int .i64 n, .int .i64 e, .int .i64 3, .slice none 0 0, .int .i64 0] (fun bk1 w2 H3 => Ag (.int .i64 0) (r_nil (g_seq (g_region (Fa 0 fi_26_0 rfl (Lo (.int .i64 o) ag_3 H3 0 (Fa 1 fi_26_1 rfl (Lo (.int .i64 n) ag_3 H3 0 (Fa 2 fi_26_2 rfl (Lo (.int .i64 e) ag_2 H3 0 (rc (s_buildSlice H3 1 3 (cs := #[.int .i64 o, .int .i64 n, .int .i64 e]) #[.int .i64 0] el_130 ze_2 t9 t9 t5 rfl (fun bk4 w5 H6 => rc (s_call [.slice (pa bk4) 3 3] pl_47 rfl rfl (time3 bk4 o n e t0 t0 t0 H6) ?_))))))))))))))))
 rintro _ w7 ⟨rfl, H8⟩
 refine Ag (.bool true) (r_nil (g_seq (g_seq (g_region (Fa 3 fi_26_3 rfl (Lo (.int .i64 3) ag_3 H8 1 (r_nil (g_block (g_seq (g_region (rc (s_eql false rfl rfl (dfalse t9) rfl (Ag (.bool false) (r_nil (g_false rfl (g_seq (g_region (rc (s_eql false rfl rfl (dfalse t9) rfl (Ag (.bool false) (r_nil (g_false rfl (g_seq (g_region (rc (s_eql true rfl rfl (dtrue t9) rfl (Ag (.bool true) (r_nil (g_true rfl (g_region (Mv (.bool true) (Mv (.bool true) (Rt (s_fieldAddr 26 5 5 5 2 rfl fi_26_5 rfl rfl (Rt (s_load (.int .i64 0) ag_2 rfl (H8.blk_at (i := 1) rfl) rfl rfl (Rt (s_eql true rfl rfl (dtrue t9) rfl (Pt (.bool true) (Ag (.bool true) (r_nil (g_inBlock (g_seq ?_)))))))))))))))))))))))))))))))))))))))))))
 refine g_seq (g_region (Mv (.bool true) (rc (s_not true rfl false rfl rfl (Mv (.bool false) (Rt (s_fieldAddr 26 4 4 4 24 rfl fi_26_4 rfl rfl (Rt (s_fieldAddr 24 0 0 4 22 rfl fi_24_0 rfl rfl (Rt (s_load (.slice none 0 0) ag_22 rfl (H8.blk_at (i := 1) rfl) rfl rfl (Rt (s_len 0 rfl ⟨_, un_22⟩ rfl (Rt (s_gtr false rfl rfl (dfalse t9) rfl (Pf (.bool false) (r_nil (g_false rfl (g_skip (g_seq (g_region (Ag (.int .i64 0) (r_nil (Gr [.int .i64 0] Tryz.func10 Tryz.results10 ?_))))))))))))))))))))))))
 have H9 : St W w7 F := (H8.mv [100, 100])
 exact ⟨rfl, H9⟩
theorem clone_nobounds (H : St W w F) : Calls Tryz.prog 91 #[.agg #[.slice none 0 0]] w (Ret fun v w' => v = .agg #[.slice none 0 0] ∧ St W w' F) := by
 refine calls_of_go (n := 25) Tryz.func91 rfl Tryz.ntmps91 rfl ?_
 refine g_seq (g_region (Bx H 24 #[.slice none 0 0] (fun bk1 w2 H3 => rc (s_alloc H3 24 ze_24 rfl (fun bk4 w5 H6 => r_nil (g_seq (g_region (Ag (.slice none 0 0) (r_nil (g_seq (g_seq (g_region (Fa 0 fi_24_0 rfl (Lo (.slice none 0 0) ag_22 H6 1 (rc (s_len 0 rfl ⟨_, un_22⟩ rfl (Mv (.int .i64 0) (r_nil (g_block ?_)))))))))))))))))))
 refine g_loop ?_
 refine g_seq (g_region (rc (s_lss false rfl rfl (dfalse t9) rfl (r_nil (g_seq (g_false rfl (g_exit t39 (g_seq (g_region (Mv (.slice none 0 0) (rc (s_build (cs := #[.slice none 0 0]) t5 rfl (Sa H6 0 rfl #[.slice none 0 0] 1 sz_24 #[.slice none 0 0] (fun w7 H8 => r_nil ?_))))))))))))))
 refine g_ret' [.agg #[.slice none 0 0]] Tryz.func91 Tryz.results91 ⟨(res_cellN rfl ag_24 (H8.blk_at (i := 0) rfl) (nbl rfl) rfl), trivial⟩ ?_
 have H9 : St W w7 F := (H8.mv [100, 100])
 exact ⟨rfl, H9⟩
theorem own_plain (o n e k t : Int) (H : St W w F) : Calls Tryz.prog 54 #[.agg #[.int .i64 o, .int .i64 n, .int .i64 e, .int .i64 k, .slice none 0 0, .int .i64 t]] w (Ret fun v w' => v = .agg #[.int .i64 o, .int .i64 n, .int .i64 e, .int .i64 k, .slice none 0 0, .int .i64 t] ∧ St W w' F) := by
 refine calls_of_go (n := 8) Tryz.func54 rfl Tryz.ntmps54 rfl ?_
 refine g_seq (g_region (Bx H 26 #[.int .i64 o, .int .i64 n, .int .i64 e, .int .i64 k, .slice none 0 0, .int .i64 t] (fun bk1 w2 H3 => rc (s_alloc H3 26 ze_26 rfl (fun bk4 w5 H6 => r_nil (g_seq (g_region (Fa 4 fi_26_4 rfl (La [.slice none 0 0] 1 ag_24 H6 1 (rc (s_call [.agg #[.slice none 0 0]] pl_91 rfl rfl (clone_nobounds H6) ?_)))))))))))
 rintro _ w7 ⟨rfl, H8⟩
 refine Fa 4 fi_26_4 rfl (Sa H8 1 rfl #[.slice none 0 0] 1 sz_24 #[.int .i64 o, .int .i64 n, .int .i64 e, .int .i64 k, .slice none 0 0, .int .i64 t] (fun w9 H10 => r_nil (g_seq (g_region (La [.int .i64 o, .int .i64 n, .int .i64 e, .int .i64 k, .slice none 0 0, .int .i64 t] 6 ag_26 H10 1 (Sa H10 0 rfl #[.int .i64 o, .int .i64 n, .int .i64 e, .int .i64 k, .slice none 0 0, .int .i64 t] 6 sz_26 #[.int .i64 o, .int .i64 n, .int .i64 e, .int .i64 k, .slice none 0 0, .int .i64 t] (fun w11 H12 => r_nil ?_)))))))
 refine g_ret' [.agg #[.int .i64 o, .int .i64 n, .int .i64 e, .int .i64 k, .slice none 0 0, .int .i64 t]] Tryz.func54 Tryz.results54 ⟨(res_cellN rfl ag_26 (H12.blk_at (i := 0) rfl) (nbl rfl) rfl), trivial⟩ ?_
 have H13 : St W w11 F := (H12.mv [100, 100])
 exact ⟨rfl, H13⟩
theorem NewGate_ (H : St W w F) : Calls Tryz.prog 15 #[] w (Ret fun v w' => ∃ g, v = .pointer (pa g) ∧ St W w' (blk g (.cells #[.bool true, .int .i64 0, .slice none 0 0] 90 (0, 0)) :: F)) := by
 refine calls_of_go (n := 3) Tryz.func15 rfl Tryz.ntmps15 rfl ?_
 refine g_seq (g_region (Ag (.pointer none) (r_nil (g_seq (g_region (rc (s_build (cs := #[.bool true, .int .i64 0, .slice none 0 0]) t5 rfl (Bx H 90 #[.bool true, .int .i64 0, .slice none 0 0] (fun bk1 w2 H3 => Ag (.pointer (pa bk1)) (r_nil (Gr [.pointer (pa bk1)] Tryz.func15 Tryz.results15 ?_)))))))))))
 have H4 : St W w2 (_ :: F) := H3
 exact ⟨bk1, rfl, H4⟩
theorem Gate_none (g : Nat) (e : Int) (sv : Value) {i : Nat} (hi : F[i]? = some (blk g (.cells #[.bool true, .int .i64 e, sv] 90 (0, 0)))) (H : St W w F) : Calls Tryz.prog 53 #[.pointer (pa g)] w (Ret fun v w' => v = .bool false ∧ St W w' F) := by
 have H0 := H.front hi
 refine calls_of_go (n := 12) Tryz.func53 rfl Tryz.ntmps53 rfl ?_
 refine g_seq (g_region (Ag (.bool false) (r_nil (g_seq (g_region (Mv (.pointer (pa g)) (rc (s_peql false un_40 rfl rfl rfl rfl (Mv (.bool false) (Rt (Mw (.pointer (pa g)) (Rt (s_nilCheck (.pointer (pa g)) rfl ⟨_, rfl⟩ rfl (Rt (s_fieldAddr 90 0 0 0 4 rfl fi_90_0 rfl rfl (Rt (s_load (.bool true) ag_4 rfl (H0.blk_at (i := 0) rfl) rfl rfl (Rt (s_not true rfl false rfl rfl (Pf (.bool false) (Ag (.bool false) (r_nil (Gr [.bool false] Tryz.func53 Tryz.results53 ?_)))))))))))))))))))))))
 have H1 : St W w (_ :: (F.set i emp)) := H0
 exact ⟨rfl, St.back_same hi H1⟩
theorem Gate_Epoch (g : Nat) (e : Int) (sv : Value) {i : Nat} (hi : F[i]? = some (blk g (.cells #[.bool true, .int .i64 e, sv] 90 (0, 0)))) (H : St W w F) : Calls Tryz.prog 19 #[.pointer (pa g)] w (Ret fun v w' => v = .int .i64 e ∧ St W w' F) := by
 have H0 := H.front hi
 refine calls_of_go (n := 9) Tryz.func19 rfl Tryz.ntmps19 rfl ?_
 refine g_seq (g_region (Ag (.int .i64 0) (r_nil (g_seq (g_seq (g_region (Mv (.pointer (pa g)) (rc (s_call [.pointer (pa g)] pl_53 rfl rfl (Gate_none g (e : Int) sv (i := 0) rfl H0) ?_)))))))))
 rintro _ w1 ⟨rfl, H2⟩
 refine r_nil (g_false rfl (g_skip (g_seq (g_region (Mv (.pointer (pa g)) (Nc (.pointer (pa g)) (Fa 1 fi_90_1 rfl (Lo (.int .i64 e) ag_2 H2 0 (Ag (.int .i64 e) (r_nil (Gr [.int .i64 e] Tryz.func19 Tryz.results19 ?_)))))))))))
 have H3 : St W w1 (_ :: (F.set i emp)) := H2
 exact ⟨rfl, St.back_same hi H3⟩
theorem Take_old (g : Nat) (a : Int) (sv : Value) (o n e t : Int) (ho : 0 ≤ o ∧ o ≤ 1099511627776) (hn : 0 ≤ n ∧ n ≤ 1099511627776) (he : 0 ≤ e ∧ e ≤ 1099511627776) (ht : 0 ≤ t ∧ t ≤ 1099511627777) (hlt : e < a) (H : St W w (blk g (.cells #[.bool true, .int .i64 a, sv] 90 (0, 0)) :: F)) : Calls Tryz.prog 16 #[.pointer (pa g), .agg #[.int .i64 o, .int .i64 n, .int .i64 e, .int .i64 2, .slice none 0 0, .int .i64 t]] w (Ret fun v w' => v = .tuple #[.slice none 0 0, .int .i64 240] ∧ St W w' (blk g (.cells #[.bool true, .int .i64 a, sv] 90 (0, 0)) :: F)) := by
 refine calls_of_go (n := 74) Tryz.func16 rfl Tryz.ntmps16 rfl ?_
 refine g_seq (g_region (Bx H 26 #[.int .i64 o, .int .i64 n, .int .i64 e, .int .i64 2, .slice none 0 0, .int .i64 t] (fun bk1 w2 H3 => Ag (.slice none 0 0) (Ag (.int .i64 0) (r_nil (g_seq (g_seq (g_region (Mv (.pointer (pa g)) (rc (s_call [.pointer (pa g)] pl_53 rfl rfl (Gate_none g (a : Int) sv (i := 1) rfl H3) ?_)))))))))))
 rintro _ w4 ⟨rfl, H5⟩
 refine r_nil (g_false rfl (g_skip (g_seq (g_seq (g_region (La [.int .i64 o, .int .i64 n, .int .i64 e, .int .i64 2, .slice none 0 0, .int .i64 t] 6 ag_26 H5 0 (rc (s_call [.agg #[.int .i64 o, .int .i64 n, .int .i64 e, .int .i64 2, .slice none 0 0, .int .i64 t]] pl_10 rfl rfl (CheckItem_mark (o : Int) (n : Int) (e : Int) (t : Int) t0 t0 t0 t0 H5) ?_))))))))
 rintro _ w6 ⟨rfl, H7⟩
 refine Ag (.int .i64 0) (r_nil (g_seq (g_region (Mv (.int .i64 0) (rc (s_neq false rfl rfl (ntrue t9) rfl (r_nil (g_false rfl (g_skip (g_seq (g_block (g_seq ?_))))))))))))
 refine g_quiet (fun w' => St W w' (blk bk1 (.cells #[.int .i64 o, .int .i64 n, .int .i64 e, .int .i64 2, .slice none 0 0, .int .i64 t] 26 (0, 0)) :: blk g (.cells #[.bool true, .int .i64 a, sv] 90 (0, 0)) :: F)) mixed t5 H7.drew ?_
 refine Qf 2 fi_26_2 rfl (Qv (fun w hw => x_load (.int .i64 e) ag_2 rfl (hw.blk_at (i := 0) rfl) rfl) (Qm (.pointer (pa g)) (Qv (fun w hw => x_nilCheck (.pointer (pa g)) rfl ⟨_, rfl⟩ w) (Qf 1 fi_90_1 rfl (Qv (fun w hw => x_load (.int .i64 a) ag_2 rfl (hw.blk_at (i := 1) rfl) rfl) (Qv (fun w hw => x_lss true rfl rfl (dtrue hlt) w) (Qv (fun w hw => x_assign (.bool true) rfl w) (q_nil ?_))))))))
 intro w8 H9
 refine g_true rfl (g_seq (g_region (Ag (.slice none 0 0) (Ag (.int .i64 240) (r_nil (Gr [.slice none 0 0, .int .i64 240] Tryz.func16 Tryz.results16 ?_))))))
 have H10 : St W w8 (_ :: F) := (H9.mv [1, 101])
 exact ⟨rfl, H10⟩
theorem Take_wait (g : Nat) (a : Int) (o n e t : Int) (ho : 0 ≤ o ∧ o ≤ 1099511627776) (hn : 0 ≤ n ∧ n ≤ 1099511627776) (he : 0 ≤ e ∧ e ≤ 1099511627776) (ht : 0 ≤ t ∧ t ≤ 1099511627777) (hlt : a < e) (H : St W w (blk g (.cells #[.bool true, .int .i64 a, .slice none 0 0] 90 (0, 0)) :: F)) : Calls Tryz.prog 16 #[.pointer (pa g), .agg #[.int .i64 o, .int .i64 n, .int .i64 e, .int .i64 2, .slice none 0 0, .int .i64 t]] w (Ret fun v w' => v = .tuple #[.slice none 0 0, .int .i64 0] ∧ ∃ p c, St W w' (blk g (.cells #[.bool true, .int .i64 a, .slice p 1 c] 90 (0, 0)) :: Row 26 6 (.slice p 1 c) 1 [.int .i64 o, .int .i64 n, .int .i64 e, .int .i64 2, .slice none 0 0, .int .i64 t] :: F)) := by
 refine calls_of_go (n := 74) Tryz.func16 rfl Tryz.ntmps16 rfl ?_
 refine g_seq (g_region (Bx H 26 #[.int .i64 o, .int .i64 n, .int .i64 e, .int .i64 2, .slice none 0 0, .int .i64 t] (fun bk1 w2 H3 => Ag (.slice none 0 0) (Ag (.int .i64 0) (r_nil (g_seq (g_seq (g_region (Mv (.pointer (pa g)) (rc (s_call [.pointer (pa g)] pl_53 rfl rfl (Gate_none g (a : Int) (.slice none 0 0) (i := 1) rfl H3) ?_)))))))))))
 rintro _ w4 ⟨rfl, H5⟩
 refine r_nil (g_false rfl (g_skip (g_seq (g_seq (g_region (La [.int .i64 o, .int .i64 n, .int .i64 e, .int .i64 2, .slice none 0 0, .int .i64 t] 6 ag_26 H5 0 (rc (s_call [.agg #[.int .i64 o, .int .i64 n, .int .i64 e, .int .i64 2, .slice none 0 0, .int .i64 t]] pl_10 rfl rfl (CheckItem_mark (o : Int) (n : Int) (e : Int) (t : Int) t0 t0 t0 t0 H5) ?_))))))))
 rintro _ w6 ⟨rfl, H7⟩
 refine Ag (.int .i64 0) (r_nil (g_seq (g_region (Mv (.int .i64 0) (rc (s_neq false rfl rfl (ntrue t9) rfl (r_nil (g_false rfl (g_skip (g_seq (g_block (g_seq ?_))))))))))))
 refine g_quiet (fun w' => St W w' (blk bk1 (.cells #[.int .i64 o, .int .i64 n, .int .i64 e, .int .i64 2, .slice none 0 0, .int .i64 t] 26 (0, 0)) :: blk g (.cells #[.bool true, .int .i64 a, .slice none 0 0] 90 (0, 0)) :: F)) mixed t5 H7.drew ?_
 refine Qf 2 fi_26_2 rfl (Qv (fun w hw => x_load (.int .i64 e) ag_2 rfl (hw.blk_at (i := 0) rfl) rfl) (Qm (.pointer (pa g)) (Qv (fun w hw => x_nilCheck (.pointer (pa g)) rfl ⟨_, rfl⟩ w) (Qf 1 fi_90_1 rfl (Qv (fun w hw => x_load (.int .i64 a) ag_2 rfl (hw.blk_at (i := 1) rfl) rfl) (Qv (fun w hw => x_lss false rfl rfl (dfalse t0) w) (Qv (fun w hw => x_assign (.bool false) rfl w) (q_nil ?_))))))))
 intro w8 H9
 refine g_false rfl (g_seq ?_)
 refine g_quiet (fun w' => St W w' (blk bk1 (.cells #[.int .i64 o, .int .i64 n, .int .i64 e, .int .i64 2, .slice none 0 0, .int .i64 t] 26 (0, 0)) :: blk g (.cells #[.bool true, .int .i64 a, .slice none 0 0] 90 (0, 0)) :: F)) mixed t5 H9.drew ?_
 refine Qf 2 fi_26_2 rfl (Qv (fun w hw => x_load (.int .i64 e) ag_2 rfl (hw.blk_at (i := 0) rfl) rfl) (Qm (.pointer (pa g)) (Qv (fun w hw => x_nilCheck (.pointer (pa g)) rfl ⟨_, rfl⟩ w) (Qf 1 fi_90_1 rfl (Qv (fun w hw => x_load (.int .i64 a) ag_2 rfl (hw.blk_at (i := 1) rfl) rfl) (Qv (fun w hw => x_gtr true rfl rfl (dtrue t0) w) (Qv (fun w hw => x_assign (.bool true) rfl w) (q_nil ?_))))))))
 intro w10 H11
 refine g_true rfl (g_seq (g_seq (g_region (Mv (.pointer (pa g)) (Nc (.pointer (pa g)) (Fa 2 fi_90_2 rfl (Lo (.slice none 0 0) ag_38 H11 1 (rc (s_len 0 rfl ⟨_, un_38⟩ rfl (rc (s_geq false rfl rfl (dfalse t9) rfl (r_nil (g_false rfl (g_skip (g_seq ?_)))))))))))))))
 refine g_cut (fun (x_ : Option Addr × Nat × Nat) => match x_ with | (pp22, cc23, bk14) => [(0, .pointer (pa g)), (4, .slice none 0 0), (5, .int .i64 0)]) (fun (x_ : Option Addr × Nat × Nat) w => match x_ with | (pp22, cc23, bk14) => St W w (Row 26 6 (.slice pp22 1 cc23) 1 [.int .i64 o, .int .i64 n, .int .i64 e, .int .i64 2, .slice none 0 0, .int .i64 t] :: blk bk14 (.cells #[.int .i64 o, .int .i64 n, .int .i64 e, .int .i64 2, .slice none 0 0, .int .i64 t] 26 (0, 0)) :: blk bk1 (.cells #[.int .i64 o, .int .i64 n, .int .i64 e, .int .i64 2, .slice none 0 0, .int .i64 t] 26 (0, 0)) :: blk g (.cells #[.bool true, .int .i64 a, .slice pp22 1 cc23] 90 (0, 0)) :: F)) ?_ ?_
 ·rintro ⟨pp22, cc23, bk14⟩ ρ15 w13 H14
  change Ends _ _ (upds ρ15 [(0, .pointer (pa g)), (4, .slice none 0 0), (5, .int .i64 0)]) w13
  refine g_seq (g_region (Ag (.slice none 0 0) (Ag (.int .i64 0) (r_nil (Gr [.slice none 0 0, .int .i64 0] Tryz.func16 Tryz.results16 ?_)))))
  have H16 : St W w13 (_ :: _ :: F) := (H14.mv [3, 102, 102])
  exact ⟨rfl, _, _, H16⟩
 intro join12
 refine g_any mixed 12 rfl ?_
 intro w17 hw18
 have H19 := H11.drew
 rw [← hw18] at H19
 clear hw18
 refine Av 0 rfl (fun w => x_move (.pointer (pa g)) rfl w) (Av 1 rfl (fun w => x_move (.pointer (pa g)) rfl w) (Av 2 rfl (fun w => x_nilCheck (.pointer (pa g)) rfl ⟨_, rfl⟩ w) (Av 3 rfl (fun w => x_fieldAddr 90 2 2 2 38 rfl fi_90_2 rfl w) ?_)))
 refine a_all (rs := [4, 5]) t5 t13 ?_
 refine a_cons ⟨_, rfl, ?_⟩ (a_cons ⟨_, rfl, ?_⟩ (fun x hx => absurd hx t13))
 ·refine s_load (.slice none 0 0) ag_38 rfl (H19.blk_at (i := 1) rfl) rfl rfl ?_
  change AnyG _ _ _ _ #[true, true, true, true, true, false, false, false, false, false, false, false] _ _
  refine a_all (rs := [5]) t5 t13 ?_
  refine a_cons ⟨_, rfl, ?_⟩ (fun x hx => absurd hx t13)
  refine s_loadAgg [.int .i64 o, .int .i64 n, .int .i64 e, .int .i64 2, .slice none 0 0, .int .i64 t] 6 ag_26 rfl (H19.blk_at (i := 0) rfl) (nbl rfl) rfl rfl ?_
  change AnyG _ _ _ _ #[true, true, true, true, true, true, false, false, false, false, false, false] _ _
  refine a_all (rs := [6]) t5 t13 ?_
  refine a_cons ⟨_, rfl, ?_⟩ (fun x hx => absurd hx t13)
  refine s_call [.agg #[.int .i64 o, .int .i64 n, .int .i64 e, .int .i64 2, .slice none 0 0, .int .i64 t]] pl_54 rfl rfl (own_plain (o : Int) (n : Int) (e : Int) (2 : Int) (t : Int) H19) ?_
  rintro _ w20 ⟨rfl, H21⟩
  change AnyG _ _ _ _ #[true, true, true, true, true, true, true, false, false, false, false, false] _ _
  refine a_all (rs := [7]) t5 t13 ?_
  refine a_cons ⟨_, rfl, ?_⟩ (fun x hx => absurd hx t13)
  refine s_buildSlice H21 6 1 (cs := #[.int .i64 o, .int .i64 n, .int .i64 e, .int .i64 2, .slice none 0 0, .int .i64 t]) #[.int .i64 0, .int .i64 0, .int .i64 0, .int .i64 0, .slice none 0 0, .int .i64 0] el_38 ze_26 t9 t9 t5 rfl ?_; intro bk22 w23 H24
  change AnyG _ _ _ _ #[true, true, true, true, true, true, true, true, false, false, false, false] _ _
  refine a_all (rs := [8]) t5 t13 ?_
  refine a_cons ⟨_, rfl, ?_⟩ (fun x hx => absurd hx t13)
  have H25 := Row.nil_intro H24 26 6
  refine s_append H25 0 rfl rfl rfl (rd_blk (H25.blk_at (i := 1) rfl) rfl (nbl rfl) t15) ap_38 t9 t12 t0 (n' := 1) (xs' := [.int .i64 o, .int .i64 n, .int .i64 e, .int .i64 2, .slice none 0 0, .int .i64 t]) t0 t16 rfl ?_; intro vv26 w27 H28 hn29
  obtain ⟨pp30, cc31, rfl⟩ := Row.slice H28 (i := 0) rfl
  change AnyG _ _ _ _ #[true, true, true, true, true, true, true, true, true, false, false, false] _ _
  refine Av 9 rfl (fun w => x_nilCheck (.pointer (pa g)) rfl ⟨_, rfl⟩ w) (Av 10 rfl (fun w => x_fieldAddr 90 2 2 2 38 rfl fi_90_2 rfl w) ?_)
  refine a_all (rs := [11]) t5 t13 ?_
  refine a_cons ⟨_, rfl, ?_⟩ (fun x hx => absurd hx t13)
  refine s_store H28 3 (.slice pp30 1 cc31) rfl rfl rfl sz_38 rfl (nbl rfl) rfl (cs' := #[.bool true, .int .i64 a, .slice pp30 1 cc31]) rfl ?_; intro w32 H33
  change AnyG _ _ _ _ #[true, true, true, true, true, true, true, true, true, true, true, true] _ _
  refine a_done t5 ?_
  exact join12 (pp30, cc31, bk22) _ _ H33 ⟨rfl, rfl, rfl, trivial⟩
 refine s_loadAgg [.int .i64 o, .int .i64 n, .int .i64 e, .int .i64 2, .slice none 0 0, .int .i64 t] 6 ag_26 rfl (H19.blk_at (i := 0) rfl) (nbl rfl) rfl rfl ?_
 change AnyG _ _ _ _ #[true, true, true, true, false, true, false, false, false, false, false, false] _ _
 refine a_all (rs := [4, 6]) t5 t13 ?_
 refine a_cons ⟨_, rfl, ?_⟩ (a_cons ⟨_, rfl, ?_⟩ (fun x hx => absurd hx t13))
 ·refine s_load (.slice none 0 0) ag_38 rfl (H19.blk_at (i := 1) rfl) rfl rfl ?_
  change AnyG _ _ _ _ #[true, true, true, true, true, true, false, false, false, false, false, false] _ _
  refine a_all (rs := [6]) t5 t13 ?_
  refine a_cons ⟨_, rfl, ?_⟩ (fun x hx => absurd hx t13)
  refine s_call [.agg #[.int .i64 o, .int .i64 n, .int .i64 e, .int .i64 2, .slice none 0 0, .int .i64 t]] pl_54 rfl rfl (own_plain (o : Int) (n : Int) (e : Int) (2 : Int) (t : Int) H19) ?_
  rintro _ w34 ⟨rfl, H35⟩
  change AnyG _ _ _ _ #[true, true, true, true, true, true, true, false, false, false, false, false] _ _
  refine a_all (rs := [7]) t5 t13 ?_
  refine a_cons ⟨_, rfl, ?_⟩ (fun x hx => absurd hx t13)
  refine s_buildSlice H35 6 1 (cs := #[.int .i64 o, .int .i64 n, .int .i64 e, .int .i64 2, .slice none 0 0, .int .i64 t]) #[.int .i64 0, .int .i64 0, .int .i64 0, .int .i64 0, .slice none 0 0, .int .i64 0] el_38 ze_26 t9 t9 t5 rfl ?_; intro bk36 w37 H38
  change AnyG _ _ _ _ #[true, true, true, true, true, true, true, true, false, false, false, false] _ _
  refine a_all (rs := [8]) t5 t13 ?_
  refine a_cons ⟨_, rfl, ?_⟩ (fun x hx => absurd hx t13)
  have H39 := Row.nil_intro H38 26 6
  refine s_append H39 0 rfl rfl rfl (rd_blk (H39.blk_at (i := 1) rfl) rfl (nbl rfl) t15) ap_38 t9 t12 t0 (n' := 1) (xs' := [.int .i64 o, .int .i64 n, .int .i64 e, .int .i64 2, .slice none 0 0, .int .i64 t]) t0 t16 rfl ?_; intro vv40 w41 H42 hn43
  obtain ⟨pp44, cc45, rfl⟩ := Row.slice H42 (i := 0) rfl
  change AnyG _ _ _ _ #[true, true, true, true, true, true, true, true, true, false, false, false] _ _
  refine Av 9 rfl (fun w => x_nilCheck (.pointer (pa g)) rfl ⟨_, rfl⟩ w) (Av 10 rfl (fun w => x_fieldAddr 90 2 2 2 38 rfl fi_90_2 rfl w) ?_)
  refine a_all (rs := [11]) t5 t13 ?_
  refine a_cons ⟨_, rfl, ?_⟩ (fun x hx => absurd hx t13)
  refine s_store H42 3 (.slice pp44 1 cc45) rfl rfl rfl sz_38 rfl (nbl rfl) rfl (cs' := #[.bool true, .int .i64 a, .slice pp44 1 cc45]) rfl ?_; intro w46 H47
  change AnyG _ _ _ _ #[true, true, true, true, true, true, true, true, true, true, true, true] _ _
  refine a_done t5 ?_
  exact join12 (pp44, cc45, bk36) _ _ H47 ⟨rfl, rfl, rfl, trivial⟩
 refine s_call [.agg #[.int .i64 o, .int .i64 n, .int .i64 e, .int .i64 2, .slice none 0 0, .int .i64 t]] pl_54 rfl rfl (own_plain (o : Int) (n : Int) (e : Int) (2 : Int) (t : Int) H19) ?_
 rintro _ w48 ⟨rfl, H49⟩
 change AnyG _ _ _ _ #[true, true, true, true, false, true, true, false, false, false, false, false] _ _
 refine a_all (rs := [4, 7]) t5 t13 ?_
 refine a_cons ⟨_, rfl, ?_⟩ (a_cons ⟨_, rfl, ?_⟩ (fun x hx => absurd hx t13))
 ·refine s_load (.slice none 0 0) ag_38 rfl (H49.blk_at (i := 1) rfl) rfl rfl ?_
  change AnyG _ _ _ _ #[true, true, true, true, true, true, true, false, false, false, false, false] _ _
  refine a_all (rs := [7]) t5 t13 ?_
  refine a_cons ⟨_, rfl, ?_⟩ (fun x hx => absurd hx t13)
  refine s_buildSlice H49 6 1 (cs := #[.int .i64 o, .int .i64 n, .int .i64 e, .int .i64 2, .slice none 0 0, .int .i64 t]) #[.int .i64 0, .int .i64 0, .int .i64 0, .int .i64 0, .slice none 0 0, .int .i64 0] el_38 ze_26 t9 t9 t5 rfl ?_; intro bk50 w51 H52
  change AnyG _ _ _ _ #[true, true, true, true, true, true, true, true, false, false, false, false] _ _
  refine a_all (rs := [8]) t5 t13 ?_
  refine a_cons ⟨_, rfl, ?_⟩ (fun x hx => absurd hx t13)
  have H53 := Row.nil_intro H52 26 6
  refine s_append H53 0 rfl rfl rfl (rd_blk (H53.blk_at (i := 1) rfl) rfl (nbl rfl) t15) ap_38 t9 t12 t0 (n' := 1) (xs' := [.int .i64 o, .int .i64 n, .int .i64 e, .int .i64 2, .slice none 0 0, .int .i64 t]) t0 t16 rfl ?_; intro vv54 w55 H56 hn57
  obtain ⟨pp58, cc59, rfl⟩ := Row.slice H56 (i := 0) rfl
  change AnyG _ _ _ _ #[true, true, true, true, true, true, true, true, true, false, false, false] _ _
  refine Av 9 rfl (fun w => x_nilCheck (.pointer (pa g)) rfl ⟨_, rfl⟩ w) (Av 10 rfl (fun w => x_fieldAddr 90 2 2 2 38 rfl fi_90_2 rfl w) ?_)
  refine a_all (rs := [11]) t5 t13 ?_
  refine a_cons ⟨_, rfl, ?_⟩ (fun x hx => absurd hx t13)
  refine s_store H56 3 (.slice pp58 1 cc59) rfl rfl rfl sz_38 rfl (nbl rfl) rfl (cs' := #[.bool true, .int .i64 a, .slice pp58 1 cc59]) rfl ?_; intro w60 H61
  change AnyG _ _ _ _ #[true, true, true, true, true, true, true, true, true, true, true, true] _ _
  refine a_done t5 ?_
  exact join12 (pp58, cc59, bk50) _ _ H61 ⟨rfl, rfl, rfl, trivial⟩
 refine s_buildSlice H49 6 1 (cs := #[.int .i64 o, .int .i64 n, .int .i64 e, .int .i64 2, .slice none 0 0, .int .i64 t]) #[.int .i64 0, .int .i64 0, .int .i64 0, .int .i64 0, .slice none 0 0, .int .i64 0] el_38 ze_26 t9 t9 t5 rfl ?_; intro bk62 w63 H64
 change AnyG _ _ _ _ #[true, true, true, true, false, true, true, true, false, false, false, false] _ _
 refine a_all (rs := [4]) t5 t13 ?_
 refine a_cons ⟨_, rfl, ?_⟩ (fun x hx => absurd hx t13)
 refine s_load (.slice none 0 0) ag_38 rfl (H64.blk_at (i := 2) rfl) rfl rfl ?_
 change AnyG _ _ _ _ #[true, true, true, true, true, true, true, true, false, false, false, false] _ _
 refine a_all (rs := [8]) t5 t13 ?_
 refine a_cons ⟨_, rfl, ?_⟩ (fun x hx => absurd hx t13)
 have H65 := Row.nil_intro H64 26 6
 refine s_append H65 0 rfl rfl rfl (rd_blk (H65.blk_at (i := 1) rfl) rfl (nbl rfl) t15) ap_38 t9 t12 t0 (n' := 1) (xs' := [.int .i64 o, .int .i64 n, .int .i64 e, .int .i64 2, .slice none 0 0, .int .i64 t]) t0 t16 rfl ?_; intro vv66 w67 H68 hn69
 obtain ⟨pp70, cc71, rfl⟩ := Row.slice H68 (i := 0) rfl
 change AnyG _ _ _ _ #[true, true, true, true, true, true, true, true, true, false, false, false] _ _
 refine Av 9 rfl (fun w => x_nilCheck (.pointer (pa g)) rfl ⟨_, rfl⟩ w) (Av 10 rfl (fun w => x_fieldAddr 90 2 2 2 38 rfl fi_90_2 rfl w) ?_)
 refine a_all (rs := [11]) t5 t13 ?_
 refine a_cons ⟨_, rfl, ?_⟩ (fun x hx => absurd hx t13)
 refine s_store H68 3 (.slice pp70 1 cc71) rfl rfl rfl sz_38 rfl (nbl rfl) rfl (cs' := #[.bool true, .int .i64 a, .slice pp70 1 cc71]) rfl ?_; intro w72 H73
 change AnyG _ _ _ _ #[true, true, true, true, true, true, true, true, true, true, true, true] _ _
 refine a_done t5 ?_
 exact join12 (pp70, cc71, bk62) _ _ H73 ⟨rfl, rfl, rfl, trivial⟩
theorem Take_now (g : Nat) (a : Int) (sv : Value) (o n e t : Int) (ho : 0 ≤ o ∧ o ≤ 1099511627776) (hn : 0 ≤ n ∧ n ≤ 1099511627776) (he : 0 ≤ e ∧ e ≤ 1099511627776) (ht : 0 ≤ t ∧ t ≤ 1099511627777) (hea : e = a) (H : St W w (blk g (.cells #[.bool true, .int .i64 a, sv] 90 (0, 0)) :: F)) : Calls Tryz.prog 16 #[.pointer (pa g), .agg #[.int .i64 o, .int .i64 n, .int .i64 e, .int .i64 2, .slice none 0 0, .int .i64 t]] w (Ret fun v w' => ∃ p c, v = .tuple #[.slice p 1 c, .int .i64 0] ∧ St W w' (Row 26 6 (.slice p 1 c) 1 [.int .i64 o, .int .i64 n, .int .i64 e, .int .i64 2, .slice none 0 0, .int .i64 t] :: blk g (.cells #[.bool true, .int .i64 a, sv] 90 (0, 0)) :: F)) := by
 refine calls_of_go (n := 74) Tryz.func16 rfl Tryz.ntmps16 rfl ?_
 refine g_seq (g_region (Bx H 26 #[.int .i64 o, .int .i64 n, .int .i64 e, .int .i64 2, .slice none 0 0, .int .i64 t] (fun bk1 w2 H3 => Ag (.slice none 0 0) (Ag (.int .i64 0) (r_nil (g_seq (g_seq (g_region (Mv (.pointer (pa g)) (rc (s_call [.pointer (pa g)] pl_53 rfl rfl (Gate_none g (a : Int) sv (i := 1) rfl H3) ?_)))))))))))
 rintro _ w4 ⟨rfl, H5⟩
 refine r_nil (g_false rfl (g_skip (g_seq (g_seq (g_region (La [.int .i64 o, .int .i64 n, .int .i64 e, .int .i64 2, .slice none 0 0, .int .i64 t] 6 ag_26 H5 0 (rc (s_call [.agg #[.int .i64 o, .int .i64 n, .int .i64 e, .int .i64 2, .slice none 0 0, .int .i64 t]] pl_10 rfl rfl (CheckItem_mark (o : Int) (n : Int) (e : Int) (t : Int) t0 t0 t0 t0 H5) ?_))))))))
 rintro _ w6 ⟨rfl, H7⟩
 refine Ag (.int .i64 0) (r_nil (g_seq (g_region (Mv (.int .i64 0) (rc (s_neq false rfl rfl (ntrue t9) rfl (r_nil (g_false rfl (g_skip (g_seq (g_block (g_seq ?_))))))))))))
 refine g_quiet (fun w' => St W w' (blk bk1 (.cells #[.int .i64 o, .int .i64 n, .int .i64 e, .int .i64 2, .slice none 0 0, .int .i64 t] 26 (0, 0)) :: blk g (.cells #[.bool true, .int .i64 a, sv] 90 (0, 0)) :: F)) mixed t5 H7.drew ?_
 refine Qf 2 fi_26_2 rfl (Qv (fun w hw => x_load (.int .i64 e) ag_2 rfl (hw.blk_at (i := 0) rfl) rfl) (Qm (.pointer (pa g)) (Qv (fun w hw => x_nilCheck (.pointer (pa g)) rfl ⟨_, rfl⟩ w) (Qf 1 fi_90_1 rfl (Qv (fun w hw => x_load (.int .i64 a) ag_2 rfl (hw.blk_at (i := 1) rfl) rfl) (Qv (fun w hw => x_lss false rfl rfl (dfalse t0) w) (Qv (fun w hw => x_assign (.bool false) rfl w) (q_nil ?_))))))))
 intro w8 H9
 refine g_false rfl (g_seq ?_)
 refine g_quiet (fun w' => St W w' (blk bk1 (.cells #[.int .i64 o, .int .i64 n, .int .i64 e, .int .i64 2, .slice none 0 0, .int .i64 t] 26 (0, 0)) :: blk g (.cells #[.bool true, .int .i64 a, sv] 90 (0, 0)) :: F)) mixed t5 H9.drew ?_
 refine Qf 2 fi_26_2 rfl (Qv (fun w hw => x_load (.int .i64 e) ag_2 rfl (hw.blk_at (i := 0) rfl) rfl) (Qm (.pointer (pa g)) (Qv (fun w hw => x_nilCheck (.pointer (pa g)) rfl ⟨_, rfl⟩ w) (Qf 1 fi_90_1 rfl (Qv (fun w hw => x_load (.int .i64 a) ag_2 rfl (hw.blk_at (i := 1) rfl) rfl) (Qv (fun w hw => x_gtr false rfl rfl (dfalse t0) w) (Qv (fun w hw => x_assign (.bool false) rfl w) (q_nil ?_))))))))
 intro w10 H11
 refine g_false rfl (g_seq (g_region (Fa 3 fi_26_3 rfl (Lo (.int .i64 2) ag_3 H11 0 (rc (s_neq true rfl rfl (nfalse t9) rfl (Ag (.bool true) (r_nil (g_true rfl (g_seq (g_region (La [.int .i64 o, .int .i64 n, .int .i64 e, .int .i64 2, .slice none 0 0, .int .i64 t] 6 ag_26 H11 0 (rc (s_call [.agg #[.int .i64 o, .int .i64 n, .int .i64 e, .int .i64 2, .slice none 0 0, .int .i64 t]] pl_54 rfl rfl (own_plain (o : Int) (n : Int) (e : Int) (2 : Int) (t : Int) H11) ?_))))))))))))))
 rintro _ w12 ⟨rfl, H13⟩
 refine rc (s_buildSlice H13 6 1 (cs := #[.int .i64 o, .int .i64 n, .int .i64 e, .int .i64 2, .slice none 0 0, .int .i64 t]) #[.int .i64 0, .int .i64 0, .int .i64 0, .int .i64 0, .slice none 0 0, .int .i64 0] el_38 ze_26 t9 t9 t5 rfl (fun bk14 w15 H16 => Ag (.slice (pa bk14) 1 1) (Ag (.int .i64 0) (r_nil (Gr [.slice (pa bk14) 1 1, .int .i64 0] Tryz.func16 Tryz.results16 ?_)))))
 have H17 : St W w15 (Row 26 6 (.slice (pa bk14) 1 1) 1 [.int .i64 o, .int .i64 n, .int .i64 e, .int .i64 2, .slice none 0 0, .int .i64 t] :: _ :: _ :: F) := Row.of_blk (n := 1) (size := 6) H16 (i := 0) rfl t12 rfl t15
 have H18 : St W w15 (_ :: _ :: F) := (H17.mv [2, 1, 102])
 exact ⟨_, _, rfl, H18⟩
theorem turn_1 (g : Nat) (p : Option Addr) (c : Nat) (H : St W w (blk g (.cells #[.bool true, .int .i64 1, .slice p 1 c] 90 (0, 0)) :: Row 26 6 (.slice p 1 c) 1 [.int .i64 1, .int .i64 0, .int .i64 1, .int .i64 2, .slice none 0 0, .int .i64 9] :: F)) : Calls Tryz.prog 55 #[.pointer (pa g)] w (Ret fun v w' => ∃ q d, v = .tuple #[.slice q 1 d, .bool false] ∧ St W w' (Row 26 6 (.slice q 1 d) 1 [.int .i64 1, .int .i64 0, .int .i64 1, .int .i64 2, .slice none 0 0, .int .i64 9] :: blk g (.cells #[.bool true, .int .i64 1, .slice none 0 0] 90 (0, 0)) :: F)) := by
 refine calls_of_go (n := 47) Tryz.func55 rfl Tryz.ntmps55 rfl ?_
 refine g_seq (g_region (Ag (.slice none 0 0) (Ag (.bool false) (r_nil (g_seq (g_region (Ag (.slice none 0 0) (Ag (.slice none 0 0) (r_nil (g_seq (g_region (Ag (.bool false) (r_nil (g_seq (g_seq (g_region (Mv (.pointer (pa g)) (Nc (.pointer (pa g)) (Fa 2 fi_90_2 rfl (Lo (.slice p 1 c) ag_38 H 0 (rc (s_len 1 rfl ⟨_, un_38⟩ rfl (Mv (.int .i64 0) (r_nil (g_block ?_)))))))))))))))))))))))))
 refine g_loop ?_
 refine g_seq (g_region (rc (s_lss true rfl rfl (dtrue t9) rfl (r_nil (g_seq (g_true rfl (g_skip (g_seq (g_block (g_seq (g_region ?_)))))))))))
 obtain ⟨bk1, cur2, hp3, h4, h5, h6, h7, h8, H9⟩ := Row.open2 H (i := 1) rfl t0
 refine rc (s_indexAddr bk1 (off := 0) 0 6 (0 + 0 * 6) (by exact congrArg (fun z_ => Value.slice z_ 1 c) ((fun (_ : 0 < 1) => hp3) t0)) rfl el_38 t0 rfl rfl (rc (s_loadAgg [.int .i64 1, .int .i64 0, .int .i64 1, .int .i64 2, .slice none 0 0, .int .i64 9] 6 ag_26 rfl (H9.blk_at (i := 1) rfl) t0 (by exact h7) rfl (rc (s_alloc H9 26 ze_26 rfl (fun bk10 w11 H12 => Sa H12 0 rfl #[.int .i64 1, .int .i64 0, .int .i64 1, .int .i64 2, .slice none 0 0, .int .i64 9] 6 sz_26 #[.int .i64 1, .int .i64 0, .int .i64 1, .int .i64 2, .slice none 0 0, .int .i64 9] (fun w13 H14 => r_nil (g_block (g_seq ?_)))))))))
 refine g_quiet (fun w' => St W w' (blk bk10 (.cells #[.int .i64 1, .int .i64 0, .int .i64 1, .int .i64 2, .slice none 0 0, .int .i64 9] 26 (0, 0)) :: blk g (.cells #[.bool true, .int .i64 1, .slice p 1 c] 90 (0, 0)) :: blk bk1 (.cells cur2 26 (0, 0)) :: F)) mixed t5 H14.drew ?_
 refine Qf 2 fi_26_2 rfl (Qv (fun w hw => x_load (.int .i64 1) ag_2 rfl (hw.blk_at (i := 0) rfl) rfl) (Qm (.pointer (pa g)) (Qv (fun w hw => x_nilCheck (.pointer (pa g)) rfl ⟨_, rfl⟩ w) (Qf 1 fi_90_1 rfl (Qv (fun w hw => x_load (.int .i64 1) ag_2 rfl (hw.blk_at (i := 1) rfl) rfl) (Qv (fun w hw => x_neq false rfl rfl (ntrue t9) w) (Qv (fun w hw => x_assign (.bool false) rfl w) (q_nil ?_))))))))
 intro w15 H16
 refine g_false rfl (g_seq (g_region (Mv (.bool false) (Ag (.bool false) (r_nil (g_false rfl (g_seq (g_region (Fa 3 fi_26_3 rfl (Lo (.int .i64 2) ag_3 H16 0 (rc (s_eql false rfl rfl (dfalse t9) rfl (Ag (.bool false) (r_nil (g_false rfl (g_region (Mv (.slice none 0 0) (La [.int .i64 1, .int .i64 0, .int .i64 1, .int .i64 2, .slice none 0 0, .int .i64 9] 6 ag_26 H16 0 (rc (s_buildSlice H16 6 1 (cs := #[.int .i64 1, .int .i64 0, .int .i64 1, .int .i64 2, .slice none 0 0, .int .i64 9]) #[.int .i64 0, .int .i64 0, .int .i64 0, .int .i64 0, .slice none 0 0, .int .i64 0] el_38 ze_26 t9 t9 t5 rfl ?_)))))))))))))))))))); intro bk17 w18 H19
 have H20 := Row.nil_intro H19 26 6
 refine rc (s_append H20 0 rfl rfl rfl (rd_blk (H20.blk_at (i := 1) rfl) rfl (nbl rfl) t15) ap_38 t9 t12 t0 (n' := 1) (xs' := [.int .i64 1, .int .i64 0, .int .i64 1, .int .i64 2, .slice none 0 0, .int .i64 9]) t0 t16 rfl ?_); intro vv21 w22 H23 hn24
 obtain ⟨pp25, cc26, rfl⟩ := Row.slice H23 (i := 0) rfl
 refine Ag (.slice pp25 1 cc26) (r_nil (g_inBlock (g_inBlock (g_region (rc (s_add 1 rfl rfl (wi64 t0) rfl (Mv (.int .i64 1) (r_nil (g_inLoop (g_seq (g_region (rc (s_lss false rfl rfl (dfalse t9) rfl (r_nil (g_seq (g_false rfl (g_exit t39 (g_seq (g_region (Mv (.pointer (pa g)) (Mv (.slice none 0 0) (Nc (.pointer (pa g)) (Fa 2 fi_90_2 rfl (rc (s_store H23 3 (.slice none 0 0) rfl rfl rfl sz_38 rfl (nbl rfl) rfl (cs' := #[.bool true, .int .i64 1, .slice none 0 0]) rfl (fun w27 H28 => r_nil (g_seq (g_region (Mv (.slice pp25 1 cc26) (Mv (.bool false) (Ag (.slice pp25 1 cc26) (Ag (.bool false) (r_nil (Gr [.slice pp25 1 cc26, .bool false] Tryz.func55 Tryz.results55 ?_))))))))))))))))))))))))))))))))))
 have H29 : St W w27 (_ :: _ :: F) := (H28.mv [3, 1, 102, 102, 102])
 exact ⟨_, _, rfl, H29⟩
theorem Take_end (g : Nat) (p : Option Addr) (c : Nat) (H : St W w (blk g (.cells #[.bool true, .int .i64 0, .slice p 1 c] 90 (0, 0)) :: Row 26 6 (.slice p 1 c) 1 [.int .i64 1, .int .i64 0, .int .i64 1, .int .i64 2, .slice none 0 0, .int .i64 9] :: F)) : Calls Tryz.prog 16 #[.pointer (pa g), .agg #[.int .i64 1, .int .i64 0, .int .i64 0, .int .i64 3, .slice none 0 0, .int .i64 0]] w (Ret fun v w' => ∃ q d, v = .tuple #[.slice q 1 d, .int .i64 0] ∧ St W w' (Row 26 6 (.slice q 1 d) 1 [.int .i64 1, .int .i64 0, .int .i64 1, .int .i64 2, .slice none 0 0, .int .i64 9] :: blk g (.cells #[.bool true, .int .i64 1, .slice none 0 0] 90 (0, 0)) :: F)) := by
 refine calls_of_go (n := 74) Tryz.func16 rfl Tryz.ntmps16 rfl ?_
 refine g_seq (g_region (Bx H 26 #[.int .i64 1, .int .i64 0, .int .i64 0, .int .i64 3, .slice none 0 0, .int .i64 0] (fun bk1 w2 H3 => Ag (.slice none 0 0) (Ag (.int .i64 0) (r_nil (g_seq (g_seq (g_region (Mv (.pointer (pa g)) (rc (s_call [.pointer (pa g)] pl_53 rfl rfl (Gate_none g (0 : Int) (.slice p 1 c) (i := 1) rfl H3) ?_)))))))))))
 rintro _ w4 ⟨rfl, H5⟩
 refine r_nil (g_false rfl (g_skip (g_seq (g_seq (g_region (La [.int .i64 1, .int .i64 0, .int .i64 0, .int .i64 3, .slice none 0 0, .int .i64 0] 6 ag_26 H5 0 (rc (s_call [.agg #[.int .i64 1, .int .i64 0, .int .i64 0, .int .i64 3, .slice none 0 0, .int .i64 0]] pl_10 rfl rfl (CheckItem_end (1 : Int) (0 : Int) (0 : Int) t0 t0 t0 H5) ?_))))))))
 rintro _ w6 ⟨rfl, H7⟩
 refine Ag (.int .i64 0) (r_nil (g_seq (g_region (Mv (.int .i64 0) (rc (s_neq false rfl rfl (ntrue t9) rfl (r_nil (g_false rfl (g_skip (g_seq (g_block (g_seq ?_))))))))))))
 refine g_quiet (fun w' => St W w' (blk bk1 (.cells #[.int .i64 1, .int .i64 0, .int .i64 0, .int .i64 3, .slice none 0 0, .int .i64 0] 26 (0, 0)) :: blk g (.cells #[.bool true, .int .i64 0, .slice p 1 c] 90 (0, 0)) :: Row 26 6 (.slice p 1 c) 1 [.int .i64 1, .int .i64 0, .int .i64 1, .int .i64 2, .slice none 0 0, .int .i64 9] :: F)) mixed t5 H7.drew ?_
 refine Qf 2 fi_26_2 rfl (Qv (fun w hw => x_load (.int .i64 0) ag_2 rfl (hw.blk_at (i := 0) rfl) rfl) (Qm (.pointer (pa g)) (Qv (fun w hw => x_nilCheck (.pointer (pa g)) rfl ⟨_, rfl⟩ w) (Qf 1 fi_90_1 rfl (Qv (fun w hw => x_load (.int .i64 0) ag_2 rfl (hw.blk_at (i := 1) rfl) rfl) (Qv (fun w hw => x_lss false rfl rfl (dfalse t9) w) (Qv (fun w hw => x_assign (.bool false) rfl w) (q_nil ?_))))))))
 intro w8 H9
 refine g_false rfl (g_seq ?_)
 refine g_quiet (fun w' => St W w' (blk bk1 (.cells #[.int .i64 1, .int .i64 0, .int .i64 0, .int .i64 3, .slice none 0 0, .int .i64 0] 26 (0, 0)) :: blk g (.cells #[.bool true, .int .i64 0, .slice p 1 c] 90 (0, 0)) :: Row 26 6 (.slice p 1 c) 1 [.int .i64 1, .int .i64 0, .int .i64 1, .int .i64 2, .slice none 0 0, .int .i64 9] :: F)) mixed t5 H9.drew ?_
 refine Qf 2 fi_26_2 rfl (Qv (fun w hw => x_load (.int .i64 0) ag_2 rfl (hw.blk_at (i := 0) rfl) rfl) (Qm (.pointer (pa g)) (Qv (fun w hw => x_nilCheck (.pointer (pa g)) rfl ⟨_, rfl⟩ w) (Qf 1 fi_90_1 rfl (Qv (fun w hw => x_load (.int .i64 0) ag_2 rfl (hw.blk_at (i := 1) rfl) rfl) (Qv (fun w hw => x_gtr false rfl rfl (dfalse t9) w) (Qv (fun w hw => x_assign (.bool false) rfl w) (q_nil ?_))))))))
 intro w10 H11
 refine g_false rfl (g_seq (g_region (Fa 3 fi_26_3 rfl (Lo (.int .i64 3) ag_3 H11 0 (rc (s_neq false rfl rfl (ntrue t9) rfl (Ag (.bool false) (r_nil (g_false rfl (g_skip (g_inBlock (g_seq (g_region (Ag (.slice none 0 0) (r_nil (g_seq (g_seq (g_region (Ag (.bool true) (r_nil (g_block ?_)))))))))))))))))))))
 refine g_loop ?_
 refine g_seq (g_seq (g_region (Mv (.bool true) (r_nil (g_true rfl (g_skip (g_block (g_seq (g_region (Mv (.pointer (pa g)) (Nc (.pointer (pa g)) (Fa 1 fi_90_1 rfl (Lo (.int .i64 0) ag_2 H11 1 (rc (s_add 1 rfl rfl (wi64 t0) rfl (Nc (.pointer (pa g)) (Fa 1 fi_90_1 rfl (rc (s_store H11 1 (.int .i64 1) rfl rfl rfl sz_2 rfl (nbl rfl) rfl (cs' := #[.bool true, .int .i64 1, .slice p 1 c]) rfl (fun w12 H13 => r_nil (g_seq (g_region (Ag (.slice none 0 0) (r_nil (g_seq (g_region (Mv (.pointer (pa g)) ?_)))))))))))))))))))))))))))
 have H14 : St W w12 (_ :: _ :: _ :: F) := (H13.mv [2, 2])
 refine rc (s_call [.pointer (pa g)] pl_55 rfl rfl (turn_1 g p c H14) ?_)
 rintro _ w17 ⟨pp15, cc16, rfl, H18⟩
 refine Mv (.tuple #[.slice pp15 1 cc16, .bool false]) (Ex (.slice pp15 1 cc16) (Ex (.bool false) (Ag (.slice pp15 1 cc16) (Ag (.bool false) (r_nil (g_region (Mv (.slice none 0 0) (Mv (.slice pp15 1 cc16) ?_))))))))
 have H19 := Row.nil_intro H18 26 6
 refine rc (s_append H19 0 rfl rfl rfl (Row.rd H19 (i := 1) rfl) ap_38 t9 t12 t0 (n' := 1) (xs' := [.int .i64 1, .int .i64 0, .int .i64 1, .int .i64 2, .slice none 0 0, .int .i64 9]) t0 t16 rfl ?_); intro vv20 w21 H22 hn23
 obtain ⟨pp24, cc25, rfl⟩ := Row.slice H22 (i := 0) rfl
 refine Ag (.slice pp24 1 cc25) (r_nil (g_inBlock (g_inLoop (g_seq (g_seq (g_region (Mv (.bool false) (r_nil (g_false rfl (g_exit t39 (g_seq (g_region (Mv (.slice pp24 1 cc25) (Ag (.slice pp24 1 cc25) (Ag (.int .i64 0) (r_nil (Gr [.slice pp24 1 cc25, .int .i64 0] Tryz.func16 Tryz.results16 ?_)))))))))))))))))
 have H26 : St W w21 (_ :: _ :: F) := (H22.mv [2, 1, 102, 102])
 exact ⟨_, _, rfl, H26⟩
theorem begun_mark (e t : Int) (H : St W w F) : Calls Tryz.prog 46 #[.int .i64 e, .int .i64 t] w (Ret fun v w' => v = .agg #[.int .i64 1, .int .i64 0, .int .i64 e, .int .i64 2, .slice none 0 0, .int .i64 t] ∧ St W w' F) := by
 refine calls_of_go (n := 8) Tryz.func46 rfl Tryz.ntmps46 rfl ?_
 refine g_seq (g_region (rc (s_alloc H 26 ze_26 rfl (fun bk1 w2 H3 => r_nil (g_seq (g_region (Mv (.int .i64 e) (Mv (.int .i64 t) (rc (s_build (cs := #[.int .i64 1, .int .i64 0, .int .i64 e, .int .i64 2, .slice none 0 0, .int .i64 t]) t5 rfl (Sa H3 0 rfl #[.int .i64 1, .int .i64 0, .int .i64 e, .int .i64 2, .slice none 0 0, .int .i64 t] 6 sz_26 #[.int .i64 1, .int .i64 0, .int .i64 e, .int .i64 2, .slice none 0 0, .int .i64 t] (fun w4 H5 => r_nil ?_))))))))))))
 refine g_ret' [.agg #[.int .i64 1, .int .i64 0, .int .i64 e, .int .i64 2, .slice none 0 0, .int .i64 t]] Tryz.func46 Tryz.results46 ⟨(res_cellN rfl ag_26 (H5.blk_at (i := 0) rfl) (nbl rfl) rfl), trivial⟩ ?_
 have H6 : St W w4 F := (H5.drop 0 rfl)
 exact ⟨rfl, H6⟩
theorem begun_ (H : St W w F) : Calls Tryz.prog 9 #[] w (Ret fun v w' => v = .bool true ∧ St W w' F) := by
 refine calls_of_go (n := 82) Tryz.func9 rfl Tryz.ntmps9 rfl ?_
 refine g_seq (g_region (Ag (.bool false) (r_nil (g_seq (g_region (rc (s_call [] pl_15 rfl rfl (NewGate_ H) ?_)))))))
 rintro _ w2 ⟨bk1, rfl, H3⟩
 refine Ag (.pointer (pa bk1)) (r_nil (g_seq (g_seq (g_region (Mv (.pointer (pa bk1)) (rc (s_peql false un_40 rfl rfl rfl rfl (r_nil (g_false rfl (g_skip (g_seq (g_region (Ag (.func (.func 46) #[] #[]) (r_nil (g_seq (g_region (Mv (.pointer (pa bk1)) (Mv (.func (.func 46) #[] #[]) (rc (s_callv [] [.int .i64 1, .int .i64 9] rfl pl_46 rfl rfl (begun_mark (1 : Int) (9 : Int) H3) ?_))))))))))))))))))))
 rintro _ w4 ⟨rfl, H5⟩
 refine rc (s_call [.pointer (pa bk1), .agg #[.int .i64 1, .int .i64 0, .int .i64 1, .int .i64 2, .slice none 0 0, .int .i64 9]] pl_16 rfl rfl (Take_wait bk1 (0 : Int) (1 : Int) (0 : Int) (1 : Int) (9 : Int) t0 t0 t0 t0 t0 H5) ?_)
 rintro _ w8 ⟨rfl, pp6, cc7, H9⟩
 refine Mv (.tuple #[.slice none 0 0, .int .i64 0]) (Ex (.slice none 0 0) (Ex (.int .i64 0) (Ag (.slice none 0 0) (Ag (.int .i64 0) (r_nil (g_seq (g_region (Mv (.pointer (pa bk1)) (Mv (.func (.func 46) #[] #[]) (rc (s_callv [] [.int .i64 0, .int .i64 4] rfl pl_46 rfl rfl (begun_mark (0 : Int) (4 : Int) H9) ?_)))))))))))
 rintro _ w10 ⟨rfl, H11⟩
 refine rc (s_call [.pointer (pa bk1), .agg #[.int .i64 1, .int .i64 0, .int .i64 0, .int .i64 2, .slice none 0 0, .int .i64 4]] pl_16 rfl rfl (Take_now bk1 (0 : Int) (.slice pp6 1 cc7) (1 : Int) (0 : Int) (0 : Int) (4 : Int) t0 t0 t0 t0 t0 H11) ?_)
 rintro _ w14 ⟨pp12, cc13, rfl, H15⟩
 refine Mv (.tuple #[.slice pp12 1 cc13, .int .i64 0]) (Ex (.slice pp12 1 cc13) (Ex (.int .i64 0) (Ag (.slice pp12 1 cc13) (Ag (.int .i64 0) (r_nil (g_seq (g_region (Mv (.pointer (pa bk1)) (rc (s_build (cs := #[.int .i64 1, .int .i64 0, .int .i64 0, .int .i64 3, .slice none 0 0, .int .i64 0]) t5 rfl ?_))))))))))
 have H16 : St W w14 (_ :: _ :: _ :: F) := (H15.mv [2, 2])
 refine rc (s_call [.pointer (pa bk1), .agg #[.int .i64 1, .int .i64 0, .int .i64 0, .int .i64 3, .slice none 0 0, .int .i64 0]] pl_16 rfl rfl (Take_end bk1 pp6 cc7 H16) ?_)
 rintro _ w19 ⟨pp17, cc18, rfl, H20⟩
 refine Mv (.tuple #[.slice pp17 1 cc18, .int .i64 0]) (Ex (.slice pp17 1 cc18) (Ex (.int .i64 0) (Ag (.slice pp17 1 cc18) (Ag (.int .i64 0) (r_nil (g_seq (g_region (Mv (.pointer (pa bk1)) (Mv (.func (.func 46) #[] #[]) (rc (s_callv [] [.int .i64 0, .int .i64 5] rfl pl_46 rfl rfl (begun_mark (0 : Int) (5 : Int) H20) ?_)))))))))))
 rintro _ w21 ⟨rfl, H22⟩
 have H23 : St W w21 (_ :: _ :: _ :: F) := (H22.move 1 rfl)
 refine rc (s_call [.pointer (pa bk1), .agg #[.int .i64 1, .int .i64 0, .int .i64 0, .int .i64 2, .slice none 0 0, .int .i64 5]] pl_16 rfl rfl (Take_old bk1 (1 : Int) (.slice none 0 0) (1 : Int) (0 : Int) (0 : Int) (5 : Int) t0 t0 t0 t0 t0 H23) ?_)
 rintro _ w24 ⟨rfl, H25⟩
 refine Mv (.tuple #[.slice none 0 0, .int .i64 240]) (Ex (.slice none 0 0) (Ex (.int .i64 240) (Ag (.slice none 0 0) (Ag (.int .i64 240) (r_nil (g_seq (g_region (Mv (.slice none 0 0) (rc (s_len 0 rfl ⟨_, un_38⟩ rfl (rc (s_eql true rfl rfl (dtrue t9) rfl (Mv (.bool true) (Rt (Mw (.int .i64 0) (Rt (s_eql true rfl rfl (dtrue t9) rfl (Pt (.bool true) (Mv (.bool true) (Rt (Mw (.slice pp12 1 cc13) (Rt (s_len 1 rfl ⟨_, un_38⟩ rfl (Rt (s_eql true rfl rfl (dtrue t9) rfl (Pt (.bool true) (Mv (.bool true) (Rt (Mw (.int .i64 0) (Rt (s_eql true rfl rfl (dtrue t9) rfl (Pt (.bool true) (Mv (.bool true) (Rt (Mw (.slice pp17 1 cc18) (Rt (s_len 1 rfl ⟨_, un_38⟩ rfl (Rt (s_eql true rfl rfl (dtrue t9) rfl (Pt (.bool true) (Mv (.bool true) (Rt ?_))))))))))))))))))))))))))))))))))))))))))
 refine Mw (.slice pp17 1 cc18) (Rt ?_)
 obtain ⟨bk26, cur27, hp28, h29, h30, h31, h32, h33, H34⟩ := Row.open2 H25 (i := 1) rfl t0
 have hc35 : cur27[5]? = some (.int .i64 9) := cell_of_take (k := 5) (xs := [.int .i64 1, .int .i64 0, .int .i64 1, .int .i64 2, .slice none 0 0, .int .i64 9]) h32 t9 rfl
 refine s_indexAddr bk26 (off := 0) 0 6 (0 + 0 * 6) (by exact congrArg (fun z_ => Value.slice z_ 1 cc18) ((fun (_ : 0 < 1) => hp28) t0)) rfl el_38 t0 rfl rfl (Rt (s_fieldAddr 26 5 5 (0 + 0 * 6 + 5) 2 rfl fi_26_5 rfl rfl (Rt (s_load (.int .i64 9) ag_2 rfl (H34.blk_at (i := 1) rfl) hc35 rfl (Rt (s_eql true rfl rfl (dtrue t9) rfl (Pt (.bool true) (Mv (.bool true) (Rt (Mw (.int .i64 0) (Rt (s_eql true rfl rfl (dtrue t9) rfl (Pt (.bool true) (Mv (.bool true) (Rt (Mw (.int .i64 240) (Rt (s_eql true rfl rfl (dtrue t9) rfl (Pt (.bool true) (Mv (.bool true) (Rt (Mw (.pointer (pa bk1)) (Rt (s_call [.pointer (pa bk1)] pl_19 rfl rfl (Gate_Epoch bk1 (1 : Int) (.slice none 0 0) (i := 0) rfl H34) ?_))))))))))))))))))))))))
 rintro _ w36 ⟨rfl, H37⟩
 refine Rt (s_eql true rfl rfl (dtrue t9) rfl (Pt (.bool true) (Ag (.bool true) (r_nil (Gr [.bool true] Tryz.func9 Tryz.results9 ?_)))))
 have H38 : St W w36 F := (H37.mv [100, 100, 100])
 exact ⟨rfl, H38⟩
theorem clone_bytes (A : Atom) (v0 : Value) (n : Nat) (xs : List Value) (hA : RdA A 1 v0 n xs) (hn : n ≤ 140737488355328) {j : Nat} (hj : F[j]? = some A) (H : St W w F) : Calls Tryz.prog 71 #[v0] w (Ret fun v w' => ∃ p c, v = .slice p n c ∧ St W w' (Row 5 1 (.slice p n c) n xs :: F)) := by
 have hml := (hA _ _ _ j H hj).2
 obtain ⟨pp1, cc2, rfl, hn3⟩ := Rd.shape (hA _ _ _ j H hj).1
 refine calls_of_go (n := 8) Tryz.func71 rfl Tryz.ntmps71 rfl ?_
 refine g_seq (g_region (Ag (.slice none 0 0) (r_nil (g_seq (g_seq (g_region (Mv (.slice pp1 n cc2) ?_)))))))
 by_cases hc4 : pp1 = none
 ·refine rc (s_sleql true un_27 rfl rfl (isNone_t hc4) rfl (r_nil (g_true rfl (g_seq (g_region (Ag (.slice none 0 0) (r_nil (Gr [.slice none 0 0] Tryz.func71 Tryz.results71 ?_))))))))
  have H5 : St W w F := H
  obtain ⟨h1, h2, h3⟩ := hn3 ‹_›
  subst h1 h3
  exact ⟨none, 0, rfl, Row.nil_intro H5 5 1⟩
 refine rc (s_sleql false un_27 rfl rfl (isNone_f hc4) rfl (r_nil (g_false rfl (g_skip (g_seq (g_region (rc (s_buildSlice0 H 1 el_27 rfl ?_)))))))); intro bk7 w8 H9
 have H10 := Row.of_blk (n := 0) (size := 1) H9 (i := 0) rfl t12 t13 t13
 refine Mv (.slice pp1 n cc2) (rc (s_append H10 0 rfl rfl rfl (hA _ _ _ (j + 1) H10 (by exact hj)).1 ap_27 t9 t12 t0 (n' := n) (xs' := xs) t0 t16 rfl ?_)); intro vv11 w12 H13 hn14
 obtain ⟨pp15, cc16, rfl⟩ := Row.slice H13 (i := 0) rfl
 refine Ag (.slice pp15 n cc16) (r_nil (Gr [.slice pp15 n cc16] Tryz.func71 Tryz.results71 ?_))
 have H17 : St W w12 (_ :: F) := H13
 exact ⟨_, _, rfl, H17⟩
theorem bytes_Clone (A : Atom) (v0 : Value) (n : Nat) (xs : List Value) (hA : RdA A 1 v0 n xs) (hn : n ≤ 140737488355328) {j : Nat} (hj : F[j]? = some A) (H : St W w F) : Calls Tryz.prog 93 #[v0] w (Ret fun v w' => ∃ p c, v = .slice p n c ∧ St W w' (Row 5 1 (.slice p n c) n xs :: F)) := by
 have hml := (hA _ _ _ j H hj).2
 obtain ⟨pp1, cc2, rfl, hn3⟩ := Rd.shape (hA _ _ _ j H hj).1
 refine calls_of_go (n := 8) Tryz.func93 rfl Tryz.ntmps93 rfl ?_
 refine g_seq (g_region (Ag (.slice none 0 0) (r_nil (g_seq (g_seq (g_region (Mv (.slice pp1 n cc2) ?_)))))))
 by_cases hc4 : pp1 = none
 ·refine rc (s_sleql true un_27 rfl rfl (isNone_t hc4) rfl (r_nil (g_true rfl (g_seq (g_region (Ag (.slice none 0 0) (r_nil (Gr [.slice none 0 0] Tryz.func93 Tryz.results93 ?_))))))))
  have H5 : St W w F := H
  obtain ⟨h1, h2, h3⟩ := hn3 ‹_›
  subst h1 h3
  exact ⟨none, 0, rfl, Row.nil_intro H5 5 1⟩
 refine rc (s_sleql false un_27 rfl rfl (isNone_f hc4) rfl (r_nil (g_false rfl (g_skip (g_seq (g_region (rc (s_buildSlice0 H 1 el_27 rfl ?_)))))))); intro bk7 w8 H9
 have H10 := Row.of_blk (n := 0) (size := 1) H9 (i := 0) rfl t12 t13 t13
 refine Mv (.slice pp1 n cc2) (rc (s_append H10 0 rfl rfl rfl (hA _ _ _ (j + 1) H10 (by exact hj)).1 ap_27 t9 t12 t0 (n' := n) (xs' := xs) t0 t16 rfl ?_)); intro vv11 w12 H13 hn14
 obtain ⟨pp15, cc16, rfl⟩ := Row.slice H13 (i := 0) rfl
 refine Ag (.slice pp15 n cc16) (r_nil (Gr [.slice pp15 n cc16] Tryz.func93 Tryz.results93 ?_))
 have H17 : St W w12 (_ :: F) := H13
 exact ⟨_, _, rfl, H17⟩
theorem ref24_time (n : Int) (H : St W w F) : Calls Tryz.prog 49 #[.int .i64 n] w (Ret fun v w' => v = .bool (timeB n) ∧ St W w' F) := by
 refine calls_of_go (n := 9) Tryz.func49 rfl Tryz.ntmps49 rfl ?_
 refine g_seq (g_region (Ag (.bool false) (r_nil (g_seq (g_region (Mv (.int .i64 n) ?_))))))
 by_cases hc1 : (0 : Int) ≤ n
 ·refine rc (s_geq true rfl rfl (dtrue hc1) rfl (Mv (.bool true) (Rt (Mw (.int .i64 n) (Rt ?_)))))
  by_cases hc2 : n ≤ 1099511627776
  ·exact s_leq true rfl rfl (dtrue hc2) rfl (Pt (.bool true) (Ag (.bool true) (r_nil (Gr [.bool true] Tryz.func49 Tryz.results49 (⟨congrArg Value.bool t19, H⟩)))))
  exact s_leq false rfl rfl (dfalse hc2) rfl (Pt (.bool false) (Ag (.bool false) (r_nil (Gr [.bool false] Tryz.func49 Tryz.results49 (⟨congrArg Value.bool t19, H⟩)))))
 exact rc (s_geq false rfl rfl (dfalse hc1) rfl (Mv (.bool false) (Rp (Rp (Pf (.bool false) (Ag (.bool false) (r_nil (Gr [.bool false] Tryz.func49 Tryz.results49 (⟨congrArg Value.bool t19, H⟩)))))))))
theorem value_Name (s : ByteArray) (hs : s.size ≤ 140737488355328) (H : St W w F) : Calls Tryz.prog 83 #[.string s] w (Ret fun v w' => v = .bool (nameB s) ∧ St W w' F) := by
 refine calls_of_go (n := 54) Tryz.func83 rfl Tryz.ntmps83 rfl ?_
 refine g_seq (g_region (Ag (.bool false) (r_nil (g_seq (g_seq (g_region (Mv (.string s) (rc (s_str_bytes H s rfl us_9 un_27 un_5 rfl (fun bk1 w2 cap4 N5 tl6 hN5 hcap4 htl6 H3 => rc (s_len s.size rfl ⟨_, un_27⟩ rfl (Mv (.int .i64 0) (r_nil (g_block ?_))))))))))))))
 have H7 : St W w2 (_ :: F) := H3
 refine g_loop_inv (fun (i : Nat) => [(7, .slice (pa bk1) s.size cap4), (8, .int .i64 (s.size : Int)), (9, .int .i64 (i : Int)), (0, .string s)]) (fun i w => (i ≤ s.size) ∧ (∀ j, j < i → charB j (bAt s j) = true) ∧ St W w (blk bk1 (.cells ((bytesV s.data.toList ++ tl6).toArray) 5 (N5, N5 + 1)) :: F)) (fun i => s.size - i) (0) ?_ ?_ ?_
 ·exact t1
 ·exact ⟨t0, (fun j hj => by omega), H7⟩
 rintro i ρ8 w9 ⟨hi, hz, H10⟩ nx11
 change Ends _ _ (upds ρ8 [(7, .slice (pa bk1) s.size cap4), (8, .int .i64 (s.size : Int)), (9, .int .i64 (i : Int)), (0, .string s)]) w9
 refine g_seq (g_region ?_)
 by_cases hc12 : (i : Int) < (s.size : Int)
 ·refine rc (s_lss true rfl rfl (dtrue hc12) rfl (r_nil (g_seq (g_true rfl (g_skip (g_seq (g_block (g_seq (g_region (Mv (.int .i64 (i : Int)) (rc (s_indexAddr bk1 (i : Int) 1 (0 + i * 1) rfl rfl el_27 t0 rfl rfl (rc (s_load (.int .u8 (bAt s i)) ag_5 rfl (H10.blk_at (i := 0) rfl) (by simpa using bytes_get s tl6 i t0) rfl (Ag (.int .i64 (i : Int)) (Ag (.int .u8 (bAt s i)) (r_nil (g_seq ?_))))))))))))))))))
  refine g_cut (fun _ : Unit => [(7, .slice (pa bk1) s.size cap4), (8, .int .i64 (s.size : Int)), (9, .int .i64 (i : Int)), (0, .string s), (10, .bool true), (11, .int .i64 (i : Int)), (12, .pointer (some ⟨bk1, 0 + i * 1, none⟩)), (13, .int .u8 (bAt s i)), (3, .int .i64 (i : Int)), (4, .int .u8 (bAt s i)), (5, .bool (letterB (bAt s i)))]) (fun _ w => St W w (blk bk1 (.cells ((bytesV s.data.toList ++ tl6).toArray) 5 (N5, N5 + 1)) :: F)) ?_ ?_
  ·rintro ⟨⟩ ρ16 w14 H15
   change Ends _ _ (upds ρ16 [(7, .slice (pa bk1) s.size cap4), (8, .int .i64 (s.size : Int)), (9, .int .i64 (i : Int)), (0, .string s), (10, .bool true), (11, .int .i64 (i : Int)), (12, .pointer (some ⟨bk1, 0 + i * 1, none⟩)), (13, .int .u8 (bAt s i)), (3, .int .i64 (i : Int)), (4, .int .u8 (bAt s i)), (5, .bool (letterB (bAt s i)))]) w14
   refine g_seq ?_
   refine g_cut (fun _ : Unit => [(7, .slice (pa bk1) s.size cap4), (8, .int .i64 (s.size : Int)), (9, .int .i64 (i : Int)), (0, .string s), (10, .bool true), (11, .int .i64 (i : Int)), (12, .pointer (some ⟨bk1, 0 + i * 1, none⟩)), (13, .int .u8 (bAt s i)), (3, .int .i64 (i : Int)), (4, .int .u8 (bAt s i)), (5, .bool (letterB (bAt s i))), (45, .bool (!charB i (bAt s i)))]) (fun _ w => St W w (blk bk1 (.cells ((bytesV s.data.toList ++ tl6).toArray) 5 (N5, N5 + 1)) :: F)) ?_ ?_
   ·rintro ⟨⟩ ρ20 w18 H19
    change Ends _ _ (upds ρ20 [(7, .slice (pa bk1) s.size cap4), (8, .int .i64 (s.size : Int)), (9, .int .i64 (i : Int)), (0, .string s), (10, .bool true), (11, .int .i64 (i : Int)), (12, .pointer (some ⟨bk1, 0 + i * 1, none⟩)), (13, .int .u8 (bAt s i)), (3, .int .i64 (i : Int)), (4, .int .u8 (bAt s i)), (5, .bool (letterB (bAt s i))), (45, .bool (!charB i (bAt s i)))]) w18
    by_cases hb21 : (!charB i (bAt s i)) = true
    ·refine g_true (congrArg Value.bool hb21) (g_seq (g_region (Ag (.bool false) (r_nil (Gr [.bool false] Tryz.func83 Tryz.results83 ?_)))))
     have H22 : St W w18 F := (H19.drop 0 rfl)
     exact ⟨congrArg Value.bool (by first | exact (nameB_no s i t0 (by simpa using hb21)).symm | (rw [nameB_is s (fun j hj => hz j t0)]; first | exact (decide_eq_true ⟨by assumption, by omega⟩).symm | exact (decide_eq_false (by intro h; first | exact absurd h.1 (by simpa using ‹_›) | omega)).symm)), H22⟩
    have hb21 := eq_false_of_ne_true hb21
    refine g_false (congrArg Value.bool hb21) (g_skip (g_inBlock (g_region (rc (s_add ((i : Int) + 1) rfl rfl (wi64 t0) rfl (Mv (.int .i64 ((i : Int) + 1)) (r_nil ?_)))))))
    have H23 : St W w18 (_ :: F) := H19
    exact nx11 (i + 1) _ _ ⟨t0, (fun j hj => (Nat.lt_or_ge j i).elim (hz j) (fun h => by rw [show j = i from by omega]; simpa using hb21)), H23⟩ t7 t1
   intro join17
   refine g_region (Mv (.bool (letterB (bAt s i))) (rc (s_not (letterB (bAt s i)) rfl (!(letterB (bAt s i))) rfl rfl (Mv (.bool (!(letterB (bAt s i)))) ?_))))
   by_cases hb24 : (!(letterB (bAt s i))) = true
   ·refine Rh hb24 (Mw (.int .i64 (i : Int)) (Rh hb24 ?_))
    by_cases hc25 : (i : Int) = 0
    ·exact s_eql true rfl rfl (dtrue hc25) rfl (Rh hb24 (Mw (.bool true) (Rp (Rp (Rh hb24 (s_pick_t (.bool true) rfl rfl rfl (Rh hb24 (Mw (.bool true) (Rp (Rp (Rh hb24 (s_pick_t (.bool true) rfl rfl rfl (rc (s_pick_t (.bool true) (by exact congrArg Value.bool hb24) rfl rfl (r_nil (join17 () _ _ H15 ⟨rfl, rfl, rfl, rfl, rfl, rfl, rfl, rfl, rfl, rfl, rfl, congrArg Value.bool t37, trivial⟩))))))))))))))))
    refine s_eql false rfl rfl (dfalse hc25) rfl (Rh hb24 (Mw (.bool false) (Rt (Mw (.int .u8 (bAt s i)) (Rt ?_)))))
    by_cases hc26 : bAt s i < 48
    ·exact s_lss true rfl rfl (dtrue hc26) rfl (Rh hb24 (s_pick_f (.bool true) rfl rfl rfl (Rh hb24 (Mw (.bool true) (Rp (Rp (Rh hb24 (s_pick_t (.bool true) rfl rfl rfl (rc (s_pick_t (.bool true) (by exact congrArg Value.bool hb24) rfl rfl (r_nil (join17 () _ _ H15 ⟨rfl, rfl, rfl, rfl, rfl, rfl, rfl, rfl, rfl, rfl, rfl, congrArg Value.bool t37, trivial⟩))))))))))))
    refine s_lss false rfl rfl (dfalse hc26) rfl (Rh hb24 (s_pick_f (.bool false) rfl rfl rfl (Rh hb24 (Mw (.bool false) (Rt (Mw (.int .u8 (bAt s i)) (Rt ?_)))))))
    by_cases hc27 : (57 : Int) < bAt s i
    ·exact s_gtr true rfl rfl (dtrue hc27) rfl (Rh hb24 (s_pick_f (.bool true) rfl rfl rfl (rc (s_pick_t (.bool true) (by exact congrArg Value.bool hb24) rfl rfl (r_nil (join17 () _ _ H15 ⟨rfl, rfl, rfl, rfl, rfl, rfl, rfl, rfl, rfl, rfl, rfl, congrArg Value.bool t37, trivial⟩))))))
    exact s_gtr false rfl rfl (dfalse hc27) rfl (Rh hb24 (s_pick_f (.bool false) rfl rfl rfl (rc (s_pick_t (.bool false) (by exact congrArg Value.bool hb24) rfl rfl (r_nil (join17 () _ _ H15 ⟨rfl, rfl, rfl, rfl, rfl, rfl, rfl, rfl, rfl, rfl, rfl, congrArg Value.bool t37, trivial⟩))))))
   have hb24 := eq_false_of_ne_true hb24
   exact Rq hb24 (Rq hb24 (Rq hb24 (Rn (Rn (Rq hb24 (Rq hb24 (Rn (Rn (Rq hb24 (rc (s_pick_f (.bool false) (by exact congrArg Value.bool hb24) rfl rfl (r_nil (join17 () _ _ H15 ⟨rfl, rfl, rfl, rfl, rfl, rfl, rfl, rfl, rfl, rfl, rfl, congrArg Value.bool t37, trivial⟩)))))))))))))
  intro join13
  refine g_region (Mv (.int .u8 (bAt s i)) ?_)
  by_cases hc28 : bAt s i = 95
  ·exact rc (s_eql true rfl rfl (dtrue hc28) rfl (Mv (.bool true) (Rp (Rp (Rp (Rn (Rn (Rp (Pt (.bool true) (Mv (.bool true) (Rp (Rp (Rp (Rn (Rn (Rp (Pt (.bool true) (Ag (.bool true) (r_nil (join13 () _ _ H10 ⟨rfl, rfl, rfl, rfl, rfl, rfl, rfl, rfl, rfl, rfl, congrArg Value.bool t17, trivial⟩))))))))))))))))))))
  refine rc (s_eql false rfl rfl (dfalse hc28) rfl (Mv (.bool false) (Rt (Mw (.int .u8 (bAt s i)) (Rt ?_)))))
  by_cases hc29 : (97 : Int) ≤ bAt s i
  ·refine s_geq true rfl rfl (dtrue hc29) rfl (Rt (Mw (.bool true) (Rt (Mw (.int .u8 (bAt s i)) (Rt ?_)))))
   by_cases hc30 : bAt s i ≤ 122
   ·exact s_leq true rfl rfl (dtrue hc30) rfl (Rt (s_pick_t (.bool true) rfl rfl rfl (Pf (.bool true) (Mv (.bool true) (Rp (Rp (Rp (Rn (Rn (Rp (Pt (.bool true) (Ag (.bool true) (r_nil (join13 () _ _ H10 ⟨rfl, rfl, rfl, rfl, rfl, rfl, rfl, rfl, rfl, rfl, congrArg Value.bool t17, trivial⟩))))))))))))))
   exact s_leq false rfl rfl (dfalse hc30) rfl (Rt (s_pick_t (.bool false) rfl rfl rfl (Pf (.bool false) (Mv (.bool false) (Rt (Mw (.int .u8 (bAt s i)) (Rt (s_geq true rfl rfl (dtrue t0) rfl (Rt (Mw (.bool true) (Rt (Mw (.int .u8 (bAt s i)) (Rt (s_leq false rfl rfl (dfalse t0) rfl (Rt (s_pick_t (.bool false) rfl rfl rfl (Pf (.bool false) (Ag (.bool false) (r_nil (join13 () _ _ H10 ⟨rfl, rfl, rfl, rfl, rfl, rfl, rfl, rfl, rfl, rfl, congrArg Value.bool t17, trivial⟩))))))))))))))))))))
  refine s_geq false rfl rfl (dfalse hc29) rfl (Rt (Mw (.bool false) (Rp (Rp (Rt (s_pick_f (.bool false) rfl rfl rfl (Pf (.bool false) (Mv (.bool false) (Rt (Mw (.int .u8 (bAt s i)) (Rt ?_)))))))))))
  by_cases hc31 : (65 : Int) ≤ bAt s i
  ·refine s_geq true rfl rfl (dtrue hc31) rfl (Rt (Mw (.bool true) (Rt (Mw (.int .u8 (bAt s i)) (Rt ?_)))))
   by_cases hc32 : bAt s i ≤ 90
   ·exact s_leq true rfl rfl (dtrue hc32) rfl (Rt (s_pick_t (.bool true) rfl rfl rfl (Pf (.bool true) (Ag (.bool true) (r_nil (join13 () _ _ H10 ⟨rfl, rfl, rfl, rfl, rfl, rfl, rfl, rfl, rfl, rfl, congrArg Value.bool t17, trivial⟩))))))
   exact s_leq false rfl rfl (dfalse hc32) rfl (Rt (s_pick_t (.bool false) rfl rfl rfl (Pf (.bool false) (Ag (.bool false) (r_nil (join13 () _ _ H10 ⟨rfl, rfl, rfl, rfl, rfl, rfl, rfl, rfl, rfl, rfl, congrArg Value.bool t17, trivial⟩))))))
  exact s_geq false rfl rfl (dfalse hc31) rfl (Rt (Mw (.bool false) (Rp (Rp (Rt (s_pick_f (.bool false) rfl rfl rfl (Pf (.bool false) (Ag (.bool false) (r_nil (join13 () _ _ H10 ⟨rfl, rfl, rfl, rfl, rfl, rfl, rfl, rfl, rfl, rfl, congrArg Value.bool t17, trivial⟩))))))))))
 refine rc (s_lss false rfl rfl (dfalse hc12) rfl (r_nil (g_seq (g_false rfl (g_exit t39 (g_seq (g_region (Mv (.string s) ?_))))))))
 by_cases hc33 : s = ByteArray.empty
 ·refine rc (s_sneq false rfl rfl (ntrue hc33) rfl (Mv (.bool false) (Rp (Rp (Rp (Pf (.bool false) (Ag (.bool false) (r_nil (Gr [.bool false] Tryz.func83 Tryz.results83 ?_)))))))))
  have H34 : St W w9 F := (H10.drop 0 rfl)
  exact ⟨congrArg Value.bool t27, H34⟩
 refine rc (s_sneq true rfl rfl (nfalse hc33) rfl (Mv (.bool true) (Rt (Mw (.string s) (Rt (s_len_str (s).size rfl st_9 rfl rfl (Rt ?_)))))))
 by_cases hc35 : (s.size : Int) ≤ 32
 ·refine s_leq true rfl rfl (dtrue hc35) rfl (Pt (.bool true) (Ag (.bool true) (r_nil (Gr [.bool true] Tryz.func83 Tryz.results83 ?_))))
  have H36 : St W w9 F := (H10.drop 0 rfl)
  exact ⟨congrArg Value.bool t27, H36⟩
 refine s_leq false rfl rfl (dfalse hc35) rfl (Pt (.bool false) (Ag (.bool false) (r_nil (Gr [.bool false] Tryz.func83 Tryz.results83 ?_))))
 have H37 : St W w9 F := (H10.drop 0 rfl)
 exact ⟨congrArg Value.bool t27, H37⟩
theorem value_Check (k n : Int) (s : ByteArray) (H : St W w F) : Calls Tryz.prog 120 #[.agg #[.int .i64 k, .int .i64 n, .string s]] w (Ret fun v w' => v = .int .i64 (valE k n s) ∧ St W w' F) := by
 refine calls_of_go (n := 27) Tryz.func120 rfl Tryz.ntmps120 rfl ?_
 refine g_seq (g_region (Bx H 145 #[.int .i64 k, .int .i64 n, .string s] (fun bk1 w2 H3 => Ag (.int .i64 0) (r_nil (g_seq (g_seq (g_region (Fa 0 fi_145_0 rfl (Lo (.int .i64 k) ag_3 H3 0 ?_)))))))))
 by_cases hc4 : k = 1
 ·refine rc (s_eql true rfl rfl (dtrue hc4) rfl (Mv (.bool true) (Rt (s_fieldAddr 145 2 2 2 9 rfl fi_145_2 rfl rfl (Rt (s_load (.string s) ag_9 rfl (H3.blk_at (i := 0) rfl) rfl rfl (Rt ?_)))))))
  by_cases hc5 : s = ByteArray.empty
  ·refine s_seql true rfl rfl (dtrue hc5) rfl (Pt (.bool true) (Mv (.bool true) (Rp (Rp (Rp (Rp (Rn (Rn (Rn (Rp (Rp (Rn (Rn (Rn (Rn (Rp (Pt (.bool true) (r_nil (g_true rfl (g_seq (g_region (Ag (.int .i64 0) (r_nil (Gr [.int .i64 0] Tryz.func120 Tryz.results120 ?_))))))))))))))))))))))))
   have H6 : St W w2 F := (H3.drop 0 rfl)
   exact ⟨vint t8, H6⟩
  refine s_seql false rfl rfl (dfalse hc5) rfl (Pt (.bool false) (Mv (.bool false) (Rt (s_fieldAddr 145 0 0 0 3 rfl fi_145_0 rfl rfl (Rt (s_load (.int .i64 k) ag_3 rfl (H3.blk_at (i := 0) rfl) rfl rfl (Rt (s_eql false rfl rfl (dfalse t0) rfl (Rt (Mw (.bool false) (Rp (Rp (Rp (Rt (s_pick_f (.bool false) rfl rfl rfl (Rt (Mw (.bool false) (Rp (Rp (Rp (Rp (Rt (s_pick_f (.bool false) rfl rfl rfl (Pf (.bool false) (r_nil (g_false rfl (g_skip (g_seq (g_region (Ag (.int .i64 30) (r_nil (Gr [.int .i64 30] Tryz.func120 Tryz.results120 ?_))))))))))))))))))))))))))))))))
  have H7 : St W w2 F := (H3.drop 0 rfl)
  exact ⟨vint t8, H7⟩
 refine rc (s_eql false rfl rfl (dfalse hc4) rfl (Mv (.bool false) (Rp (Rp (Rp (Pf (.bool false) (Mv (.bool false) (Rt (s_fieldAddr 145 0 0 0 3 rfl fi_145_0 rfl rfl (Rt (s_load (.int .i64 k) ag_3 rfl (H3.blk_at (i := 0) rfl) rfl rfl (Rt ?_))))))))))))
 by_cases hc8 : k = 2
 ·refine s_eql true rfl rfl (dtrue hc8) rfl (Rt (Mw (.bool true) (Rt (s_fieldAddr 145 1 1 1 2 rfl fi_145_1 rfl rfl (Rt (s_load (.int .i64 n) ag_2 rfl (H3.blk_at (i := 0) rfl) rfl rfl (Rt ?_)))))))
  by_cases hc9 : n = 0
  ·refine s_eql true rfl rfl (dtrue hc9) rfl (Rt (s_pick_t (.bool true) rfl rfl rfl (Rt (Mw (.bool true) (Rt (s_fieldAddr 145 2 2 2 9 rfl fi_145_2 rfl rfl (Rt (s_load (.string s) ag_9 rfl (H3.blk_at (i := 0) rfl) rfl rfl (Rt (s_len_str (s).size rfl st_9 rfl rfl (Rt ?_)))))))))))
   by_cases hc10 : (s.size : Int) ≤ 64
   ·refine s_leq true rfl rfl (dtrue hc10) rfl (Rt (s_pick_t (.bool true) rfl rfl rfl (Pf (.bool true) (r_nil (g_true rfl (g_seq (g_region (Ag (.int .i64 0) (r_nil (Gr [.int .i64 0] Tryz.func120 Tryz.results120 ?_))))))))))
    have H11 : St W w2 F := (H3.drop 0 rfl)
    exact ⟨vint t8, H11⟩
   refine s_leq false rfl rfl (dfalse hc10) rfl (Rt (s_pick_t (.bool false) rfl rfl rfl (Pf (.bool false) (r_nil (g_false rfl (g_skip (g_seq (g_region (Ag (.int .i64 30) (r_nil (Gr [.int .i64 30] Tryz.func120 Tryz.results120 ?_)))))))))))
   have H12 : St W w2 F := (H3.drop 0 rfl)
   exact ⟨vint t8, H12⟩
  refine s_eql false rfl rfl (dfalse hc9) rfl (Rt (s_pick_t (.bool false) rfl rfl rfl (Rt (Mw (.bool false) (Rp (Rp (Rp (Rp (Rt (s_pick_f (.bool false) rfl rfl rfl (Pf (.bool false) (r_nil (g_false rfl (g_skip (g_seq (g_region (Ag (.int .i64 30) (r_nil (Gr [.int .i64 30] Tryz.func120 Tryz.results120 ?_)))))))))))))))))))
  have H13 : St W w2 F := (H3.drop 0 rfl)
  exact ⟨vint t8, H13⟩
 refine s_eql false rfl rfl (dfalse hc8) rfl (Rt (Mw (.bool false) (Rp (Rp (Rp (Rt (s_pick_f (.bool false) rfl rfl rfl (Rt (Mw (.bool false) (Rp (Rp (Rp (Rp (Rt (s_pick_f (.bool false) rfl rfl rfl (Pf (.bool false) (r_nil (g_false rfl (g_skip (g_seq (g_region (Ag (.int .i64 30) (r_nil (Gr [.int .i64 30] Tryz.func120 Tryz.results120 ?_))))))))))))))))))))))))
 have H14 : St W w2 F := (H3.drop 0 rfl)
 exact ⟨vint t8, H14⟩
theorem ref03_Check (k n : Int) (s : ByteArray) (H : St W w F) : Calls Tryz.prog 121 #[.agg #[.int .i64 k, .int .i64 n, .string s]] w (Ret fun v w' => v = .int .i64 (valE k n s) ∧ St W w' F) := by
 refine calls_of_go (n := 27) Tryz.func121 rfl Tryz.ntmps121 rfl ?_
 refine g_seq (g_region (Bx H 145 #[.int .i64 k, .int .i64 n, .string s] (fun bk1 w2 H3 => Ag (.int .i64 0) (r_nil (g_seq (g_seq (g_region (Fa 0 fi_145_0 rfl (Lo (.int .i64 k) ag_3 H3 0 ?_)))))))))
 by_cases hc4 : k = 1
 ·refine rc (s_eql true rfl rfl (dtrue hc4) rfl (Mv (.bool true) (Rt (s_fieldAddr 145 2 2 2 9 rfl fi_145_2 rfl rfl (Rt (s_load (.string s) ag_9 rfl (H3.blk_at (i := 0) rfl) rfl rfl (Rt ?_)))))))
  by_cases hc5 : s = ByteArray.empty
  ·refine s_seql true rfl rfl (dtrue hc5) rfl (Pt (.bool true) (Mv (.bool true) (Rp (Rp (Rp (Rp (Rn (Rn (Rn (Rp (Rp (Rn (Rn (Rn (Rn (Rp (Pt (.bool true) (r_nil (g_true rfl (g_seq (g_region (Ag (.int .i64 0) (r_nil (Gr [.int .i64 0] Tryz.func121 Tryz.results121 ?_))))))))))))))))))))))))
   have H6 : St W w2 F := (H3.drop 0 rfl)
   exact ⟨vint t8, H6⟩
  refine s_seql false rfl rfl (dfalse hc5) rfl (Pt (.bool false) (Mv (.bool false) (Rt (s_fieldAddr 145 0 0 0 3 rfl fi_145_0 rfl rfl (Rt (s_load (.int .i64 k) ag_3 rfl (H3.blk_at (i := 0) rfl) rfl rfl (Rt (s_eql false rfl rfl (dfalse t0) rfl (Rt (Mw (.bool false) (Rp (Rp (Rp (Rt (s_pick_f (.bool false) rfl rfl rfl (Rt (Mw (.bool false) (Rp (Rp (Rp (Rp (Rt (s_pick_f (.bool false) rfl rfl rfl (Pf (.bool false) (r_nil (g_false rfl (g_skip (g_seq (g_region (Ag (.int .i64 30) (r_nil (Gr [.int .i64 30] Tryz.func121 Tryz.results121 ?_))))))))))))))))))))))))))))))))
  have H7 : St W w2 F := (H3.drop 0 rfl)
  exact ⟨vint t8, H7⟩
 refine rc (s_eql false rfl rfl (dfalse hc4) rfl (Mv (.bool false) (Rp (Rp (Rp (Pf (.bool false) (Mv (.bool false) (Rt (s_fieldAddr 145 0 0 0 3 rfl fi_145_0 rfl rfl (Rt (s_load (.int .i64 k) ag_3 rfl (H3.blk_at (i := 0) rfl) rfl rfl (Rt ?_))))))))))))
 by_cases hc8 : k = 2
 ·refine s_eql true rfl rfl (dtrue hc8) rfl (Rt (Mw (.bool true) (Rt (s_fieldAddr 145 1 1 1 2 rfl fi_145_1 rfl rfl (Rt (s_load (.int .i64 n) ag_2 rfl (H3.blk_at (i := 0) rfl) rfl rfl (Rt ?_)))))))
  by_cases hc9 : n = 0
  ·refine s_eql true rfl rfl (dtrue hc9) rfl (Rt (s_pick_t (.bool true) rfl rfl rfl (Rt (Mw (.bool true) (Rt (s_fieldAddr 145 2 2 2 9 rfl fi_145_2 rfl rfl (Rt (s_load (.string s) ag_9 rfl (H3.blk_at (i := 0) rfl) rfl rfl (Rt (s_len_str (s).size rfl st_9 rfl rfl (Rt ?_)))))))))))
   by_cases hc10 : (s.size : Int) ≤ 64
   ·refine s_leq true rfl rfl (dtrue hc10) rfl (Rt (s_pick_t (.bool true) rfl rfl rfl (Pf (.bool true) (r_nil (g_true rfl (g_seq (g_region (Ag (.int .i64 0) (r_nil (Gr [.int .i64 0] Tryz.func121 Tryz.results121 ?_))))))))))
    have H11 : St W w2 F := (H3.drop 0 rfl)
    exact ⟨vint t8, H11⟩
   refine s_leq false rfl rfl (dfalse hc10) rfl (Rt (s_pick_t (.bool false) rfl rfl rfl (Pf (.bool false) (r_nil (g_false rfl (g_skip (g_seq (g_region (Ag (.int .i64 30) (r_nil (Gr [.int .i64 30] Tryz.func121 Tryz.results121 ?_)))))))))))
   have H12 : St W w2 F := (H3.drop 0 rfl)
   exact ⟨vint t8, H12⟩
  refine s_eql false rfl rfl (dfalse hc9) rfl (Rt (s_pick_t (.bool false) rfl rfl rfl (Rt (Mw (.bool false) (Rp (Rp (Rp (Rp (Rt (s_pick_f (.bool false) rfl rfl rfl (Pf (.bool false) (r_nil (g_false rfl (g_skip (g_seq (g_region (Ag (.int .i64 30) (r_nil (Gr [.int .i64 30] Tryz.func121 Tryz.results121 ?_)))))))))))))))))))
  have H13 : St W w2 F := (H3.drop 0 rfl)
  exact ⟨vint t8, H13⟩
 refine s_eql false rfl rfl (dfalse hc8) rfl (Rt (Mw (.bool false) (Rp (Rp (Rp (Rt (s_pick_f (.bool false) rfl rfl rfl (Rt (Mw (.bool false) (Rp (Rp (Rp (Rp (Rt (s_pick_f (.bool false) rfl rfl rfl (Pf (.bool false) (r_nil (g_false rfl (g_skip (g_seq (g_region (Ag (.int .i64 30) (r_nil (Gr [.int .i64 30] Tryz.func121 Tryz.results121 ?_))))))))))))))))))))))))
 have H14 : St W w2 F := (H3.drop 0 rfl)
 exact ⟨vint t8, H14⟩
theorem value_CheckAttrs (ats : List AttrV) (av : Value) {j : Nat} (hj : F[j]? = some (Attrs av ats)) (H : St W w F) : Calls Tryz.prog 107 #[av] w (Ret fun v w' => v = .int .i64 (attrsE ats) ∧ St W w' F) := by
 obtain ⟨pA1, cA2, gA3, oA4, kA5, eA6, zA7, rfl, hn8, hp9, hx10, hs11, hml, H12⟩ := Im.open_ H hj
 refine calls_of_go (n := 40) Tryz.func107 rfl Tryz.ntmps107 rfl ?_
 refine g_seq (g_region (Ag (.int .i64 0) (r_nil (g_seq (g_seq (g_region (Mv (.slice pA1 ats.length cA2) (rc (s_len ats.length rfl ⟨_, un_117⟩ rfl ?_)))))))))
 by_cases hc13 : (8 : Int) < (ats.length : Int)
 ·refine rc (s_gtr true rfl rfl (dtrue hc13) rfl (r_nil (g_true rfl (g_seq (g_region (Ag (.int .i64 3) (r_nil (Gr [.int .i64 3] Tryz.func107 Tryz.results107 ?_))))))))
  have H14 : St W w F := (H12.drop 0 rfl)
  exact ⟨vint t6, H14⟩
 refine rc (s_gtr false rfl rfl (dfalse hc13) rfl (r_nil (g_false rfl (g_skip (g_seq (g_seq (g_region (Mv (.slice pA1 ats.length cA2) (rc (s_len ats.length rfl ⟨_, un_117⟩ rfl (Mv (.int .i64 0) (r_nil (g_block ?_)))))))))))))
 have H15 : St W w (_ :: F) := H12
 refine g_loop_inv (fun (i : Nat) => [(9, .slice pA1 ats.length cA2), (10, .int .i64 (ats.length : Int)), (11, .int .i64 (i : Int)), (0, .slice pA1 ats.length cA2)]) (fun i w => (i ≤ ats.length) ∧ (∀ j, j < i → attrE ats j = 0) ∧ St W w (imi (0 < ats.length) gA3 (.cells kA5 eA6 zA7) :: F)) (fun i => ats.length - i) (0) ?_ ?_ ?_
 ·exact t1
 ·exact ⟨t0, (fun j hj => by omega), H15⟩
 rintro i ρ16 w17 ⟨hi, hz, H18⟩ nx19
 change Ends _ _ (upds ρ16 [(9, .slice pA1 ats.length cA2), (10, .int .i64 (ats.length : Int)), (11, .int .i64 (i : Int)), (0, .slice pA1 ats.length cA2)]) w17
 refine g_seq (g_region ?_)
 by_cases hc20 : (i : Int) < (ats.length : Int)
 ·refine rc (s_lss true rfl rfl (dtrue hc20) rfl (r_nil (g_seq (g_true rfl (g_skip (g_seq (g_block (g_seq (g_region (Mv (.int .i64 (i : Int)) (rc (s_indexAddr gA3 (off := oA4) (i : Int) 4 (oA4 + i * 4) t31 rfl el_117 t0 rfl rfl (rc (s_loadAgg [.string ((ats.getD i default).name.v), .int .i64 ((ats.getD i default).kind.v), .int .i64 ((ats.getD i default).n.v), .string ((ats.getD i default).s.v)] 4 ag_147 rfl (H18.imi_at (i := 0) rfl t0) (by have := elem_size (i := i) (s := 4) (hs11 t0) t0; omega) (elem_take attrCell_len (hx10 t0) t0 default) rfl (rc (s_alloc H18 147 ze_147 rfl (fun bk21 w22 H23 => Ag (.int .i64 (i : Int)) (Sa H23 0 rfl #[.string ((ats.getD i default).name.v), .int .i64 ((ats.getD i default).kind.v), .int .i64 ((ats.getD i default).n.v), .string ((ats.getD i default).s.v)] 4 sz_147 #[.string ((ats.getD i default).name.v), .int .i64 ((ats.getD i default).kind.v), .int .i64 ((ats.getD i default).n.v), .string ((ats.getD i default).s.v)] (fun w24 H25 => r_nil (g_seq (g_seq (g_region (Fa 0 fi_147_0 rfl (Lo (.string ((ats.getD i default).name.v)) ag_9 H25 0 (rc (s_call [.string ((ats.getD i default).name.v)] pl_83 rfl rfl (value_Name ((ats.getD i default).name.v) (ats.getD i default).name.ok H25) ?_))))))))))))))))))))))))))
  rintro _ w26 ⟨rfl, H27⟩
  refine rc (s_not (nameB ((ats.getD i default).name.v)) rfl (!(nameB ((ats.getD i default).name.v))) rfl rfl (r_nil ?_))
  by_cases hb28 : (!(nameB ((ats.getD i default).name.v))) = true
  ·refine g_true (congrArg Value.bool hb28) (g_seq (g_region (Ag (.int .i64 31) (r_nil (Gr [.int .i64 31] Tryz.func107 Tryz.results107 ?_)))))
   have H29 : St W w26 F := (H27.mv [100, 100])
   exact ⟨vint t6, H29⟩
  have hb28 := eq_false_of_ne_true hb28
  refine g_false (congrArg Value.bool hb28) (g_skip (g_seq (g_seq (g_region (Fa 1 fi_147_1 rfl (La [.int .i64 ((ats.getD i default).kind.v), .int .i64 ((ats.getD i default).n.v), .string ((ats.getD i default).s.v)] 3 ag_145 H27 0 (rc (s_call [.agg #[.int .i64 ((ats.getD i default).kind.v), .int .i64 ((ats.getD i default).n.v), .string ((ats.getD i default).s.v)]] pl_120 rfl rfl (value_Check ((ats.getD i default).kind.v) ((ats.getD i default).n.v) ((ats.getD i default).s.v) H27) ?_))))))))
  rintro _ w30 ⟨rfl, H31⟩
  refine Ag (.int .i64 (valE ((ats.getD i default).kind.v) ((ats.getD i default).n.v) ((ats.getD i default).s.v))) (r_nil (g_seq (g_region (Mv (.int .i64 (valE ((ats.getD i default).kind.v) ((ats.getD i default).n.v) ((ats.getD i default).s.v))) ?_))))
  by_cases hc32 : valE ((ats.getD i default).kind.v) ((ats.getD i default).n.v) ((ats.getD i default).s.v) = 0
  ·refine rc (s_neq false rfl rfl (ntrue hc32) rfl (r_nil (g_false rfl (g_skip (g_seq ?_)))))
   refine g_quiet (fun w' => St W w' (blk bk21 (.cells #[.string ((ats.getD i default).name.v), .int .i64 ((ats.getD i default).kind.v), .int .i64 ((ats.getD i default).n.v), .string ((ats.getD i default).s.v)] 147 (0, 0)) :: imi (0 < ats.length) gA3 (.cells kA5 eA6 zA7) :: F)) mixed t5 H31.drew ?_
   refine Qm (.int .i64 (i : Int)) ?_
   by_cases hc33 : (0 : Int) < (i : Int)
   ·refine Qv (fun w hw => x_gtr true rfl rfl (dtrue hc33) w) (Qm (.bool true) (Qt (Qu (fun w hw => x_fieldAddr 147 0 0 0 9 rfl fi_147_0 rfl w) (Qt (Qu (fun w hw => x_load (.string ((ats.getD i default).name.v)) ag_9 rfl (hw.blk_at (i := 0) rfl) rfl) (Qt (Qn (.slice pA1 ats.length cA2) (Qt (Qn (.int .i64 (i : Int)) (Qt (Qu (fun w hw => x_sub ((i : Int) - 1) rfl rfl (wi64 t0) w) (Qt (Qu (fun w hw => x_indexAddr gA3 (off := oA4) ((i : Int) - 1) 4 (oA4 + (i - 1) * 4) t31 rfl el_117 t0 (by rw [show ((i : Int) - 1 : Int).toNat = i - 1 from by omega]) w) (Qt (Qu (fun w hw => x_fieldAddr 147 0 0 (oA4 + (i - 1) * 4) 9 rfl fi_147_0 rfl w) (Qt (Qu (fun w hw => x_load (.string ((ats.getD (i - 1) default).name.v)) ag_9 rfl (hw.imi_at (i := 1) rfl t0) (elem_cell (L := ats) (i := i - 1) attrCell_len (hx10 t0) t0 default 0 t9 _ rfl)) (Qt (Qu (fun w hw => x_sleq ((sLt ((ats.getD i default).name.v) ((ats.getD (i - 1) default).name.v) || decide (((ats.getD i default).name.v) = ((ats.getD (i - 1) default).name.v)))) rfl rfl rfl w) (Qv (fun w hw => x_pick_t (.bool (sLt ((ats.getD i default).name.v) ((ats.getD (i - 1) default).name.v) || decide (((ats.getD i default).name.v) = ((ats.getD (i - 1) default).name.v)))) rfl rfl w) (q_nil ?_)))))))))))))))))))))
    intro w34 H35
    by_cases hb36 : ((sLt ((ats.getD i default).name.v) ((ats.getD (i - 1) default).name.v) || decide (((ats.getD i default).name.v) = ((ats.getD (i - 1) default).name.v)))) = true
    ·refine g_true (congrArg Value.bool hb36) (g_seq (g_region (Ag (.int .i64 32) (r_nil (Gr [.int .i64 32] Tryz.func107 Tryz.results107 ?_)))))
     have H37 : St W w34 F := (H35.mv [100, 100])
     exact ⟨vint t6, H37⟩
    have hb36 := eq_false_of_ne_true hb36
    refine g_false (congrArg Value.bool hb36) (g_skip (g_inBlock (g_region (rc (s_add ((i : Int) + 1) rfl rfl (wi64 t0) rfl (Mv (.int .i64 ((i : Int) + 1)) (r_nil ?_)))))))
    have H38 : St W w34 (_ :: F) := (H35.mv [1, 101])
    exact nx19 (i + 1) _ _ ⟨t0, (fun j hj => (Nat.lt_or_ge j i).elim (hz j) (fun h => by rw [show j = i from by omega]; exact attrE_0 (notfalse ‹_›) ‹_› (fun h0 => by first | (exfalso; omega) | assumption))), H38⟩ t7 t1
   refine Qv (fun w hw => x_gtr false rfl rfl (dfalse hc33) w) (Qm (.bool false) (Qp (Qp (Qp (Qp (Qp (Qp (Qp (Qp (Qp (Qv (fun w hw => x_pick_f (.bool false) rfl rfl w) (q_nil ?_))))))))))))
   intro w39 H40
   refine g_false rfl (g_skip (g_inBlock (g_region (rc (s_add ((i : Int) + 1) rfl rfl (wi64 t0) rfl (Mv (.int .i64 ((i : Int) + 1)) (r_nil ?_)))))))
   have H41 : St W w39 (_ :: F) := (H40.mv [1, 101])
   exact nx19 (i + 1) _ _ ⟨t0, (fun j hj => (Nat.lt_or_ge j i).elim (hz j) (fun h => by rw [show j = i from by omega]; exact attrE_0 (notfalse ‹_›) ‹_› (fun h0 => by first | (exfalso; omega) | assumption))), H41⟩ t7 t1
  refine rc (s_neq true rfl rfl (nfalse hc32) rfl (r_nil (g_true rfl (g_seq (g_region (Mv (.int .i64 (valE ((ats.getD i default).kind.v) ((ats.getD i default).n.v) ((ats.getD i default).s.v))) (Ag (.int .i64 (valE ((ats.getD i default).kind.v) ((ats.getD i default).n.v) ((ats.getD i default).s.v))) (r_nil (Gr [.int .i64 (valE ((ats.getD i default).kind.v) ((ats.getD i default).n.v) ((ats.getD i default).s.v))] Tryz.func107 Tryz.results107 ?_)))))))))
  have H42 : St W w30 F := (H31.mv [100, 100])
  exact ⟨vint t6, H42⟩
 refine rc (s_lss false rfl rfl (dfalse hc20) rfl (r_nil (g_seq (g_false rfl (g_exit t39 (g_seq (g_region (Ag (.int .i64 0) (r_nil (Gr [.int .i64 0] Tryz.func107 Tryz.results107 ?_))))))))))
 have H43 : St W w17 F := (H18.drop 0 rfl)
 exact ⟨vint t6, H43⟩
theorem ref03_letter (c : Int) (H : St W w F) : Calls Tryz.prog 108 #[.int .u8 c] w (Ret fun v w' => v = .bool (letterB c) ∧ St W w' F) := by
 refine calls_of_go (n := 21) Tryz.func108 rfl Tryz.ntmps108 rfl ?_
 refine g_seq (g_region (Ag (.bool false) (r_nil (g_seq (g_region (Mv (.int .u8 c) ?_))))))
 by_cases hc1 : (97 : Int) ≤ c
 ·refine rc (s_geq true rfl rfl (dtrue hc1) rfl (Mv (.bool true) (Rt (Mw (.int .u8 c) (Rt ?_)))))
  by_cases hc2 : c ≤ 122
  ·exact s_leq true rfl rfl (dtrue hc2) rfl (Pt (.bool true) (Mv (.bool true) (Rp (Rp (Rp (Rn (Rn (Rp (Pt (.bool true) (Mv (.bool true) (Rp (Rp (Pt (.bool true) (Ag (.bool true) (r_nil (Gr [.bool true] Tryz.func108 Tryz.results108 (⟨congrArg Value.bool t17, H⟩)))))))))))))))))
  exact s_leq false rfl rfl (dfalse hc2) rfl (Pt (.bool false) (Mv (.bool false) (Rt (Mw (.int .u8 c) (Rt (s_geq true rfl rfl (dtrue t0) rfl (Rt (Mw (.bool true) (Rt (Mw (.int .u8 c) (Rt (s_leq false rfl rfl (dfalse t0) rfl (Rt (s_pick_t (.bool false) rfl rfl rfl (Pf (.bool false) (Mv (.bool false) (Rt (Mw (.int .u8 c) (Rt (s_eql false rfl rfl (dfalse t0) rfl (Pf (.bool false) (Ag (.bool false) (r_nil (Gr [.bool false] Tryz.func108 Tryz.results108 (⟨congrArg Value.bool t17, H⟩)))))))))))))))))))))))))
 refine rc (s_geq false rfl rfl (dfalse hc1) rfl (Mv (.bool false) (Rp (Rp (Pf (.bool false) (Mv (.bool false) (Rt (Mw (.int .u8 c) (Rt ?_)))))))))
 by_cases hc3 : (65 : Int) ≤ c
 ·refine s_geq true rfl rfl (dtrue hc3) rfl (Rt (Mw (.bool true) (Rt (Mw (.int .u8 c) (Rt ?_)))))
  by_cases hc4 : c ≤ 90
  ·exact s_leq true rfl rfl (dtrue hc4) rfl (Rt (s_pick_t (.bool true) rfl rfl rfl (Pf (.bool true) (Mv (.bool true) (Rp (Rp (Pt (.bool true) (Ag (.bool true) (r_nil (Gr [.bool true] Tryz.func108 Tryz.results108 (⟨congrArg Value.bool t17, H⟩)))))))))))
  refine s_leq false rfl rfl (dfalse hc4) rfl (Rt (s_pick_t (.bool false) rfl rfl rfl (Pf (.bool false) (Mv (.bool false) (Rt (Mw (.int .u8 c) (Rt ?_)))))))
  by_cases hc5 : c = 95
  ·exact s_eql true rfl rfl (dtrue hc5) rfl (Pf (.bool true) (Ag (.bool true) (r_nil (Gr [.bool true] Tryz.func108 Tryz.results108 (⟨congrArg Value.bool t17, H⟩)))))
  exact s_eql false rfl rfl (dfalse hc5) rfl (Pf (.bool false) (Ag (.bool false) (r_nil (Gr [.bool false] Tryz.func108 Tryz.results108 (⟨congrArg Value.bool t17, H⟩)))))
 exact s_geq false rfl rfl (dfalse hc3) rfl (Rt (Mw (.bool false) (Rp (Rp (Rt (s_pick_f (.bool false) rfl rfl rfl (Pf (.bool false) (Mv (.bool false) (Rt (Mw (.int .u8 c) (Rt (s_eql false rfl rfl (dfalse t0) rfl (Pf (.bool false) (Ag (.bool false) (r_nil (Gr [.bool false] Tryz.func108 Tryz.results108 (⟨congrArg Value.bool t17, H⟩)))))))))))))))))
theorem ref03_Name (s : ByteArray) (hs : s.size ≤ 140737488355328) (H : St W w F) : Calls Tryz.prog 85 #[.string s] w (Ret fun v w' => v = .bool (nameB s) ∧ St W w' F) := by
 refine calls_of_go (n := 38) Tryz.func85 rfl Tryz.ntmps85 rfl ?_
 refine g_seq (g_region (Ag (.bool false) (r_nil (g_seq (g_seq (g_region (Mv (.string s) ?_)))))))
 by_cases hc1 : s = ByteArray.empty
 ·refine rc (s_seql true rfl rfl (dtrue hc1) rfl (Mv (.bool true) (Rp (Rp (Rp (Pt (.bool true) (r_nil (g_true rfl (g_seq (g_region (Ag (.bool false) (r_nil (Gr [.bool false] Tryz.func85 Tryz.results85 ?_)))))))))))))
  have H2 : St W w F := H
  exact ⟨congrArg Value.bool (show nameB s = false by first | exact nameB_empty ‹_› | exact nameB_long t0).symm, H2⟩
 refine rc (s_seql false rfl rfl (dfalse hc1) rfl (Mv (.bool false) (Rt (Mw (.string s) (Rt (s_len_str (s).size rfl st_9 rfl rfl (Rt ?_)))))))
 by_cases hc3 : (32 : Int) < (s.size : Int)
 ·refine s_gtr true rfl rfl (dtrue hc3) rfl (Pf (.bool true) (r_nil (g_true rfl (g_seq (g_region (Ag (.bool false) (r_nil (Gr [.bool false] Tryz.func85 Tryz.results85 ?_))))))))
  have H4 : St W w F := H
  exact ⟨congrArg Value.bool (show nameB s = false by first | exact nameB_empty ‹_› | exact nameB_long t0).symm, H4⟩
 refine s_gtr false rfl rfl (dfalse hc3) rfl (Pf (.bool false) (r_nil (g_false rfl (g_skip (g_seq (g_seq (g_region (Ag (.int .i64 0) (r_nil (g_block ?_))))))))))
 have H5 : St W w F := H
 refine g_loop_inv (fun (i : Nat) => [(0, .string s), (2, .bool false), (3, .int .i64 (i : Int))]) (fun i w => (i ≤ s.size) ∧ (∀ j, j < i → charB j (bAt s j) = true) ∧ St W w F) (fun i => s.size - i) (0) ?_ ?_ ?_
 ·exact t1
 ·exact ⟨t0, (fun j hj => by omega), H5⟩
 rintro i ρ6 w7 ⟨hi, hz, H8⟩ nx9
 change Ends _ _ (upds ρ6 [(0, .string s), (2, .bool false), (3, .int .i64 (i : Int))]) w7
 refine g_seq (g_seq (g_region (Mv (.int .i64 (i : Int)) (Mv (.string s) (rc (s_len_str (s).size rfl st_9 rfl rfl ?_))))))
 by_cases hc10 : (i : Int) < (s.size : Int)
 ·refine rc (s_lss true rfl rfl (dtrue hc10) rfl (r_nil (g_true rfl (g_skip (g_seq (g_block (g_seq ?_)))))))
  refine g_cut (fun _ : Unit => [(0, .string s), (2, .bool false), (3, .int .i64 (i : Int)), (11, .int .i64 (i : Int)), (12, .string s), (13, .int .i64 (s.size : Int)), (14, .bool true), (37, .bool (!charB i (bAt s i)))]) (fun _ w => St W w F) ?_ ?_
  ·rintro ⟨⟩ ρ14 w12 H13
   change Ends _ _ (upds ρ14 [(0, .string s), (2, .bool false), (3, .int .i64 (i : Int)), (11, .int .i64 (i : Int)), (12, .string s), (13, .int .i64 (s.size : Int)), (14, .bool true), (37, .bool (!charB i (bAt s i)))]) w12
   by_cases hb15 : (!charB i (bAt s i)) = true
   ·refine g_true (congrArg Value.bool hb15) (g_seq (g_region (Ag (.bool false) (r_nil (Gr [.bool false] Tryz.func85 Tryz.results85 ?_)))))
    have H16 : St W w12 F := H13
    exact ⟨congrArg Value.bool (nameB_no s i t0 (by simpa using hb15)).symm, H16⟩
   have hb15 := eq_false_of_ne_true hb15
   refine g_false (congrArg Value.bool hb15) (g_skip (g_inBlock (g_region (Mv (.int .i64 (i : Int)) (rc (s_add ((i : Int) + 1) rfl rfl (wi64 t0) rfl (Ag (.int .i64 ((i : Int) + 1)) (r_nil ?_))))))))
   have H17 : St W w12 F := H13
   exact nx9 (i + 1) _ _ ⟨t0, (fun j hj => (Nat.lt_or_ge j i).elim (hz j) (fun h => by rw [show j = i from by omega]; simpa using hb15)), H17⟩ t7 t1
  intro join11
  refine g_region (Mv (.string s) (Mv (.int .i64 (i : Int)) (rc (s_index_str s (i : Int) (bAt s i) rfl rfl st_9 t0 (str_at (n := i) t0 t0) rfl (rc (s_call [.int .u8 (bAt s i)] pl_108 rfl rfl (ref03_letter (bAt s i) H8) ?_))))))
  rintro _ w18 ⟨rfl, H19⟩
  refine rc (s_not (letterB (bAt s i)) rfl (!(letterB (bAt s i))) rfl rfl (Mv (.bool (!(letterB (bAt s i)))) ?_))
  by_cases hb20 : (!(letterB (bAt s i))) = true
  ·refine Rh hb20 (Mw (.int .i64 (i : Int)) (Rh hb20 ?_))
   by_cases hc21 : (i : Int) = 0
   ·exact s_eql true rfl rfl (dtrue hc21) rfl (Rh hb20 (Mw (.bool true) (Rp (Rp (Rp (Rp (Rh hb20 (s_pick_t (.bool true) rfl rfl rfl (Rh hb20 (Mw (.bool true) (Rp (Rp (Rp (Rp (Rh hb20 (s_pick_t (.bool true) rfl rfl rfl (rc (s_pick_t (.bool true) t45 rfl rfl (r_nil (join11 () _ _ H19 ⟨rfl, rfl, rfl, rfl, rfl, rfl, rfl, congrArg Value.bool t37, trivial⟩))))))))))))))))))))
   refine s_eql false rfl rfl (dfalse hc21) rfl (Rh hb20 (Mw (.bool false) (Rt (Mw (.string s) (Rt (Mw (.int .i64 (i : Int)) (Rt (s_index_str s (i : Int) (bAt s i) rfl rfl st_9 t0 (str_at (n := i) t0 t0) rfl (Rt ?_)))))))))
   by_cases hc22 : bAt s i < 48
   ·exact s_lss true rfl rfl (dtrue hc22) rfl (Rh hb20 (s_pick_f (.bool true) rfl rfl rfl (Rh hb20 (Mw (.bool true) (Rp (Rp (Rp (Rp (Rh hb20 (s_pick_t (.bool true) rfl rfl rfl (rc (s_pick_t (.bool true) t45 rfl rfl (r_nil (join11 () _ _ H19 ⟨rfl, rfl, rfl, rfl, rfl, rfl, rfl, congrArg Value.bool t37, trivial⟩))))))))))))))
   refine s_lss false rfl rfl (dfalse hc22) rfl (Rh hb20 (s_pick_f (.bool false) rfl rfl rfl (Rh hb20 (Mw (.bool false) (Rt (Mw (.string s) (Rt (Mw (.int .i64 (i : Int)) (Rt (s_index_str s (i : Int) (bAt s i) rfl rfl st_9 t0 (str_at (n := i) t0 t0) rfl (Rt ?_)))))))))))
   by_cases hc23 : (57 : Int) < bAt s i
   ·exact s_gtr true rfl rfl (dtrue hc23) rfl (Rh hb20 (s_pick_f (.bool true) rfl rfl rfl (rc (s_pick_t (.bool true) t45 rfl rfl (r_nil (join11 () _ _ H19 ⟨rfl, rfl, rfl, rfl, rfl, rfl, rfl, congrArg Value.bool t37, trivial⟩))))))
   exact s_gtr false rfl rfl (dfalse hc23) rfl (Rh hb20 (s_pick_f (.bool false) rfl rfl rfl (rc (s_pick_t (.bool false) t45 rfl rfl (r_nil (join11 () _ _ H19 ⟨rfl, rfl, rfl, rfl, rfl, rfl, rfl, congrArg Value.bool t37, trivial⟩))))))
  have hb20 := eq_false_of_ne_true hb20
  exact Rq hb20 (Rq hb20 (Rq hb20 (Rn (Rn (Rn (Rn (Rq hb20 (Rq hb20 (Rn (Rn (Rn (Rn (Rq hb20 (rc (s_pick_f (.bool false) t45 rfl rfl (r_nil (join11 () _ _ H19 ⟨rfl, rfl, rfl, rfl, rfl, rfl, rfl, congrArg Value.bool t37, trivial⟩)))))))))))))))))
 refine rc (s_lss false rfl rfl (dfalse hc10) rfl (r_nil (g_false rfl (g_exit t39 (g_seq (g_region (Ag (.bool true) (r_nil (Gr [.bool true] Tryz.func85 Tryz.results85 ?_)))))))))
 have H24 : St W w7 F := H8
 exact ⟨congrArg Value.bool (nameB_yes (fun j hj => hz j t0) ‹_› t0).symm, H24⟩
theorem ref03_CheckAttrs (ats : List AttrV) (av : Value) {j : Nat} (hj : F[j]? = some (Attrs av ats)) (H : St W w F) : Calls Tryz.prog 110 #[av] w (Ret fun v w' => v = .int .i64 (attrsE ats) ∧ St W w' F) := by
 obtain ⟨pA1, cA2, gA3, oA4, kA5, eA6, zA7, rfl, hn8, hp9, hx10, hs11, hml, H12⟩ := Im.open_ H hj
 refine calls_of_go (n := 46) Tryz.func110 rfl Tryz.ntmps110 rfl ?_
 refine g_seq (g_region (Ag (.int .i64 0) (r_nil (g_seq (g_seq (g_region (Mv (.slice pA1 ats.length cA2) (rc (s_len ats.length rfl ⟨_, un_117⟩ rfl ?_)))))))))
 by_cases hc13 : (8 : Int) < (ats.length : Int)
 ·refine rc (s_gtr true rfl rfl (dtrue hc13) rfl (r_nil (g_true rfl (g_seq (g_region (Ag (.int .i64 3) (r_nil (Gr [.int .i64 3] Tryz.func110 Tryz.results110 ?_))))))))
  have H14 : St W w F := (H12.drop 0 rfl)
  exact ⟨vint t6, H14⟩
 refine rc (s_gtr false rfl rfl (dfalse hc13) rfl (r_nil (g_false rfl (g_skip (g_seq (g_seq (g_region (Ag (.int .i64 0) (r_nil (g_block ?_))))))))))
 have H15 : St W w (_ :: F) := H12
 refine g_loop_inv (fun (i : Nat) => [(0, .slice pA1 ats.length cA2), (2, .int .i64 0), (3, .int .i64 (i : Int))]) (fun i w => (i ≤ ats.length) ∧ (∀ j, j < i → attrE ats j = 0) ∧ St W w (imi (0 < ats.length) gA3 (.cells kA5 eA6 zA7) :: F)) (fun i => ats.length - i) (0) ?_ ?_ ?_
 ·exact t1
 ·exact ⟨t0, (fun j hj => by omega), H15⟩
 rintro i ρ16 w17 ⟨hi, hz, H18⟩ nx19
 change Ends _ _ (upds ρ16 [(0, .slice pA1 ats.length cA2), (2, .int .i64 0), (3, .int .i64 (i : Int))]) w17
 refine g_seq (g_seq (g_region (Mv (.int .i64 (i : Int)) (Mv (.slice pA1 ats.length cA2) (rc (s_len ats.length rfl ⟨_, un_117⟩ rfl ?_))))))
 by_cases hc20 : (i : Int) < (ats.length : Int)
 ·refine rc (s_lss true rfl rfl (dtrue hc20) rfl (r_nil (g_true rfl (g_skip (g_seq (g_block (g_seq (g_seq (g_region (Mv (.slice pA1 ats.length cA2) (Mv (.int .i64 (i : Int)) (rc (s_indexAddr gA3 (off := oA4) (i : Int) 4 (oA4 + i * 4) t31 rfl el_117 t0 rfl rfl (Fa (oA4 + i * 4) fi_147_0 rfl (rc (s_load (.string ((ats.getD i default).name.v)) ag_9 rfl (H18.imi_at (i := 0) rfl t0) (elem_cell (L := ats) (i := i) attrCell_len (hx10 t0) t0 default 0 t9 _ rfl) rfl (rc (s_call [.string ((ats.getD i default).name.v)] pl_85 rfl rfl (ref03_Name ((ats.getD i default).name.v) (ats.getD i default).name.ok H18) ?_))))))))))))))))))
  rintro _ w21 ⟨rfl, H22⟩
  refine rc (s_not (nameB ((ats.getD i default).name.v)) rfl (!(nameB ((ats.getD i default).name.v))) rfl rfl (r_nil ?_))
  by_cases hb23 : (!(nameB ((ats.getD i default).name.v))) = true
  ·refine g_true (congrArg Value.bool hb23) (g_seq (g_region (Ag (.int .i64 31) (r_nil (Gr [.int .i64 31] Tryz.func110 Tryz.results110 ?_)))))
   have H24 : St W w21 F := (H22.drop 0 rfl)
   exact ⟨vint t6, H24⟩
  have hb23 := eq_false_of_ne_true hb23
  refine g_false (congrArg Value.bool hb23) (g_skip (g_seq (g_seq (g_region (Mv (.slice pA1 ats.length cA2) (Mv (.int .i64 (i : Int)) (rc (s_indexAddr gA3 (off := oA4) (i : Int) 4 (oA4 + i * 4) t31 rfl el_117 t0 rfl rfl (Fa (oA4 + i * 4 + 1) fi_147_1 rfl (rc (s_loadAgg [.int .i64 ((ats.getD i default).kind.v), .int .i64 ((ats.getD i default).n.v), .string ((ats.getD i default).s.v)] 3 ag_145 rfl (H22.imi_at (i := 0) rfl t0) (by have := elem_size (i := i) (s := 4) (hs11 t0) t0; omega) (elem_sub attrCell_len (hx10 t0) t0 default 1 3 t9) rfl (rc (s_call [.agg #[.int .i64 ((ats.getD i default).kind.v), .int .i64 ((ats.getD i default).n.v), .string ((ats.getD i default).s.v)]] pl_121 rfl rfl (ref03_Check ((ats.getD i default).kind.v) ((ats.getD i default).n.v) ((ats.getD i default).s.v) H22) ?_)))))))))))))
  rintro _ w25 ⟨rfl, H26⟩
  refine Ag (.int .i64 (valE ((ats.getD i default).kind.v) ((ats.getD i default).n.v) ((ats.getD i default).s.v))) (r_nil (g_seq (g_region (Mv (.int .i64 (valE ((ats.getD i default).kind.v) ((ats.getD i default).n.v) ((ats.getD i default).s.v))) ?_))))
  by_cases hc27 : valE ((ats.getD i default).kind.v) ((ats.getD i default).n.v) ((ats.getD i default).s.v) = 0
  ·refine rc (s_neq false rfl rfl (ntrue hc27) rfl (r_nil (g_false rfl (g_skip (g_seq ?_)))))
   refine g_quiet (fun w' => St W w' (imi (0 < ats.length) gA3 (.cells kA5 eA6 zA7) :: F)) mixed t5 H26.drew ?_
   refine Qm (.int .i64 (i : Int)) ?_
   by_cases hc28 : (0 : Int) < (i : Int)
   ·refine Qv (fun w hw => x_gtr true rfl rfl (dtrue hc28) w) (Qm (.bool true) (Qt (Qn (.slice pA1 ats.length cA2) (Qt (Qn (.int .i64 (i : Int)) (Qt (Qu (fun w hw => x_indexAddr gA3 (off := oA4) (i : Int) 4 (oA4 + i * 4) t31 rfl el_117 t0 rfl w) (Qt (Qu (fun w hw => x_fieldAddr 147 0 0 (oA4 + i * 4) 9 rfl fi_147_0 rfl w) (Qt (Qu (fun w hw => x_load (.string ((ats.getD i default).name.v)) ag_9 rfl (hw.imi_at (i := 0) rfl t0) (elem_cell (L := ats) (i := i) attrCell_len (hx10 t0) t0 default 0 t9 _ rfl)) (Qt (Qn (.slice pA1 ats.length cA2) (Qt (Qn (.int .i64 (i : Int)) (Qt (Qu (fun w hw => x_sub ((i : Int) - 1) rfl rfl (wi64 t0) w) (Qt (Qu (fun w hw => x_indexAddr gA3 (off := oA4) ((i : Int) - 1) 4 (oA4 + (i - 1) * 4) t31 rfl el_117 t0 (by rw [show ((i : Int) - 1 : Int).toNat = i - 1 from by omega]) w) (Qt (Qu (fun w hw => x_fieldAddr 147 0 0 (oA4 + (i - 1) * 4) 9 rfl fi_147_0 rfl w) (Qt (Qu (fun w hw => x_load (.string ((ats.getD (i - 1) default).name.v)) ag_9 rfl (hw.imi_at (i := 0) rfl t0) (elem_cell (L := ats) (i := i - 1) attrCell_len (hx10 t0) t0 default 0 t9 _ rfl)) (Qt (Qu (fun w hw => x_sleq ((sLt ((ats.getD i default).name.v) ((ats.getD (i - 1) default).name.v) || decide (((ats.getD i default).name.v) = ((ats.getD (i - 1) default).name.v)))) rfl rfl rfl w) (Qv (fun w hw => x_pick_t (.bool (sLt ((ats.getD i default).name.v) ((ats.getD (i - 1) default).name.v) || decide (((ats.getD i default).name.v) = ((ats.getD (i - 1) default).name.v)))) rfl rfl w) (q_nil ?_)))))))))))))))))))))))))))
    intro w29 H30
    by_cases hb31 : ((sLt ((ats.getD i default).name.v) ((ats.getD (i - 1) default).name.v) || decide (((ats.getD i default).name.v) = ((ats.getD (i - 1) default).name.v)))) = true
    ·refine g_true (congrArg Value.bool hb31) (g_seq (g_region (Ag (.int .i64 32) (r_nil (Gr [.int .i64 32] Tryz.func110 Tryz.results110 ?_)))))
     have H32 : St W w29 F := (H30.drop 0 rfl)
     exact ⟨vint t6, H32⟩
    have hb31 := eq_false_of_ne_true hb31
    refine g_false (congrArg Value.bool hb31) (g_skip (g_inBlock (g_region (Mv (.int .i64 (i : Int)) (rc (s_add ((i : Int) + 1) rfl rfl (wi64 t0) rfl (Ag (.int .i64 ((i : Int) + 1)) (r_nil ?_))))))))
    have H33 : St W w29 (_ :: F) := H30
    exact nx19 (i + 1) _ _ ⟨t0, (fun j hj => (Nat.lt_or_ge j i).elim (hz j) (fun h => by rw [show j = i from by omega]; exact attrE_0 (notfalse ‹_›) ‹_› (fun h0 => by first | (exfalso; omega) | assumption))), H33⟩ t7 t1
   refine Qv (fun w hw => x_gtr false rfl rfl (dfalse hc28) w) (Qm (.bool false) (Qp (Qp (Qp (Qp (Qp (Qp (Qp (Qp (Qp (Qp (Qp (Qp (Qv (fun w hw => x_pick_f (.bool false) rfl rfl w) (q_nil ?_)))))))))))))))
   intro w34 H35
   refine g_false rfl (g_skip (g_inBlock (g_region (Mv (.int .i64 (i : Int)) (rc (s_add ((i : Int) + 1) rfl rfl (wi64 t0) rfl (Ag (.int .i64 ((i : Int) + 1)) (r_nil ?_))))))))
   have H36 : St W w34 (_ :: F) := H35
   exact nx19 (i + 1) _ _ ⟨t0, (fun j hj => (Nat.lt_or_ge j i).elim (hz j) (fun h => by rw [show j = i from by omega]; exact attrE_0 (notfalse ‹_›) ‹_› (fun h0 => by first | (exfalso; omega) | assumption))), H36⟩ t7 t1
  refine rc (s_neq true rfl rfl (nfalse hc27) rfl (r_nil (g_true rfl (g_seq (g_region (Mv (.int .i64 (valE ((ats.getD i default).kind.v) ((ats.getD i default).n.v) ((ats.getD i default).s.v))) (Ag (.int .i64 (valE ((ats.getD i default).kind.v) ((ats.getD i default).n.v) ((ats.getD i default).s.v))) (r_nil (Gr [.int .i64 (valE ((ats.getD i default).kind.v) ((ats.getD i default).n.v) ((ats.getD i default).s.v))] Tryz.func110 Tryz.results110 ?_)))))))))
  have H37 : St W w25 F := (H26.drop 0 rfl)
  exact ⟨vint t6, H37⟩
 refine rc (s_lss false rfl rfl (dfalse hc20) rfl (r_nil (g_false rfl (g_exit t39 (g_seq (g_region (Ag (.int .i64 0) (r_nil (Gr [.int .i64 0] Tryz.func110 Tryz.results110 ?_)))))))))
 have H38 : St W w17 F := (H18.drop 0 rfl)
 exact ⟨vint t6, H38⟩
theorem ref03_SameAttrs (ats bts : List AttrV) (av bv : Value) {j k : Nat} (hj : F[j]? = some (Attrs av ats)) (hk : F[k]? = some (Attrs bv bts)) (H : St W w F) : Calls Tryz.prog 111 #[av, bv] w (Ret fun v w' => v = .bool (sameAs ats bts) ∧ St W w' F) := by
 obtain ⟨pA1, cA2, gA3, oA4, kA5, eA6, zA7, rfl, hn8, hp9, hx10, hs11, hml, H12⟩ := Im.open_ H hj
 obtain ⟨pA13, cA14, gA15, oA16, kA17, eA18, zA19, rfl, hn20, hp21, hx22, hs23, hml, H24⟩ := Im.open_ H12 (i := k + 1) (by exact hk)
 refine calls_of_go (n := 26) Tryz.func111 rfl Tryz.ntmps111 rfl ?_
 refine g_seq (g_region (Ag (.bool false) (r_nil (g_seq (g_seq (g_region (Mv (.slice pA1 ats.length cA2) (rc (s_len ats.length rfl ⟨_, un_117⟩ rfl (Mv (.slice pA13 bts.length cA14) (rc (s_len bts.length rfl ⟨_, un_117⟩ rfl ?_))))))))))))
 by_cases hc25 : (ats.length : Int) = (bts.length : Int)
 ·refine rc (s_neq false rfl rfl (ntrue hc25) rfl (r_nil (g_false rfl (g_skip (g_seq (g_seq (g_region (Ag (.int .i64 0) (r_nil (g_block ?_))))))))))
  have H26 : St W w (_ :: _ :: F) := (H24.mv [1, 1])
  refine g_loop_inv (fun (i : Nat) => [(0, .slice pA1 ats.length cA2), (1, .slice pA13 bts.length cA14), (4, .bool false), (5, .int .i64 (i : Int))]) (fun i w => (i ≤ ats.length) ∧ (∀ j, j < i → sameAt (ats.getD j default) (bts.getD j default) = true) ∧ St W w (imi (0 < bts.length) gA15 (.cells kA17 eA18 zA19) :: imi (0 < ats.length) gA3 (.cells kA5 eA6 zA7) :: F)) (fun i => ats.length - i) (0) ?_ ?_ ?_
  ·exact t1
  ·exact ⟨t0, (fun j hj => by omega), H26⟩
  rintro i ρ27 w28 ⟨hi, hz, H29⟩ nx30
  change Ends _ _ (upds ρ27 [(0, .slice pA1 ats.length cA2), (1, .slice pA13 bts.length cA14), (4, .bool false), (5, .int .i64 (i : Int))]) w28
  refine g_seq (g_seq (g_region (Mv (.int .i64 (i : Int)) (Mv (.slice pA1 ats.length cA2) (rc (s_len ats.length rfl ⟨_, un_117⟩ rfl ?_))))))
  by_cases hc31 : (i : Int) < (ats.length : Int)
  ·refine rc (s_lss true rfl rfl (dtrue hc31) rfl (r_nil (g_true rfl (g_skip (g_seq (g_block (g_seq ?_)))))))
   refine g_quiet (fun w' => St W w' (imi (0 < bts.length) gA15 (.cells kA17 eA18 zA19) :: imi (0 < ats.length) gA3 (.cells kA5 eA6 zA7) :: F)) mixed t5 H29.drew ?_
   refine Qm (.slice pA1 ats.length cA2) (Qm (.int .i64 (i : Int)) (Qv (fun w hw => x_indexAddr gA3 (off := oA4) (i : Int) 4 (oA4 + i * 4) t31 rfl el_117 t0 rfl w) (Qv (fun w hw => x_loadAgg [.string ((ats.getD i default).name.v), .int .i64 ((ats.getD i default).kind.v), .int .i64 ((ats.getD i default).n.v), .string ((ats.getD i default).s.v)] 4 ag_147 rfl (hw.imi_at (i := 1) rfl t0) (by have := elem_size (i := i) (s := 4) (hs11 t0) t0; omega) (elem_take attrCell_len (hx10 t0) t0 default)) (Qm (.slice pA13 bts.length cA14) (Qm (.int .i64 (i : Int)) (Qv (fun w hw => x_indexAddr gA15 (off := oA16) (i : Int) 4 (oA16 + i * 4) (by exact congrArg (fun z_ => Value.slice z_ bts.length cA14) (hp21 t0)) rfl el_117 t0 rfl w) (Qv (fun w hw => x_loadAgg [.string ((bts.getD i default).name.v), .int .i64 ((bts.getD i default).kind.v), .int .i64 ((bts.getD i default).n.v), .string ((bts.getD i default).s.v)] 4 ag_147 rfl (hw.imi_at (i := 0) rfl t0) (by have := elem_size (i := i) (s := 4) (hs23 t0) t0; omega) (elem_take attrCell_len (hx22 t0) t0 default)) (Qv (fun w hw => x_aneq (!(sameAt (ats.getD i default) (bts.getD i default))) gd_147 ev_147 rfl rfl rfl w) (q_nil ?_)))))))))
   intro w32 H33
   by_cases hb34 : (!(sameAt (ats.getD i default) (bts.getD i default))) = true
   ·refine g_true (congrArg Value.bool hb34) (g_seq (g_region (Ag (.bool false) (r_nil (Gr [.bool false] Tryz.func111 Tryz.results111 ?_)))))
    have H35 : St W w32 F := (H33.mv [100, 100])
    exact ⟨congrArg Value.bool (sameAs_at i (by simpa using hb34)).symm, H35⟩
   have hb34 := eq_false_of_ne_true hb34
   refine g_false (congrArg Value.bool hb34) (g_skip (g_inBlock (g_region (Mv (.int .i64 (i : Int)) (rc (s_add ((i : Int) + 1) rfl rfl (wi64 t0) rfl (Ag (.int .i64 ((i : Int) + 1)) (r_nil ?_))))))))
   have H36 : St W w32 (_ :: _ :: F) := (H33.mv [1, 1])
   exact nx30 (i + 1) _ _ ⟨t0, (fun j hj => (Nat.lt_or_ge j i).elim (hz j) (fun h => by rw [show j = i from by omega]; simpa using hb34)), H36⟩ t7 t1
  refine rc (s_lss false rfl rfl (dfalse hc31) rfl (r_nil (g_false rfl (g_exit t39 (g_seq (g_region (Ag (.bool true) (r_nil (Gr [.bool true] Tryz.func111 Tryz.results111 ?_)))))))))
  have H37 : St W w28 F := (H29.mv [100, 100])
  exact ⟨congrArg Value.bool (sameAs_all t0 (fun j hj => hz j t0)).symm, H37⟩
 refine rc (s_neq true rfl rfl (nfalse hc25) rfl (r_nil (g_true rfl (g_seq (g_region (Ag (.bool false) (r_nil (Gr [.bool false] Tryz.func111 Tryz.results111 ?_))))))))
 have H38 : St W w F := (H24.mv [100, 100])
 exact ⟨congrArg Value.bool (sameAs_len t0).symm, H38⟩
theorem event_time (n : Int) (H : St W w F) : Calls Tryz.prog 106 #[.int .i64 n] w (Ret fun v w' => v = .bool (timeB n) ∧ St W w' F) := by
 refine calls_of_go (n := 9) Tryz.func106 rfl Tryz.ntmps106 rfl ?_
 refine g_seq (g_region (Ag (.bool false) (r_nil (g_seq (g_region (Mv (.int .i64 n) ?_))))))
 by_cases hc1 : (0 : Int) ≤ n
 ·refine rc (s_geq true rfl rfl (dtrue hc1) rfl (Mv (.bool true) (Rt (Mw (.int .i64 n) (Rt ?_)))))
  by_cases hc2 : n ≤ 1099511627776
  ·exact s_leq true rfl rfl (dtrue hc2) rfl (Pt (.bool true) (Ag (.bool true) (r_nil (Gr [.bool true] Tryz.func106 Tryz.results106 (⟨congrArg Value.bool t19, H⟩)))))
  exact s_leq false rfl rfl (dfalse hc2) rfl (Pt (.bool false) (Ag (.bool false) (r_nil (Gr [.bool false] Tryz.func106 Tryz.results106 (⟨congrArg Value.bool t19, H⟩)))))
 exact rc (s_geq false rfl rfl (dfalse hc1) rfl (Mv (.bool false) (Rp (Rp (Pf (.bool false) (Ag (.bool false) (r_nil (Gr [.bool false] Tryz.func106 Tryz.results106 (⟨congrArg Value.bool t19, H⟩)))))))))
theorem ref04_time (n : Int) (H : St W w F) : Calls Tryz.prog 109 #[.int .i64 n] w (Ret fun v w' => v = .bool (timeB n) ∧ St W w' F) := by
 refine calls_of_go (n := 9) Tryz.func109 rfl Tryz.ntmps109 rfl ?_
 refine g_seq (g_region (Ag (.bool false) (r_nil (g_seq (g_region (Mv (.int .i64 n) ?_))))))
 by_cases hc1 : (0 : Int) ≤ n
 ·refine rc (s_geq true rfl rfl (dtrue hc1) rfl (Mv (.bool true) (Rt (Mw (.int .i64 n) (Rt ?_)))))
  by_cases hc2 : n ≤ 1099511627776
  ·exact s_leq true rfl rfl (dtrue hc2) rfl (Pt (.bool true) (Ag (.bool true) (r_nil (Gr [.bool true] Tryz.func109 Tryz.results109 (⟨congrArg Value.bool t19, H⟩)))))
  exact s_leq false rfl rfl (dfalse hc2) rfl (Pt (.bool false) (Ag (.bool false) (r_nil (Gr [.bool false] Tryz.func109 Tryz.results109 (⟨congrArg Value.bool t19, H⟩)))))
 exact rc (s_geq false rfl rfl (dfalse hc1) rfl (Mv (.bool false) (Rp (Rp (Pf (.bool false) (Ag (.bool false) (r_nil (Gr [.bool false] Tryz.func109 Tryz.results109 (⟨congrArg Value.bool t19, H⟩)))))))))
theorem event_Check (e : EvM) (av : Value) {j : Nat} (hj : F[j]? = some (Attrs av e.attrs)) (H : St W w F) : Calls Tryz.prog 84 #[.agg #[.int .i64 e.src.v, .int .i64 e.seq.v, .int .i64 e.time.v, .string e.typ.v, av]] w (Ret fun v w' => v = .int .i64 (evE e) ∧ St W w' F) := by
 replace H := H.dup hj (Attrs_pers _ _)
 refine calls_of_go (n := 35) Tryz.func84 rfl Tryz.ntmps84 rfl ?_
 refine g_seq (g_region (Bx H 119 #[.int .i64 e.src.v, .int .i64 e.seq.v, .int .i64 e.time.v, .string e.typ.v, av] (fun bk1 w2 H3 => Ag (.int .i64 0) (r_nil (g_seq (g_seq (g_region (Fa 0 fi_119_0 rfl (Fa 0 fi_116_0 rfl (Lo (.int .i64 e.src.v) ag_3 H3 0 ?_))))))))))
 by_cases hc4 : e.src.v < 0
 ·refine rc (s_lss true rfl rfl (dtrue hc4) rfl (Mv (.bool true) (Rp (Rp (Rp (Rp (Pt (.bool true) (Mv (.bool true) (Rp (Rp (Rp (Rp (Rp (Pt (.bool true) (Mv (.bool true) (Rp (Rp (Rp (Rp (Pt (.bool true) (Mv (.bool true) (Rp (Rp (Rp (Rp (Pt (.bool true) (r_nil (g_true rfl (g_seq (g_region (Ag (.int .i64 40) (r_nil (Gr [.int .i64 40] Tryz.func84 Tryz.results84 ?_)))))))))))))))))))))))))))))))))
  have H5 : St W w2 F := (H3.mv [100, 100])
  exact ⟨vint t48, H5⟩
 refine rc (s_lss false rfl rfl (dfalse hc4) rfl (Mv (.bool false) (Rt (s_fieldAddr 119 0 0 0 116 rfl fi_119_0 rfl rfl (Rt (s_fieldAddr 116 0 0 0 3 rfl fi_116_0 rfl rfl (Rt (s_load (.int .i64 e.src.v) ag_3 rfl (H3.blk_at (i := 0) rfl) rfl rfl (Rt ?_)))))))))
 by_cases hc6 : (16 : Int) ≤ e.src.v
 ·refine s_geq true rfl rfl (dtrue hc6) rfl (Pf (.bool true) (Mv (.bool true) (Rp (Rp (Rp (Rp (Rp (Pt (.bool true) (Mv (.bool true) (Rp (Rp (Rp (Rp (Pt (.bool true) (Mv (.bool true) (Rp (Rp (Rp (Rp (Pt (.bool true) (r_nil (g_true rfl (g_seq (g_region (Ag (.int .i64 40) (r_nil (Gr [.int .i64 40] Tryz.func84 Tryz.results84 ?_)))))))))))))))))))))))))))
  have H7 : St W w2 F := (H3.mv [100, 100])
  exact ⟨vint t48, H7⟩
 refine s_geq false rfl rfl (dfalse hc6) rfl (Pf (.bool false) (Mv (.bool false) (Rt (s_fieldAddr 119 0 0 0 116 rfl fi_119_0 rfl rfl (Rt (s_fieldAddr 116 1 1 1 2 rfl fi_116_1 rfl rfl (Rt (s_load (.int .i64 e.seq.v) ag_2 rfl (H3.blk_at (i := 0) rfl) rfl rfl (Rt (s_call [.int .i64 e.seq.v] pl_106 rfl rfl (event_time e.seq.v H3) ?_))))))))))
 rintro _ w8 ⟨rfl, H9⟩
 refine Rt (s_not (timeB e.seq.v) rfl (!(timeB e.seq.v)) rfl rfl (Pf (.bool (!(timeB e.seq.v))) (Mv (.bool (!(timeB e.seq.v))) ?_)))
 by_cases hb10 : (!(timeB e.seq.v)) = true
 ·refine Rq hb10 (Rq hb10 (Rq hb10 (Rq hb10 (rc (s_pick_t (.bool true) (by exact congrArg Value.bool hb10) rfl rfl (Mv (.bool true) (Rp (Rp (Rp (Rp (Pt (.bool true) (r_nil (g_true rfl (g_seq (g_region (Ag (.int .i64 40) (r_nil (Gr [.int .i64 40] Tryz.func84 Tryz.results84 ?_))))))))))))))))))
  have H11 : St W w8 F := (H9.mv [100, 100])
  exact ⟨vint (by first | exact (evE_40 t10).symm | exact (evE_in t0 t0 (notfalse hb10)).symm), H11⟩
 have hb10 := eq_false_of_ne_true hb10
 refine Rh hb10 (s_fieldAddr 119 1 2 2 2 rfl fi_119_1 rfl rfl (Rh hb10 (s_load (.int .i64 e.time.v) ag_2 rfl (H9.blk_at (i := 0) rfl) rfl rfl (Rh hb10 (s_call [.int .i64 e.time.v] pl_106 rfl rfl (event_time e.time.v H9) ?_)))))
 rintro _ w12 ⟨rfl, H13⟩
 refine Rh hb10 (s_not (timeB e.time.v) rfl (!(timeB e.time.v)) rfl rfl (rc (s_pick_f (.bool (!(timeB e.time.v))) (by exact congrArg Value.bool hb10) rfl rfl (Mv (.bool (!(timeB e.time.v))) ?_))))
 by_cases hb14 : (!(timeB e.time.v)) = true
 ·refine Rq hb14 (Rq hb14 (Rq hb14 (Rq hb14 (rc (s_pick_t (.bool true) (by exact congrArg Value.bool hb14) rfl rfl (r_nil (g_true rfl (g_seq (g_region (Ag (.int .i64 40) (r_nil (Gr [.int .i64 40] Tryz.func84 Tryz.results84 ?_))))))))))))
  have H15 : St W w12 F := (H13.mv [100, 100])
  exact ⟨vint (by first | exact (evE_40 t10).symm | exact (evE_in t0 t0 (notfalse hb10) (notfalse hb14)).symm), H15⟩
 have hb14 := eq_false_of_ne_true hb14
 refine Rh hb14 (s_fieldAddr 119 2 3 3 9 rfl fi_119_2 rfl rfl (Rh hb14 (s_load (.string e.typ.v) ag_9 rfl (H13.blk_at (i := 0) rfl) rfl rfl (Rh hb14 (s_call [.string e.typ.v] pl_83 rfl rfl (value_Name e.typ.v e.typ.ok H13) ?_)))))
 rintro _ w16 ⟨rfl, H17⟩
 refine Rh hb14 (s_not (nameB e.typ.v) rfl (!(nameB e.typ.v)) rfl rfl (rc (s_pick_f (.bool (!(nameB e.typ.v))) (by exact congrArg Value.bool hb14) rfl rfl (r_nil ?_))))
 by_cases hb18 : (!(nameB e.typ.v)) = true
 ·refine g_true (congrArg Value.bool hb18) (g_seq (g_region (Ag (.int .i64 40) (r_nil (Gr [.int .i64 40] Tryz.func84 Tryz.results84 ?_)))))
  have H19 : St W w16 F := (H17.mv [100, 100])
  exact ⟨vint t35, H19⟩
 have hb18 := eq_false_of_ne_true hb18
 refine g_false (congrArg Value.bool hb18) (g_skip (g_seq (g_region (Fa 4 fi_119_3 rfl (Lo (av) ag_117 H17 0 (rc (s_call [av] pl_107 rfl rfl (value_CheckAttrs e.attrs av (j := 1) rfl H17) ?_)))))))
 rintro _ w20 ⟨rfl, H21⟩
 refine Ag (.int .i64 (attrsE e.attrs)) (r_nil (Gr [.int .i64 (attrsE e.attrs)] Tryz.func84 Tryz.results84 ?_))
 have H22 : St W w20 F := (H21.mv [100, 100])
 exact ⟨vint t35, H22⟩
theorem clone_attrs (ats : List AttrV) (av : Value) (hb : ats.length * 48 ≤ 140737488355328) {j : Nat} (hj : F[j]? = some (Attrs av ats)) (H : St W w F) : Calls Tryz.prog 123 #[av] w (Ret fun v w' => ∃ p c, v = .slice p ats.length c ∧ St W w' (Attrs (.slice p ats.length c) ats :: F)) := by
 obtain ⟨pA1, cA2, gA3, oA4, kA5, eA6, zA7, rfl, hn8, hp9, hx10, hs11, hml, H12⟩ := Im.open_ H hj
 have H13 := H.dup hj (Attrs_pers _ _)
 refine calls_of_go (n := 8) Tryz.func123 rfl Tryz.ntmps123 rfl ?_
 refine g_seq (g_region (Ag (.slice none 0 0) (r_nil (g_seq (g_seq (g_region (Mv (.slice pA1 ats.length cA2) ?_)))))))
 by_cases hc14 : pA1 = none
 ·refine rc (s_sleql true un_117 rfl rfl (isNone_t hc14) rfl (r_nil (g_true rfl (g_seq (g_region (Ag (.slice none 0 0) (r_nil (Gr [.slice none 0 0] Tryz.func123 Tryz.results123 ?_))))))))
  have H15 : St W w F := (H13.drop 0 rfl)
  have H16 := Row.im (Row.nil_intro H15 147 4) (i := 0) rfl
  obtain rfl : ats = [] := List.eq_nil_of_length_eq_zero (by have := hn8 ‹_›; omega)
  exact ⟨none, 0, rfl, H16⟩
 refine rc (s_sleql false un_117 rfl rfl (isNone_f hc14) rfl (r_nil (g_false rfl (g_skip (g_seq (g_region (rc (s_buildSlice0 H13 4 el_117 rfl ?_)))))))); intro bk17 w18 H19
 have H20 := Row.of_blk (n := 0) (size := 4) H19 (i := 0) rfl t12 t13 t13
 refine Mv (.slice pA1 ats.length cA2) (rc (s_append H20 0 rfl rfl rfl (Im.rd H20 (i := 1) rfl) ap_117 t9 t12 t0 (n' := ats.length) (xs' := ats.flatMap attrCell) t0 t16 rfl ?_)); intro vv21 w22 H23 hn24
 obtain ⟨pp25, cc26, rfl⟩ := Row.slice H23 (i := 0) rfl
 refine Ag (.slice pp25 ats.length cc26) (r_nil (Gr [.slice pp25 ats.length cc26] Tryz.func123 Tryz.results123 ?_))
 have H27 : St W w22 (_ :: F) := (H23.drop 1 rfl)
 have H28 := Row.im H27 (i := 0) rfl
 exact ⟨_, _, rfl, H28⟩
theorem event_Clone (e : EvM) (av : Value) (hb : e.attrs.length * 48 ≤ 140737488355328) {j : Nat} (hj : F[j]? = some (Attrs av e.attrs)) (H : St W w F) : Calls Tryz.prog 113 #[.agg #[.int .i64 e.src.v, .int .i64 e.seq.v, .int .i64 e.time.v, .string e.typ.v, av]] w (Ret fun v w' => ∃ p c, v = .agg (evc e p c) ∧ St W w' (Attrs (.slice p e.attrs.length c) e.attrs :: F)) := by
 replace H := H.dup hj (Attrs_pers _ _)
 refine calls_of_go (n := 8) Tryz.func113 rfl Tryz.ntmps113 rfl ?_
 refine g_seq (g_region (Bx H 119 #[.int .i64 e.src.v, .int .i64 e.seq.v, .int .i64 e.time.v, .string e.typ.v, av] (fun bk1 w2 H3 => rc (s_alloc H3 119 ze_119 rfl (fun bk4 w5 H6 => r_nil (g_seq (g_region (Fa 4 fi_119_3 rfl (Lo (av) ag_117 H6 1 (rc (s_call [av] pl_123 rfl rfl (clone_attrs e.attrs av t0 (j := 2) rfl H6) ?_)))))))))))
 rintro _ w9 ⟨pp7, cc8, rfl, H10⟩
 refine Fa 4 fi_119_3 rfl (rc (s_store H10 2 (.slice pp7 e.attrs.length cc8) rfl rfl rfl sz_117 rfl (nbl rfl) rfl (cs' := (evc e pp7 cc8)) rfl (fun w11 H12 => r_nil (g_seq (g_region (La (evl e pp7 cc8) 5 ag_119 H12 2 (Sa H12 1 rfl (evc e pp7 cc8) 5 sz_119 (evc e pp7 cc8) (fun w13 H14 => r_nil ?_))))))))
 refine g_ret' [.agg (evc e pp7 cc8)] Tryz.func113 Tryz.results113 ⟨(res_cellN rfl ag_119 (H14.blk_at (i := 1) rfl) (nbl rfl) rfl), trivial⟩ ?_
 have H15 : St W w13 (_ :: F) := (H14.mv [101, 101, 101])
 exact ⟨_, _, rfl, H15⟩
theorem ref04_Check (e : EvM) (av : Value) {j : Nat} (hj : F[j]? = some (Attrs av e.attrs)) (H : St W w F) : Calls Tryz.prog 86 #[.agg #[.int .i64 e.src.v, .int .i64 e.seq.v, .int .i64 e.time.v, .string e.typ.v, av]] w (Ret fun v w' => v = .int .i64 (evE e) ∧ St W w' F) := by
 replace H := H.dup hj (Attrs_pers _ _)
 refine calls_of_go (n := 35) Tryz.func86 rfl Tryz.ntmps86 rfl ?_
 refine g_seq (g_region (Bx H 119 #[.int .i64 e.src.v, .int .i64 e.seq.v, .int .i64 e.time.v, .string e.typ.v, av] (fun bk1 w2 H3 => Ag (.int .i64 0) (r_nil (g_seq (g_seq (g_region (Fa 0 fi_119_0 rfl (Fa 0 fi_116_0 rfl (Lo (.int .i64 e.src.v) ag_3 H3 0 ?_))))))))))
 by_cases hc4 : e.src.v < 0
 ·refine rc (s_lss true rfl rfl (dtrue hc4) rfl (Mv (.bool true) (Rp (Rp (Rp (Rp (Pt (.bool true) (Mv (.bool true) (Rp (Rp (Rp (Rp (Rp (Pt (.bool true) (Mv (.bool true) (Rp (Rp (Rp (Rp (Pt (.bool true) (Mv (.bool true) (Rp (Rp (Rp (Rp (Pt (.bool true) (r_nil (g_true rfl (g_seq (g_region (Ag (.int .i64 40) (r_nil (Gr [.int .i64 40] Tryz.func86 Tryz.results86 ?_)))))))))))))))))))))))))))))))))
  have H5 : St W w2 F := (H3.mv [100, 100])
  exact ⟨vint t48, H5⟩
 refine rc (s_lss false rfl rfl (dfalse hc4) rfl (Mv (.bool false) (Rt (s_fieldAddr 119 0 0 0 116 rfl fi_119_0 rfl rfl (Rt (s_fieldAddr 116 0 0 0 3 rfl fi_116_0 rfl rfl (Rt (s_load (.int .i64 e.src.v) ag_3 rfl (H3.blk_at (i := 0) rfl) rfl rfl (Rt ?_)))))))))
 by_cases hc6 : (16 : Int) ≤ e.src.v
 ·refine s_geq true rfl rfl (dtrue hc6) rfl (Pf (.bool true) (Mv (.bool true) (Rp (Rp (Rp (Rp (Rp (Pt (.bool true) (Mv (.bool true) (Rp (Rp (Rp (Rp (Pt (.bool true) (Mv (.bool true) (Rp (Rp (Rp (Rp (Pt (.bool true) (r_nil (g_true rfl (g_seq (g_region (Ag (.int .i64 40) (r_nil (Gr [.int .i64 40] Tryz.func86 Tryz.results86 ?_)))))))))))))))))))))))))))
  have H7 : St W w2 F := (H3.mv [100, 100])
  exact ⟨vint t48, H7⟩
 refine s_geq false rfl rfl (dfalse hc6) rfl (Pf (.bool false) (Mv (.bool false) (Rt (s_fieldAddr 119 0 0 0 116 rfl fi_119_0 rfl rfl (Rt (s_fieldAddr 116 1 1 1 2 rfl fi_116_1 rfl rfl (Rt (s_load (.int .i64 e.seq.v) ag_2 rfl (H3.blk_at (i := 0) rfl) rfl rfl (Rt (s_call [.int .i64 e.seq.v] pl_109 rfl rfl (ref04_time e.seq.v H3) ?_))))))))))
 rintro _ w8 ⟨rfl, H9⟩
 refine Rt (s_not (timeB e.seq.v) rfl (!(timeB e.seq.v)) rfl rfl (Pf (.bool (!(timeB e.seq.v))) (Mv (.bool (!(timeB e.seq.v))) ?_)))
 by_cases hb10 : (!(timeB e.seq.v)) = true
 ·refine Rq hb10 (Rq hb10 (Rq hb10 (Rq hb10 (rc (s_pick_t (.bool true) (by exact congrArg Value.bool hb10) rfl rfl (Mv (.bool true) (Rp (Rp (Rp (Rp (Pt (.bool true) (r_nil (g_true rfl (g_seq (g_region (Ag (.int .i64 40) (r_nil (Gr [.int .i64 40] Tryz.func86 Tryz.results86 ?_))))))))))))))))))
  have H11 : St W w8 F := (H9.mv [100, 100])
  exact ⟨vint (by first | exact (evE_40 t10).symm | exact (evE_in t0 t0 (notfalse hb10)).symm), H11⟩
 have hb10 := eq_false_of_ne_true hb10
 refine Rh hb10 (s_fieldAddr 119 1 2 2 2 rfl fi_119_1 rfl rfl (Rh hb10 (s_load (.int .i64 e.time.v) ag_2 rfl (H9.blk_at (i := 0) rfl) rfl rfl (Rh hb10 (s_call [.int .i64 e.time.v] pl_109 rfl rfl (ref04_time e.time.v H9) ?_)))))
 rintro _ w12 ⟨rfl, H13⟩
 refine Rh hb10 (s_not (timeB e.time.v) rfl (!(timeB e.time.v)) rfl rfl (rc (s_pick_f (.bool (!(timeB e.time.v))) (by exact congrArg Value.bool hb10) rfl rfl (Mv (.bool (!(timeB e.time.v))) ?_))))
 by_cases hb14 : (!(timeB e.time.v)) = true
 ·refine Rq hb14 (Rq hb14 (Rq hb14 (Rq hb14 (rc (s_pick_t (.bool true) (by exact congrArg Value.bool hb14) rfl rfl (r_nil (g_true rfl (g_seq (g_region (Ag (.int .i64 40) (r_nil (Gr [.int .i64 40] Tryz.func86 Tryz.results86 ?_))))))))))))
  have H15 : St W w12 F := (H13.mv [100, 100])
  exact ⟨vint (by first | exact (evE_40 t10).symm | exact (evE_in t0 t0 (notfalse hb10) (notfalse hb14)).symm), H15⟩
 have hb14 := eq_false_of_ne_true hb14
 refine Rh hb14 (s_fieldAddr 119 2 3 3 9 rfl fi_119_2 rfl rfl (Rh hb14 (s_load (.string e.typ.v) ag_9 rfl (H13.blk_at (i := 0) rfl) rfl rfl (Rh hb14 (s_call [.string e.typ.v] pl_85 rfl rfl (ref03_Name e.typ.v e.typ.ok H13) ?_)))))
 rintro _ w16 ⟨rfl, H17⟩
 refine Rh hb14 (s_not (nameB e.typ.v) rfl (!(nameB e.typ.v)) rfl rfl (rc (s_pick_f (.bool (!(nameB e.typ.v))) (by exact congrArg Value.bool hb14) rfl rfl (r_nil ?_))))
 by_cases hb18 : (!(nameB e.typ.v)) = true
 ·refine g_true (congrArg Value.bool hb18) (g_seq (g_region (Ag (.int .i64 40) (r_nil (Gr [.int .i64 40] Tryz.func86 Tryz.results86 ?_)))))
  have H19 : St W w16 F := (H17.mv [100, 100])
  exact ⟨vint t35, H19⟩
 have hb18 := eq_false_of_ne_true hb18
 refine g_false (congrArg Value.bool hb18) (g_skip (g_seq (g_region (Fa 4 fi_119_3 rfl (Lo (av) ag_117 H17 0 (rc (s_call [av] pl_110 rfl rfl (ref03_CheckAttrs e.attrs av (j := 1) rfl H17) ?_)))))))
 rintro _ w20 ⟨rfl, H21⟩
 refine Ag (.int .i64 (attrsE e.attrs)) (r_nil (Gr [.int .i64 (attrsE e.attrs)] Tryz.func86 Tryz.results86 ?_))
 have H22 : St W w20 F := (H21.mv [100, 100])
 exact ⟨vint t35, H22⟩
theorem ref04_Same (a b : EvM) (av bv : Value) {j k : Nat} (hj : F[j]? = some (Attrs av a.attrs)) (hk : F[k]? = some (Attrs bv b.attrs)) (H : St W w F) : Calls Tryz.prog 87 #[.agg #[.int .i64 a.src.v, .int .i64 a.seq.v, .int .i64 a.time.v, .string a.typ.v, av], .agg #[.int .i64 b.src.v, .int .i64 b.seq.v, .int .i64 b.time.v, .string b.typ.v, bv]] w (Ret fun v w' => v = .bool (sameEv a b) ∧ St W w' F) := by
 have H0 := (H.dup hj (Attrs_pers _ _)).dup (i := k + 1) (by exact hk) (Attrs_pers _ _)
 refine calls_of_go (n := 31) Tryz.func87 rfl Tryz.ntmps87 rfl ?_
 refine g_seq (g_region (Bx H0 119 #[.int .i64 a.src.v, .int .i64 a.seq.v, .int .i64 a.time.v, .string a.typ.v, av] (fun bk1 w2 H3 => Bx H3 119 #[.int .i64 b.src.v, .int .i64 b.seq.v, .int .i64 b.time.v, .string b.typ.v, bv] (fun bk4 w5 H6 => Ag (.bool false) (r_nil (g_seq (g_region (Fa 0 fi_119_0 rfl (La [.int .i64 a.src.v, .int .i64 a.seq.v] 2 ag_116 H6 1 (Fa 0 fi_119_0 rfl (La [.int .i64 b.src.v, .int .i64 b.seq.v] 2 ag_116 H6 0 (rc (s_aeql ((decide (a.src.v = b.src.v) && (decide (a.seq.v = b.seq.v) && true))) gd_116 ev_116 rfl rfl rfl rfl (Mv (.bool (decide (a.src.v = b.src.v) && (decide (a.seq.v = b.seq.v) && true))) ?_))))))))))))))
 by_cases hb7 : ((decide (a.src.v = b.src.v) && (decide (a.seq.v = b.seq.v) && true))) = true
 ·refine Rh hb7 (s_fieldAddr 119 1 2 2 2 rfl fi_119_1 rfl rfl (Rh hb7 (s_load (.int .i64 a.time.v) ag_2 rfl (H6.blk_at (i := 1) rfl) rfl rfl (Rh hb7 (s_fieldAddr 119 1 2 2 2 rfl fi_119_1 rfl rfl (Rh hb7 (s_load (.int .i64 b.time.v) ag_2 rfl (H6.blk_at (i := 0) rfl) rfl rfl (Rh hb7 ?_))))))))
  by_cases hc8 : a.time.v = b.time.v
  ·refine s_eql true rfl rfl (dtrue hc8) rfl (rc (s_pick_t (.bool true) (by exact congrArg Value.bool hb7) rfl rfl (Mv (.bool true) (Rt (s_fieldAddr 119 2 3 3 9 rfl fi_119_2 rfl rfl (Rt (s_load (.string a.typ.v) ag_9 rfl (H6.blk_at (i := 1) rfl) rfl rfl (Rt (s_fieldAddr 119 2 3 3 9 rfl fi_119_2 rfl rfl (Rt (s_load (.string b.typ.v) ag_9 rfl (H6.blk_at (i := 0) rfl) rfl rfl (Rt ?_))))))))))))
   by_cases hc9 : a.typ.v = b.typ.v
   ·refine s_seql true rfl rfl (dtrue hc9) rfl (Pt (.bool true) (Mv (.bool true) (Rt (s_fieldAddr 119 3 4 4 117 rfl fi_119_3 rfl rfl (Rt (s_load (av) ag_117 rfl (H6.blk_at (i := 1) rfl) rfl rfl (Rt (s_fieldAddr 119 3 4 4 117 rfl fi_119_3 rfl rfl (Rt (s_load (bv) ag_117 rfl (H6.blk_at (i := 0) rfl) rfl rfl (Rt (s_call [av, bv] pl_111 rfl rfl (ref03_SameAttrs a.attrs b.attrs av bv (j := 3) (k := 2) rfl rfl H6) ?_))))))))))))
    rintro _ w10 ⟨rfl, H11⟩
    refine Pt (.bool (sameAs a.attrs b.attrs)) (Ag (.bool (sameAs a.attrs b.attrs)) (r_nil (Gr [.bool (sameAs a.attrs b.attrs)] Tryz.func87 Tryz.results87 ?_)))
    have H12 : St W w10 F := (H11.mv [100, 100, 100, 100])
    exact ⟨congrArg Value.bool t26, H12⟩
   refine s_seql false rfl rfl (dfalse hc9) rfl (Pt (.bool false) (Mv (.bool false) (Rp (Rp (Rp (Rp (Rp (Pf (.bool false) (Ag (.bool false) (r_nil (Gr [.bool false] Tryz.func87 Tryz.results87 ?_)))))))))))
   have H13 : St W w5 F := (H6.mv [100, 100, 100, 100])
   exact ⟨congrArg Value.bool t26, H13⟩
  refine s_eql false rfl rfl (dfalse hc8) rfl (rc (s_pick_t (.bool false) (by exact congrArg Value.bool hb7) rfl rfl (Mv (.bool false) (Rp (Rp (Rp (Rp (Rp (Pf (.bool false) (Mv (.bool false) (Rp (Rp (Rp (Rp (Rp (Pf (.bool false) (Ag (.bool false) (r_nil (Gr [.bool false] Tryz.func87 Tryz.results87 ?_)))))))))))))))))))
  have H14 : St W w5 F := (H6.mv [100, 100, 100, 100])
  exact ⟨congrArg Value.bool t26, H14⟩
 have hb7 := eq_false_of_ne_true hb7
 refine Rq hb7 (Rq hb7 (Rq hb7 (Rq hb7 (Rq hb7 (rc (s_pick_f (.bool false) (by exact congrArg Value.bool hb7) rfl rfl (Mv (.bool false) (Rp (Rp (Rp (Rp (Rp (Pf (.bool false) (Mv (.bool false) (Rp (Rp (Rp (Rp (Rp (Pf (.bool false) (Ag (.bool false) (r_nil (Gr [.bool false] Tryz.func87 Tryz.results87 ?_)))))))))))))))))))))))
 have H15 : St W w5 F := (H6.mv [100, 100, 100, 100])
 exact ⟨congrArg Value.bool t26, H15⟩
theorem ref04_Clone (e : EvM) (av : Value) (hb : e.attrs.length * 48 ≤ 140737488355328) {j : Nat} (hj : F[j]? = some (Attrs av e.attrs)) (H : St W w F) : Calls Tryz.prog 114 #[.agg #[.int .i64 e.src.v, .int .i64 e.seq.v, .int .i64 e.time.v, .string e.typ.v, av]] w (Ret fun v w' => ∃ p c, v = .agg (evc e p c) ∧ St W w' (Attrs (.slice p e.attrs.length c) e.attrs :: F)) := by
 replace H := H.dup hj (Attrs_pers _ _)
 refine calls_of_go (n := 8) Tryz.func114 rfl Tryz.ntmps114 rfl ?_
 refine g_seq (g_region (Bx H 119 #[.int .i64 e.src.v, .int .i64 e.seq.v, .int .i64 e.time.v, .string e.typ.v, av] (fun bk1 w2 H3 => rc (s_alloc H3 119 ze_119 rfl (fun bk4 w5 H6 => r_nil (g_seq (g_region (Fa 4 fi_119_3 rfl (Lo (av) ag_117 H6 1 ?_)))))))))
 have H7 := Row.nil_intro H6 147 4
 refine rc (s_append H7 0 rfl rfl rfl (Im.rd H7 (i := 3) rfl) ap_117 t9 t12 t0 (n' := e.attrs.length) (xs' := e.attrs.flatMap attrCell) t0 t16 rfl ?_); intro vv8 w9 H10 hn11
 obtain ⟨pp12, cc13, rfl⟩ := Row.slice H10 (i := 0) rfl
 refine Fa 4 fi_119_3 rfl (rc (s_store H10 2 (.slice pp12 e.attrs.length cc13) rfl rfl rfl sz_117 rfl (nbl rfl) rfl (cs' := (evc e pp12 cc13)) rfl (fun w14 H15 => r_nil (g_seq (g_region (La (evl e pp12 cc13) 5 ag_119 H15 2 (Sa H15 1 rfl (evc e pp12 cc13) 5 sz_119 (evc e pp12 cc13) (fun w16 H17 => r_nil ?_))))))))
 refine g_ret' [.agg (evc e pp12 cc13)] Tryz.func114 Tryz.results114 ⟨(res_cellN rfl ag_119 (H17.blk_at (i := 1) rfl) (nbl rfl) rfl), trivial⟩ ?_
 have H18 : St W w16 (_ :: F) := (H17.mv [101, 101, 101])
 have H19 := Row.im H18 (i := 0) rfl
 exact ⟨_, _, rfl, H19⟩
/-- Bits that were put. -/
def SinkA (b : Nat) (L : List Bool) : Atom := ex fun v : Value => star [blk b (.cells #[.bool true, v, .int .i64 (L.length : Int)] 106 (0, 0)), Row 5 1 v ((L.length + 7) / 8) ((pk L).flatMap u8c)]
theorem Sink_put (b : Nat) (L : List Bool) (x : Bool) (hb : L.length ≤ 1099511627776) {i : Nat} (hi : F[i]? = some (SinkA b L)) (H : St W w F) : Calls Tryz.prog 95 #[.pointer (pa b), .bool x] w (Ret fun v w' => v = .tuple #[] ∧ St W w' (F.set i (SinkA b (L ++ [x])))) := by
 have H0 := H.front hi
 refine calls_of_go (n := 46) Tryz.func95 rfl Tryz.ntmps95 rfl ?_
 refine g_seq (g_seq (g_region (Mv (.pointer (pa b)) (Nc (.pointer (pa b)) (Fa 2 fi_106_2 rfl ?_)))))
 have H1 := H0.move 0 rfl
 obtain ⟨vv2, H3⟩ := St.open_ex H1
 have H4 := St.open_star H3
 obtain ⟨pp5, cc6, rfl⟩ := Row.slice (i := 1) H4 rfl
 have H7 : St W w (_ :: _ :: (F.set i emp)) := H4
 refine Lo (.int .i64 (L.length : Int)) ag_3 H7 0 (rc (s_rem ((L.length : Int) % 8) rfl rfl t0 (tmod_pos t0) rfl ?_))
 by_cases hc8 : (L.length : Int) % 8 = 0
 ·refine rc (s_eql true rfl rfl (dtrue hc8) rfl (r_nil (g_true rfl (g_region (Mv (.pointer (pa b)) (Mv (.pointer (pa b)) (Nc (.pointer (pa b)) (Fa 1 fi_106_1 rfl (Lo (.slice pp5 ((L.length + 7) / 8) cc6) ag_27 H7 0 (rc (s_buildSlice H7 1 1 (cs := #[.int .u8 0]) #[.int .u8 0] el_27 ze_5 t9 t9 t5 rfl (fun bk9 w10 H11 => rc (s_append H11 2 rfl rfl rfl (rd_blk (H11.blk_at (i := 0) rfl) rfl (nbl rfl) t15) ap_27 t9 t12 t0 (n' := L.length / 8 + 1) (xs' := (pkp L).flatMap u8c) t0 (by rw [pkp_new L t0, flat_snoc]; rfl) rfl ?_))))))))))))); intro vv12 w13 H14 hn15
  obtain ⟨pp16, cc17, rfl⟩ := Row.slice H14 (i := 2) rfl
  refine Nc (.pointer (pa b)) (Fa 1 fi_106_1 rfl (rc (s_store H14 1 (.slice pp16 (L.length / 8 + 1) cc17) rfl rfl rfl sz_27 rfl (nbl rfl) rfl (cs' := #[.bool true, .slice pp16 (L.length / 8 + 1) cc17, .int .i64 (L.length : Int)]) rfl (fun w18 H19 => r_nil (g_seq (g_seq (g_region ?_)))))))
  obtain ⟨bk20, cur21, hp22, h23, h24, h25, h26, h27, H28⟩ := Row.open2 H19 (i := 2) rfl t0
  refine Mv (.bool x) (r_nil ?_)
  by_cases hb29 : (x) = true
  ·refine g_true (congrArg Value.bool hb29) ?_
   refine g_mix (fun t_ w => St W w (blk bk9 (.cells #[.int .u8 0] 5 (0, 0)) :: blk b (.cells #[.bool true, .slice pp16 (L.length / 8 + 1) cc17, .int .i64 (L.length : Int)] 106 (0, 0)) :: t_)) (blk bk20 (.cells cur21 5 (0, 0)) :: (F.set i emp)) mixed 20 rfl H28.drew ?_
   refine Fv 0 rfl (fun _ w _ => x_move (.pointer (pa b)) rfl w) (Fv 1 rfl (fun t_ w hw => x_nilCheck (.pointer (pa b)) rfl ⟨_, rfl⟩ w) (Fv 2 rfl (fun t_ w hw => x_fieldAddr 106 1 1 1 27 rfl fi_106_1 rfl w) (Fv 3 rfl (fun t_ w hw => x_load (.slice pp16 (L.length / 8 + 1) cc17) ag_27 rfl (hw.blk_at (i := 1) rfl) rfl) (Fv 4 rfl (fun _ w _ => x_move (.pointer (pa b)) rfl w) (Fv 5 rfl (fun t_ w hw => x_nilCheck (.pointer (pa b)) rfl ⟨_, rfl⟩ w) (Fv 6 rfl (fun t_ w hw => x_fieldAddr 106 2 2 2 3 rfl fi_106_2 rfl w) (Fv 7 rfl (fun t_ w hw => x_load (.int .i64 (L.length : Int)) ag_3 rfl (hw.blk_at (i := 1) rfl) rfl) (Fv 8 rfl (fun t_ w hw => x_quo ((L.length : Int) / 8) rfl rfl t0 t58 w) (Fv 9 rfl (fun t_ w hw => x_indexAddr bk20 (off := 0) ((L.length : Int) / 8) 1 (0 + (L.length / 8) * 1) (by exact congrArg (fun z_ => Value.slice z_ (L.length / 8 + 1) cc17) ((fun (_ : 0 < 1) => hp22) t0)) rfl el_27 t0 t44 w) (Fv 11 rfl (fun _ w _ => x_move (.pointer (pa b)) rfl w) (Fv 12 rfl (fun t_ w hw => x_nilCheck (.pointer (pa b)) rfl ⟨_, rfl⟩ w) (Fv 13 rfl (fun t_ w hw => x_fieldAddr 106 2 2 2 3 rfl fi_106_2 rfl w) (Fv 14 rfl (fun t_ w hw => x_load (.int .i64 (L.length : Int)) ag_3 rfl (hw.blk_at (i := 1) rfl) rfl) (Fv 15 rfl (fun t_ w hw => x_rem ((L.length : Int) % 8) rfl rfl t0 (tmod_pos t0) w) (Fv 16 rfl (fun t_ w hw => x_shr ((2 ^ (7 - L.length % 8) : Nat) : Int) rfl rfl t0 (shr128 L.length t0) w) ?_)))))))))))))))
   refine f_all (rs := [10]) t5 t13 ?_
   refine a_cons ⟨_, rfl, ?_⟩ (fun x hx => absurd hx t13)
   intro w30 H31
   try dsimp only at H31
   refine s_load (.int .u8 (((pkp L).getD (L.length / 8) 0).toNat : Int)) ag_5 rfl (H31.blk_at (i := 2) rfl) (elem_cell (L := pkp L) (i := L.length / 8) u8c_len (by rw [pkp_len L]; exact h26) (by have hh : (pkp L).length = L.length / 8 + 1 := pkp_len L; omega) 0 0 t9 _ rfl) rfl ?_
   refine ⟨blk bk20 (.cells cur21 5 (0, 0)) :: (F.set i emp), ?_, H31⟩
   change FReg _ _ _ _ _ #[true, true, true, true, true, true, true, true, true, true, true, true, true, true, true, true, true, false, false, false] _ _
   refine Fv 17 rfl (fun t_ w hw => x_or ((byteN L (L.length / 8) + 2 ^ (7 - L.length % 8) : Nat) : Int) rfl rfl (or_put L) w) (Fv 18 rfl (fun t_ w hw => x_indexAddr bk20 (off := 0) ((L.length : Int) / 8) 1 (0 + (L.length / 8) * 1) (by exact congrArg (fun z_ => Value.slice z_ (L.length / 8 + 1) cc17) ((fun (_ : 0 < 1) => hp22) t0)) rfl el_27 t0 t44 w) ?_)
   refine f_all (rs := [19]) t5 t13 ?_
   refine a_cons ⟨_, rfl, ?_⟩ (fun x hx => absurd hx t13)
   intro w32 H33
   try dsimp only at H33
   have hx36 := row_set1 (f := u8c) (L := pkp L) (cur := cur21) u8c_len (by rw [pkp_len L]; exact h26) (show (pkp L).length * 1 ≤ cur21.size by rw [pkp_len L, h25]; exact Nat.mul_le_mul_right 1 h23) (j := L.length / 8) (by have hh := pkp_len L; omega) 0 (.int .u8 ((byteN L (L.length / 8) + 2 ^ (7 - L.length % 8) : Nat) : Int)) (UInt8.ofNat (byteN L (L.length / 8) + 2 ^ (7 - L.length % 8))) (u8_set (byte_or_lt L))
   refine s_store H33 2 (.int .u8 ((byteN L (L.length / 8) + 2 ^ (7 - L.length % 8) : Nat) : Int)) rfl rfl rfl sz_5 rfl (by have hh := pkp_len L; have hk := (show (pkp L).length * 1 ≤ cur21.size by rw [pkp_len L, h25]; exact Nat.mul_le_mul_right 1 h23); omega) rfl (cs' := (cur21.setIfInBounds (0 + (L.length / 8) * 1) (.int .u8 ((byteN L (L.length / 8) + 2 ^ (7 - L.length % 8) : Nat) : Int)))) rfl ?_; intro w34 H35
   refine ⟨blk bk20 (.cells (cur21.setIfInBounds (0 + (L.length / 8) * 1) (.int .u8 ((byteN L (L.length / 8) + 2 ^ (7 - L.length % 8) : Nat) : Int))) 5 (0, 0)) :: (F.set i emp), ?_, H35⟩
   change FReg _ _ _ _ _ #[true, true, true, true, true, true, true, true, true, true, true, true, true, true, true, true, true, true, true, true] _ _
   refine f_done t5 ?_
   intro w37 H38
   refine g_region (Mv (.pointer (pa b)) (Nc (.pointer (pa b)) (Fa 2 fi_106_2 rfl (Lo (.int .i64 (L.length : Int)) ag_3 H38 1 (rc (s_add ((L.length : Int) + 1) rfl rfl (wi64 t0) rfl (Nc (.pointer (pa b)) (Fa 2 fi_106_2 rfl (rc (s_store H38 1 (.int .i64 ((L.length : Int) + 1)) rfl rfl rfl sz_3 rfl (nbl rfl) rfl (cs' := #[.bool true, .slice pp16 (L.length / 8 + 1) cc17, .int .i64 ((L.length : Int) + 1)]) rfl (fun w39 H40 => r_nil ?_)))))))))))
   refine g_end' [] Tryz.func95 Tryz.results95 trivial ?_
   have H41 := Row.shut2 (p := pp16) (n := L.length / 8 + 1) (c := cc17) (size := 1) (xs := ((pkp L).set (L.length / 8) (UInt8.ofNat (byteN L (L.length / 8) + 2 ^ (7 - L.length % 8)))).flatMap u8c) H40 (i := 2) rfl hp22 h23 h24 (show ((cur21.setIfInBounds (0 + (L.length / 8) * 1) (.int .u8 ((byteN L (L.length / 8) + 2 ^ (7 - L.length % 8) : Nat) : Int)))).size = cc17 * 1 from by rw [Array.size_setIfInBounds]; exact h25) (by have hh : ((cur21.setIfInBounds (0 + (L.length / 8) * 1) (.int .u8 ((byteN L (L.length / 8) + 2 ^ (7 - L.length % 8) : Nat) : Int))).toList.drop 0).take (((pkp L).set (L.length / 8) (UInt8.ofNat (byteN L (L.length / 8) + 2 ^ (7 - L.length % 8)))).length * 1) = ((pkp L).set (L.length / 8) (UInt8.ofNat (byteN L (L.length / 8) + 2 ^ (7 - L.length % 8)))).flatMap u8c := hx36; have hk : ((pkp L).set (L.length / 8) (UInt8.ofNat (byteN L (L.length / 8) + 2 ^ (7 - L.length % 8)))).length = L.length / 8 + 1 := (show ((pkp L).set (L.length / 8) (UInt8.ofNat (byteN L (L.length / 8) + 2 ^ (7 - L.length % 8)))).length = L.length / 8 + 1 from by first | (rw [List.length_set]; exact pkp_len L) | rw [List.length_set]); rw [hk] at hh; exact hh) (one_u8 _)
   have H42 : St W w39 (_ :: _ :: (F.set i emp)) := (H41.mv [2, 2, 102])
   have H43 : St W w39 (blk b (.cells #[.bool true, .slice pp16 (L.length / 8 + 1) cc17, .int .i64 ((L ++ [true]).length : Int)] 106 (0, 0)) :: Row 5 1 (.slice pp16 (L.length / 8 + 1) cc17) (((L ++ [true]).length + 7) / 8) ((pk (L ++ [true])).flatMap u8c) :: F.set i emp) := by rw [snoc_len, snoc_bytes, pk_snoc_true]; exact H42
   have hx : x = true := hb29
   rw [hx]
   exact ⟨rfl, St.back hi (St.shut_ex (.slice pp16 (L.length / 8 + 1) cc17) (St.shut_star (ls := [blk b (.cells #[.bool true, .slice pp16 (L.length / 8 + 1) cc17, .int .i64 ((L ++ [true]).length : Int)] 106 (0, 0)), Row 5 1 (.slice pp16 (L.length / 8 + 1) cc17) (((L ++ [true]).length + 7) / 8) ((pk (L ++ [true])).flatMap u8c)]) H43))⟩
  have hb29 := eq_false_of_ne_true hb29
  refine g_false (congrArg Value.bool hb29) (g_skip (g_region (Mv (.pointer (pa b)) (Nc (.pointer (pa b)) (Fa 2 fi_106_2 rfl (Lo (.int .i64 (L.length : Int)) ag_3 H28 1 (rc (s_add ((L.length : Int) + 1) rfl rfl (wi64 t0) rfl (Nc (.pointer (pa b)) (Fa 2 fi_106_2 rfl (rc (s_store H28 1 (.int .i64 ((L.length : Int) + 1)) rfl rfl rfl sz_3 rfl (nbl rfl) rfl (cs' := #[.bool true, .slice pp16 (L.length / 8 + 1) cc17, .int .i64 ((L.length : Int) + 1)]) rfl (fun w44 H45 => r_nil ?_)))))))))))))
  refine g_end' [] Tryz.func95 Tryz.results95 trivial ?_
  have H46 := Row.shut2 (p := pp16) (n := L.length / 8 + 1) (c := cc17) (size := 1) (xs := (pkp L).flatMap u8c) H45 (i := 2) rfl hp22 h23 h24 h25 (by have hh : (cur21.toList.drop 0).take ((pkp L).length * 1) = (pkp L).flatMap u8c := (by rw [pkp_len L]; exact h26); have hk : (pkp L).length = L.length / 8 + 1 := pkp_len L; rw [hk] at hh; exact hh) (one_u8 _)
  have H47 : St W w44 (_ :: _ :: (F.set i emp)) := (H46.mv [2, 2, 102])
  have H48 : St W w44 (blk b (.cells #[.bool true, .slice pp16 (L.length / 8 + 1) cc17, .int .i64 ((L ++ [false]).length : Int)] 106 (0, 0)) :: Row 5 1 (.slice pp16 (L.length / 8 + 1) cc17) (((L ++ [false]).length + 7) / 8) ((pk (L ++ [false])).flatMap u8c) :: F.set i emp) := by rw [snoc_len, snoc_bytes, pk_snoc_false]; exact H47
  have hx : x = false := hb29
  rw [hx]
  exact ⟨rfl, St.back hi (St.shut_ex (.slice pp16 (L.length / 8 + 1) cc17) (St.shut_star (ls := [blk b (.cells #[.bool true, .slice pp16 (L.length / 8 + 1) cc17, .int .i64 ((L ++ [false]).length : Int)] 106 (0, 0)), Row 5 1 (.slice pp16 (L.length / 8 + 1) cc17) (((L ++ [false]).length + 7) / 8) ((pk (L ++ [false])).flatMap u8c)]) H48))⟩
 refine rc (s_eql false rfl rfl (dfalse hc8) rfl (r_nil (g_false rfl (g_skip (g_seq (g_seq (g_region ?_)))))))
 have H49 : St W w (blk b (.cells #[.bool true, .slice pp5 (L.length / 8 + 1) cc6, .int .i64 (L.length : Int)] 106 (0, 0)) :: Row 5 1 (.slice pp5 (L.length / 8 + 1) cc6) (L.length / 8 + 1) ((pkp L).flatMap u8c) :: (F.set i emp)) := by rw [pkp_of L t0, show L.length / 8 + 1 = (L.length + 7) / 8 from by omega]; exact H7
 obtain ⟨bk50, cur51, hp52, h53, h54, h55, h56, h57, H58⟩ := Row.open2 H49 (i := 1) rfl t0
 refine Mv (.bool x) (r_nil ?_)
 by_cases hb59 : (x) = true
 ·refine g_true (congrArg Value.bool hb59) ?_
  refine g_mix (fun t_ w => St W w (blk b (.cells #[.bool true, .slice pp5 (L.length / 8 + 1) cc6, .int .i64 (L.length : Int)] 106 (0, 0)) :: t_)) (blk bk50 (.cells cur51 5 (0, 0)) :: (F.set i emp)) mixed 20 rfl H58.drew ?_
  refine Fv 0 rfl (fun _ w _ => x_move (.pointer (pa b)) rfl w) (Fv 1 rfl (fun t_ w hw => x_nilCheck (.pointer (pa b)) rfl ⟨_, rfl⟩ w) (Fv 2 rfl (fun t_ w hw => x_fieldAddr 106 1 1 1 27 rfl fi_106_1 rfl w) (Fv 3 rfl (fun t_ w hw => x_load (.slice pp5 (L.length / 8 + 1) cc6) ag_27 rfl (hw.blk_at (i := 0) rfl) rfl) (Fv 4 rfl (fun _ w _ => x_move (.pointer (pa b)) rfl w) (Fv 5 rfl (fun t_ w hw => x_nilCheck (.pointer (pa b)) rfl ⟨_, rfl⟩ w) (Fv 6 rfl (fun t_ w hw => x_fieldAddr 106 2 2 2 3 rfl fi_106_2 rfl w) (Fv 7 rfl (fun t_ w hw => x_load (.int .i64 (L.length : Int)) ag_3 rfl (hw.blk_at (i := 0) rfl) rfl) (Fv 8 rfl (fun t_ w hw => x_quo ((L.length : Int) / 8) rfl rfl t0 t58 w) (Fv 9 rfl (fun t_ w hw => x_indexAddr bk50 (off := 0) ((L.length : Int) / 8) 1 (0 + (L.length / 8) * 1) (by exact congrArg (fun z_ => Value.slice z_ (L.length / 8 + 1) cc6) ((fun (_ : 0 < 1) => hp52) t0)) rfl el_27 t0 t44 w) (Fv 11 rfl (fun _ w _ => x_move (.pointer (pa b)) rfl w) (Fv 12 rfl (fun t_ w hw => x_nilCheck (.pointer (pa b)) rfl ⟨_, rfl⟩ w) (Fv 13 rfl (fun t_ w hw => x_fieldAddr 106 2 2 2 3 rfl fi_106_2 rfl w) (Fv 14 rfl (fun t_ w hw => x_load (.int .i64 (L.length : Int)) ag_3 rfl (hw.blk_at (i := 0) rfl) rfl) (Fv 15 rfl (fun t_ w hw => x_rem ((L.length : Int) % 8) rfl rfl t0 (tmod_pos t0) w) (Fv 16 rfl (fun t_ w hw => x_shr ((2 ^ (7 - L.length % 8) : Nat) : Int) rfl rfl t0 (shr128 L.length t0) w) ?_)))))))))))))))
  refine f_all (rs := [10]) t5 t13 ?_
  refine a_cons ⟨_, rfl, ?_⟩ (fun x hx => absurd hx t13)
  intro w60 H61
  try dsimp only at H61
  refine s_load (.int .u8 (((pkp L).getD (L.length / 8) 0).toNat : Int)) ag_5 rfl (H61.blk_at (i := 1) rfl) (elem_cell (L := pkp L) (i := L.length / 8) u8c_len (by rw [pkp_len L]; exact h56) (by have hh : (pkp L).length = L.length / 8 + 1 := pkp_len L; omega) 0 0 t9 _ rfl) rfl ?_
  refine ⟨blk bk50 (.cells cur51 5 (0, 0)) :: (F.set i emp), ?_, H61⟩
  change FReg _ _ _ _ _ #[true, true, true, true, true, true, true, true, true, true, true, true, true, true, true, true, true, false, false, false] _ _
  refine Fv 17 rfl (fun t_ w hw => x_or ((byteN L (L.length / 8) + 2 ^ (7 - L.length % 8) : Nat) : Int) rfl rfl (or_put L) w) (Fv 18 rfl (fun t_ w hw => x_indexAddr bk50 (off := 0) ((L.length : Int) / 8) 1 (0 + (L.length / 8) * 1) (by exact congrArg (fun z_ => Value.slice z_ (L.length / 8 + 1) cc6) ((fun (_ : 0 < 1) => hp52) t0)) rfl el_27 t0 t44 w) ?_)
  refine f_all (rs := [19]) t5 t13 ?_
  refine a_cons ⟨_, rfl, ?_⟩ (fun x hx => absurd hx t13)
  intro w62 H63
  try dsimp only at H63
  have hx66 := row_set1 (f := u8c) (L := pkp L) (cur := cur51) u8c_len (by rw [pkp_len L]; exact h56) (show (pkp L).length * 1 ≤ cur51.size by rw [pkp_len L, h55]; exact Nat.mul_le_mul_right 1 h53) (j := L.length / 8) (by have hh := pkp_len L; omega) 0 (.int .u8 ((byteN L (L.length / 8) + 2 ^ (7 - L.length % 8) : Nat) : Int)) (UInt8.ofNat (byteN L (L.length / 8) + 2 ^ (7 - L.length % 8))) (u8_set (byte_or_lt L))
  refine s_store H63 1 (.int .u8 ((byteN L (L.length / 8) + 2 ^ (7 - L.length % 8) : Nat) : Int)) rfl rfl rfl sz_5 rfl (by have hh := pkp_len L; have hk := (show (pkp L).length * 1 ≤ cur51.size by rw [pkp_len L, h55]; exact Nat.mul_le_mul_right 1 h53); omega) rfl (cs' := (cur51.setIfInBounds (0 + (L.length / 8) * 1) (.int .u8 ((byteN L (L.length / 8) + 2 ^ (7 - L.length % 8) : Nat) : Int)))) rfl ?_; intro w64 H65
  refine ⟨blk bk50 (.cells (cur51.setIfInBounds (0 + (L.length / 8) * 1) (.int .u8 ((byteN L (L.length / 8) + 2 ^ (7 - L.length % 8) : Nat) : Int))) 5 (0, 0)) :: (F.set i emp), ?_, H65⟩
  change FReg _ _ _ _ _ #[true, true, true, true, true, true, true, true, true, true, true, true, true, true, true, true, true, true, true, true] _ _
  refine f_done t5 ?_
  intro w67 H68
  refine g_region (Mv (.pointer (pa b)) (Nc (.pointer (pa b)) (Fa 2 fi_106_2 rfl (Lo (.int .i64 (L.length : Int)) ag_3 H68 0 (rc (s_add ((L.length : Int) + 1) rfl rfl (wi64 t0) rfl (Nc (.pointer (pa b)) (Fa 2 fi_106_2 rfl (rc (s_store H68 0 (.int .i64 ((L.length : Int) + 1)) rfl rfl rfl sz_3 rfl (nbl rfl) rfl (cs' := #[.bool true, .slice pp5 (L.length / 8 + 1) cc6, .int .i64 ((L.length : Int) + 1)]) rfl (fun w69 H70 => r_nil ?_)))))))))))
  refine g_end' [] Tryz.func95 Tryz.results95 trivial ?_
  have H71 := Row.shut2 (p := pp5) (n := L.length / 8 + 1) (c := cc6) (size := 1) (xs := ((pkp L).set (L.length / 8) (UInt8.ofNat (byteN L (L.length / 8) + 2 ^ (7 - L.length % 8)))).flatMap u8c) H70 (i := 1) rfl hp52 h53 h54 (show ((cur51.setIfInBounds (0 + (L.length / 8) * 1) (.int .u8 ((byteN L (L.length / 8) + 2 ^ (7 - L.length % 8) : Nat) : Int)))).size = cc6 * 1 from by rw [Array.size_setIfInBounds]; exact h55) (by have hh : ((cur51.setIfInBounds (0 + (L.length / 8) * 1) (.int .u8 ((byteN L (L.length / 8) + 2 ^ (7 - L.length % 8) : Nat) : Int))).toList.drop 0).take (((pkp L).set (L.length / 8) (UInt8.ofNat (byteN L (L.length / 8) + 2 ^ (7 - L.length % 8)))).length * 1) = ((pkp L).set (L.length / 8) (UInt8.ofNat (byteN L (L.length / 8) + 2 ^ (7 - L.length % 8)))).flatMap u8c := hx66; have hk : ((pkp L).set (L.length / 8) (UInt8.ofNat (byteN L (L.length / 8) + 2 ^ (7 - L.length % 8)))).length = L.length / 8 + 1 := (show ((pkp L).set (L.length / 8) (UInt8.ofNat (byteN L (L.length / 8) + 2 ^ (7 - L.length % 8)))).length = L.length / 8 + 1 from by first | (rw [List.length_set]; exact pkp_len L) | rw [List.length_set]); rw [hk] at hh; exact hh) (one_u8 _)
  have H72 : St W w69 (_ :: _ :: (F.set i emp)) := (H71.mv [1, 1])
  have H73 : St W w69 (blk b (.cells #[.bool true, .slice pp5 (L.length / 8 + 1) cc6, .int .i64 ((L ++ [true]).length : Int)] 106 (0, 0)) :: Row 5 1 (.slice pp5 (L.length / 8 + 1) cc6) (((L ++ [true]).length + 7) / 8) ((pk (L ++ [true])).flatMap u8c) :: F.set i emp) := by rw [snoc_len, snoc_bytes, pk_snoc_true]; exact H72
  have hx : x = true := hb59
  rw [hx]
  exact ⟨rfl, St.back hi (St.shut_ex (.slice pp5 (L.length / 8 + 1) cc6) (St.shut_star (ls := [blk b (.cells #[.bool true, .slice pp5 (L.length / 8 + 1) cc6, .int .i64 ((L ++ [true]).length : Int)] 106 (0, 0)), Row 5 1 (.slice pp5 (L.length / 8 + 1) cc6) (((L ++ [true]).length + 7) / 8) ((pk (L ++ [true])).flatMap u8c)]) H73))⟩
 have hb59 := eq_false_of_ne_true hb59
 refine g_false (congrArg Value.bool hb59) (g_skip (g_region (Mv (.pointer (pa b)) (Nc (.pointer (pa b)) (Fa 2 fi_106_2 rfl (Lo (.int .i64 (L.length : Int)) ag_3 H58 0 (rc (s_add ((L.length : Int) + 1) rfl rfl (wi64 t0) rfl (Nc (.pointer (pa b)) (Fa 2 fi_106_2 rfl (rc (s_store H58 0 (.int .i64 ((L.length : Int) + 1)) rfl rfl rfl sz_3 rfl (nbl rfl) rfl (cs' := #[.bool true, .slice pp5 (L.length / 8 + 1) cc6, .int .i64 ((L.length : Int) + 1)]) rfl (fun w74 H75 => r_nil ?_)))))))))))))
 refine g_end' [] Tryz.func95 Tryz.results95 trivial ?_
 have H76 := Row.shut2 (p := pp5) (n := L.length / 8 + 1) (c := cc6) (size := 1) (xs := (pkp L).flatMap u8c) H75 (i := 1) rfl hp52 h53 h54 h55 (by have hh : (cur51.toList.drop 0).take ((pkp L).length * 1) = (pkp L).flatMap u8c := (by rw [pkp_len L]; exact h56); have hk : (pkp L).length = L.length / 8 + 1 := pkp_len L; rw [hk] at hh; exact hh) (one_u8 _)
 have H77 : St W w74 (_ :: _ :: (F.set i emp)) := (H76.mv [1, 1])
 have H78 : St W w74 (blk b (.cells #[.bool true, .slice pp5 (L.length / 8 + 1) cc6, .int .i64 ((L ++ [false]).length : Int)] 106 (0, 0)) :: Row 5 1 (.slice pp5 (L.length / 8 + 1) cc6) (((L ++ [false]).length + 7) / 8) ((pk (L ++ [false])).flatMap u8c) :: F.set i emp) := by rw [snoc_len, snoc_bytes, pk_snoc_false]; exact H77
 have hx : x = false := hb59
 rw [hx]
 exact ⟨rfl, St.back hi (St.shut_ex (.slice pp5 (L.length / 8 + 1) cc6) (St.shut_star (ls := [blk b (.cells #[.bool true, .slice pp5 (L.length / 8 + 1) cc6, .int .i64 ((L ++ [false]).length : Int)] 106 (0, 0)), Row 5 1 (.slice pp5 (L.length / 8 + 1) cc6) (((L ++ [false]).length + 7) / 8) ((pk (L ++ [false])).flatMap u8c)]) H78))⟩
theorem Len64 (u : Nat) (hu : u < 18446744073709551616) (H : St W w F) : Calls Tryz.prog 94 #[.int .u64 (u : Int)] w (Ret fun v w' => v = .int .i64 (bitLen u : Int) ∧ St W w' F) := by
 refine calls_of_go (n := 25) Tryz.func94 rfl Tryz.ntmps94 rfl ?_
 refine g_seq (g_region (Ag (.int .i64 0) (r_nil (g_seq (g_seq (g_region (Mv (.int .u64 (u : Int)) ?_)))))))
 by_cases hc1 : (4294967296 : Int) ≤ (u : Int)
 ·refine rc (s_geq true rfl rfl (dtrue hc1) rfl (r_nil (g_true rfl (g_seq (g_region (Mv (.int .u64 (u : Int)) (rc (s_shr ((u / 2 ^ 32 : Nat) : Int) rfl rfl t0 (shr_nat (k := 32) rfl t9) rfl (Ag (.int .u64 ((u / 2 ^ 32 : Nat) : Int)) (r_nil (g_region (Ag (.int .i64 32) (r_nil (g_seq (g_seq (g_region (Mv (.int .u64 ((u / 2 ^ 32 : Nat) : Int)) ?_)))))))))))))))))
  by_cases hc2 : (65536 : Int) ≤ ((u / 2 ^ 32 : Nat) : Int)
  ·refine rc (s_geq true rfl rfl (dtrue hc2) rfl (r_nil (g_true rfl (g_seq (g_region (Mv (.int .u64 ((u / 2 ^ 32 : Nat) : Int)) (rc (s_shr (((u / 2 ^ 32) / 2 ^ 16 : Nat) : Int) rfl rfl t0 (shr_nat (k := 16) rfl t9) rfl (Ag (.int .u64 (((u / 2 ^ 32) / 2 ^ 16 : Nat) : Int)) (r_nil (g_region (Mv (.int .i64 32) (rc (s_add 48 rfl rfl (wi64 t0) rfl (Ag (.int .i64 48) (r_nil (g_seq (g_seq (g_region (Mv (.int .u64 (((u / 2 ^ 32) / 2 ^ 16 : Nat) : Int)) ?_))))))))))))))))))))
   by_cases hc3 : (256 : Int) ≤ (((u / 2 ^ 32) / 2 ^ 16 : Nat) : Int)
   ·refine rc (s_geq true rfl rfl (dtrue hc3) rfl (r_nil (g_true rfl (g_seq (g_region (Mv (.int .u64 (((u / 2 ^ 32) / 2 ^ 16 : Nat) : Int)) (rc (s_shr ((((u / 2 ^ 32) / 2 ^ 16) / 2 ^ 8 : Nat) : Int) rfl rfl t0 (shr_nat (k := 8) rfl t9) rfl (Ag (.int .u64 ((((u / 2 ^ 32) / 2 ^ 16) / 2 ^ 8 : Nat) : Int)) (r_nil (g_region (Mv (.int .i64 48) (rc (s_add 56 rfl rfl (wi64 t0) rfl (Ag (.int .i64 56) (r_nil (g_seq (g_region (Mv (.int .i64 56) (Mv (.int .u64 ((((u / 2 ^ 32) / 2 ^ 16) / 2 ^ 8 : Nat) : Int)) (rc (s_conv ((((u / 2 ^ 32) / 2 ^ 16) / 2 ^ 8 : Nat) : Int) rfl us_61 ik_5 (wu8 t0) rfl (rc (s_index_str _ ((((u / 2 ^ 32) / 2 ^ 16) / 2 ^ 8 : Nat) : Int) (bitLen (((u / 2 ^ 32) / 2 ^ 16) / 2 ^ 8) : Int) rfl rfl st_9 t0 (len8_str (n := ((u / 2 ^ 32) / 2 ^ 16) / 2 ^ 8) t0 t0) rfl (rc (s_conv (bitLen (((u / 2 ^ 32) / 2 ^ 16) / 2 ^ 8) : Int) rfl us_5 ik_3 (wi64 (by have := bitLen_le8 ((((u / 2 ^ 32) / 2 ^ 16) / 2 ^ 8)) t0; omega)) rfl (rc (s_add (56 + (bitLen (((u / 2 ^ 32) / 2 ^ 16) / 2 ^ 8) : Int)) rfl rfl (wi64 (by have := bitLen_le8 (((u / 2 ^ 32) / 2 ^ 16) / 2 ^ 8) t0; omega)) rfl (Ag (.int .i64 (56 + (bitLen (((u / 2 ^ 32) / 2 ^ 16) / 2 ^ 8) : Int))) (r_nil (Gr [.int .i64 (56 + (bitLen (((u / 2 ^ 32) / 2 ^ 16) / 2 ^ 8) : Int))] Tryz.func94 Tryz.results94 ?_)))))))))))))))))))))))))))))))
    have H4 : St W w F := H
    exact ⟨vint (by have := bitLen_div (u := u) (k := 32) t0; have := bitLen_div (u := (u / 2 ^ 32)) (k := 16) t0; have := bitLen_div (u := ((u / 2 ^ 32) / 2 ^ 16)) (k := 8) t0; omega), H4⟩
   refine rc (s_geq false rfl rfl (dfalse hc3) rfl (r_nil (g_false rfl (g_skip (g_seq (g_region (Mv (.int .i64 48) (Mv (.int .u64 (((u / 2 ^ 32) / 2 ^ 16 : Nat) : Int)) (rc (s_conv (((u / 2 ^ 32) / 2 ^ 16 : Nat) : Int) rfl us_61 ik_5 (wu8 t0) rfl (rc (s_index_str _ (((u / 2 ^ 32) / 2 ^ 16 : Nat) : Int) (bitLen ((u / 2 ^ 32) / 2 ^ 16) : Int) rfl rfl st_9 t0 (len8_str (n := (u / 2 ^ 32) / 2 ^ 16) t0 t0) rfl (rc (s_conv (bitLen ((u / 2 ^ 32) / 2 ^ 16) : Int) rfl us_5 ik_3 (wi64 (by have := bitLen_le8 (((u / 2 ^ 32) / 2 ^ 16)) t0; omega)) rfl (rc (s_add (48 + (bitLen ((u / 2 ^ 32) / 2 ^ 16) : Int)) rfl rfl (wi64 (by have := bitLen_le8 ((u / 2 ^ 32) / 2 ^ 16) t0; omega)) rfl (Ag (.int .i64 (48 + (bitLen ((u / 2 ^ 32) / 2 ^ 16) : Int))) (r_nil (Gr [.int .i64 (48 + (bitLen ((u / 2 ^ 32) / 2 ^ 16) : Int))] Tryz.func94 Tryz.results94 ?_)))))))))))))))))))
   have H5 : St W w F := H
   exact ⟨vint (by have := bitLen_div (u := u) (k := 32) t0; have := bitLen_div (u := (u / 2 ^ 32)) (k := 16) t0; omega), H5⟩
  refine rc (s_geq false rfl rfl (dfalse hc2) rfl (r_nil (g_false rfl (g_skip (g_seq (g_seq (g_region (Mv (.int .u64 ((u / 2 ^ 32 : Nat) : Int)) ?_))))))))
  by_cases hc6 : (256 : Int) ≤ ((u / 2 ^ 32 : Nat) : Int)
  ·refine rc (s_geq true rfl rfl (dtrue hc6) rfl (r_nil (g_true rfl (g_seq (g_region (Mv (.int .u64 ((u / 2 ^ 32 : Nat) : Int)) (rc (s_shr (((u / 2 ^ 32) / 2 ^ 8 : Nat) : Int) rfl rfl t0 (shr_nat (k := 8) rfl t9) rfl (Ag (.int .u64 (((u / 2 ^ 32) / 2 ^ 8 : Nat) : Int)) (r_nil (g_region (Mv (.int .i64 32) (rc (s_add 40 rfl rfl (wi64 t0) rfl (Ag (.int .i64 40) (r_nil (g_seq (g_region (Mv (.int .i64 40) (Mv (.int .u64 (((u / 2 ^ 32) / 2 ^ 8 : Nat) : Int)) (rc (s_conv (((u / 2 ^ 32) / 2 ^ 8 : Nat) : Int) rfl us_61 ik_5 (wu8 t0) rfl (rc (s_index_str _ (((u / 2 ^ 32) / 2 ^ 8 : Nat) : Int) (bitLen ((u / 2 ^ 32) / 2 ^ 8) : Int) rfl rfl st_9 t0 (len8_str (n := (u / 2 ^ 32) / 2 ^ 8) t0 t0) rfl (rc (s_conv (bitLen ((u / 2 ^ 32) / 2 ^ 8) : Int) rfl us_5 ik_3 (wi64 (by have := bitLen_le8 (((u / 2 ^ 32) / 2 ^ 8)) t0; omega)) rfl (rc (s_add (40 + (bitLen ((u / 2 ^ 32) / 2 ^ 8) : Int)) rfl rfl (wi64 (by have := bitLen_le8 ((u / 2 ^ 32) / 2 ^ 8) t0; omega)) rfl (Ag (.int .i64 (40 + (bitLen ((u / 2 ^ 32) / 2 ^ 8) : Int))) (r_nil (Gr [.int .i64 (40 + (bitLen ((u / 2 ^ 32) / 2 ^ 8) : Int))] Tryz.func94 Tryz.results94 ?_)))))))))))))))))))))))))))))))
   have H7 : St W w F := H
   exact ⟨vint (by have := bitLen_div (u := u) (k := 32) t0; have := bitLen_div (u := (u / 2 ^ 32)) (k := 8) t0; omega), H7⟩
  refine rc (s_geq false rfl rfl (dfalse hc6) rfl (r_nil (g_false rfl (g_skip (g_seq (g_region (Mv (.int .i64 32) (Mv (.int .u64 ((u / 2 ^ 32 : Nat) : Int)) (rc (s_conv ((u / 2 ^ 32 : Nat) : Int) rfl us_61 ik_5 (wu8 t0) rfl (rc (s_index_str _ ((u / 2 ^ 32 : Nat) : Int) (bitLen (u / 2 ^ 32) : Int) rfl rfl st_9 t0 (len8_str (n := u / 2 ^ 32) t0 t0) rfl (rc (s_conv (bitLen (u / 2 ^ 32) : Int) rfl us_5 ik_3 (wi64 (by have := bitLen_le8 ((u / 2 ^ 32)) t0; omega)) rfl (rc (s_add (32 + (bitLen (u / 2 ^ 32) : Int)) rfl rfl (wi64 (by have := bitLen_le8 (u / 2 ^ 32) t0; omega)) rfl (Ag (.int .i64 (32 + (bitLen (u / 2 ^ 32) : Int))) (r_nil (Gr [.int .i64 (32 + (bitLen (u / 2 ^ 32) : Int))] Tryz.func94 Tryz.results94 ?_)))))))))))))))))))
  have H8 : St W w F := H
  exact ⟨vint (by have := bitLen_div (u := u) (k := 32) t0; omega), H8⟩
 refine rc (s_geq false rfl rfl (dfalse hc1) rfl (r_nil (g_false rfl (g_skip (g_seq (g_seq (g_region (Mv (.int .u64 (u : Int)) ?_))))))))
 by_cases hc9 : (65536 : Int) ≤ (u : Int)
 ·refine rc (s_geq true rfl rfl (dtrue hc9) rfl (r_nil (g_true rfl (g_seq (g_region (Mv (.int .u64 (u : Int)) (rc (s_shr ((u / 2 ^ 16 : Nat) : Int) rfl rfl t0 (shr_nat (k := 16) rfl t9) rfl (Ag (.int .u64 ((u / 2 ^ 16 : Nat) : Int)) (r_nil (g_region (Mv (.int .i64 0) (rc (s_add 16 rfl rfl (wi64 t0) rfl (Ag (.int .i64 16) (r_nil (g_seq (g_seq (g_region (Mv (.int .u64 ((u / 2 ^ 16 : Nat) : Int)) ?_))))))))))))))))))))
  by_cases hc10 : (256 : Int) ≤ ((u / 2 ^ 16 : Nat) : Int)
  ·refine rc (s_geq true rfl rfl (dtrue hc10) rfl (r_nil (g_true rfl (g_seq (g_region (Mv (.int .u64 ((u / 2 ^ 16 : Nat) : Int)) (rc (s_shr (((u / 2 ^ 16) / 2 ^ 8 : Nat) : Int) rfl rfl t0 (shr_nat (k := 8) rfl t9) rfl (Ag (.int .u64 (((u / 2 ^ 16) / 2 ^ 8 : Nat) : Int)) (r_nil (g_region (Mv (.int .i64 16) (rc (s_add 24 rfl rfl (wi64 t0) rfl (Ag (.int .i64 24) (r_nil (g_seq (g_region (Mv (.int .i64 24) (Mv (.int .u64 (((u / 2 ^ 16) / 2 ^ 8 : Nat) : Int)) (rc (s_conv (((u / 2 ^ 16) / 2 ^ 8 : Nat) : Int) rfl us_61 ik_5 (wu8 t0) rfl (rc (s_index_str _ (((u / 2 ^ 16) / 2 ^ 8 : Nat) : Int) (bitLen ((u / 2 ^ 16) / 2 ^ 8) : Int) rfl rfl st_9 t0 (len8_str (n := (u / 2 ^ 16) / 2 ^ 8) t0 t0) rfl (rc (s_conv (bitLen ((u / 2 ^ 16) / 2 ^ 8) : Int) rfl us_5 ik_3 (wi64 (by have := bitLen_le8 (((u / 2 ^ 16) / 2 ^ 8)) t0; omega)) rfl (rc (s_add (24 + (bitLen ((u / 2 ^ 16) / 2 ^ 8) : Int)) rfl rfl (wi64 (by have := bitLen_le8 ((u / 2 ^ 16) / 2 ^ 8) t0; omega)) rfl (Ag (.int .i64 (24 + (bitLen ((u / 2 ^ 16) / 2 ^ 8) : Int))) (r_nil (Gr [.int .i64 (24 + (bitLen ((u / 2 ^ 16) / 2 ^ 8) : Int))] Tryz.func94 Tryz.results94 ?_)))))))))))))))))))))))))))))))
   have H11 : St W w F := H
   exact ⟨vint (by have := bitLen_div (u := u) (k := 16) t0; have := bitLen_div (u := (u / 2 ^ 16)) (k := 8) t0; omega), H11⟩
  refine rc (s_geq false rfl rfl (dfalse hc10) rfl (r_nil (g_false rfl (g_skip (g_seq (g_region (Mv (.int .i64 16) (Mv (.int .u64 ((u / 2 ^ 16 : Nat) : Int)) (rc (s_conv ((u / 2 ^ 16 : Nat) : Int) rfl us_61 ik_5 (wu8 t0) rfl (rc (s_index_str _ ((u / 2 ^ 16 : Nat) : Int) (bitLen (u / 2 ^ 16) : Int) rfl rfl st_9 t0 (len8_str (n := u / 2 ^ 16) t0 t0) rfl (rc (s_conv (bitLen (u / 2 ^ 16) : Int) rfl us_5 ik_3 (wi64 (by have := bitLen_le8 ((u / 2 ^ 16)) t0; omega)) rfl (rc (s_add (16 + (bitLen (u / 2 ^ 16) : Int)) rfl rfl (wi64 (by have := bitLen_le8 (u / 2 ^ 16) t0; omega)) rfl (Ag (.int .i64 (16 + (bitLen (u / 2 ^ 16) : Int))) (r_nil (Gr [.int .i64 (16 + (bitLen (u / 2 ^ 16) : Int))] Tryz.func94 Tryz.results94 ?_)))))))))))))))))))
  have H12 : St W w F := H
  exact ⟨vint (by have := bitLen_div (u := u) (k := 16) t0; omega), H12⟩
 refine rc (s_geq false rfl rfl (dfalse hc9) rfl (r_nil (g_false rfl (g_skip (g_seq (g_seq (g_region (Mv (.int .u64 (u : Int)) ?_))))))))
 by_cases hc13 : (256 : Int) ≤ (u : Int)
 ·refine rc (s_geq true rfl rfl (dtrue hc13) rfl (r_nil (g_true rfl (g_seq (g_region (Mv (.int .u64 (u : Int)) (rc (s_shr ((u / 2 ^ 8 : Nat) : Int) rfl rfl t0 (shr_nat (k := 8) rfl t9) rfl (Ag (.int .u64 ((u / 2 ^ 8 : Nat) : Int)) (r_nil (g_region (Mv (.int .i64 0) (rc (s_add 8 rfl rfl (wi64 t0) rfl (Ag (.int .i64 8) (r_nil (g_seq (g_region (Mv (.int .i64 8) (Mv (.int .u64 ((u / 2 ^ 8 : Nat) : Int)) (rc (s_conv ((u / 2 ^ 8 : Nat) : Int) rfl us_61 ik_5 (wu8 t0) rfl (rc (s_index_str _ ((u / 2 ^ 8 : Nat) : Int) (bitLen (u / 2 ^ 8) : Int) rfl rfl st_9 t0 (len8_str (n := u / 2 ^ 8) t0 t0) rfl (rc (s_conv (bitLen (u / 2 ^ 8) : Int) rfl us_5 ik_3 (wi64 (by have := bitLen_le8 ((u / 2 ^ 8)) t0; omega)) rfl (rc (s_add (8 + (bitLen (u / 2 ^ 8) : Int)) rfl rfl (wi64 (by have := bitLen_le8 (u / 2 ^ 8) t0; omega)) rfl (Ag (.int .i64 (8 + (bitLen (u / 2 ^ 8) : Int))) (r_nil (Gr [.int .i64 (8 + (bitLen (u / 2 ^ 8) : Int))] Tryz.func94 Tryz.results94 ?_)))))))))))))))))))))))))))))))
  have H14 : St W w F := H
  exact ⟨vint (by have := bitLen_div (u := u) (k := 8) t0; omega), H14⟩
 refine rc (s_geq false rfl rfl (dfalse hc13) rfl (r_nil (g_false rfl (g_skip (g_seq (g_region (Mv (.int .i64 0) (Mv (.int .u64 (u : Int)) (rc (s_conv (u : Int) rfl us_61 ik_5 (wu8 t0) rfl (rc (s_index_str _ (u : Int) (bitLen (u) : Int) rfl rfl st_9 t0 (len8_str (n := u) t0 t0) rfl (rc (s_conv (bitLen (u) : Int) rfl us_5 ik_3 (wi64 (by have := bitLen_le8 ((u)) t0; omega)) rfl (rc (s_add (0 + (bitLen (u) : Int)) rfl rfl (wi64 (by have := bitLen_le8 (u) t0; omega)) rfl (Ag (.int .i64 (0 + (bitLen (u) : Int))) (r_nil (Gr [.int .i64 (0 + (bitLen (u) : Int))] Tryz.func94 Tryz.results94 ?_)))))))))))))))))))
 have H15 : St W w F := H
 exact ⟨vint t0, H15⟩
theorem Size (u : Nat) (hu : u < 18446744073709551616) (H : St W w F) : Calls Tryz.prog 65 #[.int .u64 (u : Int)] w (Ret fun v w' => v = .int .i64 (sizeU u : Int) ∧ St W w' F) := by
 refine calls_of_go (n := 10) Tryz.func65 rfl Tryz.ntmps65 rfl ?_
 refine g_seq (g_region (Ag (.int .i64 0) (r_nil (g_seq (g_seq (g_region (Mv (.int .u64 (u : Int)) ?_)))))))
 by_cases hc1 : (u : Int) = 18446744073709551615
 ·refine rc (s_eql true rfl rfl (dtrue hc1) rfl (r_nil (g_true rfl (g_seq (g_region (Ag (.int .i64 129) (r_nil (Gr [.int .i64 129] Tryz.func65 Tryz.results65 ?_))))))))
  have H2 : St W w F := H
  exact ⟨vint (by unfold sizeU; rw [if_pos t0]; rfl), H2⟩
 refine rc (s_eql false rfl rfl (dfalse hc1) rfl (r_nil (g_false rfl (g_skip (g_seq (g_region (Mv (.int .u64 (u : Int)) (rc (s_add ((u + 1 : Nat) : Int) rfl rfl ((wu64 t0).trans t0) rfl (rc (s_call [.int .u64 ((u + 1 : Nat) : Int)] pl_94 rfl rfl (Len64 (u + 1) t0 H) ?_)))))))))))
 rintro _ w3 ⟨rfl, H4⟩
 refine rc (s_mul (2 * (bitLen (u + 1) : Int)) rfl rfl (wi64 (by have := bitLen_le64 (u := u + 1) t0; omega)) rfl (rc (s_sub (2 * (bitLen (u + 1) : Int) - 1) rfl rfl (wi64 (by have := bitLen_le64 (u := u + 1) t0; omega)) rfl (Ag (.int .i64 (2 * (bitLen (u + 1) : Int) - 1)) (r_nil (Gr [.int .i64 (2 * (bitLen (u + 1) : Int) - 1)] Tryz.func65 Tryz.results65 ?_))))))
 have H5 : St W w3 F := H4
 exact ⟨vint (by unfold sizeU; first | rw [if_pos t0] | (rw [if_neg t0]; have := bitLen_pos (u := u + 1) t0; omega)), H5⟩
theorem NewSink (H : St W w F) : Calls Tryz.prog 27 #[] w (Ret fun v w' => ∃ k, v = .pointer (pa k) ∧ St W w' (SinkA k [] :: F)) := by
 refine calls_of_go (n := 3) Tryz.func27 rfl Tryz.ntmps27 rfl ?_
 refine g_seq (g_region (Ag (.pointer none) (r_nil (g_seq (g_region (rc (s_build (cs := #[.bool true, .slice none 0 0, .int .i64 0]) t5 rfl (Bx H 106 #[.bool true, .slice none 0 0, .int .i64 0] (fun bk1 w2 H3 => Ag (.pointer (pa bk1)) (r_nil (Gr [.pointer (pa bk1)] Tryz.func27 Tryz.results27 ?_)))))))))))
 have H4 : St W w2 (_ :: F) := H3
 have H5 := ((Row.nil_intro H4 5 1).move 1 rfl)
 exact ⟨bk1, rfl, St.shut_ex (.slice none 0 0) (St.shut_star (ls := [blk bk1 (.cells #[.bool true, .slice none 0 0, .int .i64 (([] : List Bool).length : Int)] 106 (0, 0)), Row 5 1 (.slice none 0 0) ((([] : List Bool).length + 7) / 8) ((pk []).flatMap u8c)]) H5)⟩
theorem Sink_Len (b : Nat) (L : List Bool)  {i : Nat} (hi : F[i]? = some (SinkA b L)) (H : St W w F) : Calls Tryz.prog 70 #[.pointer (pa b)] w (Ret fun v w' => v = .int .i64 (L.length : Int) ∧ St W w' F) := by
 have H0 := H.front hi
 refine calls_of_go (n := 9) Tryz.func70 rfl Tryz.ntmps70 rfl ?_
 refine g_seq (g_region (Ag (.int .i64 0) (r_nil (g_seq (g_seq (g_region (Mv (.pointer (pa b)) (rc (s_peql false un_58 rfl rfl rfl rfl (r_nil (g_false rfl (g_skip (g_seq (g_region (Mv (.pointer (pa b)) (Nc (.pointer (pa b)) (Fa 2 fi_106_2 rfl ?_)))))))))))))))))
 have H1 := H0.move 0 rfl
 obtain ⟨vv2, H3⟩ := St.open_ex H1
 have H4 := St.open_star H3
 obtain ⟨pp5, cc6, rfl⟩ := Row.slice (i := 1) H4 rfl
 have H7 : St W w (_ :: _ :: (F.set i emp)) := H4
 refine Lo (.int .i64 (L.length : Int)) ag_3 H7 0 (Ag (.int .i64 (L.length : Int)) (r_nil (Gr [.int .i64 (L.length : Int)] Tryz.func70 Tryz.results70 ?_)))
 have H8 : St W w (SinkA b L :: (F.set i emp)) := St.shut_ex (.slice pp5 ((L.length + 7) / 8) cc6) (St.shut_star (ls := [_, _]) H7)
 have H9 : St W w (_ :: (F.set i emp)) := H8
 exact ⟨rfl, St.back_same hi H9⟩
theorem Sink_room (b : Nat) (L : List Bool) (n : Int) (hb : L.length ≤ 1048576) {i : Nat} (hi : F[i]? = some (SinkA b L)) (H : St W w F) : Calls Tryz.prog 64 #[.pointer (pa b), .int .i64 n] w (Ret fun v w' => v = .int .i64 (putE L n) ∧ St W w' F) := by
 have H0 := H.front hi
 refine calls_of_go (n := 23) Tryz.func64 rfl Tryz.ntmps64 rfl ?_
 refine g_seq (g_region (Ag (.int .i64 0) (r_nil (g_seq (g_block (g_seq (g_region (Mv (.pointer (pa b)) (rc (s_peql false un_58 rfl rfl rfl rfl (Mv (.bool false) (Rt (Mw (.pointer (pa b)) (Rt (s_nilCheck (.pointer (pa b)) rfl ⟨_, rfl⟩ rfl (Rt (s_fieldAddr 106 0 0 0 4 rfl fi_106_0 rfl rfl (Rt ?_))))))))))))))))))
 have H1 := H0.move 0 rfl
 obtain ⟨vv2, H3⟩ := St.open_ex H1
 have H4 := St.open_star H3
 obtain ⟨pp5, cc6, rfl⟩ := Row.slice (i := 1) H4 rfl
 have H7 : St W w (_ :: _ :: (F.set i emp)) := H4
 refine s_load (.bool true) ag_4 rfl (H7.blk_at (i := 0) rfl) rfl rfl (Rt (s_not true rfl false rfl rfl (Pf (.bool false) (Ag (.bool false) (r_nil (g_false rfl (g_seq (g_region (Mv (.int .i64 n) (Mv (.pointer (pa b)) (Nc (.pointer (pa b)) (Fa 2 fi_106_2 rfl (Lo (.int .i64 (L.length : Int)) ag_3 H7 0 (rc (s_sub (1048576 - (L.length : Int)) rfl rfl (wi64 t0) rfl ?_)))))))))))))))
 by_cases hc8 : 1048576 - (L.length : Int) < n
 ·refine rc (s_gtr true rfl rfl (dtrue hc8) rfl (Ag (.bool true) (r_nil (g_true rfl (g_seq (g_region (Ag (.int .i64 3) (r_nil (Gr [.int .i64 3] Tryz.func64 Tryz.results64 ?_)))))))))
  have H9 : St W w (SinkA b L :: (F.set i emp)) := St.shut_ex (.slice pp5 ((L.length + 7) / 8) cc6) (St.shut_star (ls := [_, _]) H7)
  have H10 : St W w (_ :: (F.set i emp)) := H9
  exact ⟨vint (by first | exact (putE_3 ‹_›).symm | exact (putE_0 ‹_›).symm), St.back_same hi H10⟩
 refine rc (s_gtr false rfl rfl (dfalse hc8) rfl (Ag (.bool false) (r_nil (g_false rfl (g_skip (g_inBlock (g_seq (g_region (Ag (.int .i64 0) (r_nil (Gr [.int .i64 0] Tryz.func64 Tryz.results64 ?_)))))))))))
 have H11 : St W w (SinkA b L :: (F.set i emp)) := St.shut_ex (.slice pp5 ((L.length + 7) / 8) cc6) (St.shut_star (ls := [_, _]) H7)
 have H12 : St W w (_ :: (F.set i emp)) := H11
 exact ⟨vint (by first | exact (putE_3 ‹_›).symm | exact (putE_0 ‹_›).symm), St.back_same hi H12⟩
theorem Sink_all (b : Nat) (L : List Bool) (u n : Nat) (hu : u < 18446744073709551616) (hn : n ≤ 64) (hb : L.length ≤ 1099511000000) {i : Nat} (hi : F[i]? = some (SinkA b L)) (H : St W w F) : Calls Tryz.prog 67 #[.pointer (pa b), .int .u64 (u : Int), .int .i64 (n : Int)] w (Ret fun v w' => v = .tuple #[] ∧ St W w' (F.set i (SinkA b (L ++ lowB u n)))) := by
 have H0 := H.front hi
 refine calls_of_go (n := 22) Tryz.func67 rfl Tryz.ntmps67 rfl ?_
 refine g_seq (g_region (Mv (.int .i64 (n : Int)) (Mv (.int .i64 0) (r_nil (g_block ?_)))))
 have H1 : St W w (SinkA b (L ++ lowK u n 0) :: (F.set i emp)) := by rw [show L ++ lowK u n 0 = L from List.append_nil L]; exact H0
 refine g_loop_inv (fun (j : Nat) => [(0, .pointer (pa b)), (1, .int .u64 (u : Int)), (2, .int .i64 (n : Int)), (7, .int .i64 (n : Int)), (8, .int .i64 (j : Int))]) (fun j w => (j ≤ n) ∧ St W w (SinkA b (L ++ lowK u n j) :: (F.set i emp))) (fun j => n - j) (0) ?_ ?_ ?_
 ·exact t1
 ·exact ⟨t0, H1⟩
 rintro j ρ2 w3 ⟨hj, H4⟩ nx5
 change Ends _ _ (upds ρ2 [(0, .pointer (pa b)), (1, .int .u64 (u : Int)), (2, .int .i64 (n : Int)), (7, .int .i64 (n : Int)), (8, .int .i64 (j : Int))]) w3
 refine g_seq (g_region ?_)
 by_cases hc6 : (j : Int) < (n : Int)
 ·refine rc (s_lss true rfl rfl (dtrue hc6) rfl (r_nil (g_seq (g_true rfl (g_skip (g_seq (g_block (g_seq (g_region (Mv (.int .i64 (j : Int)) (Ag (.int .i64 (j : Int)) (r_nil (g_region (Mv (.pointer (pa b)) (Mv (.int .u64 (u : Int)) (Mv (.int .i64 (n : Int)) (rc (s_sub ((n : Int) - 1) rfl rfl (wi64 t0) rfl (Mv (.int .i64 (j : Int)) (rc (s_sub ((n : Int) - 1 - (j : Int)) rfl rfl (wi64 t0) rfl (rc (s_shr ((u / 2 ^ (n - 1 - j) : Nat) : Int) rfl rfl t0 (shr_nat (k := n - 1 - j) t0 (by show _ ≤ 64; omega)) rfl (rc (s_and ((u / 2 ^ (n - 1 - j) % 2 : Nat) : Int) rfl rfl (and_one _ (Nat.lt_of_le_of_lt (Nat.div_le_self _ _) hu)) rfl (rc (s_eql (u.testBit (n - 1 - j)) rfl rfl (bit_is u (n - 1 - j)) rfl (rc (s_call [.pointer (pa b), .bool (u.testBit (n - 1 - j))] pl_95 rfl rfl (Sink_put b (L ++ lowK u n j) (u.testBit (n - 1 - j)) t46 (i := 0) rfl H4) ?_)))))))))))))))))))))))))))))
  rintro _ w7 ⟨rfl, H8⟩
  refine r_nil (g_inBlock (g_region (rc (s_add ((j : Int) + 1) rfl rfl (wi64 t0) rfl (Mv (.int .i64 ((j : Int) + 1)) (r_nil ?_))))))
  have H9 : St W w7 (_ :: (F.set i emp)) := H8
  have H10 : St W w7 (SinkA b (L ++ lowK u n (j + 1)) :: (F.set i emp)) := by rw [← app_lowK]; exact H9
  exact nx5 (j + 1) _ _ ⟨t0, H10⟩ t7 t1
 refine rc (s_lss false rfl rfl (dfalse hc6) rfl (r_nil (g_seq (g_false rfl (g_exit t39 ?_)))))
 refine g_end' [] Tryz.func67 Tryz.results67 trivial ?_
 have H11 : St W w3 (_ :: (F.set i emp)) := H4
 obtain rfl : j = n := by omega
 exact ⟨rfl, St.back hi H11⟩
theorem Sink_nat (b : Nat) (L : List Bool) (u : Nat) (hu : u < 18446744073709551616) (hb : L.length ≤ 1048576) {i : Nat} (hi : F[i]? = some (SinkA b L)) (H : St W w F) : Calls Tryz.prog 66 #[.pointer (pa b), .int .u64 (u : Int)] w (Ret fun v w' => v = .tuple #[] ∧ St W w' (F.set i (SinkA b (L ++ natB u)))) := by
 have H0 := H.front hi
 refine calls_of_go (n := 23) Tryz.func66 rfl Tryz.ntmps66 rfl ?_
 refine g_seq (g_region (Mv (.int .u64 (u : Int)) (rc (s_call [.int .u64 (u : Int)] pl_65 rfl rfl (Size (u) t0 H0) ?_))))
 rintro _ w1 ⟨rfl, H2⟩
 have hsz := sizeU_le hu
 refine rc (s_quo ((sizeU u / 2 : Nat) : Int) rfl rfl t0 (by rw [tdiv_pos t0]; exact (wi64 t0).trans t0) rfl (Ag (.int .i64 ((sizeU u / 2 : Nat) : Int)) (r_nil (g_seq (g_region (Mv (.pointer (pa b)) (Mv (.int .i64 ((sizeU u / 2 : Nat) : Int)) (rc (s_call [.pointer (pa b), .int .u64 0, .int .i64 ((sizeU u / 2 : Nat) : Int)] pl_67 rfl rfl (Sink_all b L (0) (sizeU u / 2) t0 t0 t40 (i := 0) rfl H2) ?_)))))))))
 rintro _ w3 ⟨rfl, H4⟩
 refine r_nil (g_seq (g_seq (g_region (Mv (.int .i64 ((sizeU u / 2 : Nat) : Int)) ?_))))
 by_cases hc5 : ((sizeU u / 2 : Nat) : Int) = 64
 ·refine rc (s_eql true rfl rfl (dtrue hc5) rfl (r_nil (g_true rfl (g_seq (g_region (Mv (.pointer (pa b)) (rc (s_call [.pointer (pa b), .bool true] pl_95 rfl rfl (Sink_put b (L ++ lowB 0 (sizeU u / 2)) true t46 (i := 0) rfl H4) ?_))))))))
  rintro _ w6 ⟨rfl, H7⟩
  refine r_nil (g_seq (g_region (Mv (.pointer (pa b)) (rc (s_call [.pointer (pa b), .int .u64 0, .int .i64 64] pl_67 rfl rfl (Sink_all b ((L ++ lowB 0 (sizeU u / 2)) ++ [true]) (0) (64) t0 t0 t40 (i := 0) rfl H7) ?_)))))
  rintro _ w8 ⟨rfl, H9⟩
  refine r_nil ?_
  refine g_ret' [] Tryz.func66 Tryz.results66 trivial ?_
  have H10 : St W w8 (_ :: (F.set i emp)) := H9
  have hL : L ++ natB u = (L ++ lowB 0 (sizeU u / 2)) ++ [true] ++ lowB 0 64 := by rw [natB_max ((sizeU_64 hu).1 t0)]; simp only [List.append_assoc]
  exact ⟨rfl, by rw [hL]; exact St.back hi H10⟩
 refine rc (s_eql false rfl rfl (dfalse hc5) rfl (r_nil (g_false rfl (g_skip (g_region ?_)))))
 have hne : u + 1 < 18446744073709551616 := by have := (sizeU_64 hu); omega
 refine Mv (.pointer (pa b)) (Mv (.int .u64 (u : Int)) (rc (s_add ((u + 1 : Nat) : Int) rfl rfl ((wu64 t0).trans t0) rfl (Mv (.int .i64 ((sizeU u / 2 : Nat) : Int)) (rc (s_add ((sizeU u / 2 + 1 : Nat) : Int) rfl rfl ((wi64 t0).trans t0) rfl (rc (s_call [.pointer (pa b), .int .u64 ((u + 1 : Nat) : Int), .int .i64 ((sizeU u / 2 + 1 : Nat) : Int)] pl_67 rfl rfl (Sink_all b (L ++ lowB 0 (sizeU u / 2)) (u + 1) (sizeU u / 2 + 1) t0 t0 t40 (i := 0) rfl H4) ?_))))))))
 rintro _ w11 ⟨rfl, H12⟩
 refine r_nil ?_
 refine g_end' [] Tryz.func66 Tryz.results66 trivial ?_
 have H13 : St W w11 (_ :: (F.set i emp)) := H12
 have hL : L ++ natB u = L ++ lowB 0 (sizeU u / 2) ++ lowB (u + 1) (sizeU u / 2 + 1) := by rw [natB_is (fun h => by have := (sizeU_64 hu).2 h; omega)]; simp only [List.append_assoc]
 exact ⟨rfl, by rw [hL]; exact St.back hi H13⟩
theorem Sink_Nat (b : Nat) (L : List Bool) (u : Nat) (hu : u < 18446744073709551616) (hb : L.length ≤ 1048576) {i : Nat} (hi : F[i]? = some (SinkA b L)) (H : St W w F) : Calls Tryz.prog 28 #[.pointer (pa b), .int .u64 (u : Int)] w (Ret fun v w' => v = .int .i64 (putE L (sizeU u : Int)) ∧ St W w' (F.set i (SinkA b (putL L (natB u))))) := by
 have H0 := H.front hi
 refine calls_of_go (n := 16) Tryz.func28 rfl Tryz.ntmps28 rfl ?_
 refine g_seq (g_region (Ag (.int .i64 0) (r_nil (g_seq (g_region (Mv (.pointer (pa b)) (Mv (.int .u64 (u : Int)) (rc (s_call [.int .u64 (u : Int)] pl_65 rfl rfl (Size (u) t0 H0) ?_)))))))))
 rintro _ w1 ⟨rfl, H2⟩
 refine rc (s_call [.pointer (pa b), .int .i64 (sizeU u : Int)] pl_64 rfl rfl (Sink_room b L (sizeU u : Int) t2 (i := 0) rfl H2) ?_)
 rintro _ w3 ⟨rfl, H4⟩
 refine Ag (.int .i64 (putE L (sizeU u : Int))) (r_nil (g_seq (g_seq (g_region (Mv (.int .i64 (putE L (sizeU u : Int))) ?_)))))
 by_cases hc5 : putE L (sizeU u : Int) = 0
 ·refine rc (s_eql true rfl rfl (dtrue hc5) rfl (r_nil (g_true rfl (g_region (Mv (.pointer (pa b)) (Mv (.int .u64 (u : Int)) (rc (s_call [.pointer (pa b), .int .u64 (u : Int)] pl_66 rfl rfl (Sink_nat b L (u) t0 t2 (i := 0) rfl H4) ?_))))))))
  rintro _ w6 ⟨rfl, H7⟩
  refine r_nil (g_seq (g_region (Mv (.int .i64 (putE L (sizeU u : Int))) (Ag (.int .i64 (putE L (sizeU u : Int))) (r_nil (Gr [.int .i64 (putE L (sizeU u : Int))] Tryz.func28 Tryz.results28 ?_))))))
  have H8 : St W w6 (_ :: (F.set i emp)) := H7
  exact ⟨rfl, by rw [putL_0 (M := natB u) (n := (sizeU u : Int)) (by rw [natB_len]) ‹_›]; exact St.back hi H8⟩
 refine rc (s_eql false rfl rfl (dfalse hc5) rfl (r_nil (g_false rfl (g_skip (g_seq (g_region (Mv (.int .i64 (putE L (sizeU u : Int))) (Ag (.int .i64 (putE L (sizeU u : Int))) (r_nil (Gr [.int .i64 (putE L (sizeU u : Int))] Tryz.func28 Tryz.results28 ?_))))))))))
 have H9 : St W w3 (_ :: (F.set i emp)) := H4
 exact ⟨rfl, by rw [putL_no (M := natB u) (n := (sizeU u : Int)) (by rw [natB_len]) ‹_›]; exact St.back hi H9⟩
theorem Sink_Num (b : Nat) (L : List Bool) (n : Int) (h1 : -9223372036854775808 ≤ n) (h2 : n ≤ 9223372036854775807) (hb : L.length ≤ 1048576) {i : Nat} (hi : F[i]? = some (SinkA b L)) (H : St W w F) : Calls Tryz.prog 125 #[.pointer (pa b), .int .i64 n] w (Ret fun v w' => v = .int .i64 (putE L (sizeU (zigN n) : Int)) ∧ St W w' (F.set i (SinkA b (putL L (natB (zigN n)))))) := by
 have H0 := H.front hi
 refine calls_of_go (n := 13) Tryz.func125 rfl Tryz.ntmps125 rfl ?_
 refine g_seq (g_region (Ag (.int .i64 0) (r_nil (g_seq (g_region (Mv (.pointer (pa b)) (Mv (.int .i64 n) (rc (s_shl (IntKind.i64.wrap (n * 2 ^ (min (1 : Int).toNat 64))) rfl rfl t0 rfl rfl (Mv (.int .i64 n) (rc (s_shr (n.fdiv (2 ^ (min (63 : Int).toNat 64))) rfl rfl t0 rfl rfl (rc (s_xor (bitOp .xor .i64 (IntKind.i64.wrap (n * 2 ^ (min (1 : Int).toNat 64))) (n.fdiv (2 ^ (min (63 : Int).toNat 64)))) rfl rfl rfl rfl (rc (s_conv ((zigN n : Nat) : Int) rfl us_2 ik_61 (zig_bits h1 h2) rfl ?_))))))))))))))))
 have hz := zigN_lt h1 h2
 refine rc (s_call [.pointer (pa b), .int .u64 ((zigN n : Nat) : Int)] pl_28 rfl rfl (Sink_Nat b L (zigN n) t0 t2 (i := 0) rfl H0) ?_)
 rintro _ w1 ⟨rfl, H2⟩
 refine Ag (.int .i64 (putE L (sizeU (zigN n) : Int))) (r_nil (Gr [.int .i64 (putE L (sizeU (zigN n) : Int))] Tryz.func125 Tryz.results125 ?_))
 have H3 : St W w1 (_ :: (F.set i emp)) := H2
 exact ⟨rfl, St.back hi H3⟩
theorem Sink_Bits (b : Nat) (L : List Bool) (u : Nat) (n : Int) (hu : u < 18446744073709551616) (hb : L.length ≤ 1048576) {i : Nat} (hi : F[i]? = some (SinkA b L)) (H : St W w F) : Calls Tryz.prog 29 #[.pointer (pa b), .int .u64 (u : Int), .int .i64 n] w (Ret fun v w' => v = .int .i64 (bitsE L u n) ∧ St W w' (F.set i (SinkA b (bitsL L u n)))) := by
 have H0 := H.front hi
 refine calls_of_go (n := 43) Tryz.func29 rfl Tryz.ntmps29 rfl ?_
 refine g_seq (g_region (Ag (.int .i64 0) (r_nil (g_seq (g_seq (g_region (Mv (.pointer (pa b)) (rc (s_peql false un_58 rfl rfl rfl rfl (Mv (.bool false) (Rt (Mw (.pointer (pa b)) (Rt (s_nilCheck (.pointer (pa b)) rfl ⟨_, rfl⟩ rfl (Rt (s_fieldAddr 106 0 0 0 4 rfl fi_106_0 rfl rfl (Rt ?_)))))))))))))))))
 have H1 := H0.move 0 rfl
 obtain ⟨vv2, H3⟩ := St.open_ex H1
 have H4 := St.open_star H3
 obtain ⟨pp5, cc6, rfl⟩ := Row.slice (i := 1) H4 rfl
 have H7 : St W w (_ :: _ :: (F.set i emp)) := H4
 refine s_load (.bool true) ag_4 rfl (H7.blk_at (i := 0) rfl) rfl rfl (Rt (s_not true rfl false rfl rfl (Pf (.bool false) (r_nil (g_false rfl (g_skip (g_seq (g_seq (g_region (Mv (.int .i64 n) ?_))))))))))
 by_cases hc8 : n < 0
 ·refine rc (s_lss true rfl rfl (dtrue hc8) rfl (Mv (.bool true) (Rp (Rp (Pt (.bool true) (Mv (.bool true) (Rp (Rp (Rp (Rn (Rn (Rn (Rn (Rp (Pt (.bool true) (r_nil (g_true rfl (g_seq (g_region (Ag (.int .i64 1) (r_nil (Gr [.int .i64 1] Tryz.func29 Tryz.results29 ?_))))))))))))))))))))))
  have H9 : St W w (SinkA b L :: (F.set i emp)) := St.shut_ex (.slice pp5 ((L.length + 7) / 8) cc6) (St.shut_star (ls := [_, _]) H7)
  have H10 : St W w (_ :: (F.set i emp)) := H9
  have hf : fitsB u n = false := by first | exact fits_not1 t0 | exact fits_not2 ‹_›
  exact ⟨vint (by unfold bitsE; rw [if_neg (by rw [hf]; simp)]), by rw [show bitsL L u n = L from if_neg (by rw [hf]; simp)]; exact St.back hi H10⟩
 refine rc (s_lss false rfl rfl (dfalse hc8) rfl (Mv (.bool false) (Rt (Mw (.int .i64 n) (Rt ?_)))))
 by_cases hc11 : (64 : Int) < n
 ·refine s_gtr true rfl rfl (dtrue hc11) rfl (Pf (.bool true) (Mv (.bool true) (Rp (Rp (Rp (Rn (Rn (Rn (Rn (Rp (Pt (.bool true) (r_nil (g_true rfl (g_seq (g_region (Ag (.int .i64 1) (r_nil (Gr [.int .i64 1] Tryz.func29 Tryz.results29 ?_))))))))))))))))))
  have H12 : St W w (SinkA b L :: (F.set i emp)) := St.shut_ex (.slice pp5 ((L.length + 7) / 8) cc6) (St.shut_star (ls := [_, _]) H7)
  have H13 : St W w (_ :: (F.set i emp)) := H12
  have hf : fitsB u n = false := by first | exact fits_not1 t0 | exact fits_not2 ‹_›
  exact ⟨vint (by unfold bitsE; rw [if_neg (by rw [hf]; simp)]), by rw [show bitsL L u n = L from if_neg (by rw [hf]; simp)]; exact St.back hi H13⟩
 refine s_gtr false rfl rfl (dfalse hc11) rfl (Pf (.bool false) (Mv (.bool false) (Rt (Mw (.int .i64 n) (Rt ?_)))))
 by_cases hc14 : n < 64
 ·refine s_lss true rfl rfl (dtrue hc14) rfl (Rt (Mw (.bool true) (Rt (Mw (.int .u64 (u : Int)) (Rt (Mw (.int .i64 n) (Rt (s_shr ((u / 2 ^ n.toNat : Nat) : Int) rfl rfl t0 (shr_nat (k := n.toNat) t0 (by show _ ≤ 64; omega)) rfl (Rt ?_)))))))))
  by_cases hc15 : ((u / 2 ^ n.toNat : Nat) : Int) = 0
  ·refine s_neq false rfl rfl (ntrue hc15) rfl (Rt (s_pick_t (.bool false) rfl rfl rfl (Pf (.bool false) (r_nil (g_false rfl (g_skip (g_seq (g_region ?_))))))))
   have hf : fitsB u n = true := by first | exact fits_64 hu t0 | exact fits_yes t0 t0 ‹_›
   have hnn : n = (n.toNat : Int) := by omega
   refine Mv (.pointer (pa b)) (Mv (.int .i64 n) ?_)
   have H16 : St W w (SinkA b L :: (F.set i emp)) := St.shut_ex (.slice pp5 ((L.length + 7) / 8) cc6) (St.shut_star (ls := [_, _]) H7)
   refine rc (s_call [.pointer (pa b), .int .i64 n] pl_64 rfl rfl (Sink_room b L n t2 (i := 0) rfl H16) ?_)
   rintro _ w17 ⟨rfl, H18⟩
   refine Ag (.int .i64 (putE L n)) (r_nil (g_seq (g_seq (g_region (Mv (.int .i64 (putE L n)) ?_)))))
   by_cases hc19 : putE L n = 0
   ·refine rc (s_eql true rfl rfl (dtrue hc19) rfl (r_nil (g_true rfl (g_region (Mv (.pointer (pa b)) (Mv (.int .u64 (u : Int)) (Mv (.int .i64 n) (rc (s_call [.pointer (pa b), .int .u64 (u : Int), .int .i64 ((n.toNat : Nat) : Int)] pl_67 (by rw [← hnn]; rfl) rfl (Sink_all b L u n.toNat t0 t0 t0 (i := 0) rfl H18) ?_)))))))))
    rintro _ w20 ⟨rfl, H21⟩
    refine r_nil (g_seq (g_region (Mv (.int .i64 (putE L n)) (Ag (.int .i64 (putE L n)) (r_nil (Gr [.int .i64 (putE L n)] Tryz.func29 Tryz.results29 ?_))))))
    have H22 : St W w20 (_ :: (F.set i emp)) := H21
    exact ⟨vint (by unfold bitsE; rw [if_pos hf]), by rw [show bitsL L u n = putL L (lowB u n.toNat) from if_pos hf, putL_0 (M := lowB u n.toNat) (n := n) (by rw [lowB_len]; omega) ‹_›]; exact St.back hi H22⟩
   refine rc (s_eql false rfl rfl (dfalse hc19) rfl (r_nil (g_false rfl (g_skip (g_seq (g_region (Mv (.int .i64 (putE L n)) (Ag (.int .i64 (putE L n)) (r_nil (Gr [.int .i64 (putE L n)] Tryz.func29 Tryz.results29 ?_))))))))))
   have H23 : St W w17 (_ :: (F.set i emp)) := H18
   exact ⟨vint (by unfold bitsE; rw [if_pos hf]), by rw [show bitsL L u n = putL L (lowB u n.toNat) from if_pos hf, putL_no (M := lowB u n.toNat) (n := n) (by rw [lowB_len]; omega) ‹_›]; exact St.back hi H23⟩
  refine s_neq true rfl rfl (nfalse hc15) rfl (Rt (s_pick_t (.bool true) rfl rfl rfl (Pf (.bool true) (r_nil (g_true rfl (g_seq (g_region (Ag (.int .i64 1) (r_nil (Gr [.int .i64 1] Tryz.func29 Tryz.results29 ?_))))))))))
  have H24 : St W w (SinkA b L :: (F.set i emp)) := St.shut_ex (.slice pp5 ((L.length + 7) / 8) cc6) (St.shut_star (ls := [_, _]) H7)
  have H25 : St W w (_ :: (F.set i emp)) := H24
  have hf : fitsB u n = false := by first | exact fits_not1 t0 | exact fits_not2 ‹_›
  exact ⟨vint (by unfold bitsE; rw [if_neg (by rw [hf]; simp)]), by rw [show bitsL L u n = L from if_neg (by rw [hf]; simp)]; exact St.back hi H25⟩
 refine s_lss false rfl rfl (dfalse hc14) rfl (Rt (Mw (.bool false) (Rp (Rp (Rp (Rp (Rt (s_pick_f (.bool false) rfl rfl rfl (Pf (.bool false) (r_nil (g_false rfl (g_skip (g_seq (g_region ?_))))))))))))))
 have hf : fitsB u n = true := by first | exact fits_64 hu t0 | exact fits_yes t0 t0 ‹_›
 have hnn : n = (n.toNat : Int) := by omega
 refine Mv (.pointer (pa b)) (Mv (.int .i64 n) ?_)
 have H26 : St W w (SinkA b L :: (F.set i emp)) := St.shut_ex (.slice pp5 ((L.length + 7) / 8) cc6) (St.shut_star (ls := [_, _]) H7)
 refine rc (s_call [.pointer (pa b), .int .i64 n] pl_64 rfl rfl (Sink_room b L n t2 (i := 0) rfl H26) ?_)
 rintro _ w27 ⟨rfl, H28⟩
 refine Ag (.int .i64 (putE L n)) (r_nil (g_seq (g_seq (g_region (Mv (.int .i64 (putE L n)) ?_)))))
 by_cases hc29 : putE L n = 0
 ·refine rc (s_eql true rfl rfl (dtrue hc29) rfl (r_nil (g_true rfl (g_region (Mv (.pointer (pa b)) (Mv (.int .u64 (u : Int)) (Mv (.int .i64 n) (rc (s_call [.pointer (pa b), .int .u64 (u : Int), .int .i64 ((n.toNat : Nat) : Int)] pl_67 (by rw [← hnn]; rfl) rfl (Sink_all b L u n.toNat t0 t0 t0 (i := 0) rfl H28) ?_)))))))))
  rintro _ w30 ⟨rfl, H31⟩
  refine r_nil (g_seq (g_region (Mv (.int .i64 (putE L n)) (Ag (.int .i64 (putE L n)) (r_nil (Gr [.int .i64 (putE L n)] Tryz.func29 Tryz.results29 ?_))))))
  have H32 : St W w30 (_ :: (F.set i emp)) := H31
  exact ⟨vint (by unfold bitsE; rw [if_pos hf]), by rw [show bitsL L u n = putL L (lowB u n.toNat) from if_pos hf, putL_0 (M := lowB u n.toNat) (n := n) (by rw [lowB_len]; omega) ‹_›]; exact St.back hi H32⟩
 refine rc (s_eql false rfl rfl (dfalse hc29) rfl (r_nil (g_false rfl (g_skip (g_seq (g_region (Mv (.int .i64 (putE L n)) (Ag (.int .i64 (putE L n)) (r_nil (Gr [.int .i64 (putE L n)] Tryz.func29 Tryz.results29 ?_))))))))))
 have H33 : St W w27 (_ :: (F.set i emp)) := H28
 exact ⟨vint (by unfold bitsE; rw [if_pos hf]), by rw [show bitsL L u n = putL L (lowB u n.toNat) from if_pos hf, putL_no (M := lowB u n.toNat) (n := n) (by rw [lowB_len]; omega) ‹_›]; exact St.back hi H33⟩
theorem Sink_Text (b : Nat) (L : List Bool) (s : ByteArray) (hs : s.size ≤ 140737488355328) (hb : L.length ≤ 1048576) {i : Nat} (hi : F[i]? = some (SinkA b L)) (H : St W w F) : Calls Tryz.prog 96 #[.pointer (pa b), .string s] w (Ret fun v w' => v = .int .i64 (putE L ((textB s).length : Int)) ∧ St W w' (F.set i (SinkA b (putL L (textB s))))) := by
 have H0 := H.front hi
 refine calls_of_go (n := 50) Tryz.func96 rfl Tryz.ntmps96 rfl ?_
 refine g_seq (g_region (Ag (.int .i64 0) (r_nil (g_seq (g_seq (g_region (Mv (.pointer (pa b)) (rc (s_peql false un_58 rfl rfl rfl rfl (Mv (.bool false) (Rt (Mw (.pointer (pa b)) (Rt (s_nilCheck (.pointer (pa b)) rfl ⟨_, rfl⟩ rfl (Rt (s_fieldAddr 106 0 0 0 4 rfl fi_106_0 rfl rfl (Rt ?_)))))))))))))))))
 have H1 := H0.move 0 rfl
 obtain ⟨vv2, H3⟩ := St.open_ex H1
 have H4 := St.open_star H3
 obtain ⟨pp5, cc6, rfl⟩ := Row.slice (i := 1) H4 rfl
 have H7 : St W w (_ :: _ :: (F.set i emp)) := H4
 refine s_load (.bool true) ag_4 rfl (H7.blk_at (i := 0) rfl) rfl rfl (Rt (s_not true rfl false rfl rfl (Pf (.bool false) (r_nil (g_false rfl (g_skip (g_seq (g_seq (g_region (Mv (.string s) (rc (s_len_str (s).size rfl st_9 rfl rfl ?_))))))))))))
 by_cases hc8 : (1048576 : Int) < (s.size : Int)
 ·refine rc (s_gtr true rfl rfl (dtrue hc8) rfl (r_nil (g_true rfl (g_seq (g_region (Ag (.int .i64 3) (r_nil (Gr [.int .i64 3] Tryz.func96 Tryz.results96 ?_))))))))
  have H9 : St W w (SinkA b L :: (F.set i emp)) := St.shut_ex (.slice pp5 ((L.length + 7) / 8) cc6) (St.shut_star (ls := [_, _]) H7)
  have H10 : St W w (_ :: (F.set i emp)) := H9
  have he : putE L ((textB s).length : Int) = 3 := putE_3 (by rw [textB_len]; push_cast; omega)
  exact ⟨vint he.symm, by rw [putL_no rfl (by rw [he]; decide)]; exact St.back hi H10⟩
 refine rc (s_gtr false rfl rfl (dfalse hc8) rfl (r_nil (g_false rfl (g_skip (g_seq (g_region (Mv (.pointer (pa b)) (Mv (.string s) (rc (s_len_str (s).size rfl st_9 rfl rfl (rc (s_conv (s.size : Int) rfl us_3 ik_61 (wu64 t0) rfl (rc (s_call [.int .u64 (s.size : Int)] pl_65 rfl rfl (Size (s.size) t0 H7) ?_))))))))))))))
 rintro _ w11 ⟨rfl, H12⟩
 refine Mv (.string s) (rc (s_len_str (s).size rfl st_9 rfl rfl ?_))
 have hsz := sizeU_le (u := s.size) t0
 refine rc (s_mul (8 * (s.size : Int)) rfl rfl (wi64 t0) rfl (rc (s_add ((sizeU s.size : Int) + (8 * (s.size : Int))) rfl rfl (wi64 t0) rfl ?_)))
 have H13 : St W w11 (SinkA b L :: (F.set i emp)) := St.shut_ex (.slice pp5 ((L.length + 7) / 8) cc6) (St.shut_star (ls := [_, _]) H12)
 refine rc (s_call [.pointer (pa b), .int .i64 ((sizeU s.size : Int) + (8 * (s.size : Int)))] pl_64 rfl rfl (Sink_room b L ((sizeU s.size : Int) + (8 * (s.size : Int))) t2 (i := 0) rfl H13) ?_)
 rintro _ w14 ⟨rfl, H15⟩
 refine Ag (.int .i64 (putE L ((sizeU s.size : Int) + (8 * (s.size : Int))))) (r_nil (g_seq (g_seq (g_region (Mv (.int .i64 (putE L ((sizeU s.size : Int) + (8 * (s.size : Int))))) ?_)))))
 by_cases hc16 : putE L ((sizeU s.size : Int) + (8 * (s.size : Int))) = 0
 ·refine rc (s_eql true rfl rfl (dtrue hc16) rfl (r_nil (g_true rfl (g_seq (g_region ?_)))))
  have hr := putE_room ‹putE L ((sizeU s.size : Int) + 8 * (s.size : Int)) = 0›
  have hnl := natB_len s.size
  refine Mv (.pointer (pa b)) (Mv (.string s) (rc (s_len_str (s).size rfl st_9 rfl rfl (rc (s_conv (s.size : Int) rfl us_3 ik_61 (wu64 t0) rfl (rc (s_call [.pointer (pa b), .int .u64 (s.size : Int)] pl_66 rfl rfl (Sink_nat b L (s.size) t0 t2 (i := 0) rfl H15) ?_)))))))
  rintro _ w17 ⟨rfl, H18⟩
  refine r_nil (g_seq (g_region (Mv (.string s) (rc (s_str_bytes H18 s rfl us_9 un_27 un_5 rfl (fun bk19 w20 cap22 N23 tl24 hN23 hcap22 htl24 H21 => rc (s_len s.size rfl ⟨_, un_27⟩ rfl (Mv (.int .i64 0) (r_nil (g_block ?_))))))))))
  have H25 : St W w20 (_ :: _ :: (F.set i emp)) := (H21.move 1 rfl)
  have H26 : St W w20 (SinkA b (L ++ natB s.size ++ textK s 0) :: blk bk19 (.cells ((bytesV s.data.toList ++ tl24).toArray) 5 (N23, N23 + 1)) :: (F.set i emp)) := by rw [show L ++ natB s.size ++ textK s 0 = L ++ natB s.size from List.append_nil _]; exact H25
  refine g_loop_inv (fun (j : Nat) => [(0, .pointer (pa b)), (4, .int .i64 0), (5, .int .i64 (putE L ((sizeU s.size : Int) + (8 * (s.size : Int))))), (38, .slice (pa bk19) s.size cap22), (39, .int .i64 (s.size : Int)), (40, .int .i64 (j : Int))]) (fun j w => (j ≤ s.size) ∧ St W w (SinkA b (L ++ natB s.size ++ textK s j) :: blk bk19 (.cells ((bytesV s.data.toList ++ tl24).toArray) 5 (N23, N23 + 1)) :: (F.set i emp))) (fun j => s.size - j) (0) ?_ ?_ ?_
  ·exact t1
  ·exact ⟨t0, H26⟩
  rintro j ρ27 w28 ⟨hj, H29⟩ nx30
  change Ends _ _ (upds ρ27 [(0, .pointer (pa b)), (4, .int .i64 0), (5, .int .i64 (putE L ((sizeU s.size : Int) + (8 * (s.size : Int))))), (38, .slice (pa bk19) s.size cap22), (39, .int .i64 (s.size : Int)), (40, .int .i64 (j : Int))]) w28
  refine g_seq (g_region ?_)
  by_cases hc31 : (j : Int) < (s.size : Int)
  ·refine rc (s_lss true rfl rfl (dtrue hc31) rfl (r_nil (g_seq (g_true rfl (g_skip (g_seq (g_block (g_seq (g_region (rc (s_indexAddr bk19 (j : Int) 1 (0 + j * 1) rfl rfl el_27 t0 rfl rfl (rc (s_load (.int .u8 ((s.data.toList.getD j 0).toNat : Int)) ag_5 rfl (H29.blk_at (i := 1) rfl) (by have hh := bytes_get s tl24 j t0; rw [show 0 + j * 1 = j from by omega]; exact hh) rfl (Ag (.int .u8 ((s.data.toList.getD j 0).toNat : Int)) (r_nil (g_region ?_))))))))))))))))
   have htl := textK_len s j
   have hlt := byteAt_lt s j
   refine Mv (.pointer (pa b)) (Mv (.int .u8 ((s.data.toList.getD j 0).toNat : Int)) (rc (s_conv ((s.data.toList.getD j 0).toNat : Int) rfl us_5 ik_61 (wu64 t0) rfl (rc (s_call [.pointer (pa b), .int .u64 ((s.data.toList.getD j 0).toNat : Int), .int .i64 8] pl_67 rfl rfl (Sink_all b (L ++ natB s.size ++ textK s j) ((s.data.toList.getD j 0).toNat) (8) t0 t0 t40 (i := 0) rfl H29) ?_)))))
   rintro _ w32 ⟨rfl, H33⟩
   refine r_nil (g_inBlock (g_region (rc (s_add ((j : Int) + 1) rfl rfl (wi64 t0) rfl (Mv (.int .i64 ((j : Int) + 1)) (r_nil ?_))))))
   have H34 : St W w32 (_ :: _ :: (F.set i emp)) := (H33.mv [1, 1])
   have H35 : St W w32 (SinkA b (L ++ natB s.size ++ textK s (j + 1)) :: blk bk19 (.cells ((bytesV s.data.toList ++ tl24).toArray) 5 (N23, N23 + 1)) :: (F.set i emp)) := by rw [textK_succ t0, ← List.append_assoc]; exact H34
   exact nx30 (j + 1) _ _ ⟨t0, H35⟩ t7 t1
  refine rc (s_lss false rfl rfl (dfalse hc31) rfl (r_nil (g_seq (g_false rfl (g_exit t39 (g_seq (g_region (Mv (.int .i64 (putE L ((sizeU s.size : Int) + (8 * (s.size : Int))))) (Ag (.int .i64 (putE L ((sizeU s.size : Int) + (8 * (s.size : Int))))) (r_nil (Gr [.int .i64 (putE L ((sizeU s.size : Int) + (8 * (s.size : Int))))] Tryz.func96 Tryz.results96 ?_)))))))))))
  have H36 : St W w28 (_ :: (F.set i emp)) := (H29.drop 1 rfl)
  obtain rfl : j = s.size := by omega
  have hL : L ++ textB s = L ++ natB s.size ++ textK s s.size := by rw [textK_all, List.append_assoc]
  have he : putE L ((textB s).length : Int) = 0 := by rw [textB_len]; push_cast; assumption
  exact ⟨vint (by rw [he]; assumption), by rw [putL_0 rfl he, hL]; exact St.back hi H36⟩
 refine rc (s_eql false rfl rfl (dfalse hc16) rfl (r_nil (g_false rfl (g_skip (g_seq (g_region (Mv (.int .i64 (putE L ((sizeU s.size : Int) + (8 * (s.size : Int))))) (Ag (.int .i64 (putE L ((sizeU s.size : Int) + (8 * (s.size : Int))))) (r_nil (Gr [.int .i64 (putE L ((sizeU s.size : Int) + (8 * (s.size : Int))))] Tryz.func96 Tryz.results96 ?_))))))))))
 have H37 : St W w14 (_ :: (F.set i emp)) := H15
 have he : putE L ((textB s).length : Int) = putE L ((sizeU s.size : Int) + 8 * (s.size : Int)) := by rw [textB_len]; push_cast; rfl
 exact ⟨vint he.symm, by rw [putL_no rfl (by rw [he]; assumption)]; exact St.back hi H37⟩
theorem Sink_Flags (b : Nat) (L : List Bool) (M : List Bool) (mv : Value) (hb : L.length ≤ 1048576) {j : Nat} (hj : F[j]? = some (Im 1 mv M.length (M.flatMap blc))) {i : Nat} (hi : F[i]? = some (SinkA b L)) (H : St W w F) : Calls Tryz.prog 68 #[.pointer (pa b), mv] w (Ret fun v w' => v = .int .i64 (putE L (M.length : Int)) ∧ St W w' (F.set i (SinkA b (putL L M)))) := by
 obtain ⟨pA1, cA2, gA3, oA4, kA5, eA6, zA7, rfl, hn8, hp9, hx10, hs11, hml, H12⟩ := Im.open_ H hj
 have H0 := H12.front (i := i + 1) t34
 refine calls_of_go (n := 25) Tryz.func68 rfl Tryz.ntmps68 rfl ?_
 refine g_seq (g_region (Ag (.int .i64 0) (r_nil (g_seq (g_region (Mv (.pointer (pa b)) (Mv (.slice pA1 M.length cA2) (rc (s_len M.length rfl ⟨_, un_39⟩ rfl (rc (s_call [.pointer (pa b), .int .i64 (M.length : Int)] pl_64 rfl rfl (Sink_room b L (M.length : Int) t2 (i := 0) rfl H0) ?_)))))))))))
 rintro _ w13 ⟨rfl, H14⟩
 refine Ag (.int .i64 (putE L (M.length : Int))) (r_nil (g_seq (g_seq (g_region (Mv (.int .i64 (putE L (M.length : Int))) ?_)))))
 by_cases hc15 : putE L (M.length : Int) = 0
 ·refine rc (s_eql true rfl rfl (dtrue hc15) rfl (r_nil (g_true rfl (g_seq (g_region ?_)))))
  have hr := putE_room ‹putE L (M.length : Int) = 0›
  refine Mv (.slice pA1 M.length cA2) (rc (s_len M.length rfl ⟨_, un_39⟩ rfl (Mv (.int .i64 0) (r_nil (g_block ?_)))))
  have H16 : St W w13 (_ :: _ :: (F.set i emp)) := (H14.mv [1, 1])
  have H17 : St W w13 (SinkA b (L ++ M.take 0) :: imi (0 < M.length) gA3 (.cells kA5 eA6 zA7) :: (F.set i emp)) := by rw [show L ++ M.take 0 = L from List.append_nil _]; exact H16
  refine g_loop_inv (fun (j : Nat) => [(0, .pointer (pa b)), (4, .int .i64 0), (5, .int .i64 (putE L (M.length : Int))), (14, .slice pA1 M.length cA2), (15, .int .i64 (M.length : Int)), (16, .int .i64 (j : Int))]) (fun j w => (j ≤ M.length) ∧ St W w (SinkA b (L ++ M.take j) :: imi (0 < M.length) gA3 (.cells kA5 eA6 zA7) :: (F.set i emp))) (fun j => M.length - j) (0) ?_ ?_ ?_
  ·exact t1
  ·exact ⟨t0, H17⟩
  rintro j ρ18 w19 ⟨hj, H20⟩ nx21
  change Ends _ _ (upds ρ18 [(0, .pointer (pa b)), (4, .int .i64 0), (5, .int .i64 (putE L (M.length : Int))), (14, .slice pA1 M.length cA2), (15, .int .i64 (M.length : Int)), (16, .int .i64 (j : Int))]) w19
  refine g_seq (g_region ?_)
  by_cases hc22 : (j : Int) < (M.length : Int)
  ·refine rc (s_lss true rfl rfl (dtrue hc22) rfl (r_nil (g_seq (g_true rfl (g_skip (g_seq (g_block (g_seq (g_region (rc (s_indexAddr gA3 (off := oA4) (j : Int) 1 (oA4 + j * 1) (by exact congrArg (fun z_ => Value.slice z_ M.length cA2) (hp9 t0)) rfl el_39 t0 rfl rfl (rc (s_load (.bool (M.getD j false)) ag_4 rfl (H20.imi_at (i := 1) rfl t0) (elem_cell (L := M) (i := j) blc_len (hx10 t0) t0 false 0 t9 _ rfl) rfl (Ag (.bool (M.getD j false)) (r_nil (g_region ?_))))))))))))))))
   have htl := List.length_take_le j M
   refine Mv (.pointer (pa b)) (Mv (.bool (M.getD j false)) (rc (s_call [.pointer (pa b), .bool (M.getD j false)] pl_95 rfl rfl (Sink_put b (L ++ M.take j) (M.getD j false) t46 (i := 0) rfl H20) ?_)))
   rintro _ w23 ⟨rfl, H24⟩
   refine r_nil (g_inBlock (g_region (rc (s_add ((j : Int) + 1) rfl rfl (wi64 t0) rfl (Mv (.int .i64 ((j : Int) + 1)) (r_nil ?_))))))
   have H25 : St W w23 (_ :: _ :: (F.set i emp)) := (H24.mv [1, 1])
   have H26 : St W w23 (SinkA b (L ++ M.take (j + 1)) :: imi (0 < M.length) gA3 (.cells kA5 eA6 zA7) :: (F.set i emp)) := by rw [take_snoc t0, ← List.append_assoc]; exact H25
   exact nx21 (j + 1) _ _ ⟨t0, H26⟩ t7 t1
  refine rc (s_lss false rfl rfl (dfalse hc22) rfl (r_nil (g_seq (g_false rfl (g_exit t39 (g_seq (g_region (Mv (.int .i64 (putE L (M.length : Int))) (Ag (.int .i64 (putE L (M.length : Int))) (r_nil (Gr [.int .i64 (putE L (M.length : Int))] Tryz.func68 Tryz.results68 ?_)))))))))))
  have H27 : St W w19 (_ :: (F.set i emp)) := (H20.drop 1 rfl)
  obtain rfl : j = M.length := by omega
  exact ⟨rfl, by rw [putL_0 rfl ‹_›, show L ++ M = L ++ M.take M.length from by rw [List.take_length]]; exact St.back hi H27⟩
 refine rc (s_eql false rfl rfl (dfalse hc15) rfl (r_nil (g_false rfl (g_skip (g_seq (g_region (Mv (.int .i64 (putE L (M.length : Int))) (Ag (.int .i64 (putE L (M.length : Int))) (r_nil (Gr [.int .i64 (putE L (M.length : Int))] Tryz.func68 Tryz.results68 ?_))))))))))
 have H28 : St W w13 (_ :: (F.set i emp)) := (H14.drop 1 rfl)
 exact ⟨rfl, by rw [putL_no rfl ‹_›]; exact St.back hi H28⟩
theorem Sink_Out (b : Nat) (L : List Bool) (hb : L.length ≤ 1048576) {i : Nat} (hi : F[i]? = some (SinkA b L)) (H : St W w F) : Calls Tryz.prog 31 #[.pointer (pa b)] w (Ret fun v w' => ∃ p c, v = .slice p ((L.length + 7) / 8) c ∧ St W w' (Row 5 1 (.slice p ((L.length + 7) / 8) c) ((L.length + 7) / 8) ((pk L).flatMap u8c) :: F)) := by
 have H0 := H.front hi
 refine calls_of_go (n := 10) Tryz.func31 rfl Tryz.ntmps31 rfl ?_
 refine g_seq (g_region (Ag (.slice none 0 0) (r_nil (g_seq (g_seq (g_region (Mv (.pointer (pa b)) (rc (s_peql false un_58 rfl rfl rfl rfl (r_nil (g_false rfl (g_skip (g_seq (g_region (Mv (.pointer (pa b)) (Nc (.pointer (pa b)) (Fa 1 fi_106_1 rfl ?_)))))))))))))))))
 have H1 := H0.move 0 rfl
 obtain ⟨vv2, H3⟩ := St.open_ex H1
 have H4 := St.open_star H3
 obtain ⟨pp5, cc6, rfl⟩ := Row.slice (i := 1) H4 rfl
 have H7 : St W w (_ :: _ :: (F.set i emp)) := H4
 refine Lo (.slice pp5 ((L.length + 7) / 8) cc6) ag_27 H7 0 (rc (s_call [.slice pp5 ((L.length + 7) / 8) cc6] pl_71 rfl rfl (clone_bytes _ _ ((L.length + 7) / 8) ((pk L).flatMap u8c) RdA.row (by first | omega | (have hlp := Nat.le_refl 0; omega)) (j := 1) rfl H7) ?_))
 rintro _ w10 ⟨pp8, cc9, rfl, H11⟩
 refine Ag (.slice pp8 ((L.length + 7) / 8) cc9) (r_nil (Gr [.slice pp8 ((L.length + 7) / 8) cc9] Tryz.func31 Tryz.results31 ?_))
 have H12 : St W w10 (_ :: _ :: _ :: (F.set i emp)) := (H11.mv [2, 2])
 have H13 : St W w10 (SinkA b L :: _ :: (F.set i emp)) := St.shut_ex (.slice pp5 ((L.length + 7) / 8) cc6) (St.shut_star (ls := [_, _]) H12)
 have H14 : St W w10 (_ :: _ :: (F.set i emp)) := (H13.mv [1, 1])
 have H15 : St W w10 (_ :: (Row 5 1 (.slice pp8 ((L.length + 7) / 8) cc9) ((L.length + 7) / 8) ((pk L).flatMap u8c) :: F).set (i + 1) emp) := H14
 exact ⟨_, _, rfl, St.back_same (i := i + 1) t34 H15⟩
theorem ref01_long (u : Nat) (hu : u < 18446744073709551616) (H : St W w F) : Calls Tryz.prog 72 #[.int .u64 (u : Int)] w (Ret fun v w' => v = .int .i64 (bitLen u : Int) ∧ St W w' F) := by
 refine calls_of_go (n := 11) Tryz.func72 rfl Tryz.ntmps72 rfl ?_
 refine g_seq (g_region (Ag (.int .i64 0) (r_nil (g_seq (g_region (Ag (.int .i64 0) (r_nil (g_seq (g_block ?_)))))))))
 have H1 : St W w F := H
 refine g_loop_inv (fun ((n, k) : Nat × Nat) => [(0, .int .u64 (k : Int)), (2, .int .i64 0), (3, .int .i64 (n : Int))]) (fun (n, k) w => (bitLen u = n + bitLen k) ∧ (k ≤ u) ∧ St W w F) (fun (n, k) => k) (0, u) ?_ ?_ ?_
 ·exact t1
 ·exact ⟨(Nat.zero_add _).symm, (Nat.le_refl _), H1⟩
 rintro ⟨n, k⟩ ρ2 w3 ⟨hk, hku, H4⟩ nx5
 change Ends _ _ (upds ρ2 [(0, .int .u64 (k : Int)), (2, .int .i64 0), (3, .int .i64 (n : Int))]) w3
 refine g_seq (g_seq (g_region (Mv (.int .u64 (k : Int)) ?_)))
 by_cases hc6 : (0 : Int) < (k : Int)
 ·refine rc (s_gtr true rfl rfl (dtrue hc6) rfl (r_nil (g_true rfl (g_skip (g_block (g_seq (g_region (Mv (.int .i64 (n : Int)) ?_))))))))
  have h64 := bitLen_le64 hu
  refine rc (s_add ((n : Int) + 1) rfl rfl (wi64 t0) rfl (Ag (.int .i64 ((n : Int) + 1)) (r_nil (g_region (Mv (.int .u64 (k : Int)) (rc (s_quo ((k : Int) / 2) rfl rfl t0 (by rw [tdiv_pos t0]; exact wu64 t0) rfl (Ag (.int .u64 ((k : Int) / 2)) (r_nil (g_inBlock ?_))))))))))
  have H7 : St W w3 F := H4
  exact nx5 (n + 1, k / 2) _ _ ⟨(by have := bitLen_half (u := k) t0; omega), t0, H7⟩ t7 t1
 refine rc (s_gtr false rfl rfl (dfalse hc6) rfl (r_nil (g_false rfl (g_exit t39 (g_seq (g_region (Mv (.int .i64 (n : Int)) (Ag (.int .i64 (n : Int)) (r_nil (Gr [.int .i64 (n : Int)] Tryz.func72 Tryz.results72 ?_))))))))))
 have H8 : St W w3 F := H4
 obtain rfl : k = 0 := by omega
 exact ⟨vint (by rw [hk, bitLen_zero]; rfl), H8⟩
theorem ref01_Low (u n : Nat) (hu : u < 18446744073709551616) (hn : n ≤ 64) (H : St W w F) : Calls Tryz.prog 33 #[.int .u64 (u : Int), .int .i64 (n : Int)] w (Ret fun v w' => ∃ p c, v = .slice p (n) c ∧ St W w' (Row 4 1 (.slice p (n) c) (n) ((lowB u n).flatMap blc) :: F)) := by
 refine calls_of_go (n := 26) Tryz.func33 rfl Tryz.ntmps33 rfl ?_
 refine g_seq (g_region (Ag (.slice none 0 0) (r_nil (g_seq (g_region (Ag (.slice none 0 0) (r_nil (g_seq (g_seq (g_region (Mv (.int .i64 (n : Int)) (rc (s_sub ((n : Int) - 1) rfl rfl (wi64 t0) rfl (Ag (.int .i64 ((n : Int) - 1)) (r_nil (g_block ?_))))))))))))))))
 have H1 := Row.nil_intro H 4 1
 have H2 : St W w (_ :: F) := H1
 refine g_loop_inv (fun ((j, p, c) : Nat × (Option Addr) × Nat) => [(0, .int .u64 (u : Int)), (4, .slice none 0 0), (5, .slice p j c), (6, .int .i64 ((n : Int) - 1 - (j : Int)))]) (fun (j, p, c) w => (j ≤ n) ∧ St W w (Row 4 1 (.slice p j c) j ((lowK u n j).flatMap blc) :: F)) (fun (j, p, c) => n - j) (0, none, 0) ?_ ?_ ?_
 ·exact t1
 ·exact ⟨t0, H2⟩
 rintro ⟨j, p, c⟩ ρ3 w4 ⟨hj, H5⟩ nx6
 change Ends _ _ (upds ρ3 [(0, .int .u64 (u : Int)), (4, .slice none 0 0), (5, .slice p j c), (6, .int .i64 ((n : Int) - 1 - (j : Int)))]) w4
 refine g_seq (g_seq (g_region (Mv (.int .i64 ((n : Int) - 1 - (j : Int))) ?_)))
 by_cases hc7 : (0 : Int) ≤ (n : Int) - 1 - (j : Int)
 ·refine rc (s_geq true rfl rfl (dtrue hc7) rfl (r_nil (g_true rfl (g_skip (g_seq (g_block (g_region (Mv (.slice p j c) (Mv (.int .i64 ((n : Int) - 1 - (j : Int))) (rc (s_lss true rfl rfl (dtrue t0) rfl (Mv (.bool true) (Rt (Mw (.int .u64 (u : Int)) (Rt (Mw (.int .i64 ((n : Int) - 1 - (j : Int))) (Rt (s_shr ((u / 2 ^ (n - 1 - j) : Nat) : Int) rfl rfl t0 (shr_nat (k := n - 1 - j) t0 (by show _ ≤ 64; omega)) rfl (Rt (s_rem ((u / 2 ^ (n - 1 - j) % 2 : Nat) : Int) rfl rfl t0 (by rw [tmod_pos (Int.natCast_nonneg _)]; rfl) rfl (Rt (s_eql (u.testBit (n - 1 - j)) rfl rfl (bit_is u (n - 1 - j)) rfl (Pt (.bool (u.testBit (n - 1 - j))) (rc (s_buildSlice H5 1 1 (cs := #[.bool (u.testBit (n - 1 - j))]) #[.bool false] el_39 ze_4 t9 t9 t5 rfl (fun bk8 w9 H10 => rc (s_append H10 1 rfl rfl rfl (rd_blk (H10.blk_at (i := 0) rfl) rfl (nbl rfl) t15) ap_39 t9 t12 t0 (n' := j + 1) (xs' := (lowK u n (j + 1)).flatMap blc) t0 (by rw [lowK_succ, flat_snoc]; rfl) rfl ?_))))))))))))))))))))))))))); intro vv11 w12 H13 hn14
  obtain ⟨pp15, cc16, rfl⟩ := Row.slice H13 (i := 1) rfl
  refine Ag (.slice pp15 (j + 1) cc16) (r_nil (g_inBlock (g_region (Mv (.int .i64 ((n : Int) - 1 - (j : Int))) (rc (s_sub ((n : Int) - 1 - (j : Int) - 1) rfl rfl (wi64 t0) rfl (Ag (.int .i64 ((n : Int) - 1 - (j : Int) - 1)) (r_nil ?_))))))))
  have H17 : St W w12 (_ :: F) := (H13.mv [1, 101])
  exact nx6 (j + 1, pp15, cc16) _ _ ⟨t0, H17⟩ t7 t1
 refine rc (s_geq false rfl rfl (dfalse hc7) rfl (r_nil (g_false rfl (g_exit t39 (g_seq (g_region (Mv (.slice p j c) (Ag (.slice p j c) (r_nil (Gr [.slice p j c] Tryz.func33 Tryz.results33 ?_))))))))))
 have H18 : St W w4 (_ :: F) := H5
 obtain rfl : j = n := by omega
 exact ⟨_, _, rfl, H18⟩
theorem ref01_Nat (u : Nat) (hu : u < 18446744073709551616) (H : St W w F) : Calls Tryz.prog 32 #[.int .u64 (u : Int)] w (Ret fun v w' => ∃ p c, v = .slice p (sizeU u) c ∧ St W w' (Row 4 1 (.slice p (sizeU u) c) (sizeU u) ((natB u).flatMap blc) :: F)) := by
 refine calls_of_go (n := 25) Tryz.func32 rfl Tryz.ntmps32 rfl ?_
 refine g_seq (g_region (Ag (.slice none 0 0) (r_nil (g_seq (g_seq (g_region (Mv (.int .u64 (u : Int)) ?_)))))))
 by_cases hc1 : (u : Int) = 18446744073709551615
 ·refine rc (s_eql true rfl rfl (dtrue hc1) rfl (r_nil (g_true rfl (g_seq (g_region (rc (s_make H 64 1 1 rfl rfl un_39 in_4 t0 t0 t0 (by exact made_bools 64) rfl ?_))))))); intro bk2 w3 H4
  have H5 : St W w3 (Row 4 1 (.slice (pa bk2) 64 64) 64 ((List.replicate 64 false).flatMap blc) :: F) := Row.of_list (xs := (List.replicate 64 false).flatMap blc) (n := 64) H4 (i := 0) rfl t12 (by rw [flat_len blc_len]; simp) (one_bl _)
  refine Ag (.slice (pa bk2) 64 64) (r_nil (g_seq (g_region ?_)))
  have hsz : sizeU u = 129 := if_pos t0
  refine Mv (.slice (pa bk2) 64 64) (rc (s_buildSlice H5 1 1 (cs := #[.bool true]) #[.bool false] el_39 ze_4 t9 t9 t5 rfl (fun bk6 w7 H8 => rc (s_append H8 1 rfl rfl rfl (rd_blk (H8.blk_at (i := 0) rfl) rfl (nbl rfl) t15) ap_39 t9 t12 t0 (n' := 65) (xs' := (List.replicate 64 false ++ [true]).flatMap blc) t0 (by rw [flat_snoc]; rfl) rfl ?_)))); intro vv9 w10 H11 hn12
  obtain ⟨pp13, cc14, rfl⟩ := Row.slice H11 (i := 1) rfl
  refine Ag (.slice pp13 65 cc14) (r_nil (g_seq (g_region (Mv (.slice pp13 65 cc14) (rc (s_append0 (m := 64) H11 1 rfl t0 t0 rfl rfl un_39 un_3 in_4 rfl (zero_bools 64) (one_bl _) t9 t9 t12 t0 (n' := sizeU u) (xs' := (natB u).flatMap blc) t0 (by rw [natB_1 t0]; exact List.flatMap_append.symm) rfl ?_)))))); intro vv15 w16 H17
  obtain ⟨pp18, cc19, rfl⟩ := Row.slice H17 (i := 1) rfl
  refine Ag (.slice pp18 (sizeU u) cc19) (r_nil (Gr [.slice pp18 (sizeU u) cc19] Tryz.func32 Tryz.results32 ?_))
  have H20 : St W w16 (_ :: F) := (H17.mv [1, 101])
  exact ⟨_, _, rfl, H20⟩
 refine rc (s_eql false rfl rfl (dfalse hc1) rfl (r_nil (g_false rfl (g_skip (g_seq (g_region (Mv (.int .u64 (u : Int)) (rc (s_add ((u + 1 : Nat) : Int) rfl rfl ((wu64 t0).trans t0) rfl (rc (s_call [.int .u64 ((u + 1 : Nat) : Int)] pl_72 rfl rfl (ref01_long (u + 1) t0 H) ?_)))))))))))
 rintro _ w21 ⟨rfl, H22⟩
 have hs2 := sizeU_2 (u := u) t0
 have h64 := bitLen_le64 (u := u + 1) t0
 refine rc (s_sub ((bitLen (u + 1) - 1 : Nat) : Int) rfl rfl ((wi64 t0).trans (by have := bitLen_pos (u := u + 1) t0; omega)) rfl (Ag (.int .i64 ((bitLen (u + 1) - 1 : Nat) : Int)) (r_nil (g_seq ?_))))
 refine g_cut (fun (x_ : Option Addr × Nat × Option Addr × Nat) => match x_ with | (pp35, cc36, pp27, cc28) => [(2, .slice pp35 (sizeU u) cc36)]) (fun (x_ : Option Addr × Nat × Option Addr × Nat) w => match x_ with | (pp35, cc36, pp27, cc28) => St W w (Row 4 1 (.slice pp27 (bitLen (u + 1) - 1 + 1) cc28) (bitLen (u + 1) - 1 + 1) ((lowB (u + 1) (bitLen (u + 1) - 1 + 1)).flatMap blc) :: Row 4 1 (.slice pp35 (sizeU u) cc36) (sizeU u) ((natB u).flatMap blc) :: F)) ?_ ?_
 ·rintro ⟨pp35, cc36, pp27, cc28⟩ ρ26 w24 H25
  change Ends _ _ (upds ρ26 [(2, .slice pp35 (sizeU u) cc36)]) w24
  refine Gr [.slice pp35 (sizeU u) cc36] Tryz.func32 Tryz.results32 ?_
  have H27 : St W w24 (_ :: F) := (H25.mv [1, 101])
  exact ⟨_, _, rfl, H27⟩
 intro join23
 refine g_any mixed 9 rfl ?_
 intro w28 hw29
 have H30 := H22.drew
 rw [← hw29] at H30
 clear hw29
 refine Av 0 rfl (fun w => x_move (.int .i64 ((bitLen (u + 1) - 1 : Nat) : Int)) rfl w) (Av 2 rfl (fun w => x_move (.int .u64 (u : Int)) rfl w) (Av 3 rfl (fun w => x_add ((u + 1 : Nat) : Int) rfl rfl ((wu64 t0).trans t0) w) (Av 4 rfl (fun w => x_move (.int .i64 ((bitLen (u + 1) - 1 : Nat) : Int)) rfl w) (Av 5 rfl (fun w => x_add ((bitLen (u + 1) - 1 + 1 : Nat) : Int) rfl rfl ((wi64 t0).trans t0) w) ?_))))
 refine a_all (rs := [1, 6]) t5 t13 ?_
 refine a_cons ⟨_, rfl, ?_⟩ (a_cons ⟨_, rfl, ?_⟩ (fun x hx => absurd hx t13))
 ·refine s_make H30 ((bitLen (u + 1) - 1 : Nat) : Int) 1 1 rfl rfl un_39 in_4 t0 t0 t0 (by exact made_bools (bitLen (u + 1) - 1)) rfl ?_; intro bk31 w32 H33
  have H34 : St W w32 (Row 4 1 (.slice (pa bk31) (bitLen (u + 1) - 1) (bitLen (u + 1) - 1)) (bitLen (u + 1) - 1) ((List.replicate (bitLen (u + 1) - 1) false).flatMap blc) :: F) := Row.of_list (xs := (List.replicate (bitLen (u + 1) - 1) false).flatMap blc) (n := bitLen (u + 1) - 1) H33 (i := 0) rfl t12 (by rw [flat_len blc_len]; simp) (one_bl _)
  change AnyG _ _ _ _ #[true, true, true, true, true, true, false, false, false] _ _
  refine a_all (rs := [6]) t5 t13 ?_
  refine a_cons ⟨_, rfl, ?_⟩ (fun x hx => absurd hx t13)
  refine s_call [.int .u64 ((u + 1 : Nat) : Int), .int .i64 ((bitLen (u + 1) - 1 + 1 : Nat) : Int)] pl_33 rfl rfl (ref01_Low (u + 1) (bitLen (u + 1) - 1 + 1) t0 t0 H34) ?_
  rintro _ w37 ⟨pp35, cc36, rfl, H38⟩
  change AnyG _ _ _ _ #[true, true, true, true, true, true, true, false, false] _ _
  refine a_all (rs := [7]) t5 t13 ?_
  refine a_cons ⟨_, rfl, ?_⟩ (fun x hx => absurd hx t13)
  refine s_append H38 1 rfl rfl rfl (Row.rd H38 (i := 0) rfl) ap_39 t9 t12 t0 (n' := sizeU u) (xs' := (natB u).flatMap blc) t0 (by rw [natB_2 t0]; exact List.flatMap_append.symm) rfl ?_; intro vv39 w40 H41 hn42
  obtain ⟨pp43, cc44, rfl⟩ := Row.slice H41 (i := 1) rfl
  change AnyG _ _ _ _ #[true, true, true, true, true, true, true, true, false] _ _
  refine Av 8 rfl (fun w => x_assign (.slice pp43 (sizeU u) cc44) rfl w) ?_
  refine a_done t5 ?_
  exact join23 (pp43, cc44, pp35, cc36) _ _ H41 ⟨rfl, trivial⟩
 refine s_call [.int .u64 ((u + 1 : Nat) : Int), .int .i64 ((bitLen (u + 1) - 1 + 1 : Nat) : Int)] pl_33 rfl rfl (ref01_Low (u + 1) (bitLen (u + 1) - 1 + 1) t0 t0 H30) ?_
 rintro _ w47 ⟨pp45, cc46, rfl, H48⟩
 change AnyG _ _ _ _ #[true, false, true, true, true, true, true, false, false] _ _
 refine a_all (rs := [1]) t5 t13 ?_
 refine a_cons ⟨_, rfl, ?_⟩ (fun x hx => absurd hx t13)
 refine s_make H48 ((bitLen (u + 1) - 1 : Nat) : Int) 1 1 rfl rfl un_39 in_4 t0 t0 t0 (by exact made_bools (bitLen (u + 1) - 1)) rfl ?_; intro bk49 w50 H51
 have H52 : St W w50 (Row 4 1 (.slice (pa bk49) (bitLen (u + 1) - 1) (bitLen (u + 1) - 1)) (bitLen (u + 1) - 1) ((List.replicate (bitLen (u + 1) - 1) false).flatMap blc) :: Row 4 1 (.slice pp45 (bitLen (u + 1) - 1 + 1) cc46) (bitLen (u + 1) - 1 + 1) ((lowB (u + 1) (bitLen (u + 1) - 1 + 1)).flatMap blc) :: F) := Row.of_list (xs := (List.replicate (bitLen (u + 1) - 1) false).flatMap blc) (n := bitLen (u + 1) - 1) H51 (i := 0) rfl t12 (by rw [flat_len blc_len]; simp) (one_bl _)
 change AnyG _ _ _ _ #[true, true, true, true, true, true, true, false, false] _ _
 refine a_all (rs := [7]) t5 t13 ?_
 refine a_cons ⟨_, rfl, ?_⟩ (fun x hx => absurd hx t13)
 refine s_append H52 0 rfl rfl rfl (Row.rd H52 (i := 1) rfl) ap_39 t9 t12 t0 (n' := sizeU u) (xs' := (natB u).flatMap blc) t0 (by rw [natB_2 t0]; exact List.flatMap_append.symm) rfl ?_; intro vv53 w54 H55 hn56
 obtain ⟨pp57, cc58, rfl⟩ := Row.slice H55 (i := 0) rfl
 change AnyG _ _ _ _ #[true, true, true, true, true, true, true, true, false] _ _
 refine Av 8 rfl (fun w => x_assign (.slice pp57 (sizeU u) cc58) rfl w) ?_
 refine a_done t5 ?_
 have H59 : St W w54 (_ :: _ :: F) := (H55.move 1 rfl)
 exact join23 (pp57, cc58, pp45, cc46) _ _ H59 ⟨rfl, trivial⟩
theorem ref01_zig (n : Int) (h1 : -9223372036854775808 ≤ n) (h2 : n ≤ 9223372036854775807) (H : St W w F) : Calls Tryz.prog 116 #[.int .i64 n] w (Ret fun v w' => v = .int .u64 ((zigN n : Nat) : Int) ∧ St W w' F) := by
 refine calls_of_go (n := 14) Tryz.func116 rfl Tryz.ntmps116 rfl ?_
 refine g_seq (g_region (Ag (.int .u64 0) (r_nil (g_seq (g_seq (g_region (Mv (.int .i64 n) ?_)))))))
 by_cases hc1 : (0 : Int) ≤ n
 ·refine rc (s_geq true rfl rfl (dtrue hc1) rfl (r_nil (g_true rfl (g_seq (g_region (Mv (.int .i64 n) (rc (s_conv n rfl us_2 ik_61 (wu64 t0) rfl (rc (s_mul (n * 2) rfl rfl (wu64 t0) rfl (Ag (.int .u64 (n * 2)) (r_nil (Gr [.int .u64 (n * 2)] Tryz.func116 Tryz.results116 ?_)))))))))))))
  have H2 : St W w F := H
  exact ⟨vint (by first | (rw [zig_pos t0]; omega) | (rw [zig_neg t0]; omega)), H2⟩
 refine rc (s_geq false rfl rfl (dfalse hc1) rfl (r_nil (g_false rfl (g_skip (g_seq (g_region (Mv (.int .i64 n) (rc (s_add (n + 1) rfl rfl (wi64 t0) rfl (rc (s_neg (-(n + 1)) rfl (wi64 t0) rfl (rc (s_conv (-(n + 1)) rfl us_2 ik_61 (wu64 t0) rfl (rc (s_mul ((-(n + 1)) * 2) rfl rfl (wu64 t0) rfl (rc (s_add ((-(n + 1)) * 2 + 1) rfl rfl (wu64 t0) rfl (Ag (.int .u64 ((-(n + 1)) * 2 + 1)) (r_nil (Gr [.int .u64 ((-(n + 1)) * 2 + 1)] Tryz.func116 Tryz.results116 ?_))))))))))))))))))))
 have H3 : St W w F := H
 exact ⟨vint (by first | (rw [zig_pos t0]; omega) | (rw [zig_neg t0]; omega)), H3⟩
theorem ref01_Num (n : Int) (h1 : -9223372036854775808 ≤ n) (h2 : n ≤ 9223372036854775807) (H : St W w F) : Calls Tryz.prog 98 #[.int .i64 n] w (Ret fun v w' => ∃ p c, v = .slice p (sizeU (zigN n)) c ∧ St W w' (Row 4 1 (.slice p (sizeU (zigN n)) c) (sizeU (zigN n)) ((natB (zigN n)).flatMap blc) :: F)) := by
 refine calls_of_go (n := 6) Tryz.func98 rfl Tryz.ntmps98 rfl ?_
 refine g_seq (g_region (Ag (.slice none 0 0) (r_nil (g_seq (g_region (Mv (.int .i64 n) (rc (s_call [.int .i64 n] pl_116 rfl rfl (ref01_zig n t0 t0 H) ?_))))))))
 rintro _ w1 ⟨rfl, H2⟩
 have hz := zigN_lt h1 h2
 refine rc (s_call [.int .u64 ((zigN n : Nat) : Int)] pl_32 rfl rfl (ref01_Nat (zigN n) t0 H2) ?_)
 rintro _ w5 ⟨pp3, cc4, rfl, H6⟩
 refine Ag (.slice pp3 (sizeU (zigN n)) cc4) (r_nil (Gr [.slice pp3 (sizeU (zigN n)) cc4] Tryz.func98 Tryz.results98 ?_))
 have H7 : St W w5 (_ :: F) := H6
 exact ⟨_, _, rfl, H7⟩
theorem ref01_Text (s : ByteArray) (hs : s.size ≤ 1099511627776) (H : St W w F) : Calls Tryz.prog 73 #[.string s] w (Ret fun v w' => ∃ p c, v = .slice p (sizeU s.size + 8 * s.size) c ∧ St W w' (Row 4 1 (.slice p (sizeU s.size + 8 * s.size) c) (sizeU s.size + 8 * s.size) ((textB s).flatMap blc) :: F)) := by
 refine calls_of_go (n := 23) Tryz.func73 rfl Tryz.ntmps73 rfl ?_
 refine g_seq (g_region (Ag (.slice none 0 0) (r_nil (g_seq (g_region (Mv (.string s) (rc (s_len_str (s).size rfl st_9 rfl rfl (rc (s_conv (s.size : Int) rfl us_3 ik_61 (wu64 t0) rfl (rc (s_call [.int .u64 (s.size : Int)] pl_32 rfl rfl (ref01_Nat s.size t0 H) ?_))))))))))))
 rintro _ w3 ⟨pp1, cc2, rfl, H4⟩
 refine Ag (.slice pp1 (sizeU s.size) cc2) (r_nil (g_seq (g_seq (g_region (Ag (.int .i64 0) (r_nil (g_block ?_)))))))
 have H5 : St W w3 (Row 4 1 (.slice pp1 (sizeU s.size) cc2) (sizeU s.size) ((natB s.size ++ textK s 0).flatMap blc) :: F) := by rw [show natB s.size ++ textK s 0 = natB s.size from List.append_nil _]; exact H4
 have H6 : St W w3 (_ :: F) := H5
 refine g_loop_inv (fun ((j, p, c) : Nat × (Option Addr) × Nat) => [(0, .string s), (2, .slice none 0 0), (3, .slice p (sizeU s.size + 8 * j) c), (4, .int .i64 (j : Int))]) (fun (j, p, c) w => (j ≤ s.size) ∧ St W w (Row 4 1 (.slice p (sizeU s.size + 8 * j) c) (sizeU s.size + 8 * j) ((natB s.size ++ textK s j).flatMap blc) :: F)) (fun (j, p, c) => s.size - j) (0, pp1, cc2) ?_ ?_ ?_
 ·exact t1
 ·exact ⟨t0, H6⟩
 rintro ⟨j, p, c⟩ ρ7 w8 ⟨hj, H9⟩ nx10
 change Ends _ _ (upds ρ7 [(0, .string s), (2, .slice none 0 0), (3, .slice p (sizeU s.size + 8 * j) c), (4, .int .i64 (j : Int))]) w8
 refine g_seq (g_seq (g_region (Mv (.int .i64 (j : Int)) (Mv (.string s) (rc (s_len_str (s).size rfl st_9 rfl rfl ?_))))))
 by_cases hc11 : (j : Int) < (s.size : Int)
 ·refine rc (s_lss true rfl rfl (dtrue hc11) rfl (r_nil (g_true rfl (g_skip (g_seq (g_block (g_region (Mv (.slice p (sizeU s.size + 8 * j) c) (Mv (.string s) (Mv (.int .i64 (j : Int)) (rc (s_index_str s (j : Int) ((s.data.toList.getD j 0).toNat : Int) rfl rfl st_9 t0 (str_at (n := j) t0 t0) rfl ?_))))))))))))
  have hlt := byteAt_lt s j
  have hsz := sizeU_le (u := s.size) t0
  refine rc (s_conv ((s.data.toList.getD j 0).toNat : Int) rfl us_5 ik_61 (wu64 t0) rfl (rc (s_call [.int .u64 ((s.data.toList.getD j 0).toNat : Int), .int .i64 8] pl_33 rfl rfl (ref01_Low ((s.data.toList.getD j 0).toNat) 8 t0 t0 H9) ?_)))
  rintro _ w14 ⟨pp12, cc13, rfl, H15⟩
  refine rc (s_append H15 1 rfl rfl rfl (Row.rd H15 (i := 0) rfl) ap_39 t9 t12 t0 (n' := sizeU s.size + 8 * (j + 1)) (xs' := (natB s.size ++ textK s (j + 1)).flatMap blc) t0 (by rw [textK_succ t0, ← List.append_assoc]; exact List.flatMap_append.symm) rfl ?_); intro vv16 w17 H18 hn19
  obtain ⟨pp20, cc21, rfl⟩ := Row.slice H18 (i := 1) rfl
  refine Ag (.slice pp20 (sizeU s.size + 8 * (j + 1)) cc21) (r_nil (g_inBlock (g_region (Mv (.int .i64 (j : Int)) (rc (s_add ((j : Int) + 1) rfl rfl (wi64 t0) rfl (Ag (.int .i64 ((j : Int) + 1)) (r_nil ?_))))))))
  have H22 : St W w17 (_ :: F) := (H18.mv [1, 101])
  exact nx10 (j + 1, pp20, cc21) _ _ ⟨t0, H22⟩ t7 t1
 refine rc (s_lss false rfl rfl (dfalse hc11) rfl (r_nil (g_false rfl (g_exit t39 (g_seq (g_region (Mv (.slice p (sizeU s.size + 8 * j) c) (Ag (.slice p (sizeU s.size + 8 * j) c) (r_nil (Gr [.slice p (sizeU s.size + 8 * j) c] Tryz.func73 Tryz.results73 ?_))))))))))
 have H23 : St W w8 (_ :: F) := H9
 obtain rfl : j = s.size := by omega
 rw [textK_all]
 exact ⟨_, _, rfl, H23⟩
/-- Bytes of which bits are taken. -/
def SrcA (b : Nat) (bs : List UInt8) (p : Nat) : Atom := ex fun v : Value => star [blk b (.cells #[.bool true, v, .int .i64 ((p : Nat) : Int)] 124 (0, 0)), Im 1 v bs.length (bs.flatMap u8c)]
theorem NewSource (A : Atom) (v0 : Value) (bs : List UInt8) (hA : RdA A 1 v0 bs.length (bs.flatMap u8c)) (hb : bs.length ≤ 140737488355328) {j : Nat} (hj : F[j]? = some A) (H : St W w F) : Calls Tryz.prog 36 #[v0] w (Ret fun v w' => ∃ k, v = .pointer (pa k) ∧ St W w' (SrcA k bs 0 :: F)) := by
 have hml := (hA _ _ _ j H hj).2
 obtain ⟨pp1, cc2, rfl, hn3⟩ := Rd.shape (hA _ _ _ j H hj).1
 refine calls_of_go (n := 7) Tryz.func36 rfl Tryz.ntmps36 rfl ?_
 refine g_seq (g_region (Ag (.pointer none) (r_nil (g_seq (g_region (Mv (.slice pp1 bs.length cc2) (rc (s_call [.slice pp1 bs.length cc2] pl_71 rfl rfl (clone_bytes _ _ bs.length (bs.flatMap u8c) hA (by first | omega | (have hlp := Nat.le_refl 0; omega)) (j := j + 0) (by exact hj) H) ?_))))))))
 rintro _ w6 ⟨pp4, cc5, rfl, H7⟩
 refine rc (s_build (cs := #[.bool true, .slice pp4 bs.length cc5, .int .i64 0]) t5 rfl (Bx H7 124 #[.bool true, .slice pp4 bs.length cc5, .int .i64 0] (fun bk8 w9 H10 => Ag (.pointer (pa bk8)) (r_nil (Gr [.pointer (pa bk8)] Tryz.func36 Tryz.results36 ?_)))))
 have H11 : St W w9 (_ :: _ :: F) := (H10.mv [1, 1])
 have H12 := Row.im H11 (i := 1) rfl
 exact ⟨bk8, rfl, St.shut_ex (.slice pp4 bs.length cc5) (St.shut_star (ls := [blk bk8 (.cells #[.bool true, .slice pp4 bs.length cc5, .int .i64 0] 124 (0, 0)), Im 1 (.slice pp4 bs.length cc5) bs.length (bs.flatMap u8c)]) H12)⟩
theorem Src_Left (b : Nat) (bs : List UInt8) (p : Nat) (hp : p ≤ 8 * bs.length) (hb : bs.length ≤ 140737488355328) {i : Nat} (hi : F[i]? = some (SrcA b bs p)) (H : St W w F) : Calls Tryz.prog 99 #[.pointer (pa b)] w (Ret fun v w' => v = .int .i64 ((remB bs p).length : Int) ∧ St W w' F) := by
 have H0 := H.front hi
 refine calls_of_go (n := 16) Tryz.func99 rfl Tryz.ntmps99 rfl ?_
 refine g_seq (g_region (Ag (.int .i64 0) (r_nil (g_seq (g_seq (g_region (Mv (.pointer (pa b)) (rc (s_peql false un_70 rfl rfl rfl rfl (r_nil (g_false rfl (g_skip (g_seq ?_)))))))))))))
 have H1 := H0.move 0 rfl
 obtain ⟨vv2, H3⟩ := St.open_ex H1
 have H4 := St.open_star H3
 obtain ⟨pp5, cc6, gA7, oA8, kA9, eA10, zA11, rfl, hn12, hp13, hx14, hs15, hml, H16⟩ := Im.open_ H4 (i := 1) rfl
 have H17 : St W w (_ :: _ :: _ :: (F.set i emp)) := H16
 refine g_quiet (fun w' => St W w' (imi (0 < bs.length) gA7 (.cells kA9 eA10 zA11) :: blk b (.cells #[.bool true, .slice pp5 bs.length cc6, .int .i64 ((p : Nat) : Int)] 124 (0, 0)) :: Im 1 (.slice pp5 bs.length cc6) bs.length (bs.flatMap u8c) :: (F.set i emp))) mixed t5 H17.drew ?_
 refine Qm (.pointer (pa b)) (Qv (fun w hw => x_nilCheck (.pointer (pa b)) rfl ⟨_, rfl⟩ w) (Qf 1 fi_124_1 rfl (Qv (fun w hw => x_load (.slice pp5 bs.length cc6) ag_27 rfl (hw.blk_at (i := 1) rfl) rfl) (Qv (fun w hw => x_len bs.length rfl ⟨_, un_27⟩ w) (Qv (fun w hw => x_mul (8 * (bs.length : Int)) rfl rfl (wi64 t0) w) (Qm (.pointer (pa b)) (Qv (fun w hw => x_nilCheck (.pointer (pa b)) rfl ⟨_, rfl⟩ w) (Qf 2 fi_124_2 rfl (Qv (fun w hw => x_load (.int .i64 ((p : Nat) : Int)) ag_3 rfl (hw.blk_at (i := 1) rfl) rfl) (Qv (fun w hw => x_sub (8 * (bs.length : Int) - ((p : Nat) : Int)) rfl rfl (wi64 t0) w) (Qv (fun w hw => x_assign (.int .i64 (8 * (bs.length : Int) - ((p : Nat) : Int))) rfl w) (q_nil ?_))))))))))))
 intro w18 H19
 refine Gr [.int .i64 (8 * (bs.length : Int) - ((p : Nat) : Int))] Tryz.func99 Tryz.results99 ?_
 have H20 : St W w18 (_ :: _ :: (F.set i emp)) := (H19.mv [2, 2, 102])
 have H21 : St W w18 (SrcA b bs p :: (F.set i emp)) := St.shut_ex (.slice pp5 bs.length cc6) (St.shut_star (ls := [_, _]) H20)
 have H22 : St W w18 (_ :: (F.set i emp)) := H21
 exact ⟨vint (by rw [remB_len]; omega), St.back_same hi H22⟩
theorem Src_bit (b : Nat) (bs : List UInt8) (p : Nat) (hp : p ≤ 8 * bs.length) (hb : bs.length ≤ 140737488355328) (k : Nat) (hk : k < 8 * bs.length) {i : Nat} (hi : F[i]? = some (SrcA b bs p)) (H : St W w F) : Calls Tryz.prog 100 #[.pointer (pa b), .int .i64 (k : Int)] w (Ret fun v w' => v = .int .u64 ((bitAt bs k).toNat : Int) ∧ St W w' F) := by
 have H0 := H.front hi
 refine calls_of_go (n := 19) Tryz.func100 rfl Tryz.ntmps100 rfl ?_
 refine g_seq (g_region (Ag (.int .u64 0) (r_nil (g_seq (g_region (Mv (.pointer (pa b)) (Nc (.pointer (pa b)) (Fa 1 fi_124_1 rfl ?_))))))))
 have H1 := H0.move 0 rfl
 obtain ⟨vv2, H3⟩ := St.open_ex H1
 have H4 := St.open_star H3
 obtain ⟨pp5, cc6, gA7, oA8, kA9, eA10, zA11, rfl, hn12, hp13, hx14, hs15, hml, H16⟩ := Im.open_ H4 (i := 1) rfl
 have H17 : St W w (_ :: _ :: _ :: (F.set i emp)) := H16
 refine Lo (.slice pp5 bs.length cc6) ag_27 H17 1 (Mv (.int .i64 (k : Int)) (rc (s_quo ((k : Int) / 8) rfl rfl t0 t58 rfl (rc (s_indexAddr gA7 (off := oA8) ((k : Int) / 8) 1 (oA8 + (k / 8) * 1) (by exact congrArg (fun z_ => Value.slice z_ bs.length cc6) (hp13 t0)) rfl el_27 t0 (by rw [show ((k : Int) / 8 : Int).toNat = k / 8 from by omega]) rfl (rc (s_load (.int .u8 ((bs.getD (k / 8) 0).toNat : Int)) ag_5 rfl (H17.imi_at (i := 0) rfl t0) (elem_cell (L := bs) (i := k / 8) u8c_len (hx14 t0) t0 0 0 t9 _ rfl) rfl (Mv (.int .i64 (k : Int)) (rc (s_rem ((k : Int) % 8) rfl rfl t0 (tmod_pos t0) rfl (rc (s_sub (7 - ((k : Int) % 8)) rfl rfl (wi64 t0) rfl (rc (s_shr (((bs.getD (k / 8) 0).toNat / 2 ^ (7 - k % 8) : Nat) : Int) rfl rfl t0 (shr_nat (k := 7 - k % 8) t0 (by show _ ≤ 8; omega)) rfl (rc (s_and (((bs.getD (k / 8) 0).toNat / 2 ^ (7 - k % 8) % 2 : Nat) : Int) rfl rfl (and_one8 _ (Nat.lt_of_le_of_lt (Nat.div_le_self _ _) (UInt8.toNat_lt _))) rfl (rc (s_conv ((bitAt bs k).toNat : Int) rfl us_5 ik_61 ((by rw [bit_nat]; exact wu64 (by have := Bool.toNat_le (bitAt bs k); unfold bitAt at this; omega))) rfl (Ag (.int .u64 ((bitAt bs k).toNat : Int)) (r_nil (Gr [.int .u64 ((bitAt bs k).toNat : Int)] Tryz.func100 Tryz.results100 ?_)))))))))))))))))))))
 have H18 : St W w (_ :: _ :: (F.set i emp)) := (H17.mv [2, 2, 102])
 have H19 : St W w (SrcA b bs p :: (F.set i emp)) := St.shut_ex (.slice pp5 bs.length cc6) (St.shut_star (ls := [_, _]) H18)
 have H20 : St W w (_ :: (F.set i emp)) := H19
 exact ⟨rfl, St.back_same hi H20⟩
theorem Src_Bits (b : Nat) (bs : List UInt8) (p : Nat) (hp : p ≤ 8 * bs.length) (hb : bs.length ≤ 140737488355328) (n : Int) {i : Nat} (hi : F[i]? = some (SrcA b bs p)) (H : St W w F) : Calls Tryz.prog 76 #[.pointer (pa b), .int .i64 n] w (Ret fun v w' => v = .tuple #[.int .u64 (srcU (remB bs p) n : Int), .int .i64 (srcE (remB bs p) n)] ∧ St W w' (F.set i (SrcA b bs (p + srcN (remB bs p) n)))) := by
 have H0 := H.front hi
 refine calls_of_go (n := 50) Tryz.func76 rfl Tryz.ntmps76 rfl ?_
 refine g_seq (g_region (Ag (.int .u64 0) (Ag (.int .i64 0) (r_nil (g_seq (g_block (g_seq (g_region (Mv (.pointer (pa b)) (rc (s_peql false un_70 rfl rfl rfl rfl (Mv (.bool false) (Rt (Mw (.pointer (pa b)) (Rt (s_nilCheck (.pointer (pa b)) rfl ⟨_, rfl⟩ rfl (Rt (s_fieldAddr 124 0 0 0 4 rfl fi_124_0 rfl rfl (Rt ?_)))))))))))))))))))
 have H1 := H0.move 0 rfl
 obtain ⟨vv2, H3⟩ := St.open_ex H1
 have H4 := St.open_star H3
 obtain ⟨pp5, cc6, gA7, oA8, kA9, eA10, zA11, rfl, hn12, hp13, hx14, hs15, hml, H16⟩ := Im.open_ H4 (i := 1) rfl
 have H17 : St W w (_ :: _ :: _ :: (F.set i emp)) := H16
 refine s_load (.bool true) ag_4 rfl (H17.blk_at (i := 1) rfl) rfl rfl (Rt (s_not true rfl false rfl rfl (Pf (.bool false) (Ag (.bool false) (r_nil (g_false rfl (g_seq (g_region (Mv (.int .i64 n) ?_)))))))))
 by_cases hc18 : n < 0
 ·refine rc (s_lss true rfl rfl (dtrue hc18) rfl (Mv (.bool true) (Rp (Rp (Pt (.bool true) (Ag (.bool true) (r_nil (g_true rfl (g_seq (g_region (Ag (.int .u64 0) (Ag (.int .i64 1) (r_nil (Gr [.int .u64 0, .int .i64 1] Tryz.func76 Tryz.results76 ?_))))))))))))))
  have H19 : St W w (_ :: _ :: (F.set i emp)) := (H17.mv [2, 2, 102])
  have H20 : St W w (SrcA b bs p :: (F.set i emp)) := St.shut_ex (.slice pp5 bs.length cc6) (St.shut_star (ls := [_, _]) H19)
  have H21 : St W w (_ :: (F.set i emp)) := H20
  have hE : srcE (remB bs p) n = 1 := by first | exact srcE_1 t0 | exact srcE_10 t0 t0
  have hE0 : ¬ srcE (remB bs p) n = 0 := by rw [hE]; decide
  exact ⟨by rw [srcU_no hE0, hE]; rfl, by rw [srcN_no hE0]; exact St.back hi H21⟩
 refine rc (s_lss false rfl rfl (dfalse hc18) rfl (Mv (.bool false) (Rt (Mw (.int .i64 n) (Rt ?_)))))
 by_cases hc22 : (64 : Int) < n
 ·refine s_gtr true rfl rfl (dtrue hc22) rfl (Pf (.bool true) (Ag (.bool true) (r_nil (g_true rfl (g_seq (g_region (Ag (.int .u64 0) (Ag (.int .i64 1) (r_nil (Gr [.int .u64 0, .int .i64 1] Tryz.func76 Tryz.results76 ?_))))))))))
  have H23 : St W w (_ :: _ :: (F.set i emp)) := (H17.mv [2, 2, 102])
  have H24 : St W w (SrcA b bs p :: (F.set i emp)) := St.shut_ex (.slice pp5 bs.length cc6) (St.shut_star (ls := [_, _]) H23)
  have H25 : St W w (_ :: (F.set i emp)) := H24
  have hE : srcE (remB bs p) n = 1 := by first | exact srcE_1 t0 | exact srcE_10 t0 t0
  have hE0 : ¬ srcE (remB bs p) n = 0 := by rw [hE]; decide
  exact ⟨by rw [srcU_no hE0, hE]; rfl, by rw [srcN_no hE0]; exact St.back hi H25⟩
 refine s_gtr false rfl rfl (dfalse hc22) rfl (Pf (.bool false) (Ag (.bool false) (r_nil (g_false rfl (g_seq (g_region (Mv (.int .i64 n) (Mv (.pointer (pa b)) ?_))))))))
 have H26 : St W w (_ :: _ :: (F.set i emp)) := (H17.mv [2, 2, 102])
 have H27 : St W w (SrcA b bs p :: (F.set i emp)) := St.shut_ex (.slice pp5 bs.length cc6) (St.shut_star (ls := [_, _]) H26)
 refine rc (s_call [.pointer (pa b)] pl_99 rfl rfl (Src_Left b bs p t4 t18   (i := 0) rfl H27) ?_)
 rintro _ w28 ⟨rfl, H29⟩
 by_cases hc30 : ((remB bs p).length : Int) < n
 ·refine rc (s_gtr true rfl rfl (dtrue hc30) rfl (Ag (.bool true) (r_nil (g_true rfl (g_seq (g_region (Ag (.int .u64 0) (Ag (.int .i64 10) (r_nil (Gr [.int .u64 0, .int .i64 10] Tryz.func76 Tryz.results76 ?_))))))))))
  have H31 : St W w28 (_ :: (F.set i emp)) := H29
  have hE : srcE (remB bs p) n = 10 := by first | exact srcE_1 t0 | exact srcE_10 t0 t0
  have hE0 : ¬ srcE (remB bs p) n = 0 := by rw [hE]; decide
  exact ⟨by rw [srcU_no hE0, hE]; rfl, by rw [srcN_no hE0]; exact St.back hi H31⟩
 refine rc (s_gtr false rfl rfl (dfalse hc30) rfl (Ag (.bool false) (r_nil (g_false rfl (g_skip (g_inBlock (g_seq (g_region (Ag (.int .u64 0) (r_nil (g_seq (g_seq (g_region (Mv (.int .i64 n) (Mv (.int .i64 0) (r_nil (g_block ?_)))))))))))))))))
 have H32 : St W w28 (_ :: (F.set i emp)) := H29
 have hE := srcE_0 (R := remB bs p) (n := n) t0 t0
 have hL := remB_len bs p
 have hI := srcE_is hE
 have H33 : St W w28 (_ :: (F.set i emp)) := H32
 refine g_loop_inv (fun (j : Nat) => [(0, .pointer (pa b)), (4, .int .u64 0), (5, .int .i64 0), (6, .int .u64 (valOf ((remB bs p).take j) : Int)), (29, .int .i64 n), (30, .int .i64 (j : Int))]) (fun j w => ((j : Int) ≤ n) ∧ St W w (SrcA b bs (p + j) :: (F.set i emp))) (fun j => n.toNat - j) (0) ?_ ?_ ?_
 ·exact t1
 ·exact ⟨t0, H33⟩
 rintro j ρ34 w35 ⟨hj, H36⟩ nx37
 change Ends _ _ (upds ρ34 [(0, .pointer (pa b)), (4, .int .u64 0), (5, .int .i64 0), (6, .int .u64 (valOf ((remB bs p).take j) : Int)), (29, .int .i64 n), (30, .int .i64 (j : Int))]) w35
 have hfin : ¬ (j : Int) < n → (j = n.toNat) := fun h => by omega
 refine g_seq (g_region ?_)
 by_cases hc38 : (j : Int) < n
 ·refine rc (s_lss true rfl rfl (dtrue hc38) rfl (r_nil (g_seq (g_true rfl (g_skip (g_seq (g_block (g_seq (g_region ?_)))))))))
  have hv := val_take_lt63 (remB bs p) (j := j) t0
  have hv2 := valOf_take_rem (bs := bs) (p := p) (j := j) t0
  have hbb := Bool.toNat_le (bitAt bs (p + j))
  refine Mv (.int .u64 (valOf ((remB bs p).take j) : Int)) (rc (s_shl ((2 * valOf ((remB bs p).take j) : Nat) : Int) rfl rfl t0 (shl1 hv) rfl (Mv (.pointer (pa b)) (Mv (.pointer (pa b)) (Nc (.pointer (pa b)) (Fa 2 fi_124_2 rfl ?_))))))
  have H39 := H36.move 0 rfl
  obtain ⟨vv40, H41⟩ := St.open_ex H39
  have H42 := St.open_star H41
  obtain ⟨pp43, cc44, gA45, oA46, kA47, eA48, zA49, rfl, hn50, hp51, hx52, hs53, hml, H54⟩ := Im.open_ H42 (i := 1) rfl
  have H55 : St W w35 (_ :: _ :: _ :: (F.set i emp)) := H54
  refine Lo (.int .i64 ((p + j : Nat) : Int)) ag_3 H55 1 ?_
  have H56 : St W w35 (_ :: _ :: (F.set i emp)) := (H55.mv [2, 2, 102])
  have H57 : St W w35 (SrcA b bs (p + j) :: (F.set i emp)) := St.shut_ex (.slice pp43 bs.length cc44) (St.shut_star (ls := [_, _]) H56)
  refine rc (s_call [.pointer (pa b), .int .i64 ((p + j : Nat) : Int)] pl_100 rfl rfl (Src_bit b bs (p + j) t4 t18 (p + j) t0 (i := 0) rfl H57) ?_)
  rintro _ w58 ⟨rfl, H59⟩
  refine rc (s_or ((2 * valOf ((remB bs p).take j) + (bitAt bs (p + j)).toNat : Nat) : Int) rfl rfl (or_low _ _ hv hbb) rfl (Ag (.int .u64 ((2 * valOf ((remB bs p).take j) + (bitAt bs (p + j)).toNat : Nat) : Int)) (r_nil (g_region (Mv (.pointer (pa b)) (Nc (.pointer (pa b)) (Fa 2 fi_124_2 rfl ?_)))))))
  have H60 := H59.move 0 rfl
  obtain ⟨vv61, H62⟩ := St.open_ex H60
  have H63 := St.open_star H62
  obtain ⟨pp64, cc65, gA66, oA67, kA68, eA69, zA70, rfl, hn71, hp72, hx73, hs74, hml, H75⟩ := Im.open_ H63 (i := 1) rfl
  have H76 : St W w58 (_ :: _ :: _ :: (F.set i emp)) := H75
  refine Lo (.int .i64 ((p + j : Nat) : Int)) ag_3 H76 1 (rc (s_add (((p + j : Nat) : Int) + 1) rfl rfl (wi64 t0) rfl (Nc (.pointer (pa b)) (Fa 2 fi_124_2 rfl (rc (s_store H76 1 (.int .i64 (((p + j : Nat) : Int) + 1)) rfl rfl rfl sz_3 rfl (nbl rfl) rfl (cs' := #[.bool true, .slice pp64 bs.length cc65, .int .i64 (((p + j : Nat) : Int) + 1)]) rfl (fun w77 H78 => r_nil (g_inBlock (g_region (rc (s_add ((j : Int) + 1) rfl rfl (wi64 t0) rfl (Mv (.int .i64 ((j : Int) + 1)) (r_nil ?_)))))))))))))
  have H79 : St W w77 (_ :: _ :: (F.set i emp)) := (H78.mv [2, 2, 102])
  have H80 : St W w77 (blk b (.cells #[.bool true, .slice pp64 bs.length cc65, .int .i64 ((p + (j + 1) : Nat) : Int)] 124 (0, 0)) :: Im 1 (.slice pp64 bs.length cc65) bs.length (bs.flatMap u8c) :: (F.set i emp)) := by rw [show ((p + (j + 1) : Nat) : Int) = ((p + j : Nat) : Int) + 1 from by omega]; exact H79
  have H81 : St W w77 (SrcA b bs (p + (j + 1)) :: (F.set i emp)) := St.shut_ex (.slice pp64 bs.length cc65) (St.shut_star (ls := [_, _]) H80)
  have H82 : St W w77 (_ :: (F.set i emp)) := H81
  exact nx37 (j + 1) _ _ ⟨t0, H82⟩ t7 t1
 refine rc (s_lss false rfl rfl (dfalse hc38) rfl (r_nil (g_seq (g_false rfl (g_exit t39 (g_seq (g_region (Mv (.int .u64 (valOf ((remB bs p).take j) : Int)) (Ag (.int .u64 (valOf ((remB bs p).take j) : Int)) (Ag (.int .i64 0) (r_nil (Gr [.int .u64 (valOf ((remB bs p).take j) : Int), .int .i64 0] Tryz.func76 Tryz.results76 ?_))))))))))))
 have H83 : St W w35 (_ :: (F.set i emp)) := H36
 obtain rfl : j = n.toNat := by omega
 exact ⟨by rw [hE, srcU_0 hE]; rfl, by rw [srcN_0 hE]; exact St.back hi H83⟩
theorem Src_back_ok (b : Nat) (bs : List UInt8) (p : Nat) (q : Int) (e : Int) (he : e = 0) {i : Nat} (hi : F[i]? = some (SrcA b bs p)) (H : St W w F) : Calls Tryz.prog 101 #[.pointer (pa b), .int .i64 q, .int .i64 e] w (Ret fun v w' => v = .int .i64 e ∧ St W w' F) := by
 have H0 := H.front hi
 refine calls_of_go (n := 14) Tryz.func101 rfl Tryz.ntmps101 rfl ?_
 refine g_seq (g_region (Ag (.int .i64 0) (r_nil (g_seq (g_seq (g_region (Mv (.int .i64 e) (rc (s_neq false rfl rfl (ntrue he) rfl (r_nil (g_false rfl (g_skip (g_seq (g_region (Mv (.int .i64 e) (Ag (.int .i64 e) (r_nil (Gr [.int .i64 e] Tryz.func101 Tryz.results101 ?_))))))))))))))))))
 have H1 : St W w (_ :: (F.set i emp)) := H0
 exact ⟨rfl, St.back_same hi H1⟩
theorem Src_back_no (b : Nat) (bs : List UInt8) (p : Nat) (q : Nat) (e : Int) (he : ¬ e = 0) {i : Nat} (hi : F[i]? = some (SrcA b bs p)) (H : St W w F) : Calls Tryz.prog 101 #[.pointer (pa b), .int .i64 ((q : Nat) : Int), .int .i64 e] w (Ret fun v w' => v = .int .i64 e ∧ St W w' (F.set i (SrcA b bs q))) := by
 have H0 := H.front hi
 refine calls_of_go (n := 14) Tryz.func101 rfl Tryz.ntmps101 rfl ?_
 refine g_seq (g_region (Ag (.int .i64 0) (r_nil (g_seq (g_seq (g_region (Mv (.int .i64 e) (rc (s_neq true rfl rfl (nfalse he) rfl (r_nil (g_true rfl (g_region (Mv (.pointer (pa b)) (Mv (.int .i64 ((q : Nat) : Int)) (Nc (.pointer (pa b)) (Fa 2 fi_124_2 rfl ?_))))))))))))))))
 have H1 := H0.move 0 rfl
 obtain ⟨vv2, H3⟩ := St.open_ex H1
 have H4 := St.open_star H3
 obtain ⟨pp5, cc6, gA7, oA8, kA9, eA10, zA11, rfl, hn12, hp13, hx14, hs15, hml, H16⟩ := Im.open_ H4 (i := 1) rfl
 have H17 : St W w (_ :: _ :: _ :: (F.set i emp)) := H16
 refine rc (s_store H17 1 (.int .i64 ((q : Nat) : Int)) rfl rfl rfl sz_3 rfl (nbl rfl) rfl (cs' := #[.bool true, .slice pp5 bs.length cc6, .int .i64 ((q : Nat) : Int)]) rfl (fun w18 H19 => r_nil (g_seq (g_region (Mv (.int .i64 e) (Ag (.int .i64 e) (r_nil (Gr [.int .i64 e] Tryz.func101 Tryz.results101 ?_))))))))
 have H20 : St W w18 (_ :: _ :: (F.set i emp)) := (H19.mv [2, 2, 102])
 have H21 : St W w18 (SrcA b bs q :: (F.set i emp)) := St.shut_ex (.slice pp5 bs.length cc6) (St.shut_star (ls := [_, _]) H20)
 have H22 : St W w18 (_ :: (F.set i emp)) := H21
 exact ⟨rfl, St.back hi H22⟩
theorem Src_Nat (b : Nat) (bs : List UInt8) (p : Nat) (hp : p ≤ 8 * bs.length) (hb : bs.length ≤ 140737488355328) {i : Nat} (hi : F[i]? = some (SrcA b bs p)) (H : St W w F) : Calls Tryz.prog 75 #[.pointer (pa b)] w (Ret fun v w' => v = .tuple #[.int .u64 (natU (remB bs p) : Int), .int .i64 (natE (remB bs p))] ∧ St W w' (F.set i (SrcA b bs (p + natN (remB bs p))))) := by
 have H0 := H.front hi
 refine calls_of_go (n := 82) Tryz.func75 rfl Tryz.ntmps75 rfl ?_
 refine g_seq (g_region (Ag (.int .u64 0) (Ag (.int .i64 0) (r_nil (g_seq (g_seq (g_region (Mv (.pointer (pa b)) (rc (s_peql false un_70 rfl rfl rfl rfl (Mv (.bool false) (Rt (Mw (.pointer (pa b)) (Rt (s_nilCheck (.pointer (pa b)) rfl ⟨_, rfl⟩ rfl (Rt (s_fieldAddr 124 0 0 0 4 rfl fi_124_0 rfl rfl (Rt ?_))))))))))))))))))
 have H1 := H0.move 0 rfl
 obtain ⟨vv2, H3⟩ := St.open_ex H1
 have H4 := St.open_star H3
 obtain ⟨pp5, cc6, gA7, oA8, kA9, eA10, zA11, rfl, hn12, hp13, hx14, hs15, hml, H16⟩ := Im.open_ H4 (i := 1) rfl
 have H17 : St W w (_ :: _ :: _ :: (F.set i emp)) := H16
 refine s_load (.bool true) ag_4 rfl (H17.blk_at (i := 1) rfl) rfl rfl (Rt (s_not true rfl false rfl rfl (Pf (.bool false) (r_nil (g_false rfl (g_skip (g_seq (g_region (Mv (.pointer (pa b)) (Nc (.pointer (pa b)) (Fa 2 fi_124_2 rfl (Lo (.int .i64 ((p : Nat) : Int)) ag_3 H17 1 (Ag (.int .i64 ((p : Nat) : Int)) (r_nil (g_seq (g_region (Ag (.int .i64 0) (r_nil (g_seq (g_block ?_))))))))))))))))))))
 have H18 : St W w (_ :: _ :: (F.set i emp)) := (H17.mv [2, 2, 102])
 have H19 : St W w (SrcA b bs p :: (F.set i emp)) := St.shut_ex (.slice pp5 bs.length cc6) (St.shut_star (ls := [_, _]) H18)
 have H20 : St W w (_ :: (F.set i emp)) := H19
 have hL := remB_len bs p
 refine g_loop_inv (fun (k : Nat) => [(0, .pointer (pa b)), (2, .int .u64 0), (3, .int .i64 0), (4, .int .i64 ((p : Nat) : Int)), (5, .int .i64 (k : Int))]) (fun k w => (k ≤ 65) ∧ (k ≤ (remB bs p).length) ∧ (∀ j, j < k → (remB bs p).getD j false = false) ∧ St W w (SrcA b bs p :: (F.set i emp))) (fun k => 65 - k) (0) ?_ ?_ ?_
 ·exact t1
 ·exact ⟨t0, t0, (fun j hj => by omega), H20⟩
 rintro k ρ21 w22 ⟨hk, hkr, hz, H23⟩ nx24
 change Ends _ _ (upds ρ21 [(0, .pointer (pa b)), (2, .int .u64 0), (3, .int .i64 0), (4, .int .i64 ((p : Nat) : Int)), (5, .int .i64 (k : Int))]) w22
 refine g_seq (g_seq (g_region (Mv (.int .i64 (k : Int)) ?_)))
 by_cases hc25 : (k : Int) < 65
 ·refine rc (s_lss true rfl rfl (dtrue hc25) rfl (Mv (.bool true) (Rt (Mw (.int .i64 (k : Int)) (Rt (Mw (.pointer (pa b)) (Rt (s_call [.pointer (pa b)] pl_99 rfl rfl (Src_Left b bs p t4 t18   (i := 0) rfl H23) ?_))))))))
  rintro _ w26 ⟨rfl, H27⟩
  refine Rt ?_
  by_cases hc28 : (k : Int) < ((remB bs p).length : Int)
  ·refine s_lss true rfl rfl (dtrue hc28) rfl (Pt (.bool true) (Mv (.bool true) (Rt (Mw (.pointer (pa b)) (Rt (Mw (.int .i64 ((p : Nat) : Int)) (Rt (Mw (.int .i64 (k : Int)) (Rt (s_add (((p : Nat) : Int) + (k : Int)) rfl rfl (wi64 t0) rfl (Rt (s_call [.pointer (pa b), .int .i64 (((p : Nat) : Int) + (k : Int))] pl_100 rfl rfl (Src_bit b bs p t4 t18 (p + k) t0 (i := 0) rfl H27) ?_))))))))))))
   rintro _ w29 ⟨rfl, H30⟩
   refine Rt ?_
   by_cases hc31 : ((bitAt bs (p + k)).toNat : Int) = 0
   ·refine s_eql true rfl rfl (dtrue hc31) rfl (Pt (.bool true) (r_nil (g_true rfl (g_skip (g_block (g_region (Mv (.int .i64 (k : Int)) (rc (s_add ((k : Int) + 1) rfl rfl (wi64 t0) rfl (Ag (.int .i64 ((k : Int) + 1)) (r_nil (g_inBlock ?_))))))))))))
    have H32 : St W w29 (_ :: (F.set i emp)) := H30
    have hbit : bitAt bs (p + k) = false := toNat_1.1 ‹_›
    exact nx24 (k + 1) _ _ ⟨t0, t0, (fun j hj => (Nat.lt_or_ge j k).elim (hz j) (fun h => by rw [show j = k from by omega, remB_getD t0]; exact hbit)), H32⟩ t7 t1
   refine s_eql false rfl rfl (dfalse hc31) rfl (Pt (.bool false) (r_nil (g_false rfl (g_exit t39 (g_seq (g_block (g_seq (g_region ?_))))))))
   have hzz : zeros (remB bs p) = k := zeros_is hk hkr hz t38
   clear hz
   refine Mv (.int .i64 (k : Int)) (rc (s_eql false rfl rfl (dfalse t0) rfl (Ag (.bool false) (r_nil (g_false rfl (g_seq (g_region (Mv (.pointer (pa b)) (rc (s_call [.pointer (pa b)] pl_99 rfl rfl (Src_Left b bs p t4 t18   (i := 0) rfl H30) ?_))))))))))
   rintro _ w33 ⟨rfl, H34⟩
   refine Mv (.int .i64 (k : Int)) (rc (s_mul (2 * (k : Int)) rfl rfl (wi64 t0) rfl (rc (s_add (2 * (k : Int) + 1) rfl rfl (wi64 t0) rfl ?_))))
   by_cases hc35 : ((remB bs p).length : Int) < 2 * (k : Int) + 1
   ·refine rc (s_lss true rfl rfl (dtrue hc35) rfl (Ag (.bool true) (r_nil (g_true rfl (g_seq (g_region (Ag (.int .u64 0) (Ag (.int .i64 10) (r_nil (Gr [.int .u64 0, .int .i64 10] Tryz.func75 Tryz.results75 ?_))))))))))
    have H36 : St W w33 (_ :: (F.set i emp)) := H34
    have hE : natE (remB bs p) = 10 := natE_10 t0 t0
    have hE0 : ¬ natE (remB bs p) = 0 := by rw [hE]; decide
    exact ⟨by rw [natU_no hE0, hE]; rfl, by rw [natN_no hE0]; exact St.back hi H36⟩
   refine rc (s_lss false rfl rfl (dfalse hc35) rfl (Ag (.bool false) (r_nil (g_false rfl (g_skip (g_inBlock (g_seq (g_region (Mv (.pointer (pa b)) (Nc (.pointer (pa b)) (Fa 2 fi_124_2 rfl ?_)))))))))))
   have H37 := H34.move 0 rfl
   obtain ⟨vv38, H39⟩ := St.open_ex H37
   have H40 := St.open_star H39
   obtain ⟨pp41, cc42, gA43, oA44, kA45, eA46, zA47, rfl, hn48, hp49, hx50, hs51, hml, H52⟩ := Im.open_ H40 (i := 1) rfl
   have H53 : St W w33 (_ :: _ :: _ :: (F.set i emp)) := H52
   refine Lo (.int .i64 ((p : Nat) : Int)) ag_3 H53 1 (Mv (.int .i64 (k : Int)) (rc (s_add ((k : Int) + 1) rfl rfl (wi64 t0) rfl (rc (s_add (((p : Nat) : Int) + ((k : Int) + 1)) rfl rfl (wi64 t0) rfl (Nc (.pointer (pa b)) (Fa 2 fi_124_2 rfl (rc (s_store H53 1 (.int .i64 (((p : Nat) : Int) + ((k : Int) + 1))) rfl rfl rfl sz_3 rfl (nbl rfl) rfl (cs' := #[.bool true, .slice pp41 bs.length cc42, .int .i64 (((p : Nat) : Int) + ((k : Int) + 1))]) rfl (fun w54 H55 => r_nil (g_seq (g_region ?_))))))))))))
   have hL1 := remB_len bs (p + k + 1)
   have he : srcE (remB bs (p + k + 1)) (k : Int) = 0 := srcE_0 t0 t0
   have hu1 : srcU (remB bs (p + k + 1)) (k : Int) = valOf (((remB bs p).drop (zeros (remB bs p) + 1)).take (zeros (remB bs p))) := by rw [srcU_0 he, hzz, Int.toNat_natCast, remB_drop, Nat.add_assoc]
   have hu2 := srcU_lt_pow (R := remB bs (p + k + 1)) (k := k)
   have hN1 : srcN (remB bs (p + k + 1)) (k : Int) = k := by rw [srcN_0 he]; exact Int.toNat_natCast k
   refine Mv (.pointer (pa b)) (Mv (.int .i64 (k : Int)) ?_)
   have H56 : St W w54 (_ :: _ :: (F.set i emp)) := (H55.mv [2, 2, 102])
   have H57 : St W w54 (blk b (.cells #[.bool true, .slice pp41 bs.length cc42, .int .i64 ((p + k + 1 : Nat) : Int)] 124 (0, 0)) :: Im 1 (.slice pp41 bs.length cc42) bs.length (bs.flatMap u8c) :: (F.set i emp)) := by rw [show ((p + k + 1 : Nat) : Int) = ((p : Nat) : Int) + ((k : Int) + 1) from by omega]; exact H56
   have H58 : St W w54 (SrcA b bs (p + k + 1) :: (F.set i emp)) := St.shut_ex (.slice pp41 bs.length cc42) (St.shut_star (ls := [_, _]) H57)
   refine rc (s_call [.pointer (pa b), .int .i64 (k : Int)] pl_76 rfl rfl (Src_Bits b bs (p + k + 1) t4 t18 (k : Int)  (i := 0) rfl H58) ?_)
   rintro _ w59 ⟨rfl, H60⟩
   refine Mv (.tuple #[.int .u64 (srcU (remB bs (p + k + 1)) (k : Int) : Int), .int .i64 (srcE (remB bs (p + k + 1)) (k : Int))]) (Ex (.int .u64 (srcU (remB bs (p + k + 1)) (k : Int) : Int)) (Ex (.int .i64 (srcE (remB bs (p + k + 1)) (k : Int))) (Ag (.int .u64 (srcU (remB bs (p + k + 1)) (k : Int) : Int)) (Ag (.int .i64 (srcE (remB bs (p + k + 1)) (k : Int))) (r_nil (g_seq (g_seq (g_region (Mv (.pointer (pa b)) (Mv (.int .i64 ((p : Nat) : Int)) (Mv (.int .i64 (srcE (remB bs (p + k + 1)) (k : Int))) (rc (s_call [.pointer (pa b), .int .i64 ((p : Nat) : Int), .int .i64 (srcE (remB bs (p + k + 1)) (k : Int))] pl_101 rfl rfl (Src_back_ok b bs (p + k + 1 + srcN (remB bs (p + k + 1)) (k : Int)) ((p : Nat) : Int) (srcE (remB bs (p + k + 1)) (k : Int)) he (i := 0) rfl H60) ?_)))))))))))))
   rintro _ w61 ⟨rfl, H62⟩
   refine rc (s_neq false rfl rfl (ntrue he) rfl (r_nil (g_false rfl (g_skip (g_seq (g_seq (g_region (Mv (.int .i64 (k : Int)) ?_))))))))
   by_cases hc63 : (k : Int) = 64
   ·refine rc (s_eql true rfl rfl (dtrue hc63) rfl (r_nil (g_true rfl (g_seq (g_seq (g_region (Mv (.int .u64 (srcU (remB bs (p + k + 1)) (k : Int) : Int)) ?_)))))))
    by_cases hc64 : (srcU (remB bs (p + k + 1)) (k : Int) : Int) = 0
    ·refine rc (s_neq false rfl rfl (ntrue hc64) rfl (r_nil (g_false rfl (g_skip (g_seq (g_region (Ag (.int .u64 18446744073709551615) (Ag (.int .i64 0) (r_nil (Gr [.int .u64 18446744073709551615, .int .i64 0] Tryz.func75 Tryz.results75 ?_))))))))))
     have H65 : St W w61 (_ :: (F.set i emp)) := H62
     have hE : natE (remB bs p) = 0 := natE_0 t0 t0 t53
     have hN : natN (remB bs p) = k + 1 + k := by rw [natN_0 hE]; omega
     have hU : natU (remB bs p) = 18446744073709551615 := by exact natU_64 hE t0
     have hP : p + natN (remB bs p) = p + k + 1 + srcN (remB bs (p + k + 1)) (k : Int) := by rw [hN, hN1]; omega
     have hv : (natU (remB bs p) : Int) = 18446744073709551615 := by rw [hU]; rfl
     exact ⟨by rw [hE, hv]; rfl, by rw [hP]; exact St.back hi H65⟩
    refine rc (s_neq true rfl rfl (nfalse hc64) rfl (r_nil (g_true rfl (g_seq (g_region (Mv (.pointer (pa b)) (Mv (.int .i64 ((p : Nat) : Int)) (rc (s_call [.pointer (pa b), .int .i64 ((p : Nat) : Int), .int .i64 11] pl_101 rfl rfl (Src_back_no b bs (p + k + 1 + srcN (remB bs (p + k + 1)) (k : Int)) (p) 11 t9 (i := 0) rfl H62) ?_)))))))))
    rintro _ w66 ⟨rfl, H67⟩
    refine Ag (.int .u64 0) (Ag (.int .i64 11) (r_nil (Gr [.int .u64 0, .int .i64 11] Tryz.func75 Tryz.results75 ?_)))
    have H68 : St W w66 (_ :: (F.set i emp)) := H67
    have hE : natE (remB bs p) = 11 := by first | exact natE_65 t0 | exact natE_11 t0 t0 t53
    have hE0 : ¬ natE (remB bs p) = 0 := by rw [hE]; decide
    exact ⟨by rw [natU_no hE0, hE]; rfl, by rw [natN_no hE0]; exact St.back hi H68⟩
   refine rc (s_eql false rfl rfl (dfalse hc63) rfl (r_nil (g_false rfl (g_skip (g_seq (g_region ?_))))))
   have hpw := pow_le63 (k := k) t0
   refine Mv (.int .u64 (srcU (remB bs (p + k + 1)) (k : Int) : Int)) (Mv (.int .i64 (k : Int)) (rc (s_shl ((2 ^ k : Nat) : Int) rfl rfl t0 (shl_one rfl t0) rfl ?_)))
   have hq : 0 < 2 ^ k := Nat.pow_pos t9
   refine rc (s_add ((srcU (remB bs (p + k + 1)) (k : Int) + 2 ^ k : Nat) : Int) rfl rfl ((wu64 t33).trans t33) rfl (rc (s_sub ((srcU (remB bs (p + k + 1)) (k : Int) + 2 ^ k - 1 : Nat) : Int) rfl rfl ((wu64 t33).trans t33) rfl (Ag (.int .u64 ((srcU (remB bs (p + k + 1)) (k : Int) + 2 ^ k - 1 : Nat) : Int)) (Ag (.int .i64 0) (r_nil (Gr [.int .u64 ((srcU (remB bs (p + k + 1)) (k : Int) + 2 ^ k - 1 : Nat) : Int), .int .i64 0] Tryz.func75 Tryz.results75 ?_)))))))
   have H69 : St W w61 (_ :: (F.set i emp)) := H62
   have hE : natE (remB bs p) = 0 := natE_0 t0 t0 t53
   have hN : natN (remB bs p) = k + 1 + k := by rw [natN_0 hE]; omega
   have hU : natU (remB bs p) = valOf (((remB bs p).drop (zeros (remB bs p) + 1)).take (zeros (remB bs p))) + 2 ^ k - 1 := by rw [natU_is hE t0, hzz]
   have hP : p + natN (remB bs p) = p + k + 1 + srcN (remB bs (p + k + 1)) (k : Int) := by rw [hN, hN1]; omega
   have hv : (natU (remB bs p) : Int) = ((srcU (remB bs (p + k + 1)) (k : Int) + 2 ^ k - 1 : Nat) : Int) := by rw [hU, ← hu1]; skip
   exact ⟨by rw [hE, hv]; rfl, by rw [hP]; exact St.back hi H69⟩
  refine s_lss false rfl rfl (dfalse hc28) rfl (Pt (.bool false) (Mv (.bool false) (Rp (Rp (Rp (Rp (Rp (Rp (Pf (.bool false) (r_nil (g_false rfl (g_exit t39 (g_seq (g_block (g_seq (g_region ?_))))))))))))))))
  have hzz : zeros (remB bs p) = k := zeros_is hk hkr hz t38
  clear hz
  refine Mv (.int .i64 (k : Int)) (rc (s_eql false rfl rfl (dfalse t0) rfl (Ag (.bool false) (r_nil (g_false rfl (g_seq (g_region (Mv (.pointer (pa b)) (rc (s_call [.pointer (pa b)] pl_99 rfl rfl (Src_Left b bs p t4 t18   (i := 0) rfl H27) ?_))))))))))
  rintro _ w70 ⟨rfl, H71⟩
  refine Mv (.int .i64 (k : Int)) (rc (s_mul (2 * (k : Int)) rfl rfl (wi64 t0) rfl (rc (s_add (2 * (k : Int) + 1) rfl rfl (wi64 t0) rfl ?_))))
  by_cases hc72 : ((remB bs p).length : Int) < 2 * (k : Int) + 1
  ·refine rc (s_lss true rfl rfl (dtrue hc72) rfl (Ag (.bool true) (r_nil (g_true rfl (g_seq (g_region (Ag (.int .u64 0) (Ag (.int .i64 10) (r_nil (Gr [.int .u64 0, .int .i64 10] Tryz.func75 Tryz.results75 ?_))))))))))
   have H73 : St W w70 (_ :: (F.set i emp)) := H71
   have hE : natE (remB bs p) = 10 := natE_10 t0 t0
   have hE0 : ¬ natE (remB bs p) = 0 := by rw [hE]; decide
   exact ⟨by rw [natU_no hE0, hE]; rfl, by rw [natN_no hE0]; exact St.back hi H73⟩
  refine rc (s_lss false rfl rfl (dfalse hc72) rfl (Ag (.bool false) (r_nil (g_false rfl (g_skip (g_inBlock (g_seq (g_region (Mv (.pointer (pa b)) (Nc (.pointer (pa b)) (Fa 2 fi_124_2 rfl ?_)))))))))))
  have H74 := H71.move 0 rfl
  obtain ⟨vv75, H76⟩ := St.open_ex H74
  have H77 := St.open_star H76
  obtain ⟨pp78, cc79, gA80, oA81, kA82, eA83, zA84, rfl, hn85, hp86, hx87, hs88, hml, H89⟩ := Im.open_ H77 (i := 1) rfl
  have H90 : St W w70 (_ :: _ :: _ :: (F.set i emp)) := H89
  refine Lo (.int .i64 ((p : Nat) : Int)) ag_3 H90 1 (Mv (.int .i64 (k : Int)) (rc (s_add ((k : Int) + 1) rfl rfl (wi64 t0) rfl (rc (s_add (((p : Nat) : Int) + ((k : Int) + 1)) rfl rfl (wi64 t0) rfl (Nc (.pointer (pa b)) (Fa 2 fi_124_2 rfl (rc (s_store H90 1 (.int .i64 (((p : Nat) : Int) + ((k : Int) + 1))) rfl rfl rfl sz_3 rfl (nbl rfl) rfl (cs' := #[.bool true, .slice pp78 bs.length cc79, .int .i64 (((p : Nat) : Int) + ((k : Int) + 1))]) rfl (fun w91 H92 => r_nil (g_seq (g_region ?_))))))))))))
  have hL1 := remB_len bs (p + k + 1)
  have he : srcE (remB bs (p + k + 1)) (k : Int) = 0 := srcE_0 t0 t0
  have hu1 : srcU (remB bs (p + k + 1)) (k : Int) = valOf (((remB bs p).drop (zeros (remB bs p) + 1)).take (zeros (remB bs p))) := by rw [srcU_0 he, hzz, Int.toNat_natCast, remB_drop, Nat.add_assoc]
  have hu2 := srcU_lt_pow (R := remB bs (p + k + 1)) (k := k)
  have hN1 : srcN (remB bs (p + k + 1)) (k : Int) = k := by rw [srcN_0 he]; exact Int.toNat_natCast k
  refine Mv (.pointer (pa b)) (Mv (.int .i64 (k : Int)) ?_)
  have H93 : St W w91 (_ :: _ :: (F.set i emp)) := (H92.mv [2, 2, 102])
  have H94 : St W w91 (blk b (.cells #[.bool true, .slice pp78 bs.length cc79, .int .i64 ((p + k + 1 : Nat) : Int)] 124 (0, 0)) :: Im 1 (.slice pp78 bs.length cc79) bs.length (bs.flatMap u8c) :: (F.set i emp)) := by rw [show ((p + k + 1 : Nat) : Int) = ((p : Nat) : Int) + ((k : Int) + 1) from by omega]; exact H93
  have H95 : St W w91 (SrcA b bs (p + k + 1) :: (F.set i emp)) := St.shut_ex (.slice pp78 bs.length cc79) (St.shut_star (ls := [_, _]) H94)
  refine rc (s_call [.pointer (pa b), .int .i64 (k : Int)] pl_76 rfl rfl (Src_Bits b bs (p + k + 1) t4 t18 (k : Int)  (i := 0) rfl H95) ?_)
  rintro _ w96 ⟨rfl, H97⟩
  refine Mv (.tuple #[.int .u64 (srcU (remB bs (p + k + 1)) (k : Int) : Int), .int .i64 (srcE (remB bs (p + k + 1)) (k : Int))]) (Ex (.int .u64 (srcU (remB bs (p + k + 1)) (k : Int) : Int)) (Ex (.int .i64 (srcE (remB bs (p + k + 1)) (k : Int))) (Ag (.int .u64 (srcU (remB bs (p + k + 1)) (k : Int) : Int)) (Ag (.int .i64 (srcE (remB bs (p + k + 1)) (k : Int))) (r_nil (g_seq (g_seq (g_region (Mv (.pointer (pa b)) (Mv (.int .i64 ((p : Nat) : Int)) (Mv (.int .i64 (srcE (remB bs (p + k + 1)) (k : Int))) (rc (s_call [.pointer (pa b), .int .i64 ((p : Nat) : Int), .int .i64 (srcE (remB bs (p + k + 1)) (k : Int))] pl_101 rfl rfl (Src_back_ok b bs (p + k + 1 + srcN (remB bs (p + k + 1)) (k : Int)) ((p : Nat) : Int) (srcE (remB bs (p + k + 1)) (k : Int)) he (i := 0) rfl H97) ?_)))))))))))))
  rintro _ w98 ⟨rfl, H99⟩
  refine rc (s_neq false rfl rfl (ntrue he) rfl (r_nil (g_false rfl (g_skip (g_seq (g_seq (g_region (Mv (.int .i64 (k : Int)) ?_))))))))
  by_cases hc100 : (k : Int) = 64
  ·refine rc (s_eql true rfl rfl (dtrue hc100) rfl (r_nil (g_true rfl (g_seq (g_seq (g_region (Mv (.int .u64 (srcU (remB bs (p + k + 1)) (k : Int) : Int)) ?_)))))))
   by_cases hc101 : (srcU (remB bs (p + k + 1)) (k : Int) : Int) = 0
   ·refine rc (s_neq false rfl rfl (ntrue hc101) rfl (r_nil (g_false rfl (g_skip (g_seq (g_region (Ag (.int .u64 18446744073709551615) (Ag (.int .i64 0) (r_nil (Gr [.int .u64 18446744073709551615, .int .i64 0] Tryz.func75 Tryz.results75 ?_))))))))))
    have H102 : St W w98 (_ :: (F.set i emp)) := H99
    have hE : natE (remB bs p) = 0 := natE_0 t0 t0 t53
    have hN : natN (remB bs p) = k + 1 + k := by rw [natN_0 hE]; omega
    have hU : natU (remB bs p) = 18446744073709551615 := by exact natU_64 hE t0
    have hP : p + natN (remB bs p) = p + k + 1 + srcN (remB bs (p + k + 1)) (k : Int) := by rw [hN, hN1]; omega
    have hv : (natU (remB bs p) : Int) = 18446744073709551615 := by rw [hU]; rfl
    exact ⟨by rw [hE, hv]; rfl, by rw [hP]; exact St.back hi H102⟩
   refine rc (s_neq true rfl rfl (nfalse hc101) rfl (r_nil (g_true rfl (g_seq (g_region (Mv (.pointer (pa b)) (Mv (.int .i64 ((p : Nat) : Int)) (rc (s_call [.pointer (pa b), .int .i64 ((p : Nat) : Int), .int .i64 11] pl_101 rfl rfl (Src_back_no b bs (p + k + 1 + srcN (remB bs (p + k + 1)) (k : Int)) (p) 11 t9 (i := 0) rfl H99) ?_)))))))))
   rintro _ w103 ⟨rfl, H104⟩
   refine Ag (.int .u64 0) (Ag (.int .i64 11) (r_nil (Gr [.int .u64 0, .int .i64 11] Tryz.func75 Tryz.results75 ?_)))
   have H105 : St W w103 (_ :: (F.set i emp)) := H104
   have hE : natE (remB bs p) = 11 := by first | exact natE_65 t0 | exact natE_11 t0 t0 t53
   have hE0 : ¬ natE (remB bs p) = 0 := by rw [hE]; decide
   exact ⟨by rw [natU_no hE0, hE]; rfl, by rw [natN_no hE0]; exact St.back hi H105⟩
  refine rc (s_eql false rfl rfl (dfalse hc100) rfl (r_nil (g_false rfl (g_skip (g_seq (g_region ?_))))))
  have hpw := pow_le63 (k := k) t0
  refine Mv (.int .u64 (srcU (remB bs (p + k + 1)) (k : Int) : Int)) (Mv (.int .i64 (k : Int)) (rc (s_shl ((2 ^ k : Nat) : Int) rfl rfl t0 (shl_one rfl t0) rfl ?_)))
  have hq : 0 < 2 ^ k := Nat.pow_pos t9
  refine rc (s_add ((srcU (remB bs (p + k + 1)) (k : Int) + 2 ^ k : Nat) : Int) rfl rfl ((wu64 t33).trans t33) rfl (rc (s_sub ((srcU (remB bs (p + k + 1)) (k : Int) + 2 ^ k - 1 : Nat) : Int) rfl rfl ((wu64 t33).trans t33) rfl (Ag (.int .u64 ((srcU (remB bs (p + k + 1)) (k : Int) + 2 ^ k - 1 : Nat) : Int)) (Ag (.int .i64 0) (r_nil (Gr [.int .u64 ((srcU (remB bs (p + k + 1)) (k : Int) + 2 ^ k - 1 : Nat) : Int), .int .i64 0] Tryz.func75 Tryz.results75 ?_)))))))
  have H106 : St W w98 (_ :: (F.set i emp)) := H99
  have hE : natE (remB bs p) = 0 := natE_0 t0 t0 t53
  have hN : natN (remB bs p) = k + 1 + k := by rw [natN_0 hE]; omega
  have hU : natU (remB bs p) = valOf (((remB bs p).drop (zeros (remB bs p) + 1)).take (zeros (remB bs p))) + 2 ^ k - 1 := by rw [natU_is hE t0, hzz]
  have hP : p + natN (remB bs p) = p + k + 1 + srcN (remB bs (p + k + 1)) (k : Int) := by rw [hN, hN1]; omega
  have hv : (natU (remB bs p) : Int) = ((srcU (remB bs (p + k + 1)) (k : Int) + 2 ^ k - 1 : Nat) : Int) := by rw [hU, ← hu1]; skip
  exact ⟨by rw [hE, hv]; rfl, by rw [hP]; exact St.back hi H106⟩
 refine rc (s_lss false rfl rfl (dfalse hc25) rfl (Mv (.bool false) (Rp (Rp (Rp (Rp (Pf (.bool false) (Mv (.bool false) (Rp (Rp (Rp (Rp (Rp (Rp (Pf (.bool false) (r_nil (g_false rfl (g_exit t39 (g_seq (g_block (g_seq (g_region ?_))))))))))))))))))))))
 have hzz : zeros (remB bs p) = k := zeros_is hk hkr hz t38
 clear hz
 refine Mv (.int .i64 (k : Int)) ?_
 by_cases hc107 : (k : Int) = 65
 ·refine rc (s_eql true rfl rfl (dtrue hc107) rfl (Ag (.bool true) (r_nil (g_true rfl (g_seq (g_region (Ag (.int .u64 0) (Ag (.int .i64 11) (r_nil (Gr [.int .u64 0, .int .i64 11] Tryz.func75 Tryz.results75 ?_))))))))))
  have H108 : St W w22 (_ :: (F.set i emp)) := H23
  have hE : natE (remB bs p) = 11 := by first | exact natE_65 t0 | exact natE_11 t0 t0 t53
  have hE0 : ¬ natE (remB bs p) = 0 := by rw [hE]; decide
  exact ⟨by rw [natU_no hE0, hE]; rfl, by rw [natN_no hE0]; exact St.back hi H108⟩
 refine rc (s_eql false rfl rfl (dfalse hc107) rfl (Ag (.bool false) (r_nil (g_false rfl (g_seq (g_region (Mv (.pointer (pa b)) (rc (s_call [.pointer (pa b)] pl_99 rfl rfl (Src_Left b bs p t4 t18   (i := 0) rfl H23) ?_)))))))))
 rintro _ w109 ⟨rfl, H110⟩
 refine Mv (.int .i64 (k : Int)) (rc (s_mul (2 * (k : Int)) rfl rfl (wi64 t0) rfl (rc (s_add (2 * (k : Int) + 1) rfl rfl (wi64 t0) rfl ?_))))
 by_cases hc111 : ((remB bs p).length : Int) < 2 * (k : Int) + 1
 ·refine rc (s_lss true rfl rfl (dtrue hc111) rfl (Ag (.bool true) (r_nil (g_true rfl (g_seq (g_region (Ag (.int .u64 0) (Ag (.int .i64 10) (r_nil (Gr [.int .u64 0, .int .i64 10] Tryz.func75 Tryz.results75 ?_))))))))))
  have H112 : St W w109 (_ :: (F.set i emp)) := H110
  have hE : natE (remB bs p) = 10 := natE_10 t0 t0
  have hE0 : ¬ natE (remB bs p) = 0 := by rw [hE]; decide
  exact ⟨by rw [natU_no hE0, hE]; rfl, by rw [natN_no hE0]; exact St.back hi H112⟩
 refine rc (s_lss false rfl rfl (dfalse hc111) rfl (Ag (.bool false) (r_nil (g_false rfl (g_skip (g_inBlock (g_seq (g_region (Mv (.pointer (pa b)) (Nc (.pointer (pa b)) (Fa 2 fi_124_2 rfl ?_)))))))))))
 have H113 := H110.move 0 rfl
 obtain ⟨vv114, H115⟩ := St.open_ex H113
 have H116 := St.open_star H115
 obtain ⟨pp117, cc118, gA119, oA120, kA121, eA122, zA123, rfl, hn124, hp125, hx126, hs127, hml, H128⟩ := Im.open_ H116 (i := 1) rfl
 have H129 : St W w109 (_ :: _ :: _ :: (F.set i emp)) := H128
 refine Lo (.int .i64 ((p : Nat) : Int)) ag_3 H129 1 (Mv (.int .i64 (k : Int)) (rc (s_add ((k : Int) + 1) rfl rfl (wi64 t0) rfl (rc (s_add (((p : Nat) : Int) + ((k : Int) + 1)) rfl rfl (wi64 t0) rfl (Nc (.pointer (pa b)) (Fa 2 fi_124_2 rfl (rc (s_store H129 1 (.int .i64 (((p : Nat) : Int) + ((k : Int) + 1))) rfl rfl rfl sz_3 rfl (nbl rfl) rfl (cs' := #[.bool true, .slice pp117 bs.length cc118, .int .i64 (((p : Nat) : Int) + ((k : Int) + 1))]) rfl (fun w130 H131 => r_nil (g_seq (g_region ?_))))))))))))
 have hL1 := remB_len bs (p + k + 1)
 have he : srcE (remB bs (p + k + 1)) (k : Int) = 0 := srcE_0 t0 t0
 have hu1 : srcU (remB bs (p + k + 1)) (k : Int) = valOf (((remB bs p).drop (zeros (remB bs p) + 1)).take (zeros (remB bs p))) := by rw [srcU_0 he, hzz, Int.toNat_natCast, remB_drop, Nat.add_assoc]
 have hu2 := srcU_lt_pow (R := remB bs (p + k + 1)) (k := k)
 have hN1 : srcN (remB bs (p + k + 1)) (k : Int) = k := by rw [srcN_0 he]; exact Int.toNat_natCast k
 refine Mv (.pointer (pa b)) (Mv (.int .i64 (k : Int)) ?_)
 have H132 : St W w130 (_ :: _ :: (F.set i emp)) := (H131.mv [2, 2, 102])
 have H133 : St W w130 (blk b (.cells #[.bool true, .slice pp117 bs.length cc118, .int .i64 ((p + k + 1 : Nat) : Int)] 124 (0, 0)) :: Im 1 (.slice pp117 bs.length cc118) bs.length (bs.flatMap u8c) :: (F.set i emp)) := by rw [show ((p + k + 1 : Nat) : Int) = ((p : Nat) : Int) + ((k : Int) + 1) from by omega]; exact H132
 have H134 : St W w130 (SrcA b bs (p + k + 1) :: (F.set i emp)) := St.shut_ex (.slice pp117 bs.length cc118) (St.shut_star (ls := [_, _]) H133)
 refine rc (s_call [.pointer (pa b), .int .i64 (k : Int)] pl_76 rfl rfl (Src_Bits b bs (p + k + 1) t4 t18 (k : Int)  (i := 0) rfl H134) ?_)
 rintro _ w135 ⟨rfl, H136⟩
 refine Mv (.tuple #[.int .u64 (srcU (remB bs (p + k + 1)) (k : Int) : Int), .int .i64 (srcE (remB bs (p + k + 1)) (k : Int))]) (Ex (.int .u64 (srcU (remB bs (p + k + 1)) (k : Int) : Int)) (Ex (.int .i64 (srcE (remB bs (p + k + 1)) (k : Int))) (Ag (.int .u64 (srcU (remB bs (p + k + 1)) (k : Int) : Int)) (Ag (.int .i64 (srcE (remB bs (p + k + 1)) (k : Int))) (r_nil (g_seq (g_seq (g_region (Mv (.pointer (pa b)) (Mv (.int .i64 ((p : Nat) : Int)) (Mv (.int .i64 (srcE (remB bs (p + k + 1)) (k : Int))) (rc (s_call [.pointer (pa b), .int .i64 ((p : Nat) : Int), .int .i64 (srcE (remB bs (p + k + 1)) (k : Int))] pl_101 rfl rfl (Src_back_ok b bs (p + k + 1 + srcN (remB bs (p + k + 1)) (k : Int)) ((p : Nat) : Int) (srcE (remB bs (p + k + 1)) (k : Int)) he (i := 0) rfl H136) ?_)))))))))))))
 rintro _ w137 ⟨rfl, H138⟩
 refine rc (s_neq false rfl rfl (ntrue he) rfl (r_nil (g_false rfl (g_skip (g_seq (g_seq (g_region (Mv (.int .i64 (k : Int)) (rc (s_eql false rfl rfl (dfalse t0) rfl (r_nil (g_false rfl (g_skip (g_seq (g_region ?_)))))))))))))))
 have hpw := pow_le63 (k := k) t0
 refine Mv (.int .u64 (srcU (remB bs (p + k + 1)) (k : Int) : Int)) (Mv (.int .i64 (k : Int)) (rc (s_shl ((2 ^ k : Nat) : Int) rfl rfl t0 (shl_one rfl t0) rfl ?_)))
 have hq : 0 < 2 ^ k := Nat.pow_pos t9
 refine rc (s_add ((srcU (remB bs (p + k + 1)) (k : Int) + 2 ^ k : Nat) : Int) rfl rfl ((wu64 t33).trans t33) rfl (rc (s_sub ((srcU (remB bs (p + k + 1)) (k : Int) + 2 ^ k - 1 : Nat) : Int) rfl rfl ((wu64 t33).trans t33) rfl (Ag (.int .u64 ((srcU (remB bs (p + k + 1)) (k : Int) + 2 ^ k - 1 : Nat) : Int)) (Ag (.int .i64 0) (r_nil (Gr [.int .u64 ((srcU (remB bs (p + k + 1)) (k : Int) + 2 ^ k - 1 : Nat) : Int), .int .i64 0] Tryz.func75 Tryz.results75 ?_)))))))
 have H139 : St W w137 (_ :: (F.set i emp)) := H138
 have hE : natE (remB bs p) = 0 := natE_0 t0 t0 t53
 have hN : natN (remB bs p) = k + 1 + k := by rw [natN_0 hE]; omega
 have hU : natU (remB bs p) = valOf (((remB bs p).drop (zeros (remB bs p) + 1)).take (zeros (remB bs p))) + 2 ^ k - 1 := by rw [natU_is hE t0, hzz]
 have hP : p + natN (remB bs p) = p + k + 1 + srcN (remB bs (p + k + 1)) (k : Int) := by rw [hN, hN1]; omega
 have hv : (natU (remB bs p) : Int) = ((srcU (remB bs (p + k + 1)) (k : Int) + 2 ^ k - 1 : Nat) : Int) := by rw [hU, ← hu1]; skip
 exact ⟨by rw [hE, hv]; rfl, by rw [hP]; exact St.back hi H139⟩
theorem Src_Num (b : Nat) (bs : List UInt8) (p : Nat) (hp : p ≤ 8 * bs.length) (hb : bs.length ≤ 140737488355328) {i : Nat} (hi : F[i]? = some (SrcA b bs p)) (H : St W w F) : Calls Tryz.prog 134 #[.pointer (pa b)] w (Ret fun v w' => v = .tuple #[.int .i64 (zagN (natU (remB bs p))), .int .i64 (natE (remB bs p))] ∧ St W w' (F.set i (SrcA b bs (p + natN (remB bs p))))) := by
 have H0 := H.front hi
 refine calls_of_go (n := 20) Tryz.func134 rfl Tryz.ntmps134 rfl ?_
 refine g_seq (g_region (Ag (.int .i64 0) (Ag (.int .i64 0) (r_nil (g_seq (g_region (Mv (.pointer (pa b)) (rc (s_call [.pointer (pa b)] pl_75 rfl rfl (Src_Nat b bs p t4 t18   (i := 0) rfl H0) ?_)))))))))
 rintro _ w1 ⟨rfl, H2⟩
 refine Mv (.tuple #[.int .u64 (natU (remB bs p) : Int), .int .i64 (natE (remB bs p))]) (Ex (.int .u64 (natU (remB bs p) : Int)) (Ex (.int .i64 (natE (remB bs p))) (Ag (.int .u64 (natU (remB bs p) : Int)) (Ag (.int .i64 (natE (remB bs p))) (r_nil (g_seq (g_region (Mv (.int .u64 (natU (remB bs p) : Int)) ?_))))))))
 have hlt := natU_lt (remB bs p)
 refine rc (s_shr (((natU (remB bs p)) / 2 ^ 1 : Nat) : Int) rfl rfl t0 (shr_nat (k := 1) rfl t9) rfl (rc (s_conv (((natU (remB bs p)) / 2 ^ 1 : Nat) : Int) rfl us_61 ik_2 (wi64 t0) rfl (Mv (.int .u64 (natU (remB bs p) : Int)) (rc (s_and (((natU (remB bs p)) % 2 : Nat) : Int) rfl rfl (and_one _ t0) rfl (rc (s_conv (((natU (remB bs p)) % 2 : Nat) : Int) rfl us_61 ik_2 (wi64 t0) rfl (rc (s_neg (-(((natU (remB bs p)) % 2 : Nat) : Int)) rfl (wi64 t0) rfl (rc (s_xor (zagN (natU (remB bs p))) rfl rfl (zag_bits _ hlt) rfl (Mv (.int .i64 (natE (remB bs p))) (Ag (.int .i64 (zagN (natU (remB bs p)))) (Ag (.int .i64 (natE (remB bs p))) (r_nil (Gr [.int .i64 (zagN (natU (remB bs p))), .int .i64 (natE (remB bs p))] Tryz.func134 Tryz.results134 ?_)))))))))))))))))
 have H3 : St W w1 (_ :: (F.set i emp)) := H2
 exact ⟨rfl, St.back hi H3⟩
theorem Src_End (b : Nat) (bs : List UInt8) (p : Nat) (hp : p ≤ 8 * bs.length) (hb : bs.length ≤ 140737488355328) {i : Nat} (hi : F[i]? = some (SrcA b bs p)) (H : St W w F) : Calls Tryz.prog 78 #[.pointer (pa b)] w (Ret fun v w' => v = .int .i64 (endE (remB bs p)) ∧ St W w' F) := by
 have H0 := H.front hi
 refine calls_of_go (n := 34) Tryz.func78 rfl Tryz.ntmps78 rfl ?_
 refine g_seq (g_region (Ag (.int .i64 0) (r_nil (g_seq (g_seq (g_region (Mv (.pointer (pa b)) (rc (s_peql false un_70 rfl rfl rfl rfl (Mv (.bool false) (Rt (Mw (.pointer (pa b)) (Rt (s_nilCheck (.pointer (pa b)) rfl ⟨_, rfl⟩ rfl (Rt (s_fieldAddr 124 0 0 0 4 rfl fi_124_0 rfl rfl (Rt ?_)))))))))))))))))
 have H1 := H0.move 0 rfl
 obtain ⟨vv2, H3⟩ := St.open_ex H1
 have H4 := St.open_star H3
 obtain ⟨pp5, cc6, gA7, oA8, kA9, eA10, zA11, rfl, hn12, hp13, hx14, hs15, hml, H16⟩ := Im.open_ H4 (i := 1) rfl
 have H17 : St W w (_ :: _ :: _ :: (F.set i emp)) := H16
 refine s_load (.bool true) ag_4 rfl (H17.blk_at (i := 1) rfl) rfl rfl (Rt (s_not true rfl false rfl rfl (Pf (.bool false) (r_nil (g_false rfl (g_skip (g_seq (g_seq (g_region (Mv (.pointer (pa b)) ?_))))))))))
 have H18 : St W w (_ :: _ :: (F.set i emp)) := (H17.mv [2, 2, 102])
 have H19 : St W w (SrcA b bs p :: (F.set i emp)) := St.shut_ex (.slice pp5 bs.length cc6) (St.shut_star (ls := [_, _]) H18)
 refine rc (s_call [.pointer (pa b)] pl_99 rfl rfl (Src_Left b bs p t4 t18   (i := 0) rfl H19) ?_)
 rintro _ w20 ⟨rfl, H21⟩
 by_cases hc22 : (8 : Int) ≤ ((remB bs p).length : Int)
 ·refine rc (s_geq true rfl rfl (dtrue hc22) rfl (r_nil (g_true rfl (g_seq (g_region (Ag (.int .i64 12) (r_nil (Gr [.int .i64 12] Tryz.func78 Tryz.results78 ?_))))))))
  have H23 : St W w20 (_ :: (F.set i emp)) := H21
  exact ⟨vint t22, St.back_same hi H23⟩
 refine rc (s_geq false rfl rfl (dfalse hc22) rfl (r_nil (g_false rfl (g_skip (g_seq (g_seq (g_region (Mv (.pointer (pa b)) (Nc (.pointer (pa b)) (Fa 2 fi_124_2 rfl ?_))))))))))
 have H24 := H21.move 0 rfl
 obtain ⟨vv25, H26⟩ := St.open_ex H24
 have H27 := St.open_star H26
 obtain ⟨pp28, cc29, gA30, oA31, kA32, eA33, zA34, rfl, hn35, hp36, hx37, hs38, hml, H39⟩ := Im.open_ H27 (i := 1) rfl
 have H40 : St W w20 (_ :: _ :: _ :: (F.set i emp)) := H39
 refine Lo (.int .i64 ((p : Nat) : Int)) ag_3 H40 1 (Ag (.int .i64 ((p : Nat) : Int)) (r_nil (g_block ?_)))
 have H41 : St W w20 (_ :: _ :: (F.set i emp)) := (H40.mv [2, 2, 102])
 have H42 : St W w20 (SrcA b bs p :: (F.set i emp)) := St.shut_ex (.slice pp28 bs.length cc29) (St.shut_star (ls := [_, _]) H41)
 have H43 : St W w20 (_ :: (F.set i emp)) := H42
 have hL := remB_len bs p
 refine g_loop_inv (fun (k : Nat) => [(0, .pointer (pa b)), (2, .int .i64 0), (3, .int .i64 ((p + k : Nat) : Int))]) (fun k w => (p + k ≤ 8 * bs.length) ∧ (∀ j, j < k → (remB bs p).getD j false = false) ∧ St W w (SrcA b bs p :: (F.set i emp))) (fun k => 8 * bs.length - (p + k)) (0) ?_ ?_ ?_
 ·exact t1
 ·exact ⟨t0, (fun j hj => by omega), H43⟩
 rintro k ρ44 w45 ⟨hk, hz, H46⟩ nx47
 change Ends _ _ (upds ρ44 [(0, .pointer (pa b)), (2, .int .i64 0), (3, .int .i64 ((p + k : Nat) : Int))]) w45
 refine g_seq (g_seq (g_region (Mv (.int .i64 ((p + k : Nat) : Int)) (Mv (.pointer (pa b)) (Nc (.pointer (pa b)) (Fa 1 fi_124_1 rfl ?_))))))
 have H48 := H46.move 0 rfl
 obtain ⟨vv49, H50⟩ := St.open_ex H48
 have H51 := St.open_star H50
 obtain ⟨pp52, cc53, gA54, oA55, kA56, eA57, zA58, rfl, hn59, hp60, hx61, hs62, hml, H63⟩ := Im.open_ H51 (i := 1) rfl
 have H64 : St W w45 (_ :: _ :: _ :: (F.set i emp)) := H63
 refine Lo (.slice pp52 bs.length cc53) ag_27 H64 1 (rc (s_len bs.length rfl ⟨_, un_27⟩ rfl (rc (s_mul (8 * (bs.length : Int)) rfl rfl (wi64 t0) rfl ?_))))
 by_cases hc65 : ((p + k : Nat) : Int) < 8 * (bs.length : Int)
 ·refine rc (s_lss true rfl rfl (dtrue hc65) rfl (r_nil (g_true rfl (g_skip (g_seq (g_block (g_seq (g_region (Mv (.pointer (pa b)) (Mv (.int .i64 ((p + k : Nat) : Int)) ?_))))))))))
  have H66 : St W w45 (_ :: _ :: (F.set i emp)) := (H64.mv [2, 2, 102])
  have H67 : St W w45 (SrcA b bs p :: (F.set i emp)) := St.shut_ex (.slice pp52 bs.length cc53) (St.shut_star (ls := [_, _]) H66)
  refine rc (s_call [.pointer (pa b), .int .i64 ((p + k : Nat) : Int)] pl_100 rfl rfl (Src_bit b bs p t4 t18 (p + k) t0 (i := 0) rfl H67) ?_)
  rintro _ w68 ⟨rfl, H69⟩
  by_cases hc70 : ((bitAt bs (p + k)).toNat : Int) = 1
  ·refine rc (s_eql true rfl rfl (dtrue hc70) rfl (r_nil (g_true rfl (g_seq (g_region (Ag (.int .i64 12) (r_nil (Gr [.int .i64 12] Tryz.func78 Tryz.results78 ?_))))))))
   have H71 : St W w68 (_ :: (F.set i emp)) := H69
   exact ⟨vint t22, St.back_same hi H71⟩
  refine rc (s_eql false rfl rfl (dfalse hc70) rfl (r_nil (g_false rfl (g_skip (g_inBlock (g_region (Mv (.int .i64 ((p + k : Nat) : Int)) (rc (s_add (((p + k : Nat) : Int) + 1) rfl rfl (wi64 t0) rfl (Ag (.int .i64 (((p + k : Nat) : Int) + 1)) (r_nil ?_)))))))))))
  have H72 : St W w68 (_ :: (F.set i emp)) := H69
  have hbit : bitAt bs (p + k) = false := by cases hh : bitAt bs (p + k) with | false => rfl | true => exact absurd (show (((bitAt bs (p + k)).toNat : Nat) : Int) = 1 by rw [hh]; rfl) ‹_›
  exact nx47 (k + 1) _ _ ⟨t0, (fun j hj => (Nat.lt_or_ge j k).elim (hz j) (fun h => by rw [show j = k from by omega, remB_getD t0]; exact hbit)), H72⟩ t7 t1
 refine rc (s_lss false rfl rfl (dfalse hc65) rfl (r_nil (g_false rfl (g_exit t39 (g_seq (g_region (Ag (.int .i64 0) (r_nil (Gr [.int .i64 0] Tryz.func78 Tryz.results78 ?_)))))))))
 have H73 : St W w45 (_ :: _ :: (F.set i emp)) := (H64.mv [2, 2, 102])
 have H74 : St W w45 (SrcA b bs p :: (F.set i emp)) := St.shut_ex (.slice pp52 bs.length cc53) (St.shut_star (ls := [_, _]) H73)
 have H75 : St W w45 (_ :: (F.set i emp)) := H74
 exact ⟨vint t22, St.back_same hi H75⟩
theorem bytes_Equal (A B : Atom) (u v : Value) (m n : Nat) (xs ys : List UInt8) (hA : RdA A 1 u m (xs.flatMap u8c)) (hB : RdA B 1 v n (ys.flatMap u8c)) {j k : Nat} (hj : F[j]? = some A) (hk : F[k]? = some B) (H : St W w F) : Calls Tryz.prog 12 #[u, v] w (Ret fun v w' => v = .bool (decide (xs = ys)) ∧ St W w' F) := by
 have hml := (hA _ _ _ j H hj).2
 obtain ⟨pp1, cc2, rfl, hn3⟩ := Rd.shape (hA _ _ _ j H hj).1
 have hml := (hB _ _ _ k H hk).2
 obtain ⟨pp4, cc5, rfl, hn6⟩ := Rd.shape (hB _ _ _ k H hk).1
 refine calls_of_go (n := 10) Tryz.func12 rfl Tryz.ntmps12 rfl ?_
 refine g_seq (g_region (Ag (.bool false) (r_nil (g_seq (g_region (Mv (.slice pp1 m cc2) (rc (s_bytes_str (xs := xs) rfl (by rw [bytesV_flat]; exact (hA _ _ _ (j + 0) H (by exact hj)).1) un_27 un_5 un_9 rfl (Mv (.slice pp4 n cc5) (rc (s_bytes_str (xs := ys) rfl (by rw [bytesV_flat]; exact (hB _ _ _ (k + 0) H (by exact hk)).1) un_27 un_5 un_9 rfl (rc (s_seql (decide ((⟨(xs).toArray⟩ : ByteArray) = ⟨(ys).toArray⟩)) rfl rfl rfl rfl (Ag (.bool (decide ((⟨(xs).toArray⟩ : ByteArray) = ⟨(ys).toArray⟩))) (r_nil (Gr [.bool (decide ((⟨(xs).toArray⟩ : ByteArray) = ⟨(ys).toArray⟩))] Tryz.func12 Tryz.results12 ?_))))))))))))))))
 have H7 : St W w F := H
 exact ⟨congrArg Value.bool lit_bytes, H7⟩
end Sl
