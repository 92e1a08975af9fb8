/- The law's row. No condition. -/
import Derived.Test.YtkclljglobeplaaSlY
import Derived.Test.YtkclljglobeplaaWalkCheckConds1
import Derived.Test.YtkclljglobeplaaRows
import Derived.JoinedOf
import Derived.JoinedCond
namespace Go.Proofs.Ytkclljglobeplaa
open Sl _root_.Go _root_.Go.RowKit
set_option linter.all false
theorem dec_9 : DecR 140737488351232 Try.prog 9 (fun n : Str => [.string n.v]) (fun _ _ => True) := dec_str rfl Try.underlying9 (by kernel_rfl)
theorem dec_3 : DecR 140737488351232 Try.prog 3 (fun n : I64 => [.int .i64 n.v]) (fun _ _ => True) := dec_i64 Try.underlying3 (by kernel_rfl)
theorem dec_2 : DecR 140737488351232 Try.prog 2 (fun n : I64 => [.int .i64 n.v]) (fun _ _ => True) := dec_i64 Try.underlying2 (by kernel_rfl)
theorem dec_cond : DecR 140737488351232 Try.prog 43 condCell (fun _ _ => True) := (DecR.struct (t := 43) (l := [_, _, _]) Try.underlying43 rfl (DecFs.cons (DecR.struct (t := 41) (l := [_, _, _]) Try.underlying41 rfl (DecFs.cons dec_9 (DecFs.cons dec_9 (DecFs.cons (DecR.struct (t := 39) (l := [_, _, _]) Try.underlying39 rfl (DecFs.cons dec_3 (DecFs.cons dec_2 (DecFs.cons dec_9 DecFs.nil rfl (by kernel_rfl)) rfl (by kernel_rfl)) rfl (by kernel_rfl))) DecFs.nil rfl (by kernel_rfl)) rfl (by kernel_rfl)) rfl (by kernel_rfl))) (DecFs.cons dec_3 (DecFs.cons (DecR.struct (t := 41) (l := [_, _, _]) Try.underlying41 rfl (DecFs.cons dec_9 (DecFs.cons dec_9 (DecFs.cons (DecR.struct (t := 39) (l := [_, _, _]) Try.underlying39 rfl (DecFs.cons dec_3 (DecFs.cons dec_2 (DecFs.cons dec_9 DecFs.nil rfl (by kernel_rfl)) rfl (by kernel_rfl)) rfl (by kernel_rfl))) DecFs.nil rfl (by kernel_rfl)) rfl (by kernel_rfl)) rfl (by kernel_rfl))) DecFs.nil rfl (by kernel_rfl)) rfl (by kernel_rfl)) rfl (by kernel_rfl))).map (fun _ => by kernel_rfl) one_cond fun I c _ => ⟨⟨⟨c.1.1, c.1.2.1, ⟨c.1.2.2.1.1, c.1.2.2.1.2.1, c.1.2.2.1.2.2.1⟩⟩, c.2.1, ⟨c.2.2.1.1, c.2.2.1.2.1, ⟨c.2.2.1.2.2.1.1, c.2.2.1.2.2.1.2.1, c.2.2.1.2.2.1.2.2.1⟩⟩⟩, rfl, trivial⟩
theorem dec_strs : DecR 140737488351232 Try.prog 9 strCell (fun _ _ => True) := dec_9
set_option maxHeartbeats 4000000 in
set_option maxRecDepth 100000 in
theorem checkConds_lifted (os : Os) (started : os.Started) (H : Type) (enc : TypeId × Value → H) :
    ReturnsInHanded {} Try.checked os 5 .any (Rows.checkCondsSpec.pre6 enc Try.prog Try.f5 Rows.checkCondsRow.domain false) (Rows.checkCondsSpec.post enc Try.prog Try.f5 false true false false) := by
  refine returnsInHanded_of_change_sized (C := Try.checked) (show ownKnob Try.prog.godebug = Option.none by kernel_rfl) started (by kernel_rfl) Try.func5
    (ChangeSpec.witness6 (enc := enc) (C := Try.checked) false ⟨#[], #[.agg #[.string ByteArray.empty, .string ByteArray.empty, .int .i64 0, .int .i64 0, .string ByteArray.empty, .int .i64 0, .string ByteArray.empty, .string ByteArray.empty, .int .i64 0, .int .i64 0, .string ByteArray.empty], .slice none 0 0], []⟩ 8 (by kernel_rfl) (by kernel_rfl) (by kernel_rfl) (by kernel_rfl)) ?_
  intro W base args ds gs before hval0 hW hcnd hsz0 _
  have hsz : (DataW.weightsEach Try.prog (Try.f5.params.toList ++ (Rows.checkCondsSpec).plain.varTypes Try.prog) (ds ++ gs)).all (· ≤ reachBytes) = true := hsz0
  have hval : ∀ (j : Nat) t v, Try.f5.params[j]? = some t → args[j]? = some v → Value.okWide Try.prog W .any base t v := hval0
  refine law_post (n := 2) (by kernel_rfl) rfl (by rw [Try.params5]; rfl) (fun t ht => by rw [Try.params5] at ht; simp at ht; rcases ht with rfl | rfl <;> exact ⟨by kernel_rfl, of_decide_eq_true (by kernel_rfl)⟩) (show Try.f5.resultTypes = _ from rfl) (Try.underlying4) (fun ds h => match ds, h with | [_, _], _ => rfl) hW ?_
  obtain ⟨p, q, hA0, hV, rfl, hfz, hnd⟩ := hW
  have hA : DataW.TrodAll enc Try.prog W 0 (fun _ => true) true Try.f5.params.toList args.toList ds p := hA0
  rw [Try.params5] at hA hval hsz
  obtain ⟨v0, vs0, d0, ds0, p0, q0, hargs, rfl, rfl, h0, r0⟩ := ChangeShapes.trodAll_cons hA
  obtain ⟨v1, vs1, d1, ds1, p1, q1, rfl, rfl, rfl, h1, r1⟩ := ChangeShapes.trodAll_cons r0
  obtain ⟨rfl, rfl, rfl⟩ := ChangeShapes.trodAll_nil r1
  obtain rfl : args = #[v0, v1] := by cases args; simp_all
  obtain ⟨c, rfl, hc⟩ := read_agg dec_cond Try.underlying43 (hval 0 43 v0 rfl rfl) h0 (weigh hsz (j := 0) (t := 43) rfl rfl)
  obtain ⟨⟨a2, q2, vars⟩, rfl, him2, hbd2, hok2⟩ := read_one (DecR.slice (t := 36) (size := 1) (bytes := 16) Try.underlying36 (by kernel_rfl) (by kernel_rfl) (by kernel_rfl) (by decide) dec_strs) (one_slice (P := Try.prog) Try.underlying36 (hval 1 36 v1 rfl rfl)) h1 (weigh hsz (j := 1) (t := 36) rfl rfl)
  clear hA0 hval0 hsz hsz0
  have H0 := St.begin W (old W :: Im 1 (.slice a2 vars.length q2) vars.length (vars.flatMap strCell) :: []) (by simp only [List.forall_mem_cons]; exact ⟨old_sat W, him2, fun _ h => (nomatch h)⟩)
  exact (law_CheckConds c vars _ (jv := 1) rfl H0).mono fun e w hh => by cases e with | returned v => exact ⟨hh.1, _, 0, hh.2, rfl⟩ | _ => exact hh.elim
theorem checkConds_holds : Rows.CheckCondsSaid :=
  OpenClaim.holds_of_wide 5 Try.f5 rfl rfl rfl rfl rfl rfl rfl ⟨rfl, rfl, rfl, rfl, rfl⟩ rfl rfl rfl rfl rfl (by kernel_rfl) Try.func5 (by kernel_rfl)
    (of_decide_eq_true (by kernel_rfl)) (by unfold Func.isWrapper; first | (rw [if_pos (by decide +kernel)]; kernel_rfl) | (rw [if_neg (by decide +kernel)]; exact ⟨rfl, rfl⟩))
    (fun os started H enc _ => checkConds_lifted os started H enc)
end Go.Proofs.Ytkclljglobeplaa
