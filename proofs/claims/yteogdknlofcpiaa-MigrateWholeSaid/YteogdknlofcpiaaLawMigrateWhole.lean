/- The law's row. No condition. -/
import Derived.Test.YteogdknlofcpiaaSlJ
import Derived.Test.YteogdknlofcpiaaWalkMigrateWhole2
import Derived.Test.YteogdknlofcpiaaRows
import Derived.JoinedOf
import Derived.JoinedCond
namespace Go.Proofs.Yteogdknlofcpiaa
open Sl _root_.Go _root_.Go.RowKit
set_option linter.all false
theorem dec_5 : DecR 140737488351232 Try.prog 5 u8c (fun _ _ => True) := dec_byte Try.underlying5 (by kernel_rfl)
set_option maxHeartbeats 4000000 in
set_option maxRecDepth 100000 in
theorem migrateWhole_lifted (os : Os) (started : os.Started) (H : Type) (enc : TypeId × Value → H) :
    ReturnsInHanded {} Try.checked os 6 .any (Rows.migrateWholeSpec.pre6 enc Try.prog Try.f6 Rows.migrateWholeRow.domain false) (Rows.migrateWholeSpec.post enc Try.prog Try.f6 false true false false) := by
  refine returnsInHanded_of_change_sized (C := Try.checked) (show ownKnob Try.prog.godebug = Option.none by kernel_rfl) started (by kernel_rfl) Try.func6
    (ChangeSpec.witness6 (enc := enc) (C := Try.checked) false ⟨#[], #[.slice none 0 0, .slice none 0 0], []⟩ 8 (by kernel_rfl) (by kernel_rfl) (by kernel_rfl) (by kernel_rfl)) ?_
  intro W base args ds gs before hval0 hW hcnd hsz0 _
  have hsz : (DataW.weightsEach Try.prog (Try.f6.params.toList ++ (Rows.migrateWholeSpec).plain.varTypes Try.prog) (ds ++ gs)).all (· ≤ reachBytes) = true := hsz0
  have hval : ∀ (j : Nat) t v, Try.f6.params[j]? = some t → args[j]? = some v → Value.okWide Try.prog W .any base t v := hval0
  refine law_post (n := 2) (by kernel_rfl) rfl (by rw [Try.params6]; rfl) (fun t ht => by rw [Try.params6] at ht; simp at ht; rcases ht with rfl | rfl <;> exact ⟨by kernel_rfl, of_decide_eq_true (by kernel_rfl)⟩) (show Try.f6.resultTypes = _ from rfl) (Try.underlying4) (fun ds h => match ds, h with | [_, _], _ => rfl) hW ?_
  obtain ⟨p, q, hA0, hV, rfl, hfz, hnd⟩ := hW
  have hA : DataW.TrodAll enc Try.prog W 0 (fun _ => true) true Try.f6.params.toList args.toList ds p := hA0
  rw [Try.params6] at hA hval hsz
  obtain ⟨v0, vs0, d0, ds0, p0, q0, hargs, rfl, rfl, h0, r0⟩ := ChangeShapes.trodAll_cons hA
  obtain ⟨v1, vs1, d1, ds1, p1, q1, rfl, rfl, rfl, h1, r1⟩ := ChangeShapes.trodAll_cons r0
  obtain ⟨rfl, rfl, rfl⟩ := ChangeShapes.trodAll_nil r1
  obtain rfl : args = #[v0, v1] := by cases args; simp_all
  obtain ⟨⟨a1, c1, s⟩, rfl, him1, hbd1, hok1⟩ := read_one (DecR.slice (t := 23) (size := 1) (bytes := 1) Try.underlying23 (by kernel_rfl) (by kernel_rfl) (by kernel_rfl) (by decide) dec_5) (one_slice (P := Try.prog) Try.underlying23 (hval 0 23 v0 rfl rfl)) h0 (weigh hsz (j := 0) (t := 23) rfl rfl)
  obtain ⟨⟨a2, c2, od⟩, rfl, him2, hbd2, hok2⟩ := read_one (DecR.slice (t := 23) (size := 1) (bytes := 1) Try.underlying23 (by kernel_rfl) (by kernel_rfl) (by kernel_rfl) (by decide) dec_5) (one_slice (P := Try.prog) Try.underlying23 (hval 1 23 v1 rfl rfl)) h1 (weigh hsz (j := 1) (t := 23) rfl rfl)
  clear hA0 hval0 hsz hsz0
  have H0 := St.begin W (old W :: Im 1 (.slice a1 s.length c1) s.length (s.flatMap u8c) :: Im 1 (.slice a2 od.length c2) od.length (od.flatMap u8c) :: []) (by simp only [List.forall_mem_cons]; exact ⟨old_sat W, him1, him2, fun _ h => (nomatch h)⟩)
  exact (MigrateWhole_ s od _ _ (by have : s.length * 1 ≤ 140737488351232 := hbd1; omega) (j := 1) (k := 2) rfl rfl H0).mono fun e w hh => by cases e with | returned v => exact ⟨hh.1, _, 0, hh.2, rfl⟩ | _ => exact hh.elim
theorem migrateWhole_holds : Rows.MigrateWholeSaid :=
  OpenClaim.holds_of_wide 6 Try.f6 rfl rfl rfl rfl rfl rfl rfl ⟨rfl, rfl, rfl, rfl, rfl⟩ rfl rfl rfl rfl rfl (by kernel_rfl) Try.func6 (by kernel_rfl)
    (of_decide_eq_true (by kernel_rfl)) (by unfold Func.isWrapper; first | (rw [if_pos (by decide +kernel)]; kernel_rfl) | (rw [if_neg (by decide +kernel)]; exact ⟨rfl, rfl⟩))
    (fun os started H enc _ => migrateWhole_lifted os started H enc)
end Go.Proofs.Yteogdknlofcpiaa
