/- The law's row. No condition. -/
import Derived.Test.YteogdknlofcpiaaSlJ
import Derived.Test.YteogdknlofcpiaaWalkMigrateMoves2
import Derived.Test.YteogdknlofcpiaaRows
import Derived.JoinedOf
import Derived.JoinedCond
namespace Go.Proofs.Yteogdknlofcpiaa
open Sl _root_.Go _root_.Go.RowKit
set_option linter.all false
theorem dec_5 : DecR 140737488351232 Try.prog 5 u8c (fun _ _ => True) := dec_byte Try.underlying5 (by kernel_rfl)
theorem dec_3 : DecR 140737488351232 Try.prog 3 (fun n : I64 => [.int .i64 n.v]) (fun _ _ => True) := dec_i64 Try.underlying3 (by kernel_rfl)
theorem dec_mvop : DecR 140737488351232 Try.prog 109 mvCell (fun I x => (DtA x.p x.c x.state).sat I Heap.none ∧ x.state.length ≤ 140737488355328) := (DecR.struct (t := 109) (l := [_, _, _]) Try.underlying109 rfl (DecFs.cons dec_3 (DecFs.cons dec_3 (DecFs.cons (DecR.slice (t := 23) (size := 1) (bytes := 1) Try.underlying23 (by kernel_rfl) (by kernel_rfl) (by kernel_rfl) (by decide) dec_5) DecFs.nil rfl (by kernel_rfl)) rfl (by kernel_rfl)) rfl (by kernel_rfl))).map (fun _ => by kernel_rfl) one_mv fun I a h => ⟨⟨a.1, a.2.1, a.2.2.1.2.2, a.2.2.1.1, a.2.2.1.2.1⟩, rfl, h.2.2.1.1, show a.2.2.1.2.2.length ≤ 140737488355328 from by have h9 : a.2.2.1.2.2.length * 1 ≤ 140737488351232 := h.2.2.1.2.1; omega⟩
set_option maxHeartbeats 4000000 in
set_option maxRecDepth 100000 in
theorem migrateMoves_lifted (os : Os) (started : os.Started) (H : Type) (enc : TypeId × Value → H) :
    ReturnsInHanded {} Try.checked os 8 .any (Rows.migrateMovesSpec.pre6 enc Try.prog Try.f8 Rows.migrateMovesRow.domain false) (Rows.migrateMovesSpec.post enc Try.prog Try.f8 false true false false) := by
  refine returnsInHanded_of_change_sized (C := Try.checked) (show ownKnob Try.prog.godebug = Option.none by kernel_rfl) started (by kernel_rfl) Try.func8
    (ChangeSpec.witness6 (enc := enc) (C := Try.checked) false ⟨#[], #[.int .i64 0, .slice none 0 0, .slice none 0 0], []⟩ 8 (by kernel_rfl) (by kernel_rfl) (by kernel_rfl) (by kernel_rfl)) ?_
  intro W base args ds gs before hval0 hW hcnd hsz0 _
  have hsz : (DataW.weightsEach Try.prog (Try.f8.params.toList ++ (Rows.migrateMovesSpec).plain.varTypes Try.prog) (ds ++ gs)).all (· ≤ reachBytes) = true := hsz0
  have hval : ∀ (j : Nat) t v, Try.f8.params[j]? = some t → args[j]? = some v → Value.okWide Try.prog W .any base t v := hval0
  refine law_post (n := 3) (by kernel_rfl) rfl (by rw [Try.params8]; rfl) (fun t ht => by rw [Try.params8] at ht; simp at ht; rcases ht with rfl | rfl | rfl <;> exact ⟨by kernel_rfl, of_decide_eq_true (by kernel_rfl)⟩) (show Try.f8.resultTypes = _ from rfl) (Try.underlying4) (fun ds h => match ds, h with | [_, _, _], _ => rfl) hW ?_
  obtain ⟨p, q, hA0, hV, rfl, hfz, hnd⟩ := hW
  have hA : DataW.TrodAll enc Try.prog W 0 (fun _ => true) true Try.f8.params.toList args.toList ds p := hA0
  rw [Try.params8] at hA hval hsz
  obtain ⟨v0, vs0, d0, ds0, p0, q0, hargs, rfl, rfl, h0, r0⟩ := ChangeShapes.trodAll_cons hA
  obtain ⟨v1, vs1, d1, ds1, p1, q1, rfl, rfl, rfl, h1, r1⟩ := ChangeShapes.trodAll_cons r0
  obtain ⟨v2, vs2, d2, ds2, p2, q2, rfl, rfl, rfl, h2, r2⟩ := ChangeShapes.trodAll_cons r1
  obtain ⟨rfl, rfl, rfl⟩ := ChangeShapes.trodAll_nil r2
  obtain rfl : args = #[v0, v1, v2] := by cases args; simp_all
  obtain ⟨op, rfl, hop⟩ := read_one dec_3 (one_int (P := Try.prog) Try.underlying3 (hval 0 3 v0 rfl rfl)) h0 (weigh hsz (j := 0) (t := 3) rfl rfl)
  obtain ⟨⟨a1, c1, ups⟩, rfl, him1, hbd1, hok1⟩ := read_one (DecR.slice (t := 101) (size := 1) (bytes := 8) Try.underlying101 (by kernel_rfl) (by kernel_rfl) (by kernel_rfl) (by decide) (dec_3.map (fun _ => by kernel_rfl) (fun a x hx => one_i64c [a] x (by simpa using hx)) fun I a h => ⟨a, rfl, trivial⟩ : DecR 140737488351232 Try.prog 3 i64c (fun _ _ => True))) (one_slice (P := Try.prog) Try.underlying101 (hval 1 101 v1 rfl rfl)) h1 (weigh hsz (j := 1) (t := 101) rfl rfl)
  obtain ⟨⟨a2, c2, script⟩, rfl, him2, hbd2, hok2⟩ := read_one (DecR.slice (t := 102) (size := 3) (bytes := 40) Try.underlying102 (by kernel_rfl) (by kernel_rfl) (by kernel_rfl) (by decide) dec_mvop) (one_slice (P := Try.prog) Try.underlying102 (hval 2 102 v2 rfl rfl)) h2 (weigh hsz (j := 2) (t := 102) rfl rfl)
  clear hA0 hval0 hsz hsz0
  have H0 := St.begin W (old W :: Im 1 (.slice a1 ups.length c1) ups.length (ups.flatMap i64c) :: Im 3 (.slice a2 script.length c2) script.length (script.flatMap mvCell) :: mvsA script :: []) (by simp only [List.forall_mem_cons]; exact ⟨old_sat W, him1, him2, ⟨rfl, fun x hx => (hok2 x hx).1⟩, fun _ h => (nomatch h)⟩)
  exact (MigrateMoves_ op ups script _ _ (by have : ups.length * 8 ≤ 140737488351232 := hbd1; omega) (fun i hi => (hok2 _ (by rw [List.getD_eq_getElem?_getD, List.getElem?_eq_getElem hi]; exact List.getElem_mem hi)).2) (j := 1) (k := 2) (a := 3) rfl rfl rfl H0).mono fun e w hh => by cases e with | returned v => exact ⟨hh.1, _, 0, hh.2, rfl⟩ | _ => exact hh.elim
theorem migrateMoves_holds : Rows.MigrateMovesSaid :=
  OpenClaim.holds_of_wide 8 Try.f8 rfl rfl rfl rfl rfl rfl rfl ⟨rfl, rfl, rfl, rfl, rfl⟩ rfl rfl rfl rfl rfl (by kernel_rfl) Try.func8 (by kernel_rfl)
    (of_decide_eq_true (by kernel_rfl)) (by unfold Func.isWrapper; first | (rw [if_pos (by decide +kernel)]; kernel_rfl) | (rw [if_neg (by decide +kernel)]; exact ⟨rfl, rfl⟩))
    (fun os started H enc _ => migrateMoves_lifted os started H enc)
end Go.Proofs.Yteogdknlofcpiaa
