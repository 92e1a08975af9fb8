/- The law's row. No condition. -/
import Derived.Test.YteogdknlofcpiaaSlY
import Derived.Test.YteogdknlofcpiaaSlZ
import Derived.Test.YteogdknlofcpiaaWalkMigrateLands4
import Derived.Test.YteogdknlofcpiaaRows
import Derived.JoinedOf
import Derived.JoinedCond
namespace Go.Proofs.Yteogdknlofcpiaa
open Sl _root_.Go _root_.Go.RowKit
set_option linter.all false
theorem dec_5 : DecR 140737488351232 Try.prog 5 u8c (fun _ _ => True) := dec_byte Try.underlying5 (by kernel_rfl)
theorem dec_3 : DecR 140737488351232 Try.prog 3 (fun n : I64 => [.int .i64 n.v]) (fun _ _ => True) := dec_i64 Try.underlying3 (by kernel_rfl)
theorem dec_2 : DecR 140737488351232 Try.prog 2 (fun n : I64 => [.int .i64 n.v]) (fun _ _ => True) := dec_i64 Try.underlying2 (by kernel_rfl)
theorem dec_9 : DecR 140737488351232 Try.prog 9 (fun n : Str => [.string n.v]) (fun _ _ => True) := dec_str rfl Try.underlying9 (by kernel_rfl)
theorem dec_attr : DecR 140737488351232 Try.prog 213 attrCell (fun _ _ => True) := (DecR.struct (t := 213) (l := [_, _]) Try.underlying213 rfl (DecFs.cons dec_9 (DecFs.cons (DecR.struct (t := 211) (l := [_, _, _]) Try.underlying211 rfl (DecFs.cons dec_3 (DecFs.cons dec_2 (DecFs.cons dec_9 DecFs.nil rfl (by kernel_rfl)) rfl (by kernel_rfl)) rfl (by kernel_rfl))) DecFs.nil rfl (by kernel_rfl)) rfl (by kernel_rfl))).map (fun _ => by kernel_rfl) one_attr fun I a _ => ⟨⟨a.1, a.2.1.1, a.2.1.2.1, a.2.1.2.2.1⟩, rfl, trivial⟩
theorem dec_event : DecR 140737488351232 Try.prog 168 (fun e : EvD => evCell e.ev e.av) (fun I e => evdOk I e ∧ e.ev.attrs.length * 48 ≤ 140737488351232) := (DecR.struct (t := 168) (l := [_, _, _, _]) Try.underlying168 rfl (DecFs.cons (DecR.struct (t := 165) (l := [_, _]) Try.underlying165 rfl (DecFs.cons dec_3 (DecFs.cons dec_2 DecFs.nil rfl (by kernel_rfl)) rfl (by kernel_rfl))) (DecFs.cons dec_2 (DecFs.cons dec_9 (DecFs.cons (DecR.slice (t := 166) (size := 4) (bytes := 48) Try.underlying166 (by kernel_rfl) (by kernel_rfl) (by kernel_rfl) (by decide) dec_attr) DecFs.nil rfl (by kernel_rfl)) rfl (by kernel_rfl)) rfl (by kernel_rfl)) rfl (by kernel_rfl))).map (fun _ => by kernel_rfl) one_ev fun I a h => ⟨⟨⟨a.1.1, a.1.2.1, a.2.1, a.2.2.1, a.2.2.2.1.2.2⟩, a.2.2.2.1.1, a.2.2.2.1.2.1⟩, rfl, h.2.2.2.1.1, h.2.2.2.1.2.1⟩
theorem dec_bound9 : DecR 140737488351232 Try.prog 170 bndCell (fun I b => evdOk I b.ev ∧ b.ev.ev.attrs.length * 48 ≤ 140737488355328) := (DecR.struct (t := 170) (l := [_, _]) Try.underlying170 rfl (DecFs.cons dec_9 (DecFs.cons dec_event DecFs.nil rfl (by kernel_rfl)) rfl (by kernel_rfl))).map (fun _ => by kernel_rfl) one_bnd fun I a h => ⟨⟨a.1, a.2.1⟩, rfl, h.2.1.1, Nat.le_trans h.2.1.2 (by decide)⟩
theorem dec_item : DecR 140737488351232 Try.prog 32 itCell itemOk := (DecR.struct (t := 32) (l := [_, _, _, _, _, _]) Try.underlying32 rfl (DecFs.cons dec_3 (DecFs.cons dec_3 (DecFs.cons dec_2 (DecFs.cons dec_3 (DecFs.cons (DecR.struct (t := 30) (l := [_]) Try.underlying30 rfl (DecFs.cons (DecR.slice (t := 28) (size := 6) (bytes := 80) Try.underlying28 (by kernel_rfl) (by kernel_rfl) (by kernel_rfl) (by decide) dec_bound9) DecFs.nil rfl (by kernel_rfl))) (DecFs.cons dec_2 DecFs.nil rfl (by kernel_rfl)) rfl (by kernel_rfl)) rfl (by kernel_rfl)) rfl (by kernel_rfl)) rfl (by kernel_rfl)) rfl (by kernel_rfl))).map (fun _ => by kernel_rfl) one_it fun I a h => ⟨⟨a.1, a.2.1, a.2.2.1, a.2.2.2.1, a.2.2.2.2.1.1.1, a.2.2.2.2.1.1.2.1, a.2.2.2.2.1.1.2.2, a.2.2.2.2.2.1⟩, rfl, h.2.2.2.2.1.1.1, bnds_sat (fun b hb => (h.2.2.2.2.1.1.2.2 b hb).1), Nat.le_trans h.2.2.2.2.1.1.2.1 (by decide), fun i hi => (h.2.2.2.2.1.1.2.2 _ (by rw [List.getD_eq_getElem?_getD, List.getElem?_eq_getElem hi]; exact List.getElem_mem hi)).2⟩
theorem dec_step : DecR 140737488351232 Try.prog 53 stpCell stpOk := (DecR.struct (t := 53) (l := [_, _, _]) Try.underlying53 rfl (DecFs.cons dec_3 (DecFs.cons dec_item (DecFs.cons (DecR.struct (t := 51) (l := [_, _, _, _]) Try.underlying51 rfl (DecFs.cons dec_3 (DecFs.cons dec_3 (DecFs.cons dec_3 (DecFs.cons (DecR.slice (t := 23) (size := 1) (bytes := 1) Try.underlying23 (by kernel_rfl) (by kernel_rfl) (by kernel_rfl) (by decide) dec_5) DecFs.nil rfl (by kernel_rfl)) rfl (by kernel_rfl)) rfl (by kernel_rfl)) rfl (by kernel_rfl))) DecFs.nil rfl (by kernel_rfl)) rfl (by kernel_rfl)) rfl (by kernel_rfl))).map (fun _ => by kernel_rfl) one_stp fun I a h => ⟨⟨a.1, a.2.1, ⟨⟨a.2.2.1.1, a.2.2.1.2.1, a.2.2.1.2.2.1, a.2.2.1.2.2.2.1.2.2⟩, a.2.2.1.2.2.2.1.1, a.2.2.1.2.2.2.1.2.1⟩⟩, rfl, stpOk_of h.2.1.1 h.2.1.2.1 h.2.1.2.2 h.2.2.1.2.2.2.1.1⟩
set_option maxHeartbeats 4000000 in
set_option maxRecDepth 100000 in
theorem migrateLands_lifted (os : Os) (started : os.Started) (H : Type) (enc : TypeId × Value → H) :
    ReturnsInHanded {} Try.checked os 4 .any (Rows.migrateLandsSpec.pre6 enc Try.prog Try.f4 Rows.migrateLandsRow.domain false) (Rows.migrateLandsSpec.post enc Try.prog Try.f4 false true false false) := by
  refine returnsInHanded_of_change_sized (C := Try.checked) (show ownKnob Try.prog.godebug = Option.none by kernel_rfl) started (by kernel_rfl) Try.func4
    (ChangeSpec.witness6 (enc := enc) (C := Try.checked) false ⟨#[], #[.int .i64 0, .slice none 0 0], []⟩ 8 (by kernel_rfl) (by kernel_rfl) (by kernel_rfl) (by kernel_rfl)) ?_
  intro W base args ds gs before hval0 hW hcnd hsz0 _
  have hsz : (DataW.weightsEach Try.prog (Try.f4.params.toList ++ (Rows.migrateLandsSpec).plain.varTypes Try.prog) (ds ++ gs)).all (· ≤ reachBytes) = true := hsz0
  have hval : ∀ (j : Nat) t v, Try.f4.params[j]? = some t → args[j]? = some v → Value.okWide Try.prog W .any base t v := hval0
  refine law_post (n := 2) (by kernel_rfl) rfl (by rw [Try.params4]; rfl) (fun t ht => by rw [Try.params4] at ht; simp at ht; rcases ht with rfl | rfl <;> exact ⟨by kernel_rfl, of_decide_eq_true (by kernel_rfl)⟩) (show Try.f4.resultTypes = _ from rfl) (Try.underlying4) (fun ds h => match ds, h with | [_, _], _ => rfl) hW ?_
  obtain ⟨p, q, hA0, hV, rfl, hfz, hnd⟩ := hW
  have hA : DataW.TrodAll enc Try.prog W 0 (fun _ => true) true Try.f4.params.toList args.toList ds p := hA0
  rw [Try.params4] at hA hval hsz
  obtain ⟨v0, vs0, d0, ds0, p0, q0, hargs, rfl, rfl, h0, r0⟩ := ChangeShapes.trodAll_cons hA
  obtain ⟨v1, vs1, d1, ds1, p1, q1, rfl, rfl, rfl, h1, r1⟩ := ChangeShapes.trodAll_cons r0
  obtain ⟨rfl, rfl, rfl⟩ := ChangeShapes.trodAll_nil r1
  obtain rfl : args = #[v0, v1] := by cases args; simp_all
  obtain ⟨op, rfl, hop⟩ := read_one dec_3 (one_int (P := Try.prog) Try.underlying3 (hval 0 3 v0 rfl rfl)) h0 (weigh hsz (j := 0) (t := 3) rfl rfl)
  obtain ⟨⟨a1, c1, script⟩, rfl, him1, hbd1, hok1⟩ := read_one (DecR.slice (t := 43) (size := 11) (bytes := 120) Try.underlying43 (by kernel_rfl) (by kernel_rfl) (by kernel_rfl) (by decide) dec_step) (one_slice (P := Try.prog) Try.underlying43 (hval 1 43 v1 rfl rfl)) h1 (weigh hsz (j := 1) (t := 43) rfl rfl)
  clear hA0 hval0 hsz hsz0
  have H0 := St.begin W (old W :: Im 11 (.slice a1 script.length c1) script.length (script.flatMap stpCell) :: stpsA script :: []) (by simp only [List.forall_mem_cons]; exact ⟨old_sat W, him1, ⟨rfl, fun x hx => ⟨(hok1 x hx).1, (hok1 x hx).2.1⟩⟩, fun _ h => (nomatch h)⟩)
  exact (MigrateLands_ op script _ (fun x hx => (hok1 x hx).2.2) (j := 1) (a := 2) rfl rfl H0).mono fun e w hh => by cases e with | returned v => exact ⟨hh.1, _, 0, hh.2, rfl⟩ | _ => exact hh.elim
theorem migrateLands_holds : Rows.MigrateLandsSaid :=
  OpenClaim.holds_of_wide 4 Try.f4 rfl rfl rfl rfl rfl rfl rfl ⟨rfl, rfl, rfl, rfl, rfl⟩ rfl rfl rfl rfl rfl (by kernel_rfl) Try.func4 (by kernel_rfl)
    (of_decide_eq_true (by kernel_rfl)) (by unfold Func.isWrapper; first | (rw [if_pos (by decide +kernel)]; kernel_rfl) | (rw [if_neg (by decide +kernel)]; exact ⟨rfl, rfl⟩))
    (fun os started H enc _ => migrateLands_lifted os started H enc)
end Go.Proofs.Yteogdknlofcpiaa
