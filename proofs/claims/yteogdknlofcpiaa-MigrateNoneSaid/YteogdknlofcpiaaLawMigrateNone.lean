/- The law's row. No condition. -/
import Derived.Test.YteogdknlofcpiaaSlJ
import Derived.Test.YteogdknlofcpiaaWalkMigrateNone0
import Derived.Test.YteogdknlofcpiaaRows
import Derived.JoinedOf
import Derived.JoinedCond
namespace Go.Proofs.Yteogdknlofcpiaa
open Sl _root_.Go _root_.Go.RowKit
set_option linter.all false
theorem dec_3 : DecR 140737488351232 Try.prog 3 (fun n : I64 => [.int .i64 n.v]) (fun _ _ => True) := dec_i64 Try.underlying3 (by kernel_rfl)
theorem dec_2 : DecR 140737488351232 Try.prog 2 (fun n : I64 => [.int .i64 n.v]) (fun _ _ => True) := dec_i64 Try.underlying2 (by kernel_rfl)
theorem dec_9 : DecR 140737488351232 Try.prog 9 (fun n : Str => [.string n.v]) (fun _ _ => True) := dec_str rfl Try.underlying9 (by kernel_rfl)
theorem dec_attr : DecR 140737488351232 Try.prog 213 attrCell (fun _ _ => True) := (DecR.struct (t := 213) (l := [_, _]) Try.underlying213 rfl (DecFs.cons dec_9 (DecFs.cons (DecR.struct (t := 211) (l := [_, _, _]) Try.underlying211 rfl (DecFs.cons dec_3 (DecFs.cons dec_2 (DecFs.cons dec_9 DecFs.nil rfl (by kernel_rfl)) rfl (by kernel_rfl)) rfl (by kernel_rfl))) DecFs.nil rfl (by kernel_rfl)) rfl (by kernel_rfl))).map (fun _ => by kernel_rfl) one_attr fun I a _ => ⟨⟨a.1, a.2.1.1, a.2.1.2.1, a.2.1.2.2.1⟩, rfl, trivial⟩
theorem dec_event : DecR 140737488351232 Try.prog 168 (fun e : EvD => evCell e.ev e.av) (fun I e => evdOk I e ∧ e.ev.attrs.length * 48 ≤ 140737488351232) := (DecR.struct (t := 168) (l := [_, _, _, _]) Try.underlying168 rfl (DecFs.cons (DecR.struct (t := 165) (l := [_, _]) Try.underlying165 rfl (DecFs.cons dec_3 (DecFs.cons dec_2 DecFs.nil rfl (by kernel_rfl)) rfl (by kernel_rfl))) (DecFs.cons dec_2 (DecFs.cons dec_9 (DecFs.cons (DecR.slice (t := 166) (size := 4) (bytes := 48) Try.underlying166 (by kernel_rfl) (by kernel_rfl) (by kernel_rfl) (by decide) dec_attr) DecFs.nil rfl (by kernel_rfl)) rfl (by kernel_rfl)) rfl (by kernel_rfl)) rfl (by kernel_rfl))).map (fun _ => by kernel_rfl) one_ev fun I a h => ⟨⟨⟨a.1.1, a.1.2.1, a.2.1, a.2.2.1, a.2.2.2.1.2.2⟩, a.2.2.2.1.1, a.2.2.2.1.2.1⟩, rfl, h.2.2.2.1.1, h.2.2.2.1.2.1⟩
theorem dec_bound : DecR 140737488351232 Try.prog 170 bndCell (fun I b => evdOk I b.ev) := (DecR.struct (t := 170) (l := [_, _]) Try.underlying170 rfl (DecFs.cons dec_9 (DecFs.cons dec_event DecFs.nil rfl (by kernel_rfl)) rfl (by kernel_rfl))).map (fun _ => by kernel_rfl) one_bnd fun I a h => ⟨⟨a.1, a.2.1⟩, rfl, h.2.1.1⟩
theorem dec_5 : DecR 140737488351232 Try.prog 5 u8c (fun _ _ => True) := dec_byte Try.underlying5 (by kernel_rfl)
set_option maxHeartbeats 4000000 in
set_option maxRecDepth 100000 in
theorem migrateNone_lifted (os : Os) (started : os.Started) (H : Type) (enc : TypeId × Value → H) :
    ReturnsInHanded {} Try.checked os 7 .any (Rows.migrateNoneSpec.pre6 enc Try.prog Try.f7 Rows.migrateNoneRow.domain false) (Rows.migrateNoneSpec.post enc Try.prog Try.f7 false true false false) := by
  refine returnsInHanded_of_change_sized (C := Try.checked) (show ownKnob Try.prog.godebug = Option.none by kernel_rfl) started (by kernel_rfl) Try.func7
    (ChangeSpec.witness6 (enc := enc) (C := Try.checked) false ⟨#[], #[.agg #[.int .i64 0, .int .i64 0, .int .i64 0, .int .i64 0, .slice none 0 0, .int .i64 0], .agg #[.int .i64 0, .int .i64 0, .int .i64 0, .slice none 0 0], .int .i64 0], []⟩ 8 (by kernel_rfl) (by kernel_rfl) (by kernel_rfl) (by kernel_rfl)) ?_
  intro W base args ds gs before hval0 hW hcnd hsz0 _
  have hsz : (DataW.weightsEach Try.prog (Try.f7.params.toList ++ (Rows.migrateNoneSpec).plain.varTypes Try.prog) (ds ++ gs)).all (· ≤ reachBytes) = true := hsz0
  have hval : ∀ (j : Nat) t v, Try.f7.params[j]? = some t → args[j]? = some v → Value.okWide Try.prog W .any base t v := hval0
  refine law_post (n := 3) (by kernel_rfl) rfl (by rw [Try.params7]; rfl) (fun t ht => by rw [Try.params7] at ht; simp at ht; rcases ht with rfl | rfl | rfl <;> exact ⟨by kernel_rfl, of_decide_eq_true (by kernel_rfl)⟩) (show Try.f7.resultTypes = _ from rfl) (Try.underlying4) (fun ds h => match ds, h with | [_, _, _], _ => rfl) hW ?_
  obtain ⟨p, q, hA0, hV, rfl, hfz, hnd⟩ := hW
  have hA : DataW.TrodAll enc Try.prog W 0 (fun _ => true) true Try.f7.params.toList args.toList ds p := hA0
  rw [Try.params7] at hA hval hsz
  obtain ⟨v0, vs0, d0, ds0, p0, q0, hargs, rfl, rfl, h0, r0⟩ := ChangeShapes.trodAll_cons hA
  obtain ⟨v1, vs1, d1, ds1, p1, q1, rfl, rfl, rfl, h1, r1⟩ := ChangeShapes.trodAll_cons r0
  obtain ⟨v2, vs2, d2, ds2, p2, q2, rfl, rfl, rfl, h2, r2⟩ := ChangeShapes.trodAll_cons r1
  obtain ⟨rfl, rfl, rfl⟩ := ChangeShapes.trodAll_nil r2
  obtain rfl : args = #[v0, v1, v2] := by cases args; simp_all
  obtain ⟨⟨o, n, e, k, ⟨⟨a, c, L⟩, u1⟩, t, u⟩, rfl, hx⟩ := read_agg (DecR.struct (t := 32) (l := [_, _, _, _, _, _]) Try.underlying32 rfl (DecFs.cons dec_3 (DecFs.cons dec_3 (DecFs.cons dec_2 (DecFs.cons dec_3 (DecFs.cons (DecR.struct (t := 30) (l := [_]) Try.underlying30 rfl (DecFs.cons (DecR.slice (t := 28) (size := 6) (bytes := 80) Try.underlying28 (by kernel_rfl) (by kernel_rfl) (by kernel_rfl) (by decide) dec_bound) DecFs.nil rfl (by kernel_rfl))) (DecFs.cons dec_2 DecFs.nil rfl (by kernel_rfl)) rfl (by kernel_rfl)) rfl (by kernel_rfl)) rfl (by kernel_rfl)) rfl (by kernel_rfl)) rfl (by kernel_rfl))) Try.underlying32 (hval 0 32 v0 rfl rfl) h0 (weigh hsz (j := 0) (t := 32) rfl rfl)
  obtain ⟨⟨o2, m, i0, ⟨a2, c2, L2⟩, u2⟩, rfl, hy⟩ := read_agg (DecR.struct (t := 51) (l := [_, _, _, _]) Try.underlying51 rfl (DecFs.cons dec_3 (DecFs.cons dec_3 (DecFs.cons dec_3 (DecFs.cons (DecR.slice (t := 23) (size := 1) (bytes := 1) Try.underlying23 (by kernel_rfl) (by kernel_rfl) (by kernel_rfl) (by decide) dec_5) DecFs.nil rfl (by kernel_rfl)) rfl (by kernel_rfl)) rfl (by kernel_rfl)) rfl (by kernel_rfl))) Try.underlying51 (hval 1 51 v1 rfl rfl) h1 (weigh hsz (j := 1) (t := 51) rfl rfl)
  obtain ⟨q, rfl, hq⟩ := read_one dec_3 (one_int (P := Try.prog) Try.underlying3 (hval 2 3 v2 rfl rfl)) h2 (weigh hsz (j := 2) (t := 3) rfl rfl)
  clear hA0 hval0 hsz hsz0
  have H0 := St.begin W (old W :: []) (by simp only [List.forall_mem_cons]; exact ⟨old_sat W, fun _ h => (nomatch h)⟩)
  exact (MigrateNone_ o.v n.v e.v k.v t.v a L.length c o2.v m.v i0.v a2 L2.length c2 q.v H0).mono fun e w hh => by cases e with | returned v => exact ⟨hh.1, _, 0, hh.2, rfl⟩ | _ => exact hh.elim
theorem migrateNone_holds : Rows.MigrateNoneSaid :=
  OpenClaim.holds_of_wide 7 Try.f7 rfl rfl rfl rfl rfl rfl rfl ⟨rfl, rfl, rfl, rfl, rfl⟩ rfl rfl rfl rfl rfl (by kernel_rfl) Try.func7 (by kernel_rfl)
    (of_decide_eq_true (by kernel_rfl)) (by unfold Func.isWrapper; first | (rw [if_pos (by decide +kernel)]; kernel_rfl) | (rw [if_neg (by decide +kernel)]; exact ⟨rfl, rfl⟩))
    (fun os started H enc _ => migrateNone_lifted os started H enc)
end Go.Proofs.Yteogdknlofcpiaa
