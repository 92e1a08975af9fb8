/- The law's row. No condition. -/
import Derived.Test.YtlpbkclkhadnaaaSlY
import Derived.Test.YtlpbkclkhadnaaaWalkPredOnce1
import Derived.Test.YtlpbkclkhadnaaaRows
import Derived.JoinedOf
import Derived.JoinedCond
namespace Go.Proofs.Ytlpbkclkhadnaaa
open Sl _root_.Go _root_.Go.RowKit
set_option linter.all false
theorem dec_9 : DecR 140737488351232 Try.prog 9 (fun n : Str => [.string n.v]) (fun _ _ => True) := dec_str rfl Try.underlying9 (by kernel_rfl)
theorem dec_3 : DecR 140737488351232 Try.prog 3 (fun n : I64 => [.int .i64 n.v]) (fun _ _ => True) := dec_i64 Try.underlying3 (by kernel_rfl)
theorem dec_2 : DecR 140737488351232 Try.prog 2 (fun n : I64 => [.int .i64 n.v]) (fun _ _ => True) := dec_i64 Try.underlying2 (by kernel_rfl)
theorem dec_cond : DecR 140737488351232 Try.prog 27 condCell (fun _ _ => True) := (DecR.struct (t := 27) (l := [_, _, _]) Try.underlying27 rfl (DecFs.cons (DecR.struct (t := 25) (l := [_, _, _]) Try.underlying25 rfl (DecFs.cons dec_9 (DecFs.cons dec_9 (DecFs.cons (DecR.struct (t := 23) (l := [_, _, _]) Try.underlying23 rfl (DecFs.cons dec_3 (DecFs.cons dec_2 (DecFs.cons dec_9 DecFs.nil rfl (by kernel_rfl)) rfl (by kernel_rfl)) rfl (by kernel_rfl))) DecFs.nil rfl (by kernel_rfl)) rfl (by kernel_rfl)) rfl (by kernel_rfl))) (DecFs.cons dec_3 (DecFs.cons (DecR.struct (t := 25) (l := [_, _, _]) Try.underlying25 rfl (DecFs.cons dec_9 (DecFs.cons dec_9 (DecFs.cons (DecR.struct (t := 23) (l := [_, _, _]) Try.underlying23 rfl (DecFs.cons dec_3 (DecFs.cons dec_2 (DecFs.cons dec_9 DecFs.nil rfl (by kernel_rfl)) rfl (by kernel_rfl)) rfl (by kernel_rfl))) DecFs.nil rfl (by kernel_rfl)) rfl (by kernel_rfl)) rfl (by kernel_rfl))) DecFs.nil rfl (by kernel_rfl)) rfl (by kernel_rfl)) rfl (by kernel_rfl))).map (fun _ => by kernel_rfl) one_cond fun I c _ => ⟨⟨⟨c.1.1, c.1.2.1, ⟨c.1.2.2.1.1, c.1.2.2.1.2.1, c.1.2.2.1.2.2.1⟩⟩, c.2.1, ⟨c.2.2.1.1, c.2.2.1.2.1, ⟨c.2.2.1.2.2.1.1, c.2.2.1.2.2.1.2.1, c.2.2.1.2.2.1.2.2.1⟩⟩⟩, rfl, trivial⟩
theorem dec_attr : DecR 140737488351232 Try.prog 65 attrCell (fun _ _ => True) := (DecR.struct (t := 65) (l := [_, _]) Try.underlying65 rfl (DecFs.cons dec_9 (DecFs.cons (DecR.struct (t := 23) (l := [_, _, _]) Try.underlying23 rfl (DecFs.cons dec_3 (DecFs.cons dec_2 (DecFs.cons dec_9 DecFs.nil rfl (by kernel_rfl)) rfl (by kernel_rfl)) rfl (by kernel_rfl))) DecFs.nil rfl (by kernel_rfl)) rfl (by kernel_rfl))).map (fun _ => by kernel_rfl) one_attr fun I a _ => ⟨⟨a.1, a.2.1.1, a.2.1.2.1, a.2.1.2.2.1⟩, rfl, trivial⟩
theorem dec_event : DecR 140737488351232 Try.prog 36 (fun e : EvD => evCell e.ev e.av) (fun I e => evdOk I e ∧ e.ev.attrs.length * 48 ≤ 140737488351232) := (DecR.struct (t := 36) (l := [_, _, _, _]) Try.underlying36 rfl (DecFs.cons (DecR.struct (t := 33) (l := [_, _]) Try.underlying33 rfl (DecFs.cons dec_3 (DecFs.cons dec_2 DecFs.nil rfl (by kernel_rfl)) rfl (by kernel_rfl))) (DecFs.cons dec_2 (DecFs.cons dec_9 (DecFs.cons (DecR.slice (t := 34) (size := 4) (bytes := 48) Try.underlying34 (by kernel_rfl) (by kernel_rfl) (by kernel_rfl) (by decide) dec_attr) DecFs.nil rfl (by kernel_rfl)) rfl (by kernel_rfl)) rfl (by kernel_rfl)) rfl (by kernel_rfl))).map (fun _ => by kernel_rfl) one_ev fun I a h => ⟨⟨⟨a.1.1, a.1.2.1, a.2.1, a.2.2.1, a.2.2.2.1.2.2⟩, a.2.2.2.1.1, a.2.2.2.1.2.1⟩, rfl, h.2.2.2.1.1, h.2.2.2.1.2.1⟩
theorem dec_bound : DecR 140737488351232 Try.prog 61 bndCell (fun I b => evdOk I b.ev) := (DecR.struct (t := 61) (l := [_, _]) Try.underlying61 rfl (DecFs.cons dec_9 (DecFs.cons dec_event DecFs.nil rfl (by kernel_rfl)) rfl (by kernel_rfl))).map (fun _ => by kernel_rfl) one_bnd fun I a h => ⟨⟨a.1, a.2.1⟩, rfl, h.2.1.1⟩
set_option maxHeartbeats 4000000 in
set_option maxRecDepth 100000 in
theorem predOnce_lifted (os : Os) (started : os.Started) (H : Type) (enc : TypeId × Value → H) :
    ReturnsInHanded {} Try.checked os 7 .any (Rows.predOnceSpec.pre6 enc Try.prog Try.f7 Rows.predOnceRow.domain false) (Rows.predOnceSpec.post enc Try.prog Try.f7 false true false false) := by
  refine returnsInHanded_of_change_sized (C := Try.checked) (show ownKnob Try.prog.godebug = Option.none by kernel_rfl) started (by kernel_rfl) Try.func7
    (ChangeSpec.witness6 (enc := enc) (C := Try.checked) false ⟨#[], #[.agg #[.string ByteArray.empty, .string ByteArray.empty, .int .i64 0, .int .i64 0, .string ByteArray.empty, .int .i64 0, .string ByteArray.empty, .string ByteArray.empty, .int .i64 0, .int .i64 0, .string ByteArray.empty], .agg #[.slice none 0 0], .agg #[.slice none 0 0]], []⟩ 8 (by kernel_rfl) (by kernel_rfl) (by kernel_rfl) (by kernel_rfl)) ?_
  intro W base args ds gs before hval0 hW hcnd hsz0 _
  have hsz : (DataW.weightsEach Try.prog (Try.f7.params.toList ++ (Rows.predOnceSpec).plain.varTypes Try.prog) (ds ++ gs)).all (· ≤ reachBytes) = true := hsz0
  have hval : ∀ (j : Nat) t v, Try.f7.params[j]? = some t → args[j]? = some v → Value.okWide Try.prog W .any base t v := hval0
  refine law_post (n := 3) (by kernel_rfl) rfl (by rw [Try.params7]; rfl) (fun t ht => by rw [Try.params7] at ht; simp at ht; rcases ht with rfl | rfl | rfl <;> exact ⟨by kernel_rfl, of_decide_eq_true (by kernel_rfl)⟩) (show Try.f7.resultTypes = _ from rfl) (Try.underlying4) (fun ds h => match ds, h with | [_, _, _], _ => rfl) hW ?_
  obtain ⟨p, q, hA0, hV, rfl, hfz, hnd⟩ := hW
  have hA : DataW.TrodAll enc Try.prog W 0 (fun _ => true) true Try.f7.params.toList args.toList ds p := hA0
  rw [Try.params7] at hA hval hsz
  obtain ⟨v0, vs0, d0, ds0, p0, q0, hargs, rfl, rfl, h0, r0⟩ := ChangeShapes.trodAll_cons hA
  obtain ⟨v1, vs1, d1, ds1, p1, q1, rfl, rfl, rfl, h1, r1⟩ := ChangeShapes.trodAll_cons r0
  obtain ⟨v2, vs2, d2, ds2, p2, q2, rfl, rfl, rfl, h2, r2⟩ := ChangeShapes.trodAll_cons r1
  obtain ⟨rfl, rfl, rfl⟩ := ChangeShapes.trodAll_nil r2
  obtain rfl : args = #[v0, v1, v2] := by cases args; simp_all
  obtain ⟨c, rfl, hc⟩ := read_agg dec_cond Try.underlying27 (hval 0 27 v0 rfl rfl) h0 (weigh hsz (j := 0) (t := 27) rfl rfl)
  obtain ⟨⟨⟨a3, q3, bs⟩, u3⟩, rfl, ⟨him3, hbd3, hok3⟩, -⟩ := read_agg (DecR.struct (t := 43) (l := [_]) Try.underlying43 rfl (DecFs.cons (DecR.slice (t := 41) (size := 6) (bytes := 80) Try.underlying41 (by kernel_rfl) (by kernel_rfl) (by kernel_rfl) (by decide) dec_bound) DecFs.nil rfl (by kernel_rfl))) Try.underlying43 (hval 1 43 v1 rfl rfl) h1 (weigh hsz (j := 1) (t := 43) rfl rfl)
  obtain ⟨⟨⟨a4, q4, ms⟩, u4⟩, rfl, ⟨him4, hbd4, hok4⟩, -⟩ := read_agg (DecR.struct (t := 43) (l := [_]) Try.underlying43 rfl (DecFs.cons (DecR.slice (t := 41) (size := 6) (bytes := 80) Try.underlying41 (by kernel_rfl) (by kernel_rfl) (by kernel_rfl) (by decide) dec_bound) DecFs.nil rfl (by kernel_rfl))) Try.underlying43 (hval 2 43 v2 rfl rfl) h2 (weigh hsz (j := 2) (t := 43) rfl rfl)
  clear hA0 hval0 hsz hsz0
  have H0 := St.begin W (old W :: Im 6 (.slice a3 bs.length q3) bs.length (bs.flatMap bndCell) :: bndsA bs :: Im 6 (.slice a4 ms.length q4) ms.length (ms.flatMap bndCell) :: bndsA ms :: []) (by simp only [List.forall_mem_cons]; exact ⟨old_sat W, him3, bnds_sat hok3, him4, bnds_sat hok4, fun _ h => (nomatch h)⟩)
  exact (PredOnce_ c bs _ ms _ (ip := 1) rfl (iq := 2) rfl (ip2 := 3) rfl (iq2 := 4) rfl (by have : bs.length * 80 ≤ 140737488351232 := hbd3; have : ms.length * 80 ≤ 140737488351232 := hbd4; omega) H0).mono fun e w hh => by cases e with | returned v => exact ⟨hh.1, _, 0, hh.2, rfl⟩ | _ => exact hh.elim
theorem predOnce_holds : Rows.PredOnceSaid :=
  OpenClaim.holds_of_wide 7 Try.f7 rfl rfl rfl rfl rfl rfl rfl ⟨rfl, rfl, rfl, rfl, rfl⟩ rfl rfl rfl rfl rfl (by kernel_rfl) Try.func7 (by kernel_rfl)
    (of_decide_eq_true (by kernel_rfl)) (by unfold Func.isWrapper; first | (rw [if_pos (by decide +kernel)]; kernel_rfl) | (rw [if_neg (by decide +kernel)]; exact ⟨rfl, rfl⟩))
    (fun os started H enc _ => predOnce_lifted os started H enc)
end Go.Proofs.Ytlpbkclkhadnaaa
