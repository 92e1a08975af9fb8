/- The law's row. No condition. -/
import Derived.Test.YtlpbkclkhadnaaaSlY
import Derived.Test.YtlpbkclkhadnaaaWalkPredEarly1
import Derived.Test.YtlpbkclkhadnaaaRows
import Derived.JoinedOf
import Derived.JoinedCond
namespace Go.Proofs.Ytlpbkclkhadnaaa
open Sl _root_.Go _root_.Go.RowKit
set_option linter.all false
theorem dec_9 : DecR 140737488351232 Try.prog 9 (fun n : Str => [.string n.v]) (fun _ _ => True) := dec_str rfl Try.underlying9 (by kernel_rfl)
theorem dec_3 : DecR 140737488351232 Try.prog 3 (fun n : I64 => [.int .i64 n.v]) (fun _ _ => True) := dec_i64 Try.underlying3 (by kernel_rfl)
theorem dec_2 : DecR 140737488351232 Try.prog 2 (fun n : I64 => [.int .i64 n.v]) (fun _ _ => True) := dec_i64 Try.underlying2 (by kernel_rfl)
theorem dec_cond : DecR 140737488351232 Try.prog 27 condCell (fun _ _ => True) := (DecR.struct (t := 27) (l := [_, _, _]) Try.underlying27 rfl (DecFs.cons (DecR.struct (t := 25) (l := [_, _, _]) Try.underlying25 rfl (DecFs.cons dec_9 (DecFs.cons dec_9 (DecFs.cons (DecR.struct (t := 23) (l := [_, _, _]) Try.underlying23 rfl (DecFs.cons dec_3 (DecFs.cons dec_2 (DecFs.cons dec_9 DecFs.nil rfl (by kernel_rfl)) rfl (by kernel_rfl)) rfl (by kernel_rfl))) DecFs.nil rfl (by kernel_rfl)) rfl (by kernel_rfl)) rfl (by kernel_rfl))) (DecFs.cons dec_3 (DecFs.cons (DecR.struct (t := 25) (l := [_, _, _]) Try.underlying25 rfl (DecFs.cons dec_9 (DecFs.cons dec_9 (DecFs.cons (DecR.struct (t := 23) (l := [_, _, _]) Try.underlying23 rfl (DecFs.cons dec_3 (DecFs.cons dec_2 (DecFs.cons dec_9 DecFs.nil rfl (by kernel_rfl)) rfl (by kernel_rfl)) rfl (by kernel_rfl))) DecFs.nil rfl (by kernel_rfl)) rfl (by kernel_rfl)) rfl (by kernel_rfl))) DecFs.nil rfl (by kernel_rfl)) rfl (by kernel_rfl)) rfl (by kernel_rfl))).map (fun _ => by kernel_rfl) one_cond fun I c _ => ⟨⟨⟨c.1.1, c.1.2.1, ⟨c.1.2.2.1.1, c.1.2.2.1.2.1, c.1.2.2.1.2.2.1⟩⟩, c.2.1, ⟨c.2.2.1.1, c.2.2.1.2.1, ⟨c.2.2.1.2.2.1.1, c.2.2.1.2.2.1.2.1, c.2.2.1.2.2.1.2.2.1⟩⟩⟩, rfl, trivial⟩
theorem dec_strs : DecR 140737488351232 Try.prog 9 strCell (fun _ _ => True) := dec_9
theorem dec_attr : DecR 140737488351232 Try.prog 65 attrCell (fun _ _ => True) := (DecR.struct (t := 65) (l := [_, _]) Try.underlying65 rfl (DecFs.cons dec_9 (DecFs.cons (DecR.struct (t := 23) (l := [_, _, _]) Try.underlying23 rfl (DecFs.cons dec_3 (DecFs.cons dec_2 (DecFs.cons dec_9 DecFs.nil rfl (by kernel_rfl)) rfl (by kernel_rfl)) rfl (by kernel_rfl))) DecFs.nil rfl (by kernel_rfl)) rfl (by kernel_rfl))).map (fun _ => by kernel_rfl) one_attr fun I a _ => ⟨⟨a.1, a.2.1.1, a.2.1.2.1, a.2.1.2.2.1⟩, rfl, trivial⟩
theorem dec_event : DecR 140737488351232 Try.prog 36 (fun e : EvD => evCell e.ev e.av) (fun I e => evdOk I e ∧ e.ev.attrs.length * 48 ≤ 140737488351232) := (DecR.struct (t := 36) (l := [_, _, _, _]) Try.underlying36 rfl (DecFs.cons (DecR.struct (t := 33) (l := [_, _]) Try.underlying33 rfl (DecFs.cons dec_3 (DecFs.cons dec_2 DecFs.nil rfl (by kernel_rfl)) rfl (by kernel_rfl))) (DecFs.cons dec_2 (DecFs.cons dec_9 (DecFs.cons (DecR.slice (t := 34) (size := 4) (bytes := 48) Try.underlying34 (by kernel_rfl) (by kernel_rfl) (by kernel_rfl) (by decide) dec_attr) DecFs.nil rfl (by kernel_rfl)) rfl (by kernel_rfl)) rfl (by kernel_rfl)) rfl (by kernel_rfl))).map (fun _ => by kernel_rfl) one_ev fun I a h => ⟨⟨⟨a.1.1, a.1.2.1, a.2.1, a.2.2.1, a.2.2.2.1.2.2⟩, a.2.2.2.1.1, a.2.2.2.1.2.1⟩, rfl, h.2.2.2.1.1, h.2.2.2.1.2.1⟩
theorem dec_bound : DecR 140737488351232 Try.prog 61 bndCell (fun I b => evdOk I b.ev) := (DecR.struct (t := 61) (l := [_, _]) Try.underlying61 rfl (DecFs.cons dec_9 (DecFs.cons dec_event DecFs.nil rfl (by kernel_rfl)) rfl (by kernel_rfl))).map (fun _ => by kernel_rfl) one_bnd fun I a h => ⟨⟨a.1, a.2.1⟩, rfl, h.2.1.1⟩
set_option maxHeartbeats 4000000 in
set_option maxRecDepth 100000 in
theorem predEarly_lifted (os : Os) (started : os.Started) (H : Type) (enc : TypeId × Value → H) :
    ReturnsInHanded {} Try.checked os 6 .any (Rows.predEarlySpec.pre6 enc Try.prog Try.f6 Rows.predEarlyRow.domain false) (Rows.predEarlySpec.post enc Try.prog Try.f6 false true false false) := by
  refine returnsInHanded_of_change_sized (C := Try.checked) (show ownKnob Try.prog.godebug = Option.none by kernel_rfl) started (by kernel_rfl) Try.func6
    (ChangeSpec.witness6 (enc := enc) (C := Try.checked) false ⟨#[], #[.slice none 0 0, .slice none 0 0, .agg #[.slice none 0 0]], []⟩ 8 (by kernel_rfl) (by kernel_rfl) (by kernel_rfl) (by kernel_rfl)) ?_
  intro W base args ds gs before hval0 hW hcnd hsz0 _
  have hsz : (DataW.weightsEach Try.prog (Try.f6.params.toList ++ (Rows.predEarlySpec).plain.varTypes Try.prog) (ds ++ gs)).all (· ≤ reachBytes) = true := hsz0
  have hval : ∀ (j : Nat) t v, Try.f6.params[j]? = some t → args[j]? = some v → Value.okWide Try.prog W .any base t v := hval0
  refine law_post (n := 3) (by kernel_rfl) rfl (by rw [Try.params6]; rfl) (fun t ht => by rw [Try.params6] at ht; simp at ht; rcases ht with rfl | rfl | rfl <;> exact ⟨by kernel_rfl, of_decide_eq_true (by kernel_rfl)⟩) (show Try.f6.resultTypes = _ from rfl) (Try.underlying4) (fun ds h => match ds, h with | [_, _, _], _ => rfl) hW ?_
  obtain ⟨p, q, hA0, hV, rfl, hfz, hnd⟩ := hW
  have hA : DataW.TrodAll enc Try.prog W 0 (fun _ => true) true Try.f6.params.toList args.toList ds p := hA0
  rw [Try.params6] at hA hval hsz
  obtain ⟨v0, vs0, d0, ds0, p0, q0, hargs, rfl, rfl, h0, r0⟩ := ChangeShapes.trodAll_cons hA
  obtain ⟨v1, vs1, d1, ds1, p1, q1, rfl, rfl, rfl, h1, r1⟩ := ChangeShapes.trodAll_cons r0
  obtain ⟨v2, vs2, d2, ds2, p2, q2, rfl, rfl, rfl, h2, r2⟩ := ChangeShapes.trodAll_cons r1
  obtain ⟨rfl, rfl, rfl⟩ := ChangeShapes.trodAll_nil r2
  obtain rfl : args = #[v0, v1, v2] := by cases args; simp_all
  obtain ⟨⟨a1, q1, l⟩, rfl, him1, hbd1, hok1⟩ := read_one (DecR.slice (t := 28) (size := 11) (bytes := 136) Try.underlying28 (by kernel_rfl) (by kernel_rfl) (by kernel_rfl) (by decide) dec_cond) (one_slice (P := Try.prog) Try.underlying28 (hval 0 28 v0 rfl rfl)) h0 (weigh hsz (j := 0) (t := 28) rfl rfl)
  obtain ⟨⟨a2, q2, vars⟩, rfl, him2, hbd2, hok2⟩ := read_one (DecR.slice (t := 49) (size := 1) (bytes := 16) Try.underlying49 (by kernel_rfl) (by kernel_rfl) (by kernel_rfl) (by decide) dec_strs) (one_slice (P := Try.prog) Try.underlying49 (hval 1 49 v1 rfl rfl)) h1 (weigh hsz (j := 1) (t := 49) rfl rfl)
  obtain ⟨⟨⟨a3, q3, bs⟩, u3⟩, rfl, ⟨him3, hbd3, hok3⟩, -⟩ := read_agg (DecR.struct (t := 43) (l := [_]) Try.underlying43 rfl (DecFs.cons (DecR.slice (t := 41) (size := 6) (bytes := 80) Try.underlying41 (by kernel_rfl) (by kernel_rfl) (by kernel_rfl) (by decide) dec_bound) DecFs.nil rfl (by kernel_rfl))) Try.underlying43 (hval 2 43 v2 rfl rfl) h2 (weigh hsz (j := 2) (t := 43) rfl rfl)
  clear hA0 hval0 hsz hsz0
  have H0 := St.begin W (old W :: Im 11 (.slice a1 l.length q1) l.length (l.flatMap condCell) :: Im 1 (.slice a2 vars.length q2) vars.length (vars.flatMap strCell) :: Im 6 (.slice a3 bs.length q3) bs.length (bs.flatMap bndCell) :: bndsA bs :: []) (by simp only [List.forall_mem_cons]; exact ⟨old_sat W, him1, him2, him3, bnds_sat hok3, fun _ h => (nomatch h)⟩)
  exact (PredEarly_ l _ vars _ bs _ (m := 1) rfl (jv := 2) rfl (ip := 3) rfl (iq := 4) rfl (by have : l.length * 136 ≤ 140737488351232 := hbd1; omega) H0).mono fun e w hh => by cases e with | returned v => exact ⟨hh.1, _, 0, hh.2, rfl⟩ | _ => exact hh.elim
theorem predEarly_holds : Rows.PredEarlySaid :=
  OpenClaim.holds_of_wide 6 Try.f6 rfl rfl rfl rfl rfl rfl rfl ⟨rfl, rfl, rfl, rfl, rfl⟩ rfl rfl rfl rfl rfl (by kernel_rfl) Try.func6 (by kernel_rfl)
    (of_decide_eq_true (by kernel_rfl)) (by unfold Func.isWrapper; first | (rw [if_pos (by decide +kernel)]; kernel_rfl) | (rw [if_neg (by decide +kernel)]; exact ⟨rfl, rfl⟩))
    (fun os started H enc _ => predEarly_lifted os started H enc)
end Go.Proofs.Ytlpbkclkhadnaaa
