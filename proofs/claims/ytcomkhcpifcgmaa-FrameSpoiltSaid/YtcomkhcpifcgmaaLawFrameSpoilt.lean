/- The law's row. No condition. -/
import Derived.Test.YtcomkhcpifcgmaaSlM
import Derived.Test.YtcomkhcpifcgmaaWalkFrameSpoilt2
import Derived.Test.YtcomkhcpifcgmaaRows
import Derived.JoinedOf
import Derived.JoinedCond
namespace Go.Proofs.Ytcomkhcpifcgmaa
open Sl _root_.Go _root_.Go.RowKit
set_option linter.all false
theorem dec_3 : DecR 140737488351232 Try.prog 3 (fun n : I64 => [.int .i64 n.v]) (fun _ _ => True) := dec_i64 Try.underlying3 (by kernel_rfl)
theorem dec_2 : DecR 140737488351232 Try.prog 2 (fun n : I64 => [.int .i64 n.v]) (fun _ _ => True) := dec_i64 Try.underlying2 (by kernel_rfl)
theorem dec_5 : DecR 140737488351232 Try.prog 5 u8c (fun _ _ => True) := dec_byte Try.underlying5 (by kernel_rfl)
theorem dec_dg : DecR 140737488351232 Try.prog 24 dgdCell (dgdOk 140737488351232) := (DecR.struct (t := 24) (l := [_, _, _, _, _, _]) Try.underlying24 rfl (DecFs.cons dec_3 (DecFs.cons dec_3 (DecFs.cons dec_3 (DecFs.cons dec_2 (DecFs.cons dec_2 (DecFs.cons (DecR.slice (t := 22) (size := 1) (bytes := 1) Try.underlying22 (by kernel_rfl) (by kernel_rfl) (by kernel_rfl) (by decide) dec_5) DecFs.nil rfl (by kernel_rfl)) rfl (by kernel_rfl)) rfl (by kernel_rfl)) rfl (by kernel_rfl)) rfl (by kernel_rfl)) rfl (by kernel_rfl))).map (fun _ => by kernel_rfl) one_dg fun I a h => ⟨⟨⟨a.1, a.2.1, a.2.2.1, a.2.2.2.1, a.2.2.2.2.1, a.2.2.2.2.2.1.2.2⟩, a.2.2.2.2.2.1.1, a.2.2.2.2.2.1.2.1⟩, rfl, h.2.2.2.2.2.1.1, h.2.2.2.2.2.1.2.1⟩
theorem dec_n_43 : DecR 140737488351232 Try.prog 43 (fun n : Nat => [.int .u16 (n : Int)]) (fun _ n => n < 65536) := dec_n16 Try.underlying43 (by kernel_rfl)
theorem dec_n_37 : DecR 140737488351232 Try.prog 37 (fun n : Nat => [.int .u32 (n : Int)]) (fun _ n => n < 4294967296) := dec_n32 Try.underlying37 (by kernel_rfl)
set_option maxHeartbeats 4000000 in
set_option maxRecDepth 100000 in
theorem frameSpoilt_lifted (os : Os) (started : os.Started) (H : Type) (enc : TypeId × Value → H) :
    ReturnsInHanded {} Try.checked os 7 .any (Rows.frameSpoiltSpec.pre6 enc Try.prog Try.f7 Rows.frameSpoiltRow.domain false) (Rows.frameSpoiltSpec.post enc Try.prog Try.f7 false true false false) := by
  refine returnsInHanded_of_change_sized (C := Try.checked) (show ownKnob Try.prog.godebug = Option.none by kernel_rfl) started (by kernel_rfl) Try.func7
    (ChangeSpec.witness6 (enc := enc) (C := Try.checked) false ⟨#[], #[.agg #[.int .i64 0, .int .i64 0, .int .i64 0, .int .i64 0, .int .i64 0, .slice none 0 0], .int .u16 0, .int .u32 0], []⟩ 8 (by kernel_rfl) (by kernel_rfl) (by kernel_rfl) (by kernel_rfl)) ?_
  intro W base args ds gs before hval0 hW hcnd hsz0 _
  have hsz : (DataW.weightsEach Try.prog (Try.f7.params.toList ++ (Rows.frameSpoiltSpec).plain.varTypes Try.prog) (ds ++ gs)).all (· ≤ reachBytes) = true := hsz0
  have hval : ∀ (j : Nat) t v, Try.f7.params[j]? = some t → args[j]? = some v → Value.okWide Try.prog W .any base t v := hval0
  refine law_post (n := 3) (by kernel_rfl) rfl (by rw [Try.params7]; rfl) (fun t ht => by rw [Try.params7] at ht; simp at ht; rcases ht with rfl | rfl | rfl <;> exact ⟨by kernel_rfl, of_decide_eq_true (by kernel_rfl)⟩) (show Try.f7.resultTypes = _ from rfl) (Try.underlying4) (fun ds h => match ds, h with | [_, _, _], _ => rfl) hW ?_
  obtain ⟨p, q, hA0, hV, rfl, hfz, hnd⟩ := hW
  have hA : DataW.TrodAll enc Try.prog W 0 (fun _ => true) true Try.f7.params.toList args.toList ds p := hA0
  rw [Try.params7] at hA hval hsz
  obtain ⟨v0, vs0, d0, ds0, p0, q0, hargs, rfl, rfl, h0, r0⟩ := ChangeShapes.trodAll_cons hA
  obtain ⟨v1, vs1, d1, ds1, p1, q1, rfl, rfl, rfl, h1, r1⟩ := ChangeShapes.trodAll_cons r0
  obtain ⟨v2, vs2, d2, ds2, p2, q2, rfl, rfl, rfl, h2, r2⟩ := ChangeShapes.trodAll_cons r1
  obtain ⟨rfl, rfl, rfl⟩ := ChangeShapes.trodAll_nil r2
  obtain rfl : args = #[v0, v1, v2] := by cases args; simp_all
  obtain ⟨⟨d, p, c⟩, rfl, him, hbd⟩ := read_agg dec_dg Try.underlying24 (hval 0 24 v0 rfl rfl) h0 (weigh hsz (j := 0) (t := 24) rfl rfl)
  obtain ⟨n1, rfl, hn1⟩ := read_one dec_n_43 (one_int (P := Try.prog) Try.underlying43 (hval 1 43 v1 rfl rfl)) h1 (weigh hsz (j := 1) (t := 43) rfl rfl)
  obtain ⟨n2, rfl, hn2⟩ := read_one dec_n_37 (one_int (P := Try.prog) Try.underlying37 (hval 2 37 v2 rfl rfl)) h2 (weigh hsz (j := 2) (t := 37) rfl rfl)
  clear hA0 hval0 hsz hsz0
  have H0 := St.begin W (old W :: Im 1 (.slice p d.body.length c) d.body.length (d.body.flatMap u8c) :: []) (by simp only [List.forall_mem_cons]; exact ⟨old_sat W, him, fun _ h => (nomatch h)⟩)
  exact (FrameSpoilt_ d _ n1 n2 hn1 hn2 (by have : d.body.length * 1 ≤ 140737488351232 := hbd; omega) (j := 1) rfl H0).mono fun e w hh => by cases e with | returned v => exact ⟨hh.1, _, 0, hh.2, rfl⟩ | _ => exact hh.elim
theorem frameSpoilt_holds : Rows.FrameSpoiltSaid :=
  OpenClaim.holds_of_wide 7 Try.f7 rfl rfl rfl rfl rfl rfl rfl ⟨rfl, rfl, rfl, rfl, rfl⟩ rfl rfl rfl rfl rfl (by kernel_rfl) Try.func7 (by kernel_rfl)
    (of_decide_eq_true (by kernel_rfl)) (by unfold Func.isWrapper; first | (rw [if_pos (by decide +kernel)]; kernel_rfl) | (rw [if_neg (by decide +kernel)]; exact ⟨rfl, rfl⟩))
    (fun os started H enc _ => frameSpoilt_lifted os started H enc)
end Go.Proofs.Ytcomkhcpifcgmaa
