/- The law's row. No condition. -/
import Derived.Test.YthkkmoilphmplaaSlZ
import Derived.Test.YthkkmoilphmplaaWalkBitsApart0
import Derived.Test.YthkkmoilphmplaaRows
import Derived.JoinedOf
namespace Go.Proofs.Ythkkmoilphmplaa
open Sl _root_.Go _root_.Go.RowKit
set_option linter.all false
theorem dec_22 : Dec Try.prog 22 (fun n : Nat => [.int .u64 (n : Int)]) (fun _ n => n < 18446744073709551616) := dec_u64 Try.underlying22 (by kernel_rfl)
set_option maxHeartbeats 4000000 in
set_option maxRecDepth 100000 in
theorem bitsApart_lifted (os : Os) (started : os.Started) (H : Type) (enc : TypeId × Value → H) :
    ReturnsInHanded {} Try.checked os 3 .any (Rows.bitsApartSpec.pre6 enc Try.prog Try.f3 Rows.bitsApartRow.domain false) (Rows.bitsApartSpec.post enc Try.prog Try.f3 false true false false) := by
  refine returnsInHanded_of_change_sized (C := Try.checked) (show ownKnob Try.prog.godebug = Option.none by kernel_rfl) started (by kernel_rfl) Try.func3
    (ChangeSpec.witness6 (enc := enc) (C := Try.checked) false ⟨#[], #[.int .u64 0, .int .u64 0], []⟩ 8 (by kernel_rfl) (by kernel_rfl) (by kernel_rfl) (by kernel_rfl)) ?_
  intro W base args ds gs before hval0 hW hcnd hsz0 _
  have hsz : (DataW.weightsEach Try.prog (Try.f3.params.toList ++ (Rows.bitsApartSpec).plain.varTypes Try.prog) (ds ++ gs)).all (· ≤ reachBytes) = true := hsz0
  have hval : ∀ (j : Nat) t v, Try.f3.params[j]? = some t → args[j]? = some v → Value.okWide Try.prog W .any base t v := hval0
  refine law_post (n := 2) (by kernel_rfl) rfl (by rw [Try.params3]; rfl) (fun t ht => by rw [Try.params3] at ht; simp at ht; rcases ht with rfl | rfl <;> exact ⟨by kernel_rfl, of_decide_eq_true (by kernel_rfl)⟩) (show Try.f3.resultTypes = _ from rfl) (Try.underlying4) (fun ds h => match ds, h with | [_, _], _ => rfl) hW ?_
  obtain ⟨p, q, hA0, hV, rfl, hfz, hnd⟩ := hW
  have hA : DataW.TrodAll enc Try.prog W 0 (fun _ => true) true Try.f3.params.toList args.toList ds p := hA0
  rw [Try.params3] at hA hval hsz
  obtain ⟨v0, vs0, d0, ds0, p0, q0, hargs, rfl, rfl, h0, r0⟩ := ChangeShapes.trodAll_cons hA
  obtain ⟨v1, vs1, d1, ds1, p1, q1, rfl, rfl, rfl, h1, r1⟩ := ChangeShapes.trodAll_cons r0
  obtain ⟨rfl, rfl, rfl⟩ := ChangeShapes.trodAll_nil r1
  obtain rfl : args = #[v0, v1] := by cases args; simp_all
  obtain ⟨a, rfl, ha⟩ := read_one dec_22 (one_int (P := Try.prog) Try.underlying22 (hval 0 22 v0 rfl rfl)) h0 (weigh hsz (j := 0) (t := 22) rfl rfl)
  obtain ⟨b, rfl, hb⟩ := read_one dec_22 (one_int (P := Try.prog) Try.underlying22 (hval 1 22 v1 rfl rfl)) h1 (weigh hsz (j := 1) (t := 22) rfl rfl)
  clear hA0 hval0 hsz0 hsz
  have H0 := St.begin W (old W :: []) (by simp only [List.forall_mem_cons]; exact ⟨old_sat W, fun _ h => (nomatch h)⟩)
  exact (BitsApart_ a b ha hb H0).mono fun e w hh => by cases e with | returned v => exact ⟨hh.1, _, 0, hh.2, rfl⟩ | _ => exact hh.elim
theorem bitsApart_holds : Rows.BitsApartSaid :=
  OpenClaim.holds_of_wide 3 Try.f3 rfl rfl rfl rfl rfl rfl rfl ⟨rfl, rfl, rfl, rfl, rfl⟩ rfl rfl rfl rfl rfl (by kernel_rfl) Try.func3 (by kernel_rfl)
    (of_decide_eq_true (by kernel_rfl)) (by unfold Func.isWrapper; first | (rw [if_pos (by decide +kernel)]; kernel_rfl) | (rw [if_neg (by decide +kernel)]; exact ⟨rfl, rfl⟩))
    (fun os started H enc _ => bitsApart_lifted os started H enc)
end Go.Proofs.Ythkkmoilphmplaa
