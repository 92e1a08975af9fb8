/- The law's row. No condition. -/
import Derived.Test.YthggoibbkloefaaSlY
import Derived.Test.YthggoibbkloefaaSlZ
import Derived.Test.YthggoibbkloefaaWalkLinkNone5
import Derived.Test.YthggoibbkloefaaRows
import Derived.JoinedOf
import Derived.JoinedCond
namespace Go.Proofs.Ythggoibbkloefaa
open Sl _root_.Go _root_.Go.RowKit
set_option linter.all false
theorem dec_3 : DecR 140737488351232 Try.prog 3 (fun n : I64 => [.int .i64 n.v]) (fun _ _ => True) := dec_i64 Try.underlying3 (by kernel_rfl)
theorem dec_2 : DecR 140737488351232 Try.prog 2 (fun n : I64 => [.int .i64 n.v]) (fun _ _ => True) := dec_i64 Try.underlying2 (by kernel_rfl)
theorem dec_5 : DecR 140737488351232 Try.prog 5 u8c (fun _ _ => True) := dec_byte Try.underlying5 (by kernel_rfl)
theorem dec_lop2 : DecR 140737488351232 Try.prog 55 lopCell lopOk2 := (DecR.struct (t := 55) (l := [_, _, _]) Try.underlying55 rfl (DecFs.cons dec_3 (DecFs.cons (DecR.slice (t := 26) (size := 1) (bytes := 1) Try.underlying26 (by kernel_rfl) (by kernel_rfl) (by kernel_rfl) (by decide) dec_5) (DecFs.cons (DecR.struct (t := 41) (l := [_, _, _, _, _, _]) Try.underlying41 rfl (DecFs.cons dec_3 (DecFs.cons dec_3 (DecFs.cons dec_3 (DecFs.cons dec_2 (DecFs.cons dec_2 (DecFs.cons (DecR.slice (t := 26) (size := 1) (bytes := 1) Try.underlying26 (by kernel_rfl) (by kernel_rfl) (by kernel_rfl) (by decide) dec_5) DecFs.nil rfl (by kernel_rfl)) rfl (by kernel_rfl)) rfl (by kernel_rfl)) rfl (by kernel_rfl)) rfl (by kernel_rfl)) rfl (by kernel_rfl))) DecFs.nil rfl (by kernel_rfl)) rfl (by kernel_rfl)) rfl (by kernel_rfl))).map (fun _ => by kernel_rfl) one_lop fun I a h => ⟨⟨⟨a.1, a.2.1.2.2, ⟨a.2.2.1.1, a.2.2.1.2.1, a.2.2.1.2.2.1, a.2.2.1.2.2.2.1, a.2.2.1.2.2.2.2.1, a.2.2.1.2.2.2.2.2.1.2.2⟩⟩, a.2.1.1, a.2.1.2.1, a.2.2.1.2.2.2.2.2.1.1, a.2.2.1.2.2.2.2.2.1.2.1⟩, rfl, ⟨h.2.1.1, h.2.2.1.2.2.2.2.2.1.1⟩, (by have h9 : a.2.1.2.2.length * 1 ≤ 140737488351232 := h.2.1.2.1; show a.2.1.2.2.length ≤ _; omega), (by have h9 : a.2.2.1.2.2.2.2.2.1.2.2.length * 1 ≤ 140737488351232 := h.2.2.1.2.2.2.2.2.1.2.1; show a.2.2.1.2.2.2.2.2.1.2.2.length ≤ _; omega)⟩
set_option maxHeartbeats 4000000 in
set_option maxRecDepth 100000 in
theorem linkNone_lifted (os : Os) (started : os.Started) (H : Type) (enc : TypeId × Value → H) :
    ReturnsInHanded {} Try.checked os 6 .any (Rows.linkNoneSpec.pre6 enc Try.prog Try.f6 Rows.linkNoneRow.domain false) (Rows.linkNoneSpec.post enc Try.prog Try.f6 false true false false) := by
  refine returnsInHanded_of_change_sized (C := Try.checked) (show ownKnob Try.prog.godebug = Option.none by kernel_rfl) started (by kernel_rfl) Try.func6
    (ChangeSpec.witness6 (enc := enc) (C := Try.checked) false ⟨#[], #[.slice none 0 0, .slice none 0 0], []⟩ 8 (by kernel_rfl) (by kernel_rfl) (by kernel_rfl) (by kernel_rfl)) ?_
  intro W base args ds gs before hval0 hW hcnd hsz0 _
  have hsz : (DataW.weightsEach Try.prog (Try.f6.params.toList ++ (Rows.linkNoneSpec).plain.varTypes Try.prog) (ds ++ gs)).all (· ≤ reachBytes) = true := hsz0
  have hval : ∀ (j : Nat) t v, Try.f6.params[j]? = some t → args[j]? = some v → Value.okWide Try.prog W .any base t v := hval0
  refine law_post (n := 2) (by kernel_rfl) rfl (by rw [Try.params6]; rfl) (fun t ht => by rw [Try.params6] at ht; simp at ht; rcases ht with rfl | rfl <;> exact ⟨by kernel_rfl, of_decide_eq_true (by kernel_rfl)⟩) (show Try.f6.resultTypes = _ from rfl) (Try.underlying4) (fun ds h => match ds, h with | [_, _], _ => rfl) hW ?_
  obtain ⟨p, q, hA0, hV, rfl, hfz, hnd⟩ := hW
  have hA : DataW.TrodAll enc Try.prog W 0 (fun _ => true) true Try.f6.params.toList args.toList ds p := hA0
  rw [Try.params6] at hA hval hsz
  obtain ⟨v0, vs0, d0, ds0, p0, q0, hargs, rfl, rfl, h0, r0⟩ := ChangeShapes.trodAll_cons hA
  obtain ⟨v1, vs1, d1, ds1, p1, q1, rfl, rfl, rfl, h1, r1⟩ := ChangeShapes.trodAll_cons r0
  obtain ⟨rfl, rfl, rfl⟩ := ChangeShapes.trodAll_nil r1
  obtain rfl : args = #[v0, v1] := by cases args; simp_all
  obtain ⟨⟨a1, c1, l⟩, rfl, him1, hbd1, hok1⟩ := read_one (DecR.slice (t := 47) (size := 8) (bytes := 96) Try.underlying47 (by kernel_rfl) (by kernel_rfl) (by kernel_rfl) (by decide) dec_lop2) (one_slice (P := Try.prog) Try.underlying47 (hval 0 47 v0 rfl rfl)) h0 (weigh hsz (j := 0) (t := 47) rfl rfl)
  obtain ⟨⟨a2, c2, m⟩, rfl, him2, hbd2, hok2⟩ := read_one (DecR.slice (t := 47) (size := 8) (bytes := 96) Try.underlying47 (by kernel_rfl) (by kernel_rfl) (by kernel_rfl) (by decide) dec_lop2) (one_slice (P := Try.prog) Try.underlying47 (hval 1 47 v1 rfl rfl)) h1 (weigh hsz (j := 1) (t := 47) rfl rfl)
  clear hA0 hval0 hsz hsz0
  have H0 := St.begin W (old W :: Im 8 (.slice a1 l.length c1) l.length (l.flatMap lopCell) :: Im 8 (.slice a2 m.length c2) m.length (m.flatMap lopCell) :: byA (lopBy l) :: byA (lopBy m) :: []) (by simp only [List.forall_mem_cons]; exact ⟨old_sat W, him1, him2, lops_sat (fun x hx => (hok1 x hx).1), lops_sat (fun x hx => (hok2 x hx).1), fun _ h => (nomatch h)⟩)
  exact (LinkNone_ l m _ _ (by have : l.length * 96 ≤ 140737488351232 := hbd1; omega) (by have : m.length * 96 ≤ 140737488351232 := hbd2; omega) (fun x hx => (hok1 x hx).2) (j := 1) (q := 2) (a := 3) (c := 4) rfl rfl rfl rfl H0).mono fun e w hh => by cases e with | returned v => exact ⟨hh.1, _, 0, hh.2, rfl⟩ | _ => exact hh.elim
theorem linkNone_holds : Rows.LinkNoneSaid :=
  OpenClaim.holds_of_wide 6 Try.f6 rfl rfl rfl rfl rfl rfl rfl ⟨rfl, rfl, rfl, rfl, rfl⟩ rfl rfl rfl rfl rfl (by kernel_rfl) Try.func6 (by kernel_rfl)
    (of_decide_eq_true (by kernel_rfl)) (by unfold Func.isWrapper; first | (rw [if_pos (by decide +kernel)]; kernel_rfl) | (rw [if_neg (by decide +kernel)]; exact ⟨rfl, rfl⟩))
    (fun os started H enc _ => linkNone_lifted os started H enc)
end Go.Proofs.Ythggoibbkloefaa
