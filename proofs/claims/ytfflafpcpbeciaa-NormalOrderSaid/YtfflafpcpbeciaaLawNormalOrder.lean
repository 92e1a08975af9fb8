/- The law's row. No condition. -/
import Derived.Test.YtfflafpcpbeciaaSlY
import Derived.Test.YtfflafpcpbeciaaWalkNormalOrder5
import Derived.Test.YtfflafpcpbeciaaRows
import Derived.JoinedOf
import Derived.JoinedCond
namespace Go.Proofs.Ytfflafpcpbeciaa
open Sl _root_.Go _root_.Go.RowKit
set_option linter.all false
theorem dec_3 : DecR 140737488351232 Try.prog 3 (fun n : I64 => [.int .i64 n.v]) (fun _ _ => True) := dec_i64 Try.underlying3 (by kernel_rfl)
theorem dec_9 : DecR 140737488351232 Try.prog 9 (fun n : Str => [.string n.v]) (fun _ _ => True) := dec_str rfl Try.underlying9 (by kernel_rfl)
theorem dec_2 : DecR 140737488351232 Try.prog 2 (fun n : I64 => [.int .i64 n.v]) (fun _ _ => True) := dec_i64 Try.underlying2 (by kernel_rfl)
theorem dec_cond : DecR 140737488351232 Try.prog 46 condCell (fun _ _ => True) := (DecR.struct (t := 46) (l := [_, _, _]) Try.underlying46 rfl (DecFs.cons (DecR.struct (t := 44) (l := [_, _, _]) Try.underlying44 rfl (DecFs.cons dec_9 (DecFs.cons dec_9 (DecFs.cons (DecR.struct (t := 42) (l := [_, _, _]) Try.underlying42 rfl (DecFs.cons dec_3 (DecFs.cons dec_2 (DecFs.cons dec_9 DecFs.nil rfl (by kernel_rfl)) rfl (by kernel_rfl)) rfl (by kernel_rfl))) DecFs.nil rfl (by kernel_rfl)) rfl (by kernel_rfl)) rfl (by kernel_rfl))) (DecFs.cons dec_3 (DecFs.cons (DecR.struct (t := 44) (l := [_, _, _]) Try.underlying44 rfl (DecFs.cons dec_9 (DecFs.cons dec_9 (DecFs.cons (DecR.struct (t := 42) (l := [_, _, _]) Try.underlying42 rfl (DecFs.cons dec_3 (DecFs.cons dec_2 (DecFs.cons dec_9 DecFs.nil rfl (by kernel_rfl)) rfl (by kernel_rfl)) rfl (by kernel_rfl))) DecFs.nil rfl (by kernel_rfl)) rfl (by kernel_rfl)) rfl (by kernel_rfl))) DecFs.nil rfl (by kernel_rfl)) rfl (by kernel_rfl)) rfl (by kernel_rfl))).map (fun _ => by kernel_rfl) one_cond fun I c _ => ⟨⟨⟨c.1.1, c.1.2.1, ⟨c.1.2.2.1.1, c.1.2.2.1.2.1, c.1.2.2.1.2.2.1⟩⟩, c.2.1, ⟨c.2.2.1.1, c.2.2.1.2.1, ⟨c.2.2.1.2.2.1.1, c.2.2.1.2.2.1.2.1, c.2.2.1.2.2.1.2.2.1⟩⟩⟩, rfl, trivial⟩
theorem dec_nodeB : ∀ N, DecB N 140737488351232 Try.prog 25 nodeCell NodeOk := 
  fun N => match N with
  | 0 => ⟨fun _ => by kernel_rfl, one_node, fun _ _ _ _ _ _ _ _ h => absurd h (Nat.not_lt_zero _)⟩
  | N + 1 => (DecB.struct (t := 25) (l := [_, _, _, _, _]) Try.underlying25 rfl (DecBs.cons (dec_3).toB (DecBs.cons (dec_9).toB (DecBs.cons (dec_9).toB (DecBs.cons (DecB.slice (t := 22) (size := 11) (bytes := 136) Try.underlying22 (by kernel_rfl) (by kernel_rfl) (by kernel_rfl) (by decide) (dec_cond).toB) (DecBs.cons (DecB.slice (t := 23) (size := 5) (bytes := 88) Try.underlying23 (by kernel_rfl) (by kernel_rfl) (by kernel_rfl) (by decide) (dec_nodeB N)) DecBs.nil rfl (by kernel_rfl)) rfl (by kernel_rfl)) rfl (by kernel_rfl)) rfl (by kernel_rfl)) rfl (by kernel_rfl))).map (fun _ => by kernel_rfl) one_node fun I a h => ⟨.mk a.1 a.2.1 a.2.2.1 a.2.2.2.1.1 a.2.2.2.1.2.1 a.2.2.2.1.2.2 a.2.2.2.2.1.1 a.2.2.2.2.1.2.1 a.2.2.2.2.1.2.2, rfl, .mk h.2.2.2.1.1 h.2.2.2.2.1.1 ⟨Nat.le_trans h.2.2.2.1.2.1 (by decide), Nat.le_trans h.2.2.2.2.1.2.1 (by decide)⟩ h.2.2.2.2.1.2.2⟩
set_option maxHeartbeats 4000000 in
set_option maxRecDepth 100000 in
theorem normalOrder_lifted (os : Os) (started : os.Started) (H : Type) (enc : TypeId × Value → H) :
    ReturnsInHanded {} Try.checked os 3 .any (Rows.normalOrderSpec.pre6 enc Try.prog Try.f3 Rows.normalOrderRow.domain false) (Rows.normalOrderSpec.post enc Try.prog Try.f3 false true false false) := by
  refine returnsInHanded_of_change_sized (C := Try.checked) (show ownKnob Try.prog.godebug = Option.none by kernel_rfl) started (by kernel_rfl) Try.func3
    (ChangeSpec.witness6 (enc := enc) (C := Try.checked) false ⟨#[], #[.agg #[.int .i64 0, .string ByteArray.empty, .string ByteArray.empty, .slice none 0 0, .slice none 0 0], .agg #[.int .i64 0, .string ByteArray.empty, .string ByteArray.empty, .slice none 0 0, .slice none 0 0], .agg #[.int .i64 0, .string ByteArray.empty, .string ByteArray.empty, .slice none 0 0, .slice none 0 0]], []⟩ 8 (by kernel_rfl) (by kernel_rfl) (by kernel_rfl) (by kernel_rfl)) ?_
  intro W base args ds gs before hval0 hW hcnd hsz0 _
  have hsz : (DataW.weightsEach Try.prog (Try.f3.params.toList ++ (Rows.normalOrderSpec).plain.varTypes Try.prog) (ds ++ gs)).all (· ≤ reachBytes) = true := hsz0
  have hval : ∀ (j : Nat) t v, Try.f3.params[j]? = some t → args[j]? = some v → Value.okWide Try.prog W .any base t v := hval0
  refine law_post (n := 3) (by kernel_rfl) rfl (by rw [Try.params3]; rfl) (fun t ht => by rw [Try.params3] at ht; simp at ht; rcases ht with rfl | rfl | rfl <;> exact ⟨by kernel_rfl, of_decide_eq_true (by kernel_rfl)⟩) (show Try.f3.resultTypes = _ from rfl) (Try.underlying4) (fun ds h => match ds, h with | [_, _, _], _ => rfl) hW ?_
  obtain ⟨p, q, hA0, hV, rfl, hfz, hnd⟩ := hW
  have hA : DataW.TrodAll enc Try.prog W 0 (fun _ => true) true Try.f3.params.toList args.toList ds p := hA0
  rw [Try.params3] at hA hval hsz
  obtain ⟨v0, vs0, d0, ds0, p0, q0, hargs, rfl, rfl, h0, r0⟩ := ChangeShapes.trodAll_cons hA
  obtain ⟨v1, vs1, d1, ds1, p1, q1, rfl, rfl, rfl, h1, r1⟩ := ChangeShapes.trodAll_cons r0
  obtain ⟨v2, vs2, d2, ds2, p2, q2, rfl, rfl, rfl, h2, r2⟩ := ChangeShapes.trodAll_cons r1
  obtain ⟨rfl, rfl, rfl⟩ := ChangeShapes.trodAll_nil r2
  obtain rfl : args = #[v0, v1, v2] := by cases args; simp_all
  obtain ⟨a, rfl, hn1⟩ := read_agg (DecB.toR dec_nodeB) Try.underlying25 (hval 0 25 v0 rfl rfl) h0 (weigh hsz (j := 0) (t := 25) rfl rfl)
  obtain ⟨b, rfl, hn2⟩ := read_agg (DecB.toR dec_nodeB) Try.underlying25 (hval 1 25 v1 rfl rfl) h1 (weigh hsz (j := 1) (t := 25) rfl rfl)
  obtain ⟨c, rfl, hn3⟩ := read_agg (DecB.toR dec_nodeB) Try.underlying25 (hval 2 25 v2 rfl rfl) h2 (weigh hsz (j := 2) (t := 25) rfl rfl)
  clear hA0 hval0 hsz hsz0
  have H0 := St.begin W (old W :: NodeA a :: NodeA b :: NodeA c :: []) (by simp only [List.forall_mem_cons]; exact ⟨old_sat W, ⟨rfl, hn1⟩, ⟨rfl, hn2⟩, ⟨rfl, hn3⟩, fun _ h => (nomatch h)⟩)
  exact (law_NormalOrder a b c (i1 := 1) rfl (i2 := 2) rfl (i3 := 3) rfl H0).mono fun e w hh => by cases e with | returned v => exact ⟨hh.1, _, 0, hh.2, rfl⟩ | _ => exact hh.elim
theorem normalOrder_holds : Rows.NormalOrderSaid :=
  OpenClaim.holds_of_wide 3 Try.f3 rfl rfl rfl rfl rfl rfl rfl ⟨rfl, rfl, rfl, rfl, rfl⟩ rfl rfl rfl rfl rfl (by kernel_rfl) Try.func3 (by kernel_rfl)
    (of_decide_eq_true (by kernel_rfl)) (by unfold Func.isWrapper; first | (rw [if_pos (by decide +kernel)]; kernel_rfl) | (rw [if_neg (by decide +kernel)]; exact ⟨rfl, rfl⟩))
    (fun os started H enc _ => normalOrder_lifted os started H enc)
end Go.Proofs.Ytfflafpcpbeciaa
