/- The law's row. No condition. -/
import Derived.Test.YtheggchlcpafmaaSlY
import Derived.Test.YtheggchlcpafmaaWalkEventOwn2
import Derived.Test.YtheggchlcpafmaaRows
import Derived.JoinedOf
import Derived.JoinedCond
namespace Go.Proofs.Ytheggchlcpafmaa
open Sl _root_.Go _root_.Go.RowKit
set_option linter.all false
theorem dec_3 : DecR 140737488351232 Try.prog 3 (fun n : I64 => [.int .i64 n.v]) (fun _ _ => True) := dec_i64 Try.underlying3 (by kernel_rfl)
theorem dec_2 : DecR 140737488351232 Try.prog 2 (fun n : I64 => [.int .i64 n.v]) (fun _ _ => True) := dec_i64 Try.underlying2 (by kernel_rfl)
theorem dec_9 : DecR 140737488351232 Try.prog 9 (fun n : Str => [.string n.v]) (fun _ _ => True) := dec_str rfl Try.underlying9 (by kernel_rfl)
theorem dec_attr : DecR 140737488351232 Try.prog 91 attrCell (fun _ _ => True) := (DecR.struct (t := 91) (l := [_, _]) Try.underlying91 rfl (DecFs.cons dec_9 (DecFs.cons (DecR.struct (t := 89) (l := [_, _, _]) Try.underlying89 rfl (DecFs.cons dec_3 (DecFs.cons dec_2 (DecFs.cons dec_9 DecFs.nil rfl (by kernel_rfl)) rfl (by kernel_rfl)) rfl (by kernel_rfl))) DecFs.nil rfl (by kernel_rfl)) rfl (by kernel_rfl))).map (fun _ => by kernel_rfl) one_attr fun I a _ => ⟨⟨a.1, a.2.1.1, a.2.1.2.1, a.2.1.2.2.1⟩, rfl, trivial⟩
theorem dec_event : DecR 140737488351232 Try.prog 33 (fun e : EvD => evCell e.ev e.av) (fun I e => evdOk I e ∧ e.ev.attrs.length * 48 ≤ 140737488351232) := (DecR.struct (t := 33) (l := [_, _, _, _]) Try.underlying33 rfl (DecFs.cons (DecR.struct (t := 30) (l := [_, _]) Try.underlying30 rfl (DecFs.cons dec_3 (DecFs.cons dec_2 DecFs.nil rfl (by kernel_rfl)) rfl (by kernel_rfl))) (DecFs.cons dec_2 (DecFs.cons dec_9 (DecFs.cons (DecR.slice (t := 31) (size := 4) (bytes := 48) Try.underlying31 (by kernel_rfl) (by kernel_rfl) (by kernel_rfl) (by decide) dec_attr) DecFs.nil rfl (by kernel_rfl)) rfl (by kernel_rfl)) rfl (by kernel_rfl)) rfl (by kernel_rfl))).map (fun _ => by kernel_rfl) one_ev fun I a h => ⟨⟨⟨a.1.1, a.1.2.1, a.2.1, a.2.2.1, a.2.2.2.1.2.2⟩, a.2.2.2.1.1, a.2.2.2.1.2.1⟩, rfl, h.2.2.2.1.1, h.2.2.2.1.2.1⟩
set_option maxHeartbeats 4000000 in
set_option maxRecDepth 100000 in
theorem eventOwn_lifted (os : Os) (started : os.Started) (H : Type) (enc : TypeId × Value → H) :
    ReturnsInHanded {} Try.checked os 10 .any (Rows.eventOwnSpec.pre6 enc Try.prog Try.f10 Rows.eventOwnRow.domain false) (Rows.eventOwnSpec.post enc Try.prog Try.f10 false true false false) := by
  refine returnsInHanded_of_change_sized (C := Try.checked) (show ownKnob Try.prog.godebug = Option.none by kernel_rfl) started (by kernel_rfl) Try.func10
    (ChangeSpec.witness6 (enc := enc) (C := Try.checked) false ⟨#[], #[.agg #[.int .i64 0, .int .i64 0, .int .i64 0, .string ByteArray.empty, .slice none 0 0]], []⟩ 8 (by kernel_rfl) (by kernel_rfl) (by kernel_rfl) (by kernel_rfl)) ?_
  intro W base args ds gs before hval0 hW hcnd hsz0 _
  have hsz : (DataW.weightsEach Try.prog (Try.f10.params.toList ++ (Rows.eventOwnSpec).plain.varTypes Try.prog) (ds ++ gs)).all (· ≤ reachBytes) = true := hsz0
  have hval : ∀ (j : Nat) t v, Try.f10.params[j]? = some t → args[j]? = some v → Value.okWide Try.prog W .any base t v := hval0
  refine law_post (n := 1) (by kernel_rfl) rfl (by rw [Try.params10]; rfl) (fun t ht => by rw [Try.params10] at ht; simp at ht; subst ht; exact ⟨by kernel_rfl, of_decide_eq_true (by kernel_rfl)⟩) (show Try.f10.resultTypes = _ from rfl) (Try.underlying4) (fun ds h => match ds, h with | [_], _ => rfl) hW ?_
  obtain ⟨p, q, hA0, hV, rfl, hfz, hnd⟩ := hW
  have hA : DataW.TrodAll enc Try.prog W 0 (fun _ => true) true Try.f10.params.toList args.toList ds p := hA0
  rw [Try.params10] at hA hval hsz
  obtain ⟨v0, vs0, d0, ds0, p0, q0, hargs, rfl, rfl, h0, r0⟩ := ChangeShapes.trodAll_cons hA
  obtain ⟨rfl, rfl, rfl⟩ := ChangeShapes.trodAll_nil r0
  obtain rfl : args = #[v0] := by cases args; simp_all
  obtain ⟨⟨e, p, c⟩, rfl, hev, hb1⟩ := read_agg dec_event Try.underlying33 (hval 0 33 v0 rfl rfl) h0 (weigh hsz (j := 0) (t := 33) rfl rfl)
  clear hA0 hval0 hsz hsz0
  have H0 := St.begin W (old W :: Attrs (.slice p e.attrs.length c) e.attrs :: []) (by simp only [List.forall_mem_cons]; exact ⟨old_sat W, hev, fun _ h => (nomatch h)⟩)
  exact (EventOwn_ e p c (by have : e.attrs.length * 48 ≤ 140737488351232 := hb1; omega) (j := 1) rfl H0).mono fun e w hh => by cases e with | returned v => exact ⟨hh.1, _, 0, hh.2, rfl⟩ | _ => exact hh.elim
theorem eventOwn_holds : Rows.EventOwnSaid :=
  OpenClaim.holds_of_wide 10 Try.f10 rfl rfl rfl rfl rfl rfl rfl ⟨rfl, rfl, rfl, rfl, rfl⟩ rfl rfl rfl rfl rfl (by kernel_rfl) Try.func10 (by kernel_rfl)
    (of_decide_eq_true (by kernel_rfl)) (by unfold Func.isWrapper; first | (rw [if_pos (by decide +kernel)]; kernel_rfl) | (rw [if_neg (by decide +kernel)]; exact ⟨rfl, rfl⟩))
    (fun os started H enc _ => eventOwn_lifted os started H enc)
end Go.Proofs.Ytheggchlcpafmaa
