/- The law's row. No condition. -/
import Derived.Test.YteogdknlofcpiaaGreatSlY
import Derived.Test.YteogdknlofcpiaaGreatSlU
import Derived.Test.YteogdknlofcpiaaGreatSlK
import Derived.Test.YteogdknlofcpiaaGreatWalkMigrateGates3
import Derived.Test.YteogdknlofcpiaaGreatRows
import Derived.JoinedOf
import Derived.JoinedCond
namespace Go.Proofs.YteogdknlofcpiaaGreat
open Sl _root_.Go _root_.Go.RowKit
set_option linter.all false
def itemOk (I : Heap) (x : ItemD) : Prop := (BsA x).sat I Heap.none ∧ (bndsA x.bs).sat I Heap.none ∧ bsOk x.bs
theorem dec_bl : DecR 8589934592 Tryz.prog 4 blc (fun _ _ => True) := DecR.bool Tryz.underlying4 (by kernel_rfl)
theorem dec_3 : DecR 8589934592 Tryz.prog 3 (fun n : I64 => [.int .i64 n.v]) (fun _ _ => True) := dec_i64 Tryz.underlying3 (by kernel_rfl)
theorem dec_2 : DecR 8589934592 Tryz.prog 2 (fun n : I64 => [.int .i64 n.v]) (fun _ _ => True) := dec_i64 Tryz.underlying2 (by kernel_rfl)
theorem dec_9 : DecR 8589934592 Tryz.prog 9 (fun n : Str => [.string n.v]) (fun _ _ => True) := dec_str rfl Tryz.underlying9 (by kernel_rfl)
theorem dec_attr : DecR 8589934592 Tryz.prog 147 attrCell (fun _ _ => True) := (DecR.struct (t := 147) (l := [_, _]) Tryz.underlying147 rfl (DecFs.cons dec_9 (DecFs.cons (DecR.struct (t := 145) (l := [_, _, _]) Tryz.underlying145 rfl (DecFs.cons dec_3 (DecFs.cons dec_2 (DecFs.cons dec_9 DecFs.nil rfl (by kernel_rfl)) rfl (by kernel_rfl)) rfl (by kernel_rfl))) DecFs.nil rfl (by kernel_rfl)) rfl (by kernel_rfl))).map (fun _ => by kernel_rfl) one_attr fun I a _ => ⟨⟨a.1, a.2.1.1, a.2.1.2.1, a.2.1.2.2.1⟩, rfl, trivial⟩
theorem dec_event : DecR 8589934592 Tryz.prog 119 (fun e : EvD => evCell e.ev e.av) (fun I e => evdOk I e ∧ e.ev.attrs.length * 48 ≤ 8589934592) := (DecR.struct (t := 119) (l := [_, _, _, _]) Tryz.underlying119 rfl (DecFs.cons (DecR.struct (t := 116) (l := [_, _]) Tryz.underlying116 rfl (DecFs.cons dec_3 (DecFs.cons dec_2 DecFs.nil rfl (by kernel_rfl)) rfl (by kernel_rfl))) (DecFs.cons dec_2 (DecFs.cons dec_9 (DecFs.cons (DecR.slice (t := 117) (size := 4) (bytes := 48) Tryz.underlying117 (by kernel_rfl) (by kernel_rfl) (by kernel_rfl) (by decide) dec_attr) DecFs.nil rfl (by kernel_rfl)) rfl (by kernel_rfl)) rfl (by kernel_rfl)) rfl (by kernel_rfl))).map (fun _ => by kernel_rfl) one_ev fun I a h => ⟨⟨⟨a.1.1, a.1.2.1, a.2.1, a.2.2.1, a.2.2.2.1.2.2⟩, a.2.2.2.1.1, a.2.2.2.1.2.1⟩, rfl, h.2.2.2.1.1, h.2.2.2.1.2.1⟩
theorem dec_bound9 : DecR 8589934592 Tryz.prog 121 bndCell (fun I b => evdOk I b.ev ∧ b.ev.ev.attrs.length * 48 ≤ 140737488355328) := (DecR.struct (t := 121) (l := [_, _]) Tryz.underlying121 rfl (DecFs.cons dec_9 (DecFs.cons dec_event DecFs.nil rfl (by kernel_rfl)) rfl (by kernel_rfl))).map (fun _ => by kernel_rfl) one_bnd fun I a h => ⟨⟨a.1, a.2.1⟩, rfl, h.2.1.1, Nat.le_trans h.2.1.2 (by decide)⟩
theorem dec_item : DecR 8589934592 Tryz.prog 26 itCell itemOk := (DecR.struct (t := 26) (l := [_, _, _, _, _, _]) Tryz.underlying26 rfl (DecFs.cons dec_3 (DecFs.cons dec_3 (DecFs.cons dec_2 (DecFs.cons dec_3 (DecFs.cons (DecR.struct (t := 24) (l := [_]) Tryz.underlying24 rfl (DecFs.cons (DecR.slice (t := 22) (size := 6) (bytes := 80) Tryz.underlying22 (by kernel_rfl) (by kernel_rfl) (by kernel_rfl) (by decide) dec_bound9) DecFs.nil rfl (by kernel_rfl))) (DecFs.cons dec_2 DecFs.nil rfl (by kernel_rfl)) rfl (by kernel_rfl)) rfl (by kernel_rfl)) rfl (by kernel_rfl)) rfl (by kernel_rfl)) rfl (by kernel_rfl))).map (fun _ => by kernel_rfl) one_it fun I a h => ⟨⟨a.1, a.2.1, a.2.2.1, a.2.2.2.1, a.2.2.2.2.1.1.1, a.2.2.2.2.1.1.2.1, a.2.2.2.2.1.1.2.2, a.2.2.2.2.2.1⟩, rfl, h.2.2.2.2.1.1.1, bnds_sat (fun b hb => (h.2.2.2.2.1.1.2.2 b hb).1), Nat.le_trans h.2.2.2.2.1.1.2.1 (by decide), fun i hi => (h.2.2.2.2.1.1.2.2 _ (by rw [List.getD_eq_getElem?_getD, List.getElem?_eq_getElem hi]; exact List.getElem_mem hi)).2⟩
def okU (N : Nat) : Option TypeDesc → Bool
  | some (.pointer e) => decide (e < N)
  | some (.slice e) => decide (e < N)
  | some (.array _ e) => decide (e < N)
  | some (.map k e) => decide (k < N) && decide (e < N)
  | some (.struct fs) => fs.toList.all fun f => decide (f.type < N)
  | _ => true
def closedB (P : Program) : Bool := (List.range P.types.size).all fun t => decide (P.bytesOf t ≤ 4096) && okU P.types.size (P.underlying t)
theorem closed_at {P : Program} (h : closedB P = true) (t : TypeId) (ht : t < P.types.size) : P.bytesOf t ≤ 4096 ∧ okU P.types.size (P.underlying t) = true := by
  have := List.all_eq_true.1 h t (List.mem_range.2 ht)
  simpa using this
section
variable {H : Type} {P : Program}
mutual
theorem bulk_w (hP : closedB P = true) (d : DataW H) (t : TypeId) (ht : t < P.types.size) (h : Rows.uptoBulk d ≤ 1048576) (n : Nat) (hn : n ∈ d.weights P t) : n ≤ 8589934592 := by
  cases d with
  | lit l => cases l <;> simp [DataW.weights, Rows.uptoBulk] at hn h; omega
  | nil => simp [DataW.weights] at hn
  | held _ => simp [DataW.weights] at hn
  | iface _ _ => simp [DataW.weights] at hn
  | ptr d =>
    simp only [DataW.weights] at hn
    have hU := (closed_at hP t ht).2
    split at hn
    · rename_i e hu
      rw [hu] at hU
      exact bulk_w hP d _ (of_decide_eq_true hU) (by simp only [Rows.uptoBulk] at h; omega) n hn
    · simp at hn
  | slice a s =>
    simp only [DataW.weights] at hn
    have hU := (closed_at hP t ht).2
    split at hn
    · rename_i e hu
      rw [hu] at hU
      have he := of_decide_eq_true hU
      simp only [Rows.uptoBulk] at h
      rcases List.mem_cons.1 hn with rfl | hn
      · have h1 := bulk_len a
        have h2 := bulk_len s
        have h3 := Nat.mul_le_mul (show a.length + s.length ≤ 1048576 by omega) (closed_at hP e he).1
        omega
      · rcases List.mem_append.1 hn with hn | hn
        · exact bulk_wAll hP a e he (by omega) n hn
        · exact bulk_wAll hP s e he (by omega) n hn
    · simp at hn
  | agg ps =>
    simp only [DataW.weights] at hn
    simp only [Rows.uptoBulk] at h
    have hU := (closed_at hP t ht).2
    split at hn
    · rename_i fs hu
      rw [hu] at hU
      exact bulk_wEach hP _ ps (fun x hx => by obtain ⟨f, hf, rfl⟩ := List.mem_map.1 hx; exact of_decide_eq_true (List.all_eq_true.1 hU f hf)) (by omega) n hn
    · rename_i m e hu
      rw [hu] at hU
      exact bulk_wAll hP ps _ (of_decide_eq_true hU) (by omega) n hn
    · simp at hn
  | map es =>
    simp only [DataW.weights] at hn
    simp only [Rows.uptoBulk] at h
    have hU := (closed_at hP t ht).2
    split at hn
    · rename_i k e hu
      rw [hu] at hU
      have hk := of_decide_eq_true (Bool.and_eq_true_iff.1 hU).1
      have he := of_decide_eq_true (Bool.and_eq_true_iff.1 hU).2
      rcases List.mem_cons.1 hn with rfl | hn
      · have h1 := bulk_lenE es
        have h3 := Nat.mul_le_mul (show es.length ≤ 1048576 by omega) (show P.bytesOf k + P.bytesOf e ≤ 8192 by have := (closed_at hP k hk).1; have := (closed_at hP e he).1; omega)
        omega
      · exact bulk_wEntries hP es e he (by omega) n hn
    · simp at hn
theorem bulk_wAll (hP : closedB P = true) (l : List (DataW H)) (e : TypeId) (he : e < P.types.size) (h : Rows.uptoBulkAll l ≤ 1048576) (n : Nat) (hn : n ∈ DataW.weightsAll P e l) : n ≤ 8589934592 := by
  cases l with
  | nil => simp [DataW.weightsAll] at hn
  | cons d l =>
    simp only [DataW.weightsAll, List.mem_append] at hn
    simp only [Rows.uptoBulkAll] at h
    rcases hn with hn | hn
    · exact bulk_w hP d e he (by omega) n hn
    · exact bulk_wAll hP l e he (by omega) n hn
theorem bulk_wEach (hP : closedB P = true) (ts : List TypeId) (l : List (DataW H)) (hts : ∀ t ∈ ts, t < P.types.size) (h : Rows.uptoBulkAll l ≤ 1048576) (n : Nat) (hn : n ∈ DataW.weightsEach P ts l) : n ≤ 8589934592 := by
  cases l with
  | nil => cases ts <;> simp [DataW.weightsEach] at hn
  | cons d l =>
    cases ts with
    | nil => simp [DataW.weightsEach] at hn
    | cons t ts =>
      simp only [DataW.weightsEach, List.mem_append] at hn
      simp only [Rows.uptoBulkAll] at h
      rcases hn with hn | hn
      · exact bulk_w hP d t (hts t (by simp)) (by omega) n hn
      · exact bulk_wEach hP ts l (fun x hx => hts x (by simp [hx])) (by omega) n hn
theorem bulk_wEntries (hP : closedB P = true) (l : List (Lit × DataW H)) (e : TypeId) (he : e < P.types.size) (h : Rows.uptoBulkEntries l ≤ 1048576) (n : Nat) (hn : n ∈ DataW.weightsEntries P e l) : n ≤ 8589934592 := by
  cases l with
  | nil => simp [DataW.weightsEntries] at hn
  | cons x l =>
    simp only [DataW.weightsEntries, List.mem_append] at hn
    simp only [Rows.uptoBulkEntries] at h
    rcases hn with hn | hn
    · exact bulk_wEntry hP x e he (by omega) n hn
    · exact bulk_wEntries hP l e he (by omega) n hn
theorem bulk_wEntry (hP : closedB P = true) (x : Lit × DataW H) (e : TypeId) (he : e < P.types.size) (h : Rows.uptoBulkEntry x ≤ 1048576) (n : Nat) (hn : n ∈ DataW.weightsEntry P e x) : n ≤ 8589934592 := by
  obtain ⟨k, d⟩ := x
  cases k with
  | string b =>
    simp only [DataW.weightsEntry, List.mem_cons] at hn
    simp only [Rows.uptoBulkEntry] at h
    rcases hn with rfl | hn
    · omega
    · exact bulk_w hP d e he (by omega) n hn
  | _ =>
    simp only [DataW.weightsEntry] at hn
    simp only [Rows.uptoBulkEntry] at h
    exact bulk_w hP d e he (by omega) n hn
theorem bulk_len : ∀ l : List (DataW H), l.length ≤ Rows.uptoBulkAll l
  | [] => by simp [Rows.uptoBulkAll]
  | d :: l => by have := bulk_len l; have := bulk_one d; simp only [Rows.uptoBulkAll, List.length_cons]; omega
theorem bulk_one (d : DataW H) : 1 ≤ Rows.uptoBulk d := by
  cases d with
  | lit l => cases l <;> simp [Rows.uptoBulk]
  | _ => simp [Rows.uptoBulk]
theorem bulk_lenE : ∀ l : List (Lit × DataW H), l.length ≤ Rows.uptoBulkEntries l
  | [] => by simp [Rows.uptoBulkEntries]
  | (k, d) :: l => by have := bulk_lenE l; have : 1 ≤ Rows.uptoBulkEntry (k, d) := (by cases k <;> simp [Rows.uptoBulkEntry]); simp only [Rows.uptoBulkEntries, List.length_cons]; omega
end
end
set_option maxHeartbeats 4000000 in
set_option maxRecDepth 100000 in
theorem migrateGates_lifted (os : Os) (started : os.Started) (H : Type) (enc : TypeId × Value → H) :
    ∀ (F : Stop.Interp), ReturnsInHanded {} Tryz.checked os 4 .any ((Rows.OpenSpec.upto Rows.migrateGatesSpec).pre6 enc Tryz.prog Tryz.f4 Rows.migrateGatesUptoRow.domain false) (((Rows.OpenSpec.upto Rows.migrateGatesSpec).at F).post enc Tryz.prog Tryz.f4 false true false false) := by
  intro F
  refine returnsInHanded_of_cond (C := Tryz.checked) (s := Rows.OpenSpec.upto Rows.migrateGatesSpec) (k := Rows.uptoSmall) rfl (show ownKnob Tryz.prog.godebug = Option.none by kernel_rfl) started (by kernel_rfl) Tryz.func4
    (OpenSpec.witness (enc := enc) (C := Tryz.checked) (s := Rows.OpenSpec.upto Rows.migrateGatesSpec) (k := Rows.uptoSmall) rfl false ⟨#[], #[.slice none 0 0, .slice none 0 0], []⟩ 8 (by kernel_rfl) (by kernel_rfl) (by kernel_rfl) (x := ([.nil, .nil], [], [])) (by kernel_rfl) rfl (by kernel_rfl)) ?_
  intro W base args ds gs before hval0 hW hcnd hkk _
  have hsz : (DataW.weightsEach Tryz.prog (Tryz.f4.params.toList ++ (Rows.migrateGatesSpec).plain.varTypes Tryz.prog) (ds ++ gs)).all (· ≤ 8589934592) = true := List.all_eq_true.2 fun n hn => decide_eq_true (bulk_wEach (by kernel_rfl) _ _ (fun t ht => of_decide_eq_true (List.all_eq_true.1 (show (Tryz.f4.params.toList ++ (Rows.migrateGatesSpec).plain.varTypes Tryz.prog).all (fun t => decide (t < Tryz.prog.types.size)) = true by kernel_rfl) t ht)) (of_decide_eq_true hkk) n hn)
  have hval : ∀ (j : Nat) t v, Tryz.f4.params[j]? = some t → args[j]? = some v → Value.okWide Tryz.prog W .any base t v := hval0
  refine law_post (n := 2) (by kernel_rfl) rfl (by rw [Tryz.params4]; rfl) (fun t ht => by rw [Tryz.params4] at ht; simp at ht; rcases ht with rfl | rfl <;> exact ⟨by kernel_rfl, of_decide_eq_true (by kernel_rfl)⟩) (show Tryz.f4.resultTypes = _ from rfl) (Tryz.underlying4) (fun ds h => match ds, h with | [_, _], _ => rfl) hW ?_
  obtain ⟨p, q, hA0, hV, rfl, hfz, hnd⟩ := hW
  have hA : DataW.TrodAll enc Tryz.prog W 0 (fun _ => true) true Tryz.f4.params.toList args.toList ds p := hA0
  rw [Tryz.params4] at hA hval hsz
  obtain ⟨v0, vs0, d0, ds0, p0, q0, hargs, rfl, rfl, h0, r0⟩ := ChangeShapes.trodAll_cons hA
  obtain ⟨v1, vs1, d1, ds1, p1, q1, rfl, rfl, rfl, h1, r1⟩ := ChangeShapes.trodAll_cons r0
  obtain ⟨rfl, rfl, rfl⟩ := ChangeShapes.trodAll_nil r1
  obtain rfl : args = #[v0, v1] := by cases args; simp_all
  obtain ⟨⟨a1, c1, l⟩, rfl, him1, hbd1, hok1⟩ := read_one (DecR.slice (t := 38) (size := 6) (bytes := 64) Tryz.underlying38 (by kernel_rfl) (by kernel_rfl) (by kernel_rfl) (by decide) dec_item) (one_slice (P := Tryz.prog) Tryz.underlying38 (hval 0 38 v0 rfl rfl)) h0 (weigh hsz (j := 0) (t := 38) rfl rfl)
  obtain ⟨⟨a2, c2, bs⟩, rfl, him2, hbd2, hok2⟩ := read_one (DecR.slice (t := 39) (size := 1) (bytes := 1) Tryz.underlying39 (by kernel_rfl) (by kernel_rfl) (by kernel_rfl) (by decide) dec_bl) (one_slice (P := Tryz.prog) Tryz.underlying39 (hval 1 39 v1 rfl rfl)) h1 (weigh hsz (j := 1) (t := 39) rfl rfl)
  clear hA0 hval0 hsz hkk
  have H0 := St.begin W (old W :: Im 6 (.slice a1 l.length c1) l.length (l.flatMap itCell) :: Im 1 (.slice a2 bs.length c2) bs.length (bs.flatMap blc) :: itsA l :: []) (by simp only [List.forall_mem_cons]; exact ⟨old_sat W, him1, him2, ⟨rfl, fun x hx => ⟨(hok1 x hx).1, (hok1 x hx).2.1⟩⟩, fun _ h => (nomatch h)⟩)
  exact (MigrateGates_ l _ bs _ (fun x hx => (hok1 x hx).2.2) (by have : l.length * 64 ≤ 8589934592 := hbd1; omega) (j := 1) (k := 2) (a := 3) rfl rfl rfl H0).mono fun e w hh => by cases e with | returned v => exact ⟨hh.1, _, 0, hh.2, rfl⟩ | _ => exact hh.elim
theorem migrateGatesUpto_holds : Rows.MigrateGatesUptoSaid :=
  OpenClaim.holds_of_cond 4 Tryz.f4 rfl rfl rfl rfl rfl rfl rfl ⟨rfl, rfl, rfl, rfl, rfl⟩ rfl rfl rfl rfl rfl (by kernel_rfl) Tryz.func4 (by kernel_rfl)
    (of_decide_eq_true (by kernel_rfl)) (by unfold Func.isWrapper; first | (rw [if_pos (by decide +kernel)]; kernel_rfl) | (rw [if_neg (by decide +kernel)]; exact ⟨rfl, rfl⟩))
    (fun os started H enc _ F => migrateGates_lifted os started H enc F)
end Go.Proofs.YteogdknlofcpiaaGreat
