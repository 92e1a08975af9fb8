/- The law's row. No condition. -/
import Derived.Test.YtkclljglobeplaaSlJ
import Derived.Test.YtkclljglobeplaaWalkCheckParts2
import Derived.Test.YtkclljglobeplaaRows
import Derived.JoinedOf
import Derived.JoinedCond
namespace Go.Proofs.Ytkclljglobeplaa
open Sl _root_.Go _root_.Go.RowKit
set_option linter.all false
theorem bulk_mem {H : Type} {l : List (DataW H)} {d : DataW H} (h : d ∈ l) : Rows.uptoBulk d ≤ Rows.uptoBulkAll l := by
  induction l with
  | nil => cases h
  | cons a l ih =>
    simp only [Rows.uptoBulkAll]
    rcases List.mem_cons.1 h with rfl | h
    · omega
    · have := ih h; omega
theorem mass_list {H α : Type} (f : α → Nat) : ∀ (l : List α) (es : List (DataW H × List MemPlace)), es.length = l.length → (∀ (i : Nat) (a : α), l[i]? = some a → ∃ x, es[i]? = some x ∧ f a ≤ Rows.uptoBulk x.1) → (l.map f).sum ≤ Rows.uptoBulkAll (es.map (·.1))
  | [], _, _, _ => by simp
  | a :: l, [], h, _ => by simp at h
  | a :: l, e :: es, h, hh => by
    obtain ⟨x, hx, h1⟩ := hh 0 a rfl
    simp only [List.getElem?_cons_zero, Option.some.injEq] at hx
    subst hx
    have h2 := mass_list f l es (by simpa using h) (fun i b hb => by simpa using hh (i + 1) b (by simpa using hb))
    simp only [List.map_cons, List.sum_cons, Rows.uptoBulkAll]
    omega
theorem node_mass {H : Type} {enc : TypeId × Value → H} {W : World} {sp : Nat → Bool} {held : Bool} (n : NodeD) : NodeOk (heapOf W) n → ∀ (fuel : Nat) (d : DataW H) (ps : List MemPlace), DataW.trod enc Try.prog W 0 sp held fuel 25 (nodeCell n) = some (d, ps) → sizeN n ≤ Rows.uptoBulk d := by
  induction n using nodeD_induct with
  | h n ih =>
    intro ok fuel d ps h
    cases ok with
    | mk ht hk hb hkids =>
      obtain ⟨xs, m, rfl, hx, hc, hl, hr⟩ := DataW.trod_struct Try.underlying25 h
      have h4 := hr 4 _ rfl
      have hc1 : Program.cellsOf Try.prog 23 = 1 := by kernel_rfl
      have h5 : DataW.trod enc Try.prog W 0 sp held m 23 (((nodeCell n).drop 4).take (Program.cellsOf Try.prog 23)) = xs[4]? := h4
      rw [hc1] at h5
      have hl5 : xs.length = 5 := hl
      obtain ⟨⟨d4, p4⟩, hy⟩ : ∃ y, xs[4]? = some y := ⟨_, List.getElem?_eq_getElem (by omega)⟩
      rw [hy] at h5
      have hd := (Prod.mk.injEq .. ▸ hx).1
      have hm := bulk_mem (H := H) (l := xs.map (·.1)) (d := d4) (List.mem_map.2 ⟨_, List.mem_of_getElem? hy, rfl⟩)
      rw [hd]
      simp only [Rows.uptoBulk]
      rw [sizeN_eq]
      rcases met_slice (size := 5) (t := 25) Try.underlying23 (by kernel_rfl) (by decide) nodeCell_len hk h5 with ⟨e1, e2⟩ | ⟨es, sp', q, e1, e2, e3⟩
      · rw [e1]; simp only [sizeL]; omega
      · have h6 := mass_list sizeN n.kids es e2 (fun i a hi => by
          obtain ⟨x, hx1, hx2⟩ := e3 i a hi
          have hmem : a ∈ n.kids := List.mem_of_getElem? hi
          exact ⟨x, hx1, ih a hmem (hkids a hmem) _ _ _ hx2⟩)
        rw [← sizeL_sum] at h6
        rw [e1] at hm
        simp only [Rows.uptoBulk] at hm
        omega
theorem dec_9 : DecR 8589934592 Try.prog 9 (fun n : Str => [.string n.v]) (fun _ _ => True) := dec_str rfl Try.underlying9 (by kernel_rfl)
theorem dec_2 : DecR 8589934592 Try.prog 2 (fun n : I64 => [.int .i64 n.v]) (fun _ _ => True) := dec_i64 Try.underlying2 (by kernel_rfl)
theorem dec_3 : DecR 8589934592 Try.prog 3 (fun n : I64 => [.int .i64 n.v]) (fun _ _ => True) := dec_i64 Try.underlying3 (by kernel_rfl)
theorem dec_cond : DecR 8589934592 Try.prog 43 condCell (fun _ _ => True) := (DecR.struct (t := 43) (l := [_, _, _]) Try.underlying43 rfl (DecFs.cons (DecR.struct (t := 41) (l := [_, _, _]) Try.underlying41 rfl (DecFs.cons dec_9 (DecFs.cons dec_9 (DecFs.cons (DecR.struct (t := 39) (l := [_, _, _]) Try.underlying39 rfl (DecFs.cons dec_3 (DecFs.cons dec_2 (DecFs.cons dec_9 DecFs.nil rfl (by kernel_rfl)) rfl (by kernel_rfl)) rfl (by kernel_rfl))) DecFs.nil rfl (by kernel_rfl)) rfl (by kernel_rfl)) rfl (by kernel_rfl))) (DecFs.cons dec_3 (DecFs.cons (DecR.struct (t := 41) (l := [_, _, _]) Try.underlying41 rfl (DecFs.cons dec_9 (DecFs.cons dec_9 (DecFs.cons (DecR.struct (t := 39) (l := [_, _, _]) Try.underlying39 rfl (DecFs.cons dec_3 (DecFs.cons dec_2 (DecFs.cons dec_9 DecFs.nil rfl (by kernel_rfl)) rfl (by kernel_rfl)) rfl (by kernel_rfl))) DecFs.nil rfl (by kernel_rfl)) rfl (by kernel_rfl)) rfl (by kernel_rfl))) DecFs.nil rfl (by kernel_rfl)) rfl (by kernel_rfl)) rfl (by kernel_rfl))).map (fun _ => by kernel_rfl) one_cond fun I c _ => ⟨⟨⟨c.1.1, c.1.2.1, ⟨c.1.2.2.1.1, c.1.2.2.1.2.1, c.1.2.2.1.2.2.1⟩⟩, c.2.1, ⟨c.2.2.1.1, c.2.2.1.2.1, ⟨c.2.2.1.2.2.1.1, c.2.2.1.2.2.1.2.1, c.2.2.1.2.2.1.2.2.1⟩⟩⟩, rfl, trivial⟩
theorem dec_nodeB : ∀ N, DecB N 8589934592 Try.prog 25 nodeCell NodeOk := 
  fun N => match N with
  | 0 => ⟨fun _ => by kernel_rfl, one_node, fun _ _ _ _ _ _ _ _ h => absurd h (Nat.not_lt_zero _)⟩
  | N + 1 => (DecB.struct (t := 25) (l := [_, _, _, _, _]) Try.underlying25 rfl (DecBs.cons (dec_3).toB (DecBs.cons (dec_9).toB (DecBs.cons (dec_9).toB (DecBs.cons (DecB.slice (t := 22) (size := 11) (bytes := 136) Try.underlying22 (by kernel_rfl) (by kernel_rfl) (by kernel_rfl) (by decide) (dec_cond).toB) (DecBs.cons (DecB.slice (t := 23) (size := 5) (bytes := 88) Try.underlying23 (by kernel_rfl) (by kernel_rfl) (by kernel_rfl) (by decide) (dec_nodeB N)) DecBs.nil rfl (by kernel_rfl)) rfl (by kernel_rfl)) rfl (by kernel_rfl)) rfl (by kernel_rfl)) rfl (by kernel_rfl))).map (fun _ => by kernel_rfl) one_node fun I a h => ⟨.mk a.1 a.2.1 a.2.2.1 a.2.2.2.1.1 a.2.2.2.1.2.1 a.2.2.2.1.2.2 a.2.2.2.2.1.1 a.2.2.2.2.1.2.1 a.2.2.2.2.1.2.2, rfl, .mk h.2.2.2.1.1 h.2.2.2.2.1.1 ⟨Nat.le_trans h.2.2.2.1.2.1 (by decide), Nat.le_trans h.2.2.2.2.1.2.1 (by decide)⟩ h.2.2.2.2.1.2.2⟩
theorem one_pat (p : PatD) (x : Value) (h : x ∈ patCell p) : x.oneCell' = true := by
  simp only [patCell, List.mem_append, List.mem_cons, List.not_mem_nil, or_false] at h
  rcases h with ((rfl | rfl) | h) | rfl
  · rfl
  · rfl
  · exact one_node _ _ h
  · rfl
theorem dec_pat : DecR 8589934592 Try.prog 27 patCell (fun I p => NodeOk I p.root ∧ (Im 11 (.slice p.wp p.wh.length p.wc) p.wh.length (p.wh.flatMap condCell)).sat I Heap.none ∧ p.wh.length * 136 ≤ 8589934592) := (DecR.struct (t := 27) (l := [_, _, _, _]) Try.underlying27 rfl (DecFs.cons dec_9 (DecFs.cons dec_2 (DecFs.cons (DecB.toR dec_nodeB) (DecFs.cons (DecR.slice (t := 22) (size := 11) (bytes := 136) Try.underlying22 (by kernel_rfl) (by kernel_rfl) (by kernel_rfl) (by decide) dec_cond) DecFs.nil rfl (by kernel_rfl)) rfl (by kernel_rfl)) rfl (by kernel_rfl)) rfl (by kernel_rfl))).map (fun _ => by kernel_rfl) one_pat fun I a h => ⟨⟨a.1, a.2.1, a.2.2.1, a.2.2.2.1.1, a.2.2.2.1.2.1, a.2.2.2.1.2.2⟩, by simp [patCell], h.2.2.1, h.2.2.2.1.1, h.2.2.2.1.2.1⟩
theorem dec_n_47 : DecR 8589934592 Try.prog 47 (fun n : Nat => [.int .u16 (n : Int)]) (fun _ n => n < 65536) := dec_n16 Try.underlying47 (by kernel_rfl)
def okU (N : Nat) : Option TypeDesc → Bool
  | some (.pointer e) => decide (e < N)
  | some (.slice e) => decide (e < N)
  | some (.array _ e) => decide (e < N)
  | some (.map k e) => decide (k < N) && decide (e < N)
  | some (.struct fs) => fs.toList.all fun f => decide (f.type < N)
  | _ => true
def closedB (P : Program) : Bool := (List.range P.types.size).all fun t => decide (P.bytesOf t ≤ 4096) && okU P.types.size (P.underlying t)
theorem closed_at {P : Program} (h : closedB P = true) (t : TypeId) (ht : t < P.types.size) : P.bytesOf t ≤ 4096 ∧ okU P.types.size (P.underlying t) = true := by
  have := List.all_eq_true.1 h t (List.mem_range.2 ht)
  simpa using this
section
variable {H : Type} {P : Program}
mutual
theorem bulk_w (hP : closedB P = true) (d : DataW H) (t : TypeId) (ht : t < P.types.size) (h : Rows.uptoBulk d ≤ 1048576) (n : Nat) (hn : n ∈ d.weights P t) : n ≤ 8589934592 := by
  cases d with
  | lit l => cases l <;> simp [DataW.weights, Rows.uptoBulk] at hn h; omega
  | nil => simp [DataW.weights] at hn
  | held _ => simp [DataW.weights] at hn
  | iface _ _ => simp [DataW.weights] at hn
  | ptr d =>
    simp only [DataW.weights] at hn
    have hU := (closed_at hP t ht).2
    split at hn
    · rename_i e hu
      rw [hu] at hU
      exact bulk_w hP d _ (of_decide_eq_true hU) (by simp only [Rows.uptoBulk] at h; omega) n hn
    · simp at hn
  | slice a s =>
    simp only [DataW.weights] at hn
    have hU := (closed_at hP t ht).2
    split at hn
    · rename_i e hu
      rw [hu] at hU
      have he := of_decide_eq_true hU
      simp only [Rows.uptoBulk] at h
      rcases List.mem_cons.1 hn with rfl | hn
      · have h1 := bulk_len a
        have h2 := bulk_len s
        have h3 := Nat.mul_le_mul (show a.length + s.length ≤ 1048576 by omega) (closed_at hP e he).1
        omega
      · rcases List.mem_append.1 hn with hn | hn
        · exact bulk_wAll hP a e he (by omega) n hn
        · exact bulk_wAll hP s e he (by omega) n hn
    · simp at hn
  | agg ps =>
    simp only [DataW.weights] at hn
    simp only [Rows.uptoBulk] at h
    have hU := (closed_at hP t ht).2
    split at hn
    · rename_i fs hu
      rw [hu] at hU
      exact bulk_wEach hP _ ps (fun x hx => by obtain ⟨f, hf, rfl⟩ := List.mem_map.1 hx; exact of_decide_eq_true (List.all_eq_true.1 hU f hf)) (by omega) n hn
    · rename_i m e hu
      rw [hu] at hU
      exact bulk_wAll hP ps _ (of_decide_eq_true hU) (by omega) n hn
    · simp at hn
  | map es =>
    simp only [DataW.weights] at hn
    simp only [Rows.uptoBulk] at h
    have hU := (closed_at hP t ht).2
    split at hn
    · rename_i k e hu
      rw [hu] at hU
      have hk := of_decide_eq_true (Bool.and_eq_true_iff.1 hU).1
      have he := of_decide_eq_true (Bool.and_eq_true_iff.1 hU).2
      rcases List.mem_cons.1 hn with rfl | hn
      · have h1 := bulk_lenE es
        have h3 := Nat.mul_le_mul (show es.length ≤ 1048576 by omega) (show P.bytesOf k + P.bytesOf e ≤ 8192 by have := (closed_at hP k hk).1; have := (closed_at hP e he).1; omega)
        omega
      · exact bulk_wEntries hP es e he (by omega) n hn
    · simp at hn
theorem bulk_wAll (hP : closedB P = true) (l : List (DataW H)) (e : TypeId) (he : e < P.types.size) (h : Rows.uptoBulkAll l ≤ 1048576) (n : Nat) (hn : n ∈ DataW.weightsAll P e l) : n ≤ 8589934592 := by
  cases l with
  | nil => simp [DataW.weightsAll] at hn
  | cons d l =>
    simp only [DataW.weightsAll, List.mem_append] at hn
    simp only [Rows.uptoBulkAll] at h
    rcases hn with hn | hn
    · exact bulk_w hP d e he (by omega) n hn
    · exact bulk_wAll hP l e he (by omega) n hn
theorem bulk_wEach (hP : closedB P = true) (ts : List TypeId) (l : List (DataW H)) (hts : ∀ t ∈ ts, t < P.types.size) (h : Rows.uptoBulkAll l ≤ 1048576) (n : Nat) (hn : n ∈ DataW.weightsEach P ts l) : n ≤ 8589934592 := by
  cases l with
  | nil => cases ts <;> simp [DataW.weightsEach] at hn
  | cons d l =>
    cases ts with
    | nil => simp [DataW.weightsEach] at hn
    | cons t ts =>
      simp only [DataW.weightsEach, List.mem_append] at hn
      simp only [Rows.uptoBulkAll] at h
      rcases hn with hn | hn
      · exact bulk_w hP d t (hts t (by simp)) (by omega) n hn
      · exact bulk_wEach hP ts l (fun x hx => hts x (by simp [hx])) (by omega) n hn
theorem bulk_wEntries (hP : closedB P = true) (l : List (Lit × DataW H)) (e : TypeId) (he : e < P.types.size) (h : Rows.uptoBulkEntries l ≤ 1048576) (n : Nat) (hn : n ∈ DataW.weightsEntries P e l) : n ≤ 8589934592 := by
  cases l with
  | nil => simp [DataW.weightsEntries] at hn
  | cons x l =>
    simp only [DataW.weightsEntries, List.mem_append] at hn
    simp only [Rows.uptoBulkEntries] at h
    rcases hn with hn | hn
    · exact bulk_wEntry hP x e he (by omega) n hn
    · exact bulk_wEntries hP l e he (by omega) n hn
theorem bulk_wEntry (hP : closedB P = true) (x : Lit × DataW H) (e : TypeId) (he : e < P.types.size) (h : Rows.uptoBulkEntry x ≤ 1048576) (n : Nat) (hn : n ∈ DataW.weightsEntry P e x) : n ≤ 8589934592 := by
  obtain ⟨k, d⟩ := x
  cases k with
  | string b =>
    simp only [DataW.weightsEntry, List.mem_cons] at hn
    simp only [Rows.uptoBulkEntry] at h
    rcases hn with rfl | hn
    · omega
    · exact bulk_w hP d e he (by omega) n hn
  | _ =>
    simp only [DataW.weightsEntry] at hn
    simp only [Rows.uptoBulkEntry] at h
    exact bulk_w hP d e he (by omega) n hn
theorem bulk_len : ∀ l : List (DataW H), l.length ≤ Rows.uptoBulkAll l
  | [] => by simp [Rows.uptoBulkAll]
  | d :: l => by have := bulk_len l; have := bulk_one d; simp only [Rows.uptoBulkAll, List.length_cons]; omega
theorem bulk_one (d : DataW H) : 1 ≤ Rows.uptoBulk d := by
  cases d with
  | lit l => cases l <;> simp [Rows.uptoBulk]
  | _ => simp [Rows.uptoBulk]
theorem bulk_lenE : ∀ l : List (Lit × DataW H), l.length ≤ Rows.uptoBulkEntries l
  | [] => by simp [Rows.uptoBulkEntries]
  | (k, d) :: l => by have := bulk_lenE l; have : 1 ≤ Rows.uptoBulkEntry (k, d) := (by cases k <;> simp [Rows.uptoBulkEntry]); simp only [Rows.uptoBulkEntries, List.length_cons]; omega
end
end
set_option maxHeartbeats 4000000 in
set_option maxRecDepth 100000 in
theorem checkParts_lifted (os : Os) (started : os.Started) (H : Type) (enc : TypeId × Value → H) :
    ∀ (F : Stop.Interp), ReturnsInHanded {} Try.checked os 7 .any ((Rows.OpenSpec.upto Rows.checkPartsSpec).pre6 enc Try.prog Try.f7 Rows.checkPartsUptoRow.domain false) (((Rows.OpenSpec.upto Rows.checkPartsSpec).at F).post enc Try.prog Try.f7 false true false false) := by
  intro F
  refine returnsInHanded_of_cond (C := Try.checked) (s := Rows.OpenSpec.upto Rows.checkPartsSpec) (k := Rows.uptoSmall) rfl (show ownKnob Try.prog.godebug = Option.none by kernel_rfl) started (by kernel_rfl) Try.func7
    (OpenSpec.witness (enc := enc) (C := Try.checked) (s := Rows.OpenSpec.upto Rows.checkPartsSpec) (k := Rows.uptoSmall) rfl false ⟨#[], #[.agg #[.string ByteArray.empty, .int .i64 0, .int .i64 0, .string ByteArray.empty, .string ByteArray.empty, .slice none 0 0, .slice none 0 0, .slice none 0 0], .int .u16 0], []⟩ 8 (by kernel_rfl) (by kernel_rfl) (by kernel_rfl) (x := ([.agg [.lit (.string []), .lit (.int .i64 0), .agg [.lit (.int .i64 0), .lit (.string []), .lit (.string []), .nil, .nil], .nil], .lit (.int .u16 0)], [], [])) (by kernel_rfl) rfl (by kernel_rfl)) ?_
  intro W base args ds gs before hval0 hW hcnd hkk _
  have hsz : (DataW.weightsEach Try.prog (Try.f7.params.toList ++ (Rows.checkPartsSpec).plain.varTypes Try.prog) (ds ++ gs)).all (· ≤ 8589934592) = true := List.all_eq_true.2 fun n hn => decide_eq_true (bulk_wEach (by kernel_rfl) _ _ (fun t ht => of_decide_eq_true (List.all_eq_true.1 (show (Try.f7.params.toList ++ (Rows.checkPartsSpec).plain.varTypes Try.prog).all (fun t => decide (t < Try.prog.types.size)) = true by kernel_rfl) t ht)) (of_decide_eq_true hkk) n hn)
  have hval : ∀ (j : Nat) t v, Try.f7.params[j]? = some t → args[j]? = some v → Value.okWide Try.prog W .any base t v := hval0
  refine law_post (n := 2) (by kernel_rfl) rfl (by rw [Try.params7]; rfl) (fun t ht => by rw [Try.params7] at ht; simp at ht; rcases ht with rfl | rfl <;> exact ⟨by kernel_rfl, of_decide_eq_true (by kernel_rfl)⟩) (show Try.f7.resultTypes = _ from rfl) (Try.underlying4) (fun ds h => match ds, h with | [_, _], _ => rfl) hW ?_
  obtain ⟨p, q, hA0, hV, rfl, hfz, hnd⟩ := hW
  have hA : DataW.TrodAll enc Try.prog W 0 (fun _ => true) true Try.f7.params.toList args.toList ds p := hA0
  rw [Try.params7] at hA hval hsz
  obtain ⟨v0, vs0, d0, ds0, p0, q0, hargs, rfl, rfl, h0, r0⟩ := ChangeShapes.trodAll_cons hA
  obtain ⟨v1, vs1, d1, ds1, p1, q1, rfl, rfl, rfl, h1, r1⟩ := ChangeShapes.trodAll_cons r0
  obtain ⟨rfl, rfl, rfl⟩ := ChangeShapes.trodAll_nil r1
  obtain rfl : args = #[v0, v1] := by cases args; simp_all
  obtain ⟨p, rfl, hn, him, hbd⟩ := read_agg dec_pat Try.underlying27 (hval 0 27 v0 rfl rfl) h0 (weigh hsz (j := 0) (t := 27) rfl rfl)
  have hz0 : sizeN p.root ≤ 1048576 := by
    have h1 : Rows.uptoBulkAll _ ≤ 1048576 := of_decide_eq_true hkk
    obtain ⟨fu, hf⟩ := h0
    obtain ⟨xs, m, rfl, hx, hc, hl, hr⟩ := DataW.trod_struct Try.underlying27 hf
    have h4 := hr 2 _ rfl
    have hc1 : Program.cellsOf Try.prog 25 = 5 := by kernel_rfl
    have h5 : DataW.trod enc Try.prog W 0 _ _ m 25 (((patCell p).drop 2).take (Program.cellsOf Try.prog 25)) = xs[2]? := h4
    rw [hc1] at h5
    have hl5 : xs.length = 4 := hl
    obtain ⟨⟨d2, p2⟩, hy⟩ : ∃ y, xs[2]? = some y := ⟨_, List.getElem?_eq_getElem (by omega)⟩
    rw [hy] at h5
    have hd := (Prod.mk.injEq .. ▸ hx).1
    have hm := bulk_mem (H := H) (l := xs.map (·.1)) (d := d2) (List.mem_map.2 ⟨_, List.mem_of_getElem? hy, rfl⟩)
    have h2 := node_mass p.root hn m _ _ h5
    rw [hd] at h1
    simp only [List.cons_append, List.nil_append, Rows.uptoBulkAll, Rows.uptoBulk] at h1
    omega
  obtain ⟨out, rfl, ho⟩ := read_one dec_n_47 (one_int (P := Try.prog) Try.underlying47 (hval 1 47 v1 rfl rfl)) h1 (weigh hsz (j := 1) (t := 47) rfl rfl)
  clear hA0 hval0 hsz hkk
  have H0 := St.begin W (old W :: NodeA p.root :: Im 11 (.slice p.wp p.wh.length p.wc) p.wh.length (p.wh.flatMap condCell) :: []) (by simp only [List.forall_mem_cons]; exact ⟨old_sat W, ⟨rfl, hn⟩, him, fun _ h => (nomatch h)⟩)
  exact (law_CheckParts p out ho (i := 1) rfl (k := 2) rfl hz0 (by have : p.wh.length * 136 ≤ 8589934592 := hbd; omega) H0).mono fun e w hh => by cases e with | returned v => exact ⟨hh.1, _, 0, hh.2, rfl⟩ | _ => exact hh.elim
theorem checkPartsUpto_holds : Rows.CheckPartsUptoSaid :=
  OpenClaim.holds_of_cond 7 Try.f7 rfl rfl rfl rfl rfl rfl rfl ⟨rfl, rfl, rfl, rfl, rfl⟩ rfl rfl rfl rfl rfl (by kernel_rfl) Try.func7 (by kernel_rfl)
    (of_decide_eq_true (by kernel_rfl)) (by unfold Func.isWrapper; first | (rw [if_pos (by decide +kernel)]; kernel_rfl) | (rw [if_neg (by decide +kernel)]; exact ⟨rfl, rfl⟩))
    (fun os started H enc _ F => checkParts_lifted os started H enc F)
end Go.Proofs.Ytkclljglobeplaa
