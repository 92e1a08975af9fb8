/- Walks of the program's functions. Printed by a program of this claim's author. No condition. -/
import Derived.Test.YtheggchlcpafmaaSlQ
import Derived.Test.YtheggchlcpafmaaSlR
import Derived.Test.YtheggchlcpafmaaSlBB
import Derived.Test.YtheggchlcpafmaaSlDA
import Derived.Test.YtheggchlcpafmaaProg
import Derived.Test.YtheggchlcpafmaaWalkEventOwn0
namespace Sl
open _root_.Go _root_.Go.RowKit _root_.Go.Proofs
set_option linter.all false
set_option maxHeartbeats 4000000 in
set_option maxRecDepth 100000 in
theorem told_ {W w : World} {F : List Atom} (g : Nat) (evs : List EvM) (Lw : List EvD) (wv : Value) (hne : ∀ e ∈ evs, evE e = 0) (hnl : evs.length ≤ 65536) {i j k : Nat} (hi : F[i]? = some (AllA g evs)) (hj : F[j]? = some (Im 5 wv Lw.length (Lw.flatMap evdCell))) (hk : F[k]? = some (evA Lw)) (H : St W w F) : Calls Try.prog 33 #[.func (.func 72) #[] #[.pointer (some ⟨g, 0, none⟩)], wv] w (Ret fun v w' => v = .bool (toldB evs (Lw.map EvD.ev)) ∧ St W w' F) := by
  obtain ⟨pp1, cc2, rfl, hn3⟩ := Rd.shape (Im.rd H (i := j) hj)
  have H4 := (H.dup hj (Im_pers _ _ _ _)).dup (i := k + 1) (by exact hk) (evA_pers _)
  have hml := Im.len H4 (i := 1) rfl
  refine calls_of_go (n := 28) Try.func33 rfl Try.ntmps33 rfl ?_
  refine g_seq ?_
  refine g_region ?_
  refine r_cons (s_box H4 49 (.slice pp1 Lw.length cc2) rfl (cs := #[.slice pp1 Lw.length cc2]) rfl rfl ?_); intro bk6 w7 H8
  refine r_cons (s_alloc H8 4 ze_4 rfl ?_); intro bk9 w10 H11
  refine r_nil ?_
  refine g_seq ?_
  refine g_region ?_
  refine r_cons (s_alloc H11 3 ze_3 rfl ?_); intro bk12 w13 H14
  refine r_cons (s_store H14 0 (.int .i64 0) rfl rfl rfl sz_3 rfl (Nat.le_of_ble_eq_true rfl) rfl (cs' := #[.int .i64 0]) rfl ?_); intro w15 H16
  refine r_nil ?_
  refine g_seq ?_
  refine g_seq ?_
  refine g_region ?_
  refine r_cons (s_move (.func (.func 72) #[] #[.pointer (some ⟨g, 0, none⟩)]) rfl rfl ?_)
  refine r_nil ?_
  refine g_block ?_
  have H17 : St W w15 (blk bk6 (.cells #[.slice pp1 Lw.length cc2] 49 (0, 0)) :: blk bk9 (.cells #[.bool false] 4 (0, 0)) :: blk bk12 (.cells #[.int .i64 0] 3 (0, 0)) :: Im 5 (.slice pp1 Lw.length cc2) Lw.length (Lw.flatMap evdCell) :: evA Lw :: F) := (((((H16.move 3 rfl).move 4 rfl).move 2 rfl).move 3 rfl).move 4 rfl)
  have H18 : St W w15 (star [pure' (([] : List EvD).map EvD.ev = (Lw.map EvD.ev).take ([] : List EvD).length ∧ ([] : List EvD).length ≤ Lw.length), blk bk6 (.cells #[.slice pp1 Lw.length cc2] 49 (0, 0)), blk bk9 (.cells #[.bool false] 4 (0, 0)), blk bk12 (.cells #[.int .i64 (([] : List EvD).length : Int)] 3 (0, 0)), Im 5 (.slice pp1 Lw.length cc2) Lw.length (Lw.flatMap evdCell), evA Lw] :: F) := St.shut_star (ls := [pure' (([] : List EvD).map EvD.ev = (Lw.map EvD.ev).take ([] : List EvD).length ∧ ([] : List EvD).length ≤ Lw.length), blk bk6 (.cells #[.slice pp1 Lw.length cc2] 49 (0, 0)), blk bk9 (.cells #[.bool false] 4 (0, 0)), blk bk12 (.cells #[.int .i64 0] 3 (0, 0)), Im 5 (.slice pp1 Lw.length cc2) Lw.length (Lw.flatMap evdCell), evA Lw]) (St.shut_pure ⟨by simp, by simp⟩ H17)
  refine g_range1 (W := W) (F := F) 72 [.pointer (some ⟨g, 0, none⟩)] rfl rfl pl_72 (fun x_ : EvD => .agg #[.int .i64 x_.ev.src.v, .int .i64 x_.ev.seq.v, .int .i64 x_.ev.time.v, .string x_.ev.typ.v, .slice x_.p x_.ev.attrs.length x_.c]) rfl (fun x_ : EvD => Attrs (.slice x_.p x_.ev.attrs.length x_.c) x_.ev.attrs) (fun pre_ => star [pure' (pre_.map EvD.ev = (Lw.map EvD.ev).take pre_.length ∧ pre_.length ≤ Lw.length), blk bk6 (.cells #[.slice pp1 Lw.length cc2] 49 (0, 0)), blk bk9 (.cells #[.bool false] 4 (0, 0)), blk bk12 (.cells #[.int .i64 (pre_.length : Int)] 3 (0, 0)), Im 5 (.slice pp1 Lw.length cc2) Lw.length (Lw.flatMap evdCell), evA Lw]) (fun c_ pre_ => star [pure' (c_ = .ret ∧ ¬ pre_.map EvD.ev <+: (Lw.map EvD.ev)), blk bk9 (.cells #[.bool false] 4 (0, 0))]) (fun pre_ x_ => (pre_ ++ [x_]).map EvD.ev <+: evs) (fun L_ => L_.map EvD.ev = evs) (fun L_ => L_.map EvD.ev <+: evs) H18 ?_ ?_ ?_ ?_
  · intro l19 r20 w21 G22 pre23 x24 hr25 hr26 hok27 H28
    try dsimp only at hok27 H28
    have H29 : St W w21 (blk l19 (.loop r20) :: star [pure' (pre23.map EvD.ev = (Lw.map EvD.ev).take pre23.length ∧ pre23.length ≤ Lw.length), blk bk6 (.cells #[.slice pp1 Lw.length cc2] 49 (0, 0)), blk bk9 (.cells #[.bool false] 4 (0, 0)), blk bk12 (.cells #[.int .i64 (pre23.length : Int)] 3 (0, 0)), Im 5 (.slice pp1 Lw.length cc2) Lw.length (Lw.flatMap evdCell), evA Lw] :: Attrs (.slice x24.p x24.ev.attrs.length x24.c) x24.ev.attrs :: G22) := H28
    have H30 := H29.move 1 rfl
    obtain ⟨hpre31, H32⟩ := St.open_pure (St.open_star H30)
    obtain ⟨n33, hn34⟩ : ∃ n : Nat, n = pre23.length := ⟨_, rfl⟩
    have H35 : St W w21 (blk bk6 (.cells #[.slice pp1 Lw.length cc2] 49 (0, 0)) :: blk bk9 (.cells #[.bool false] 4 (0, 0)) :: blk bk12 (.cells #[.int .i64 (n33 : Int)] 3 (0, 0)) :: Im 5 (.slice pp1 Lw.length cc2) Lw.length (Lw.flatMap evdCell) :: evA Lw :: blk l19 (.loop r20) :: Attrs (.slice x24.p x24.ev.attrs.length x24.c) x24.ev.attrs :: G22) := by rw [hn34]; exact H32
    obtain ⟨pA36, cA37, gA38, oA39, kA40, eA41, zA42, he48, hn43, hp44, hx45, hs46, hml, H47⟩ := Im.open_ H35 (i := 3) rfl
    obtain ⟨rfl, rfl⟩ : pp1 = pA36 ∧ cc2 = cA37 := by injection he48 with a_ b_ c_; exact ⟨a_, c_⟩
    have H49 := evA_atD n33 H47 (i := 5) rfl
    have hnn : n33 ≤ Lw.length := hn34 ▸ hpre31.2
    refine g_region ?_
    refine r_cons (s_alloc H49 33 ze_33 rfl ?_); intro bk50 w51 H52
    refine r_cons (s_storeAgg H52 0 #[.int .i64 x24.ev.src.v, .int .i64 x24.ev.seq.v, .int .i64 x24.ev.time.v, .string x24.ev.typ.v, .slice x24.p x24.ev.attrs.length x24.c] 5 rfl rfl rfl sz_33 rfl (by simp [Value.oneCell']) (Nat.le_of_ble_eq_true rfl) (fun o h1 h2 => by first | (simp; done) | (simp; omega)) (cs' := #[.int .i64 x24.ev.src.v, .int .i64 x24.ev.seq.v, .int .i64 x24.ev.time.v, .string x24.ev.typ.v, .slice x24.p x24.ev.attrs.length x24.c]) rfl ?_); intro w53 H54
    refine r_nil ?_
    refine g_beginRound H54 (i := 8) rfl hr25 ?_; intro w55 H56
    have H57 : St W w55 (blk bk50 (.cells #[.int .i64 x24.ev.src.v, .int .i64 x24.ev.seq.v, .int .i64 x24.ev.time.v, .string x24.ev.typ.v, .slice x24.p x24.ev.attrs.length x24.c] 33 (0, 0)) :: Attrs (.slice ((Lw.getD n33 default).p) ((Lw.getD n33 default).ev.attrs.length) ((Lw.getD n33 default).c)) ((Lw.getD n33 default).ev.attrs) :: imi (0 < Lw.length) gA38 (.cells kA40 eA41 zA42) :: blk bk6 (.cells #[.slice pp1 Lw.length cc2] 49 (0, 0)) :: blk bk9 (.cells #[.bool false] 4 (0, 0)) :: blk bk12 (.cells #[.int .i64 (n33 : Int)] 3 (0, 0)) :: Im 5 (.slice pp1 Lw.length cc2) Lw.length (Lw.flatMap evdCell) :: evA Lw :: blk l19 (.loop { r20 with state := .busy }) :: Attrs (.slice x24.p x24.ev.attrs.length x24.c) x24.ev.attrs :: G22) := H56
    refine g_block ?_
    refine g_seq ?_
    refine g_seq ?_
    refine g_quiet (fun w' => St W w' (blk bk50 (.cells #[.int .i64 x24.ev.src.v, .int .i64 x24.ev.seq.v, .int .i64 x24.ev.time.v, .string x24.ev.typ.v, .slice x24.p x24.ev.attrs.length x24.c] 33 (0, 0)) :: Attrs (.slice ((Lw.getD n33 default).p) ((Lw.getD n33 default).ev.attrs.length) ((Lw.getD n33 default).c)) ((Lw.getD n33 default).ev.attrs) :: imi (0 < Lw.length) gA38 (.cells kA40 eA41 zA42) :: blk bk6 (.cells #[.slice pp1 Lw.length cc2] 49 (0, 0)) :: blk bk9 (.cells #[.bool false] 4 (0, 0)) :: blk bk12 (.cells #[.int .i64 (n33 : Int)] 3 (0, 0)) :: Im 5 (.slice pp1 Lw.length cc2) Lw.length (Lw.flatMap evdCell) :: evA Lw :: blk l19 (.loop { r20 with state := .busy }) :: Attrs (.slice x24.p x24.ev.attrs.length x24.c) x24.ev.attrs :: G22)) mixed (by kernel_rfl) H57.drew ?_
    refine q_cons (q_val rfl rfl rfl (by intro w hw; exact x_load (.int .i64 (n33 : Int)) ag_3 rfl (hw.blk_at (i := 5) rfl) rfl) ?_)
    refine q_cons (q_val rfl rfl rfl (by intro w hw; exact x_load (.slice pp1 Lw.length cc2) ag_49 rfl (hw.blk_at (i := 3) rfl) rfl) ?_)
    refine q_cons (q_val rfl rfl rfl (by intro w hw; exact x_len Lw.length rfl ⟨_, un_49⟩ w) ?_)
    by_cases hc58 : (Lw.length : Int) ≤ (n33 : Int)
    · skip
      refine q_cons (q_val rfl rfl rfl (by intro w hw; exact x_geq true rfl rfl (dtrue hc58) w) ?_)
      refine q_cons (q_val rfl rfl rfl (by intro w hw; exact x_move (.bool true) rfl w) ?_)
      refine q_cons (q_pass rfl rfl rfl rfl rfl ?_)
      refine q_cons (q_pass rfl rfl rfl rfl rfl ?_)
      refine q_cons (q_pass rfl rfl rfl rfl rfl ?_)
      refine q_cons (q_pass rfl rfl rfl rfl rfl ?_)
      refine q_cons (q_pass rfl rfl rfl rfl rfl ?_)
      refine q_cons (q_pass rfl rfl rfl rfl rfl ?_)
      refine q_cons (q_pass rfl rfl rfl rfl rfl ?_)
      refine q_cons (q_val rfl rfl rfl (by intro w hw; exact x_pick_t (.bool true) rfl rfl w) ?_)
      refine q_nil ?_
      intro w59 H60
      refine g_true rfl ?_
      refine g_seq ?_
      refine g_region ?_
      refine r_cons (s_store H60 4 (.bool false) rfl rfl rfl sz_4 rfl (Nat.le_of_ble_eq_true rfl) rfl (cs' := #[.bool false]) rfl ?_); intro w61 H62
      refine r_nil ?_
      have H63 : St W w61 (blk bk9 (.cells #[.bool false] 4 (0, 0)) :: blk bk50 (.cells #[.int .i64 x24.ev.src.v, .int .i64 x24.ev.seq.v, .int .i64 x24.ev.time.v, .string x24.ev.typ.v, .slice x24.p x24.ev.attrs.length x24.c] 33 (0, 0)) :: Attrs (.slice ((Lw.getD n33 default).p) ((Lw.getD n33 default).ev.attrs.length) ((Lw.getD n33 default).c)) ((Lw.getD n33 default).ev.attrs) :: imi (0 < Lw.length) gA38 (.cells kA40 eA41 zA42) :: blk bk6 (.cells #[.slice pp1 Lw.length cc2] 49 (0, 0)) :: blk bk12 (.cells #[.int .i64 (n33 : Int)] 3 (0, 0)) :: Im 5 (.slice pp1 Lw.length cc2) Lw.length (Lw.flatMap evdCell) :: evA Lw :: blk l19 (.loop { r20 with state := .busy }) :: Attrs (.slice x24.p x24.ev.attrs.length x24.c) x24.ev.attrs :: G22) := (H62.move 4 rfl)
      have H64 : St W w61 (star [pure' ((.ret : Code) = .ret ∧ ¬ (pre23 ++ [x24]).map EvD.ev <+: (Lw.map EvD.ev)), blk bk9 (.cells #[.bool false] 4 (0, 0))] :: blk bk50 (.cells #[.int .i64 x24.ev.src.v, .int .i64 x24.ev.seq.v, .int .i64 x24.ev.time.v, .string x24.ev.typ.v, .slice x24.p x24.ev.attrs.length x24.c] 33 (0, 0)) :: Attrs (.slice ((Lw.getD n33 default).p) ((Lw.getD n33 default).ev.attrs.length) ((Lw.getD n33 default).c)) ((Lw.getD n33 default).ev.attrs) :: imi (0 < Lw.length) gA38 (.cells kA40 eA41 zA42) :: blk bk6 (.cells #[.slice pp1 Lw.length cc2] 49 (0, 0)) :: blk bk12 (.cells #[.int .i64 (n33 : Int)] 3 (0, 0)) :: Im 5 (.slice pp1 Lw.length cc2) Lw.length (Lw.flatMap evdCell) :: evA Lw :: blk l19 (.loop { r20 with state := .busy }) :: Attrs (.slice x24.p x24.ev.attrs.length x24.c) x24.ev.attrs :: G22) := St.shut_star (ls := [pure' ((.ret : Code) = .ret ∧ ¬ (pre23 ++ [x24]).map EvD.ev <+: (Lw.map EvD.ev)), blk bk9 (.cells #[.bool false] 4 (0, 0))]) (St.shut_pure ⟨rfl, told_no1 hn34 (by omega)⟩ H63)
      have H65 : St W w61 (blk l19 (.loop { r20 with state := .busy }) :: star [pure' ((.ret : Code) = .ret ∧ ¬ (pre23 ++ [x24]).map EvD.ev <+: (Lw.map EvD.ev)), blk bk9 (.cells #[.bool false] 4 (0, 0))] :: G22) := (((((((((H64.move 8 rfl).drop 2 rfl).drop 2 rfl).drop 2 rfl).drop 2 rfl).drop 2 rfl).drop 2 rfl).drop 2 rfl).drop 2 rfl)
      refine g_round_ret H65 (i := 0) rfl ?_; intro w66 H67
      exact .inr ⟨rfl, _, H67⟩
    · skip
      refine q_cons (q_val rfl rfl rfl (by intro w hw; exact x_geq false rfl rfl (dfalse hc58) w) ?_)
      refine q_cons (q_val rfl rfl rfl (by intro w hw; exact x_move (.bool false) rfl w) ?_)
      refine q_cons (q_take rfl rfl ?_)
      refine q_val rfl rfl rfl (by intro w hw; exact x_loadAgg [.int .i64 x24.ev.src.v, .int .i64 x24.ev.seq.v, .int .i64 x24.ev.time.v, .string x24.ev.typ.v, .slice x24.p x24.ev.attrs.length x24.c] 5 ag_33 rfl (hw.blk_at (i := 0) rfl) (Nat.le_of_ble_eq_true rfl) rfl) ?_
      refine q_cons (q_take rfl rfl ?_)
      refine q_val rfl rfl rfl (by intro w hw; exact x_load (.slice pp1 Lw.length cc2) ag_49 rfl (hw.blk_at (i := 3) rfl) rfl) ?_
      refine q_cons (q_take rfl rfl ?_)
      refine q_val rfl rfl rfl (by intro w hw; exact x_load (.int .i64 (n33 : Int)) ag_3 rfl (hw.blk_at (i := 5) rfl) rfl) ?_
      refine q_cons (q_take rfl rfl ?_)
      refine q_val rfl rfl rfl (by intro w hw; exact x_indexAddr gA38 (off := oA39) (n33 : Int) 5 (oA39 + n33 * 5) (by exact congrArg (fun z_ => Value.slice z_ Lw.length cc2) (hp44 (by omega))) rfl el_49 (by omega) rfl w) ?_
      refine q_cons (q_take rfl rfl ?_)
      refine q_val rfl rfl rfl (by intro w hw; exact x_loadAgg [.int .i64 ((Lw.getD n33 default).ev.src.v), .int .i64 ((Lw.getD n33 default).ev.seq.v), .int .i64 ((Lw.getD n33 default).ev.time.v), .string ((Lw.getD n33 default).ev.typ.v), .slice ((Lw.getD n33 default).p) ((Lw.getD n33 default).ev.attrs.length) ((Lw.getD n33 default).c)] 5 ag_33 rfl (hw.imi_at (i := 2) rfl (by omega)) (by have := elem_size (i := n33) (s := 5) (hs46 (by omega)) (by omega); omega) (elem_take evdCell_len (hx45 (by omega)) (by omega) default)) ?_
      refine q_cons (q_take rfl rfl ?_)
      refine q_enter (args := #[.agg #[.int .i64 x24.ev.src.v, .int .i64 x24.ev.seq.v, .int .i64 x24.ev.time.v, .string x24.ev.typ.v, .slice x24.p x24.ev.attrs.length x24.c], .agg #[.int .i64 ((Lw.getD n33 default).ev.src.v), .int .i64 ((Lw.getD n33 default).ev.seq.v), .int .i64 ((Lw.getD n33 default).ev.time.v), .string ((Lw.getD n33 default).ev.typ.v), .slice ((Lw.getD n33 default).p) ((Lw.getD n33 default).ev.attrs.length) ((Lw.getD n33 default).c)]]) (v := .bool (sameEv x24.ev ((Lw.getD n33 default).ev))) rfl rfl rfl (x_call pl_20 [.agg #[.int .i64 x24.ev.src.v, .int .i64 x24.ev.seq.v, .int .i64 x24.ev.time.v, .string x24.ev.typ.v, .slice x24.p x24.ev.attrs.length x24.c], .agg #[.int .i64 ((Lw.getD n33 default).ev.src.v), .int .i64 ((Lw.getD n33 default).ev.seq.v), .int .i64 ((Lw.getD n33 default).ev.time.v), .string ((Lw.getD n33 default).ev.typ.v), .slice ((Lw.getD n33 default).p) ((Lw.getD n33 default).ev.attrs.length) ((Lw.getD n33 default).c)]] rfl) (fun w hw => ref04_Same x24.ev ((Lw.getD n33 default).ev) (.slice x24.p x24.ev.attrs.length x24.c) (.slice ((Lw.getD n33 default).p) ((Lw.getD n33 default).ev.attrs.length) ((Lw.getD n33 default).c)) (j := 9) (k := 1) rfl rfl hw) ?_
      refine q_cons (q_take rfl rfl ?_)
      refine q_val rfl rfl rfl (by intro w hw; exact x_not (sameEv x24.ev ((Lw.getD n33 default).ev)) rfl (!(sameEv x24.ev ((Lw.getD n33 default).ev))) rfl w) ?_
      refine q_cons (q_val rfl rfl rfl (by intro w hw; exact x_pick_f (.bool (!(sameEv x24.ev ((Lw.getD n33 default).ev)))) rfl rfl w) ?_)
      refine q_nil ?_
      intro w68 H69
      by_cases hb70 : (!(sameEv x24.ev ((Lw.getD n33 default).ev))) = true
      · skip
        refine g_true (congrArg Value.bool hb70) ?_
        refine g_seq ?_
        refine g_region ?_
        refine r_cons (s_store H69 4 (.bool false) rfl rfl rfl sz_4 rfl (Nat.le_of_ble_eq_true rfl) rfl (cs' := #[.bool false]) rfl ?_); intro w71 H72
        refine r_nil ?_
        have H73 : St W w71 (blk bk9 (.cells #[.bool false] 4 (0, 0)) :: blk bk50 (.cells #[.int .i64 x24.ev.src.v, .int .i64 x24.ev.seq.v, .int .i64 x24.ev.time.v, .string x24.ev.typ.v, .slice x24.p x24.ev.attrs.length x24.c] 33 (0, 0)) :: Attrs (.slice ((Lw.getD n33 default).p) ((Lw.getD n33 default).ev.attrs.length) ((Lw.getD n33 default).c)) ((Lw.getD n33 default).ev.attrs) :: imi (0 < Lw.length) gA38 (.cells kA40 eA41 zA42) :: blk bk6 (.cells #[.slice pp1 Lw.length cc2] 49 (0, 0)) :: blk bk12 (.cells #[.int .i64 (n33 : Int)] 3 (0, 0)) :: Im 5 (.slice pp1 Lw.length cc2) Lw.length (Lw.flatMap evdCell) :: evA Lw :: blk l19 (.loop { r20 with state := .busy }) :: Attrs (.slice x24.p x24.ev.attrs.length x24.c) x24.ev.attrs :: G22) := (H72.move 4 rfl)
        have H74 : St W w71 (star [pure' ((.ret : Code) = .ret ∧ ¬ (pre23 ++ [x24]).map EvD.ev <+: (Lw.map EvD.ev)), blk bk9 (.cells #[.bool false] 4 (0, 0))] :: blk bk50 (.cells #[.int .i64 x24.ev.src.v, .int .i64 x24.ev.seq.v, .int .i64 x24.ev.time.v, .string x24.ev.typ.v, .slice x24.p x24.ev.attrs.length x24.c] 33 (0, 0)) :: Attrs (.slice ((Lw.getD n33 default).p) ((Lw.getD n33 default).ev.attrs.length) ((Lw.getD n33 default).c)) ((Lw.getD n33 default).ev.attrs) :: imi (0 < Lw.length) gA38 (.cells kA40 eA41 zA42) :: blk bk6 (.cells #[.slice pp1 Lw.length cc2] 49 (0, 0)) :: blk bk12 (.cells #[.int .i64 (n33 : Int)] 3 (0, 0)) :: Im 5 (.slice pp1 Lw.length cc2) Lw.length (Lw.flatMap evdCell) :: evA Lw :: blk l19 (.loop { r20 with state := .busy }) :: Attrs (.slice x24.p x24.ev.attrs.length x24.c) x24.ev.attrs :: G22) := St.shut_star (ls := [pure' ((.ret : Code) = .ret ∧ ¬ (pre23 ++ [x24]).map EvD.ev <+: (Lw.map EvD.ev)), blk bk9 (.cells #[.bool false] 4 (0, 0))]) (St.shut_pure ⟨rfl, told_no2 hn34 (show sameEv x24.ev (Lw.getD n33 default).ev = false by simpa using hb70)⟩ H73)
        have H75 : St W w71 (blk l19 (.loop { r20 with state := .busy }) :: star [pure' ((.ret : Code) = .ret ∧ ¬ (pre23 ++ [x24]).map EvD.ev <+: (Lw.map EvD.ev)), blk bk9 (.cells #[.bool false] 4 (0, 0))] :: G22) := (((((((((H74.move 8 rfl).drop 2 rfl).drop 2 rfl).drop 2 rfl).drop 2 rfl).drop 2 rfl).drop 2 rfl).drop 2 rfl).drop 2 rfl)
        refine g_round_ret H75 (i := 0) rfl ?_; intro w76 H77
        exact .inr ⟨rfl, _, H77⟩
      · have hb70 := eq_false_of_ne_true hb70
        refine g_false (congrArg Value.bool hb70) ?_
        refine g_skip ?_
        refine g_region ?_
        refine r_cons (s_load (.int .i64 (n33 : Int)) ag_3 rfl (H69.blk_at (i := 5) rfl) rfl rfl ?_)
        refine r_cons (s_add ((n33 : Int) + 1) rfl rfl (wi64 (by omega)) rfl ?_)
        refine r_cons (s_store H69 5 (.int .i64 ((n33 : Int) + 1)) rfl rfl rfl sz_3 rfl (Nat.le_of_ble_eq_true rfl) rfl (cs' := #[.int .i64 ((n33 : Int) + 1)]) rfl ?_); intro w78 H79
        refine r_nil ?_
        refine g_inBlock ?_
        have H80 : St W w78 (blk bk6 (.cells #[.slice pp1 Lw.length cc2] 49 (0, 0)) :: blk bk9 (.cells #[.bool false] 4 (0, 0)) :: blk bk12 (.cells #[.int .i64 ((n33 : Int) + 1)] 3 (0, 0)) :: Im 5 (.slice pp1 Lw.length cc2) Lw.length (Lw.flatMap evdCell) :: evA Lw :: blk bk50 (.cells #[.int .i64 x24.ev.src.v, .int .i64 x24.ev.seq.v, .int .i64 x24.ev.time.v, .string x24.ev.typ.v, .slice x24.p x24.ev.attrs.length x24.c] 33 (0, 0)) :: Attrs (.slice ((Lw.getD n33 default).p) ((Lw.getD n33 default).ev.attrs.length) ((Lw.getD n33 default).c)) ((Lw.getD n33 default).ev.attrs) :: imi (0 < Lw.length) gA38 (.cells kA40 eA41 zA42) :: blk l19 (.loop { r20 with state := .busy }) :: Attrs (.slice x24.p x24.ev.attrs.length x24.c) x24.ev.attrs :: G22) := (((((H79.move 7 rfl).move 7 rfl).move 7 rfl).move 7 rfl).move 7 rfl)
        have hst := told_step hpre31.1 hn34 (by omega) (show sameEv x24.ev (Lw.getD n33 default).ev = true by simpa using hb70)
        have H81 : St W w78 (blk bk6 (.cells #[.slice pp1 Lw.length cc2] 49 (0, 0)) :: blk bk9 (.cells #[.bool false] 4 (0, 0)) :: blk bk12 (.cells #[.int .i64 ((pre23 ++ [x24]).length : Int)] 3 (0, 0)) :: Im 5 (.slice pp1 Lw.length cc2) Lw.length (Lw.flatMap evdCell) :: evA Lw :: blk bk50 (.cells #[.int .i64 x24.ev.src.v, .int .i64 x24.ev.seq.v, .int .i64 x24.ev.time.v, .string x24.ev.typ.v, .slice x24.p x24.ev.attrs.length x24.c] 33 (0, 0)) :: Attrs (.slice ((Lw.getD n33 default).p) ((Lw.getD n33 default).ev.attrs.length) ((Lw.getD n33 default).c)) ((Lw.getD n33 default).ev.attrs) :: imi (0 < Lw.length) gA38 (.cells kA40 eA41 zA42) :: blk l19 (.loop { r20 with state := .busy }) :: Attrs (.slice x24.p x24.ev.attrs.length x24.c) x24.ev.attrs :: G22) := by rw [len_snoc, ← hn34]; exact H80
        have H82 : St W w78 (star [pure' ((pre23 ++ [x24]).map EvD.ev = (Lw.map EvD.ev).take (pre23 ++ [x24]).length ∧ (pre23 ++ [x24]).length ≤ Lw.length), blk bk6 (.cells #[.slice pp1 Lw.length cc2] 49 (0, 0)), blk bk9 (.cells #[.bool false] 4 (0, 0)), blk bk12 (.cells #[.int .i64 ((pre23 ++ [x24]).length : Int)] 3 (0, 0)), Im 5 (.slice pp1 Lw.length cc2) Lw.length (Lw.flatMap evdCell), evA Lw] :: blk bk50 (.cells #[.int .i64 x24.ev.src.v, .int .i64 x24.ev.seq.v, .int .i64 x24.ev.time.v, .string x24.ev.typ.v, .slice x24.p x24.ev.attrs.length x24.c] 33 (0, 0)) :: Attrs (.slice ((Lw.getD n33 default).p) ((Lw.getD n33 default).ev.attrs.length) ((Lw.getD n33 default).c)) ((Lw.getD n33 default).ev.attrs) :: imi (0 < Lw.length) gA38 (.cells kA40 eA41 zA42) :: blk l19 (.loop { r20 with state := .busy }) :: Attrs (.slice x24.p x24.ev.attrs.length x24.c) x24.ev.attrs :: G22) := St.shut_star (ls := [pure' ((pre23 ++ [x24]).map EvD.ev = (Lw.map EvD.ev).take (pre23 ++ [x24]).length ∧ (pre23 ++ [x24]).length ≤ Lw.length), blk bk6 (.cells #[.slice pp1 Lw.length cc2] 49 (0, 0)), blk bk9 (.cells #[.bool false] 4 (0, 0)), blk bk12 (.cells #[.int .i64 ((pre23 ++ [x24]).length : Int)] 3 (0, 0)), Im 5 (.slice pp1 Lw.length cc2) Lw.length (Lw.flatMap evdCell), evA Lw]) (St.shut_pure hst H81)
        have H83 : St W w78 (blk l19 (.loop { r20 with state := .busy }) :: star [pure' ((pre23 ++ [x24]).map EvD.ev = (Lw.map EvD.ev).take (pre23 ++ [x24]).length ∧ (pre23 ++ [x24]).length ≤ Lw.length), blk bk6 (.cells #[.slice pp1 Lw.length cc2] 49 (0, 0)), blk bk9 (.cells #[.bool false] 4 (0, 0)), blk bk12 (.cells #[.int .i64 ((pre23 ++ [x24]).length : Int)] 3 (0, 0)), Im 5 (.slice pp1 Lw.length cc2) Lw.length (Lw.flatMap evdCell), evA Lw] :: G22) := (((((H82.move 4 rfl).drop 2 rfl).drop 2 rfl).drop 2 rfl).drop 2 rfl)
        refine g_round_end hr25 hr26 H83 (i := 0) rfl ?_; intro w84 H85
        exact .inl ⟨rfl, H85⟩
  · intro l J Jx B w H hY; exact Streams_All1 g l evs J Jx hne hnl (i := i + 1) (by exact hi) hY H
  · intro D86 L87 w88 hS89 H90
    have H92 : St W w88 (star [pure' (L87.map EvD.ev = (Lw.map EvD.ev).take L87.length ∧ L87.length ≤ Lw.length), blk bk6 (.cells #[.slice pp1 Lw.length cc2] 49 (0, 0)), blk bk9 (.cells #[.bool false] 4 (0, 0)), blk bk12 (.cells #[.int .i64 (L87.length : Int)] 3 (0, 0)), Im 5 (.slice pp1 Lw.length cc2) Lw.length (Lw.flatMap evdCell), evA Lw] :: blk D86 (.deferred (some [])) :: F) := H90
    obtain ⟨hpre93, H94⟩ := St.open_pure (St.open_star H92)
    obtain ⟨n95, hn96⟩ : ∃ n : Nat, n = L87.length := ⟨_, rfl⟩
    have H97 : St W w88 (blk bk6 (.cells #[.slice pp1 Lw.length cc2] 49 (0, 0)) :: blk bk9 (.cells #[.bool false] 4 (0, 0)) :: blk bk12 (.cells #[.int .i64 (n95 : Int)] 3 (0, 0)) :: Im 5 (.slice pp1 Lw.length cc2) Lw.length (Lw.flatMap evdCell) :: evA Lw :: blk D86 (.deferred (some [])) :: F) := by rw [hn96]; exact H94
    refine g_inBlock ?_
    refine g_seq ?_
    refine g_region ?_
    refine r_cons (s_load (.int .i64 (n95 : Int)) ag_3 rfl (H97.blk_at (i := 2) rfl) rfl rfl ?_)
    refine r_cons (s_load (.slice pp1 Lw.length cc2) ag_49 rfl (H97.blk_at (i := 0) rfl) rfl rfl ?_)
    refine r_cons (s_len Lw.length rfl ⟨_, un_49⟩ rfl ?_)
    refine r_cons (s_eql (decide ((n95 : Int) = (Lw.length : Int))) rfl rfl rfl rfl ?_)
    refine r_cons (s_store H97 1 (.bool (decide ((n95 : Int) = (Lw.length : Int)))) rfl rfl rfl sz_4 rfl (Nat.le_of_ble_eq_true rfl) rfl (cs' := #[.bool (decide ((n95 : Int) = (Lw.length : Int)))]) rfl ?_); intro w98 H99
    refine r_nil ?_
    obtain ⟨hd100, H101⟩ := H99.collect (i := 5) rfl
    refine g_retD _ [.bool (decide ((n95 : Int) = (Lw.length : Int)))] Try.func33 Try.results33 rfl ⟨hd100, trivial⟩ ⟨(res_cell1 rfl ag_4 (H101.blk_at (i := 1) rfl) rfl), trivial⟩ ?_
    have H102 : St W (w98.putObj D86 (.deferred none)) F := (((((H101.drop 0 rfl).drop 0 rfl).drop 0 rfl).drop 0 rfl).drop 0 rfl)
    exact ⟨congrArg Value.bool (told_end hS89 hpre93.1 hpre93.2 hn96), H102⟩
  · intro D103 c108 L104 w105 hS106 H107
    have H109 : St W w105 (star [pure' (c108 = .ret ∧ ¬ L104.map EvD.ev <+: (Lw.map EvD.ev)), blk bk9 (.cells #[.bool false] 4 (0, 0))] :: blk D103 (.deferred (some [])) :: F) := H107
    obtain ⟨⟨hc110, hno111⟩, H112⟩ := St.open_pure (St.open_star H109)
    subst hc110
    have H113 : St W w105 (blk bk9 (.cells #[.bool false] 4 (0, 0)) :: blk D103 (.deferred (some [])) :: F) := H112
    obtain ⟨hd114, H115⟩ := H113.collect (i := 1) rfl
    refine g_retD _ [.bool false] Try.func33 Try.results33 rfl ⟨hd114, trivial⟩ ⟨(res_cell1 rfl ag_4 (H115.blk_at (i := 0) rfl) rfl), trivial⟩ ?_
    have H116 : St W (w105.putObj D103 (.deferred none)) F := (H115.drop 0 rfl)
    exact ⟨congrArg Value.bool ((told_stop hS106 hno111).symm), H116⟩
set_option maxHeartbeats 4000000 in
set_option maxRecDepth 100000 in
theorem clone_attrs_own {W w : World} {F : List Atom} (ats : List AttrV) (av : Value) (hb : ats.length * 48 ≤ 140737488355328) {j : Nat} (hj : F[j]? = some (Attrs av ats)) (H : St W w F) : Calls Try.prog 70 #[av] w (Ret fun v w' => ∃ p c, v = .slice p ats.length c ∧ St W w' (Row 91 4 (.slice p ats.length c) ats.length (ats.flatMap attrCell) :: F)) := by
  obtain ⟨pA1, cA2, gA3, oA4, kA5, eA6, zA7, rfl, hn8, hp9, hx10, hs11, hml, H12⟩ := Im.open_ H hj
  have H13 := H.dup hj (Attrs_pers _ _)
  refine calls_of_go (n := 8) Try.func70 rfl Try.ntmps70 rfl ?_
  refine g_seq ?_
  refine g_region ?_
  refine r_cons (s_assign (.slice none 0 0) rfl rfl ?_)
  refine r_nil ?_
  refine g_seq ?_
  refine g_seq ?_
  refine g_region ?_
  refine r_cons (s_move (.slice pA1 ats.length cA2) rfl rfl ?_)
  by_cases hc14 : pA1 = none
  · skip
    refine r_cons (s_sleql true un_31 rfl rfl (isNone_t hc14) rfl ?_)
    refine r_nil ?_
    refine g_true rfl ?_
    refine g_seq ?_
    refine g_region ?_
    refine r_cons (s_assign (.slice none 0 0) rfl rfl ?_)
    refine r_nil ?_
    refine g_ret' [.slice none 0 0] Try.func70 Try.results70 ⟨rfl, trivial⟩ ?_
    have H15 : St W w F := (H13.drop 0 rfl)
    obtain rfl : ats = [] := List.eq_nil_of_length_eq_zero (by have := hn8 ‹_›; omega)
    exact ⟨none, 0, rfl, Row.nil_intro H15 91 4⟩
  · skip
    refine r_cons (s_sleql false un_31 rfl rfl (isNone_f hc14) rfl ?_)
    refine r_nil ?_
    refine g_false rfl ?_
    refine g_skip ?_
    refine g_seq ?_
    refine g_region ?_
    refine r_cons (s_buildSlice0 H13 4 el_31 rfl ?_); intro bk16 w17 H18
    have H19 := Row.of_blk (n := 0) (size := 4) H18 (i := 0) rfl (by unfold maxLen; omega) (by simp) (by simp)
    refine r_cons (s_move (.slice pA1 ats.length cA2) rfl rfl ?_)
    refine r_cons (s_append H19 0 rfl rfl rfl (Im.rd H19 (i := 1) rfl) ap_31 (by decide) (by unfold maxLen; omega) (by omega) (n' := ats.length) (xs' := ats.flatMap attrCell) (by omega) (by first | rfl | simp) rfl ?_); intro vv20 w21 H22 hn23
    obtain ⟨pp24, cc25, rfl⟩ := Row.slice H22 (i := 0) rfl
    refine r_cons (s_assign (.slice pp24 ats.length cc25) rfl rfl ?_)
    refine r_nil ?_
    refine g_ret' [.slice pp24 ats.length cc25] Try.func70 Try.results70 ⟨rfl, trivial⟩ ?_
    have H26 : St W w21 (Row 91 4 (.slice pp24 ats.length cc25) ats.length (ats.flatMap attrCell) :: F) := (H22.drop 1 rfl)
    exact ⟨_, _, rfl, H26⟩
set_option maxHeartbeats 4000000 in
set_option maxRecDepth 100000 in
theorem event_Clone_own {W w : World} {F : List Atom} (e : EvM) (av : Value) (hb : e.attrs.length * 48 ≤ 140737488355328) {j : Nat} (hj : F[j]? = some (Attrs av e.attrs)) (H : St W w F) : Calls Try.prog 23 #[.agg #[.int .i64 e.src.v, .int .i64 e.seq.v, .int .i64 e.time.v, .string e.typ.v, av]] w (Ret fun v w' => ∃ p c, v = .agg #[.int .i64 e.src.v, .int .i64 e.seq.v, .int .i64 e.time.v, .string e.typ.v, .slice p e.attrs.length c] ∧ St W w' (Row 91 4 (.slice p e.attrs.length c) e.attrs.length (e.attrs.flatMap attrCell) :: F)) := by
  replace H := H.dup hj (Attrs_pers _ _)
  refine calls_of_go (n := 8) Try.func23 rfl Try.ntmps23 rfl ?_
  refine g_seq ?_
  refine g_region ?_
  refine r_cons (s_box H 33 (.agg #[.int .i64 e.src.v, .int .i64 e.seq.v, .int .i64 e.time.v, .string e.typ.v, av]) rfl (cs := #[.int .i64 e.src.v, .int .i64 e.seq.v, .int .i64 e.time.v, .string e.typ.v, av]) rfl rfl ?_); intro bk1 w2 H3
  refine r_cons (s_alloc H3 33 ze_33 rfl ?_); intro bk4 w5 H6
  refine r_nil ?_
  refine g_seq ?_
  refine g_region ?_
  refine r_cons (s_fieldAddr 33 3 4 4 31 rfl fi_33_3 rfl rfl ?_)
  refine r_cons (s_load (av) ag_31 rfl (H6.blk_at (i := 1) rfl) rfl rfl ?_)
  refine r_cons (s_call [av] pl_70 rfl rfl (clone_attrs_own e.attrs av (by omega) (j := 2) rfl H6) ?_)
  rintro _ w9 ⟨pp7, cc8, rfl, H10⟩
  refine r_cons (s_fieldAddr 33 3 4 4 31 rfl fi_33_3 rfl rfl ?_)
  refine r_cons (s_store H10 2 (.slice pp7 e.attrs.length cc8) rfl rfl rfl sz_31 rfl (Nat.le_of_ble_eq_true rfl) rfl (cs' := #[.int .i64 e.src.v, .int .i64 e.seq.v, .int .i64 e.time.v, .string e.typ.v, .slice pp7 e.attrs.length cc8]) rfl ?_); intro w11 H12
  refine r_nil ?_
  refine g_seq ?_
  refine g_region ?_
  refine r_cons (s_loadAgg [.int .i64 e.src.v, .int .i64 e.seq.v, .int .i64 e.time.v, .string e.typ.v, .slice pp7 e.attrs.length cc8] 5 ag_33 rfl (H12.blk_at (i := 2) rfl) (Nat.le_of_ble_eq_true rfl) rfl rfl ?_)
  refine r_cons (s_storeAgg H12 1 #[.int .i64 e.src.v, .int .i64 e.seq.v, .int .i64 e.time.v, .string e.typ.v, .slice pp7 e.attrs.length cc8] 5 rfl rfl rfl sz_33 rfl (by simp [Value.oneCell']) (Nat.le_of_ble_eq_true rfl) (fun o h1 h2 => by first | (simp; done) | (simp; omega)) (cs' := #[.int .i64 e.src.v, .int .i64 e.seq.v, .int .i64 e.time.v, .string e.typ.v, .slice pp7 e.attrs.length cc8]) rfl ?_); intro w13 H14
  refine r_nil ?_
  refine g_ret' [.agg #[.int .i64 e.src.v, .int .i64 e.seq.v, .int .i64 e.time.v, .string e.typ.v, .slice pp7 e.attrs.length cc8]] Try.func23 Try.results23 ⟨(res_cellN rfl ag_33 (H14.blk_at (i := 1) rfl) (Nat.le_of_ble_eq_true rfl) rfl), trivial⟩ ?_
  have H15 : St W w13 (Row 91 4 (.slice pp7 e.attrs.length cc8) e.attrs.length (e.attrs.flatMap attrCell) :: F) := (((H14.drop 1 rfl).drop 1 rfl).drop 1 rfl)
  exact ⟨_, _, rfl, H15⟩
theorem event_Clone_lent {W w : World} {F : List Atom} (e : EvM) (q : Option Addr) (d : Nat) (hb : e.attrs.length * 48 ≤ 140737488355328) {j : Nat} (hj : F[j]? = some (Row 91 4 (.slice q e.attrs.length d) e.attrs.length (e.attrs.flatMap attrCell))) (H : St W w F) : Calls Try.prog 23 #[.agg #[.int .i64 e.src.v, .int .i64 e.seq.v, .int .i64 e.time.v, .string e.typ.v, .slice q e.attrs.length d]] w (Ret fun v w' => ∃ p c, v = .agg #[.int .i64 e.src.v, .int .i64 e.seq.v, .int .i64 e.time.v, .string e.typ.v, .slice p e.attrs.length c] ∧ St W w' (Row 91 4 (.slice p e.attrs.length c) e.attrs.length (e.attrs.flatMap attrCell) :: F)) := by
  refine (attrs_lend (α := Option Addr × Nat) (q := fun x v => v = .agg #[.int .i64 e.src.v, .int .i64 e.seq.v, .int .i64 e.time.v, .string e.typ.v, .slice x.1 e.attrs.length x.2]) (X := fun x => Row 91 4 (.slice x.1 e.attrs.length x.2) e.attrs.length (e.attrs.flatMap attrCell)) (fun _ => Row_solid _ _ _ _ _) hj H fun G h0 HG => (event_Clone_own e _ hb (j := 0) h0 HG).mono fun e w' hh => ?_).mono fun e w' hh => ?_
  · cases e with
    | returned v => obtain ⟨p, c, hv, H3⟩ := hh; exact ⟨(p, c), hv, H3⟩
    | _ => exact hh.elim
  · cases e with
    | returned v => obtain ⟨x, hv, H3⟩ := hh; exact ⟨x.1, x.2, hv, H3⟩
    | _ => exact hh.elim
set_option maxHeartbeats 4000000 in
set_option maxRecDepth 100000 in
theorem ref04_Clone_own {W w : World} {F : List Atom} (e : EvM) (av : Value) (hb : e.attrs.length * 48 ≤ 140737488355328) {j : Nat} (hj : F[j]? = some (Attrs av e.attrs)) (H : St W w F) : Calls Try.prog 55 #[.agg #[.int .i64 e.src.v, .int .i64 e.seq.v, .int .i64 e.time.v, .string e.typ.v, av]] w (Ret fun v w' => ∃ p c, v = .agg #[.int .i64 e.src.v, .int .i64 e.seq.v, .int .i64 e.time.v, .string e.typ.v, .slice p e.attrs.length c] ∧ St W w' (Row 91 4 (.slice p e.attrs.length c) e.attrs.length (e.attrs.flatMap attrCell) :: F)) := by
  replace H := H.dup hj (Attrs_pers _ _)
  refine calls_of_go (n := 8) Try.func55 rfl Try.ntmps55 rfl ?_
  refine g_seq ?_
  refine g_region ?_
  refine r_cons (s_box H 33 (.agg #[.int .i64 e.src.v, .int .i64 e.seq.v, .int .i64 e.time.v, .string e.typ.v, av]) rfl (cs := #[.int .i64 e.src.v, .int .i64 e.seq.v, .int .i64 e.time.v, .string e.typ.v, av]) rfl rfl ?_); intro bk1 w2 H3
  refine r_cons (s_alloc H3 33 ze_33 rfl ?_); intro bk4 w5 H6
  refine r_nil ?_
  refine g_seq ?_
  refine g_region ?_
  refine r_cons (s_fieldAddr 33 3 4 4 31 rfl fi_33_3 rfl rfl ?_)
  refine r_cons (s_load (av) ag_31 rfl (H6.blk_at (i := 1) rfl) rfl rfl ?_)
  have H7 := Row.nil_intro H6 91 4
  refine r_cons (s_append H7 0 rfl rfl rfl (Im.rd H7 (i := 3) rfl) ap_31 (by decide) (by unfold maxLen; omega) (by omega) (n' := e.attrs.length) (xs' := e.attrs.flatMap attrCell) (by omega) (by first | rfl | simp) rfl ?_); intro vv8 w9 H10 hn11
  obtain ⟨pp12, cc13, rfl⟩ := Row.slice H10 (i := 0) rfl
  refine r_cons (s_fieldAddr 33 3 4 4 31 rfl fi_33_3 rfl rfl ?_)
  refine r_cons (s_store H10 2 (.slice pp12 e.attrs.length cc13) rfl rfl rfl sz_31 rfl (Nat.le_of_ble_eq_true rfl) rfl (cs' := #[.int .i64 e.src.v, .int .i64 e.seq.v, .int .i64 e.time.v, .string e.typ.v, .slice pp12 e.attrs.length cc13]) rfl ?_); intro w14 H15
  refine r_nil ?_
  refine g_seq ?_
  refine g_region ?_
  refine r_cons (s_loadAgg [.int .i64 e.src.v, .int .i64 e.seq.v, .int .i64 e.time.v, .string e.typ.v, .slice pp12 e.attrs.length cc13] 5 ag_33 rfl (H15.blk_at (i := 2) rfl) (Nat.le_of_ble_eq_true rfl) rfl rfl ?_)
  refine r_cons (s_storeAgg H15 1 #[.int .i64 e.src.v, .int .i64 e.seq.v, .int .i64 e.time.v, .string e.typ.v, .slice pp12 e.attrs.length cc13] 5 rfl rfl rfl sz_33 rfl (by simp [Value.oneCell']) (Nat.le_of_ble_eq_true rfl) (fun o h1 h2 => by first | (simp; done) | (simp; omega)) (cs' := #[.int .i64 e.src.v, .int .i64 e.seq.v, .int .i64 e.time.v, .string e.typ.v, .slice pp12 e.attrs.length cc13]) rfl ?_); intro w16 H17
  refine r_nil ?_
  refine g_ret' [.agg #[.int .i64 e.src.v, .int .i64 e.seq.v, .int .i64 e.time.v, .string e.typ.v, .slice pp12 e.attrs.length cc13]] Try.func55 Try.results55 ⟨(res_cellN rfl ag_33 (H17.blk_at (i := 1) rfl) (Nat.le_of_ble_eq_true rfl) rfl), trivial⟩ ?_
  have H18 : St W w16 (Row 91 4 (.slice pp12 e.attrs.length cc13) e.attrs.length (e.attrs.flatMap attrCell) :: F) := (((H17.drop 1 rfl).drop 1 rfl).drop 1 rfl)
  exact ⟨_, _, rfl, H18⟩
theorem ref04_Clone_lent {W w : World} {F : List Atom} (e : EvM) (q : Option Addr) (d : Nat) (hb : e.attrs.length * 48 ≤ 140737488355328) {j : Nat} (hj : F[j]? = some (Row 91 4 (.slice q e.attrs.length d) e.attrs.length (e.attrs.flatMap attrCell))) (H : St W w F) : Calls Try.prog 55 #[.agg #[.int .i64 e.src.v, .int .i64 e.seq.v, .int .i64 e.time.v, .string e.typ.v, .slice q e.attrs.length d]] w (Ret fun v w' => ∃ p c, v = .agg #[.int .i64 e.src.v, .int .i64 e.seq.v, .int .i64 e.time.v, .string e.typ.v, .slice p e.attrs.length c] ∧ St W w' (Row 91 4 (.slice p e.attrs.length c) e.attrs.length (e.attrs.flatMap attrCell) :: F)) := by
  refine (attrs_lend (α := Option Addr × Nat) (q := fun x v => v = .agg #[.int .i64 e.src.v, .int .i64 e.seq.v, .int .i64 e.time.v, .string e.typ.v, .slice x.1 e.attrs.length x.2]) (X := fun x => Row 91 4 (.slice x.1 e.attrs.length x.2) e.attrs.length (e.attrs.flatMap attrCell)) (fun _ => Row_solid _ _ _ _ _) hj H fun G h0 HG => (ref04_Clone_own e _ hb (j := 0) h0 HG).mono fun e w' hh => ?_).mono fun e w' hh => ?_
  · cases e with
    | returned v => obtain ⟨p, c, hv, H3⟩ := hh; exact ⟨(p, c), hv, H3⟩
    | _ => exact hh.elim
  · cases e with
    | returned v => obtain ⟨x, hv, H3⟩ := hh; exact ⟨x.1, x.2, hv, H3⟩
    | _ => exact hh.elim
theorem event_Check_lent {W w : World} {F : List Atom} (e : EvM) (q : Option Addr) (d : Nat) {j : Nat} (hj : F[j]? = some (Row 91 4 (.slice q e.attrs.length d) e.attrs.length (e.attrs.flatMap attrCell))) (H : St W w F) : Calls Try.prog 17 #[.agg #[.int .i64 e.src.v, .int .i64 e.seq.v, .int .i64 e.time.v, .string e.typ.v, .slice q e.attrs.length d]] w (Ret fun v w' => v = .int .i64 (evE e) ∧ St W w' F) := attrs_lend0 (q := fun v => v = .int .i64 (evE e)) hj H fun G h0 HG => event_Check e _ (j := 0) h0 HG
set_option maxHeartbeats 4000000 in
set_option maxRecDepth 100000 in
theorem Streams_Accept_own {W w : World} {F : List Atom} (b : Nat) (many : Int) (st : List S3) (evs : List EvM) (e : EvM) (q : Option Addr) (d : Nat) (H : St W w (Streams b many st evs :: Row 91 4 (.slice q e.attrs.length d) e.attrs.length (e.attrs.flatMap attrCell) :: F)) : Calls Try.prog 16 #[.pointer (some ⟨b, 0, none⟩), .agg #[.int .i64 e.src.v, .int .i64 e.seq.v, .int .i64 e.time.v, .string e.typ.v, .slice q e.attrs.length d]] w (Ret fun v w' => v = .int .i64 (acceptE many st evs.length e) ∧ St W w' (Streams b many (accSt many st evs e) (accEvs many st evs e) :: Row 91 4 (.slice q e.attrs.length d) e.attrs.length (e.attrs.flatMap attrCell) :: F)) := by
  refine calls_of_go (n := 75) Try.func16 rfl Try.ntmps16 rfl ?_
  refine g_seq ?_
  refine g_region ?_
  refine r_cons (s_box H 33 (.agg #[.int .i64 e.src.v, .int .i64 e.seq.v, .int .i64 e.time.v, .string e.typ.v, .slice q e.attrs.length d]) rfl (cs := #[.int .i64 e.src.v, .int .i64 e.seq.v, .int .i64 e.time.v, .string e.typ.v, .slice q e.attrs.length d]) rfl rfl ?_); intro bk1 w2 H3
  refine r_cons (s_assign (.int .i64 0) rfl rfl ?_)
  refine r_nil ?_
  refine g_seq ?_
  refine g_seq ?_
  refine g_region ?_
  refine r_cons (s_move (.pointer (some ⟨b, 0, none⟩)) rfl rfl ?_)
  refine r_cons (s_call [.pointer (some ⟨b, 0, none⟩)] pl_58 rfl rfl (Streams_none b many st evs  (i := 1) rfl H3) ?_)
  rintro _ w4 ⟨rfl, H5⟩
  refine r_nil ?_
  refine g_false rfl ?_
  refine g_skip ?_
  refine g_seq ?_
  refine g_seq ?_
  refine g_region ?_
  refine r_cons (s_loadAgg [.int .i64 e.src.v, .int .i64 e.seq.v, .int .i64 e.time.v, .string e.typ.v, .slice q e.attrs.length d] 5 ag_33 rfl (H5.blk_at (i := 0) rfl) (Nat.le_of_ble_eq_true rfl) rfl rfl ?_)
  refine r_cons (s_call [.agg #[.int .i64 e.src.v, .int .i64 e.seq.v, .int .i64 e.time.v, .string e.typ.v, .slice q e.attrs.length d]] pl_17 rfl rfl (event_Check_lent e q d (j := 2) rfl H5) ?_)
  rintro _ w6 ⟨rfl, H7⟩
  refine r_cons (s_assign (.int .i64 (evE e)) rfl rfl ?_)
  refine r_nil ?_
  refine g_seq ?_
  refine g_region ?_
  refine r_cons (s_move (.int .i64 (evE e)) rfl rfl ?_)
  by_cases hc8 : evE e = 0
  · skip
    refine r_cons (s_neq false rfl rfl (ntrue hc8) rfl ?_)
    refine r_nil ?_
    refine g_false rfl ?_
    refine g_skip ?_
    refine g_seq ?_
    refine g_region ?_
    have hr := evE_range ‹evE e = 0›
    have hl := attrsE_len hr.2.2.2.2.2
    have hq := timeB_range hr.2.2.1
    have hr1 := hr.1
    have hr2 := hr.2.1
    clear hr
    refine r_cons (s_move (.pointer (some ⟨b, 0, none⟩)) rfl rfl ?_)
    refine r_cons (s_fieldAddr 33 0 0 0 30 rfl fi_33_0 rfl rfl ?_)
    refine r_cons (s_fieldAddr 30 0 0 0 3 rfl fi_30_0 rfl rfl ?_)
    refine r_cons (s_load (.int .i64 e.src.v) ag_3 rfl (H7.blk_at (i := 0) rfl) rfl rfl ?_)
    by_cases hc9 : 0 ≤ e.src.v ∧ e.src.v < many
    · skip
      refine r_cons (s_call [.pointer (some ⟨b, 0, none⟩), .int .i64 e.src.v] pl_57 rfl rfl (Streams_of_in b many st evs e.src.v hc9 (i := 1) rfl H7) ?_)
      rintro _ w10 ⟨rfl, H11⟩
      refine r_cons (s_assign (.pointer (some ⟨b, 1 + e.src.v.toNat * 3, none⟩)) rfl rfl ?_)
      refine r_nil ?_
      refine g_seq ?_
      refine g_block ?_
      refine g_seq ?_
      refine g_region ?_
      refine r_cons (s_move (.pointer (some ⟨b, 1 + e.src.v.toNat * 3, none⟩)) rfl rfl ?_)
      refine r_cons (s_peql false un_100 rfl rfl rfl rfl ?_)
      refine r_cons (s_assign (.bool false) rfl rfl ?_)
      refine r_nil ?_
      refine g_false rfl ?_
      refine g_seq ?_
      refine g_region ?_
      refine r_cons (s_move (.pointer (some ⟨b, 1 + e.src.v.toNat * 3, none⟩)) rfl rfl ?_)
      refine r_cons (s_nilCheck (.pointer (some ⟨b, 1 + e.src.v.toNat * 3, none⟩)) rfl ⟨_, rfl⟩ rfl ?_)
      refine r_cons (s_fieldAddr 93 2 2 (1 + e.src.v.toNat * 3 + 2) 4 rfl fi_93_2 rfl rfl ?_)
      have H12 := H11.move 1 rfl
      obtain ⟨⟨vv13, avs14⟩, H19⟩ := St.open_ex H12
      obtain ⟨⟨h15, hm16, hm17, hav18⟩, H20⟩ := St.open_pure (St.open_star H19)
      dsimp only at hav18 H20
      obtain ⟨pp22, cc23, rfl⟩ := Row.slice (i := 1) H20 rfl
      have H24 : St W w10 (blk b (.cells (stCells many st (.slice pp22 evs.length cc23)) 96 (0, 0)) :: Row 33 5 (.slice pp22 evs.length cc23) evs.length (evRow evs avs14) :: star (evIms evs avs14) :: blk bk1 (.cells #[.int .i64 e.src.v, .int .i64 e.seq.v, .int .i64 e.time.v, .string e.typ.v, .slice q e.attrs.length d] 33 (0, 0)) :: Row 91 4 (.slice q e.attrs.length d) e.attrs.length (e.attrs.flatMap attrCell) :: F) := H20
      refine r_cons (s_load (.bool ((st.getD e.src.v.toNat default).closed)) ag_4 rfl (H24.blk_at (i := 0) rfl) (elem_cell (L := st) (i := e.src.v.toNat) s3Cell_len (st_hx _ _ _) (by omega) default 2 (by decide) _ rfl) rfl ?_)
      refine r_cons (s_assign (.bool ((st.getD e.src.v.toNat default).closed)) rfl rfl ?_)
      refine r_nil ?_
      by_cases hb25 : ((st.getD e.src.v.toNat default).closed) = true
      · skip
        refine g_true (congrArg Value.bool hb25) ?_
        refine g_seq ?_
        refine g_region ?_
        refine r_cons (s_assign (.int .i64 43) rfl rfl ?_)
        refine r_nil ?_
        refine g_ret' [.int .i64 43] Try.func16 Try.results16 ⟨rfl, trivial⟩ ?_
        have H26 : St W w10 (Streams b many st evs :: blk bk1 (.cells #[.int .i64 e.src.v, .int .i64 e.seq.v, .int .i64 e.time.v, .string e.typ.v, .slice q e.attrs.length d] 33 (0, 0)) :: Row 91 4 (.slice q e.attrs.length d) e.attrs.length (e.attrs.flatMap attrCell) :: F) := St.shut_ex (.slice pp22 evs.length cc23, avs14) (St.shut_star (ls := [pure' (st.length = 16 ∧ 1 ≤ many ∧ many ≤ 16 ∧ (avs14).length = (evs).length), blk b (.cells (stCells many st (.slice pp22 evs.length cc23)) 96 (0, 0)), Row 33 5 (.slice pp22 evs.length cc23) evs.length (evRow evs avs14), star (evIms evs avs14)]) (St.shut_pure ⟨h15, hm16, hm17, hav18⟩ H24))
        have H27 : St W w10 (Streams b many st evs :: Row 91 4 (.slice q e.attrs.length d) e.attrs.length (e.attrs.flatMap attrCell) :: F) := (((H26.move 2 rfl).move 1 rfl).drop 2 rfl)
        have hA : acceptE many st evs.length e = 43 := by first | exact acceptE_1 ‹_› | exact acceptE_2 ‹_› ‹_› | exact acceptE_3 ‹_› ‹_› ‹_› | exact acceptE_4 ‹_› ‹_› ‹_› ‹_› | exact acceptE_5 ‹_› ‹_› ‹_› ‹_› ‹_› | exact acceptE_6 ‹_› ‹_› ‹_› ‹_› ‹_› ‹_›
        have hB : ¬ acceptE many st evs.length e = 0 := by rw [hA]; first | assumption | decide
        exact ⟨vint hA.symm, by rw [(accSt_no hB).1, (accSt_no hB).2]; exact H27⟩
      · have hb25 := eq_false_of_ne_true hb25
        refine g_false (congrArg Value.bool hb25) ?_
        refine g_seq ?_
        refine g_quiet (fun w' => St W w' (blk b (.cells (stCells many st (.slice pp22 evs.length cc23)) 96 (0, 0)) :: Row 33 5 (.slice pp22 evs.length cc23) evs.length (evRow evs avs14) :: star (evIms evs avs14) :: blk bk1 (.cells #[.int .i64 e.src.v, .int .i64 e.seq.v, .int .i64 e.time.v, .string e.typ.v, .slice q e.attrs.length d] 33 (0, 0)) :: Row 91 4 (.slice q e.attrs.length d) e.attrs.length (e.attrs.flatMap attrCell) :: F)) mixed (by kernel_rfl) H24.drew ?_
        refine q_cons (q_val rfl rfl rfl (by intro w hw; exact x_fieldAddr 33 0 0 0 30 rfl fi_33_0 rfl w) ?_)
        refine q_cons (q_val rfl rfl rfl (by intro w hw; exact x_fieldAddr 30 1 1 1 2 rfl fi_30_1 rfl w) ?_)
        refine q_cons (q_val rfl rfl rfl (by intro w hw; exact x_load (.int .i64 e.seq.v) ag_2 rfl (hw.blk_at (i := 3) rfl) rfl) ?_)
        refine q_cons (q_val rfl rfl rfl (by intro w hw; exact x_move (.pointer (some ⟨b, 1 + e.src.v.toNat * 3, none⟩)) rfl w) ?_)
        refine q_cons (q_val rfl rfl rfl (by intro w hw; exact x_nilCheck (.pointer (some ⟨b, 1 + e.src.v.toNat * 3, none⟩)) rfl ⟨_, rfl⟩ w) ?_)
        refine q_cons (q_val rfl rfl rfl (by intro w hw; exact x_fieldAddr 93 0 0 (1 + e.src.v.toNat * 3) 2 rfl fi_93_0 rfl w) ?_)
        refine q_cons (q_val rfl rfl rfl (by intro w hw; exact x_load (.int .i64 ((st.getD e.src.v.toNat default).next)) ag_2 rfl (hw.blk_at (i := 0) rfl) (elem_cell (L := st) (i := e.src.v.toNat) s3Cell_len (st_hx _ _ _) (by omega) default 0 (by decide) _ rfl)) ?_)
        by_cases hc28 : e.seq.v = (st.getD e.src.v.toNat default).next
        · skip
          refine q_cons (q_val rfl rfl rfl (by intro w hw; exact x_neq false rfl rfl (ntrue hc28) w) ?_)
          refine q_cons (q_val rfl rfl rfl (by intro w hw; exact x_assign (.bool false) rfl w) ?_)
          refine q_nil ?_
          intro w29 H30
          refine g_false rfl ?_
          refine g_seq ?_
          refine g_quiet (fun w' => St W w' (blk b (.cells (stCells many st (.slice pp22 evs.length cc23)) 96 (0, 0)) :: Row 33 5 (.slice pp22 evs.length cc23) evs.length (evRow evs avs14) :: star (evIms evs avs14) :: blk bk1 (.cells #[.int .i64 e.src.v, .int .i64 e.seq.v, .int .i64 e.time.v, .string e.typ.v, .slice q e.attrs.length d] 33 (0, 0)) :: Row 91 4 (.slice q e.attrs.length d) e.attrs.length (e.attrs.flatMap attrCell) :: F)) mixed (by kernel_rfl) H30.drew ?_
          refine q_cons (q_val rfl rfl rfl (by intro w hw; exact x_fieldAddr 33 1 2 2 2 rfl fi_33_1 rfl w) ?_)
          refine q_cons (q_val rfl rfl rfl (by intro w hw; exact x_load (.int .i64 e.time.v) ag_2 rfl (hw.blk_at (i := 3) rfl) rfl) ?_)
          refine q_cons (q_val rfl rfl rfl (by intro w hw; exact x_move (.pointer (some ⟨b, 1 + e.src.v.toNat * 3, none⟩)) rfl w) ?_)
          refine q_cons (q_val rfl rfl rfl (by intro w hw; exact x_nilCheck (.pointer (some ⟨b, 1 + e.src.v.toNat * 3, none⟩)) rfl ⟨_, rfl⟩ w) ?_)
          refine q_cons (q_val rfl rfl rfl (by intro w hw; exact x_fieldAddr 93 1 1 (1 + e.src.v.toNat * 3 + 1) 2 rfl fi_93_1 rfl w) ?_)
          refine q_cons (q_val rfl rfl rfl (by intro w hw; exact x_load (.int .i64 ((st.getD e.src.v.toNat default).last)) ag_2 rfl (hw.blk_at (i := 0) rfl) (elem_cell (L := st) (i := e.src.v.toNat) s3Cell_len (st_hx _ _ _) (by omega) default 1 (by decide) _ rfl)) ?_)
          by_cases hc31 : e.time.v < (st.getD e.src.v.toNat default).last
          · skip
            refine q_cons (q_val rfl rfl rfl (by intro w hw; exact x_lss true rfl rfl (dtrue hc31) w) ?_)
            refine q_cons (q_val rfl rfl rfl (by intro w hw; exact x_assign (.bool true) rfl w) ?_)
            refine q_nil ?_
            intro w32 H33
            refine g_true rfl ?_
            refine g_seq ?_
            refine g_region ?_
            refine r_cons (s_assign (.int .i64 41) rfl rfl ?_)
            refine r_nil ?_
            refine g_ret' [.int .i64 41] Try.func16 Try.results16 ⟨rfl, trivial⟩ ?_
            have H34 : St W w32 (Streams b many st evs :: blk bk1 (.cells #[.int .i64 e.src.v, .int .i64 e.seq.v, .int .i64 e.time.v, .string e.typ.v, .slice q e.attrs.length d] 33 (0, 0)) :: Row 91 4 (.slice q e.attrs.length d) e.attrs.length (e.attrs.flatMap attrCell) :: F) := St.shut_ex (.slice pp22 evs.length cc23, avs14) (St.shut_star (ls := [pure' (st.length = 16 ∧ 1 ≤ many ∧ many ≤ 16 ∧ (avs14).length = (evs).length), blk b (.cells (stCells many st (.slice pp22 evs.length cc23)) 96 (0, 0)), Row 33 5 (.slice pp22 evs.length cc23) evs.length (evRow evs avs14), star (evIms evs avs14)]) (St.shut_pure ⟨h15, hm16, hm17, hav18⟩ H33))
            have H35 : St W w32 (Streams b many st evs :: Row 91 4 (.slice q e.attrs.length d) e.attrs.length (e.attrs.flatMap attrCell) :: F) := (((H34.move 2 rfl).move 1 rfl).drop 2 rfl)
            have hA : acceptE many st evs.length e = 41 := by first | exact acceptE_1 ‹_› | exact acceptE_2 ‹_› ‹_› | exact acceptE_3 ‹_› ‹_› ‹_› | exact acceptE_4 ‹_› ‹_› ‹_› ‹_› | exact acceptE_5 ‹_› ‹_› ‹_› ‹_› ‹_› | exact acceptE_6 ‹_› ‹_› ‹_› ‹_› ‹_› ‹_›
            have hB : ¬ acceptE many st evs.length e = 0 := by rw [hA]; first | assumption | decide
            exact ⟨vint hA.symm, by rw [(accSt_no hB).1, (accSt_no hB).2]; exact H35⟩
          · skip
            refine q_cons (q_val rfl rfl rfl (by intro w hw; exact x_lss false rfl rfl (dfalse hc31) w) ?_)
            refine q_cons (q_val rfl rfl rfl (by intro w hw; exact x_assign (.bool false) rfl w) ?_)
            refine q_nil ?_
            intro w36 H37
            refine g_false rfl ?_
            refine g_seq ?_
            refine g_region ?_
            refine r_cons (s_move (.pointer (some ⟨b, 0, none⟩)) rfl rfl ?_)
            refine r_cons (s_nilCheck (.pointer (some ⟨b, 0, none⟩)) rfl ⟨_, rfl⟩ rfl ?_)
            refine r_cons (s_fieldAddr 96 2 49 49 49 rfl fi_96_2 rfl rfl ?_)
            refine r_cons (s_load (.slice pp22 evs.length cc23) ag_49 rfl (H37.blk_at (i := 0) rfl) (st_all h15 _ _) rfl ?_)
            refine r_cons (s_len evs.length rfl ⟨_, un_49⟩ rfl ?_)
            by_cases hc38 : (65536 : Int) ≤ (evs.length : Int)
            · skip
              refine r_cons (s_geq true rfl rfl (dtrue hc38) rfl ?_)
              refine r_cons (s_assign (.bool true) rfl rfl ?_)
              refine r_nil ?_
              refine g_true rfl ?_
              refine g_seq ?_
              refine g_region ?_
              refine r_cons (s_assign (.int .i64 3) rfl rfl ?_)
              refine r_nil ?_
              refine g_ret' [.int .i64 3] Try.func16 Try.results16 ⟨rfl, trivial⟩ ?_
              have H39 : St W w36 (Streams b many st evs :: blk bk1 (.cells #[.int .i64 e.src.v, .int .i64 e.seq.v, .int .i64 e.time.v, .string e.typ.v, .slice q e.attrs.length d] 33 (0, 0)) :: Row 91 4 (.slice q e.attrs.length d) e.attrs.length (e.attrs.flatMap attrCell) :: F) := St.shut_ex (.slice pp22 evs.length cc23, avs14) (St.shut_star (ls := [pure' (st.length = 16 ∧ 1 ≤ many ∧ many ≤ 16 ∧ (avs14).length = (evs).length), blk b (.cells (stCells many st (.slice pp22 evs.length cc23)) 96 (0, 0)), Row 33 5 (.slice pp22 evs.length cc23) evs.length (evRow evs avs14), star (evIms evs avs14)]) (St.shut_pure ⟨h15, hm16, hm17, hav18⟩ H37))
              have H40 : St W w36 (Streams b many st evs :: Row 91 4 (.slice q e.attrs.length d) e.attrs.length (e.attrs.flatMap attrCell) :: F) := (((H39.move 2 rfl).move 1 rfl).drop 2 rfl)
              have hA : acceptE many st evs.length e = 3 := by first | exact acceptE_1 ‹_› | exact acceptE_2 ‹_› ‹_› | exact acceptE_3 ‹_› ‹_› ‹_› | exact acceptE_4 ‹_› ‹_› ‹_› ‹_› | exact acceptE_5 ‹_› ‹_› ‹_› ‹_› ‹_› | exact acceptE_6 ‹_› ‹_› ‹_› ‹_› ‹_› ‹_›
              have hB : ¬ acceptE many st evs.length e = 0 := by rw [hA]; first | assumption | decide
              exact ⟨vint hA.symm, by rw [(accSt_no hB).1, (accSt_no hB).2]; exact H40⟩
            · skip
              refine r_cons (s_geq false rfl rfl (dfalse hc38) rfl ?_)
              refine r_cons (s_assign (.bool false) rfl rfl ?_)
              refine r_nil ?_
              refine g_false rfl ?_
              refine g_skip ?_
              refine g_inBlock ?_
              refine g_seq ?_
              have H41 : St W w36 (Row 33 5 (.slice pp22 evs.length cc23) evs.length (evRow evs avs14) :: star (evIms evs avs14) :: blk bk1 (.cells #[.int .i64 e.src.v, .int .i64 e.seq.v, .int .i64 e.time.v, .string e.typ.v, .slice q e.attrs.length d] 33 (0, 0)) :: Row 91 4 (.slice q e.attrs.length d) e.attrs.length (e.attrs.flatMap attrCell) :: blk b (.cells (stCells many st (.slice pp22 evs.length cc23)) 96 (0, 0)) :: F) := ((((H37.move 4 rfl).move 4 rfl).move 4 rfl).move 4 rfl)
              refine g_mix (fun t_ w => St W w (Row 33 5 (.slice pp22 evs.length cc23) evs.length (evRow evs avs14) :: star (evIms evs avs14) :: blk bk1 (.cells #[.int .i64 e.src.v, .int .i64 e.seq.v, .int .i64 e.time.v, .string e.typ.v, .slice q e.attrs.length d] 33 (0, 0)) :: Row 91 4 (.slice q e.attrs.length d) e.attrs.length (e.attrs.flatMap attrCell) :: t_)) (blk b (.cells (stCells many st (.slice pp22 evs.length cc23)) 96 (0, 0)) :: F) mixed 15 rfl H41.drew ?_
              refine f_first 0 (listed' := #[true, false, false, false, false, false, false, false, false, false, false, false, false, false, false]) rfl (by kernel_rfl) (by kernel_rfl) (by kernel_rfl) rfl ?_
              refine f_val rfl rfl rfl (by intro t_ w hw; exact x_move (.pointer (some ⟨b, 1 + e.src.v.toNat * 3, none⟩)) rfl w) ?_
              refine f_first 1 (listed' := #[true, true, false, false, false, false, false, false, false, false, false, false, false, false, false]) rfl (by kernel_rfl) (by kernel_rfl) (by kernel_rfl) rfl ?_
              refine f_val rfl rfl rfl (by intro t_ w hw; exact x_move (.pointer (some ⟨b, 1 + e.src.v.toNat * 3, none⟩)) rfl w) ?_
              refine f_first 2 (listed' := #[true, true, true, false, false, false, false, false, false, false, false, false, false, false, false]) rfl (by kernel_rfl) (by kernel_rfl) (by kernel_rfl) rfl ?_
              refine f_val rfl rfl rfl (by intro t_ w hw; exact x_move (.pointer (some ⟨b, 1 + e.src.v.toNat * 3, none⟩)) rfl w) ?_
              refine f_first 3 (listed' := #[true, true, true, true, false, false, false, false, false, false, false, false, false, false, false]) rfl (by kernel_rfl) (by kernel_rfl) (by kernel_rfl) rfl ?_
              refine f_val rfl rfl rfl (by intro t_ w hw; exact x_nilCheck (.pointer (some ⟨b, 1 + e.src.v.toNat * 3, none⟩)) rfl ⟨_, rfl⟩ w) ?_
              refine f_first 4 (listed' := #[true, true, true, true, true, false, false, false, false, false, false, false, false, false, false]) rfl (by kernel_rfl) (by kernel_rfl) (by kernel_rfl) rfl ?_
              refine f_val rfl rfl rfl (by intro t_ w hw; exact x_fieldAddr 93 0 0 (1 + e.src.v.toNat * 3) 2 rfl fi_93_0 rfl w) ?_
              refine f_first 7 (listed' := #[true, true, true, true, true, false, false, true, false, false, false, false, false, false, false]) rfl (by kernel_rfl) (by kernel_rfl) (by kernel_rfl) rfl ?_
              refine f_val rfl rfl rfl (by intro t_ w hw; exact x_fieldAddr 33 1 2 2 2 rfl fi_33_1 rfl w) ?_
              refine f_first 8 (listed' := #[true, true, true, true, true, false, false, true, true, false, false, false, false, false, false]) rfl (by kernel_rfl) (by kernel_rfl) (by kernel_rfl) rfl ?_
              refine f_val rfl rfl rfl (by intro t_ w hw; exact x_load (.int .i64 e.time.v) ag_2 rfl (hw.blk_at (i := 2) rfl) rfl) ?_
              refine f_all (rs := [5]) (by kernel_rfl) (by simp) ?_
              refine a_cons ⟨_, rfl, ?_⟩ (fun x hx => absurd hx (by simp))
              intro w42 H43
              try dsimp only at H43
              refine s_load (.int .i64 ((st.getD e.src.v.toNat default).next)) ag_2 rfl (H43.blk_at (i := 4) rfl) (elem_cell (L := st) (i := e.src.v.toNat) s3Cell_len (st_hx _ _ _) (by omega) default 0 (by decide) _ rfl) rfl ?_
              refine ⟨blk b (.cells (stCells many st (.slice pp22 evs.length cc23)) 96 (0, 0)) :: F, ?_, H43⟩
              change FReg _ _ _ _ _ #[true, true, true, true, true, true, false, true, true, false, false, false, false, false, false] _ _
              refine f_first 6 (listed' := #[true, true, true, true, true, true, true, true, true, false, false, false, false, false, false]) rfl (by kernel_rfl) (by kernel_rfl) (by kernel_rfl) rfl ?_
              refine f_val rfl rfl rfl (by intro t_ w hw; exact x_add ((st.getD e.src.v.toNat default).next + 1) rfl rfl (wi64 (by omega)) w) ?_
              refine f_first 9 (listed' := #[true, true, true, true, true, true, true, true, true, true, false, false, false, false, false]) rfl (by kernel_rfl) (by kernel_rfl) (by kernel_rfl) rfl ?_
              refine f_val rfl rfl rfl (by intro t_ w hw; exact x_nilCheck (.pointer (some ⟨b, 1 + e.src.v.toNat * 3, none⟩)) rfl ⟨_, rfl⟩ w) ?_
              refine f_first 10 (listed' := #[true, true, true, true, true, true, true, true, true, true, true, false, false, false, false]) rfl (by kernel_rfl) (by kernel_rfl) (by kernel_rfl) rfl ?_
              refine f_val rfl rfl rfl (by intro t_ w hw; exact x_fieldAddr 93 0 0 (1 + e.src.v.toNat * 3) 2 rfl fi_93_0 rfl w) ?_
              refine f_all (rs := [11]) (by kernel_rfl) (by simp) ?_
              refine a_cons ⟨_, rfl, ?_⟩ (fun x hx => absurd hx (by simp))
              intro w44 H45
              try dsimp only at H45
              refine s_store H45 4 (.int .i64 ((st.getD e.src.v.toNat default).next + 1)) rfl rfl rfl sz_2 rfl (by rw [st_size, h15]; omega) rfl (st_set (by rw [h15]; omega) 0 (by decide) _ _ _ ⟨(st.getD e.src.v.toNat default).next + 1, (st.getD e.src.v.toNat default).last, (st.getD e.src.v.toNat default).closed⟩ rfl) ?_; intro w46 H47
              refine ⟨blk b (.cells (stCells many (st.set e.src.v.toNat ⟨(st.getD e.src.v.toNat default).next + 1, (st.getD e.src.v.toNat default).last, (st.getD e.src.v.toNat default).closed⟩) (.slice pp22 evs.length cc23)) 96 (0, 0)) :: F, ?_, H47⟩
              change FReg _ _ _ _ _ #[true, true, true, true, true, true, true, true, true, true, true, true, false, false, false] _ _
              refine f_first 12 (listed' := #[true, true, true, true, true, true, true, true, true, true, true, true, true, false, false]) rfl (by kernel_rfl) (by kernel_rfl) (by kernel_rfl) rfl ?_
              refine f_val rfl rfl rfl (by intro t_ w hw; exact x_nilCheck (.pointer (some ⟨b, 1 + e.src.v.toNat * 3, none⟩)) rfl ⟨_, rfl⟩ w) ?_
              refine f_first 13 (listed' := #[true, true, true, true, true, true, true, true, true, true, true, true, true, true, false]) rfl (by kernel_rfl) (by kernel_rfl) (by kernel_rfl) rfl ?_
              refine f_val rfl rfl rfl (by intro t_ w hw; exact x_fieldAddr 93 1 1 (1 + e.src.v.toNat * 3 + 1) 2 rfl fi_93_1 rfl w) ?_
              refine f_all (rs := [14]) (by kernel_rfl) (by simp) ?_
              refine a_cons ⟨_, rfl, ?_⟩ (fun x hx => absurd hx (by simp))
              intro w48 H49
              try dsimp only at H49
              refine s_store H49 4 (.int .i64 e.time.v) rfl rfl rfl sz_2 rfl (by rw [st_size, (st_len_set h15)]; omega) rfl (st_set (by rw [(st_len_set h15)]; omega) 1 (by decide) _ _ _ ⟨((st.set e.src.v.toNat ⟨(st.getD e.src.v.toNat default).next + 1, (st.getD e.src.v.toNat default).last, (st.getD e.src.v.toNat default).closed⟩).getD e.src.v.toNat default).next, e.time.v, ((st.set e.src.v.toNat ⟨(st.getD e.src.v.toNat default).next + 1, (st.getD e.src.v.toNat default).last, (st.getD e.src.v.toNat default).closed⟩).getD e.src.v.toNat default).closed⟩ rfl) ?_; intro w50 H51
              refine ⟨blk b (.cells (stCells many ((st.set e.src.v.toNat ⟨(st.getD e.src.v.toNat default).next + 1, (st.getD e.src.v.toNat default).last, (st.getD e.src.v.toNat default).closed⟩).set e.src.v.toNat ⟨((st.set e.src.v.toNat ⟨(st.getD e.src.v.toNat default).next + 1, (st.getD e.src.v.toNat default).last, (st.getD e.src.v.toNat default).closed⟩).getD e.src.v.toNat default).next, e.time.v, ((st.set e.src.v.toNat ⟨(st.getD e.src.v.toNat default).next + 1, (st.getD e.src.v.toNat default).last, (st.getD e.src.v.toNat default).closed⟩).getD e.src.v.toNat default).closed⟩) (.slice pp22 evs.length cc23)) 96 (0, 0)) :: F, ?_, H51⟩
              change FReg _ _ _ _ _ #[true, true, true, true, true, true, true, true, true, true, true, true, true, true, true] _ _
              refine f_done (by kernel_rfl) ?_
              intro w52 H53
              refine g_seq ?_
              refine g_cut (fun (x : Nat × Option Addr × Nat × Option Addr × Nat) => match x with | (bk59, pp54, cc55, pp66, cc67) => [(4, .int .i64 0)]) (fun (x : Nat × Option Addr × Nat × Option Addr × Nat) w => match x with | (bk59, pp54, cc55, pp66, cc67) => St W w (blk bk59 (.cells #[.int .i64 e.src.v, .int .i64 e.seq.v, .int .i64 e.time.v, .string e.typ.v, .slice pp54 e.attrs.length cc55] 33 (0, 0)) :: Attrs (.slice pp54 e.attrs.length cc55) e.attrs :: Row 33 5 (.slice pp66 (evs.length + 1) cc67) (evs.length + 1) (evRow evs avs14 ++ ([.int .i64 e.src.v, .int .i64 e.seq.v, .int .i64 e.time.v, .string e.typ.v, .slice pp54 e.attrs.length cc55] : List Value)) :: star (evIms evs avs14) :: blk bk1 (.cells #[.int .i64 e.src.v, .int .i64 e.seq.v, .int .i64 e.time.v, .string e.typ.v, .slice q e.attrs.length d] 33 (0, 0)) :: Row 91 4 (.slice q e.attrs.length d) e.attrs.length (e.attrs.flatMap attrCell) :: blk b (.cells (stCells many ((st.set e.src.v.toNat ⟨(st.getD e.src.v.toNat default).next + 1, (st.getD e.src.v.toNat default).last, (st.getD e.src.v.toNat default).closed⟩).set e.src.v.toNat ⟨((st.set e.src.v.toNat ⟨(st.getD e.src.v.toNat default).next + 1, (st.getD e.src.v.toNat default).last, (st.getD e.src.v.toNat default).closed⟩).getD e.src.v.toNat default).next, e.time.v, ((st.set e.src.v.toNat ⟨(st.getD e.src.v.toNat default).next + 1, (st.getD e.src.v.toNat default).last, (st.getD e.src.v.toNat default).closed⟩).getD e.src.v.toNat default).closed⟩) (.slice pp66 (evs.length + 1) cc67)) 96 (0, 0)) :: F)) ?_ ?_
              · rintro ⟨bk59, pp54, cc55, pp66, cc67⟩ ρ57 w55 H56
                change Ends _ _ (upds ρ57 [(4, .int .i64 0)]) w55
                refine g_seq ?_
                refine g_region ?_
                refine r_cons (s_assign (.int .i64 0) rfl rfl ?_)
                refine r_nil ?_
                refine g_ret' [.int .i64 0] Try.func16 Try.results16 ⟨rfl, trivial⟩ ?_
                have hA : acceptE many st evs.length e = 0 := acceptE_0 ‹_› ‹_› ‹_› ‹_› ‹_› ‹_›
                have H58 : St W w55 (blk b (.cells (stCells many ((st.set e.src.v.toNat ⟨(st.getD e.src.v.toNat default).next + 1, (st.getD e.src.v.toNat default).last, (st.getD e.src.v.toNat default).closed⟩).set e.src.v.toNat ⟨((st.set e.src.v.toNat ⟨(st.getD e.src.v.toNat default).next + 1, (st.getD e.src.v.toNat default).last, (st.getD e.src.v.toNat default).closed⟩).getD e.src.v.toNat default).next, e.time.v, ((st.set e.src.v.toNat ⟨(st.getD e.src.v.toNat default).next + 1, (st.getD e.src.v.toNat default).last, (st.getD e.src.v.toNat default).closed⟩).getD e.src.v.toNat default).closed⟩) (.slice pp66 (evs.length + 1) cc67)) 96 (0, 0)) :: Row 33 5 (.slice pp66 (evs.length + 1) cc67) (evs.length + 1) (evRow evs avs14 ++ ([.int .i64 e.src.v, .int .i64 e.seq.v, .int .i64 e.time.v, .string e.typ.v, .slice pp54 e.attrs.length cc55] : List Value)) :: star (evIms evs avs14) :: Attrs (.slice pp54 e.attrs.length cc55) e.attrs :: Row 91 4 (.slice q e.attrs.length d) e.attrs.length (e.attrs.flatMap attrCell) :: F) := (((((((H56.move 5 rfl).move 2 rfl).move 4 rfl).move 4 rfl).move 6 rfl).drop 5 rfl).drop 5 rfl)
                have H59 := (St.star_snoc ((H58.move 3 rfl).move 3 rfl))
                have hst : (st.set e.src.v.toNat ⟨(st.getD e.src.v.toNat default).next + 1, (st.getD e.src.v.toNat default).last, (st.getD e.src.v.toNat default).closed⟩).set e.src.v.toNat ⟨((st.set e.src.v.toNat ⟨(st.getD e.src.v.toNat default).next + 1, (st.getD e.src.v.toNat default).last, (st.getD e.src.v.toNat default).closed⟩).getD e.src.v.toNat default).next, e.time.v, ((st.set e.src.v.toNat ⟨(st.getD e.src.v.toNat default).next + 1, (st.getD e.src.v.toNat default).last, (st.getD e.src.v.toNat default).closed⟩).getD e.src.v.toNat default).closed⟩ = st.set e.src.v.toNat ⟨(st.getD e.src.v.toNat default).next + 1, e.time.v, (st.getD e.src.v.toNat default).closed⟩ := by rw [getD_set_S3 (by omega), set_set_S3]
                have H60 : St W w55 (blk b (.cells (stCells many (st.set e.src.v.toNat ⟨(st.getD e.src.v.toNat default).next + 1, e.time.v, (st.getD e.src.v.toNat default).closed⟩) (.slice pp66 (evs.length + 1) cc67)) 96 (0, 0)) :: Row 33 5 (.slice pp66 (evs.length + 1) cc67) (evs ++ [e]).length (evRow (evs ++ [e]) (avs14 ++ ([.slice pp54 e.attrs.length cc55] : List Value))) :: star (evIms (evs ++ [e]) (avs14 ++ ([.slice pp54 e.attrs.length cc55] : List Value))) :: Row 91 4 (.slice q e.attrs.length d) e.attrs.length (e.attrs.flatMap attrCell) :: F) := by rw [List.length_append, evRow_snoc _ _ _ _ hav18, evIms_snoc _ _ _ _ hav18, ← hst]; exact ((H59.move 2 rfl).move 2 rfl)
                exact ⟨vint hA.symm, by rw [(accSt_yes hA).1, (accSt_yes hA).2]; exact (St.shut_ex (.slice pp66 (evs.length + 1) cc67, avs14 ++ ([.slice pp54 e.attrs.length cc55] : List Value)) (St.shut_star (ls := [pure' ((st.set e.src.v.toNat ⟨(st.getD e.src.v.toNat default).next + 1, e.time.v, (st.getD e.src.v.toNat default).closed⟩).length = 16 ∧ 1 ≤ many ∧ many ≤ 16 ∧ (avs14 ++ ([.slice pp54 e.attrs.length cc55] : List Value)).length = (evs ++ [e]).length), blk b (.cells (stCells many (st.set e.src.v.toNat ⟨(st.getD e.src.v.toNat default).next + 1, e.time.v, (st.getD e.src.v.toNat default).closed⟩) (.slice pp66 (evs.length + 1) cc67)) 96 (0, 0)), Row 33 5 (.slice pp66 (evs.length + 1) cc67) (evs ++ [e]).length (evRow (evs ++ [e]) (avs14 ++ ([.slice pp54 e.attrs.length cc55] : List Value))), star (evIms (evs ++ [e]) (avs14 ++ ([.slice pp54 e.attrs.length cc55] : List Value)))]) (St.shut_pure ⟨st_len_set ‹st.length = 16›, hm16, hm17, by simp [hav18]⟩ H60)))⟩
              · intro join54
                refine g_any mixed 12 rfl ?_
                intro w61 hw62
                have H63 := H53.drew
                rw [← hw62] at H63
                clear hw62
                refine a_take 0 (listed' := #[true, false, false, false, false, false, false, false, false, false, false, false]) rfl (by kernel_rfl) (by kernel_rfl) (by kernel_rfl) rfl rfl rfl rfl (fun w => x_move (.pointer (some ⟨b, 0, none⟩)) rfl w) ?_
                refine a_take 1 (listed' := #[true, true, false, false, false, false, false, false, false, false, false, false]) rfl (by kernel_rfl) (by kernel_rfl) (by kernel_rfl) rfl rfl rfl rfl (fun w => x_move (.pointer (some ⟨b, 0, none⟩)) rfl w) ?_
                refine a_take 2 (listed' := #[true, true, true, false, false, false, false, false, false, false, false, false]) rfl (by kernel_rfl) (by kernel_rfl) (by kernel_rfl) rfl rfl rfl rfl (fun w => x_nilCheck (.pointer (some ⟨b, 0, none⟩)) rfl ⟨_, rfl⟩ w) ?_
                refine a_take 3 (listed' := #[true, true, true, true, false, false, false, false, false, false, false, false]) rfl (by kernel_rfl) (by kernel_rfl) (by kernel_rfl) rfl rfl rfl rfl (fun w => x_fieldAddr 96 2 49 49 49 rfl fi_96_2 rfl w) ?_
                refine a_all (rs := [4, 5]) (by kernel_rfl) (by simp) ?_
                refine a_cons ⟨_, rfl, ?_⟩ (a_cons ⟨_, rfl, ?_⟩ (fun x hx => absurd hx (by simp)))
                · skip
                  refine s_load (.slice pp22 evs.length cc23) ag_49 rfl (H63.blk_at (i := 4) rfl) (st_all (st_len_set (st_len_set h15)) _ _) rfl ?_
                  change AnyG _ _ _ _ #[true, true, true, true, true, false, false, false, false, false, false, false] _ _
                  refine a_all (rs := [5]) (by kernel_rfl) (by simp) ?_
                  refine a_cons ⟨_, rfl, ?_⟩ (fun x hx => absurd hx (by simp))
                  refine s_loadAgg [.int .i64 e.src.v, .int .i64 e.seq.v, .int .i64 e.time.v, .string e.typ.v, .slice q e.attrs.length d] 5 ag_33 rfl (H63.blk_at (i := 2) rfl) (Nat.le_of_ble_eq_true rfl) rfl rfl ?_
                  change AnyG _ _ _ _ #[true, true, true, true, true, true, false, false, false, false, false, false] _ _
                  refine a_all (rs := [6]) (by kernel_rfl) (by simp) ?_
                  refine a_cons ⟨_, rfl, ?_⟩ (fun x hx => absurd hx (by simp))
                  refine s_call [.agg #[.int .i64 e.src.v, .int .i64 e.seq.v, .int .i64 e.time.v, .string e.typ.v, .slice q e.attrs.length d]] pl_23 rfl rfl (event_Clone_lent e q d (by omega) (j := 3) rfl H63) ?_
                  rintro _ w66 ⟨pp64, cc65, rfl, H67⟩
                  have H68 : St W w66 (Attrs (.slice pp64 e.attrs.length cc65) e.attrs :: Row 33 5 (.slice pp22 evs.length cc23) evs.length (evRow evs avs14) :: star (evIms evs avs14) :: blk bk1 (.cells #[.int .i64 e.src.v, .int .i64 e.seq.v, .int .i64 e.time.v, .string e.typ.v, .slice q e.attrs.length d] 33 (0, 0)) :: Row 91 4 (.slice q e.attrs.length d) e.attrs.length (e.attrs.flatMap attrCell) :: blk b (.cells (stCells many ((st.set e.src.v.toNat ⟨(st.getD e.src.v.toNat default).next + 1, (st.getD e.src.v.toNat default).last, (st.getD e.src.v.toNat default).closed⟩).set e.src.v.toNat ⟨((st.set e.src.v.toNat ⟨(st.getD e.src.v.toNat default).next + 1, (st.getD e.src.v.toNat default).last, (st.getD e.src.v.toNat default).closed⟩).getD e.src.v.toNat default).next, e.time.v, ((st.set e.src.v.toNat ⟨(st.getD e.src.v.toNat default).next + 1, (st.getD e.src.v.toNat default).last, (st.getD e.src.v.toNat default).closed⟩).getD e.src.v.toNat default).closed⟩) (.slice pp22 evs.length cc23)) 96 (0, 0)) :: F) := Row.im H67 (i := 0) rfl
                  change AnyG _ _ _ _ #[true, true, true, true, true, true, true, false, false, false, false, false] _ _
                  refine a_all (rs := [7]) (by kernel_rfl) (by simp) ?_
                  refine a_cons ⟨_, rfl, ?_⟩ (fun x hx => absurd hx (by simp))
                  refine s_buildSlice H68 5 1 (cs := #[.int .i64 e.src.v, .int .i64 e.seq.v, .int .i64 e.time.v, .string e.typ.v, .slice pp64 e.attrs.length cc65]) #[.int .i64 0, .int .i64 0, .int .i64 0, .string ByteArray.empty, .slice none 0 0] el_49 ze_33 (by decide) (by decide) (by kernel_rfl) rfl ?_; intro bk69 w70 H71
                  change AnyG _ _ _ _ #[true, true, true, true, true, true, true, true, false, false, false, false] _ _
                  refine a_all (rs := [8]) (by kernel_rfl) (by simp) ?_
                  refine a_cons ⟨_, rfl, ?_⟩ (fun x hx => absurd hx (by simp))
                  refine s_append H71 2 rfl rfl rfl (rd_blk (H71.blk_at (i := 0) rfl) rfl (Nat.le_of_ble_eq_true rfl) (by simp [Value.oneCell'])) ap_49 (by decide) (by unfold maxLen; omega) (by omega) (n' := evs.length + 1) (xs' := evRow evs avs14 ++ ([.int .i64 e.src.v, .int .i64 e.seq.v, .int .i64 e.time.v, .string e.typ.v, .slice pp64 e.attrs.length cc65] : List Value)) (by omega) (by first | rfl | simp) rfl ?_; intro vv72 w73 H74 hn75
                  obtain ⟨pp76, cc77, rfl⟩ := Row.slice H74 (i := 2) rfl
                  change AnyG _ _ _ _ #[true, true, true, true, true, true, true, true, true, false, false, false] _ _
                  refine a_take 9 (listed' := #[true, true, true, true, true, true, true, true, true, true, false, false]) rfl (by kernel_rfl) (by kernel_rfl) (by kernel_rfl) rfl rfl rfl rfl (fun w => x_nilCheck (.pointer (some ⟨b, 0, none⟩)) rfl ⟨_, rfl⟩ w) ?_
                  refine a_take 10 (listed' := #[true, true, true, true, true, true, true, true, true, true, true, false]) rfl (by kernel_rfl) (by kernel_rfl) (by kernel_rfl) rfl rfl rfl rfl (fun w => x_fieldAddr 96 2 49 49 49 rfl fi_96_2 rfl w) ?_
                  refine a_all (rs := [11]) (by kernel_rfl) (by simp) ?_
                  refine a_cons ⟨_, rfl, ?_⟩ (fun x hx => absurd hx (by simp))
                  refine s_store H74 6 (.slice pp76 (evs.length + 1) cc77) rfl rfl rfl sz_49 rfl (by rw [st_size, (st_len_set (st_len_set h15))]; decide) rfl (st_setAll (st_len_set (st_len_set h15)) _ _ _) ?_; intro w78 H79
                  change AnyG _ _ _ _ #[true, true, true, true, true, true, true, true, true, true, true, true] _ _
                  refine a_done (by kernel_rfl) ?_
                  exact join54 (bk69, pp64, cc65, pp76, cc77) _ _ H79 ⟨rfl, trivial⟩
                · skip
                  refine s_loadAgg [.int .i64 e.src.v, .int .i64 e.seq.v, .int .i64 e.time.v, .string e.typ.v, .slice q e.attrs.length d] 5 ag_33 rfl (H63.blk_at (i := 2) rfl) (Nat.le_of_ble_eq_true rfl) rfl rfl ?_
                  change AnyG _ _ _ _ #[true, true, true, true, false, true, false, false, false, false, false, false] _ _
                  refine a_all (rs := [4, 6]) (by kernel_rfl) (by simp) ?_
                  refine a_cons ⟨_, rfl, ?_⟩ (a_cons ⟨_, rfl, ?_⟩ (fun x hx => absurd hx (by simp)))
                  · skip
                    refine s_load (.slice pp22 evs.length cc23) ag_49 rfl (H63.blk_at (i := 4) rfl) (st_all (st_len_set (st_len_set h15)) _ _) rfl ?_
                    change AnyG _ _ _ _ #[true, true, true, true, true, true, false, false, false, false, false, false] _ _
                    refine a_all (rs := [6]) (by kernel_rfl) (by simp) ?_
                    refine a_cons ⟨_, rfl, ?_⟩ (fun x hx => absurd hx (by simp))
                    refine s_call [.agg #[.int .i64 e.src.v, .int .i64 e.seq.v, .int .i64 e.time.v, .string e.typ.v, .slice q e.attrs.length d]] pl_23 rfl rfl (event_Clone_lent e q d (by omega) (j := 3) rfl H63) ?_
                    rintro _ w82 ⟨pp80, cc81, rfl, H83⟩
                    have H84 : St W w82 (Attrs (.slice pp80 e.attrs.length cc81) e.attrs :: Row 33 5 (.slice pp22 evs.length cc23) evs.length (evRow evs avs14) :: star (evIms evs avs14) :: blk bk1 (.cells #[.int .i64 e.src.v, .int .i64 e.seq.v, .int .i64 e.time.v, .string e.typ.v, .slice q e.attrs.length d] 33 (0, 0)) :: Row 91 4 (.slice q e.attrs.length d) e.attrs.length (e.attrs.flatMap attrCell) :: blk b (.cells (stCells many ((st.set e.src.v.toNat ⟨(st.getD e.src.v.toNat default).next + 1, (st.getD e.src.v.toNat default).last, (st.getD e.src.v.toNat default).closed⟩).set e.src.v.toNat ⟨((st.set e.src.v.toNat ⟨(st.getD e.src.v.toNat default).next + 1, (st.getD e.src.v.toNat default).last, (st.getD e.src.v.toNat default).closed⟩).getD e.src.v.toNat default).next, e.time.v, ((st.set e.src.v.toNat ⟨(st.getD e.src.v.toNat default).next + 1, (st.getD e.src.v.toNat default).last, (st.getD e.src.v.toNat default).closed⟩).getD e.src.v.toNat default).closed⟩) (.slice pp22 evs.length cc23)) 96 (0, 0)) :: F) := Row.im H83 (i := 0) rfl
                    change AnyG _ _ _ _ #[true, true, true, true, true, true, true, false, false, false, false, false] _ _
                    refine a_all (rs := [7]) (by kernel_rfl) (by simp) ?_
                    refine a_cons ⟨_, rfl, ?_⟩ (fun x hx => absurd hx (by simp))
                    refine s_buildSlice H84 5 1 (cs := #[.int .i64 e.src.v, .int .i64 e.seq.v, .int .i64 e.time.v, .string e.typ.v, .slice pp80 e.attrs.length cc81]) #[.int .i64 0, .int .i64 0, .int .i64 0, .string ByteArray.empty, .slice none 0 0] el_49 ze_33 (by decide) (by decide) (by kernel_rfl) rfl ?_; intro bk85 w86 H87
                    change AnyG _ _ _ _ #[true, true, true, true, true, true, true, true, false, false, false, false] _ _
                    refine a_all (rs := [8]) (by kernel_rfl) (by simp) ?_
                    refine a_cons ⟨_, rfl, ?_⟩ (fun x hx => absurd hx (by simp))
                    refine s_append H87 2 rfl rfl rfl (rd_blk (H87.blk_at (i := 0) rfl) rfl (Nat.le_of_ble_eq_true rfl) (by simp [Value.oneCell'])) ap_49 (by decide) (by unfold maxLen; omega) (by omega) (n' := evs.length + 1) (xs' := evRow evs avs14 ++ ([.int .i64 e.src.v, .int .i64 e.seq.v, .int .i64 e.time.v, .string e.typ.v, .slice pp80 e.attrs.length cc81] : List Value)) (by omega) (by first | rfl | simp) rfl ?_; intro vv88 w89 H90 hn91
                    obtain ⟨pp92, cc93, rfl⟩ := Row.slice H90 (i := 2) rfl
                    change AnyG _ _ _ _ #[true, true, true, true, true, true, true, true, true, false, false, false] _ _
                    refine a_take 9 (listed' := #[true, true, true, true, true, true, true, true, true, true, false, false]) rfl (by kernel_rfl) (by kernel_rfl) (by kernel_rfl) rfl rfl rfl rfl (fun w => x_nilCheck (.pointer (some ⟨b, 0, none⟩)) rfl ⟨_, rfl⟩ w) ?_
                    refine a_take 10 (listed' := #[true, true, true, true, true, true, true, true, true, true, true, false]) rfl (by kernel_rfl) (by kernel_rfl) (by kernel_rfl) rfl rfl rfl rfl (fun w => x_fieldAddr 96 2 49 49 49 rfl fi_96_2 rfl w) ?_
                    refine a_all (rs := [11]) (by kernel_rfl) (by simp) ?_
                    refine a_cons ⟨_, rfl, ?_⟩ (fun x hx => absurd hx (by simp))
                    refine s_store H90 6 (.slice pp92 (evs.length + 1) cc93) rfl rfl rfl sz_49 rfl (by rw [st_size, (st_len_set (st_len_set h15))]; decide) rfl (st_setAll (st_len_set (st_len_set h15)) _ _ _) ?_; intro w94 H95
                    change AnyG _ _ _ _ #[true, true, true, true, true, true, true, true, true, true, true, true] _ _
                    refine a_done (by kernel_rfl) ?_
                    exact join54 (bk85, pp80, cc81, pp92, cc93) _ _ H95 ⟨rfl, trivial⟩
                  · skip
                    refine s_call [.agg #[.int .i64 e.src.v, .int .i64 e.seq.v, .int .i64 e.time.v, .string e.typ.v, .slice q e.attrs.length d]] pl_23 rfl rfl (event_Clone_lent e q d (by omega) (j := 3) rfl H63) ?_
                    rintro _ w98 ⟨pp96, cc97, rfl, H99⟩
                    have H100 : St W w98 (Attrs (.slice pp96 e.attrs.length cc97) e.attrs :: Row 33 5 (.slice pp22 evs.length cc23) evs.length (evRow evs avs14) :: star (evIms evs avs14) :: blk bk1 (.cells #[.int .i64 e.src.v, .int .i64 e.seq.v, .int .i64 e.time.v, .string e.typ.v, .slice q e.attrs.length d] 33 (0, 0)) :: Row 91 4 (.slice q e.attrs.length d) e.attrs.length (e.attrs.flatMap attrCell) :: blk b (.cells (stCells many ((st.set e.src.v.toNat ⟨(st.getD e.src.v.toNat default).next + 1, (st.getD e.src.v.toNat default).last, (st.getD e.src.v.toNat default).closed⟩).set e.src.v.toNat ⟨((st.set e.src.v.toNat ⟨(st.getD e.src.v.toNat default).next + 1, (st.getD e.src.v.toNat default).last, (st.getD e.src.v.toNat default).closed⟩).getD e.src.v.toNat default).next, e.time.v, ((st.set e.src.v.toNat ⟨(st.getD e.src.v.toNat default).next + 1, (st.getD e.src.v.toNat default).last, (st.getD e.src.v.toNat default).closed⟩).getD e.src.v.toNat default).closed⟩) (.slice pp22 evs.length cc23)) 96 (0, 0)) :: F) := Row.im H99 (i := 0) rfl
                    change AnyG _ _ _ _ #[true, true, true, true, false, true, true, false, false, false, false, false] _ _
                    refine a_all (rs := [4, 7]) (by kernel_rfl) (by simp) ?_
                    refine a_cons ⟨_, rfl, ?_⟩ (a_cons ⟨_, rfl, ?_⟩ (fun x hx => absurd hx (by simp)))
                    · skip
                      refine s_load (.slice pp22 evs.length cc23) ag_49 rfl (H100.blk_at (i := 5) rfl) (st_all (st_len_set (st_len_set h15)) _ _) rfl ?_
                      change AnyG _ _ _ _ #[true, true, true, true, true, true, true, false, false, false, false, false] _ _
                      refine a_all (rs := [7]) (by kernel_rfl) (by simp) ?_
                      refine a_cons ⟨_, rfl, ?_⟩ (fun x hx => absurd hx (by simp))
                      refine s_buildSlice H100 5 1 (cs := #[.int .i64 e.src.v, .int .i64 e.seq.v, .int .i64 e.time.v, .string e.typ.v, .slice pp96 e.attrs.length cc97]) #[.int .i64 0, .int .i64 0, .int .i64 0, .string ByteArray.empty, .slice none 0 0] el_49 ze_33 (by decide) (by decide) (by kernel_rfl) rfl ?_; intro bk101 w102 H103
                      change AnyG _ _ _ _ #[true, true, true, true, true, true, true, true, false, false, false, false] _ _
                      refine a_all (rs := [8]) (by kernel_rfl) (by simp) ?_
                      refine a_cons ⟨_, rfl, ?_⟩ (fun x hx => absurd hx (by simp))
                      refine s_append H103 2 rfl rfl rfl (rd_blk (H103.blk_at (i := 0) rfl) rfl (Nat.le_of_ble_eq_true rfl) (by simp [Value.oneCell'])) ap_49 (by decide) (by unfold maxLen; omega) (by omega) (n' := evs.length + 1) (xs' := evRow evs avs14 ++ ([.int .i64 e.src.v, .int .i64 e.seq.v, .int .i64 e.time.v, .string e.typ.v, .slice pp96 e.attrs.length cc97] : List Value)) (by omega) (by first | rfl | simp) rfl ?_; intro vv104 w105 H106 hn107
                      obtain ⟨pp108, cc109, rfl⟩ := Row.slice H106 (i := 2) rfl
                      change AnyG _ _ _ _ #[true, true, true, true, true, true, true, true, true, false, false, false] _ _
                      refine a_take 9 (listed' := #[true, true, true, true, true, true, true, true, true, true, false, false]) rfl (by kernel_rfl) (by kernel_rfl) (by kernel_rfl) rfl rfl rfl rfl (fun w => x_nilCheck (.pointer (some ⟨b, 0, none⟩)) rfl ⟨_, rfl⟩ w) ?_
                      refine a_take 10 (listed' := #[true, true, true, true, true, true, true, true, true, true, true, false]) rfl (by kernel_rfl) (by kernel_rfl) (by kernel_rfl) rfl rfl rfl rfl (fun w => x_fieldAddr 96 2 49 49 49 rfl fi_96_2 rfl w) ?_
                      refine a_all (rs := [11]) (by kernel_rfl) (by simp) ?_
                      refine a_cons ⟨_, rfl, ?_⟩ (fun x hx => absurd hx (by simp))
                      refine s_store H106 6 (.slice pp108 (evs.length + 1) cc109) rfl rfl rfl sz_49 rfl (by rw [st_size, (st_len_set (st_len_set h15))]; decide) rfl (st_setAll (st_len_set (st_len_set h15)) _ _ _) ?_; intro w110 H111
                      change AnyG _ _ _ _ #[true, true, true, true, true, true, true, true, true, true, true, true] _ _
                      refine a_done (by kernel_rfl) ?_
                      exact join54 (bk101, pp96, cc97, pp108, cc109) _ _ H111 ⟨rfl, trivial⟩
                    · skip
                      refine s_buildSlice H100 5 1 (cs := #[.int .i64 e.src.v, .int .i64 e.seq.v, .int .i64 e.time.v, .string e.typ.v, .slice pp96 e.attrs.length cc97]) #[.int .i64 0, .int .i64 0, .int .i64 0, .string ByteArray.empty, .slice none 0 0] el_49 ze_33 (by decide) (by decide) (by kernel_rfl) rfl ?_; intro bk112 w113 H114
                      change AnyG _ _ _ _ #[true, true, true, true, false, true, true, true, false, false, false, false] _ _
                      refine a_all (rs := [4]) (by kernel_rfl) (by simp) ?_
                      refine a_cons ⟨_, rfl, ?_⟩ (fun x hx => absurd hx (by simp))
                      refine s_load (.slice pp22 evs.length cc23) ag_49 rfl (H114.blk_at (i := 6) rfl) (st_all (st_len_set (st_len_set h15)) _ _) rfl ?_
                      change AnyG _ _ _ _ #[true, true, true, true, true, true, true, true, false, false, false, false] _ _
                      refine a_all (rs := [8]) (by kernel_rfl) (by simp) ?_
                      refine a_cons ⟨_, rfl, ?_⟩ (fun x hx => absurd hx (by simp))
                      refine s_append H114 2 rfl rfl rfl (rd_blk (H114.blk_at (i := 0) rfl) rfl (Nat.le_of_ble_eq_true rfl) (by simp [Value.oneCell'])) ap_49 (by decide) (by unfold maxLen; omega) (by omega) (n' := evs.length + 1) (xs' := evRow evs avs14 ++ ([.int .i64 e.src.v, .int .i64 e.seq.v, .int .i64 e.time.v, .string e.typ.v, .slice pp96 e.attrs.length cc97] : List Value)) (by omega) (by first | rfl | simp) rfl ?_; intro vv115 w116 H117 hn118
                      obtain ⟨pp119, cc120, rfl⟩ := Row.slice H117 (i := 2) rfl
                      change AnyG _ _ _ _ #[true, true, true, true, true, true, true, true, true, false, false, false] _ _
                      refine a_take 9 (listed' := #[true, true, true, true, true, true, true, true, true, true, false, false]) rfl (by kernel_rfl) (by kernel_rfl) (by kernel_rfl) rfl rfl rfl rfl (fun w => x_nilCheck (.pointer (some ⟨b, 0, none⟩)) rfl ⟨_, rfl⟩ w) ?_
                      refine a_take 10 (listed' := #[true, true, true, true, true, true, true, true, true, true, true, false]) rfl (by kernel_rfl) (by kernel_rfl) (by kernel_rfl) rfl rfl rfl rfl (fun w => x_fieldAddr 96 2 49 49 49 rfl fi_96_2 rfl w) ?_
                      refine a_all (rs := [11]) (by kernel_rfl) (by simp) ?_
                      refine a_cons ⟨_, rfl, ?_⟩ (fun x hx => absurd hx (by simp))
                      refine s_store H117 6 (.slice pp119 (evs.length + 1) cc120) rfl rfl rfl sz_49 rfl (by rw [st_size, (st_len_set (st_len_set h15))]; decide) rfl (st_setAll (st_len_set (st_len_set h15)) _ _ _) ?_; intro w121 H122
                      change AnyG _ _ _ _ #[true, true, true, true, true, true, true, true, true, true, true, true] _ _
                      refine a_done (by kernel_rfl) ?_
                      exact join54 (bk112, pp96, cc97, pp119, cc120) _ _ H122 ⟨rfl, trivial⟩
        · skip
          refine q_cons (q_val rfl rfl rfl (by intro w hw; exact x_neq true rfl rfl (nfalse hc28) w) ?_)
          refine q_cons (q_val rfl rfl rfl (by intro w hw; exact x_assign (.bool true) rfl w) ?_)
          refine q_nil ?_
          intro w123 H124
          refine g_true rfl ?_
          refine g_seq ?_
          refine g_region ?_
          refine r_cons (s_assign (.int .i64 42) rfl rfl ?_)
          refine r_nil ?_
          refine g_ret' [.int .i64 42] Try.func16 Try.results16 ⟨rfl, trivial⟩ ?_
          have H125 : St W w123 (Streams b many st evs :: blk bk1 (.cells #[.int .i64 e.src.v, .int .i64 e.seq.v, .int .i64 e.time.v, .string e.typ.v, .slice q e.attrs.length d] 33 (0, 0)) :: Row 91 4 (.slice q e.attrs.length d) e.attrs.length (e.attrs.flatMap attrCell) :: F) := St.shut_ex (.slice pp22 evs.length cc23, avs14) (St.shut_star (ls := [pure' (st.length = 16 ∧ 1 ≤ many ∧ many ≤ 16 ∧ (avs14).length = (evs).length), blk b (.cells (stCells many st (.slice pp22 evs.length cc23)) 96 (0, 0)), Row 33 5 (.slice pp22 evs.length cc23) evs.length (evRow evs avs14), star (evIms evs avs14)]) (St.shut_pure ⟨h15, hm16, hm17, hav18⟩ H124))
          have H126 : St W w123 (Streams b many st evs :: Row 91 4 (.slice q e.attrs.length d) e.attrs.length (e.attrs.flatMap attrCell) :: F) := (((H125.move 2 rfl).move 1 rfl).drop 2 rfl)
          have hA : acceptE many st evs.length e = 42 := by first | exact acceptE_1 ‹_› | exact acceptE_2 ‹_› ‹_› | exact acceptE_3 ‹_› ‹_› ‹_› | exact acceptE_4 ‹_› ‹_› ‹_› ‹_› | exact acceptE_5 ‹_› ‹_› ‹_› ‹_› ‹_› | exact acceptE_6 ‹_› ‹_› ‹_› ‹_› ‹_› ‹_›
          have hB : ¬ acceptE many st evs.length e = 0 := by rw [hA]; first | assumption | decide
          exact ⟨vint hA.symm, by rw [(accSt_no hB).1, (accSt_no hB).2]; exact H126⟩
    · skip
      refine r_cons (s_call [.pointer (some ⟨b, 0, none⟩), .int .i64 e.src.v] pl_57 rfl rfl (Streams_of_out b many st evs e.src.v hc9 (i := 1) rfl H7) ?_)
      rintro _ w127 ⟨rfl, H128⟩
      refine r_cons (s_assign (.pointer none) rfl rfl ?_)
      refine r_nil ?_
      refine g_seq ?_
      refine g_block ?_
      refine g_seq ?_
      refine g_region ?_
      refine r_cons (s_move (.pointer none) rfl rfl ?_)
      refine r_cons (s_peql true un_100 rfl rfl rfl rfl ?_)
      refine r_cons (s_assign (.bool true) rfl rfl ?_)
      refine r_nil ?_
      refine g_true rfl ?_
      refine g_seq ?_
      refine g_region ?_
      refine r_cons (s_assign (.int .i64 40) rfl rfl ?_)
      refine r_nil ?_
      refine g_ret' [.int .i64 40] Try.func16 Try.results16 ⟨rfl, trivial⟩ ?_
      have H129 : St W w127 (Streams b many st evs :: Row 91 4 (.slice q e.attrs.length d) e.attrs.length (e.attrs.flatMap attrCell) :: F) := (((H128.move 2 rfl).move 2 rfl).drop 2 rfl)
      have hA : acceptE many st evs.length e = 40 := by first | exact acceptE_1 ‹_› | exact acceptE_2 ‹_› ‹_› | exact acceptE_3 ‹_› ‹_› ‹_› | exact acceptE_4 ‹_› ‹_› ‹_› ‹_› | exact acceptE_5 ‹_› ‹_› ‹_› ‹_› ‹_› | exact acceptE_6 ‹_› ‹_› ‹_› ‹_› ‹_› ‹_›
      have hB : ¬ acceptE many st evs.length e = 0 := by rw [hA]; first | assumption | decide
      exact ⟨vint hA.symm, by rw [(accSt_no hB).1, (accSt_no hB).2]; exact H129⟩
  · skip
    refine r_cons (s_neq true rfl rfl (nfalse hc8) rfl ?_)
    refine r_nil ?_
    refine g_true rfl ?_
    refine g_seq ?_
    refine g_region ?_
    refine r_cons (s_move (.int .i64 (evE e)) rfl rfl ?_)
    refine r_cons (s_assign (.int .i64 (evE e)) rfl rfl ?_)
    refine r_nil ?_
    refine g_ret' [.int .i64 (evE e)] Try.func16 Try.results16 ⟨rfl, trivial⟩ ?_
    have H130 : St W w6 (Streams b many st evs :: Row 91 4 (.slice q e.attrs.length d) e.attrs.length (e.attrs.flatMap attrCell) :: F) := (((H7.move 2 rfl).move 2 rfl).drop 2 rfl)
    have hA : acceptE many st evs.length e = evE e := by first | exact acceptE_1 ‹_› | exact acceptE_2 ‹_› ‹_› | exact acceptE_3 ‹_› ‹_› ‹_› | exact acceptE_4 ‹_› ‹_› ‹_› ‹_› | exact acceptE_5 ‹_› ‹_› ‹_› ‹_› ‹_› | exact acceptE_6 ‹_› ‹_› ‹_› ‹_› ‹_› ‹_›
    have hB : ¬ acceptE many st evs.length e = 0 := by rw [hA]; first | assumption | decide
    exact ⟨vint hA.symm, by rw [(accSt_no hB).1, (accSt_no hB).2]; exact H130⟩
set_option maxHeartbeats 4000000 in
set_option maxRecDepth 100000 in
theorem Streams_All1_own {W w : World} {F : List Atom} (g l : Nat) (evs : List EvM) (J Jx : List EvD → Atom) (hne : ∀ e ∈ evs, evE e = 0) (hnl : evs.length ≤ 65536) {i : Nat} (hi : F[i]? = some (AllA g evs)) (hY : ∀ w G pre (x : EvD), (pre ++ [x]).map EvD.ev <+: evs → St W w (J pre :: Row 91 4 (.slice x.p x.ev.attrs.length x.c) x.ev.attrs.length (x.ev.attrs.flatMap attrCell) :: G) → YieldAt Try.prog l [.agg #[.int .i64 x.ev.src.v, .int .i64 x.ev.seq.v, .int .i64 x.ev.time.v, .string x.ev.typ.v, .slice x.p x.ev.attrs.length x.c]] w (fun v w' => (v = .bool true ∧ St W w' (J (pre ++ [x]) :: G)) ∨ (v = .bool false ∧ St W w' (Jx (pre ++ [x]) :: G)))) (H : St W w (J [] :: F)) : Calls Try.prog 72 #[.func (.yield l) #[] #[], .pointer (some ⟨g, 0, none⟩)] w (Ret fun v w' => ∃ L : List EvD, (L.map EvD.ev = evs ∧ St W w' (J L :: F)) ∨ (L.map EvD.ev <+: evs ∧ St W w' (Jx L :: F))) := by
  have H0 := H.front (i := i + 1) (by exact hi)
  refine calls_of_go (n := 17) Try.func72 rfl Try.ntmps72 rfl ?_
  refine g_seq ?_
  refine g_region ?_
  have H1 := H0.move 0 rfl
  obtain ⟨⟨⟨pp2, cc3⟩, L4⟩, H5⟩ := St.open_ex H1
  obtain ⟨hL7, H6⟩ := St.open_pure (St.open_star H5)
  dsimp only at hL7 H6
  have H8 : St W w (blk g (.cells #[.slice pp2 evs.length cc3] 49 (0, 0)) :: Row 33 5 (.slice pp2 evs.length cc3) evs.length (L4.flatMap evdCell) :: evA L4 :: J [] :: (F.set i emp)) := H6
  refine r_cons (s_load (.slice pp2 evs.length cc3) ag_49 rfl (H8.blk_at (i := 0) rfl) rfl rfl ?_)
  refine r_cons (s_len evs.length rfl ⟨_, un_49⟩ rfl ?_)
  refine r_cons (s_move (.int .i64 0) rfl rfl ?_)
  refine r_nil ?_
  refine g_block ?_
  have hl0 : L4.length = evs.length := by rw [← hL7, List.length_map]
  have H9 : St W w (J [] :: blk g (.cells #[.slice pp2 evs.length cc3] 49 (0, 0)) :: Row 33 5 (.slice pp2 evs.length cc3) evs.length (L4.flatMap evdCell) :: evA L4 :: (F.set i emp)) := ((((H8.move 2 rfl).move 2 rfl).move 2 rfl).move 3 rfl)
  refine g_loop_inv (fun (x_ : Nat × (List EvD)) => match x_ with | (j, pre) => [(0, .func (.yield l) #[] #[]), (5, .slice pp2 evs.length cc3), (6, .int .i64 (evs.length : Int)), (7, .int .i64 (j : Int))]) (fun (x_ : Nat × (List EvD)) w => match x_ with | (j, pre) => (j ≤ evs.length) ∧ (pre.map EvD.ev = evs.take j) ∧ St W w (J pre :: blk g (.cells #[.slice pp2 evs.length cc3] 49 (0, 0)) :: Row 33 5 (.slice pp2 evs.length cc3) evs.length (L4.flatMap evdCell) :: evA L4 :: (F.set i emp))) (fun (x_ : Nat × (List EvD)) => match x_ with | (j, pre) => evs.length - j) (0, []) ?_ ?_ ?_
  · exact ⟨by first | rfl | exact vint (by omega), by first | rfl | exact vint (by omega), by first | rfl | exact vint (by omega), by first | rfl | exact vint (by omega), trivial⟩
  · exact ⟨(by omega), (by simp), H9⟩
  · rintro ⟨j, pre⟩ ρ10 w11 ⟨hjn, hpj, H12⟩ nx13
    change Ends _ _ (upds ρ10 [(0, .func (.yield l) #[] #[]), (5, .slice pp2 evs.length cc3), (6, .int .i64 (evs.length : Int)), (7, .int .i64 (j : Int))]) w11
    refine g_seq ?_
    refine g_region ?_
    by_cases hc14 : (j : Int) < (evs.length : Int)
    · skip
      refine r_cons (s_lss true rfl rfl (dtrue hc14) rfl ?_)
      refine r_nil ?_
      refine g_seq ?_
      refine g_true rfl ?_
      refine g_skip ?_
      refine g_seq ?_
      refine g_block ?_
      refine g_seq ?_
      refine g_region ?_
      have hab := ev_bound hne hL7 (j := j) (by omega)
      have H15 := evA_at H12 (i := 3) rfl (j := j) (by omega)
      obtain ⟨bk16, cur17, hp18, hl19, hx20, hs21, H22, hcl23⟩ := Row.openL (f := evdCell) evdCell_len (by decide) (L := L4) H15 (i := 3) rfl (by omega)
      refine r_cons (s_indexAddr bk16 (off := 0) (j : Int) 5 (0 + j * 5) (by exact congrArg (fun z_ => Value.slice z_ evs.length cc3) ((fun (_ : 0 < 1) => hp18) (by omega))) rfl el_49 (by omega) rfl rfl ?_)
      refine r_cons (s_loadAgg [.int .i64 ((L4.getD j default).ev.src.v), .int .i64 ((L4.getD j default).ev.seq.v), .int .i64 ((L4.getD j default).ev.time.v), .string ((L4.getD j default).ev.typ.v), .slice ((L4.getD j default).p) ((L4.getD j default).ev.attrs.length) ((L4.getD j default).c)] 5 ag_33 rfl (H22.blk_at (i := 3) rfl) (by have := elem_size (i := j) (s := 5) hs21 (by have hh : L4.length = evs.length := hl19; omega); omega) (elem_take evdCell_len hx20 (by have hh : L4.length = evs.length := hl19; omega) default) rfl ?_)
      refine r_cons (s_alloc H22 33 ze_33 rfl ?_); intro bk24 w25 H26
      refine r_cons (s_storeAgg H26 0 #[.int .i64 ((L4.getD j default).ev.src.v), .int .i64 ((L4.getD j default).ev.seq.v), .int .i64 ((L4.getD j default).ev.time.v), .string ((L4.getD j default).ev.typ.v), .slice ((L4.getD j default).p) ((L4.getD j default).ev.attrs.length) ((L4.getD j default).c)] 5 rfl rfl rfl sz_33 rfl (by simp [Value.oneCell']) (Nat.le_of_ble_eq_true rfl) (fun o h1 h2 => by first | (simp; done) | (simp; omega)) (cs' := #[.int .i64 ((L4.getD j default).ev.src.v), .int .i64 ((L4.getD j default).ev.seq.v), .int .i64 ((L4.getD j default).ev.time.v), .string ((L4.getD j default).ev.typ.v), .slice ((L4.getD j default).p) ((L4.getD j default).ev.attrs.length) ((L4.getD j default).c)]) rfl ?_); intro w27 H28
      refine r_nil ?_
      refine g_seq ?_
      refine g_region ?_
      refine r_cons (s_move (.func (.yield l) #[] #[]) rfl rfl ?_)
      refine r_cons (s_loadAgg [.int .i64 ((L4.getD j default).ev.src.v), .int .i64 ((L4.getD j default).ev.seq.v), .int .i64 ((L4.getD j default).ev.time.v), .string ((L4.getD j default).ev.typ.v), .slice ((L4.getD j default).p) ((L4.getD j default).ev.attrs.length) ((L4.getD j default).c)] 5 ag_33 rfl (H28.blk_at (i := 0) rfl) (Nat.le_of_ble_eq_true rfl) rfl rfl ?_)
      refine r_cons (s_call [.agg #[.int .i64 ((L4.getD j default).ev.src.v), .int .i64 ((L4.getD j default).ev.seq.v), .int .i64 ((L4.getD j default).ev.time.v), .string ((L4.getD j default).ev.typ.v), .slice ((L4.getD j default).p) ((L4.getD j default).ev.attrs.length) ((L4.getD j default).c)]] pl_23 rfl rfl (event_Clone_own ((L4.getD j default).ev) (.slice ((L4.getD j default).p) ((L4.getD j default).ev.attrs.length) ((L4.getD j default).c)) (by omega) (j := 1) rfl H28) ?_)
      rintro _ w31 ⟨pp29, cc30, rfl, H32⟩
      have H33 : St W w31 (J pre :: Row 91 4 (.slice pp29 (((L4.getD j default).ev).attrs.length) cc30) ((((L4.getD j default).ev).attrs).length) ((((L4.getD j default).ev).attrs).flatMap attrCell) :: blk bk24 (.cells #[.int .i64 ((L4.getD j default).ev.src.v), .int .i64 ((L4.getD j default).ev.seq.v), .int .i64 ((L4.getD j default).ev.time.v), .string ((L4.getD j default).ev.typ.v), .slice ((L4.getD j default).p) ((L4.getD j default).ev.attrs.length) ((L4.getD j default).c)] 33 (0, 0)) :: Attrs (.slice ((L4.getD j default).p) ((L4.getD j default).ev.attrs.length) ((L4.getD j default).c)) ((L4.getD j default).ev.attrs) :: blk g (.cells #[.slice pp2 evs.length cc3] 49 (0, 0)) :: blk bk16 (.cells cur17 33 (0, 0)) :: evA L4 :: (F.set i emp)) := (H32.move 3 rfl)
      refine r_cons (s_yield l [.agg #[.int .i64 ((L4.getD j default).ev.src.v), .int .i64 ((L4.getD j default).ev.seq.v), .int .i64 ((L4.getD j default).ev.time.v), .string ((L4.getD j default).ev.typ.v), .slice pp29 (((L4.getD j default).ev).attrs.length) cc30]] rfl rfl rfl (hY _ _ pre (⟨(L4.getD j default).ev, pp29, cc30⟩ : EvD) (ok_step (x := (⟨(L4.getD j default).ev, pp29, cc30⟩ : EvD)) hpj hL7 (by omega) rfl).2 H33) ?_)
      rintro _ w34 (⟨rfl, H35⟩ | ⟨rfl, H35⟩)
      · skip
        have H36 : St W w34 (J (pre ++ [(⟨(L4.getD j default).ev, pp29, cc30⟩ : EvD)]) :: blk bk24 (.cells #[.int .i64 ((L4.getD j default).ev.src.v), .int .i64 ((L4.getD j default).ev.seq.v), .int .i64 ((L4.getD j default).ev.time.v), .string ((L4.getD j default).ev.typ.v), .slice ((L4.getD j default).p) ((L4.getD j default).ev.attrs.length) ((L4.getD j default).c)] 33 (0, 0)) :: Attrs (.slice ((L4.getD j default).p) ((L4.getD j default).ev.attrs.length) ((L4.getD j default).c)) ((L4.getD j default).ev.attrs) :: blk g (.cells #[.slice pp2 evs.length cc3] 49 (0, 0)) :: blk bk16 (.cells cur17 33 (0, 0)) :: evA L4 :: (F.set i emp)) := H35
        refine r_cons (s_not true rfl false rfl rfl ?_)
        refine r_nil ?_
        refine g_false rfl ?_
        refine g_skip ?_
        refine g_inBlock ?_
        refine g_region ?_
        refine r_cons (s_add ((j : Int) + 1) rfl rfl (wi64 (by omega)) rfl ?_)
        refine r_cons (s_move (.int .i64 ((j : Int) + 1)) rfl rfl ?_)
        refine r_nil ?_
        have H37 : St W w34 (J (pre ++ [(⟨(L4.getD j default).ev, pp29, cc30⟩ : EvD)]) :: blk bk24 (.cells #[.int .i64 ((L4.getD j default).ev.src.v), .int .i64 ((L4.getD j default).ev.seq.v), .int .i64 ((L4.getD j default).ev.time.v), .string ((L4.getD j default).ev.typ.v), .slice ((L4.getD j default).p) ((L4.getD j default).ev.attrs.length) ((L4.getD j default).c)] 33 (0, 0)) :: Attrs (.slice ((L4.getD j default).p) ((L4.getD j default).ev.attrs.length) ((L4.getD j default).c)) ((L4.getD j default).ev.attrs) :: blk g (.cells #[.slice pp2 evs.length cc3] 49 (0, 0)) :: Row 33 5 (.slice pp2 evs.length cc3) evs.length (L4.flatMap evdCell) :: evA L4 :: (F.set i emp)) := hcl23 4 H36 rfl
        have H38 : St W w34 (J (pre ++ [(⟨(L4.getD j default).ev, pp29, cc30⟩ : EvD)]) :: blk g (.cells #[.slice pp2 evs.length cc3] 49 (0, 0)) :: Row 33 5 (.slice pp2 evs.length cc3) evs.length (L4.flatMap evdCell) :: evA L4 :: (F.set i emp)) := ((((((H37.move 5 rfl).move 5 rfl).move 5 rfl).move 3 rfl).drop 4 rfl).drop 4 rfl)
        exact nx13 (j + 1, (pre ++ [(⟨(L4.getD j default).ev, pp29, cc30⟩ : EvD)])) _ _ ⟨(by omega), (ok_step (x := (⟨(L4.getD j default).ev, pp29, cc30⟩ : EvD)) hpj hL7 (by omega) rfl).1, H38⟩ (by first | (dsimp only; omega) | omega) ⟨by first | rfl | exact vint (by omega), by first | rfl | exact vint (by omega), by first | rfl | exact vint (by omega), by first | rfl | exact vint (by omega), trivial⟩
      · skip
        have H39 : St W w34 (Jx (pre ++ [(⟨(L4.getD j default).ev, pp29, cc30⟩ : EvD)]) :: blk bk24 (.cells #[.int .i64 ((L4.getD j default).ev.src.v), .int .i64 ((L4.getD j default).ev.seq.v), .int .i64 ((L4.getD j default).ev.time.v), .string ((L4.getD j default).ev.typ.v), .slice ((L4.getD j default).p) ((L4.getD j default).ev.attrs.length) ((L4.getD j default).c)] 33 (0, 0)) :: Attrs (.slice ((L4.getD j default).p) ((L4.getD j default).ev.attrs.length) ((L4.getD j default).c)) ((L4.getD j default).ev.attrs) :: blk g (.cells #[.slice pp2 evs.length cc3] 49 (0, 0)) :: blk bk16 (.cells cur17 33 (0, 0)) :: evA L4 :: (F.set i emp)) := H35
        refine r_cons (s_not false rfl true rfl rfl ?_)
        refine r_nil ?_
        refine g_true rfl ?_
        refine g_ret' [] Try.func72 Try.results72 trivial ?_
        have H40 : St W w34 (Jx (pre ++ [(⟨(L4.getD j default).ev, pp29, cc30⟩ : EvD)]) :: blk bk24 (.cells #[.int .i64 ((L4.getD j default).ev.src.v), .int .i64 ((L4.getD j default).ev.seq.v), .int .i64 ((L4.getD j default).ev.time.v), .string ((L4.getD j default).ev.typ.v), .slice ((L4.getD j default).p) ((L4.getD j default).ev.attrs.length) ((L4.getD j default).c)] 33 (0, 0)) :: Attrs (.slice ((L4.getD j default).p) ((L4.getD j default).ev.attrs.length) ((L4.getD j default).c)) ((L4.getD j default).ev.attrs) :: blk g (.cells #[.slice pp2 evs.length cc3] 49 (0, 0)) :: Row 33 5 (.slice pp2 evs.length cc3) evs.length (L4.flatMap evdCell) :: evA L4 :: (F.set i emp)) := hcl23 4 H39 rfl
        have H41 : St W w34 (blk g (.cells #[.slice pp2 evs.length cc3] 49 (0, 0)) :: Row 33 5 (.slice pp2 evs.length cc3) evs.length (L4.flatMap evdCell) :: evA L4 :: Jx (pre ++ [(⟨(L4.getD j default).ev, pp29, cc30⟩ : EvD)]) :: blk bk24 (.cells #[.int .i64 ((L4.getD j default).ev.src.v), .int .i64 ((L4.getD j default).ev.seq.v), .int .i64 ((L4.getD j default).ev.time.v), .string ((L4.getD j default).ev.typ.v), .slice ((L4.getD j default).p) ((L4.getD j default).ev.attrs.length) ((L4.getD j default).c)] 33 (0, 0)) :: Attrs (.slice ((L4.getD j default).p) ((L4.getD j default).ev.attrs.length) ((L4.getD j default).c)) ((L4.getD j default).ev.attrs) :: (F.set i emp)) := (((H40.move 5 rfl).move 5 rfl).move 5 rfl)
        have H42 : St W w34 (AllA g evs :: Jx (pre ++ [(⟨(L4.getD j default).ev, pp29, cc30⟩ : EvD)]) :: blk bk24 (.cells #[.int .i64 ((L4.getD j default).ev.src.v), .int .i64 ((L4.getD j default).ev.seq.v), .int .i64 ((L4.getD j default).ev.time.v), .string ((L4.getD j default).ev.typ.v), .slice ((L4.getD j default).p) ((L4.getD j default).ev.attrs.length) ((L4.getD j default).c)] 33 (0, 0)) :: Attrs (.slice ((L4.getD j default).p) ((L4.getD j default).ev.attrs.length) ((L4.getD j default).c)) ((L4.getD j default).ev.attrs) :: (F.set i emp)) := St.shut_ex ((pp2, cc3), L4) (St.shut_star (ls := [pure' (L4.map EvD.ev = evs), blk g (.cells #[.slice pp2 evs.length cc3] 49 (0, 0)), Row 33 5 (.slice pp2 evs.length cc3) evs.length (L4.flatMap evdCell), evA L4]) (St.shut_pure hL7 H41))
        have H43 : St W w34 (AllA g evs :: Jx (pre ++ [(⟨(L4.getD j default).ev, pp29, cc30⟩ : EvD)]) :: (F.set i emp)) := ((((H42.move 1 rfl).move 1 rfl).drop 2 rfl).drop 2 rfl)
        have H44 : St W w34 (AllA g evs :: (Jx (pre ++ [(⟨(L4.getD j default).ev, pp29, cc30⟩ : EvD)]) :: F).set (i + 1) emp) := H43
        exact ⟨_, .inr ⟨(ok_step (x := (⟨(L4.getD j default).ev, pp29, cc30⟩ : EvD)) hpj hL7 (by omega) rfl).2, St.back_same (i := i + 1) (by exact hi) H44⟩⟩
    · skip
      refine r_cons (s_lss false rfl rfl (dfalse hc14) rfl ?_)
      refine r_nil ?_
      refine g_seq ?_
      refine g_false rfl ?_
      refine g_exit (by rfl) ?_
      refine g_end' [] Try.func72 Try.results72 trivial ?_
      have H45 : St W w11 (blk g (.cells #[.slice pp2 evs.length cc3] 49 (0, 0)) :: Row 33 5 (.slice pp2 evs.length cc3) evs.length (L4.flatMap evdCell) :: evA L4 :: J pre :: (F.set i emp)) := (((H12.move 3 rfl).move 3 rfl).move 3 rfl)
      have H46 : St W w11 (AllA g evs :: J pre :: (F.set i emp)) := St.shut_ex ((pp2, cc3), L4) (St.shut_star (ls := [pure' (L4.map EvD.ev = evs), blk g (.cells #[.slice pp2 evs.length cc3] 49 (0, 0)), Row 33 5 (.slice pp2 evs.length cc3) evs.length (L4.flatMap evdCell), evA L4]) (St.shut_pure hL7 H45))
      have H47 : St W w11 (AllA g evs :: J pre :: (F.set i emp)) := ((H46.move 1 rfl).move 1 rfl)
      have H48 : St W w11 (AllA g evs :: (J pre :: F).set (i + 1) emp) := H47
      have hje : j = evs.length := by omega
      exact ⟨_, .inl ⟨by rw [hpj, hje, List.take_length], St.back_same (i := i + 1) (by exact hi) H48⟩⟩
set_option maxHeartbeats 4000000 in
set_option maxRecDepth 100000 in
theorem SN_none_nil {W w : World} {F : List Atom}  (H : St W w F) : Calls Try.prog 58 #[.pointer none] w (Ret fun v w' => v = .bool true ∧ St W w' F) := by
  refine calls_of_go (n := 12) Try.func58 rfl Try.ntmps58 rfl ?_
  refine g_seq ?_
  refine g_region ?_
  refine r_cons (s_assign (.bool false) rfl rfl ?_)
  refine r_nil ?_
  refine g_seq ?_
  refine g_region ?_
  refine r_cons (s_move (.pointer none) rfl rfl ?_)
  refine r_cons (s_peql true un_23 rfl rfl rfl rfl ?_)
  refine r_cons (s_move (.bool true) rfl rfl ?_)
  refine r_cons (r_pass rfl rfl rfl rfl rfl ?_)
  refine r_cons (r_pass rfl rfl rfl rfl rfl ?_)
  refine r_cons (r_pass rfl rfl rfl rfl rfl ?_)
  refine r_cons (r_pass rfl rfl rfl rfl rfl ?_)
  refine r_cons (r_pass rfl rfl rfl rfl rfl ?_)
  refine r_cons (s_pick_t (.bool true) rfl rfl rfl ?_)
  refine r_cons (s_assign (.bool true) rfl rfl ?_)
  refine r_nil ?_
  refine g_ret' [.bool true] Try.func58 Try.results58 ⟨rfl, trivial⟩ ?_
  have H1 : St W w F := H
  exact ⟨rfl, H1⟩
set_option maxHeartbeats 4000000 in
set_option maxRecDepth 100000 in
theorem SN_none_zero {W w : World} {F : List Atom} (z : Nat)  {i : Nat} (hi : F[i]? = some (blk z (.cells (stCells 0 zeroSt (.slice none 0 0)) 96 (0, 0)))) (H : St W w F) : Calls Try.prog 58 #[.pointer (some ⟨z, 0, none⟩)] w (Ret fun v w' => v = .bool true ∧ St W w' F) := by
  have H0 := H.front hi
  refine calls_of_go (n := 12) Try.func58 rfl Try.ntmps58 rfl ?_
  refine g_seq ?_
  refine g_region ?_
  refine r_cons (s_assign (.bool false) rfl rfl ?_)
  refine r_nil ?_
  refine g_seq ?_
  refine g_region ?_
  refine r_cons (s_move (.pointer (some ⟨z, 0, none⟩)) rfl rfl ?_)
  refine r_cons (s_peql false un_23 rfl rfl rfl rfl ?_)
  refine r_cons (s_move (.bool false) rfl rfl ?_)
  refine r_cons (r_take rfl rfl ?_)
  refine s_move (.pointer (some ⟨z, 0, none⟩)) rfl rfl ?_
  refine r_cons (r_take rfl rfl ?_)
  refine s_nilCheck (.pointer (some ⟨z, 0, none⟩)) rfl ⟨_, rfl⟩ rfl ?_
  refine r_cons (r_take rfl rfl ?_)
  refine s_fieldAddr 96 0 0 0 3 rfl fi_96_0 rfl rfl ?_
  refine r_cons (r_take rfl rfl ?_)
  refine s_load (.int .i64 0) ag_3 rfl (H0.blk_at (i := 0) rfl) (st_many _ _ _) rfl ?_
  refine r_cons (r_take rfl rfl ?_)
  refine s_eql true rfl rfl (dtrue (by decide)) rfl ?_
  refine r_cons (s_pick_f (.bool true) rfl rfl rfl ?_)
  refine r_cons (s_assign (.bool true) rfl rfl ?_)
  refine r_nil ?_
  refine g_ret' [.bool true] Try.func58 Try.results58 ⟨rfl, trivial⟩ ?_
  have H1 : St W w (blk z (.cells (stCells 0 zeroSt (.slice none 0 0)) 96 (0, 0)) :: (F.set i emp)) := H0
  exact ⟨rfl, St.back_same hi H1⟩
set_option maxHeartbeats 4000000 in
set_option maxRecDepth 100000 in
theorem SN_of_nil {W w : World} {F : List Atom} (n : Int) (H : St W w F) : Calls Try.prog 57 #[.pointer none, .int .i64 n] w (Ret fun v w' => v = .pointer none ∧ St W w' F) := by
  refine calls_of_go (n := 24) Try.func57 rfl Try.ntmps57 rfl ?_
  refine g_seq ?_
  refine g_region ?_
  refine r_cons (s_assign (.pointer none) rfl rfl ?_)
  refine r_nil ?_
  refine g_seq ?_
  refine g_seq ?_
  refine g_region ?_
  refine r_cons (s_move (.pointer none) rfl rfl ?_)
  refine r_cons (s_call [.pointer none] pl_58 rfl rfl (SN_none_nil  H) ?_)
  rintro _ w1 ⟨rfl, H2⟩
  refine r_cons (s_move (.bool true) rfl rfl ?_)
  refine r_cons (r_pass rfl rfl rfl rfl rfl ?_)
  refine r_cons (r_pass rfl rfl rfl rfl rfl ?_)
  refine r_cons (s_pick_t (.bool true) rfl rfl rfl ?_)
  refine r_cons (s_move (.bool true) rfl rfl ?_)
  refine r_cons (r_pass rfl rfl rfl rfl rfl ?_)
  refine r_cons (r_pass rfl rfl rfl rfl rfl ?_)
  refine r_cons (r_pass rfl rfl rfl rfl rfl ?_)
  refine r_cons (r_pass rfl rfl rfl rfl rfl ?_)
  refine r_cons (r_pass rfl rfl rfl rfl rfl ?_)
  refine r_cons (r_pass rfl rfl rfl rfl rfl ?_)
  refine r_cons (s_pick_t (.bool true) rfl rfl rfl ?_)
  refine r_nil ?_
  refine g_true rfl ?_
  refine g_seq ?_
  refine g_region ?_
  refine r_cons (s_assign (.pointer none) rfl rfl ?_)
  refine r_nil ?_
  refine g_ret' [.pointer none] Try.func57 Try.results57 ⟨rfl, trivial⟩ ?_
  have H3 : St W w1 F := H2
  exact ⟨rfl, H3⟩
set_option maxHeartbeats 4000000 in
set_option maxRecDepth 100000 in
theorem SN_of_zero {W w : World} {F : List Atom} (z : Nat) (n : Int) {i : Nat} (hi : F[i]? = some (blk z (.cells (stCells 0 zeroSt (.slice none 0 0)) 96 (0, 0)))) (H : St W w F) : Calls Try.prog 57 #[.pointer (some ⟨z, 0, none⟩), .int .i64 n] w (Ret fun v w' => v = .pointer none ∧ St W w' F) := by
  have H0 := H.front hi
  refine calls_of_go (n := 24) Try.func57 rfl Try.ntmps57 rfl ?_
  refine g_seq ?_
  refine g_region ?_
  refine r_cons (s_assign (.pointer none) rfl rfl ?_)
  refine r_nil ?_
  refine g_seq ?_
  refine g_seq ?_
  refine g_region ?_
  refine r_cons (s_move (.pointer (some ⟨z, 0, none⟩)) rfl rfl ?_)
  refine r_cons (s_call [.pointer (some ⟨z, 0, none⟩)] pl_58 rfl rfl (SN_none_zero z  (i := 0) rfl H0) ?_)
  rintro _ w1 ⟨rfl, H2⟩
  refine r_cons (s_move (.bool true) rfl rfl ?_)
  refine r_cons (r_pass rfl rfl rfl rfl rfl ?_)
  refine r_cons (r_pass rfl rfl rfl rfl rfl ?_)
  refine r_cons (s_pick_t (.bool true) rfl rfl rfl ?_)
  refine r_cons (s_move (.bool true) rfl rfl ?_)
  refine r_cons (r_pass rfl rfl rfl rfl rfl ?_)
  refine r_cons (r_pass rfl rfl rfl rfl rfl ?_)
  refine r_cons (r_pass rfl rfl rfl rfl rfl ?_)
  refine r_cons (r_pass rfl rfl rfl rfl rfl ?_)
  refine r_cons (r_pass rfl rfl rfl rfl rfl ?_)
  refine r_cons (r_pass rfl rfl rfl rfl rfl ?_)
  refine r_cons (s_pick_t (.bool true) rfl rfl rfl ?_)
  refine r_nil ?_
  refine g_true rfl ?_
  refine g_seq ?_
  refine g_region ?_
  refine r_cons (s_assign (.pointer none) rfl rfl ?_)
  refine r_nil ?_
  refine g_ret' [.pointer none] Try.func57 Try.results57 ⟨rfl, trivial⟩ ?_
  have H3 : St W w1 (blk z (.cells (stCells 0 zeroSt (.slice none 0 0)) 96 (0, 0)) :: (F.set i emp)) := H2
  exact ⟨rfl, St.back_same hi H3⟩
set_option maxHeartbeats 4000000 in
set_option maxRecDepth 100000 in
theorem SN_Close_nil {W w : World} {F : List Atom} (n : Int) (H : St W w F) : Calls Try.prog 14 #[.pointer none, .int .i64 n] w (Ret fun v w' => v = .int .i64 2 ∧ St W w' F) := by
  refine calls_of_go (n := 22) Try.func14 rfl Try.ntmps14 rfl ?_
  refine g_seq ?_
  refine g_region ?_
  refine r_cons (s_assign (.int .i64 0) rfl rfl ?_)
  refine r_nil ?_
  refine g_seq ?_
  refine g_seq ?_
  refine g_region ?_
  refine r_cons (s_move (.pointer none) rfl rfl ?_)
  refine r_cons (s_call [.pointer none] pl_58 rfl rfl (SN_none_nil  H) ?_)
  rintro _ w1 ⟨rfl, H2⟩
  refine r_nil ?_
  refine g_true rfl ?_
  refine g_seq ?_
  refine g_region ?_
  refine r_cons (s_assign (.int .i64 2) rfl rfl ?_)
  refine r_nil ?_
  refine g_ret' [.int .i64 2] Try.func14 Try.results14 ⟨rfl, trivial⟩ ?_
  have H3 : St W w1 F := H2
  exact ⟨rfl, H3⟩
set_option maxHeartbeats 4000000 in
set_option maxRecDepth 100000 in
theorem SN_Close_zero {W w : World} {F : List Atom} (z : Nat) (n : Int) {i : Nat} (hi : F[i]? = some (blk z (.cells (stCells 0 zeroSt (.slice none 0 0)) 96 (0, 0)))) (H : St W w F) : Calls Try.prog 14 #[.pointer (some ⟨z, 0, none⟩), .int .i64 n] w (Ret fun v w' => v = .int .i64 2 ∧ St W w' F) := by
  have H0 := H.front hi
  refine calls_of_go (n := 22) Try.func14 rfl Try.ntmps14 rfl ?_
  refine g_seq ?_
  refine g_region ?_
  refine r_cons (s_assign (.int .i64 0) rfl rfl ?_)
  refine r_nil ?_
  refine g_seq ?_
  refine g_seq ?_
  refine g_region ?_
  refine r_cons (s_move (.pointer (some ⟨z, 0, none⟩)) rfl rfl ?_)
  refine r_cons (s_call [.pointer (some ⟨z, 0, none⟩)] pl_58 rfl rfl (SN_none_zero z  (i := 0) rfl H0) ?_)
  rintro _ w1 ⟨rfl, H2⟩
  refine r_nil ?_
  refine g_true rfl ?_
  refine g_seq ?_
  refine g_region ?_
  refine r_cons (s_assign (.int .i64 2) rfl rfl ?_)
  refine r_nil ?_
  refine g_ret' [.int .i64 2] Try.func14 Try.results14 ⟨rfl, trivial⟩ ?_
  have H3 : St W w1 (blk z (.cells (stCells 0 zeroSt (.slice none 0 0)) 96 (0, 0)) :: (F.set i emp)) := H2
  exact ⟨rfl, St.back_same hi H3⟩
set_option maxHeartbeats 4000000 in
set_option maxRecDepth 100000 in
theorem SN_Mark_nil {W w : World} {F : List Atom} (n : Int) (H : St W w F) : Calls Try.prog 13 #[.pointer none, .int .i64 n] w (Ret fun v w' => v = .int .i64 0 ∧ St W w' F) := by
  refine calls_of_go (n := 21) Try.func13 rfl Try.ntmps13 rfl ?_
  refine g_seq ?_
  refine g_region ?_
  refine r_cons (s_assign (.int .i64 0) rfl rfl ?_)
  refine r_nil ?_
  refine g_seq ?_
  refine g_region ?_
  refine r_cons (s_move (.pointer none) rfl rfl ?_)
  refine r_cons (s_move (.int .i64 n) rfl rfl ?_)
  refine r_cons (s_call [.pointer none, .int .i64 n] pl_57 rfl rfl (SN_of_nil n H) ?_)
  rintro _ w1 ⟨rfl, H2⟩
  refine r_cons (s_assign (.pointer none) rfl rfl ?_)
  refine r_nil ?_
  refine g_seq ?_
  refine g_block ?_
  refine g_seq ?_
  refine g_region ?_
  refine r_cons (s_move (.pointer none) rfl rfl ?_)
  refine r_cons (s_peql true un_100 rfl rfl rfl rfl ?_)
  refine r_cons (s_assign (.bool true) rfl rfl ?_)
  refine r_nil ?_
  refine g_true rfl ?_
  refine g_seq ?_
  refine g_region ?_
  refine r_cons (s_assign (.int .i64 0) rfl rfl ?_)
  refine r_nil ?_
  refine g_ret' [.int .i64 0] Try.func13 Try.results13 ⟨rfl, trivial⟩ ?_
  have H3 : St W w1 F := H2
  exact ⟨rfl, H3⟩
set_option maxHeartbeats 4000000 in
set_option maxRecDepth 100000 in
theorem SN_Mark_zero {W w : World} {F : List Atom} (z : Nat) (n : Int) {i : Nat} (hi : F[i]? = some (blk z (.cells (stCells 0 zeroSt (.slice none 0 0)) 96 (0, 0)))) (H : St W w F) : Calls Try.prog 13 #[.pointer (some ⟨z, 0, none⟩), .int .i64 n] w (Ret fun v w' => v = .int .i64 0 ∧ St W w' F) := by
  have H0 := H.front hi
  refine calls_of_go (n := 21) Try.func13 rfl Try.ntmps13 rfl ?_
  refine g_seq ?_
  refine g_region ?_
  refine r_cons (s_assign (.int .i64 0) rfl rfl ?_)
  refine r_nil ?_
  refine g_seq ?_
  refine g_region ?_
  refine r_cons (s_move (.pointer (some ⟨z, 0, none⟩)) rfl rfl ?_)
  refine r_cons (s_move (.int .i64 n) rfl rfl ?_)
  refine r_cons (s_call [.pointer (some ⟨z, 0, none⟩), .int .i64 n] pl_57 rfl rfl (SN_of_zero z n (i := 0) rfl H0) ?_)
  rintro _ w1 ⟨rfl, H2⟩
  refine r_cons (s_assign (.pointer none) rfl rfl ?_)
  refine r_nil ?_
  refine g_seq ?_
  refine g_block ?_
  refine g_seq ?_
  refine g_region ?_
  refine r_cons (s_move (.pointer none) rfl rfl ?_)
  refine r_cons (s_peql true un_100 rfl rfl rfl rfl ?_)
  refine r_cons (s_assign (.bool true) rfl rfl ?_)
  refine r_nil ?_
  refine g_true rfl ?_
  refine g_seq ?_
  refine g_region ?_
  refine r_cons (s_assign (.int .i64 0) rfl rfl ?_)
  refine r_nil ?_
  refine g_ret' [.int .i64 0] Try.func13 Try.results13 ⟨rfl, trivial⟩ ?_
  have H3 : St W w1 (blk z (.cells (stCells 0 zeroSt (.slice none 0 0)) 96 (0, 0)) :: (F.set i emp)) := H2
  exact ⟨rfl, St.back_same hi H3⟩
set_option maxHeartbeats 4000000 in
set_option maxRecDepth 100000 in
theorem SN_Next_nil {W w : World} {F : List Atom} (n : Int) (H : St W w F) : Calls Try.prog 28 #[.pointer none, .int .i64 n] w (Ret fun v w' => v = .int .i64 0 ∧ St W w' F) := by
  refine calls_of_go (n := 15) Try.func28 rfl Try.ntmps28 rfl ?_
  refine g_seq ?_
  refine g_region ?_
  refine r_cons (s_assign (.int .i64 0) rfl rfl ?_)
  refine r_nil ?_
  refine g_seq ?_
  refine g_seq ?_
  refine g_region ?_
  refine r_cons (s_move (.pointer none) rfl rfl ?_)
  refine r_cons (s_move (.int .i64 n) rfl rfl ?_)
  refine r_cons (s_call [.pointer none, .int .i64 n] pl_57 rfl rfl (SN_of_nil n H) ?_)
  rintro _ w1 ⟨rfl, H2⟩
  refine r_cons (s_assign (.pointer none) rfl rfl ?_)
  refine r_nil ?_
  refine g_seq ?_
  refine g_region ?_
  refine r_cons (s_move (.pointer none) rfl rfl ?_)
  refine r_cons (s_pneq false un_100 rfl rfl rfl rfl ?_)
  refine r_nil ?_
  refine g_false rfl ?_
  refine g_skip ?_
  refine g_seq ?_
  refine g_region ?_
  refine r_cons (s_assign (.int .i64 0) rfl rfl ?_)
  refine r_nil ?_
  refine g_ret' [.int .i64 0] Try.func28 Try.results28 ⟨rfl, trivial⟩ ?_
  have H3 : St W w1 F := H2
  exact ⟨rfl, H3⟩
set_option maxHeartbeats 4000000 in
set_option maxRecDepth 100000 in
theorem SN_Next_zero {W w : World} {F : List Atom} (z : Nat) (n : Int) {i : Nat} (hi : F[i]? = some (blk z (.cells (stCells 0 zeroSt (.slice none 0 0)) 96 (0, 0)))) (H : St W w F) : Calls Try.prog 28 #[.pointer (some ⟨z, 0, none⟩), .int .i64 n] w (Ret fun v w' => v = .int .i64 0 ∧ St W w' F) := by
  have H0 := H.front hi
  refine calls_of_go (n := 15) Try.func28 rfl Try.ntmps28 rfl ?_
  refine g_seq ?_
  refine g_region ?_
  refine r_cons (s_assign (.int .i64 0) rfl rfl ?_)
  refine r_nil ?_
  refine g_seq ?_
  refine g_seq ?_
  refine g_region ?_
  refine r_cons (s_move (.pointer (some ⟨z, 0, none⟩)) rfl rfl ?_)
  refine r_cons (s_move (.int .i64 n) rfl rfl ?_)
  refine r_cons (s_call [.pointer (some ⟨z, 0, none⟩), .int .i64 n] pl_57 rfl rfl (SN_of_zero z n (i := 0) rfl H0) ?_)
  rintro _ w1 ⟨rfl, H2⟩
  refine r_cons (s_assign (.pointer none) rfl rfl ?_)
  refine r_nil ?_
  refine g_seq ?_
  refine g_region ?_
  refine r_cons (s_move (.pointer none) rfl rfl ?_)
  refine r_cons (s_pneq false un_100 rfl rfl rfl rfl ?_)
  refine r_nil ?_
  refine g_false rfl ?_
  refine g_skip ?_
  refine g_seq ?_
  refine g_region ?_
  refine r_cons (s_assign (.int .i64 0) rfl rfl ?_)
  refine r_nil ?_
  refine g_ret' [.int .i64 0] Try.func28 Try.results28 ⟨rfl, trivial⟩ ?_
  have H3 : St W w1 (blk z (.cells (stCells 0 zeroSt (.slice none 0 0)) 96 (0, 0)) :: (F.set i emp)) := H2
  exact ⟨rfl, St.back_same hi H3⟩
set_option maxHeartbeats 4000000 in
set_option maxRecDepth 100000 in
theorem SN_Closed_nil {W w : World} {F : List Atom} (n : Int) (H : St W w F) : Calls Try.prog 15 #[.pointer none, .int .i64 n] w (Ret fun v w' => v = .bool false ∧ St W w' F) := by
  refine calls_of_go (n := 17) Try.func15 rfl Try.ntmps15 rfl ?_
  refine g_seq ?_
  refine g_region ?_
  refine r_cons (s_assign (.bool false) rfl rfl ?_)
  refine r_nil ?_
  refine g_seq ?_
  refine g_region ?_
  refine r_cons (s_move (.pointer none) rfl rfl ?_)
  refine r_cons (s_move (.int .i64 n) rfl rfl ?_)
  refine r_cons (s_call [.pointer none, .int .i64 n] pl_57 rfl rfl (SN_of_nil n H) ?_)
  rintro _ w1 ⟨rfl, H2⟩
  refine r_cons (s_assign (.pointer none) rfl rfl ?_)
  refine r_nil ?_
  refine g_seq ?_
  refine g_region ?_
  refine r_cons (s_move (.pointer none) rfl rfl ?_)
  refine r_cons (s_pneq false un_100 rfl rfl rfl rfl ?_)
  refine r_cons (s_move (.bool false) rfl rfl ?_)
  refine r_cons (r_pass rfl rfl rfl rfl rfl ?_)
  refine r_cons (r_pass rfl rfl rfl rfl rfl ?_)
  refine r_cons (r_pass rfl rfl rfl rfl rfl ?_)
  refine r_cons (r_pass rfl rfl rfl rfl rfl ?_)
  refine r_cons (s_pick_f (.bool false) rfl rfl rfl ?_)
  refine r_cons (s_assign (.bool false) rfl rfl ?_)
  refine r_nil ?_
  refine g_ret' [.bool false] Try.func15 Try.results15 ⟨rfl, trivial⟩ ?_
  have H3 : St W w1 F := H2
  exact ⟨rfl, H3⟩
set_option maxHeartbeats 4000000 in
set_option maxRecDepth 100000 in
theorem SN_Closed_zero {W w : World} {F : List Atom} (z : Nat) (n : Int) {i : Nat} (hi : F[i]? = some (blk z (.cells (stCells 0 zeroSt (.slice none 0 0)) 96 (0, 0)))) (H : St W w F) : Calls Try.prog 15 #[.pointer (some ⟨z, 0, none⟩), .int .i64 n] w (Ret fun v w' => v = .bool false ∧ St W w' F) := by
  have H0 := H.front hi
  refine calls_of_go (n := 17) Try.func15 rfl Try.ntmps15 rfl ?_
  refine g_seq ?_
  refine g_region ?_
  refine r_cons (s_assign (.bool false) rfl rfl ?_)
  refine r_nil ?_
  refine g_seq ?_
  refine g_region ?_
  refine r_cons (s_move (.pointer (some ⟨z, 0, none⟩)) rfl rfl ?_)
  refine r_cons (s_move (.int .i64 n) rfl rfl ?_)
  refine r_cons (s_call [.pointer (some ⟨z, 0, none⟩), .int .i64 n] pl_57 rfl rfl (SN_of_zero z n (i := 0) rfl H0) ?_)
  rintro _ w1 ⟨rfl, H2⟩
  refine r_cons (s_assign (.pointer none) rfl rfl ?_)
  refine r_nil ?_
  refine g_seq ?_
  refine g_region ?_
  refine r_cons (s_move (.pointer none) rfl rfl ?_)
  refine r_cons (s_pneq false un_100 rfl rfl rfl rfl ?_)
  refine r_cons (s_move (.bool false) rfl rfl ?_)
  refine r_cons (r_pass rfl rfl rfl rfl rfl ?_)
  refine r_cons (r_pass rfl rfl rfl rfl rfl ?_)
  refine r_cons (r_pass rfl rfl rfl rfl rfl ?_)
  refine r_cons (r_pass rfl rfl rfl rfl rfl ?_)
  refine r_cons (s_pick_f (.bool false) rfl rfl rfl ?_)
  refine r_cons (s_assign (.bool false) rfl rfl ?_)
  refine r_nil ?_
  refine g_ret' [.bool false] Try.func15 Try.results15 ⟨rfl, trivial⟩ ?_
  have H3 : St W w1 (blk z (.cells (stCells 0 zeroSt (.slice none 0 0)) 96 (0, 0)) :: (F.set i emp)) := H2
  exact ⟨rfl, St.back_same hi H3⟩
set_option maxHeartbeats 4000000 in
set_option maxRecDepth 100000 in
theorem SN_Len_nil {W w : World} {F : List Atom}  (H : St W w F) : Calls Try.prog 32 #[.pointer none] w (Ret fun v w' => v = .int .i64 0 ∧ St W w' F) := by
  refine calls_of_go (n := 10) Try.func32 rfl Try.ntmps32 rfl ?_
  refine g_seq ?_
  refine g_region ?_
  refine r_cons (s_assign (.int .i64 0) rfl rfl ?_)
  refine r_nil ?_
  refine g_seq ?_
  refine g_seq ?_
  refine g_region ?_
  refine r_cons (s_move (.pointer none) rfl rfl ?_)
  refine r_cons (s_call [.pointer none] pl_58 rfl rfl (SN_none_nil  H) ?_)
  rintro _ w1 ⟨rfl, H2⟩
  refine r_nil ?_
  refine g_true rfl ?_
  refine g_seq ?_
  refine g_region ?_
  refine r_cons (s_assign (.int .i64 0) rfl rfl ?_)
  refine r_nil ?_
  refine g_ret' [.int .i64 0] Try.func32 Try.results32 ⟨rfl, trivial⟩ ?_
  have H3 : St W w1 F := H2
  exact ⟨rfl, H3⟩
set_option maxHeartbeats 4000000 in
set_option maxRecDepth 100000 in
theorem SN_Len_zero {W w : World} {F : List Atom} (z : Nat)  {i : Nat} (hi : F[i]? = some (blk z (.cells (stCells 0 zeroSt (.slice none 0 0)) 96 (0, 0)))) (H : St W w F) : Calls Try.prog 32 #[.pointer (some ⟨z, 0, none⟩)] w (Ret fun v w' => v = .int .i64 0 ∧ St W w' F) := by
  have H0 := H.front hi
  refine calls_of_go (n := 10) Try.func32 rfl Try.ntmps32 rfl ?_
  refine g_seq ?_
  refine g_region ?_
  refine r_cons (s_assign (.int .i64 0) rfl rfl ?_)
  refine r_nil ?_
  refine g_seq ?_
  refine g_seq ?_
  refine g_region ?_
  refine r_cons (s_move (.pointer (some ⟨z, 0, none⟩)) rfl rfl ?_)
  refine r_cons (s_call [.pointer (some ⟨z, 0, none⟩)] pl_58 rfl rfl (SN_none_zero z  (i := 0) rfl H0) ?_)
  rintro _ w1 ⟨rfl, H2⟩
  refine r_nil ?_
  refine g_true rfl ?_
  refine g_seq ?_
  refine g_region ?_
  refine r_cons (s_assign (.int .i64 0) rfl rfl ?_)
  refine r_nil ?_
  refine g_ret' [.int .i64 0] Try.func32 Try.results32 ⟨rfl, trivial⟩ ?_
  have H3 : St W w1 (blk z (.cells (stCells 0 zeroSt (.slice none 0 0)) 96 (0, 0)) :: (F.set i emp)) := H2
  exact ⟨rfl, St.back_same hi H3⟩
set_option maxHeartbeats 4000000 in
set_option maxRecDepth 100000 in
theorem SN_Sources_nil {W w : World} {F : List Atom}  (H : St W w F) : Calls Try.prog 35 #[.pointer none] w (Ret fun v w' => v = .int .i64 0 ∧ St W w' F) := by
  refine calls_of_go (n := 9) Try.func35 rfl Try.ntmps35 rfl ?_
  refine g_seq ?_
  refine g_region ?_
  refine r_cons (s_assign (.int .i64 0) rfl rfl ?_)
  refine r_nil ?_
  refine g_seq ?_
  refine g_seq ?_
  refine g_region ?_
  refine r_cons (s_move (.pointer none) rfl rfl ?_)
  refine r_cons (s_call [.pointer none] pl_58 rfl rfl (SN_none_nil  H) ?_)
  rintro _ w1 ⟨rfl, H2⟩
  refine r_nil ?_
  refine g_true rfl ?_
  refine g_seq ?_
  refine g_region ?_
  refine r_cons (s_assign (.int .i64 0) rfl rfl ?_)
  refine r_nil ?_
  refine g_ret' [.int .i64 0] Try.func35 Try.results35 ⟨rfl, trivial⟩ ?_
  have H3 : St W w1 F := H2
  exact ⟨rfl, H3⟩
set_option maxHeartbeats 4000000 in
set_option maxRecDepth 100000 in
theorem SN_Sources_zero {W w : World} {F : List Atom} (z : Nat)  {i : Nat} (hi : F[i]? = some (blk z (.cells (stCells 0 zeroSt (.slice none 0 0)) 96 (0, 0)))) (H : St W w F) : Calls Try.prog 35 #[.pointer (some ⟨z, 0, none⟩)] w (Ret fun v w' => v = .int .i64 0 ∧ St W w' F) := by
  have H0 := H.front hi
  refine calls_of_go (n := 9) Try.func35 rfl Try.ntmps35 rfl ?_
  refine g_seq ?_
  refine g_region ?_
  refine r_cons (s_assign (.int .i64 0) rfl rfl ?_)
  refine r_nil ?_
  refine g_seq ?_
  refine g_seq ?_
  refine g_region ?_
  refine r_cons (s_move (.pointer (some ⟨z, 0, none⟩)) rfl rfl ?_)
  refine r_cons (s_call [.pointer (some ⟨z, 0, none⟩)] pl_58 rfl rfl (SN_none_zero z  (i := 0) rfl H0) ?_)
  rintro _ w1 ⟨rfl, H2⟩
  refine r_nil ?_
  refine g_true rfl ?_
  refine g_seq ?_
  refine g_region ?_
  refine r_cons (s_assign (.int .i64 0) rfl rfl ?_)
  refine r_nil ?_
  refine g_ret' [.int .i64 0] Try.func35 Try.results35 ⟨rfl, trivial⟩ ?_
  have H3 : St W w1 (blk z (.cells (stCells 0 zeroSt (.slice none 0 0)) 96 (0, 0)) :: (F.set i emp)) := H2
  exact ⟨rfl, St.back_same hi H3⟩
set_option maxHeartbeats 4000000 in
set_option maxRecDepth 100000 in
theorem SN_Clone_nil {W w : World} {F : List Atom}  (H : St W w F) : Calls Try.prog 27 #[.pointer none] w (Ret fun v w' => v = .pointer none ∧ St W w' F) := by
  refine calls_of_go (n := 20) Try.func27 rfl Try.ntmps27 rfl ?_
  refine g_seq ?_
  refine g_region ?_
  refine r_cons (s_assign (.pointer none) rfl rfl ?_)
  refine r_nil ?_
  refine g_seq ?_
  refine g_seq ?_
  refine g_region ?_
  refine r_cons (s_move (.pointer none) rfl rfl ?_)
  refine r_cons (s_call [.pointer none] pl_58 rfl rfl (SN_none_nil  H) ?_)
  rintro _ w1 ⟨rfl, H2⟩
  refine r_nil ?_
  refine g_true rfl ?_
  refine g_seq ?_
  refine g_region ?_
  refine r_cons (s_assign (.pointer none) rfl rfl ?_)
  refine r_nil ?_
  refine g_ret' [.pointer none] Try.func27 Try.results27 ⟨rfl, trivial⟩ ?_
  have H3 : St W w1 F := H2
  exact ⟨rfl, H3⟩
set_option maxHeartbeats 4000000 in
set_option maxRecDepth 100000 in
theorem SN_Clone_zero {W w : World} {F : List Atom} (z : Nat)  {i : Nat} (hi : F[i]? = some (blk z (.cells (stCells 0 zeroSt (.slice none 0 0)) 96 (0, 0)))) (H : St W w F) : Calls Try.prog 27 #[.pointer (some ⟨z, 0, none⟩)] w (Ret fun v w' => v = .pointer none ∧ St W w' F) := by
  have H0 := H.front hi
  refine calls_of_go (n := 20) Try.func27 rfl Try.ntmps27 rfl ?_
  refine g_seq ?_
  refine g_region ?_
  refine r_cons (s_assign (.pointer none) rfl rfl ?_)
  refine r_nil ?_
  refine g_seq ?_
  refine g_seq ?_
  refine g_region ?_
  refine r_cons (s_move (.pointer (some ⟨z, 0, none⟩)) rfl rfl ?_)
  refine r_cons (s_call [.pointer (some ⟨z, 0, none⟩)] pl_58 rfl rfl (SN_none_zero z  (i := 0) rfl H0) ?_)
  rintro _ w1 ⟨rfl, H2⟩
  refine r_nil ?_
  refine g_true rfl ?_
  refine g_seq ?_
  refine g_region ?_
  refine r_cons (s_assign (.pointer none) rfl rfl ?_)
  refine r_nil ?_
  refine g_ret' [.pointer none] Try.func27 Try.results27 ⟨rfl, trivial⟩ ?_
  have H3 : St W w1 (blk z (.cells (stCells 0 zeroSt (.slice none 0 0)) 96 (0, 0)) :: (F.set i emp)) := H2
  exact ⟨rfl, St.back_same hi H3⟩
set_option maxHeartbeats 4000000 in
set_option maxRecDepth 100000 in
theorem SN_Accept_nil {W w : World} {F : List Atom} (e : EvM) (q : Option Addr) (m d : Nat) (hone : (Value.slice q m d).oneCell' = true) (H : St W w F) : Calls Try.prog 16 #[.pointer none, .agg #[.int .i64 e.src.v, .int .i64 e.seq.v, .int .i64 e.time.v, .string e.typ.v, .slice q m d]] w (Ret fun v w' => v = .int .i64 2 ∧ St W w' F) := by
  refine calls_of_go (n := 75) Try.func16 rfl Try.ntmps16 rfl ?_
  refine g_seq ?_
  refine g_region ?_
  refine r_cons (s_box H 33 (.agg #[.int .i64 e.src.v, .int .i64 e.seq.v, .int .i64 e.time.v, .string e.typ.v, .slice q m d]) rfl (cs := #[.int .i64 e.src.v, .int .i64 e.seq.v, .int .i64 e.time.v, .string e.typ.v, .slice q m d]) rfl rfl ?_); intro bk1 w2 H3
  refine r_cons (s_assign (.int .i64 0) rfl rfl ?_)
  refine r_nil ?_
  refine g_seq ?_
  refine g_seq ?_
  refine g_region ?_
  refine r_cons (s_move (.pointer none) rfl rfl ?_)
  refine r_cons (s_call [.pointer none] pl_58 rfl rfl (SN_none_nil  H3) ?_)
  rintro _ w4 ⟨rfl, H5⟩
  refine r_nil ?_
  refine g_true rfl ?_
  refine g_seq ?_
  refine g_region ?_
  refine r_cons (s_assign (.int .i64 2) rfl rfl ?_)
  refine r_nil ?_
  refine g_ret' [.int .i64 2] Try.func16 Try.results16 ⟨rfl, trivial⟩ ?_
  have H6 : St W w4 F := (H5.drop 0 rfl)
  exact ⟨rfl, H6⟩
set_option maxHeartbeats 4000000 in
set_option maxRecDepth 100000 in
theorem SN_Accept_zero {W w : World} {F : List Atom} (z : Nat) (e : EvM) (q : Option Addr) (m d : Nat) (hone : (Value.slice q m d).oneCell' = true) {i : Nat} (hi : F[i]? = some (blk z (.cells (stCells 0 zeroSt (.slice none 0 0)) 96 (0, 0)))) (H : St W w F) : Calls Try.prog 16 #[.pointer (some ⟨z, 0, none⟩), .agg #[.int .i64 e.src.v, .int .i64 e.seq.v, .int .i64 e.time.v, .string e.typ.v, .slice q m d]] w (Ret fun v w' => v = .int .i64 2 ∧ St W w' F) := by
  have H0 := H.front hi
  refine calls_of_go (n := 75) Try.func16 rfl Try.ntmps16 rfl ?_
  refine g_seq ?_
  refine g_region ?_
  refine r_cons (s_box H0 33 (.agg #[.int .i64 e.src.v, .int .i64 e.seq.v, .int .i64 e.time.v, .string e.typ.v, .slice q m d]) rfl (cs := #[.int .i64 e.src.v, .int .i64 e.seq.v, .int .i64 e.time.v, .string e.typ.v, .slice q m d]) rfl rfl ?_); intro bk1 w2 H3
  refine r_cons (s_assign (.int .i64 0) rfl rfl ?_)
  refine r_nil ?_
  refine g_seq ?_
  refine g_seq ?_
  refine g_region ?_
  refine r_cons (s_move (.pointer (some ⟨z, 0, none⟩)) rfl rfl ?_)
  refine r_cons (s_call [.pointer (some ⟨z, 0, none⟩)] pl_58 rfl rfl (SN_none_zero z  (i := 1) rfl H3) ?_)
  rintro _ w4 ⟨rfl, H5⟩
  refine r_nil ?_
  refine g_true rfl ?_
  refine g_seq ?_
  refine g_region ?_
  refine r_cons (s_assign (.int .i64 2) rfl rfl ?_)
  refine r_nil ?_
  refine g_ret' [.int .i64 2] Try.func16 Try.results16 ⟨rfl, trivial⟩ ?_
  have H6 : St W w4 (blk z (.cells (stCells 0 zeroSt (.slice none 0 0)) 96 (0, 0)) :: (F.set i emp)) := ((H5.move 1 rfl).drop 1 rfl)
  exact ⟨rfl, St.back_same hi H6⟩
set_option maxHeartbeats 4000000 in
set_option maxRecDepth 100000 in
theorem SN_All_nil {W w : World} {F : List Atom}  (H : St W w F) : Calls Try.prog 34 #[.pointer none] w (Ret fun v w' => ∃ g, v = .func (.func 72) #[] #[.pointer (some ⟨g, 0, none⟩)] ∧ St W w' (AllA g [] :: F)) := by
  refine calls_of_go (n := 25) Try.func34 rfl Try.ntmps34 rfl ?_
  refine g_seq ?_
  refine g_region ?_
  refine r_cons (s_assign (.nilFunc) rfl rfl ?_)
  refine r_nil ?_
  refine g_seq ?_
  refine g_region ?_
  refine r_cons (s_alloc H 49 ze_49 rfl ?_); intro bk1 w2 H3
  refine r_nil ?_
  refine g_seq ?_
  refine g_seq ?_
  refine g_region ?_
  refine r_cons (s_move (.pointer none) rfl rfl ?_)
  refine r_cons (s_call [.pointer none] pl_58 rfl rfl (SN_none_nil  H3) ?_)
  rintro _ w4 ⟨rfl, H5⟩
  refine r_cons (s_not true rfl false rfl rfl ?_)
  refine r_nil ?_
  refine g_false rfl ?_
  refine g_skip ?_
  refine g_seq ?_
  refine g_region ?_
  refine r_cons (s_makeFunc (.func (.func 72) #[] #[.pointer (some ⟨bk1, 0, none⟩)]) rfl rfl ?_)
  refine r_cons (s_assign (.func (.func 72) #[] #[.pointer (some ⟨bk1, 0, none⟩)]) rfl rfl ?_)
  refine r_nil ?_
  refine g_ret' [.func (.func 72) #[] #[.pointer (some ⟨bk1, 0, none⟩)]] Try.func34 Try.results34 ⟨rfl, trivial⟩ ?_
  have H6 : St W w4 (blk bk1 (.cells #[.slice none 0 0] 49 (0, 0)) :: F) := H5
  have H7 := Row.nil_intro H6 33 5
  have H8 := evA_nil H7
  have H9 : St W w4 (blk bk1 (.cells #[.slice none 0 0] 49 (0, 0)) :: Row 33 5 (.slice none 0 0) 0 [] :: evA ([] : List EvD) :: F) := ((H8.move 1 rfl).move 2 rfl)
  exact ⟨bk1, rfl, St.shut_ex ((none, 0), []) (St.shut_star (ls := [pure' (([] : List EvD).map EvD.ev = []), blk bk1 (.cells #[.slice none 0 0] 49 (0, 0)), Row 33 5 (.slice none 0 0) 0 [], evA ([] : List EvD)]) (St.shut_pure rfl H9))⟩
set_option maxHeartbeats 4000000 in
set_option maxRecDepth 100000 in
theorem SN_All_zero {W w : World} {F : List Atom} (z : Nat)  {i : Nat} (hi : F[i]? = some (blk z (.cells (stCells 0 zeroSt (.slice none 0 0)) 96 (0, 0)))) (H : St W w F) : Calls Try.prog 34 #[.pointer (some ⟨z, 0, none⟩)] w (Ret fun v w' => ∃ g, v = .func (.func 72) #[] #[.pointer (some ⟨g, 0, none⟩)] ∧ St W w' (AllA g [] :: F)) := by
  have H0 := H.front hi
  refine calls_of_go (n := 25) Try.func34 rfl Try.ntmps34 rfl ?_
  refine g_seq ?_
  refine g_region ?_
  refine r_cons (s_assign (.nilFunc) rfl rfl ?_)
  refine r_nil ?_
  refine g_seq ?_
  refine g_region ?_
  refine r_cons (s_alloc H0 49 ze_49 rfl ?_); intro bk1 w2 H3
  refine r_nil ?_
  refine g_seq ?_
  refine g_seq ?_
  refine g_region ?_
  refine r_cons (s_move (.pointer (some ⟨z, 0, none⟩)) rfl rfl ?_)
  refine r_cons (s_call [.pointer (some ⟨z, 0, none⟩)] pl_58 rfl rfl (SN_none_zero z  (i := 1) rfl H3) ?_)
  rintro _ w4 ⟨rfl, H5⟩
  refine r_cons (s_not true rfl false rfl rfl ?_)
  refine r_nil ?_
  refine g_false rfl ?_
  refine g_skip ?_
  refine g_seq ?_
  refine g_region ?_
  refine r_cons (s_makeFunc (.func (.func 72) #[] #[.pointer (some ⟨bk1, 0, none⟩)]) rfl rfl ?_)
  refine r_cons (s_assign (.func (.func 72) #[] #[.pointer (some ⟨bk1, 0, none⟩)]) rfl rfl ?_)
  refine r_nil ?_
  refine g_ret' [.func (.func 72) #[] #[.pointer (some ⟨bk1, 0, none⟩)]] Try.func34 Try.results34 ⟨rfl, trivial⟩ ?_
  have H6 : St W w4 (blk bk1 (.cells #[.slice none 0 0] 49 (0, 0)) :: blk z (.cells (stCells 0 zeroSt (.slice none 0 0)) 96 (0, 0)) :: (F.set i emp)) := ((H5.move 1 rfl).move 1 rfl)
  have H7 : St W w4 (blk bk1 (.cells #[.slice none 0 0] 49 (0, 0)) :: F) := St.back_same (i := i + 1) (by exact hi) (H6.move 1 rfl)
  have H8 := Row.nil_intro H7 33 5
  have H9 := evA_nil H8
  have H10 : St W w4 (blk bk1 (.cells #[.slice none 0 0] 49 (0, 0)) :: Row 33 5 (.slice none 0 0) 0 [] :: evA ([] : List EvD) :: F) := ((H9.move 1 rfl).move 2 rfl)
  exact ⟨bk1, rfl, St.shut_ex ((none, 0), []) (St.shut_star (ls := [pure' (([] : List EvD).map EvD.ev = []), blk bk1 (.cells #[.slice none 0 0] 49 (0, 0)), Row 33 5 (.slice none 0 0) 0 [], evA ([] : List EvD)]) (St.shut_pure rfl H10))⟩
set_option maxHeartbeats 4000000 in
set_option maxRecDepth 100000 in
theorem BN_room {W w : World} {F : List Atom} (n : Int) (H : St W w F) : Calls Try.prog 73 #[.pointer none, .int .i64 n] w (Ret fun v w' => v = .int .i64 2 ∧ St W w' F) := by
  refine calls_of_go (n := 23) Try.func73 rfl Try.ntmps73 rfl ?_
  refine g_seq ?_
  refine g_region ?_
  refine r_cons (s_assign (.int .i64 0) rfl rfl ?_)
  refine r_nil ?_
  refine g_seq ?_
  refine g_block ?_
  refine g_seq ?_
  refine g_region ?_
  refine r_cons (s_move (.pointer none) rfl rfl ?_)
  refine r_cons (s_peql true un_59 rfl rfl rfl rfl ?_)
  refine r_cons (s_move (.bool true) rfl rfl ?_)
  refine r_cons (r_pass rfl rfl rfl rfl rfl ?_)
  refine r_cons (r_pass rfl rfl rfl rfl rfl ?_)
  refine r_cons (r_pass rfl rfl rfl rfl rfl ?_)
  refine r_cons (r_pass rfl rfl rfl rfl rfl ?_)
  refine r_cons (r_pass rfl rfl rfl rfl rfl ?_)
  refine r_cons (s_pick_t (.bool true) rfl rfl rfl ?_)
  refine r_cons (s_assign (.bool true) rfl rfl ?_)
  refine r_nil ?_
  refine g_true rfl ?_
  refine g_seq ?_
  refine g_region ?_
  refine r_cons (s_assign (.int .i64 2) rfl rfl ?_)
  refine r_nil ?_
  refine g_ret' [.int .i64 2] Try.func73 Try.results73 ⟨rfl, trivial⟩ ?_
  exact ⟨rfl, H⟩
set_option maxHeartbeats 4000000 in
set_option maxRecDepth 100000 in
theorem BN_Flags {W w : World} {F : List Atom}  (H : St W w F) : Calls Try.prog 75 #[.pointer none, .slice none 0 0] w (Ret fun v w' => v = .int .i64 2 ∧ St W w' F) := by
  refine calls_of_go (n := 25) Try.func75 rfl Try.ntmps75 rfl ?_
  refine g_seq ?_
  refine g_region ?_
  refine r_cons (s_assign (.int .i64 0) rfl rfl ?_)
  refine r_nil ?_
  refine g_seq ?_
  refine g_region ?_
  refine r_cons (s_move (.pointer none) rfl rfl ?_)
  refine r_cons (s_move (.slice none 0 0) rfl rfl ?_)
  refine r_cons (s_len 0 rfl ⟨_, un_50⟩ rfl ?_)
  refine r_cons (s_call [.pointer none, .int .i64 0] pl_73 rfl rfl (BN_room 0 H) ?_)
  rintro _ w1 ⟨rfl, H2⟩
  refine r_cons (s_assign (.int .i64 2) rfl rfl ?_)
  refine r_nil ?_
  refine g_seq ?_
  refine g_seq ?_
  refine g_region ?_
  refine r_cons (s_move (.int .i64 2) rfl rfl ?_)
  refine r_cons (s_eql false rfl rfl (dfalse (by decide)) rfl ?_)
  refine r_nil ?_
  refine g_false rfl ?_
  refine g_skip ?_
  refine g_seq ?_
  refine g_region ?_
  refine r_cons (s_move (.int .i64 2) rfl rfl ?_)
  refine r_cons (s_assign (.int .i64 2) rfl rfl ?_)
  refine r_nil ?_
  refine g_ret' [.int .i64 2] Try.func75 Try.results75 ⟨rfl, trivial⟩ ?_
  exact ⟨rfl, H2⟩
set_option maxHeartbeats 4000000 in
set_option maxRecDepth 100000 in
theorem BN_Bits {W w : World} {F : List Atom} (n : Int) (H : St W w F) : Calls Try.prog 51 #[.pointer none, .int .i64 n] w (Ret fun v w' => v = .tuple #[.int .u64 0, .int .i64 2] ∧ St W w' F) := by
  refine calls_of_go (n := 50) Try.func51 rfl Try.ntmps51 rfl ?_
  refine g_seq ?_
  refine g_region ?_
  refine r_cons (s_assign (.int .u64 0) rfl rfl ?_)
  refine r_cons (s_assign (.int .i64 0) rfl rfl ?_)
  refine r_nil ?_
  refine g_seq ?_
  refine g_block ?_
  refine g_seq ?_
  refine g_region ?_
  refine r_cons (s_move (.pointer none) rfl rfl ?_)
  refine r_cons (s_peql true un_76 rfl rfl rfl rfl ?_)
  refine r_cons (s_move (.bool true) rfl rfl ?_)
  refine r_cons (r_pass rfl rfl rfl rfl rfl ?_)
  refine r_cons (r_pass rfl rfl rfl rfl rfl ?_)
  refine r_cons (r_pass rfl rfl rfl rfl rfl ?_)
  refine r_cons (r_pass rfl rfl rfl rfl rfl ?_)
  refine r_cons (r_pass rfl rfl rfl rfl rfl ?_)
  refine r_cons (s_pick_t (.bool true) rfl rfl rfl ?_)
  refine r_cons (s_assign (.bool true) rfl rfl ?_)
  refine r_nil ?_
  refine g_true rfl ?_
  refine g_seq ?_
  refine g_region ?_
  refine r_cons (s_assign (.int .u64 0) rfl rfl ?_)
  refine r_cons (s_assign (.int .i64 2) rfl rfl ?_)
  refine r_nil ?_
  refine g_ret' [.int .u64 0, .int .i64 2] Try.func51 Try.results51 ⟨rfl, rfl, trivial⟩ ?_
  exact ⟨rfl, H⟩
set_option maxHeartbeats 4000000 in
set_option maxRecDepth 100000 in
theorem BN_Take {W w : World} {F : List Atom}  (H : St W w F) : Calls Try.prog 52 #[.pointer none] w (Ret fun v w' => v = .tuple #[.agg #[.int .i64 0, .int .i64 0, .int .i64 0, .string ByteArray.empty, .slice none 0 0], .int .i64 2] ∧ St W w' F) := by
  refine calls_of_go (n := 39) Try.func52 rfl Try.ntmps52 rfl ?_
  refine g_seq ?_
  refine g_region ?_
  refine r_cons (s_alloc H 33 ze_33 rfl ?_); intro bk1 w2 H3
  refine r_cons (s_assign (.int .i64 0) rfl rfl ?_)
  refine r_nil ?_
  refine g_seq ?_
  refine g_seq ?_
  refine g_region ?_
  refine r_cons (s_move (.pointer none) rfl rfl ?_)
  refine r_cons (s_call [.pointer none, .int .i64 0] pl_51 rfl rfl (BN_Bits 0 H3) ?_)
  rintro _ w4 ⟨rfl, H5⟩
  refine r_cons (s_move (.tuple #[.int .u64 0, .int .i64 2]) rfl rfl ?_)
  refine r_cons (s_extract (.int .u64 0) #[.int .u64 0, .int .i64 2] rfl rfl rfl ?_)
  refine r_cons (s_extract (.int .i64 2) #[.int .u64 0, .int .i64 2] rfl rfl rfl ?_)
  refine r_cons (s_assign (.int .u64 0) rfl rfl ?_)
  refine r_cons (s_assign (.int .i64 2) rfl rfl ?_)
  refine r_nil ?_
  refine g_seq ?_
  refine g_region ?_
  refine r_cons (s_move (.int .i64 2) rfl rfl ?_)
  refine r_cons (s_eql true rfl rfl (dtrue (by decide)) rfl ?_)
  refine r_nil ?_
  refine g_true rfl ?_
  refine g_seq ?_
  refine g_region ?_
  refine r_cons (s_build (cs := #[.int .i64 0, .int .i64 0, .int .i64 0, .string ByteArray.empty, .slice none 0 0]) (by kernel_rfl) rfl ?_)
  refine r_cons (s_storeAgg H5 0 #[.int .i64 0, .int .i64 0, .int .i64 0, .string ByteArray.empty, .slice none 0 0] 5 rfl rfl rfl sz_33 rfl (by simp [Value.oneCell']) (Nat.le_of_ble_eq_true rfl) (fun o h1 h2 => by first | (simp; done) | (simp; omega)) (cs' := #[.int .i64 0, .int .i64 0, .int .i64 0, .string ByteArray.empty, .slice none 0 0]) rfl ?_); intro w6 H7
  refine r_cons (s_assign (.int .i64 2) rfl rfl ?_)
  refine r_nil ?_
  refine g_ret' [.agg #[.int .i64 0, .int .i64 0, .int .i64 0, .string ByteArray.empty, .slice none 0 0], .int .i64 2] Try.func52 Try.results52 ⟨(res_cellN rfl ag_33 (H7.blk_at (i := 0) rfl) (Nat.le_of_ble_eq_true rfl) rfl), rfl, trivial⟩ ?_
  have H8 : St W w6 F := (H7.drop 0 rfl)
  exact ⟨rfl, H8⟩
set_option maxHeartbeats 4000000 in
set_option maxRecDepth 100000 in
theorem BN_Put {W w : World} {F : List Atom} (e : EvM) (q : Option Addr) (m d : Nat) (hone : (Value.slice q m d).oneCell' = true) (H : St W w F) : Calls Try.prog 39 #[.pointer none, .agg #[.int .i64 e.src.v, .int .i64 e.seq.v, .int .i64 e.time.v, .string e.typ.v, .slice q m d]] w (Ret fun v w' => v = .int .i64 2 ∧ St W w' F) := by
  refine calls_of_go (n := 28) Try.func39 rfl Try.ntmps39 rfl ?_
  refine g_seq ?_
  refine g_region ?_
  refine r_cons (s_box H 33 (.agg #[.int .i64 e.src.v, .int .i64 e.seq.v, .int .i64 e.time.v, .string e.typ.v, .slice q m d]) rfl (cs := #[.int .i64 e.src.v, .int .i64 e.seq.v, .int .i64 e.time.v, .string e.typ.v, .slice q m d]) rfl rfl ?_); intro bk1 w2 H3
  refine r_cons (s_assign (.int .i64 0) rfl rfl ?_)
  refine r_nil ?_
  refine g_seq ?_
  refine g_seq ?_
  refine g_region ?_
  refine r_cons (s_move (.pointer none) rfl rfl ?_)
  refine r_cons (s_call [.pointer none, .slice none 0 0] pl_75 rfl rfl (BN_Flags  H3) ?_)
  rintro _ w4 ⟨rfl, H5⟩
  refine r_cons (s_neq true rfl rfl (nfalse (by decide)) rfl ?_)
  refine r_nil ?_
  refine g_true rfl ?_
  refine g_seq ?_
  refine g_region ?_
  refine r_cons (s_assign (.int .i64 2) rfl rfl ?_)
  refine r_nil ?_
  refine g_ret' [.int .i64 2] Try.func39 Try.results39 ⟨rfl, trivial⟩ ?_
  have H6 : St W w4 F := (H5.drop 0 rfl)
  exact ⟨rfl, H6⟩
end Sl
