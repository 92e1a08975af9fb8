/- Walks of the program's functions. Printed by a program of this claim's author. No condition. -/
import Derived.Test.YteogdknlofcpiaaSlBA
import Derived.Test.YteogdknlofcpiaaSlDB
import Derived.Test.YteogdknlofcpiaaSlQ
import Derived.Test.YteogdknlofcpiaaSlR
import Derived.Test.YteogdknlofcpiaaSlG
import Derived.Test.YteogdknlofcpiaaSlDK
import Derived.Test.YteogdknlofcpiaaSlDH
import Derived.Test.YteogdknlofcpiaaSlDN
import Derived.Test.YteogdknlofcpiaaSlDO
import Derived.Test.YteogdknlofcpiaaSlDP
import Derived.Test.YteogdknlofcpiaaProg
import Derived.Test.YteogdknlofcpiaaWalkMigrateLands3
namespace Sl
open _root_.Go _root_.Go.RowKit _root_.Go.Proofs
set_option linter.all false
set_option maxHeartbeats 4000000 in
set_option maxRecDepth 100000 in
theorem Ref24_NewLanding_no {W w : World} {F : List Atom} (op : I64) (ht : timeB op.v = false) (H : St W w F) : Calls Try.prog 19 #[.int .i64 op.v] w (Ret fun v w' => v = .tuple #[.pointer none, .int .i64 1] ∧ St W w' F) := by
  refine calls_of_go (n := 10) Try.func19 rfl Try.ntmps19 rfl ?_
  refine g_seq ?_
  refine g_region ?_
  refine r_cons (s_assign (.pointer none) rfl rfl ?_)
  refine r_cons (s_assign (.int .i64 0) rfl rfl ?_)
  refine r_nil ?_
  refine g_seq ?_
  refine g_seq ?_
  refine g_region ?_
  refine r_cons (s_move (.int .i64 op.v) rfl rfl ?_)
  refine r_cons (s_call [.int .i64 op.v] pl_60 rfl rfl (ref24_time op.v H) ?_)
  rintro _ w1 ⟨rfl, H2⟩
  refine r_cons (s_not (timeB op.v) rfl true (by rw [ht]; rfl) rfl ?_)
  refine r_nil ?_
  refine g_true rfl ?_
  refine g_seq ?_
  refine g_region ?_
  refine r_cons (s_assign (.pointer none) rfl rfl ?_)
  refine r_cons (s_assign (.int .i64 1) rfl rfl ?_)
  refine r_nil ?_
  refine g_ret' [.pointer none, .int .i64 1] Try.func19 Try.results19 ⟨rfl, rfl, trivial⟩ ?_
  exact ⟨rfl, H2⟩
set_option maxHeartbeats 4000000 in
set_option maxRecDepth 100000 in
theorem MigrateLands_ {W w : World} {F : List Atom} (op : I64) (script : List StpD) (sv : Value) (hst : ∀ x ∈ script, bsOk x.it.bs) {j a : Nat} (hj : F[j]? = some (Im 11 sv script.length (script.flatMap stpCell))) (ha : F[a]? = some (stpsA script)) (H : St W w F) : Calls Try.prog 4 #[.int .i64 op.v, sv] w (Ret fun v w' => v = .bool true ∧ St W w' F) := by
  obtain ⟨pp1, cc2, rfl, hsh3⟩ := Rd.shape (Im.rd H (i := j) hj)
  have H4 := H.dup (i := j) hj (Im_pers _ _ _ _)
  have hmlH4 := Im.len H4 (i := 0) rfl
  have H5 := H4.dup (i := a + 1) (by exact ha) (stpsA_pers _)
  have H6 : St W w (stpsA script :: Im 11 (.slice pp1 script.length cc2) script.length (script.flatMap stpCell) :: F) := H5
  have hml1 := Im.len H6 (i := 1) rfl
  refine calls_of_go (n := 144) Try.func4 rfl Try.ntmps4 rfl ?_
  refine g_seq ?_
  refine g_region ?_
  refine r_cons (s_assign (.bool false) rfl rfl ?_)
  refine r_nil ?_
  refine g_seq ?_
  refine g_region ?_
  refine r_cons (s_move (.int .i64 op.v) rfl rfl ?_)
  by_cases hb7 : (timeB op.v) = true
  · skip
    refine r_cons (s_call [.int .i64 op.v] pl_18 rfl rfl (NewLanding_yes op hb7 H6) ?_)
    rintro _ w9 ⟨bk8, rfl, H10⟩
    refine r_cons (s_move (.tuple #[.pointer (some ⟨bk8, 0, none⟩), .int .i64 0]) rfl rfl ?_)
    refine r_cons (s_extract (.pointer (some ⟨bk8, 0, none⟩)) #[.pointer (some ⟨bk8, 0, none⟩), .int .i64 0] rfl rfl rfl ?_)
    refine r_cons (s_extract (.int .i64 0) #[.pointer (some ⟨bk8, 0, none⟩), .int .i64 0] rfl rfl rfl ?_)
    refine r_cons (s_assign (.pointer (some ⟨bk8, 0, none⟩)) rfl rfl ?_)
    refine r_cons (s_assign (.int .i64 0) rfl rfl ?_)
    refine r_nil ?_
    refine g_seq ?_
    refine g_region ?_
    refine r_cons (s_move (.int .i64 op.v) rfl rfl ?_)
    refine r_cons (s_call [.int .i64 op.v] pl_19 rfl rfl (Ref24_NewLanding_yes op hb7 H10) ?_)
    rintro _ w12 ⟨bk11, rfl, H13⟩
    refine r_cons (s_move (.tuple #[.pointer (some ⟨bk11, 0, none⟩), .int .i64 0]) rfl rfl ?_)
    refine r_cons (s_extract (.pointer (some ⟨bk11, 0, none⟩)) #[.pointer (some ⟨bk11, 0, none⟩), .int .i64 0] rfl rfl rfl ?_)
    refine r_cons (s_extract (.int .i64 0) #[.pointer (some ⟨bk11, 0, none⟩), .int .i64 0] rfl rfl rfl ?_)
    refine r_cons (s_assign (.pointer (some ⟨bk11, 0, none⟩)) rfl rfl ?_)
    refine r_cons (s_assign (.int .i64 0) rfl rfl ?_)
    refine r_nil ?_
    refine g_seq ?_
    refine g_seq ?_
    refine g_region ?_
    refine r_cons (s_call [] pl_10 rfl rfl (begun_ H13) ?_)
    rintro _ w14 ⟨rfl, H15⟩
    refine r_cons (s_not true rfl false rfl rfl ?_)
    refine r_cons (s_move (.bool false) rfl rfl ?_)
    refine r_cons (r_take rfl rfl ?_)
    refine s_move (.int .i64 0) rfl rfl ?_
    refine r_cons (r_take rfl rfl ?_)
    refine s_move (.int .i64 0) rfl rfl ?_
    refine r_cons (r_take rfl rfl ?_)
    refine s_neq false rfl rfl (ntrue (by decide)) rfl ?_
    refine r_cons (s_pick_f (.bool false) rfl rfl rfl ?_)
    refine r_cons (s_move (.bool false) rfl rfl ?_)
    refine r_cons (r_take rfl rfl ?_)
    refine s_move (.pointer (some ⟨bk8, 0, none⟩)) rfl rfl ?_
    refine r_cons (r_take rfl rfl ?_)
    refine s_peql false un_44 rfl rfl rfl rfl ?_
    refine r_cons (r_take rfl rfl ?_)
    refine s_move (.pointer (some ⟨bk11, 0, none⟩)) rfl rfl ?_
    refine r_cons (r_take rfl rfl ?_)
    refine s_peql false un_47 rfl rfl rfl rfl ?_
    refine r_cons (r_take rfl rfl ?_)
    refine s_bneq false un_4 rfl rfl (ntrue rfl) rfl ?_
    refine r_cons (s_pick_f (.bool false) rfl rfl rfl ?_)
    refine r_nil ?_
    refine g_false rfl ?_
    refine g_skip ?_
    refine g_seq ?_
    refine g_seq ?_
    refine g_region ?_
    refine r_cons (s_move (.pointer (some ⟨bk11, 0, none⟩)) rfl rfl ?_)
    refine r_cons (s_peql false un_47 rfl rfl rfl rfl ?_)
    refine r_nil ?_
    refine g_false rfl ?_
    refine g_skip ?_
    refine g_seq ?_
    refine g_seq ?_
    refine g_region ?_
    refine r_cons (s_move (.slice pp1 script.length cc2) rfl rfl ?_)
    refine r_cons (s_len script.length rfl ⟨_, un_43⟩ rfl ?_)
    refine r_cons (s_move (.int .i64 0) rfl rfl ?_)
    refine r_nil ?_
    refine g_block ?_
    obtain ⟨pA16, cA17, gA18, oA19, kA20, eA21, zA22, he28, hn23, hp24, hx25, hs26, hml, H27⟩ := Im.open_ H15 (i := 3) rfl
    obtain ⟨rfl, rfl⟩ : pp1 = pA16 ∧ cc2 = cA17 := by injection he28 with a_ b_ c_; exact ⟨a_, c_⟩
    have H29 : St W w14 (LnA bk8 (newL op) :: RnA bk11 (newL op) :: stpsA script :: imi (0 < script.length) gA18 (.cells kA20 eA21 zA22) :: F) := ((((H27.move 3 rfl).move 2 rfl).move 3 rfl).drop 4 rfl)
    refine g_loop_inv (fun (x_ : Nat × Nat × LdS) => match x_ with | (i, X, s) => [(4, .bool false), (5, .pointer (some ⟨X, 0, none⟩)), (7, .pointer (some ⟨bk11, 0, none⟩)), (48, .slice pp1 script.length cc2), (49, .int .i64 (script.length : Int)), (50, .int .i64 (i : Int))]) (fun (x_ : Nat × Nat × LdS) w => match x_ with | (i, X, s) => (i ≤ script.length) ∧ (LOk s) ∧ St W w (LnA X s :: RnA bk11 s :: stpsA script :: imi (0 < script.length) gA18 (.cells kA20 eA21 zA22) :: F)) (fun (x_ : Nat × Nat × LdS) => match x_ with | (i, X, s) => script.length - i) (0, bk8, (newL op)) ?_ ?_ ?_
    · exact ⟨by first | rfl | exact vint (by omega), by first | rfl | exact vint (by omega), by first | rfl | exact vint (by omega), by first | rfl | exact vint (by omega), by first | rfl | exact vint (by omega), by first | rfl | exact vint (by omega), trivial⟩
    · exact ⟨(by omega), (newL_ok op), H29⟩
    · rintro ⟨i, X, s⟩ ρ30 w31 ⟨hi9, hs, H32⟩ nx33
      change Ends _ _ (upds ρ30 [(4, .bool false), (5, .pointer (some ⟨X, 0, none⟩)), (7, .pointer (some ⟨bk11, 0, none⟩)), (48, .slice pp1 script.length cc2), (49, .int .i64 (script.length : Int)), (50, .int .i64 (i : Int))]) w31
      refine g_seq ?_
      refine g_region ?_
      by_cases hc34 : (i : Int) < (script.length : Int)
      · skip
        refine r_cons (s_lss true rfl rfl (dtrue hc34) rfl ?_)
        refine r_nil ?_
        refine g_seq ?_
        refine g_true rfl ?_
        refine g_skip ?_
        refine g_seq ?_
        refine g_block ?_
        refine g_seq ?_
        refine g_region ?_
        refine r_cons (s_move (.int .i64 (i : Int)) rfl rfl ?_)
        refine r_cons (s_indexAddr gA18 (off := oA19) (i : Int) 11 (oA19 + i * 11) (by exact congrArg (fun z_ => Value.slice z_ script.length cc2) (hp24 (by omega))) rfl el_43 (by omega) rfl rfl ?_)
        refine r_cons (s_loadAgg [.int .i64 ((script.getD i default).do_.v), .int .i64 ((script.getD i default).it.op.v), .int .i64 ((script.getD i default).it.inp.v), .int .i64 ((script.getD i default).it.ep.v), .int .i64 ((script.getD i default).it.kind.v), .slice ((script.getD i default).it.p) ((script.getD i default).it.bs.length) ((script.getD i default).it.c), .int .i64 ((script.getD i default).it.t.v), .int .i64 ((script.getD i default).pc.v.op.v), .int .i64 ((script.getD i default).pc.v.many.v), .int .i64 ((script.getD i default).pc.v.index.v), .slice ((script.getD i default).pc.p) ((script.getD i default).pc.v.data.length) ((script.getD i default).pc.c)] 11 ag_53 rfl (H32.imi_at (i := 3) rfl (by omega)) (by have := elem_size (i := i) (s := 11) (hs26 (by omega)) (by omega); omega) (elem_take stpCell_len (hx25 (by omega)) (by omega) default) rfl ?_)
        refine r_cons (s_alloc H32 53 ze_53 rfl ?_); intro bk35 w36 H37
        refine r_cons (s_assign (.int .i64 (i : Int)) rfl rfl ?_)
        refine r_cons (s_storeAgg H37 0 #[.int .i64 ((script.getD i default).do_.v), .int .i64 ((script.getD i default).it.op.v), .int .i64 ((script.getD i default).it.inp.v), .int .i64 ((script.getD i default).it.ep.v), .int .i64 ((script.getD i default).it.kind.v), .slice ((script.getD i default).it.p) ((script.getD i default).it.bs.length) ((script.getD i default).it.c), .int .i64 ((script.getD i default).it.t.v), .int .i64 ((script.getD i default).pc.v.op.v), .int .i64 ((script.getD i default).pc.v.many.v), .int .i64 ((script.getD i default).pc.v.index.v), .slice ((script.getD i default).pc.p) ((script.getD i default).pc.v.data.length) ((script.getD i default).pc.c)] 11 rfl rfl rfl sz_53 rfl (by simp [Value.oneCell']) (Nat.le_of_ble_eq_true rfl) (fun o h1 h2 => by first | (simp; done) | (simp; omega)) (cs' := #[.int .i64 ((script.getD i default).do_.v), .int .i64 ((script.getD i default).it.op.v), .int .i64 ((script.getD i default).it.inp.v), .int .i64 ((script.getD i default).it.ep.v), .int .i64 ((script.getD i default).it.kind.v), .slice ((script.getD i default).it.p) ((script.getD i default).it.bs.length) ((script.getD i default).it.c), .int .i64 ((script.getD i default).it.t.v), .int .i64 ((script.getD i default).pc.v.op.v), .int .i64 ((script.getD i default).pc.v.many.v), .int .i64 ((script.getD i default).pc.v.index.v), .slice ((script.getD i default).pc.p) ((script.getD i default).pc.v.data.length) ((script.getD i default).pc.c)]) (by kernel_rfl) ?_); intro w38 H39
        refine r_nil ?_
        refine g_seq ?_
        refine g_seq ?_
        refine g_region ?_
        have H40 : St W w38 (Im 1 (.slice ((script.getD i default).pc.p) ((script.getD i default).pc.v.data.length) ((script.getD i default).pc.c)) (((script.getD i default).pc.v.data).length) (((script.getD i default).pc.v.data).flatMap u8c) :: blk bk35 (.cells #[.int .i64 ((script.getD i default).do_.v), .int .i64 ((script.getD i default).it.op.v), .int .i64 ((script.getD i default).it.inp.v), .int .i64 ((script.getD i default).it.ep.v), .int .i64 ((script.getD i default).it.kind.v), .slice ((script.getD i default).it.p) ((script.getD i default).it.bs.length) ((script.getD i default).it.c), .int .i64 ((script.getD i default).it.t.v), .int .i64 ((script.getD i default).pc.v.op.v), .int .i64 ((script.getD i default).pc.v.many.v), .int .i64 ((script.getD i default).pc.v.index.v), .slice ((script.getD i default).pc.p) ((script.getD i default).pc.v.data.length) ((script.getD i default).pc.c)] 53 (0, 0)) :: LnA X s :: RnA bk11 s :: stpsA script :: imi (0 < script.length) gA18 (.cells kA20 eA21 zA22) :: F) := stps_dt H39 (i := 3) rfl (j := i) (by omega)
        have H41 : St W w38 (bndsA ((script.getD i default).it.bs) :: Im 1 (.slice ((script.getD i default).pc.p) ((script.getD i default).pc.v.data.length) ((script.getD i default).pc.c)) (((script.getD i default).pc.v.data).length) (((script.getD i default).pc.v.data).flatMap u8c) :: blk bk35 (.cells #[.int .i64 ((script.getD i default).do_.v), .int .i64 ((script.getD i default).it.op.v), .int .i64 ((script.getD i default).it.inp.v), .int .i64 ((script.getD i default).it.ep.v), .int .i64 ((script.getD i default).it.kind.v), .slice ((script.getD i default).it.p) ((script.getD i default).it.bs.length) ((script.getD i default).it.c), .int .i64 ((script.getD i default).it.t.v), .int .i64 ((script.getD i default).pc.v.op.v), .int .i64 ((script.getD i default).pc.v.many.v), .int .i64 ((script.getD i default).pc.v.index.v), .slice ((script.getD i default).pc.p) ((script.getD i default).pc.v.data.length) ((script.getD i default).pc.c)] 53 (0, 0)) :: LnA X s :: RnA bk11 s :: stpsA script :: imi (0 < script.length) gA18 (.cells kA20 eA21 zA22) :: F) := stps_bd H40 (i := 4) rfl (j := i) (by omega)
        have H42 : St W w38 (Im 6 (.slice ((script.getD i default).it.p) ((script.getD i default).it.bs.length) ((script.getD i default).it.c)) ((script.getD i default).it.bs.length) ((script.getD i default).it.bs.flatMap bndCell) :: bndsA ((script.getD i default).it.bs) :: Im 1 (.slice ((script.getD i default).pc.p) ((script.getD i default).pc.v.data.length) ((script.getD i default).pc.c)) (((script.getD i default).pc.v.data).length) (((script.getD i default).pc.v.data).flatMap u8c) :: blk bk35 (.cells #[.int .i64 ((script.getD i default).do_.v), .int .i64 ((script.getD i default).it.op.v), .int .i64 ((script.getD i default).it.inp.v), .int .i64 ((script.getD i default).it.ep.v), .int .i64 ((script.getD i default).it.kind.v), .slice ((script.getD i default).it.p) ((script.getD i default).it.bs.length) ((script.getD i default).it.c), .int .i64 ((script.getD i default).it.t.v), .int .i64 ((script.getD i default).pc.v.op.v), .int .i64 ((script.getD i default).pc.v.many.v), .int .i64 ((script.getD i default).pc.v.index.v), .slice ((script.getD i default).pc.p) ((script.getD i default).pc.v.data.length) ((script.getD i default).pc.c)] 53 (0, 0)) :: LnA X s :: RnA bk11 s :: stpsA script :: imi (0 < script.length) gA18 (.cells kA20 eA21 zA22) :: F) := stps_bs H41 (i := 5) rfl (j := i) (by omega)
        refine r_cons (s_move (.int .i64 (i : Int)) rfl rfl ?_)
        refine r_cons (s_rem ((i : Int) % 3) rfl rfl (by omega) (tmod_pos (by omega)) rfl ?_)
        by_cases hc43 : (i : Int) % 3 = 2
        · skip
          refine r_cons (s_eql true rfl rfl (dtrue hc43) rfl ?_)
          refine r_nil ?_
          refine g_cut (fun (x_ : Nat) => match x_ with | Y => [(4, .bool false), (5, .pointer (some ⟨Y, 0, none⟩)), (7, .pointer (some ⟨bk11, 0, none⟩)), (48, .slice pp1 script.length cc2), (49, .int .i64 (script.length : Int)), (50, .int .i64 (i : Int)), (10, .pointer (some ⟨bk35, 0, none⟩))]) (fun (x_ : Nat) w => match x_ with | Y => St W w (Im 6 (.slice ((script.getD i default).it.p) ((script.getD i default).it.bs.length) ((script.getD i default).it.c)) ((script.getD i default).it.bs.length) ((script.getD i default).it.bs.flatMap bndCell) :: bndsA ((script.getD i default).it.bs) :: Im 1 (.slice ((script.getD i default).pc.p) ((script.getD i default).pc.v.data.length) ((script.getD i default).pc.c)) (((script.getD i default).pc.v.data).length) (((script.getD i default).pc.v.data).flatMap u8c) :: blk bk35 (.cells #[.int .i64 ((script.getD i default).do_.v), .int .i64 ((script.getD i default).it.op.v), .int .i64 ((script.getD i default).it.inp.v), .int .i64 ((script.getD i default).it.ep.v), .int .i64 ((script.getD i default).it.kind.v), .slice ((script.getD i default).it.p) ((script.getD i default).it.bs.length) ((script.getD i default).it.c), .int .i64 ((script.getD i default).it.t.v), .int .i64 ((script.getD i default).pc.v.op.v), .int .i64 ((script.getD i default).pc.v.many.v), .int .i64 ((script.getD i default).pc.v.index.v), .slice ((script.getD i default).pc.p) ((script.getD i default).pc.v.data.length) ((script.getD i default).pc.c)] 53 (0, 0)) :: LnA Y s :: RnA bk11 s :: stpsA script :: imi (0 < script.length) gA18 (.cells kA20 eA21 zA22) :: F)) ?_ ?_
          · rintro Y ρ47 w45 H46
            change Ends _ _ (upds ρ47 [(4, .bool false), (5, .pointer (some ⟨Y, 0, none⟩)), (7, .pointer (some ⟨bk11, 0, none⟩)), (48, .slice pp1 script.length cc2), (49, .int .i64 (script.length : Int)), (50, .int .i64 (i : Int)), (10, .pointer (some ⟨bk35, 0, none⟩))]) w45
            refine g_seq ?_
            refine g_seq ?_
            refine g_region ?_
            refine r_cons (s_fieldAddr 53 0 0 0 3 rfl fi_53_0 rfl rfl ?_)
            refine r_cons (s_load (.int .i64 ((script.getD i default).do_.v)) ag_3 rfl (H46.blk_at (i := 3) rfl) rfl rfl ?_)
            refine r_nil ?_
            refine g_cut (fun (x_ : LdS) => match x_ with | s2 => [(4, .bool false), (5, .pointer (some ⟨Y, 0, none⟩)), (7, .pointer (some ⟨bk11, 0, none⟩)), (48, .slice pp1 script.length cc2), (49, .int .i64 (script.length : Int)), (50, .int .i64 (i : Int))]) (fun (x_ : LdS) w => match x_ with | s2 => (LOk s2) ∧ St W w (Im 6 (.slice ((script.getD i default).it.p) ((script.getD i default).it.bs.length) ((script.getD i default).it.c)) ((script.getD i default).it.bs.length) ((script.getD i default).it.bs.flatMap bndCell) :: bndsA ((script.getD i default).it.bs) :: Im 1 (.slice ((script.getD i default).pc.p) ((script.getD i default).pc.v.data.length) ((script.getD i default).pc.c)) (((script.getD i default).pc.v.data).length) (((script.getD i default).pc.v.data).flatMap u8c) :: blk bk35 (.cells #[.int .i64 ((script.getD i default).do_.v), .int .i64 ((script.getD i default).it.op.v), .int .i64 ((script.getD i default).it.inp.v), .int .i64 ((script.getD i default).it.ep.v), .int .i64 ((script.getD i default).it.kind.v), .slice ((script.getD i default).it.p) ((script.getD i default).it.bs.length) ((script.getD i default).it.c), .int .i64 ((script.getD i default).it.t.v), .int .i64 ((script.getD i default).pc.v.op.v), .int .i64 ((script.getD i default).pc.v.many.v), .int .i64 ((script.getD i default).pc.v.index.v), .slice ((script.getD i default).pc.p) ((script.getD i default).pc.v.data.length) ((script.getD i default).pc.c)] 53 (0, 0)) :: LnA Y s2 :: RnA bk11 s2 :: stpsA script :: imi (0 < script.length) gA18 (.cells kA20 eA21 zA22) :: F)) ?_ ?_
            · rintro s2 ρ51 w49 ⟨hs2, H50⟩
              change Ends _ _ (upds ρ51 [(4, .bool false), (5, .pointer (some ⟨Y, 0, none⟩)), (7, .pointer (some ⟨bk11, 0, none⟩)), (48, .slice pp1 script.length cc2), (49, .int .i64 (script.length : Int)), (50, .int .i64 (i : Int))]) w49
              refine g_seq ?_
              have H52 := H50.move 5 rfl
              obtain ⟨⟨pp53, cc54, pp55, cc56, L57, Ps58, hL59, hP60⟩, H61⟩ := St.open_ex H52
              have H62 := St.open_star H61
              have hpl := pv_len hP60
              have hlw := lw_len hL59
              have H63 : St W w49 (blk bk11 (.cells #[.int .i64 s2.op.v, .slice pp53 L57.length cc54, .slice pp55 Ps58.length cc56, .bool s2.ov] 62 (0, 0)) :: Im 6 (.slice pp53 L57.length cc54) L57.length (L57.flatMap itCell) :: itsA L57 :: Im 4 (.slice pp55 Ps58.length cc56) Ps58.length (Ps58.flatMap pcCell) :: pcA Ps58 :: Im 6 (.slice ((script.getD i default).it.p) ((script.getD i default).it.bs.length) ((script.getD i default).it.c)) ((script.getD i default).it.bs.length) ((script.getD i default).it.bs.flatMap bndCell) :: bndsA ((script.getD i default).it.bs) :: Im 1 (.slice ((script.getD i default).pc.p) ((script.getD i default).pc.v.data.length) ((script.getD i default).pc.c)) (((script.getD i default).pc.v.data).length) (((script.getD i default).pc.v.data).flatMap u8c) :: blk bk35 (.cells #[.int .i64 ((script.getD i default).do_.v), .int .i64 ((script.getD i default).it.op.v), .int .i64 ((script.getD i default).it.inp.v), .int .i64 ((script.getD i default).it.ep.v), .int .i64 ((script.getD i default).it.kind.v), .slice ((script.getD i default).it.p) ((script.getD i default).it.bs.length) ((script.getD i default).it.c), .int .i64 ((script.getD i default).it.t.v), .int .i64 ((script.getD i default).pc.v.op.v), .int .i64 ((script.getD i default).pc.v.many.v), .int .i64 ((script.getD i default).pc.v.index.v), .slice ((script.getD i default).pc.p) ((script.getD i default).pc.v.data.length) ((script.getD i default).pc.c)] 53 (0, 0)) :: LnA Y s2 :: stpsA script :: imi (0 < script.length) gA18 (.cells kA20 eA21 zA22) :: F) := H62
              refine g_quiet (fun w' => St W w' (blk bk11 (.cells #[.int .i64 s2.op.v, .slice pp53 L57.length cc54, .slice pp55 Ps58.length cc56, .bool s2.ov] 62 (0, 0)) :: Im 6 (.slice pp53 L57.length cc54) L57.length (L57.flatMap itCell) :: itsA L57 :: Im 4 (.slice pp55 Ps58.length cc56) Ps58.length (Ps58.flatMap pcCell) :: pcA Ps58 :: Im 6 (.slice ((script.getD i default).it.p) ((script.getD i default).it.bs.length) ((script.getD i default).it.c)) ((script.getD i default).it.bs.length) ((script.getD i default).it.bs.flatMap bndCell) :: bndsA ((script.getD i default).it.bs) :: Im 1 (.slice ((script.getD i default).pc.p) ((script.getD i default).pc.v.data.length) ((script.getD i default).pc.c)) (((script.getD i default).pc.v.data).length) (((script.getD i default).pc.v.data).flatMap u8c) :: blk bk35 (.cells #[.int .i64 ((script.getD i default).do_.v), .int .i64 ((script.getD i default).it.op.v), .int .i64 ((script.getD i default).it.inp.v), .int .i64 ((script.getD i default).it.ep.v), .int .i64 ((script.getD i default).it.kind.v), .slice ((script.getD i default).it.p) ((script.getD i default).it.bs.length) ((script.getD i default).it.c), .int .i64 ((script.getD i default).it.t.v), .int .i64 ((script.getD i default).pc.v.op.v), .int .i64 ((script.getD i default).pc.v.many.v), .int .i64 ((script.getD i default).pc.v.index.v), .slice ((script.getD i default).pc.p) ((script.getD i default).pc.v.data.length) ((script.getD i default).pc.c)] 53 (0, 0)) :: LnA Y s2 :: stpsA script :: imi (0 < script.length) gA18 (.cells kA20 eA21 zA22) :: F)) mixed (by kernel_rfl) H63.drew ?_
              refine q_cons (q_val rfl rfl rfl (by intro w hw; exact x_move (.pointer (some ⟨Y, 0, none⟩)) rfl w) ?_)
              refine q_cons (q_enter (args := #[.pointer (some ⟨Y, 0, none⟩)]) (v := .int .i64 (lwN s2 : Int)) rfl rfl rfl (x_call pl_28 [.pointer (some ⟨Y, 0, none⟩)] rfl) (fun w hw => Ln_Waiting Y s2 (i := 9) rfl hw) ?_)
              refine q_cons (q_val rfl rfl rfl (by intro w hw; exact x_move (.pointer (some ⟨bk11, 0, none⟩)) rfl w) ?_)
              refine q_cons (q_val rfl rfl rfl (by intro w hw; exact x_nilCheck (.pointer (some ⟨bk11, 0, none⟩)) rfl ⟨_, rfl⟩ w) ?_)
              refine q_cons (q_val rfl rfl rfl (by intro w hw; exact x_fieldAddr 62 1 1 1 22 rfl fi_62_1 rfl w) ?_)
              refine q_cons (q_val rfl rfl rfl (by intro w hw; exact x_load (.slice pp53 L57.length cc54) ag_22 rfl (hw.blk_at (i := 0) rfl) rfl) ?_)
              refine q_cons (q_val rfl rfl rfl (by intro w hw; exact x_len L57.length rfl ⟨_, un_22⟩ w) ?_)
              refine q_cons (q_val rfl rfl rfl (by intro w hw; exact x_neq false rfl rfl (ntrue (by omega)) w) ?_)
              refine q_nil ?_
              intro w64 H65
              refine g_false rfl ?_
              refine g_skip ?_
              refine g_inBlock ?_
              refine g_region ?_
              refine r_cons (s_add ((i : Int) + 1) rfl rfl (wi64 (by omega)) rfl ?_)
              refine r_cons (s_move (.int .i64 ((i : Int) + 1)) rfl rfl ?_)
              refine r_nil ?_
              have H66 : St W w64 (RnA bk11 s2 :: Im 6 (.slice ((script.getD i default).it.p) ((script.getD i default).it.bs.length) ((script.getD i default).it.c)) ((script.getD i default).it.bs.length) ((script.getD i default).it.bs.flatMap bndCell) :: bndsA ((script.getD i default).it.bs) :: Im 1 (.slice ((script.getD i default).pc.p) ((script.getD i default).pc.v.data.length) ((script.getD i default).pc.c)) (((script.getD i default).pc.v.data).length) (((script.getD i default).pc.v.data).flatMap u8c) :: blk bk35 (.cells #[.int .i64 ((script.getD i default).do_.v), .int .i64 ((script.getD i default).it.op.v), .int .i64 ((script.getD i default).it.inp.v), .int .i64 ((script.getD i default).it.ep.v), .int .i64 ((script.getD i default).it.kind.v), .slice ((script.getD i default).it.p) ((script.getD i default).it.bs.length) ((script.getD i default).it.c), .int .i64 ((script.getD i default).it.t.v), .int .i64 ((script.getD i default).pc.v.op.v), .int .i64 ((script.getD i default).pc.v.many.v), .int .i64 ((script.getD i default).pc.v.index.v), .slice ((script.getD i default).pc.p) ((script.getD i default).pc.v.data.length) ((script.getD i default).pc.c)] 53 (0, 0)) :: LnA Y s2 :: stpsA script :: imi (0 < script.length) gA18 (.cells kA20 eA21 zA22) :: F) := St.shut_ex (⟨pp53, cc54, pp55, cc56, L57, Ps58, hL59, hP60⟩ : RnX s2) (St.shut_star (ls := [blk bk11 (.cells #[.int .i64 s2.op.v, .slice pp53 L57.length cc54, .slice pp55 Ps58.length cc56, .bool s2.ov] 62 (0, 0)), Im 6 (.slice pp53 L57.length cc54) L57.length (L57.flatMap itCell), itsA L57, Im 4 (.slice pp55 Ps58.length cc56) Ps58.length (Ps58.flatMap pcCell), pcA Ps58]) H65)
              have H67 : St W w64 (LnA Y s2 :: RnA bk11 s2 :: stpsA script :: imi (0 < script.length) gA18 (.cells kA20 eA21 zA22) :: F) := ((((((((H66.move 7 rfl).move 7 rfl).move 2 rfl).move 7 rfl).drop 4 rfl).drop 4 rfl).drop 4 rfl).drop 4 rfl)
              exact nx33 (i + 1, Y, s2) _ _ ⟨(by omega), hs2, H67⟩ (by first | (dsimp only; omega) | omega) ⟨by first | rfl | exact vint (by omega), by first | rfl | exact vint (by omega), by first | rfl | exact vint (by omega), by first | rfl | exact vint (by omega), by first | rfl | exact vint (by omega), by first | rfl | exact vint (by omega), trivial⟩
            · intro join48
              refine g_block ?_
              refine g_seq ?_
              refine g_region ?_
              by_cases hc68 : (script.getD i default).do_.v = 0
              · skip
                refine r_cons (s_eql true rfl rfl (dtrue hc68) rfl ?_)
                refine r_cons (s_assign (.bool true) rfl rfl ?_)
                refine r_nil ?_
                refine g_true rfl ?_
                refine g_seq ?_
                have H69 : St W w45 (Im 6 (.slice ((script.getD i default).it.p) ((script.getD i default).it.bs.length) ((script.getD i default).it.c)) ((script.getD i default).it.bs.length) ((script.getD i default).it.bs.flatMap bndCell) :: bndsA ((script.getD i default).it.bs) :: Im 1 (.slice ((script.getD i default).pc.p) ((script.getD i default).pc.v.data.length) ((script.getD i default).pc.c)) (((script.getD i default).pc.v.data).length) (((script.getD i default).pc.v.data).flatMap u8c) :: blk bk35 (.cells #[.int .i64 ((script.getD i default).do_.v), .int .i64 ((script.getD i default).it.op.v), .int .i64 ((script.getD i default).it.inp.v), .int .i64 ((script.getD i default).it.ep.v), .int .i64 ((script.getD i default).it.kind.v), .slice ((script.getD i default).it.p) ((script.getD i default).it.bs.length) ((script.getD i default).it.c), .int .i64 ((script.getD i default).it.t.v), .int .i64 ((script.getD i default).pc.v.op.v), .int .i64 ((script.getD i default).pc.v.many.v), .int .i64 ((script.getD i default).pc.v.index.v), .slice ((script.getD i default).pc.p) ((script.getD i default).pc.v.data.length) ((script.getD i default).pc.c)] 53 (0, 0)) :: stpsA script :: imi (0 < script.length) gA18 (.cells kA20 eA21 zA22) :: LnA Y s :: RnA bk11 s :: F) := ((((((((H46.move 5 rfl).move 5 rfl).move 7 rfl).move 7 rfl).move 7 rfl).move 7 rfl).move 7 rfl).move 7 rfl)
                refine g_mix (fun t_ w => St W w (Im 6 (.slice ((script.getD i default).it.p) ((script.getD i default).it.bs.length) ((script.getD i default).it.c)) ((script.getD i default).it.bs.length) ((script.getD i default).it.bs.flatMap bndCell) :: bndsA ((script.getD i default).it.bs) :: Im 1 (.slice ((script.getD i default).pc.p) ((script.getD i default).pc.v.data.length) ((script.getD i default).pc.c)) (((script.getD i default).pc.v.data).length) (((script.getD i default).pc.v.data).flatMap u8c) :: blk bk35 (.cells #[.int .i64 ((script.getD i default).do_.v), .int .i64 ((script.getD i default).it.op.v), .int .i64 ((script.getD i default).it.inp.v), .int .i64 ((script.getD i default).it.ep.v), .int .i64 ((script.getD i default).it.kind.v), .slice ((script.getD i default).it.p) ((script.getD i default).it.bs.length) ((script.getD i default).it.c), .int .i64 ((script.getD i default).it.t.v), .int .i64 ((script.getD i default).pc.v.op.v), .int .i64 ((script.getD i default).pc.v.many.v), .int .i64 ((script.getD i default).pc.v.index.v), .slice ((script.getD i default).pc.p) ((script.getD i default).pc.v.data.length) ((script.getD i default).pc.c)] 53 (0, 0)) :: stpsA script :: imi (0 < script.length) gA18 (.cells kA20 eA21 zA22) :: t_)) (LnA Y s :: RnA bk11 s :: F) mixed 9 rfl H69.drew ?_
                refine f_first 0 (listed' := #[true, false, false, false, false, false, false, false, false]) rfl (by kernel_rfl) (by kernel_rfl) (by kernel_rfl) rfl ?_
                refine f_val rfl rfl rfl (by intro t_ w hw; exact x_move (.pointer (some ⟨Y, 0, none⟩)) rfl w) ?_
                refine f_first 1 (listed' := #[true, true, false, false, false, false, false, false, false]) rfl (by kernel_rfl) (by kernel_rfl) (by kernel_rfl) rfl ?_
                refine f_val rfl rfl rfl (by intro t_ w hw; exact x_fieldAddr 53 1 1 1 32 rfl fi_53_1 rfl w) ?_
                refine f_first 2 (listed' := #[true, true, true, false, false, false, false, false, false]) rfl (by kernel_rfl) (by kernel_rfl) (by kernel_rfl) rfl ?_
                refine f_val rfl rfl rfl (by intro t_ w hw; exact x_loadAgg [.int .i64 ((script.getD i default).it.op.v), .int .i64 ((script.getD i default).it.inp.v), .int .i64 ((script.getD i default).it.ep.v), .int .i64 ((script.getD i default).it.kind.v), .slice ((script.getD i default).it.p) ((script.getD i default).it.bs.length) ((script.getD i default).it.c), .int .i64 ((script.getD i default).it.t.v)] 6 ag_32 rfl (hw.blk_at (i := 3) rfl) (Nat.le_of_ble_eq_true rfl) rfl) ?_
                refine f_first 4 (listed' := #[true, true, true, false, true, false, false, false, false]) rfl (by kernel_rfl) (by kernel_rfl) (by kernel_rfl) rfl ?_
                refine f_val rfl rfl rfl (by intro t_ w hw; exact x_move (.pointer (some ⟨bk11, 0, none⟩)) rfl w) ?_
                refine f_first 5 (listed' := #[true, true, true, false, true, true, false, false, false]) rfl (by kernel_rfl) (by kernel_rfl) (by kernel_rfl) rfl ?_
                refine f_val rfl rfl rfl (by intro t_ w hw; exact x_fieldAddr 53 1 1 1 32 rfl fi_53_1 rfl w) ?_
                refine f_first 6 (listed' := #[true, true, true, false, true, true, true, false, false]) rfl (by kernel_rfl) (by kernel_rfl) (by kernel_rfl) rfl ?_
                refine f_val rfl rfl rfl (by intro t_ w hw; exact x_loadAgg [.int .i64 ((script.getD i default).it.op.v), .int .i64 ((script.getD i default).it.inp.v), .int .i64 ((script.getD i default).it.ep.v), .int .i64 ((script.getD i default).it.kind.v), .slice ((script.getD i default).it.p) ((script.getD i default).it.bs.length) ((script.getD i default).it.c), .int .i64 ((script.getD i default).it.t.v)] 6 ag_32 rfl (hw.blk_at (i := 3) rfl) (Nat.le_of_ble_eq_true rfl) rfl) ?_
                refine f_all (rs := [3]) (by kernel_rfl) (by simp) ?_
                refine a_cons ⟨_, rfl, ?_⟩ (fun x hx => absurd hx (by simp))
                intro w70 H71
                try dsimp only at H71
                refine s_call [.pointer (some ⟨Y, 0, none⟩), .agg #[.int .i64 ((script.getD i default).it.op.v), .int .i64 ((script.getD i default).it.inp.v), .int .i64 ((script.getD i default).it.ep.v), .int .i64 ((script.getD i default).it.kind.v), .slice ((script.getD i default).it.p) ((script.getD i default).it.bs.length) ((script.getD i default).it.c), .int .i64 ((script.getD i default).it.t.v)]] pl_21 rfl rfl (Ln_Arrive Y s ((script.getD i default).it) hs (hst _ (getD_memS (by omega))) (i := 6) rfl (ip := 0) rfl (iq := 1) rfl H71) ?_
                rintro _ w72 ⟨rfl, H73⟩
                refine ⟨LnA Y (arS s ((script.getD i default).it)) :: RnA bk11 s :: F, ?_, H73⟩
                change FReg _ _ _ _ _ #[true, true, true, true, true, true, true, false, false] _ _
                refine f_all (rs := [7]) (by kernel_rfl) (by simp) ?_
                refine a_cons ⟨_, rfl, ?_⟩ (fun x hx => absurd hx (by simp))
                intro w74 H75
                try dsimp only at H75
                refine s_call [.pointer (some ⟨bk11, 0, none⟩), .agg #[.int .i64 ((script.getD i default).it.op.v), .int .i64 ((script.getD i default).it.inp.v), .int .i64 ((script.getD i default).it.ep.v), .int .i64 ((script.getD i default).it.kind.v), .slice ((script.getD i default).it.p) ((script.getD i default).it.bs.length) ((script.getD i default).it.c), .int .i64 ((script.getD i default).it.t.v)]] pl_23 rfl rfl (Rn_Arrive bk11 s ((script.getD i default).it) hs (hst _ (getD_memS (by omega))) (i := 7) rfl (ip := 0) rfl (iq := 1) rfl H75) ?_
                rintro _ w76 ⟨rfl, H77⟩
                refine ⟨LnA Y (arS s ((script.getD i default).it)) :: RnA bk11 (arS s ((script.getD i default).it)) :: F, ?_, H77⟩
                change FReg _ _ _ _ _ #[true, true, true, true, true, true, true, true, false] _ _
                refine f_first 8 (listed' := #[true, true, true, true, true, true, true, true, true]) rfl (by kernel_rfl) (by kernel_rfl) (by kernel_rfl) rfl ?_
                refine f_val rfl rfl rfl (by intro t_ w hw; exact x_neq false rfl rfl (ntrue rfl) w) ?_
                refine f_done (by kernel_rfl) ?_
                intro w78 H79
                refine g_false rfl ?_
                refine g_skip ?_
                refine g_inBlock ?_
                have H80 : St W w78 (Im 6 (.slice ((script.getD i default).it.p) ((script.getD i default).it.bs.length) ((script.getD i default).it.c)) ((script.getD i default).it.bs.length) ((script.getD i default).it.bs.flatMap bndCell) :: bndsA ((script.getD i default).it.bs) :: Im 1 (.slice ((script.getD i default).pc.p) ((script.getD i default).pc.v.data.length) ((script.getD i default).pc.c)) (((script.getD i default).pc.v.data).length) (((script.getD i default).pc.v.data).flatMap u8c) :: blk bk35 (.cells #[.int .i64 ((script.getD i default).do_.v), .int .i64 ((script.getD i default).it.op.v), .int .i64 ((script.getD i default).it.inp.v), .int .i64 ((script.getD i default).it.ep.v), .int .i64 ((script.getD i default).it.kind.v), .slice ((script.getD i default).it.p) ((script.getD i default).it.bs.length) ((script.getD i default).it.c), .int .i64 ((script.getD i default).it.t.v), .int .i64 ((script.getD i default).pc.v.op.v), .int .i64 ((script.getD i default).pc.v.many.v), .int .i64 ((script.getD i default).pc.v.index.v), .slice ((script.getD i default).pc.p) ((script.getD i default).pc.v.data.length) ((script.getD i default).pc.c)] 53 (0, 0)) :: LnA Y (arS s ((script.getD i default).it)) :: RnA bk11 (arS s ((script.getD i default).it)) :: stpsA script :: imi (0 < script.length) gA18 (.cells kA20 eA21 zA22) :: F) := ((((((((H79.move 5 rfl).move 5 rfl).move 7 rfl).move 7 rfl).move 7 rfl).move 7 rfl).move 7 rfl).move 7 rfl)
                exact join48 ((arS s ((script.getD i default).it))) _ _ ⟨(hs.ar _), H80⟩ ⟨by first | rfl | exact vint (by omega), by first | rfl | exact vint (by omega), by first | rfl | exact vint (by omega), by first | rfl | exact vint (by omega), by first | rfl | exact vint (by omega), by first | rfl | exact vint (by omega), trivial⟩
              · skip
                refine r_cons (s_eql false rfl rfl (dfalse hc68) rfl ?_)
                refine r_cons (s_assign (.bool false) rfl rfl ?_)
                refine r_nil ?_
                refine g_false rfl ?_
                refine g_seq ?_
                refine g_region ?_
                by_cases hc81 : (script.getD i default).do_.v = 1
                · skip
                  refine r_cons (s_eql true rfl rfl (dtrue hc81) rfl ?_)
                  refine r_cons (s_assign (.bool true) rfl rfl ?_)
                  refine r_nil ?_
                  refine g_true rfl ?_
                  refine g_seq ?_
                  refine g_region ?_
                  refine r_cons (s_move (.pointer (some ⟨Y, 0, none⟩)) rfl rfl ?_)
                  refine r_cons (s_fieldAddr 53 2 7 7 51 rfl fi_53_2 rfl rfl ?_)
                  refine r_cons (s_loadAgg [.int .i64 ((script.getD i default).pc.v.op.v), .int .i64 ((script.getD i default).pc.v.many.v), .int .i64 ((script.getD i default).pc.v.index.v), .slice ((script.getD i default).pc.p) ((script.getD i default).pc.v.data.length) ((script.getD i default).pc.c)] 4 ag_51 rfl (H46.blk_at (i := 3) rfl) (Nat.le_of_ble_eq_true rfl) rfl rfl ?_)
                  refine r_cons (s_call [.pointer (some ⟨Y, 0, none⟩), .agg #[.int .i64 ((script.getD i default).pc.v.op.v), .int .i64 ((script.getD i default).pc.v.many.v), .int .i64 ((script.getD i default).pc.v.index.v), .slice ((script.getD i default).pc.p) ((script.getD i default).pc.v.data.length) ((script.getD i default).pc.c)]] pl_22 rfl rfl (Ln_PieceG Y s ((script.getD i default).pc) hs (i := 4) rfl (j := 2) rfl H46) ?_)
                  rintro _ w82 ⟨rfl, H83⟩
                  refine r_cons (s_move (.tuple #[.bool (lpB s (script.getD i default).pc.v), .int .i64 (lpE s (script.getD i default).pc.v)]) rfl rfl ?_)
                  refine r_cons (s_extract (.bool (lpB s (script.getD i default).pc.v)) #[.bool (lpB s (script.getD i default).pc.v), .int .i64 (lpE s (script.getD i default).pc.v)] rfl rfl rfl ?_)
                  refine r_cons (s_extract (.int .i64 (lpE s (script.getD i default).pc.v)) #[.bool (lpB s (script.getD i default).pc.v), .int .i64 (lpE s (script.getD i default).pc.v)] rfl rfl rfl ?_)
                  refine r_cons (s_assign (.bool (lpB s (script.getD i default).pc.v)) rfl rfl ?_)
                  refine r_cons (s_assign (.int .i64 (lpE s (script.getD i default).pc.v)) rfl rfl ?_)
                  refine r_nil ?_
                  refine g_seq ?_
                  refine g_region ?_
                  refine r_cons (s_move (.pointer (some ⟨bk11, 0, none⟩)) rfl rfl ?_)
                  refine r_cons (s_fieldAddr 53 2 7 7 51 rfl fi_53_2 rfl rfl ?_)
                  refine r_cons (s_loadAgg [.int .i64 ((script.getD i default).pc.v.op.v), .int .i64 ((script.getD i default).pc.v.many.v), .int .i64 ((script.getD i default).pc.v.index.v), .slice ((script.getD i default).pc.p) ((script.getD i default).pc.v.data.length) ((script.getD i default).pc.c)] 4 ag_51 rfl (H83.blk_at (i := 3) rfl) (Nat.le_of_ble_eq_true rfl) rfl rfl ?_)
                  refine r_cons (s_call [.pointer (some ⟨bk11, 0, none⟩), .agg #[.int .i64 ((script.getD i default).pc.v.op.v), .int .i64 ((script.getD i default).pc.v.many.v), .int .i64 ((script.getD i default).pc.v.index.v), .slice ((script.getD i default).pc.p) ((script.getD i default).pc.v.data.length) ((script.getD i default).pc.c)]] pl_24 rfl rfl (Rn_Piece bk11 s ((script.getD i default).pc) hs (i := 5) rfl (j := 2) rfl H83) ?_)
                  rintro _ w84 ⟨rfl, H85⟩
                  refine r_cons (s_move (.tuple #[.bool (lpB s (script.getD i default).pc.v), .int .i64 (lpE s (script.getD i default).pc.v)]) rfl rfl ?_)
                  refine r_cons (s_extract (.bool (lpB s (script.getD i default).pc.v)) #[.bool (lpB s (script.getD i default).pc.v), .int .i64 (lpE s (script.getD i default).pc.v)] rfl rfl rfl ?_)
                  refine r_cons (s_extract (.int .i64 (lpE s (script.getD i default).pc.v)) #[.bool (lpB s (script.getD i default).pc.v), .int .i64 (lpE s (script.getD i default).pc.v)] rfl rfl rfl ?_)
                  refine r_cons (s_assign (.bool (lpB s (script.getD i default).pc.v)) rfl rfl ?_)
                  refine r_cons (s_assign (.int .i64 (lpE s (script.getD i default).pc.v)) rfl rfl ?_)
                  refine r_nil ?_
                  refine g_seq ?_
                  refine g_region ?_
                  refine r_cons (s_move (.bool (lpB s (script.getD i default).pc.v)) rfl rfl ?_)
                  refine r_cons (s_move (.bool (lpB s (script.getD i default).pc.v)) rfl rfl ?_)
                  refine r_cons (s_bneq false un_4 rfl rfl (ntrue rfl) rfl ?_)
                  refine r_cons (s_move (.bool false) rfl rfl ?_)
                  refine r_cons (r_take rfl rfl ?_)
                  refine s_move (.int .i64 (lpE s (script.getD i default).pc.v)) rfl rfl ?_
                  refine r_cons (r_take rfl rfl ?_)
                  refine s_move (.int .i64 (lpE s (script.getD i default).pc.v)) rfl rfl ?_
                  refine r_cons (r_take rfl rfl ?_)
                  refine s_neq false rfl rfl (ntrue rfl) rfl ?_
                  refine r_cons (s_pick_f (.bool false) rfl rfl rfl ?_)
                  refine r_nil ?_
                  refine g_false rfl ?_
                  refine g_skip ?_
                  refine g_inBlock ?_
                  have H86 : St W w84 (Im 6 (.slice ((script.getD i default).it.p) ((script.getD i default).it.bs.length) ((script.getD i default).it.c)) ((script.getD i default).it.bs.length) ((script.getD i default).it.bs.flatMap bndCell) :: bndsA ((script.getD i default).it.bs) :: Im 1 (.slice ((script.getD i default).pc.p) ((script.getD i default).pc.v.data.length) ((script.getD i default).pc.c)) (((script.getD i default).pc.v.data).length) (((script.getD i default).pc.v.data).flatMap u8c) :: blk bk35 (.cells #[.int .i64 ((script.getD i default).do_.v), .int .i64 ((script.getD i default).it.op.v), .int .i64 ((script.getD i default).it.inp.v), .int .i64 ((script.getD i default).it.ep.v), .int .i64 ((script.getD i default).it.kind.v), .slice ((script.getD i default).it.p) ((script.getD i default).it.bs.length) ((script.getD i default).it.c), .int .i64 ((script.getD i default).it.t.v), .int .i64 ((script.getD i default).pc.v.op.v), .int .i64 ((script.getD i default).pc.v.many.v), .int .i64 ((script.getD i default).pc.v.index.v), .slice ((script.getD i default).pc.p) ((script.getD i default).pc.v.data.length) ((script.getD i default).pc.c)] 53 (0, 0)) :: LnA Y (lpS s (script.getD i default).pc.v) :: RnA bk11 (lpS s (script.getD i default).pc.v) :: stpsA script :: imi (0 < script.length) gA18 (.cells kA20 eA21 zA22) :: F) := ((((((((H85.move 7 rfl).move 7 rfl).move 7 rfl).move 7 rfl).move 7 rfl).move 7 rfl).move 7 rfl).move 7 rfl)
                  exact join48 ((lpS s (script.getD i default).pc.v)) _ _ ⟨(hs.lp _), H86⟩ ⟨by first | rfl | exact vint (by omega), by first | rfl | exact vint (by omega), by first | rfl | exact vint (by omega), by first | rfl | exact vint (by omega), by first | rfl | exact vint (by omega), by first | rfl | exact vint (by omega), trivial⟩
                · skip
                  refine r_cons (s_eql false rfl rfl (dfalse hc81) rfl ?_)
                  refine r_cons (s_assign (.bool false) rfl rfl ?_)
                  refine r_nil ?_
                  refine g_false rfl ?_
                  refine g_seq ?_
                  refine g_region ?_
                  refine r_cons (s_move (.pointer (some ⟨Y, 0, none⟩)) rfl rfl ?_)
                  refine r_cons (s_call [.pointer (some ⟨Y, 0, none⟩)] pl_25 rfl rfl (Ln_TakeG Y s hs (i := 4) rfl H46) ?_)
                  rintro _ w93 ⟨pp87, cc88, pp89, cc90, L91, rfl, hL92, H94⟩
                  refine r_cons (s_move (.tuple #[.slice pp87 ((ltB s).length) cc88, .slice pp89 L91.length cc90, .int .i64 (ltE s)]) rfl rfl ?_)
                  refine r_cons (s_extract (.slice pp87 ((ltB s).length) cc88) #[.slice pp87 ((ltB s).length) cc88, .slice pp89 L91.length cc90, .int .i64 (ltE s)] rfl rfl rfl ?_)
                  refine r_cons (s_extract (.slice pp89 L91.length cc90) #[.slice pp87 ((ltB s).length) cc88, .slice pp89 L91.length cc90, .int .i64 (ltE s)] rfl rfl rfl ?_)
                  refine r_cons (s_extract (.int .i64 (ltE s)) #[.slice pp87 ((ltB s).length) cc88, .slice pp89 L91.length cc90, .int .i64 (ltE s)] rfl rfl rfl ?_)
                  refine r_cons (s_assign (.slice pp87 ((ltB s).length) cc88) rfl rfl ?_)
                  refine r_cons (s_assign (.slice pp89 L91.length cc90) rfl rfl ?_)
                  refine r_cons (s_assign (.int .i64 (ltE s)) rfl rfl ?_)
                  refine r_nil ?_
                  refine g_seq ?_
                  refine g_region ?_
                  refine r_cons (s_move (.pointer (some ⟨bk11, 0, none⟩)) rfl rfl ?_)
                  refine r_cons (s_call [.pointer (some ⟨bk11, 0, none⟩)] pl_26 rfl rfl (Rn_Take bk11 s hs (i := 8) rfl H94) ?_)
                  rintro _ w101 ⟨pp95, cc96, pp97, cc98, L99, rfl, hL100, H102⟩
                  refine r_cons (s_move (.tuple #[.slice pp95 ((ltB s).length) cc96, .slice pp97 L99.length cc98, .int .i64 (ltE s)]) rfl rfl ?_)
                  refine r_cons (s_extract (.slice pp95 ((ltB s).length) cc96) #[.slice pp95 ((ltB s).length) cc96, .slice pp97 L99.length cc98, .int .i64 (ltE s)] rfl rfl rfl ?_)
                  refine r_cons (s_extract (.slice pp97 L99.length cc98) #[.slice pp95 ((ltB s).length) cc96, .slice pp97 L99.length cc98, .int .i64 (ltE s)] rfl rfl rfl ?_)
                  refine r_cons (s_extract (.int .i64 (ltE s)) #[.slice pp95 ((ltB s).length) cc96, .slice pp97 L99.length cc98, .int .i64 (ltE s)] rfl rfl rfl ?_)
                  refine r_cons (s_assign (.slice pp95 ((ltB s).length) cc96) rfl rfl ?_)
                  refine r_cons (s_assign (.slice pp97 L99.length cc98) rfl rfl ?_)
                  refine r_cons (s_assign (.int .i64 (ltE s)) rfl rfl ?_)
                  refine r_nil ?_
                  refine g_seq ?_
                  refine g_region ?_
                  refine r_cons (s_move (.slice pp87 ((ltB s).length) cc88) rfl rfl ?_)
                  refine r_cons (s_move (.slice pp95 ((ltB s).length) cc96) rfl rfl ?_)
                  refine r_cons (s_call [.slice pp87 ((ltB s).length) cc88, .slice pp95 ((ltB s).length) cc96] pl_27 rfl rfl (bytes_Equal _ _ _ _ _ _ (ltB s) (ltB s) RdA.row RdA.row (j := 3) rfl (k := 0) rfl H102) ?_)
                  rintro _ w103 ⟨rfl, H104⟩
                  refine r_cons (s_not (decide ((ltB s) = (ltB s))) rfl false (by rw [(decide_eq_true rfl)]; rfl) rfl ?_)
                  refine r_cons (s_move (.bool false) rfl rfl ?_)
                  refine r_cons (r_take rfl rfl ?_)
                  refine s_move (.slice pp89 L91.length cc90) rfl rfl ?_
                  refine r_cons (r_take rfl rfl ?_)
                  refine s_move (.slice pp97 L99.length cc98) rfl rfl ?_
                  refine r_cons (r_take rfl rfl ?_)
                  refine s_call [.slice pp89 L91.length cc90, .slice pp97 L99.length cc98] pl_15 rfl rfl (items_ L91 L99 _ _ (hL92.trans hL100.symm) (j := 4) (k := 1) (a := 5) (b := 2) rfl rfl rfl rfl H104) ?_
                  rintro _ w105 ⟨rfl, H106⟩
                  refine r_cons (r_take rfl rfl ?_)
                  refine s_not true rfl false rfl rfl ?_
                  refine r_cons (s_pick_f (.bool false) rfl rfl rfl ?_)
                  refine r_cons (s_move (.bool false) rfl rfl ?_)
                  refine r_cons (r_take rfl rfl ?_)
                  refine s_move (.int .i64 (ltE s)) rfl rfl ?_
                  refine r_cons (r_take rfl rfl ?_)
                  refine s_move (.int .i64 (ltE s)) rfl rfl ?_
                  refine r_cons (r_take rfl rfl ?_)
                  refine s_neq false rfl rfl (ntrue rfl) rfl ?_
                  refine r_cons (s_pick_f (.bool false) rfl rfl rfl ?_)
                  refine r_nil ?_
                  refine g_false rfl ?_
                  refine g_skip ?_
                  refine g_inBlock ?_
                  have H107 : St W w105 (Im 6 (.slice ((script.getD i default).it.p) ((script.getD i default).it.bs.length) ((script.getD i default).it.c)) ((script.getD i default).it.bs.length) ((script.getD i default).it.bs.flatMap bndCell) :: bndsA ((script.getD i default).it.bs) :: Im 1 (.slice ((script.getD i default).pc.p) ((script.getD i default).pc.v.data.length) ((script.getD i default).pc.c)) (((script.getD i default).pc.v.data).length) (((script.getD i default).pc.v.data).flatMap u8c) :: blk bk35 (.cells #[.int .i64 ((script.getD i default).do_.v), .int .i64 ((script.getD i default).it.op.v), .int .i64 ((script.getD i default).it.inp.v), .int .i64 ((script.getD i default).it.ep.v), .int .i64 ((script.getD i default).it.kind.v), .slice ((script.getD i default).it.p) ((script.getD i default).it.bs.length) ((script.getD i default).it.c), .int .i64 ((script.getD i default).it.t.v), .int .i64 ((script.getD i default).pc.v.op.v), .int .i64 ((script.getD i default).pc.v.many.v), .int .i64 ((script.getD i default).pc.v.index.v), .slice ((script.getD i default).pc.p) ((script.getD i default).pc.v.data.length) ((script.getD i default).pc.c)] 53 (0, 0)) :: LnA Y (ltS s) :: RnA bk11 (ltS s) :: stpsA script :: imi (0 < script.length) gA18 (.cells kA20 eA21 zA22) :: F) := ((((((((((((((H106.move 13 rfl).move 13 rfl).move 13 rfl).move 13 rfl).move 13 rfl).move 13 rfl).move 13 rfl).move 13 rfl).drop 8 rfl).drop 8 rfl).drop 8 rfl).drop 8 rfl).drop 8 rfl).drop 8 rfl)
                  exact join48 ((ltS s)) _ _ ⟨hs.lt, H107⟩ ⟨by first | rfl | exact vint (by omega), by first | rfl | exact vint (by omega), by first | rfl | exact vint (by omega), by first | rfl | exact vint (by omega), by first | rfl | exact vint (by omega), by first | rfl | exact vint (by omega), trivial⟩
          · intro join44
            refine g_true rfl ?_
            refine g_seq ?_
            refine g_region ?_
            refine r_cons (s_move (.pointer (some ⟨X, 0, none⟩)) rfl rfl ?_)
            refine r_cons (s_call [.pointer (some ⟨X, 0, none⟩)] pl_20 rfl rfl (Ln_CloneG X s hs (i := 4) rfl H42) ?_)
            rintro _ w109 ⟨bk108, rfl, H110⟩
            refine r_cons (s_assign (.pointer (some ⟨bk108, 0, none⟩)) rfl rfl ?_)
            refine r_nil ?_
            refine g_seq ?_
            refine g_seq ?_
            refine g_region ?_
            refine r_cons (s_move (.pointer (some ⟨bk108, 0, none⟩)) rfl rfl ?_)
            refine r_cons (s_peql false un_44 rfl rfl rfl rfl ?_)
            refine r_nil ?_
            refine g_false rfl ?_
            refine g_skip ?_
            refine g_seq ?_
            refine g_region ?_
            refine r_cons (s_move (.pointer (some ⟨X, 0, none⟩)) rfl rfl ?_)
            refine r_cons (s_fieldAddr 53 1 1 1 32 rfl fi_53_1 rfl rfl ?_)
            refine r_cons (s_loadAgg [.int .i64 ((script.getD i default).it.op.v), .int .i64 ((script.getD i default).it.inp.v), .int .i64 ((script.getD i default).it.ep.v), .int .i64 ((script.getD i default).it.kind.v), .slice ((script.getD i default).it.p) ((script.getD i default).it.bs.length) ((script.getD i default).it.c), .int .i64 ((script.getD i default).it.t.v)] 6 ag_32 rfl (H110.blk_at (i := 4) rfl) (Nat.le_of_ble_eq_true rfl) rfl rfl ?_)
            refine r_cons (s_call [.pointer (some ⟨X, 0, none⟩), .agg #[.int .i64 ((script.getD i default).it.op.v), .int .i64 ((script.getD i default).it.inp.v), .int .i64 ((script.getD i default).it.ep.v), .int .i64 ((script.getD i default).it.kind.v), .slice ((script.getD i default).it.p) ((script.getD i default).it.bs.length) ((script.getD i default).it.c), .int .i64 ((script.getD i default).it.t.v)]] pl_21 rfl rfl (Ln_Arrive X s ((script.getD i default).it) hs (hst _ (getD_memS (by omega))) (i := 5) rfl (ip := 1) rfl (iq := 2) rfl H110) ?_)
            rintro _ w111 ⟨rfl, H112⟩
            refine r_nil ?_
            refine g_seq ?_
            refine g_region ?_
            refine r_cons (s_move (.pointer (some ⟨X, 0, none⟩)) rfl rfl ?_)
            refine r_cons (s_fieldAddr 53 2 7 7 51 rfl fi_53_2 rfl rfl ?_)
            refine r_cons (s_loadAgg [.int .i64 ((script.getD i default).pc.v.op.v), .int .i64 ((script.getD i default).pc.v.many.v), .int .i64 ((script.getD i default).pc.v.index.v), .slice ((script.getD i default).pc.p) ((script.getD i default).pc.v.data.length) ((script.getD i default).pc.c)] 4 ag_51 rfl (H112.blk_at (i := 4) rfl) (Nat.le_of_ble_eq_true rfl) rfl rfl ?_)
            refine r_cons (s_call [.pointer (some ⟨X, 0, none⟩), .agg #[.int .i64 ((script.getD i default).pc.v.op.v), .int .i64 ((script.getD i default).pc.v.many.v), .int .i64 ((script.getD i default).pc.v.index.v), .slice ((script.getD i default).pc.p) ((script.getD i default).pc.v.data.length) ((script.getD i default).pc.c)]] pl_22 rfl rfl (Ln_PieceG X (arS s ((script.getD i default).it)) ((script.getD i default).pc) (hs.ar _) (i := 5) rfl (j := 3) rfl H112) ?_)
            rintro _ w113 ⟨rfl, H114⟩
            refine r_nil ?_
            refine g_region ?_
            refine r_cons (s_move (.pointer (some ⟨bk108, 0, none⟩)) rfl rfl ?_)
            refine r_cons (s_assign (.pointer (some ⟨bk108, 0, none⟩)) rfl rfl ?_)
            refine r_nil ?_
            have H115 : St W w113 (Im 6 (.slice ((script.getD i default).it.p) ((script.getD i default).it.bs.length) ((script.getD i default).it.c)) ((script.getD i default).it.bs.length) ((script.getD i default).it.bs.flatMap bndCell) :: bndsA ((script.getD i default).it.bs) :: Im 1 (.slice ((script.getD i default).pc.p) ((script.getD i default).pc.v.data.length) ((script.getD i default).pc.c)) (((script.getD i default).pc.v.data).length) (((script.getD i default).pc.v.data).flatMap u8c) :: blk bk35 (.cells #[.int .i64 ((script.getD i default).do_.v), .int .i64 ((script.getD i default).it.op.v), .int .i64 ((script.getD i default).it.inp.v), .int .i64 ((script.getD i default).it.ep.v), .int .i64 ((script.getD i default).it.kind.v), .slice ((script.getD i default).it.p) ((script.getD i default).it.bs.length) ((script.getD i default).it.c), .int .i64 ((script.getD i default).it.t.v), .int .i64 ((script.getD i default).pc.v.op.v), .int .i64 ((script.getD i default).pc.v.many.v), .int .i64 ((script.getD i default).pc.v.index.v), .slice ((script.getD i default).pc.p) ((script.getD i default).pc.v.data.length) ((script.getD i default).pc.c)] 53 (0, 0)) :: LnA bk108 s :: RnA bk11 s :: stpsA script :: imi (0 < script.length) gA18 (.cells kA20 eA21 zA22) :: F) := (((((((((H114.move 8 rfl).move 8 rfl).move 8 rfl).move 3 rfl).move 7 rfl).move 7 rfl).move 7 rfl).move 7 rfl).drop 8 rfl)
            exact join44 (bk108) _ _ H115 ⟨by first | rfl | exact vint (by omega), by first | rfl | exact vint (by omega), by first | rfl | exact vint (by omega), by first | rfl | exact vint (by omega), by first | rfl | exact vint (by omega), by first | rfl | exact vint (by omega), by first | rfl | exact vint (by omega), trivial⟩
        · skip
          refine r_cons (s_eql false rfl rfl (dfalse hc43) rfl ?_)
          refine r_nil ?_
          refine g_cut (fun (x_ : Nat) => match x_ with | Y => [(4, .bool false), (5, .pointer (some ⟨Y, 0, none⟩)), (7, .pointer (some ⟨bk11, 0, none⟩)), (48, .slice pp1 script.length cc2), (49, .int .i64 (script.length : Int)), (50, .int .i64 (i : Int)), (10, .pointer (some ⟨bk35, 0, none⟩))]) (fun (x_ : Nat) w => match x_ with | Y => St W w (Im 6 (.slice ((script.getD i default).it.p) ((script.getD i default).it.bs.length) ((script.getD i default).it.c)) ((script.getD i default).it.bs.length) ((script.getD i default).it.bs.flatMap bndCell) :: bndsA ((script.getD i default).it.bs) :: Im 1 (.slice ((script.getD i default).pc.p) ((script.getD i default).pc.v.data.length) ((script.getD i default).pc.c)) (((script.getD i default).pc.v.data).length) (((script.getD i default).pc.v.data).flatMap u8c) :: blk bk35 (.cells #[.int .i64 ((script.getD i default).do_.v), .int .i64 ((script.getD i default).it.op.v), .int .i64 ((script.getD i default).it.inp.v), .int .i64 ((script.getD i default).it.ep.v), .int .i64 ((script.getD i default).it.kind.v), .slice ((script.getD i default).it.p) ((script.getD i default).it.bs.length) ((script.getD i default).it.c), .int .i64 ((script.getD i default).it.t.v), .int .i64 ((script.getD i default).pc.v.op.v), .int .i64 ((script.getD i default).pc.v.many.v), .int .i64 ((script.getD i default).pc.v.index.v), .slice ((script.getD i default).pc.p) ((script.getD i default).pc.v.data.length) ((script.getD i default).pc.c)] 53 (0, 0)) :: LnA Y s :: RnA bk11 s :: stpsA script :: imi (0 < script.length) gA18 (.cells kA20 eA21 zA22) :: F)) ?_ ?_
          · rintro Y ρ119 w117 H118
            change Ends _ _ (upds ρ119 [(4, .bool false), (5, .pointer (some ⟨Y, 0, none⟩)), (7, .pointer (some ⟨bk11, 0, none⟩)), (48, .slice pp1 script.length cc2), (49, .int .i64 (script.length : Int)), (50, .int .i64 (i : Int)), (10, .pointer (some ⟨bk35, 0, none⟩))]) w117
            refine g_seq ?_
            refine g_seq ?_
            refine g_region ?_
            refine r_cons (s_fieldAddr 53 0 0 0 3 rfl fi_53_0 rfl rfl ?_)
            refine r_cons (s_load (.int .i64 ((script.getD i default).do_.v)) ag_3 rfl (H118.blk_at (i := 3) rfl) rfl rfl ?_)
            refine r_nil ?_
            refine g_cut (fun (x_ : LdS) => match x_ with | s2 => [(4, .bool false), (5, .pointer (some ⟨Y, 0, none⟩)), (7, .pointer (some ⟨bk11, 0, none⟩)), (48, .slice pp1 script.length cc2), (49, .int .i64 (script.length : Int)), (50, .int .i64 (i : Int))]) (fun (x_ : LdS) w => match x_ with | s2 => (LOk s2) ∧ St W w (Im 6 (.slice ((script.getD i default).it.p) ((script.getD i default).it.bs.length) ((script.getD i default).it.c)) ((script.getD i default).it.bs.length) ((script.getD i default).it.bs.flatMap bndCell) :: bndsA ((script.getD i default).it.bs) :: Im 1 (.slice ((script.getD i default).pc.p) ((script.getD i default).pc.v.data.length) ((script.getD i default).pc.c)) (((script.getD i default).pc.v.data).length) (((script.getD i default).pc.v.data).flatMap u8c) :: blk bk35 (.cells #[.int .i64 ((script.getD i default).do_.v), .int .i64 ((script.getD i default).it.op.v), .int .i64 ((script.getD i default).it.inp.v), .int .i64 ((script.getD i default).it.ep.v), .int .i64 ((script.getD i default).it.kind.v), .slice ((script.getD i default).it.p) ((script.getD i default).it.bs.length) ((script.getD i default).it.c), .int .i64 ((script.getD i default).it.t.v), .int .i64 ((script.getD i default).pc.v.op.v), .int .i64 ((script.getD i default).pc.v.many.v), .int .i64 ((script.getD i default).pc.v.index.v), .slice ((script.getD i default).pc.p) ((script.getD i default).pc.v.data.length) ((script.getD i default).pc.c)] 53 (0, 0)) :: LnA Y s2 :: RnA bk11 s2 :: stpsA script :: imi (0 < script.length) gA18 (.cells kA20 eA21 zA22) :: F)) ?_ ?_
            · rintro s2 ρ123 w121 ⟨hs2, H122⟩
              change Ends _ _ (upds ρ123 [(4, .bool false), (5, .pointer (some ⟨Y, 0, none⟩)), (7, .pointer (some ⟨bk11, 0, none⟩)), (48, .slice pp1 script.length cc2), (49, .int .i64 (script.length : Int)), (50, .int .i64 (i : Int))]) w121
              refine g_seq ?_
              have H124 := H122.move 5 rfl
              obtain ⟨⟨pp125, cc126, pp127, cc128, L129, Ps130, hL131, hP132⟩, H133⟩ := St.open_ex H124
              have H134 := St.open_star H133
              have hpl := pv_len hP132
              have hlw := lw_len hL131
              have H135 : St W w121 (blk bk11 (.cells #[.int .i64 s2.op.v, .slice pp125 L129.length cc126, .slice pp127 Ps130.length cc128, .bool s2.ov] 62 (0, 0)) :: Im 6 (.slice pp125 L129.length cc126) L129.length (L129.flatMap itCell) :: itsA L129 :: Im 4 (.slice pp127 Ps130.length cc128) Ps130.length (Ps130.flatMap pcCell) :: pcA Ps130 :: Im 6 (.slice ((script.getD i default).it.p) ((script.getD i default).it.bs.length) ((script.getD i default).it.c)) ((script.getD i default).it.bs.length) ((script.getD i default).it.bs.flatMap bndCell) :: bndsA ((script.getD i default).it.bs) :: Im 1 (.slice ((script.getD i default).pc.p) ((script.getD i default).pc.v.data.length) ((script.getD i default).pc.c)) (((script.getD i default).pc.v.data).length) (((script.getD i default).pc.v.data).flatMap u8c) :: blk bk35 (.cells #[.int .i64 ((script.getD i default).do_.v), .int .i64 ((script.getD i default).it.op.v), .int .i64 ((script.getD i default).it.inp.v), .int .i64 ((script.getD i default).it.ep.v), .int .i64 ((script.getD i default).it.kind.v), .slice ((script.getD i default).it.p) ((script.getD i default).it.bs.length) ((script.getD i default).it.c), .int .i64 ((script.getD i default).it.t.v), .int .i64 ((script.getD i default).pc.v.op.v), .int .i64 ((script.getD i default).pc.v.many.v), .int .i64 ((script.getD i default).pc.v.index.v), .slice ((script.getD i default).pc.p) ((script.getD i default).pc.v.data.length) ((script.getD i default).pc.c)] 53 (0, 0)) :: LnA Y s2 :: stpsA script :: imi (0 < script.length) gA18 (.cells kA20 eA21 zA22) :: F) := H134
              refine g_quiet (fun w' => St W w' (blk bk11 (.cells #[.int .i64 s2.op.v, .slice pp125 L129.length cc126, .slice pp127 Ps130.length cc128, .bool s2.ov] 62 (0, 0)) :: Im 6 (.slice pp125 L129.length cc126) L129.length (L129.flatMap itCell) :: itsA L129 :: Im 4 (.slice pp127 Ps130.length cc128) Ps130.length (Ps130.flatMap pcCell) :: pcA Ps130 :: Im 6 (.slice ((script.getD i default).it.p) ((script.getD i default).it.bs.length) ((script.getD i default).it.c)) ((script.getD i default).it.bs.length) ((script.getD i default).it.bs.flatMap bndCell) :: bndsA ((script.getD i default).it.bs) :: Im 1 (.slice ((script.getD i default).pc.p) ((script.getD i default).pc.v.data.length) ((script.getD i default).pc.c)) (((script.getD i default).pc.v.data).length) (((script.getD i default).pc.v.data).flatMap u8c) :: blk bk35 (.cells #[.int .i64 ((script.getD i default).do_.v), .int .i64 ((script.getD i default).it.op.v), .int .i64 ((script.getD i default).it.inp.v), .int .i64 ((script.getD i default).it.ep.v), .int .i64 ((script.getD i default).it.kind.v), .slice ((script.getD i default).it.p) ((script.getD i default).it.bs.length) ((script.getD i default).it.c), .int .i64 ((script.getD i default).it.t.v), .int .i64 ((script.getD i default).pc.v.op.v), .int .i64 ((script.getD i default).pc.v.many.v), .int .i64 ((script.getD i default).pc.v.index.v), .slice ((script.getD i default).pc.p) ((script.getD i default).pc.v.data.length) ((script.getD i default).pc.c)] 53 (0, 0)) :: LnA Y s2 :: stpsA script :: imi (0 < script.length) gA18 (.cells kA20 eA21 zA22) :: F)) mixed (by kernel_rfl) H135.drew ?_
              refine q_cons (q_val rfl rfl rfl (by intro w hw; exact x_move (.pointer (some ⟨Y, 0, none⟩)) rfl w) ?_)
              refine q_cons (q_enter (args := #[.pointer (some ⟨Y, 0, none⟩)]) (v := .int .i64 (lwN s2 : Int)) rfl rfl rfl (x_call pl_28 [.pointer (some ⟨Y, 0, none⟩)] rfl) (fun w hw => Ln_Waiting Y s2 (i := 9) rfl hw) ?_)
              refine q_cons (q_val rfl rfl rfl (by intro w hw; exact x_move (.pointer (some ⟨bk11, 0, none⟩)) rfl w) ?_)
              refine q_cons (q_val rfl rfl rfl (by intro w hw; exact x_nilCheck (.pointer (some ⟨bk11, 0, none⟩)) rfl ⟨_, rfl⟩ w) ?_)
              refine q_cons (q_val rfl rfl rfl (by intro w hw; exact x_fieldAddr 62 1 1 1 22 rfl fi_62_1 rfl w) ?_)
              refine q_cons (q_val rfl rfl rfl (by intro w hw; exact x_load (.slice pp125 L129.length cc126) ag_22 rfl (hw.blk_at (i := 0) rfl) rfl) ?_)
              refine q_cons (q_val rfl rfl rfl (by intro w hw; exact x_len L129.length rfl ⟨_, un_22⟩ w) ?_)
              refine q_cons (q_val rfl rfl rfl (by intro w hw; exact x_neq false rfl rfl (ntrue (by omega)) w) ?_)
              refine q_nil ?_
              intro w136 H137
              refine g_false rfl ?_
              refine g_skip ?_
              refine g_inBlock ?_
              refine g_region ?_
              refine r_cons (s_add ((i : Int) + 1) rfl rfl (wi64 (by omega)) rfl ?_)
              refine r_cons (s_move (.int .i64 ((i : Int) + 1)) rfl rfl ?_)
              refine r_nil ?_
              have H138 : St W w136 (RnA bk11 s2 :: Im 6 (.slice ((script.getD i default).it.p) ((script.getD i default).it.bs.length) ((script.getD i default).it.c)) ((script.getD i default).it.bs.length) ((script.getD i default).it.bs.flatMap bndCell) :: bndsA ((script.getD i default).it.bs) :: Im 1 (.slice ((script.getD i default).pc.p) ((script.getD i default).pc.v.data.length) ((script.getD i default).pc.c)) (((script.getD i default).pc.v.data).length) (((script.getD i default).pc.v.data).flatMap u8c) :: blk bk35 (.cells #[.int .i64 ((script.getD i default).do_.v), .int .i64 ((script.getD i default).it.op.v), .int .i64 ((script.getD i default).it.inp.v), .int .i64 ((script.getD i default).it.ep.v), .int .i64 ((script.getD i default).it.kind.v), .slice ((script.getD i default).it.p) ((script.getD i default).it.bs.length) ((script.getD i default).it.c), .int .i64 ((script.getD i default).it.t.v), .int .i64 ((script.getD i default).pc.v.op.v), .int .i64 ((script.getD i default).pc.v.many.v), .int .i64 ((script.getD i default).pc.v.index.v), .slice ((script.getD i default).pc.p) ((script.getD i default).pc.v.data.length) ((script.getD i default).pc.c)] 53 (0, 0)) :: LnA Y s2 :: stpsA script :: imi (0 < script.length) gA18 (.cells kA20 eA21 zA22) :: F) := St.shut_ex (⟨pp125, cc126, pp127, cc128, L129, Ps130, hL131, hP132⟩ : RnX s2) (St.shut_star (ls := [blk bk11 (.cells #[.int .i64 s2.op.v, .slice pp125 L129.length cc126, .slice pp127 Ps130.length cc128, .bool s2.ov] 62 (0, 0)), Im 6 (.slice pp125 L129.length cc126) L129.length (L129.flatMap itCell), itsA L129, Im 4 (.slice pp127 Ps130.length cc128) Ps130.length (Ps130.flatMap pcCell), pcA Ps130]) H137)
              have H139 : St W w136 (LnA Y s2 :: RnA bk11 s2 :: stpsA script :: imi (0 < script.length) gA18 (.cells kA20 eA21 zA22) :: F) := ((((((((H138.move 7 rfl).move 7 rfl).move 2 rfl).move 7 rfl).drop 4 rfl).drop 4 rfl).drop 4 rfl).drop 4 rfl)
              exact nx33 (i + 1, Y, s2) _ _ ⟨(by omega), hs2, H139⟩ (by first | (dsimp only; omega) | omega) ⟨by first | rfl | exact vint (by omega), by first | rfl | exact vint (by omega), by first | rfl | exact vint (by omega), by first | rfl | exact vint (by omega), by first | rfl | exact vint (by omega), by first | rfl | exact vint (by omega), trivial⟩
            · intro join120
              refine g_block ?_
              refine g_seq ?_
              refine g_region ?_
              by_cases hc140 : (script.getD i default).do_.v = 0
              · skip
                refine r_cons (s_eql true rfl rfl (dtrue hc140) rfl ?_)
                refine r_cons (s_assign (.bool true) rfl rfl ?_)
                refine r_nil ?_
                refine g_true rfl ?_
                refine g_seq ?_
                have H141 : St W w117 (Im 6 (.slice ((script.getD i default).it.p) ((script.getD i default).it.bs.length) ((script.getD i default).it.c)) ((script.getD i default).it.bs.length) ((script.getD i default).it.bs.flatMap bndCell) :: bndsA ((script.getD i default).it.bs) :: Im 1 (.slice ((script.getD i default).pc.p) ((script.getD i default).pc.v.data.length) ((script.getD i default).pc.c)) (((script.getD i default).pc.v.data).length) (((script.getD i default).pc.v.data).flatMap u8c) :: blk bk35 (.cells #[.int .i64 ((script.getD i default).do_.v), .int .i64 ((script.getD i default).it.op.v), .int .i64 ((script.getD i default).it.inp.v), .int .i64 ((script.getD i default).it.ep.v), .int .i64 ((script.getD i default).it.kind.v), .slice ((script.getD i default).it.p) ((script.getD i default).it.bs.length) ((script.getD i default).it.c), .int .i64 ((script.getD i default).it.t.v), .int .i64 ((script.getD i default).pc.v.op.v), .int .i64 ((script.getD i default).pc.v.many.v), .int .i64 ((script.getD i default).pc.v.index.v), .slice ((script.getD i default).pc.p) ((script.getD i default).pc.v.data.length) ((script.getD i default).pc.c)] 53 (0, 0)) :: stpsA script :: imi (0 < script.length) gA18 (.cells kA20 eA21 zA22) :: LnA Y s :: RnA bk11 s :: F) := ((((((((H118.move 5 rfl).move 5 rfl).move 7 rfl).move 7 rfl).move 7 rfl).move 7 rfl).move 7 rfl).move 7 rfl)
                refine g_mix (fun t_ w => St W w (Im 6 (.slice ((script.getD i default).it.p) ((script.getD i default).it.bs.length) ((script.getD i default).it.c)) ((script.getD i default).it.bs.length) ((script.getD i default).it.bs.flatMap bndCell) :: bndsA ((script.getD i default).it.bs) :: Im 1 (.slice ((script.getD i default).pc.p) ((script.getD i default).pc.v.data.length) ((script.getD i default).pc.c)) (((script.getD i default).pc.v.data).length) (((script.getD i default).pc.v.data).flatMap u8c) :: blk bk35 (.cells #[.int .i64 ((script.getD i default).do_.v), .int .i64 ((script.getD i default).it.op.v), .int .i64 ((script.getD i default).it.inp.v), .int .i64 ((script.getD i default).it.ep.v), .int .i64 ((script.getD i default).it.kind.v), .slice ((script.getD i default).it.p) ((script.getD i default).it.bs.length) ((script.getD i default).it.c), .int .i64 ((script.getD i default).it.t.v), .int .i64 ((script.getD i default).pc.v.op.v), .int .i64 ((script.getD i default).pc.v.many.v), .int .i64 ((script.getD i default).pc.v.index.v), .slice ((script.getD i default).pc.p) ((script.getD i default).pc.v.data.length) ((script.getD i default).pc.c)] 53 (0, 0)) :: stpsA script :: imi (0 < script.length) gA18 (.cells kA20 eA21 zA22) :: t_)) (LnA Y s :: RnA bk11 s :: F) mixed 9 rfl H141.drew ?_
                refine f_first 0 (listed' := #[true, false, false, false, false, false, false, false, false]) rfl (by kernel_rfl) (by kernel_rfl) (by kernel_rfl) rfl ?_
                refine f_val rfl rfl rfl (by intro t_ w hw; exact x_move (.pointer (some ⟨Y, 0, none⟩)) rfl w) ?_
                refine f_first 1 (listed' := #[true, true, false, false, false, false, false, false, false]) rfl (by kernel_rfl) (by kernel_rfl) (by kernel_rfl) rfl ?_
                refine f_val rfl rfl rfl (by intro t_ w hw; exact x_fieldAddr 53 1 1 1 32 rfl fi_53_1 rfl w) ?_
                refine f_first 2 (listed' := #[true, true, true, false, false, false, false, false, false]) rfl (by kernel_rfl) (by kernel_rfl) (by kernel_rfl) rfl ?_
                refine f_val rfl rfl rfl (by intro t_ w hw; exact x_loadAgg [.int .i64 ((script.getD i default).it.op.v), .int .i64 ((script.getD i default).it.inp.v), .int .i64 ((script.getD i default).it.ep.v), .int .i64 ((script.getD i default).it.kind.v), .slice ((script.getD i default).it.p) ((script.getD i default).it.bs.length) ((script.getD i default).it.c), .int .i64 ((script.getD i default).it.t.v)] 6 ag_32 rfl (hw.blk_at (i := 3) rfl) (Nat.le_of_ble_eq_true rfl) rfl) ?_
                refine f_first 4 (listed' := #[true, true, true, false, true, false, false, false, false]) rfl (by kernel_rfl) (by kernel_rfl) (by kernel_rfl) rfl ?_
                refine f_val rfl rfl rfl (by intro t_ w hw; exact x_move (.pointer (some ⟨bk11, 0, none⟩)) rfl w) ?_
                refine f_first 5 (listed' := #[true, true, true, false, true, true, false, false, false]) rfl (by kernel_rfl) (by kernel_rfl) (by kernel_rfl) rfl ?_
                refine f_val rfl rfl rfl (by intro t_ w hw; exact x_fieldAddr 53 1 1 1 32 rfl fi_53_1 rfl w) ?_
                refine f_first 6 (listed' := #[true, true, true, false, true, true, true, false, false]) rfl (by kernel_rfl) (by kernel_rfl) (by kernel_rfl) rfl ?_
                refine f_val rfl rfl rfl (by intro t_ w hw; exact x_loadAgg [.int .i64 ((script.getD i default).it.op.v), .int .i64 ((script.getD i default).it.inp.v), .int .i64 ((script.getD i default).it.ep.v), .int .i64 ((script.getD i default).it.kind.v), .slice ((script.getD i default).it.p) ((script.getD i default).it.bs.length) ((script.getD i default).it.c), .int .i64 ((script.getD i default).it.t.v)] 6 ag_32 rfl (hw.blk_at (i := 3) rfl) (Nat.le_of_ble_eq_true rfl) rfl) ?_
                refine f_all (rs := [3]) (by kernel_rfl) (by simp) ?_
                refine a_cons ⟨_, rfl, ?_⟩ (fun x hx => absurd hx (by simp))
                intro w142 H143
                try dsimp only at H143
                refine s_call [.pointer (some ⟨Y, 0, none⟩), .agg #[.int .i64 ((script.getD i default).it.op.v), .int .i64 ((script.getD i default).it.inp.v), .int .i64 ((script.getD i default).it.ep.v), .int .i64 ((script.getD i default).it.kind.v), .slice ((script.getD i default).it.p) ((script.getD i default).it.bs.length) ((script.getD i default).it.c), .int .i64 ((script.getD i default).it.t.v)]] pl_21 rfl rfl (Ln_Arrive Y s ((script.getD i default).it) hs (hst _ (getD_memS (by omega))) (i := 6) rfl (ip := 0) rfl (iq := 1) rfl H143) ?_
                rintro _ w144 ⟨rfl, H145⟩
                refine ⟨LnA Y (arS s ((script.getD i default).it)) :: RnA bk11 s :: F, ?_, H145⟩
                change FReg _ _ _ _ _ #[true, true, true, true, true, true, true, false, false] _ _
                refine f_all (rs := [7]) (by kernel_rfl) (by simp) ?_
                refine a_cons ⟨_, rfl, ?_⟩ (fun x hx => absurd hx (by simp))
                intro w146 H147
                try dsimp only at H147
                refine s_call [.pointer (some ⟨bk11, 0, none⟩), .agg #[.int .i64 ((script.getD i default).it.op.v), .int .i64 ((script.getD i default).it.inp.v), .int .i64 ((script.getD i default).it.ep.v), .int .i64 ((script.getD i default).it.kind.v), .slice ((script.getD i default).it.p) ((script.getD i default).it.bs.length) ((script.getD i default).it.c), .int .i64 ((script.getD i default).it.t.v)]] pl_23 rfl rfl (Rn_Arrive bk11 s ((script.getD i default).it) hs (hst _ (getD_memS (by omega))) (i := 7) rfl (ip := 0) rfl (iq := 1) rfl H147) ?_
                rintro _ w148 ⟨rfl, H149⟩
                refine ⟨LnA Y (arS s ((script.getD i default).it)) :: RnA bk11 (arS s ((script.getD i default).it)) :: F, ?_, H149⟩
                change FReg _ _ _ _ _ #[true, true, true, true, true, true, true, true, false] _ _
                refine f_first 8 (listed' := #[true, true, true, true, true, true, true, true, true]) rfl (by kernel_rfl) (by kernel_rfl) (by kernel_rfl) rfl ?_
                refine f_val rfl rfl rfl (by intro t_ w hw; exact x_neq false rfl rfl (ntrue rfl) w) ?_
                refine f_done (by kernel_rfl) ?_
                intro w150 H151
                refine g_false rfl ?_
                refine g_skip ?_
                refine g_inBlock ?_
                have H152 : St W w150 (Im 6 (.slice ((script.getD i default).it.p) ((script.getD i default).it.bs.length) ((script.getD i default).it.c)) ((script.getD i default).it.bs.length) ((script.getD i default).it.bs.flatMap bndCell) :: bndsA ((script.getD i default).it.bs) :: Im 1 (.slice ((script.getD i default).pc.p) ((script.getD i default).pc.v.data.length) ((script.getD i default).pc.c)) (((script.getD i default).pc.v.data).length) (((script.getD i default).pc.v.data).flatMap u8c) :: blk bk35 (.cells #[.int .i64 ((script.getD i default).do_.v), .int .i64 ((script.getD i default).it.op.v), .int .i64 ((script.getD i default).it.inp.v), .int .i64 ((script.getD i default).it.ep.v), .int .i64 ((script.getD i default).it.kind.v), .slice ((script.getD i default).it.p) ((script.getD i default).it.bs.length) ((script.getD i default).it.c), .int .i64 ((script.getD i default).it.t.v), .int .i64 ((script.getD i default).pc.v.op.v), .int .i64 ((script.getD i default).pc.v.many.v), .int .i64 ((script.getD i default).pc.v.index.v), .slice ((script.getD i default).pc.p) ((script.getD i default).pc.v.data.length) ((script.getD i default).pc.c)] 53 (0, 0)) :: LnA Y (arS s ((script.getD i default).it)) :: RnA bk11 (arS s ((script.getD i default).it)) :: stpsA script :: imi (0 < script.length) gA18 (.cells kA20 eA21 zA22) :: F) := ((((((((H151.move 5 rfl).move 5 rfl).move 7 rfl).move 7 rfl).move 7 rfl).move 7 rfl).move 7 rfl).move 7 rfl)
                exact join120 ((arS s ((script.getD i default).it))) _ _ ⟨(hs.ar _), H152⟩ ⟨by first | rfl | exact vint (by omega), by first | rfl | exact vint (by omega), by first | rfl | exact vint (by omega), by first | rfl | exact vint (by omega), by first | rfl | exact vint (by omega), by first | rfl | exact vint (by omega), trivial⟩
              · skip
                refine r_cons (s_eql false rfl rfl (dfalse hc140) rfl ?_)
                refine r_cons (s_assign (.bool false) rfl rfl ?_)
                refine r_nil ?_
                refine g_false rfl ?_
                refine g_seq ?_
                refine g_region ?_
                by_cases hc153 : (script.getD i default).do_.v = 1
                · skip
                  refine r_cons (s_eql true rfl rfl (dtrue hc153) rfl ?_)
                  refine r_cons (s_assign (.bool true) rfl rfl ?_)
                  refine r_nil ?_
                  refine g_true rfl ?_
                  refine g_seq ?_
                  refine g_region ?_
                  refine r_cons (s_move (.pointer (some ⟨Y, 0, none⟩)) rfl rfl ?_)
                  refine r_cons (s_fieldAddr 53 2 7 7 51 rfl fi_53_2 rfl rfl ?_)
                  refine r_cons (s_loadAgg [.int .i64 ((script.getD i default).pc.v.op.v), .int .i64 ((script.getD i default).pc.v.many.v), .int .i64 ((script.getD i default).pc.v.index.v), .slice ((script.getD i default).pc.p) ((script.getD i default).pc.v.data.length) ((script.getD i default).pc.c)] 4 ag_51 rfl (H118.blk_at (i := 3) rfl) (Nat.le_of_ble_eq_true rfl) rfl rfl ?_)
                  refine r_cons (s_call [.pointer (some ⟨Y, 0, none⟩), .agg #[.int .i64 ((script.getD i default).pc.v.op.v), .int .i64 ((script.getD i default).pc.v.many.v), .int .i64 ((script.getD i default).pc.v.index.v), .slice ((script.getD i default).pc.p) ((script.getD i default).pc.v.data.length) ((script.getD i default).pc.c)]] pl_22 rfl rfl (Ln_PieceG Y s ((script.getD i default).pc) hs (i := 4) rfl (j := 2) rfl H118) ?_)
                  rintro _ w154 ⟨rfl, H155⟩
                  refine r_cons (s_move (.tuple #[.bool (lpB s (script.getD i default).pc.v), .int .i64 (lpE s (script.getD i default).pc.v)]) rfl rfl ?_)
                  refine r_cons (s_extract (.bool (lpB s (script.getD i default).pc.v)) #[.bool (lpB s (script.getD i default).pc.v), .int .i64 (lpE s (script.getD i default).pc.v)] rfl rfl rfl ?_)
                  refine r_cons (s_extract (.int .i64 (lpE s (script.getD i default).pc.v)) #[.bool (lpB s (script.getD i default).pc.v), .int .i64 (lpE s (script.getD i default).pc.v)] rfl rfl rfl ?_)
                  refine r_cons (s_assign (.bool (lpB s (script.getD i default).pc.v)) rfl rfl ?_)
                  refine r_cons (s_assign (.int .i64 (lpE s (script.getD i default).pc.v)) rfl rfl ?_)
                  refine r_nil ?_
                  refine g_seq ?_
                  refine g_region ?_
                  refine r_cons (s_move (.pointer (some ⟨bk11, 0, none⟩)) rfl rfl ?_)
                  refine r_cons (s_fieldAddr 53 2 7 7 51 rfl fi_53_2 rfl rfl ?_)
                  refine r_cons (s_loadAgg [.int .i64 ((script.getD i default).pc.v.op.v), .int .i64 ((script.getD i default).pc.v.many.v), .int .i64 ((script.getD i default).pc.v.index.v), .slice ((script.getD i default).pc.p) ((script.getD i default).pc.v.data.length) ((script.getD i default).pc.c)] 4 ag_51 rfl (H155.blk_at (i := 3) rfl) (Nat.le_of_ble_eq_true rfl) rfl rfl ?_)
                  refine r_cons (s_call [.pointer (some ⟨bk11, 0, none⟩), .agg #[.int .i64 ((script.getD i default).pc.v.op.v), .int .i64 ((script.getD i default).pc.v.many.v), .int .i64 ((script.getD i default).pc.v.index.v), .slice ((script.getD i default).pc.p) ((script.getD i default).pc.v.data.length) ((script.getD i default).pc.c)]] pl_24 rfl rfl (Rn_Piece bk11 s ((script.getD i default).pc) hs (i := 5) rfl (j := 2) rfl H155) ?_)
                  rintro _ w156 ⟨rfl, H157⟩
                  refine r_cons (s_move (.tuple #[.bool (lpB s (script.getD i default).pc.v), .int .i64 (lpE s (script.getD i default).pc.v)]) rfl rfl ?_)
                  refine r_cons (s_extract (.bool (lpB s (script.getD i default).pc.v)) #[.bool (lpB s (script.getD i default).pc.v), .int .i64 (lpE s (script.getD i default).pc.v)] rfl rfl rfl ?_)
                  refine r_cons (s_extract (.int .i64 (lpE s (script.getD i default).pc.v)) #[.bool (lpB s (script.getD i default).pc.v), .int .i64 (lpE s (script.getD i default).pc.v)] rfl rfl rfl ?_)
                  refine r_cons (s_assign (.bool (lpB s (script.getD i default).pc.v)) rfl rfl ?_)
                  refine r_cons (s_assign (.int .i64 (lpE s (script.getD i default).pc.v)) rfl rfl ?_)
                  refine r_nil ?_
                  refine g_seq ?_
                  refine g_region ?_
                  refine r_cons (s_move (.bool (lpB s (script.getD i default).pc.v)) rfl rfl ?_)
                  refine r_cons (s_move (.bool (lpB s (script.getD i default).pc.v)) rfl rfl ?_)
                  refine r_cons (s_bneq false un_4 rfl rfl (ntrue rfl) rfl ?_)
                  refine r_cons (s_move (.bool false) rfl rfl ?_)
                  refine r_cons (r_take rfl rfl ?_)
                  refine s_move (.int .i64 (lpE s (script.getD i default).pc.v)) rfl rfl ?_
                  refine r_cons (r_take rfl rfl ?_)
                  refine s_move (.int .i64 (lpE s (script.getD i default).pc.v)) rfl rfl ?_
                  refine r_cons (r_take rfl rfl ?_)
                  refine s_neq false rfl rfl (ntrue rfl) rfl ?_
                  refine r_cons (s_pick_f (.bool false) rfl rfl rfl ?_)
                  refine r_nil ?_
                  refine g_false rfl ?_
                  refine g_skip ?_
                  refine g_inBlock ?_
                  have H158 : St W w156 (Im 6 (.slice ((script.getD i default).it.p) ((script.getD i default).it.bs.length) ((script.getD i default).it.c)) ((script.getD i default).it.bs.length) ((script.getD i default).it.bs.flatMap bndCell) :: bndsA ((script.getD i default).it.bs) :: Im 1 (.slice ((script.getD i default).pc.p) ((script.getD i default).pc.v.data.length) ((script.getD i default).pc.c)) (((script.getD i default).pc.v.data).length) (((script.getD i default).pc.v.data).flatMap u8c) :: blk bk35 (.cells #[.int .i64 ((script.getD i default).do_.v), .int .i64 ((script.getD i default).it.op.v), .int .i64 ((script.getD i default).it.inp.v), .int .i64 ((script.getD i default).it.ep.v), .int .i64 ((script.getD i default).it.kind.v), .slice ((script.getD i default).it.p) ((script.getD i default).it.bs.length) ((script.getD i default).it.c), .int .i64 ((script.getD i default).it.t.v), .int .i64 ((script.getD i default).pc.v.op.v), .int .i64 ((script.getD i default).pc.v.many.v), .int .i64 ((script.getD i default).pc.v.index.v), .slice ((script.getD i default).pc.p) ((script.getD i default).pc.v.data.length) ((script.getD i default).pc.c)] 53 (0, 0)) :: LnA Y (lpS s (script.getD i default).pc.v) :: RnA bk11 (lpS s (script.getD i default).pc.v) :: stpsA script :: imi (0 < script.length) gA18 (.cells kA20 eA21 zA22) :: F) := ((((((((H157.move 7 rfl).move 7 rfl).move 7 rfl).move 7 rfl).move 7 rfl).move 7 rfl).move 7 rfl).move 7 rfl)
                  exact join120 ((lpS s (script.getD i default).pc.v)) _ _ ⟨(hs.lp _), H158⟩ ⟨by first | rfl | exact vint (by omega), by first | rfl | exact vint (by omega), by first | rfl | exact vint (by omega), by first | rfl | exact vint (by omega), by first | rfl | exact vint (by omega), by first | rfl | exact vint (by omega), trivial⟩
                · skip
                  refine r_cons (s_eql false rfl rfl (dfalse hc153) rfl ?_)
                  refine r_cons (s_assign (.bool false) rfl rfl ?_)
                  refine r_nil ?_
                  refine g_false rfl ?_
                  refine g_seq ?_
                  refine g_region ?_
                  refine r_cons (s_move (.pointer (some ⟨Y, 0, none⟩)) rfl rfl ?_)
                  refine r_cons (s_call [.pointer (some ⟨Y, 0, none⟩)] pl_25 rfl rfl (Ln_TakeG Y s hs (i := 4) rfl H118) ?_)
                  rintro _ w165 ⟨pp159, cc160, pp161, cc162, L163, rfl, hL164, H166⟩
                  refine r_cons (s_move (.tuple #[.slice pp159 ((ltB s).length) cc160, .slice pp161 L163.length cc162, .int .i64 (ltE s)]) rfl rfl ?_)
                  refine r_cons (s_extract (.slice pp159 ((ltB s).length) cc160) #[.slice pp159 ((ltB s).length) cc160, .slice pp161 L163.length cc162, .int .i64 (ltE s)] rfl rfl rfl ?_)
                  refine r_cons (s_extract (.slice pp161 L163.length cc162) #[.slice pp159 ((ltB s).length) cc160, .slice pp161 L163.length cc162, .int .i64 (ltE s)] rfl rfl rfl ?_)
                  refine r_cons (s_extract (.int .i64 (ltE s)) #[.slice pp159 ((ltB s).length) cc160, .slice pp161 L163.length cc162, .int .i64 (ltE s)] rfl rfl rfl ?_)
                  refine r_cons (s_assign (.slice pp159 ((ltB s).length) cc160) rfl rfl ?_)
                  refine r_cons (s_assign (.slice pp161 L163.length cc162) rfl rfl ?_)
                  refine r_cons (s_assign (.int .i64 (ltE s)) rfl rfl ?_)
                  refine r_nil ?_
                  refine g_seq ?_
                  refine g_region ?_
                  refine r_cons (s_move (.pointer (some ⟨bk11, 0, none⟩)) rfl rfl ?_)
                  refine r_cons (s_call [.pointer (some ⟨bk11, 0, none⟩)] pl_26 rfl rfl (Rn_Take bk11 s hs (i := 8) rfl H166) ?_)
                  rintro _ w173 ⟨pp167, cc168, pp169, cc170, L171, rfl, hL172, H174⟩
                  refine r_cons (s_move (.tuple #[.slice pp167 ((ltB s).length) cc168, .slice pp169 L171.length cc170, .int .i64 (ltE s)]) rfl rfl ?_)
                  refine r_cons (s_extract (.slice pp167 ((ltB s).length) cc168) #[.slice pp167 ((ltB s).length) cc168, .slice pp169 L171.length cc170, .int .i64 (ltE s)] rfl rfl rfl ?_)
                  refine r_cons (s_extract (.slice pp169 L171.length cc170) #[.slice pp167 ((ltB s).length) cc168, .slice pp169 L171.length cc170, .int .i64 (ltE s)] rfl rfl rfl ?_)
                  refine r_cons (s_extract (.int .i64 (ltE s)) #[.slice pp167 ((ltB s).length) cc168, .slice pp169 L171.length cc170, .int .i64 (ltE s)] rfl rfl rfl ?_)
                  refine r_cons (s_assign (.slice pp167 ((ltB s).length) cc168) rfl rfl ?_)
                  refine r_cons (s_assign (.slice pp169 L171.length cc170) rfl rfl ?_)
                  refine r_cons (s_assign (.int .i64 (ltE s)) rfl rfl ?_)
                  refine r_nil ?_
                  refine g_seq ?_
                  refine g_region ?_
                  refine r_cons (s_move (.slice pp159 ((ltB s).length) cc160) rfl rfl ?_)
                  refine r_cons (s_move (.slice pp167 ((ltB s).length) cc168) rfl rfl ?_)
                  refine r_cons (s_call [.slice pp159 ((ltB s).length) cc160, .slice pp167 ((ltB s).length) cc168] pl_27 rfl rfl (bytes_Equal _ _ _ _ _ _ (ltB s) (ltB s) RdA.row RdA.row (j := 3) rfl (k := 0) rfl H174) ?_)
                  rintro _ w175 ⟨rfl, H176⟩
                  refine r_cons (s_not (decide ((ltB s) = (ltB s))) rfl false (by rw [(decide_eq_true rfl)]; rfl) rfl ?_)
                  refine r_cons (s_move (.bool false) rfl rfl ?_)
                  refine r_cons (r_take rfl rfl ?_)
                  refine s_move (.slice pp161 L163.length cc162) rfl rfl ?_
                  refine r_cons (r_take rfl rfl ?_)
                  refine s_move (.slice pp169 L171.length cc170) rfl rfl ?_
                  refine r_cons (r_take rfl rfl ?_)
                  refine s_call [.slice pp161 L163.length cc162, .slice pp169 L171.length cc170] pl_15 rfl rfl (items_ L163 L171 _ _ (hL164.trans hL172.symm) (j := 4) (k := 1) (a := 5) (b := 2) rfl rfl rfl rfl H176) ?_
                  rintro _ w177 ⟨rfl, H178⟩
                  refine r_cons (r_take rfl rfl ?_)
                  refine s_not true rfl false rfl rfl ?_
                  refine r_cons (s_pick_f (.bool false) rfl rfl rfl ?_)
                  refine r_cons (s_move (.bool false) rfl rfl ?_)
                  refine r_cons (r_take rfl rfl ?_)
                  refine s_move (.int .i64 (ltE s)) rfl rfl ?_
                  refine r_cons (r_take rfl rfl ?_)
                  refine s_move (.int .i64 (ltE s)) rfl rfl ?_
                  refine r_cons (r_take rfl rfl ?_)
                  refine s_neq false rfl rfl (ntrue rfl) rfl ?_
                  refine r_cons (s_pick_f (.bool false) rfl rfl rfl ?_)
                  refine r_nil ?_
                  refine g_false rfl ?_
                  refine g_skip ?_
                  refine g_inBlock ?_
                  have H179 : St W w177 (Im 6 (.slice ((script.getD i default).it.p) ((script.getD i default).it.bs.length) ((script.getD i default).it.c)) ((script.getD i default).it.bs.length) ((script.getD i default).it.bs.flatMap bndCell) :: bndsA ((script.getD i default).it.bs) :: Im 1 (.slice ((script.getD i default).pc.p) ((script.getD i default).pc.v.data.length) ((script.getD i default).pc.c)) (((script.getD i default).pc.v.data).length) (((script.getD i default).pc.v.data).flatMap u8c) :: blk bk35 (.cells #[.int .i64 ((script.getD i default).do_.v), .int .i64 ((script.getD i default).it.op.v), .int .i64 ((script.getD i default).it.inp.v), .int .i64 ((script.getD i default).it.ep.v), .int .i64 ((script.getD i default).it.kind.v), .slice ((script.getD i default).it.p) ((script.getD i default).it.bs.length) ((script.getD i default).it.c), .int .i64 ((script.getD i default).it.t.v), .int .i64 ((script.getD i default).pc.v.op.v), .int .i64 ((script.getD i default).pc.v.many.v), .int .i64 ((script.getD i default).pc.v.index.v), .slice ((script.getD i default).pc.p) ((script.getD i default).pc.v.data.length) ((script.getD i default).pc.c)] 53 (0, 0)) :: LnA Y (ltS s) :: RnA bk11 (ltS s) :: stpsA script :: imi (0 < script.length) gA18 (.cells kA20 eA21 zA22) :: F) := ((((((((((((((H178.move 13 rfl).move 13 rfl).move 13 rfl).move 13 rfl).move 13 rfl).move 13 rfl).move 13 rfl).move 13 rfl).drop 8 rfl).drop 8 rfl).drop 8 rfl).drop 8 rfl).drop 8 rfl).drop 8 rfl)
                  exact join120 ((ltS s)) _ _ ⟨hs.lt, H179⟩ ⟨by first | rfl | exact vint (by omega), by first | rfl | exact vint (by omega), by first | rfl | exact vint (by omega), by first | rfl | exact vint (by omega), by first | rfl | exact vint (by omega), by first | rfl | exact vint (by omega), trivial⟩
          · intro join116
            refine g_false rfl ?_
            refine g_skip ?_
            have H180 : St W w38 (Im 6 (.slice ((script.getD i default).it.p) ((script.getD i default).it.bs.length) ((script.getD i default).it.c)) ((script.getD i default).it.bs.length) ((script.getD i default).it.bs.flatMap bndCell) :: bndsA ((script.getD i default).it.bs) :: Im 1 (.slice ((script.getD i default).pc.p) ((script.getD i default).pc.v.data.length) ((script.getD i default).pc.c)) (((script.getD i default).pc.v.data).length) (((script.getD i default).pc.v.data).flatMap u8c) :: blk bk35 (.cells #[.int .i64 ((script.getD i default).do_.v), .int .i64 ((script.getD i default).it.op.v), .int .i64 ((script.getD i default).it.inp.v), .int .i64 ((script.getD i default).it.ep.v), .int .i64 ((script.getD i default).it.kind.v), .slice ((script.getD i default).it.p) ((script.getD i default).it.bs.length) ((script.getD i default).it.c), .int .i64 ((script.getD i default).it.t.v), .int .i64 ((script.getD i default).pc.v.op.v), .int .i64 ((script.getD i default).pc.v.many.v), .int .i64 ((script.getD i default).pc.v.index.v), .slice ((script.getD i default).pc.p) ((script.getD i default).pc.v.data.length) ((script.getD i default).pc.c)] 53 (0, 0)) :: LnA X s :: RnA bk11 s :: stpsA script :: imi (0 < script.length) gA18 (.cells kA20 eA21 zA22) :: F) := ((((((((H42.move 7 rfl).move 7 rfl).move 7 rfl).move 7 rfl).move 7 rfl).move 7 rfl).move 7 rfl).move 7 rfl)
            exact join116 (X) _ _ H180 ⟨by first | rfl | exact vint (by omega), by first | rfl | exact vint (by omega), by first | rfl | exact vint (by omega), by first | rfl | exact vint (by omega), by first | rfl | exact vint (by omega), by first | rfl | exact vint (by omega), by first | rfl | exact vint (by omega), trivial⟩
      · skip
        refine r_cons (s_lss false rfl rfl (dfalse hc34) rfl ?_)
        refine r_nil ?_
        refine g_seq ?_
        refine g_false rfl ?_
        refine g_exit (by rfl) ?_
        refine g_seq ?_
        refine g_region ?_
        refine r_cons (s_assign (.bool true) rfl rfl ?_)
        refine r_nil ?_
        refine g_ret' [.bool true] Try.func4 Try.results4 ⟨rfl, trivial⟩ ?_
        have H181 : St W w31 F := ((((H32.drop 0 rfl).drop 0 rfl).drop 0 rfl).drop 0 rfl)
        exact ⟨rfl, H181⟩
  · have hb7 := eq_false_of_ne_true hb7
    refine r_cons (s_call [.int .i64 op.v] pl_18 rfl rfl (NewLanding_no op hb7 H6) ?_)
    rintro _ w182 ⟨rfl, H183⟩
    refine r_cons (s_move (.tuple #[.pointer none, .int .i64 1]) rfl rfl ?_)
    refine r_cons (s_extract (.pointer none) #[.pointer none, .int .i64 1] rfl rfl rfl ?_)
    refine r_cons (s_extract (.int .i64 1) #[.pointer none, .int .i64 1] rfl rfl rfl ?_)
    refine r_cons (s_assign (.pointer none) rfl rfl ?_)
    refine r_cons (s_assign (.int .i64 1) rfl rfl ?_)
    refine r_nil ?_
    refine g_seq ?_
    refine g_region ?_
    refine r_cons (s_move (.int .i64 op.v) rfl rfl ?_)
    refine r_cons (s_call [.int .i64 op.v] pl_19 rfl rfl (Ref24_NewLanding_no op hb7 H183) ?_)
    rintro _ w184 ⟨rfl, H185⟩
    refine r_cons (s_move (.tuple #[.pointer none, .int .i64 1]) rfl rfl ?_)
    refine r_cons (s_extract (.pointer none) #[.pointer none, .int .i64 1] rfl rfl rfl ?_)
    refine r_cons (s_extract (.int .i64 1) #[.pointer none, .int .i64 1] rfl rfl rfl ?_)
    refine r_cons (s_assign (.pointer none) rfl rfl ?_)
    refine r_cons (s_assign (.int .i64 1) rfl rfl ?_)
    refine r_nil ?_
    refine g_seq ?_
    refine g_seq ?_
    refine g_region ?_
    refine r_cons (s_call [] pl_10 rfl rfl (begun_ H185) ?_)
    rintro _ w186 ⟨rfl, H187⟩
    refine r_cons (s_not true rfl false rfl rfl ?_)
    refine r_cons (s_move (.bool false) rfl rfl ?_)
    refine r_cons (r_take rfl rfl ?_)
    refine s_move (.int .i64 1) rfl rfl ?_
    refine r_cons (r_take rfl rfl ?_)
    refine s_move (.int .i64 1) rfl rfl ?_
    refine r_cons (r_take rfl rfl ?_)
    refine s_neq false rfl rfl (ntrue (by decide)) rfl ?_
    refine r_cons (s_pick_f (.bool false) rfl rfl rfl ?_)
    refine r_cons (s_move (.bool false) rfl rfl ?_)
    refine r_cons (r_take rfl rfl ?_)
    refine s_move (.pointer none) rfl rfl ?_
    refine r_cons (r_take rfl rfl ?_)
    refine s_peql true un_44 rfl rfl rfl rfl ?_
    refine r_cons (r_take rfl rfl ?_)
    refine s_move (.pointer none) rfl rfl ?_
    refine r_cons (r_take rfl rfl ?_)
    refine s_peql true un_47 rfl rfl rfl rfl ?_
    refine r_cons (r_take rfl rfl ?_)
    refine s_bneq false un_4 rfl rfl (ntrue rfl) rfl ?_
    refine r_cons (s_pick_f (.bool false) rfl rfl rfl ?_)
    refine r_nil ?_
    refine g_false rfl ?_
    refine g_skip ?_
    refine g_seq ?_
    refine g_seq ?_
    refine g_region ?_
    refine r_cons (s_move (.pointer none) rfl rfl ?_)
    refine r_cons (s_peql true un_47 rfl rfl rfl rfl ?_)
    refine r_nil ?_
    refine g_true rfl ?_
    refine g_seq ?_
    refine g_region ?_
    refine r_cons (s_assign (.bool true) rfl rfl ?_)
    refine r_nil ?_
    refine g_ret' [.bool true] Try.func4 Try.results4 ⟨rfl, trivial⟩ ?_
    have H188 : St W w186 F := ((H187.drop 0 rfl).drop 0 rfl)
    exact ⟨rfl, H188⟩
end Sl
