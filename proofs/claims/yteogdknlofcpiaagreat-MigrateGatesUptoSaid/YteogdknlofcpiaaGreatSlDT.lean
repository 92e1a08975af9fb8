import Derived.Test.YteogdknlofcpiaaGreatSlDR
import Derived.Test.YteogdknlofcpiaaGreatSlAG
import Derived.Test.YteogdknlofcpiaaGreatSlDM
namespace Sl
open _root_.Go _root_.Go.RowKit
set_option linter.all false
set_option linter.unusedSimpArgs false
structure ByD where
 data : List UInt8
 p : Option Addr
 c : Nat
instance : Inhabited ByD := ⟨⟨[], none, 0⟩⟩
def byCell (x : ByD) : List Value := [.slice x.p x.data.length x.c]
theorem byCell_len (x : ByD) : (byCell x).length = 1 := rfl
def bysA (B : List ByD) : Atom := ⟨fun I h => h = Heap.none ∧ ∀ x ∈ B, (DtA x.p x.c x.data).sat I Heap.none, fun I J h hl ⟨a, b⟩ => ⟨a, fun x hx => (DtA x.p x.c x.data).mono I J _ hl (b x hx)⟩⟩
theorem bysA_pers (B : List ByD) : (bysA B).pers := fun _ _ h => h.1
section
variable {W w : World} {F : List Atom} {i : Nat} {B : List ByD}
theorem bysA_nil (H : St W w F) : St W w (bysA [] :: F) := H.derive2 fun I _ => ⟨rfl, fun x hx => by cases hx⟩
theorem getD_memB {j : Nat} (hj : j < B.length) : B.getD j default ∈ B := by
 rw [List.getD_eq_getElem?_getD, List.getElem?_eq_getElem hj]
 exact List.getElem_mem hj
theorem bysA_at {j : Nat} (H : St W w F) (hi : F[i]? = some (bysA B)) (hj : j < B.length) : St W w (DtA (B.getD j default).p (B.getD j default).c (B.getD j default).data :: F) := H.derive2 fun I h => (h i _ hi (bysA_pers B)).2 _ (getD_memB hj)
theorem bysA_snoc {x : ByD} (H : St W w (DtA x.p x.c x.data :: bysA B :: F)) : St W w (bysA (B ++ [x]) :: F) := by
 have H2 : St W w (bysA (B ++ [x]) :: DtA x.p x.c x.data :: bysA B :: F) := H.derive2 fun I h => ⟨rfl, fun y hy => by
  rcases List.mem_append.1 hy with hy | hy
  ·exact (h 1 _ rfl (bysA_pers B)).2 y hy
  ·rw [List.mem_singleton] at hy
   subst hy
   exact h 0 _ rfl (DtA_pers _ _ _)⟩
 exact (H2.drop 1 rfl).drop 1 rfl
end
theorem take_snocG {α : Type} [Inhabited α] {L : List α} {j : Nat} (h : j < L.length) : L.take (j + 1) = L.take j ++ [L.getD j default] := by
 rw [List.take_succ, List.getD_eq_getElem?_getD, List.getElem?_eq_getElem h]; rfl
def be4 (n : Nat) : List UInt8 := [UInt8.ofNat (n / 16777216), UInt8.ofNat (n / 65536), UInt8.ofNat (n / 256), UInt8.ofNat n]
theorem be4_cells (n : Nat) : (be4 n).flatMap u8c = [.int .u8 ((n / 16777216 % 256 : Nat) : Int), .int .u8 ((n / 65536 % 256 : Nat) : Int), .int .u8 ((n / 256 % 256 : Nat) : Int), .int .u8 ((n % 256 : Nat) : Int)] := by
 simp only [be4, List.flatMap_cons, List.flatMap_nil, u8c, List.cons_append, List.nil_append, List.append_nil, UInt8.toNat_ofNat']
def pk1 (x : List UInt8) : List UInt8 := be4 x.length ++ x
def pkL (L : List (List UInt8)) : List UInt8 := L.flatMap pk1
def sumL (L : List (List UInt8)) : Nat := (L.map List.length).sum
def pkE (L : List (List UInt8)) : Int := if 1024 < L.length ∨ 4194304 < sumL L then 3 else 0
def pkB (L : List (List UInt8)) : List UInt8 := if pkE L = 0 then pkL L else []
theorem pkE_no {L : List (List UInt8)} (h : 1024 < L.length ∨ 4194304 < sumL L) : pkE L = 3 := if_pos h
theorem pkE_yes {L : List (List UInt8)} (h1 : ¬ 1024 < L.length) (h2 : ¬ 4194304 < sumL L) : pkE L = 0 := if_neg (by rintro (h | h) <;> omega)
theorem pkE_is {L : List (List UInt8)} (h : pkE L = 0) : L.length ≤ 1024 ∧ sumL L ≤ 4194304 := by
 have hn : ¬ (1024 < L.length ∨ 4194304 < sumL L) := fun hc => by rw [pkE_no hc] at h; cases h
 exact ⟨by omega, by omega⟩
theorem pkB_yes {L : List (List UInt8)} (h : pkE L = 0) : pkB L = pkL L := if_pos h
theorem pkB_no {L : List (List UInt8)} (h : ¬ pkE L = 0) : pkB L = [] := if_neg h
theorem sumL_snoc (L : List (List UInt8)) (x : List UInt8) : sumL (L ++ [x]) = sumL L + x.length := by simp [sumL]
theorem sumL_cons (L : List (List UInt8)) (x : List UInt8) : sumL (x :: L) = x.length + sumL L := by simp [sumL]
theorem sumL_app (L M : List (List UInt8)) : sumL (L ++ M) = sumL L + sumL M := by simp [sumL]
theorem pkL_snoc (L : List (List UInt8)) (x : List UInt8) : pkL (L ++ [x]) = pkL L ++ be4 x.length ++ x := by simp [pkL, pk1, List.append_assoc]
theorem pkL_cons (L : List (List UInt8)) (x : List UInt8) : pkL (x :: L) = be4 x.length ++ x ++ pkL L := by simp [pkL, pk1, List.append_assoc]
theorem be4_len (n : Nat) : (be4 n).length = 4 := rfl
theorem pkL_len : ∀ L : List (List UInt8), (pkL L).length = 4 * L.length + sumL L
 | [] => rfl
 | x :: L => by rw [pkL_cons, List.length_append, List.length_append, be4_len, pkL_len L, sumL_cons, List.length_cons]; omega
theorem sumL_take (L : List (List UInt8)) (j : Nat) : sumL (L.take j) ≤ sumL L := by
 have h := sumL_app (L.take j) (L.drop j)
 rw [List.take_append_drop] at h
 omega
theorem sumL_le {L : List (List UInt8)} {m : Nat} (h : ∀ x ∈ L, x.length ≤ m) : sumL L ≤ m * L.length := by
 induction L with
 | nil => simp [sumL]
 | cons x L ih =>
  rw [sumL_cons, List.length_cons, Nat.mul_succ]
  have h1 := h x (by simp)
  have h2 := ih fun y hy => h y (by simp [hy])
  omega
section
variable {B : List ByD} {j : Nat}
theorem map_snoc (h : j < B.length) : (B.take (j + 1)).map ByD.data = (B.take j).map ByD.data ++ [(B.getD j default).data] := by rw [take_snocG h, List.map_append]; rfl
theorem sum_step (h : j < B.length) : sumL ((B.take (j + 1)).map ByD.data) = sumL ((B.take j).map ByD.data) + (B.getD j default).data.length := by rw [map_snoc h, sumL_snoc]
theorem pk_step (h : j < B.length) : pkL ((B.take (j + 1)).map ByD.data) = pkL ((B.take j).map ByD.data) ++ be4 (B.getD j default).data.length ++ (B.getD j default).data := by rw [map_snoc h, pkL_snoc]
theorem sum_part (j : Nat) : sumL ((B.take j).map ByD.data) ≤ sumL (B.map ByD.data) := by rw [List.map_take]; exact sumL_take _ _
theorem sum_bound (h : ∀ x ∈ B, x.data.length ≤ 130000) : sumL (B.map ByD.data) ≤ 130000 * B.length := by
 have := sumL_le (L := B.map ByD.data) (m := 130000) (by intro x hx; obtain ⟨y, hy, rfl⟩ := List.mem_map.1 hx; exact h y hy)
 rwa [List.length_map] at this
theorem pk_len_part (j : Nat) : (pkL ((B.take j).map ByD.data)).length ≤ 4 * B.length + sumL (B.map ByD.data) := by
 rw [pkL_len, List.length_map, List.length_take]
 have := sum_part (B := B) j
 omega
end
theorem or2 {a b k : Nat} (hb : b < 2 ^ k) : a * 2 ^ k ||| b = a * 2 ^ k + b := by
 rw [Nat.mul_comm, Nat.two_pow_add_eq_or_of_lt hb]
theorem or4 {n : Nat} (h : n < 4294967296) : n / 16777216 % 256 * 16777216 ||| n / 65536 % 256 * 65536 = n / 65536 * 65536 ∧ n / 65536 * 65536 ||| n / 256 % 256 * 256 = n / 256 * 256 ∧ n / 256 * 256 ||| n % 256 = n := by
 refine ⟨?_, ?_, ?_⟩
 ·have := or2 (a := n / 16777216 % 256) (b := n / 65536 % 256 * 65536) (k := 24) (by omega)
  rw [show (2 : Nat) ^ 24 = 16777216 from rfl] at this
  rw [this]; omega
 ·have := or2 (a := n / 65536) (b := n / 256 % 256 * 256) (k := 16) (by omega)
  rw [show (2 : Nat) ^ 16 = 65536 from rfl] at this
  rw [this]; omega
 ·have := or2 (a := n / 256) (b := n % 256) (k := 8) (by omega)
  rw [show (2 : Nat) ^ 8 = 256 from rfl] at this
  rw [this]; omega
theorem u8_of (n : Nat) : (UInt8.ofNat n).toNat = n % 256 := by rw [UInt8.toNat_ofNat']
theorem be4_at {L : List (List UInt8)} {k : Nat} (h : k < L.length) : ((pkL (L.drop k)).getD 0 0).toNat = (L.getD k default).length / 16777216 % 256 ∧ ((pkL (L.drop k)).getD 1 0).toNat = (L.getD k default).length / 65536 % 256 ∧ ((pkL (L.drop k)).getD 2 0).toNat = (L.getD k default).length / 256 % 256 ∧ ((pkL (L.drop k)).getD 3 0).toNat = (L.getD k default).length % 256 := by
 have hd : L.drop k = L.getD k default :: L.drop (k + 1) := by rw [List.drop_eq_getElem_cons h, List.getD_eq_getElem?_getD, List.getElem?_eq_getElem h]; rfl
 rw [hd, pkL_cons]
 exact ⟨u8_of _, u8_of _, u8_of _, u8_of _⟩
theorem pk_drop {L : List (List UInt8)} {k : Nat} (h : k < L.length) : pkL (L.drop k) = be4 (L.getD k default).length ++ (L.getD k default) ++ pkL (L.drop (k + 1)) := by
 have hd : L.drop k = L.getD k default :: L.drop (k + 1) := by rw [List.drop_eq_getElem_cons h, List.getD_eq_getElem?_getD, List.getElem?_eq_getElem h]; rfl
 rw [hd, pkL_cons]
theorem pk_drop_len {L : List (List UInt8)} {k : Nat} (h : k < L.length) : (pkL (L.drop k)).length = 4 + (L.getD k default).length + (pkL (L.drop (k + 1))).length := by
 rw [pk_drop h, List.length_append, List.length_append, be4_len]
theorem pk_drop_mid {L : List (List UInt8)} {k : Nat} (h : k < L.length) : ((pkL (L.drop k)).drop 4).take (L.getD k default).length = L.getD k default := by
 rw [pk_drop h, List.append_assoc, List.drop_left' (be4_len _), List.take_left]
theorem pk_drop_end {L : List (List UInt8)} {k : Nat} (h : k < L.length) : (pkL (L.drop k)).drop (4 + (L.getD k default).length) = pkL (L.drop (k + 1)) := by
 rw [pk_drop h]
 exact List.drop_left' (by rw [List.length_append, be4_len])
theorem pk_drop_all {L : List (List UInt8)} {k : Nat} (h : ¬ k < L.length) : pkL (L.drop k) = [] := by rw [List.drop_eq_nil_of_le (by omega)]; rfl
theorem pk_pos {L : List (List UInt8)} {k : Nat} (h : 0 < (pkL (L.drop k)).length) : k < L.length := Decidable.byContradiction fun hc => by rw [pk_drop_all hc] at h; simp at h
theorem len_part {L : List (List UInt8)} {k : Nat} (h : k < L.length) : (L.getD k default).length ≤ sumL L := by
 have h1 := sumL_take L (k + 1)
 rw [take_snocG h, sumL_snoc] at h1
 omega
theorem u8_wrap (n : Nat) : IntKind.u8.wrap (n : Int) = ((n % 256 : Nat) : Int) := by
 show (n : Int) % 256 = _
 omega
theorem shr24 (u : Nat) : (u : Int).fdiv (2 ^ (min (24 : Int).toNat 64)) = ((u / 16777216 : Nat) : Int) := shr_nat (k := 24) rfl (by decide)
theorem shr16 (u : Nat) : (u : Int).fdiv (2 ^ (min (16 : Int).toNat 64)) = ((u / 65536 : Nat) : Int) := shr_nat (k := 16) rfl (by decide)
theorem shr8 (u : Nat) : (u : Int).fdiv (2 ^ (min (8 : Int).toNat 64)) = ((u / 256 : Nat) : Int) := shr_nat (k := 8) rfl (by decide)
theorem shl24 {a : Nat} (h : a < 256) : IntKind.i64.wrap ((a : Int) * 2 ^ (min (24 : Int).toNat 64)) = ((a * 16777216 : Nat) : Int) := by
 show IntKind.i64.wrap ((a : Int) * 16777216) = _
 exact (wi64 (by omega)).trans (by omega)
theorem shl16 {a : Nat} (h : a < 256) : IntKind.i64.wrap ((a : Int) * 2 ^ (min (16 : Int).toNat 64)) = ((a * 65536 : Nat) : Int) := by
 show IntKind.i64.wrap ((a : Int) * 65536) = _
 exact (wi64 (by omega)).trans (by omega)
theorem shl8 {a : Nat} (h : a < 256) : IntKind.i64.wrap ((a : Int) * 2 ^ (min (8 : Int).toNat 64)) = ((a * 256 : Nat) : Int) := by
 show IntKind.i64.wrap ((a : Int) * 256) = _
 exact (wi64 (by omega)).trans (by omega)
theorem or24 {a b c : Nat} (h : a ||| b = c) (ha : a < 4294967296) (hb : b < 4294967296) (hc : c < 4294967296) : bitOp .or .i64 (a : Int) (b : Int) = (c : Int) := by
 rw [bit_or (K := .i64) (by show a < 18446744073709551616; omega) (by show b < 18446744073709551616; omega), h]
 exact wi64 (by omega)
def be8 (e : Nat) : List UInt8 := (List.range 8).map fun i => UInt8.ofNat (e / 2 ^ (56 - 8 * i))
theorem be8_len (e : Nat) : (be8 e).length = 8 := rfl
theorem be8_at (e : Nat) {i : Nat} (h : i < 8) : (be8 e).getD i default = UInt8.ofNat (e / 2 ^ (56 - 8 * i)) := by
 rw [List.getD_eq_getElem?_getD, List.getElem?_eq_getElem (by rw [be8_len]; exact h)]
 simp [be8]
theorem be8_nat (e : Nat) {i : Nat} (h : i < 8) : ((be8 e).getD i default).toNat = e / 2 ^ (56 - 8 * i) % 256 := by rw [be8_at e h, u8_of]
theorem be8_step (e : Nat) {i : Nat} (h : i < 8) : (be8 e).take (i + 1) = (be8 e).take i ++ [UInt8.ofNat (e / 2 ^ (56 - 8 * i))] := by rw [take_snocG (by rw [be8_len]; exact h), be8_at e h]
theorem pow_step {i : Nat} (h : i < 8) : (2 : Nat) ^ (64 - 8 * i) = 2 ^ (56 - 8 * i) * 256 := by
 rw [show 64 - 8 * i = (56 - 8 * i) + 8 from by omega, Nat.pow_add]
theorem up_step (e : Nat) {i : Nat} (h : i < 8) : e / 2 ^ (64 - 8 * i) * 256 ||| e / 2 ^ (56 - 8 * i) % 256 = e / 2 ^ (64 - 8 * (i + 1)) := by
 have h1 := or2 (a := e / 2 ^ (64 - 8 * i)) (b := e / 2 ^ (56 - 8 * i) % 256) (k := 8) (Nat.mod_lt _ (by decide))
 rw [show (2 : Nat) ^ 8 = 256 from rfl] at h1
 rw [h1, pow_step h, ← Nat.div_div_eq_div_mul, show 64 - 8 * (i + 1) = 56 - 8 * i from by omega]
 omega
def hdL (E j : Nat) : List UInt8 := (be8 E).take j ++ List.replicate (8 - j) 0
theorem hdL_all (E : Nat) : hdL E 8 = be8 E := by unfold hdL; rw [List.take_of_length_le (by rw [be8_len]; exact Nat.le_refl 8)]; simp
theorem hdL_step (E : Nat) : ∀ {j : Nat}, j < 8 → (hdL E j).set j (UInt8.ofNat (E / 2 ^ (56 - 8 * j))) = hdL E (j + 1)
 | 0, _ => rfl
 | 1, _ => rfl
 | 2, _ => rfl
 | 3, _ => rfl
 | 4, _ => rfl
 | 5, _ => rfl
 | 6, _ => rfl
 | 7, _ => rfl
 | _ + 8, h => by omega
theorem hdL_len (E : Nat) {j : Nat} (h : j ≤ 8) : (hdL E j).length = 8 := by
 unfold hdL; rw [List.length_append, List.length_take, be8_len, List.length_replicate]; omega
theorem u8_cell (m : Nat) : [UInt8.ofNat m].flatMap u8c = [.int .u8 ((m % 256 : Nat) : Int)] := by
 simp only [List.flatMap_cons, List.flatMap_nil, u8c, List.append_nil, u8_of]
theorem shr_e {e : Int} {E j : Nat} (hE : e = (E : Int)) (hj : j < 8) : e.fdiv (2 ^ (min ((56 : Int) - 8 * (j : Int)).toNat 64)) = ((E / 2 ^ (56 - 8 * j) : Nat) : Int) := by
 subst hE
 exact shr_nat (k := 56 - 8 * j) (by omega) (by omega)
noncomputable def gbL (E : Nat) (V : List ItemV) : List (List UInt8) := be8 E :: V.map itBytes
theorem gb_len {B : List ByD} {E : Nat} {V : List ItemV} (h : B.map ByD.data = gbL E V) : B.length = V.length + 1 := by
 have := congrArg List.length h
 simpa [gbL] using this
theorem gb_small {B : List ByD} {E : Nat} {V : List ItemV} (h : B.map ByD.data = gbL E V) : ∀ x ∈ B, x.data.length ≤ 130000 := by
 intro x hx
 have hm : x.data ∈ gbL E V := h ▸ List.mem_map.2 ⟨x, hx, rfl⟩
 unfold gbL at hm
 rcases List.mem_cons.1 hm with he | hm
 ·rw [he, be8_len]; decide
 ·obtain ⟨y, _, he⟩ := List.mem_map.1 hm
  rw [← he]; exact itBytes_le y
theorem gb_snoc {B : List ByD} {E : Nat} {V : List ItemV} (h : B.map ByD.data = gbL E V) (y : ItemV) (p : Option Addr) (c : Nat) : (B ++ [(⟨itBytes y, p, c⟩ : ByD)]).map ByD.data = gbL E (V ++ [y]) := by
 rw [List.map_append, h]; unfold gbL; rw [List.map_append]; rfl
theorem gb_one (E : Nat) (p : Option Addr) (c : Nat) : [(⟨be8 E, p, c⟩ : ByD)].map ByD.data = gbL E [] := rfl
theorem gb_all {pre : List ItemD} {M L : List ItemD} (h1 : pre.map ItemD.v = M.map ItemD.v) (h2 : M.map ItemD.v = L.map ItemD.v) : pre.map ItemD.v = L.map ItemD.v := h1.trans h2
theorem v_snoc (pre : List ItemD) (x : ItemD) : (pre ++ [x]).map ItemD.v = pre.map ItemD.v ++ [x.v] := by rw [List.map_append]; rfl
theorem u8_cell2 (m : Nat) : u8c (UInt8.ofNat m) = [.int .u8 ((m % 256 : Nat) : Int)] := by unfold u8c; rw [u8_of]
theorem ok_of {M L : List ItemD} (h : M.map ItemD.v = L.map ItemD.v) (hL : ∀ x ∈ L, itE x = 0) : ∀ x ∈ M, itE x = 0 := by
 intro x hx
 have hm : x.v ∈ L.map ItemD.v := h ▸ List.mem_map.2 ⟨x, hx, rfl⟩
 obtain ⟨y, hy, he⟩ := List.mem_map.1 hm
 rw [itE_V, ← he, ← itE_V]; exact hL y hy
theorem pre_len {pre M : List ItemD} {x : ItemD} {B : List ByD} {E : Nat} (h : (pre ++ [x]).map ItemD.v <+: M.map ItemD.v) (hB : B.map ByD.data = gbL E (pre.map ItemD.v)) : B.length ≤ M.length := by
 have h1 := h.length_le
 have h2 := gb_len hB
 simp only [List.length_map, List.length_append, List.length_singleton] at h1 h2
 omega
theorem bysA_sub {W w : World} {F : List Atom} {i : Nat} {B M : List ByD} (H : St W w F) (hi : F[i]? = some (bysA B)) (h : ∀ x ∈ M, x ∈ B) : St W w (bysA M :: F) := H.derive2 fun I hI => ⟨rfl, fun x hx => (hI i _ hi (bysA_pers B)).2 x (h x hx)⟩
theorem shl8u {u : Nat} (h : u ≤ 1099511627776) : IntKind.u64.wrap ((u : Int) * 2 ^ (min (8 : Int).toNat 64)) = ((u * 256 : Nat) : Int) := by
 show IntKind.u64.wrap ((u : Int) * 256) = _
 exact (wu64 (by omega)).trans (by omega)
theorem up_or {E u i x : Nat} (hu : u = E / 2 ^ (64 - 8 * i)) (hx : x = E / 2 ^ (56 - 8 * i) % 256) (hE : E ≤ 1099511627776) (hi : i < 8) : bitOp .or .u64 ((u * 256 : Nat) : Int) (x : Int) = ((E / 2 ^ (64 - 8 * (i + 1)) : Nat) : Int) := by
 have h1 : u ≤ E := hu ▸ Nat.div_le_self _ _
 have h2 : x < 256 := hx ▸ Nat.mod_lt _ (by decide)
 have h3 : E / 2 ^ (64 - 8 * (i + 1)) ≤ E := Nat.div_le_self _ _
 rw [bit_or (K := .u64) (by show u * 256 < 18446744073709551616; omega) (by show x < 18446744073709551616; omega)]
 have h4 : u * 256 ||| x = E / 2 ^ (64 - 8 * (i + 1)) := by rw [hu, hx]; exact up_step E hi
 rw [h4]
 exact wu64 (by omega)
theorem up_zero {E : Nat} (hE : E ≤ 1099511627776) : 0 = E / 2 ^ (64 - 8 * 0) := (Nat.div_eq_of_lt (by show E < 18446744073709551616; omega)).symm
theorem up_all {E u i : Nat} (hu : u = E / 2 ^ (64 - 8 * i)) (hi : i = 8) : u = E := by subst hi; rw [hu]; exact Nat.div_one E
theorem gb_head {B : List ByD} {E : Nat} {V : List ItemV} (h : B.map ByD.data = gbL E V) : (B.getD 0 default).data = be8 E := by
 cases B with
 | nil => cases h
 | cons x B => exact (List.cons.inj h).1
theorem gb_at {B : List ByD} {E : Nat} {V : List ItemV} (h : B.map ByD.data = gbL E V) {k : Nat} (hk : k < V.length) : ((B.drop 1).getD k default).data = itBytes (V.getD k ⟨i64N 0, i64N 0, i64N 0, i64N 0, [], i64N 0⟩) := by
 cases B with
 | nil => cases h
 | cons x B =>
  have h2 : B.map ByD.data = V.map itBytes := (List.cons.inj h).2
  have hl : B.length = V.length := by have := congrArg List.length h2; simpa using this
  have h3 := congrArg (fun l => l[k]?) h2
  simp only [List.getElem?_map, List.getElem?_eq_getElem hk, List.getElem?_eq_getElem (show k < B.length by omega), Option.map_some, Option.some.injEq] at h3
  show (B.getD k default).data = _
  rw [List.getD_eq_getElem?_getD, List.getD_eq_getElem?_getD, List.getElem?_eq_getElem hk, List.getElem?_eq_getElem (show k < B.length by omega)]
  exact h3
theorem gb_drop {B : List ByD} {E : Nat} {V : List ItemV} (h : B.map ByD.data = gbL E V) : (B.drop 1).length = V.length := by rw [List.length_drop, gb_len h]; omega
theorem zat_mem {V : List ItemV} {k : Nat} (hk : k < V.length) : V.getD k ⟨i64N 0, i64N 0, i64N 0, i64N 0, [], i64N 0⟩ ∈ V := by
 rw [List.getD_eq_getElem?_getD, List.getElem?_eq_getElem hk]; exact List.getElem_mem hk
theorem vtake_snoc {V : List ItemV} {L : List ItemD} {x : ItemD} {k : Nat} (h : L.map ItemD.v = V.take k) (hk : k < V.length) (hx : x.v = V.getD k ⟨i64N 0, i64N 0, i64N 0, i64N 0, [], i64N 0⟩) : (L ++ [x]).map ItemD.v = V.take (k + 1) := by
 rw [v_snoc, h, hx, List.take_succ, List.getD_eq_getElem?_getD, List.getElem?_eq_getElem hk]; rfl
theorem gb_item {B : List ByD} {E : Nat} {V : List ItemV} (h : B.map ByD.data = gbL E V) {k : Nat} (hk : k < V.length) (hV : ∀ x ∈ V, itEV x = 0 ∧ (E : Int) < x.ep.v) {x : ItemD} (hx : x.v = ipV (remB ((B.drop 1).getD k default).data 0)) : ipE (remB ((B.drop 1).getD k default).data 0) = 0 ∧ x.v = V.getD k ⟨i64N 0, i64N 0, i64N 0, i64N 0, [], i64N 0⟩ ∧ (E : Int) < x.ep.v := by
 rw [gb_at h hk] at hx ⊢
 obtain ⟨h1, h2⟩ := hV _ (zat_mem hk)
 obtain ⟨h3, h4⟩ := it_enc h1
 have h5 := hx.trans h4
 exact ⟨h3, h5, by have h6 : x.v.ep.v = _ := congrArg (fun z => z.ep.v) h5; have h7 : x.ep.v = x.v.ep.v := rfl; omega⟩
theorem gb_dlen {B : List ByD} {E : Nat} {V : List ItemV} (h : B.map ByD.data = gbL E V) {k : Nat} (hk : k < V.length) : ((B.drop 1).getD k default).data.length ≤ 130000 := by rw [gb_at h hk]; exact itBytes_le _
def GOk (i : Nat) (e : Int) (V : List ItemV) : Prop := 0 ≤ e ∧ e ≤ 4098 * i ∧ V.length ≤ 4096 ∧ ∀ x ∈ V, itEV x = 0 ∧ e < x.ep.v
theorem gok_start : GOk 0 0 [] := ⟨by decide, by decide, by decide, fun x hx => by cases hx⟩
theorem gok_up {i : Nat} {e : Int} {V : List ItemV} (h : GOk i e V) : GOk (i + 1) e V := ⟨h.1, by have := h.2.1; omega, h.2.2.1, h.2.2.2⟩
theorem goG_ok {n : Nat} : ∀ {e : Int} {V : List ItemV}, V.length < n → (∀ x ∈ V, itEV x = 0 ∧ e < x.ep.v) → e ≤ (goG epV kdV n e V).2.1 ∧ (goG epV kdV n e V).2.1 ≤ e + n ∧ (goG epV kdV n e V).2.2.length ≤ V.length ∧ ∀ x ∈ (goG epV kdV n e V).2.2, itEV x = 0 ∧ (goG epV kdV n e V).2.1 < x.ep.v := by
 induction n with
 | zero => intro e V h; omega
 | succ n ih =>
  intro e V h hV
  have hR : ∀ x ∈ trR epV (e + 1) V, itEV x = 0 ∧ e + 1 < x.ep.v := fun x hx => by
   obtain ⟨h1, h2⟩ := trR_mem hx
   have h3 := hV x h1
   exact ⟨h3.1, by have : ¬ x.ep.v = e + 1 := h2; omega⟩
  have hl := trR_len (ep := epV) (e := e + 1) (L := V)
  cases hE : trE epV kdV (e + 1) V with
  | false =>
   rw [goG_no hE]
   exact ⟨by show e ≤ e + 1; omega, by show e + 1 ≤ e + ((n + 1 : Nat) : Int); omega, hl, hR⟩
  | true =>
   rw [goG_yes hE]
   have hlt := trR_lt hE
   obtain ⟨a, b, c, d⟩ := ih (e := e + 1) (V := trR epV (e + 1) V) (by omega) hR
   exact ⟨Int.le_trans (by omega) a, Int.le_trans b (by omega), Nat.le_trans c hl, d⟩
theorem gok_step {i : Nat} {e e2 : Int} {L L2 O : List ItemD} {x : ItemD} (h : GOk i e (L.map ItemD.v)) (hT : gkV (gkE e L.length x) e (L.map ItemD.v) x.v = (O.map ItemD.v, e2, L2.map ItemD.v)) : GOk (i + 1) e2 (L2.map ItemD.v) := by
 by_cases hE : gkE e L.length x = 0
 ·have hit : itE x = 0 := Decidable.byContradiction fun hn => by rw [gkE_it hn] at hE; exact hn hE
  unfold gkV at hT
  rw [if_pos hE] at hT
  unfold gkR at hT
  by_cases h1 : e < x.v.ep.v
  ·rw [if_pos h1] at hT
   have h2 : L.map ItemD.v ++ [x.v] = L2.map ItemD.v := congrArg (·.2.2) hT
   have h3 : e = e2 := congrArg (·.2.1) hT
   have hl : ¬ 4096 ≤ L.length := fun hc => by rw [gkE_full hit h1 hc] at hE; cases hE
   rw [← h2, ← h3]
   refine ⟨h.1, by have := h.2.1; omega, by rw [List.length_append, List.length_map]; simp only [List.length_singleton]; omega, fun y hy => ?_⟩
   rcases List.mem_append.1 hy with hy | hy
   ·exact h.2.2.2 y hy
   ·rw [List.mem_singleton] at hy
    subst hy
    exact ⟨by rw [← itE_V]; exact hit, h1⟩
  ·rw [if_neg h1] at hT
   by_cases h2 : ¬ x.v.kind.v = 3
   ·rw [if_pos h2] at hT
    have h3 : L.map ItemD.v = L2.map ItemD.v := congrArg (·.2.2) hT
    have h4 : e = e2 := congrArg (·.2.1) hT
    rw [← h3, ← h4]; exact gok_up h
   ·rw [if_neg h2] at hT
    obtain ⟨a, b, c, d⟩ := goG_ok (n := (L.map ItemD.v).length + 1) (e := e) (V := L.map ItemD.v) (by omega) h.2.2.2
    rw [hT] at a b c d
    have := h.2.1
    have := h.2.2.1
    have := h.1
    exact ⟨by show (0 : Int) ≤ e2; have a : e ≤ e2 := a; omega, by have b : e2 ≤ e + ((L.map ItemD.v).length + 1 : Nat) := b; omega, by have c : (L2.map ItemD.v).length ≤ (L.map ItemD.v).length := c; omega, d⟩
 ·rw [gk_no hE] at hT
  have h3 : L.map ItemD.v = L2.map ItemD.v := congrArg (·.2.2) hT
  have h4 : e = e2 := congrArg (·.2.1) hT
  rw [← h3, ← h4]; exact gok_up h
theorem bsOk_it {x : ItemD} (h : itE x = 0) : bsOk x.bs := by
 obtain ⟨_, _, _, d⟩ := itEV_is (x := x.v) (by rw [← itE_V]; exact h)
 rcases d with ⟨_, _, d⟩ | ⟨_, _, _, d⟩ | ⟨_, _, d⟩
 ·obtain ⟨h1, h2⟩ := ptEV_is d
  have hl : x.bs.length ≤ 12 := by have h9 : (x.bs.map BoundD.v).length ≤ 12 := h1; rwa [List.length_map] at h9
  refine ⟨by omega, fun i hi => ?_⟩
  have hm : (x.bs.getD i default).v ∈ x.bs.map BoundD.v := List.mem_map.2 ⟨_, by rw [List.getD_eq_getElem?_getD, List.getElem?_eq_getElem hi]; exact List.getElem_mem hi, rfl⟩
  have he := (h2 _ hm).2
  have := evE_attrs_len he
  have h9 : (x.bs.getD i default).ev.ev.attrs.length ≤ 8 := this
  omega
 ·have hl : x.bs = [] := List.map_eq_nil_iff.1 d
  rw [hl]; exact bsOk_nil
 ·have hl : x.bs = [] := List.map_eq_nil_iff.1 d
  rw [hl]; exact bsOk_nil
theorem gk_both {e e1 e2 : Int} {L1 L2 O1 O2 M1 M2 : List ItemD} {x : ItemD} (hv : L1.map ItemD.v = L2.map ItemD.v) (h1 : gkV (gkE e L1.length x) e (L1.map ItemD.v) x.v = (O1.map ItemD.v, e1, M1.map ItemD.v)) (h2 : gkV (gkE e L2.length x) e (L2.map ItemD.v) x.v = (O2.map ItemD.v, e2, M2.map ItemD.v)) : O1.map ItemD.v = O2.map ItemD.v ∧ e1 = e2 ∧ M1.map ItemD.v = M2.map ItemD.v := by
 have hl : L1.length = L2.length := by have := congrArg List.length hv; simpa using this
 rw [hv, hl] at h1
 have h := h1.symm.trans h2
 exact ⟨congrArg (·.1) h, congrArg (·.2.1) h, congrArg (·.2.2) h⟩
theorem v_lens {L M : List ItemD} (h : L.map ItemD.v = M.map ItemD.v) : L.length = M.length := by have := congrArg List.length h; simpa using this
theorem gok_items {i : Nat} {e : Int} {L : List ItemD} (h : GOk i e (L.map ItemD.v)) : ∀ x ∈ L, itE x = 0 := fun x hx => by rw [itE_V]; exact (h.2.2.2 _ (List.mem_map.2 ⟨x, hx, rfl⟩)).1
def endI (e : Int) (h : -9223372036854775808 ≤ e ∧ e ≤ 9223372036854775807) : ItemD := ⟨i64N 0, i64N 0, ⟨e, h.1, h.2⟩, i64N 3, none, 0, [], i64N 0⟩
theorem ok_stepI {M pre : List ItemD} {j : Nat} {y : ItemD} (hp : pre.map ItemD.v = (M.map ItemD.v).take j) (hj : j < M.length) (hy : y.v = (M.getD j default).v) : (pre ++ [y]).map ItemD.v = (M.map ItemD.v).take (j + 1) ∧ (pre ++ [y]).map ItemD.v <+: M.map ItemD.v := by
 have h : (pre ++ [y]).map ItemD.v = (M.map ItemD.v).take (j + 1) := by
  rw [List.map_append, hp, ← List.map_take, ← List.map_take, take_snocG hj, List.map_append, List.map_singleton, List.map_singleton, hy]
 exact ⟨h, h ▸ List.take_prefix _ _⟩
theorem told_at {V : List ItemV} {Lw pre : List ItemD} {x : ItemD} {n : Nat} (hok : (pre ++ [x]).map ItemD.v <+: V) (hV : V = Lw.map ItemD.v) (hn : n = pre.length) : n < Lw.length ∧ x.v = (Lw.getD n default).v := by
 subst hV hn
 obtain ⟨t, ht⟩ := hok
 have hl := congrArg List.length ht
 simp only [List.length_map, List.length_append, List.length_singleton] at hl
 have hlt : pre.length < Lw.length := by omega
 refine ⟨hlt, ?_⟩
 have h1 := congrArg (fun l => l[pre.length]?) ht
 simp only [List.map_append, List.map_cons, List.map_nil, List.append_assoc] at h1
 rw [List.getElem?_append_right (by simp)] at h1
 simp only [List.length_map, Nat.sub_self, List.cons_append, List.nil_append, List.getElem?_cons_zero, List.getElem?_map, List.getElem?_eq_getElem hlt, Option.map_some, Option.some.injEq] at h1
 rw [h1, List.getD_eq_getElem?_getD, List.getElem?_eq_getElem hlt]; rfl
end Sl
