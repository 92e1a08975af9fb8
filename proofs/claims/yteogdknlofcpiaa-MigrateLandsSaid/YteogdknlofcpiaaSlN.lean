/- Bits as lists, bytes of bits, codes of numbers: plain laws. And rows that are opened for reading and writing. No condition. -/
import Derived.Test.YteogdknlofcpiaaSlW
import Derived.Test.YteogdknlofcpiaaSlG
namespace Sl
open _root_.Go _root_.Go.RowKit
set_option linter.all false
def u8c (b : UInt8) : List Value := [.int .u8 (b.toNat : Int)]
instance : Inhabited UInt8 := ⟨0⟩
theorem bytesV_flat (l : List UInt8) : bytesV l = l.flatMap u8c := by
  induction l with
  | nil => rfl
  | cons a l ih => simp only [List.flatMap_cons, ← ih]; rfl
/-! ### rows, opened -/
section
variable {W w : World} {l : List Atom} {i : Nat} {e : TypeId} {size n c : Nat} {p : Option Addr} {xs : List Value}
theorem Row.open2 (H : St W w l) (hi : l[i]? = some (Row e size (.slice p n c) n xs)) (h0 : 0 < n) : ∃ (g : Nat) (cur : Array Value), p = some ⟨g, 0, none⟩ ∧ n ≤ c ∧ c ≤ maxLen ∧ cur.size = c * size ∧ (cur.toList.drop 0).take (n * size) = xs ∧ (∀ x ∈ xs, x.oneCell' = true) ∧ St W w (l.set i (blk g (.cells cur e (0, 0)))) := by
  obtain ⟨g, cap, cur, hv, h1, h2, h3, h4, h5, H2⟩ := Row.open_ H hi h0
  injection hv with hp hn hc
  subst hp; subst hc
  exact ⟨g, cur, rfl, h1, h2, h3, by simpa using h4, h5, H2⟩
end
theorem u8_nat {n : Nat} (h : n < 256) : (UInt8.ofNat n).toNat = n := by simp; omega
/-- What is read as a slice by an atom. -/
def RdA (A : Atom) (size : Nat) (v : Value) (n : Nat) (xs : List Value) : Prop := ∀ (W w : World) (l : List Atom) (i : Nat), St W w l → l[i]? = some A → Rd w size v n xs ∧ n ≤ 9223372036854775807
theorem RdA.row {e : TypeId} {size n : Nat} {v : Value} {xs : List Value} : RdA (Row e size v n xs) size v n xs := fun W w l i H hi => ⟨Row.rd H hi, Row.max H hi⟩
theorem RdA.im {size n : Nat} {v : Value} {xs : List Value} : RdA (Im size v n xs) size v n xs := fun W w l i H hi => ⟨Im.rd H hi, Im.len H hi⟩
theorem Rd.shape {w : World} {size n : Nat} {v : Value} {xs : List Value} (h : Rd w size v n xs) : ∃ (p : Option Addr) (c : Nat), v = .slice p n c ∧ (p = none → n = 0 ∧ c = 0 ∧ xs = []) := by
  obtain ⟨hl, _, h⟩ := h
  rcases h with ⟨rfl, rfl⟩ | ⟨a, c, rfl, _⟩
  · exact ⟨none, 0, rfl, fun _ => ⟨rfl, rfl, List.eq_nil_of_length_eq_zero (by simpa using hl)⟩⟩
  · exact ⟨some a, c, rfl, fun h => by cases h⟩
end Sl
namespace Sl
open _root_.Go _root_.Go.RowKit
set_option linter.all false
end Sl
namespace Sl
open _root_.Go _root_.Go.RowKit
set_option linter.all false
end Sl
namespace Sl
open _root_.Go _root_.Go.RowKit
set_option linter.all false
section
variable {W w : World} {l : List Atom} {i : Nat} {e : TypeId}
end
theorem lit_bytes {xs ys : List UInt8} : decide ((⟨xs.toArray⟩ : ByteArray) = ⟨ys.toArray⟩) = decide (xs = ys) := by
  congr 1
  apply propext
  constructor
  · intro h
    have h2 : xs.toArray = ys.toArray := congrArg ByteArray.data h
    simpa using h2
  · rintro rfl; rfl
end Sl
