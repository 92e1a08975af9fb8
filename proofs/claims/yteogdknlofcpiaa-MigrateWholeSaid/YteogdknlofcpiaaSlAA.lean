/- Datagrams written are read. No condition. -/
import Derived.Test.YteogdknlofcpiaaSlM
import Derived.Test.YteogdknlofcpiaaSlAB
namespace Sl
open _root_.Go _root_.Go.RowKit
set_option linter.all false
theorem nat_pre {u : Nat} (hu : u < 18446744073709551616) (T : List Bool) : natE (natB u ++ T) = 0 ∧ natU (natB u ++ T) = u ∧ (natB u ++ T).drop (natN (natB u ++ T)) = T := by
  obtain ⟨a, b, c⟩ := natB_read hu T
  exact ⟨a, b, drop_part c⟩
theorem body_pre {l : List UInt8} (hl : l.length ≤ 16384) (T : List Bool) : bodyE (natB l.length ++ bitsOf l ++ T) = 0 ∧ textBytes (natB l.length ++ bitsOf l ++ T) = l ∧ (natB l.length ++ bitsOf l ++ T).drop (textN (natB l.length ++ bitsOf l ++ T)) = T := by
  have hb : textB (bstr l) = natB l.length ++ bitsOf l := textB_bytes l
  obtain ⟨a, b, c⟩ := text_read (s := bstr l) (by rw [bstr_size]; omega) T
  rw [hb] at a b c
  obtain ⟨n1, n2, _⟩ := nat_pre (u := l.length) (by omega) (bitsOf l ++ T)
  rw [← List.append_assoc] at n1 n2
  have hb2 : textBytes (natB l.length ++ bitsOf l ++ T) = l := bodyEq (a := textBytes (natB l.length ++ bitsOf l ++ T)) (b := l) b
  have hb3 : (natB l.length ++ bitsOf l ++ T).drop (textN (natB l.length ++ bitsOf l ++ T)) = T := drop_part (A := natB l.length ++ bitsOf l) (T := T) c
  exact ⟨by rw [bodyE_text n1 (by rw [n2]; omega), a], hb2, hb3⟩
end Sl
