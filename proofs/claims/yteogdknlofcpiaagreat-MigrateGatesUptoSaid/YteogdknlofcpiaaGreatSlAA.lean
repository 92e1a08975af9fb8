import Derived.Test.YteogdknlofcpiaaGreatSlH
import Derived.Test.YteogdknlofcpiaaGreatSlY
import Derived.Test.YteogdknlofcpiaaGreatSlU
import Derived.Test.YteogdknlofcpiaaGreatSlK
import Derived.Test.YteogdknlofcpiaaGreatSlN
namespace Sl
open _root_.Go _root_.Go.RowKit
set_option linter.all false
theorem src_pre {u : Nat} {n : Int} {k : Nat} (hn : n = k) (hk : k ≤ 64) (hu : u < 2 ^ k) (T : List Bool) : srcE (lowB u k ++ T) n = 0 ∧ srcU (lowB u k ++ T) n = u ∧ (lowB u k ++ T).drop (srcN (lowB u k ++ T) n) = T := by
 subst hn
 obtain ⟨a, b, c⟩ := low_read (u := u) (n := (k : Int)) (fits_small rfl hk hu) T
 rw [Int.toNat_natCast] at a b c
 exact ⟨a, b, by rw [c]; exact drop_part (by rw [lowB_len])⟩
end Sl
