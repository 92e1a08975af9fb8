import Derived.Test.YteogdknlofcpiaaGreatSlS
namespace Sl
open _root_.Go _root_.Go.RowKit
set_option linter.all false
structure U64 where
 v : Nat
 lt : v < 18446744073709551616
structure PartV where
 kind : I64
 u : U64
 n : I64
 s : Str
instance : Inhabited U64 := ⟨⟨0, by decide⟩⟩
instance : Inhabited PartV := ⟨⟨default, default, default, default⟩⟩
def s64 (u : Nat) : Int := IntKind.i64.wrap (u : Int)
theorem s64_is {u : Nat} (h : u < 18446744073709551616) : s64 u = if u < 9223372036854775808 then (u : Int) else (u : Int) - 18446744073709551616 := by
 unfold s64 IntKind.wrap
 show (if (true && decide ((u : Int) % 18446744073709551616 ≥ 9223372036854775808)) = true then (u : Int) % 18446744073709551616 - 18446744073709551616 else (u : Int) % 18446744073709551616) = _
 simp only [Bool.true_and, decide_eq_true_eq]
 by_cases h1 : u < 9223372036854775808
 ·rw [if_neg (by omega), if_pos h1]; omega
 ·rw [if_pos (by omega), if_neg h1]; omega
end Sl
