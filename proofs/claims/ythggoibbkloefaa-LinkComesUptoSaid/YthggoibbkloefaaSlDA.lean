/- What a call takes of events that are owned. No condition. -/
import Derived.Test.YthggoibbkloefaaSlBB
import Derived.Test.YthggoibbkloefaaSlAB
namespace Sl
open _root_.Go _root_.Go.RowKit
set_option linter.all false
theorem wrap_lo (n : Int) : -9223372036854775808 ≤ IntKind.i64.wrap n ∧ IntKind.i64.wrap n ≤ 9223372036854775807 := by
  have h0 : IntKind.i64.wrap n = if 9223372036854775808 ≤ n % 18446744073709551616 then n % 18446744073709551616 - 18446744073709551616 else n % 18446744073709551616 := by
    simp [IntKind.wrap, IntKind.signed, IntKind.bits]
  rw [h0]
  split <;> (constructor <;> omega)
def wrapI (n : Int) : I64 := ⟨IntKind.i64.wrap n, (wrap_lo n).1, (wrap_lo n).2⟩
def withN (a : AttrV) (n : Int) : AttrV := { a with n := wrapI n }
def ev0 (e : EvM) : EvM := { e with seq := ⟨0, by decide, by decide⟩ }
def ev00 : EvM := ⟨⟨0, by decide, by decide⟩, ⟨0, by decide, by decide⟩, ⟨0, by decide, by decide⟩, ⟨ByteArray.empty, by decide⟩, []⟩
section
variable {W w : World} {F : List Atom}
end
end Sl
