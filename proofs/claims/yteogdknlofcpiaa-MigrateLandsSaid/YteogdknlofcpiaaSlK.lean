/- Parts of what is written or asked for, as plain data. No condition. -/
import Derived.Test.YteogdknlofcpiaaSlS
namespace Sl
open _root_.Go _root_.Go.RowKit
set_option linter.all false
structure U64 where
  v : Nat
  lt : v < 18446744073709551616
structure PartV where
  kind : I64
  u : U64
  n : I64
  s : Str
instance : Inhabited U64 := ⟨⟨0, by decide⟩⟩
instance : Inhabited PartV := ⟨⟨default, default, default, default⟩⟩
end Sl
