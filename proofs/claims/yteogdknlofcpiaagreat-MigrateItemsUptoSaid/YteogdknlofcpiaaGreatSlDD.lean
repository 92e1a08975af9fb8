import Derived.Test.YteogdknlofcpiaaGreatSlDB
import Derived.Test.YteogdknlofcpiaaGreatSlCB
import Derived.Test.YteogdknlofcpiaaGreatSlN
namespace Sl
open _root_.Go _root_.Go.RowKit
set_option linter.all false
set_option linter.unusedSimpArgs false
def i64N (n : Nat) : I64 := if h : n ≤ 9223372036854775807 then ⟨n, by omega, by omega⟩ else default
theorem i64N_v {n : Nat} (h : n ≤ 9223372036854775807) : (i64N n).v = n := by unfold i64N; rw [dif_pos h]
structure PieceV where
 op : I64
 many : I64
 index : I64
 data : List UInt8
structure PieceD where
 v : PieceV
 p : Option Addr
 c : Nat
instance : Inhabited PieceV := ⟨⟨default, default, default, []⟩⟩
instance : Inhabited PieceD := ⟨⟨default, none, 0⟩⟩
section
variable {W w : World} {F : List Atom} {i : Nat} {L : List PieceD}
end
end Sl
