/- Readings of datagrams. No condition. -/
import Derived.Test.YthggoibbkloefaaSlH
import Derived.Test.YthggoibbkloefaaSlY
import Derived.Test.YthggoibbkloefaaSlZ
namespace Sl
open _root_.Go _root_.Go.RowKit
set_option linter.all false
/-- A datagram with its body's slice. -/
structure DgD where
 d : DgM
 p : Option Addr
 c : Nat
def dgdCell (x : DgD) : List Value := dgCell x.d (.slice x.p x.d.body.length x.c)
theorem one_dg (x : DgD) (v : Value) (h : v ∈ dgdCell x) : v.oneCell' = true := by
 simp [dgdCell, dgCell] at h
 rcases h with rfl | rfl | rfl | rfl | rfl | rfl <;> rfl
end Sl
