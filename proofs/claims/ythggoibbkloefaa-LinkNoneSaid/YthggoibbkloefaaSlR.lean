/- EventRises: what holds of streams of four sources beside what a reader has counted. No condition. -/
import Derived.Test.YthggoibbkloefaaSlW
namespace Sl
open _root_.Go _root_.Go.RowKit
set_option linter.all false
def i64' (n : Int) : I64 := if h : -9223372036854775808 ≤ n ∧ n ≤ 9223372036854775807 then ⟨n, h.1, h.2⟩ else default
/-- One step of a script. -/
structure OpM where
 do_ : I64
 ev : EvM
 p : Option Addr
 c : Nat
 source : I64
instance : Inhabited EvM := ⟨⟨default, default, default, default, []⟩⟩
instance : Inhabited OpM := ⟨⟨default, default, none, 0, default⟩⟩
section
variable {st : List S3} {nx la : List Int} {evs : List EvM} {e : EvM} {n : Int}
end
end Sl
