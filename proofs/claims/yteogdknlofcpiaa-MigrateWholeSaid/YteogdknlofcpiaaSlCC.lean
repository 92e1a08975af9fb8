/- The library's sort of texts, over rows. No condition. -/
import Derived.Test.YteogdknlofcpiaaSlCB
import Derived.Shelf.SortM.Plain
import Derived.Shelf.SortM.SortNone
namespace Sl
open _root_.Go _root_.Go.RowKit _root_.Go.Proofs
set_option linter.all false
set_option linter.unusedSimpArgs false
/-- Texts in order. -/
def leS (a b : Str) : Bool := !sLt b.v a.v
def sortS (L : List Str) : List Str := L.mergeSort leS
def bytesS (s : Str) : List UInt8 := s.v.toList
end Sl
