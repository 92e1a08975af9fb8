import Derived.Test.YteogdknlofcpiaaGreatSlBF
import Derived.Test.YteogdknlofcpiaaGreatSlBB
import Derived.Test.YteogdknlofcpiaaGreatSlN
namespace Sl
open _root_.Go _root_.Go.RowKit
set_option linter.all false
theorem cell_of_take {cur : Array Value} {n k : Nat} {xs : List Value} {v : Value} (h : (cur.toList.drop 0).take n = xs) (hk : k < n) (hx : xs[k]? = some v) : cur[k]? = some v := by
 rw [List.drop_zero] at h
 rw [← h, List.getElem?_take, if_pos hk] at hx
 rw [← Array.getElem?_toList]; exact hx
end Sl
