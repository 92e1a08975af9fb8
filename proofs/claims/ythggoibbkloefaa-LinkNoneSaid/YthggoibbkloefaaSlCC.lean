/- The library's sort of texts, over rows. No condition. -/
import Derived.Test.YthggoibbkloefaaSlCB
import Derived.Shelf.SortM.Plain
import Derived.Shelf.SortM.SortNone
namespace Sl
open _root_.Go _root_.Go.RowKit _root_.Go.Proofs
set_option linter.all false
set_option linter.unusedSimpArgs false
theorem St.grow {W w : World} {l : List Atom} (H : St W w l) (os : Array Obj) : St W (Sort.grow w os) l := by
 obtain ⟨I, h, dI, hI, hh, s⟩ := H.mem
 have hle : (heapOf w).le (heapOf (Sort.grow w os)) := by
  intro k o hk
  show (w.heap ++ os)[k]? = some o
  have hk' : w.heap[k]? = some o := hk
  rw [Array.getElem?_append_left (Array.getElem?_eq_some_iff.1 hk').1]
  exact hk'
 exact ⟨H.os, H.tape, H.output, I, h, dI, Heap.le_trans hI hle, Heap.le_trans hh hle, s⟩
theorem St.ahead {W w : World} {l : List Atom} (H : St W w l) (n : Nat) : St W (Sort.ahead w n) l := by
 obtain ⟨I, h, dI, hI, hh, s⟩ := H.mem
 exact ⟨H.os, H.tape, H.output, I, h, dI, hI, hh, s⟩
end Sl
