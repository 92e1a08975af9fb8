import Derived.Test.YteogdknlofcpiaaGreatSlBC
import Derived.Laws.Externs
import Derived.Lib.Bytealg
namespace Sl
open _root_.Go _root_.Go.RowKit
set_option linter.all false
set_option linter.unusedSimpArgs false
section
variable {C : Ctx} {ρ : Env} {w : World} {ops : Array Oper} {K' : Env → World → Prop} {d ty : Nat} {pos : String} {af : Array Edge}
variable {W : World} {l : List Atom} {B off : Nat} {cs cs' : Array Value} {e : TypeId} {x : Operand}
end
section
variable {c : CondV}
end
theorem Row.cut {W w : World} {F : List Atom} {i : Nat} {e : TypeId} {g c n m size : Nat} {cur : Array Value} {xs : List Value} (H : St W w F) (hi : F[i]? = some (blk g (.cells cur e (0, 0)))) (hm : m ≤ c) (hc : c ≤ maxLen) (hs : cur.size = c * size) (ht : (cur.toList.drop 0).take (m * size) = xs) (hone : ∀ x ∈ xs, x.oneCell' = true) : St W w (F.set i (Row e size (.slice (some ⟨g, 0, none⟩) m c) m xs)) :=
 Row.shut2 H hi rfl hm hc hs ht hone
section
variable {α : Type} [Inhabited α] {p : α → Bool} {L : List α}
end
end Sl
