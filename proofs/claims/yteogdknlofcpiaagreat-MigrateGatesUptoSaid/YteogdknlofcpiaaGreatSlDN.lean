import Derived.Test.YteogdknlofcpiaaGreatSlDM
import Derived.Test.YteogdknlofcpiaaGreatSlT
import Derived.Test.YteogdknlofcpiaaGreatSlE
import Derived.Test.YteogdknlofcpiaaGreatSlN
namespace Sl
open _root_.Go _root_.Go.RowKit
set_option linter.all false
set_option linter.unusedSimpArgs false
structure PlD where
 p : Option Addr
 c : Nat
 L : List ItemD
instance : Inhabited PlD := ⟨⟨none, 0, []⟩⟩
abbrev ImI (x : PlD) : Atom := Im 6 (.slice x.p x.L.length x.c) x.L.length (x.L.flatMap itCell)
section
variable {W w : World} {F : List Atom} {i : Nat} {P : List PlD}
end
section
variable {Q : Nat → List ItemV} {d : Nat → Nat} {e : Nat} {W got : List ItemV}
end
noncomputable def okk (k : Nat) (x : ItemD) : Bool := decide (x.ep.v = (k : Nat)) && !decide (x.kind.v = 3) && decide (itE x = 0)
noncomputable def QD (L : List ItemD) (k : Nat) : List ItemD := L.filter (okk k)
noncomputable def QV (L : List ItemD) (k : Nat) : List ItemV := (QD L k).map ItemD.v
abbrev gdI (L : List ItemD) (i : Nat) : ItemD := L.getD i default
section
variable {W w : World} {F : List Atom} {i j : Nat} {l M : List ItemD}
end
section
variable {M : List ItemD} {P : List PlD} {e n k : Nat} {W got : List ItemD}
end
def itemOk (I : Heap) (x : ItemD) : Prop := (BsA x).sat I Heap.none ∧ (bndsA x.bs).sat I Heap.none ∧ bsOk x.bs
end Sl
