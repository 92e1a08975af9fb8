/- Gates: what goes through. No condition. -/
import Derived.Test.YteogdknlofcpiaaSlDL
namespace Sl
open _root_.Go _root_.Go.RowKit
set_option linter.all false
set_option linter.unusedSimpArgs false
section
variable {α : Type} (ep kd : α → Int)
variable {ep kd} {e : Int} {L : List α} {x : α}
end
section
variable {α : Type} {ep kd : α → Int} {e : Int} {L : List α}
end
/-! ## for items -/
abbrev epD (x : ItemD) : Int := x.ep.v
abbrev kdD (x : ItemD) : Int := x.kind.v
abbrev epV (x : ItemV) : Int := x.ep.v
abbrev kdV (x : ItemV) : Int := x.kind.v
section
variable {β γ : Type} {f : β → γ} {ep' kd' : γ → Int} (e : Int) (L : List β)
end
/-! ## Take -/
open Classical in
noncomputable def tkE (e : Int) (n : Nat) (x : ItemD) : Int := if ¬ itE x = 0 then itE x else if x.ep.v < e then 240 else if e < x.ep.v ∧ 4096 ≤ n then 6 else 0
section
variable {e : Int} {n : Nat} {x y : ItemD} {L : List ItemD} {c : Int}
end
end Sl
