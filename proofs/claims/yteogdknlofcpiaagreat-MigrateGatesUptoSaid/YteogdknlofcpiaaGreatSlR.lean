import Derived.Test.YteogdknlofcpiaaGreatSlW
namespace Sl
open _root_.Go _root_.Go.RowKit
set_option linter.all false
def i64' (n : Int) : I64 := if h : -9223372036854775808 ≤ n ∧ n ≤ 9223372036854775807 then ⟨n, h.1, h.2⟩ else default
structure OpM where
 do_ : I64
 ev : EvM
 p : Option Addr
 c : Nat
 source : I64
def OpM.av (o : OpM) : Value := .slice o.p o.ev.attrs.length o.c
instance : Inhabited EvM := ⟨⟨default, default, default, default, []⟩⟩
instance : Inhabited OpM := ⟨⟨default, default, none, 0, default⟩⟩
def allA (l : List (Value × List AttrV)) : Atom := ⟨fun I h => h = Heap.none ∧ ∀ x ∈ l, (Attrs x.1 x.2).sat I Heap.none, fun I J h hl ⟨a, b⟩ => ⟨a, fun x hx => (Attrs x.1 x.2).mono I J _ hl (b x hx)⟩⟩
theorem allA_pers (l) : (allA l).pers := fun _ _ h => h.1
theorem allA_at {W w : World} {F : List Atom} {l : List (Value × List AttrV)} {i j : Nat} {x} (H : St W w F) (hi : F[i]? = some (allA l)) (hj : l[j]? = some x) : St W w (Attrs x.1 x.2 :: F) := by
 refine (H.dup hi (allA_pers l)).conv (i := 0) rfl fun I h ⟨a, b⟩ => ?_
 subst a
 exact b x (List.mem_of_getElem? hj)
section
variable {st : List S3} {nx la : List Int} {evs : List EvM} {e : EvM} {n : Int}
end
end Sl
