/- EventRises: what holds of streams of four sources beside what a reader has counted. No condition. -/
import Derived.Test.YthggoibbkloefaaSlW
namespace Sl
open _root_.Go _root_.Go.RowKit
set_option linter.all false
def i64' (n : Int) : I64 := if h : -9223372036854775808 ≤ n ∧ n ≤ 9223372036854775807 then ⟨n, h.1, h.2⟩ else default
def bev (s t : I64) : EvM := ⟨i64' 0, s, t, ⟨⟨#[116]⟩, by decide⟩, []⟩
/-- One step of a script. -/
structure OpM where
  do_ : I64
  ev : EvM
  p : Option Addr
  c : Nat
  source : I64
def OpM.av (o : OpM) : Value := .slice o.p o.ev.attrs.length o.c
instance : Inhabited EvM := ⟨⟨default, default, default, default, []⟩⟩
instance : Inhabited OpM := ⟨⟨default, default, none, 0, default⟩⟩
def opCell (o : OpM) : List Value := [.int .i64 o.do_.v, .int .i64 o.ev.src.v, .int .i64 o.ev.seq.v, .int .i64 o.ev.time.v, .string o.ev.typ.v, .slice o.p o.ev.attrs.length o.c, .int .i64 o.source.v]
def allA (l : List (Value × List AttrV)) : Atom := ⟨fun I h => h = Heap.none ∧ ∀ x ∈ l, (Attrs x.1 x.2).sat I Heap.none, fun I J h hl ⟨a, b⟩ => ⟨a, fun x hx => (Attrs x.1 x.2).mono I J _ hl (b x hx)⟩⟩
def opsA (ops : List OpM) : Atom := allA (ops.map fun o => (o.av, o.ev.attrs))
/-- Whole numbers in a block. -/
def intCells (l : List Int) : Array Value := (l.map (Value.int .i64)).toArray
/-- What a reader has counted is what the streams have. -/
def Inv4 (st : List S3) (nx la : List Int) : Prop :=
  st.length = 16 ∧ nx.length = 4 ∧ la.length = 4 ∧ ∀ s, s < 4 → nx.getD s 0 = (st.getD s default).next ∧ la.getD s 0 = (st.getD s default).last ∧ (st.getD s default).last ≤ 1099511627776
section
variable {st : List S3} {nx la : List Int} {evs : List EvM} {e : EvM} {n : Int}
end
end Sl
