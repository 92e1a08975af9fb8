/- Parts of what is written or asked for, as plain data. No condition. -/
import Derived.Test.YthggoibbkloefaaSlS
namespace Sl
open _root_.Go _root_.Go.RowKit
set_option linter.all false
structure U64 where
  v : Nat
  lt : v < 18446744073709551616
structure PartV where
  kind : I64
  u : U64
  n : I64
  s : Str
instance : Inhabited U64 := ⟨⟨0, by decide⟩⟩
instance : Inhabited PartV := ⟨⟨default, default, default, default⟩⟩
def partK (k : Nat) (h : k ≤ 100) : PartV := ⟨⟨k, by omega, by omega⟩, ⟨0, by decide⟩, ⟨0, by decide, by decide⟩, Str.none⟩
def partCell (p : PartV) : List Value := [.int .i64 p.kind.v, .int .u64 (p.u.v : Int), .int .i64 p.n.v, .string p.s.v]
/-- A number of 64 bits, as one with a sign. -/
def s64 (u : Nat) : Int := IntKind.i64.wrap (u : Int)
/-- The bits of a part; whether it may be; what a sink answers; what is in it then. -/
def partB (p : PartV) : List Bool :=
  if p.kind.v = 0 then lowB p.u.v (min (max p.n.v 0) 64).toNat else if p.kind.v = 1 then natB p.u.v else if p.kind.v = 2 then natB (zigN (s64 p.u.v)) else if p.kind.v = 3 then textB p.s.v else [decide (0 < p.n.v), decide ((0 : Int) < (p.u.v : Int))]
def partMay (p : PartV) : Bool := if p.kind.v = 0 then fitsB p.u.v p.n.v else true
def partE (L : List Bool) (p : PartV) : Int := if partMay p = true then putE L ((partB p).length : Int) else 1
def partL (L : List Bool) (p : PartV) : List Bool := if partMay p = true then putL L (partB p) else L
end Sl
