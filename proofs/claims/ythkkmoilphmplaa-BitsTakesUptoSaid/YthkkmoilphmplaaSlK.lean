/- Parts of what is written or asked for, as plain data. No condition. -/
import Derived.Test.YthkkmoilphmplaaSlS
namespace Sl
open _root_.Go _root_.Go.RowKit
set_option linter.all false
structure U64 where
  v : Nat
  lt : v < 18446744073709551616
structure PartV where
  kind : I64
  u : U64
  n : I64
  s : Str
instance : Inhabited U64 := ⟨⟨0, by decide⟩⟩
instance : Inhabited PartV := ⟨⟨default, default, default, default⟩⟩
def partCell (p : PartV) : List Value := [.int .i64 p.kind.v, .int .u64 (p.u.v : Int), .int .i64 p.n.v, .string p.s.v]
theorem partCell_len (p : PartV) : (partCell p).length = 4 := rfl
theorem one_part (p : PartV) (x : Value) (h : x ∈ partCell p) : x.oneCell' = true := by
  simp [partCell] at h
  rcases h with rfl | rfl | rfl | rfl <;> rfl
end Sl
