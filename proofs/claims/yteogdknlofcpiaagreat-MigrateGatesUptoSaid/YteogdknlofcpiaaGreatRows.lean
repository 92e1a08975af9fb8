/-
  No cell of these rows narrows 'for every input' (looked for: loops, veiled, ifaces, maps, wideKeys, modest, calm, conditions, laid).
  DERIVED. THE GIVEN ROWS OF THIS SEAT. 2 by the template 'for every input the law returns true; each argument reads behind the call as it read before'; 0 by the template 'total and deterministic' (their statements: YteogdknlofcpiaaGreatTotals.lean).
  GIVEN WITH THE SEED: the statements are not yours to turn. If you find one false, say at which input.
  Laid BY PROGRAM, IN A SANDBOX (cutbox-rows.mjs): the forced cells as the released guide's own fill.sh prints them over the translation ec8d8ec03e632852… (all of the seat's roots in one cut). By AI agents, Wed Nov 11 2026. No macro, syntax, notation, axiom, sorry.
-/
import Derived.Test.YteogdknlofcpiaaGreatChecked
import GoSem.Claim
import GoSem.ClaimJoined
import GoSem.ClaimMapViews
import Derived.JoinedTies
import Derived.KernelRfl
namespace Go.Proofs.YteogdknlofcpiaaGreat
/- THE CELL 'sum', in the pinned program and in every row, IS THE sha256 OF THE DUMP (.gsa) THAT YteogdknlofcpiaaGreatProg.lean LOADS. Nothing in Lean hashes anything: it is a label: what it is worth is what the hold of that sum in a sandbox is worth. -/
noncomputable def Tryz.pinned : Pinned := { name := "yteogdknlofcpiaagreat", sum := "ec8d8ec03e632852b20e1cfb3ae7ee6989db30ecf6a8be4a374514e68f1409f6", checked := Tryz.checked }
namespace Rows
def none {H : Type} : Left H := { results := [], args := [] }

/-- 'eyrielaw24.MigrateItems': WHATEVER THE INPUT: true; the input reads as it did. -/
def migrateItemsSpec : ChangeSpec := { name := "migrateItems", fn := fun _ => fun
  | [d1, d2, d3] => { results := [.lit (.bool true)], args := [d1, d2, d3] }
  | _ => none }
def migrateItemsRow : OpenClaim := { program := "yteogdknlofcpiaagreat", sum := "ec8d8ec03e632852b20e1cfb3ae7ee6989db30ecf6a8be4a374514e68f1409f6", func := "eyrie/eyrielaw24.MigrateItems", spec := "migrateItems", unfollowed := true, recurses := true, plainKeys := false, apart := false }
def MigrateItemsSaid : Prop := migrateItemsRow.holds Tryz.pinned (OpenSpec.ofChange migrateItemsSpec)

/-- ITS FALSE NEIGHBOUR: 'it returns false'. Refute it at one input. -/
def migrateItemsWrong : ChangeSpec := { name := "migrateItems", fn := fun _ => fun
  | [d1, d2, d3] => { results := [.lit (.bool false)], args := [d1, d2, d3] }
  | _ => none }
def MigrateItemsWrongFalsely : Prop := migrateItemsRow.holds Tryz.pinned (OpenSpec.ofChange migrateItemsWrong)

/-- 'eyrielaw24.MigrateGates': WHATEVER THE INPUT: true; the input reads as it did. -/
def migrateGatesSpec : ChangeSpec := { name := "migrateGates", fn := fun _ => fun
  | [d1, d2] => { results := [.lit (.bool true)], args := [d1, d2] }
  | _ => none }
def migrateGatesRow : OpenClaim := { program := "yteogdknlofcpiaagreat", sum := "ec8d8ec03e632852b20e1cfb3ae7ee6989db30ecf6a8be4a374514e68f1409f6", func := "eyrie/eyrielaw24.MigrateGates", spec := "migrateGates", unfollowed := true, recurses := true, plainKeys := false, apart := false }
def MigrateGatesSaid : Prop := migrateGatesRow.holds Tryz.pinned (OpenSpec.ofChange migrateGatesSpec)

/-- ITS FALSE NEIGHBOUR: 'it returns false'. Refute it at one input. -/
def migrateGatesWrong : ChangeSpec := { name := "migrateGates", fn := fun _ => fun
  | [d1, d2] => { results := [.lit (.bool false)], args := [d1, d2] }
  | _ => none }
def MigrateGatesWrongFalsely : Prop := migrateGatesRow.holds Tryz.pinned (OpenSpec.ofChange migrateGatesWrong)

/- THE SECOND FORM. 'bulk': how many values and letters a reading holds, each counted each time it is reached (what is shared counts as often as it is met; a slice's spare places count too). A statement '..UptoSaid' is the law's where the arguments, and the package variables that the reading takes, are together of bulk at most 1048576: NARROWER than '..Said'. Prove '..Said' where nothing that the law and all that it calls make is longer than what came in: it says more and counts as full. Else prove '..UptoSaid'. A law counts once. -/
mutual
def uptoBulk {H : Type} : DataW H → Nat
  | .lit (.string bytes) => bytes.length + 1
  | .lit _ => 1
  | .nil => 1
  | .ptr d => uptoBulk d + 1
  | .slice elems spare => uptoBulkAll elems + uptoBulkAll spare + 1
  | .agg parts => uptoBulkAll parts + 1
  | .iface _ d => uptoBulk d + 1
  | .map entries => uptoBulkEntries entries + 1
  | .held _ => 1
def uptoBulkAll {H : Type} : List (DataW H) → Nat
  | [] => 0
  | d :: r => uptoBulk d + uptoBulkAll r
def uptoBulkEntries {H : Type} : List (Lit × DataW H) → Nat
  | [] => 0
  | x :: r => uptoBulkEntry x + uptoBulkEntries r
def uptoBulkEntry {H : Type} : Lit × DataW H → Nat
  | (.string bytes, d) => bytes.length + uptoBulk d + 1
  | (_, d) => uptoBulk d + 1
 end
def uptoSmall : (H : Type) → List (DataW H) → Bool := fun _ ds => decide (uptoBulkAll ds ≤ 1048576)
def OpenSpec.upto (s : _root_.Go.ChangeSpec) : _root_.Go.OpenSpec := { _root_.Go.OpenSpec.ofChange s with cond := some uptoSmall }

/-- 'eyrielaw24.MigrateItems', WHERE WHAT IT READS IS OF BULK AT MOST 1048576: true; the input reads as it did. -/
def migrateItemsUptoRow : OpenClaim := { program := "yteogdknlofcpiaagreat", sum := "ec8d8ec03e632852b20e1cfb3ae7ee6989db30ecf6a8be4a374514e68f1409f6", func := "eyrie/eyrielaw24.MigrateItems", spec := "migrateItems", unfollowed := true, recurses := true, plainKeys := false, apart := false, narrowed := true }
def MigrateItemsUptoSaid : Prop := migrateItemsUptoRow.holds Tryz.pinned (OpenSpec.upto migrateItemsSpec)

/-- 'eyrielaw24.MigrateGates', WHERE WHAT IT READS IS OF BULK AT MOST 1048576: true; the input reads as it did. -/
def migrateGatesUptoRow : OpenClaim := { program := "yteogdknlofcpiaagreat", sum := "ec8d8ec03e632852b20e1cfb3ae7ee6989db30ecf6a8be4a374514e68f1409f6", func := "eyrie/eyrielaw24.MigrateGates", spec := "migrateGates", unfollowed := true, recurses := true, plainKeys := false, apart := false, narrowed := true }
def MigrateGatesUptoSaid : Prop := migrateGatesUptoRow.holds Tryz.pinned (OpenSpec.upto migrateGatesSpec)

end Rows
end Go.Proofs.YteogdknlofcpiaaGreat
