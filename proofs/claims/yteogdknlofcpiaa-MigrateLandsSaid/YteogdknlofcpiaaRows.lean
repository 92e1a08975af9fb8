/-
  No cell of these rows narrows 'for every input' (looked for: loops, veiled, ifaces, maps, wideKeys, modest, calm, conditions, laid).
  DERIVED. THE GIVEN ROWS OF THIS SEAT. 6 by the template 'for every input the law returns true; each argument reads behind the call as it read before'; 0 by the template 'total and deterministic' (their statements: YteogdknlofcpiaaTotals.lean).
  GIVEN WITH THE SEED: the statements are not yours to turn. If you find one false, say at which input.
  Laid BY PROGRAM, IN A SANDBOX (cutbox-rows.mjs): the forced cells as the released guide's own fill.sh prints them over the translation 1fef55639df68148… (all of the seat's roots in one cut). By AI agents, Wed Nov 11 2026. No macro, syntax, notation, axiom, sorry.
-/
import Derived.Test.YteogdknlofcpiaaChecked
import GoSem.Claim
import GoSem.ClaimJoined
import GoSem.ClaimMapViews
import Derived.JoinedTies
import Derived.KernelRfl
namespace Go.Proofs.Yteogdknlofcpiaa
/- THE CELL 'sum', in the pinned program and in every row, IS THE sha256 OF THE DUMP (.gsa) THAT YteogdknlofcpiaaProg.lean LOADS. Nothing in Lean hashes anything: it is a label: what it is worth is what the hold of that sum in a sandbox is worth. -/
noncomputable def Try.pinned : Pinned := { name := "yteogdknlofcpiaa", sum := "1fef55639df68148f7dab3a15d8cd0cd42ce9e3a9a9cae9402cc3b6059e5c4cc", checked := Try.checked }
namespace Rows
def none {H : Type} : Left H := { results := [], args := [] }

/-- 'eyrielaw24.MigrateEpochs': WHATEVER THE INPUT: true; the input reads as it did. -/
def migrateEpochsSpec : ChangeSpec := { name := "migrateEpochs", fn := fun _ => fun
  | [d1, d2] => { results := [.lit (.bool true)], args := [d1, d2] }
  | _ => none }
def migrateEpochsRow : OpenClaim := { program := "yteogdknlofcpiaa", sum := "1fef55639df68148f7dab3a15d8cd0cd42ce9e3a9a9cae9402cc3b6059e5c4cc", func := "eyrie/eyrielaw24.MigrateEpochs", spec := "migrateEpochs", unfollowed := true, recurses := true, plainKeys := false, apart := false }
def MigrateEpochsSaid : Prop := migrateEpochsRow.holds Try.pinned (OpenSpec.ofChange migrateEpochsSpec)

/-- ITS FALSE NEIGHBOUR: 'it returns false'. Refute it at one input. -/
def migrateEpochsWrong : ChangeSpec := { name := "migrateEpochs", fn := fun _ => fun
  | [d1, d2] => { results := [.lit (.bool false)], args := [d1, d2] }
  | _ => none }
def MigrateEpochsWrongFalsely : Prop := migrateEpochsRow.holds Try.pinned (OpenSpec.ofChange migrateEpochsWrong)

/-- 'eyrielaw24.MigrateLands': WHATEVER THE INPUT: true; the input reads as it did. -/
def migrateLandsSpec : ChangeSpec := { name := "migrateLands", fn := fun _ => fun
  | [d1, d2] => { results := [.lit (.bool true)], args := [d1, d2] }
  | _ => none }
def migrateLandsRow : OpenClaim := { program := "yteogdknlofcpiaa", sum := "1fef55639df68148f7dab3a15d8cd0cd42ce9e3a9a9cae9402cc3b6059e5c4cc", func := "eyrie/eyrielaw24.MigrateLands", spec := "migrateLands", inPlace := ["maps.clone"], unfollowed := true, recurses := true, plainKeys := false, apart := false }
def MigrateLandsSaid : Prop := migrateLandsRow.holds Try.pinned (OpenSpec.ofChange migrateLandsSpec)

/-- ITS FALSE NEIGHBOUR: 'it returns false'. Refute it at one input. -/
def migrateLandsWrong : ChangeSpec := { name := "migrateLands", fn := fun _ => fun
  | [d1, d2] => { results := [.lit (.bool false)], args := [d1, d2] }
  | _ => none }
def MigrateLandsWrongFalsely : Prop := migrateLandsRow.holds Try.pinned (OpenSpec.ofChange migrateLandsWrong)

/-- 'eyrielaw24.MigratePieces': WHATEVER THE INPUT: true; the input reads as it did. -/
def migratePiecesSpec : ChangeSpec := { name := "migratePieces", fn := fun _ => fun
  | [d1, d2, d3, d4, d5] => { results := [.lit (.bool true)], args := [d1, d2, d3, d4, d5] }
  | _ => none }
def migratePiecesRow : OpenClaim := { program := "yteogdknlofcpiaa", sum := "1fef55639df68148f7dab3a15d8cd0cd42ce9e3a9a9cae9402cc3b6059e5c4cc", func := "eyrie/eyrielaw24.MigratePieces", spec := "migratePieces", unfollowed := true, recurses := true, plainKeys := false, apart := false }
def MigratePiecesSaid : Prop := migratePiecesRow.holds Try.pinned (OpenSpec.ofChange migratePiecesSpec)

/-- ITS FALSE NEIGHBOUR: 'it returns false'. Refute it at one input. -/
def migratePiecesWrong : ChangeSpec := { name := "migratePieces", fn := fun _ => fun
  | [d1, d2, d3, d4, d5] => { results := [.lit (.bool false)], args := [d1, d2, d3, d4, d5] }
  | _ => none }
def MigratePiecesWrongFalsely : Prop := migratePiecesRow.holds Try.pinned (OpenSpec.ofChange migratePiecesWrong)

/-- 'eyrielaw24.MigrateWhole': WHATEVER THE INPUT: true; the input reads as it did. -/
def migrateWholeSpec : ChangeSpec := { name := "migrateWhole", fn := fun _ => fun
  | [d1, d2] => { results := [.lit (.bool true)], args := [d1, d2] }
  | _ => none }
def migrateWholeRow : OpenClaim := { program := "yteogdknlofcpiaa", sum := "1fef55639df68148f7dab3a15d8cd0cd42ce9e3a9a9cae9402cc3b6059e5c4cc", func := "eyrie/eyrielaw24.MigrateWhole", spec := "migrateWhole", unfollowed := true, recurses := true, plainKeys := false, apart := false }
def MigrateWholeSaid : Prop := migrateWholeRow.holds Try.pinned (OpenSpec.ofChange migrateWholeSpec)

/-- ITS FALSE NEIGHBOUR: 'it returns false'. Refute it at one input. -/
def migrateWholeWrong : ChangeSpec := { name := "migrateWhole", fn := fun _ => fun
  | [d1, d2] => { results := [.lit (.bool false)], args := [d1, d2] }
  | _ => none }
def MigrateWholeWrongFalsely : Prop := migrateWholeRow.holds Try.pinned (OpenSpec.ofChange migrateWholeWrong)

/-- 'eyrielaw24.MigrateNone': WHATEVER THE INPUT: true; the input reads as it did. -/
def migrateNoneSpec : ChangeSpec := { name := "migrateNone", fn := fun _ => fun
  | [d1, d2, d3] => { results := [.lit (.bool true)], args := [d1, d2, d3] }
  | _ => none }
def migrateNoneRow : OpenClaim := { program := "yteogdknlofcpiaa", sum := "1fef55639df68148f7dab3a15d8cd0cd42ce9e3a9a9cae9402cc3b6059e5c4cc", func := "eyrie/eyrielaw24.MigrateNone", spec := "migrateNone", inPlace := ["maps.clone"], unfollowed := true, recurses := true, plainKeys := false, apart := false }
def MigrateNoneSaid : Prop := migrateNoneRow.holds Try.pinned (OpenSpec.ofChange migrateNoneSpec)

/-- ITS FALSE NEIGHBOUR: 'it returns false'. Refute it at one input. -/
def migrateNoneWrong : ChangeSpec := { name := "migrateNone", fn := fun _ => fun
  | [d1, d2, d3] => { results := [.lit (.bool false)], args := [d1, d2, d3] }
  | _ => none }
def MigrateNoneWrongFalsely : Prop := migrateNoneRow.holds Try.pinned (OpenSpec.ofChange migrateNoneWrong)

/-- 'eyrielaw24.MigrateMoves': WHATEVER THE INPUT: true; the input reads as it did. -/
def migrateMovesSpec : ChangeSpec := { name := "migrateMoves", fn := fun _ => fun
  | [d1, d2, d3] => { results := [.lit (.bool true)], args := [d1, d2, d3] }
  | _ => none }
def migrateMovesRow : OpenClaim := { program := "yteogdknlofcpiaa", sum := "1fef55639df68148f7dab3a15d8cd0cd42ce9e3a9a9cae9402cc3b6059e5c4cc", func := "eyrie/eyrielaw24.MigrateMoves", spec := "migrateMoves", inPlace := ["maps.clone"], unfollowed := true, recurses := true, plainKeys := false, apart := false }
def MigrateMovesSaid : Prop := migrateMovesRow.holds Try.pinned (OpenSpec.ofChange migrateMovesSpec)

/-- ITS FALSE NEIGHBOUR: 'it returns false'. Refute it at one input. -/
def migrateMovesWrong : ChangeSpec := { name := "migrateMoves", fn := fun _ => fun
  | [d1, d2, d3] => { results := [.lit (.bool false)], args := [d1, d2, d3] }
  | _ => none }
def MigrateMovesWrongFalsely : Prop := migrateMovesRow.holds Try.pinned (OpenSpec.ofChange migrateMovesWrong)

/- THE SECOND FORM. 'bulk': how many values and letters a reading holds, each counted each time it is reached (what is shared counts as often as it is met; a slice's spare places count too). A statement '..UptoSaid' is the law's where the arguments, and the package variables that the reading takes, are together of bulk at most 1048576: NARROWER than '..Said'. Prove '..Said' where nothing that the law and all that it calls make is longer than what came in: it says more and counts as full. Else prove '..UptoSaid'. A law counts once. -/
mutual
def uptoBulk {H : Type} : DataW H → Nat
  | .lit (.string bytes) => bytes.length + 1
  | .lit _ => 1
  | .nil => 1
  | .ptr d => uptoBulk d + 1
  | .slice elems spare => uptoBulkAll elems + uptoBulkAll spare + 1
  | .agg parts => uptoBulkAll parts + 1
  | .iface _ d => uptoBulk d + 1
  | .map entries => uptoBulkEntries entries + 1
  | .held _ => 1
def uptoBulkAll {H : Type} : List (DataW H) → Nat
  | [] => 0
  | d :: r => uptoBulk d + uptoBulkAll r
def uptoBulkEntries {H : Type} : List (Lit × DataW H) → Nat
  | [] => 0
  | x :: r => uptoBulkEntry x + uptoBulkEntries r
def uptoBulkEntry {H : Type} : Lit × DataW H → Nat
  | (.string bytes, d) => bytes.length + uptoBulk d + 1
  | (_, d) => uptoBulk d + 1
 end
def uptoSmall : (H : Type) → List (DataW H) → Bool := fun _ ds => decide (uptoBulkAll ds ≤ 1048576)
def OpenSpec.upto (s : _root_.Go.ChangeSpec) : _root_.Go.OpenSpec := { _root_.Go.OpenSpec.ofChange s with cond := some uptoSmall }

/-- 'eyrielaw24.MigrateEpochs', WHERE WHAT IT READS IS OF BULK AT MOST 1048576: true; the input reads as it did. -/
def migrateEpochsUptoRow : OpenClaim := { program := "yteogdknlofcpiaa", sum := "1fef55639df68148f7dab3a15d8cd0cd42ce9e3a9a9cae9402cc3b6059e5c4cc", func := "eyrie/eyrielaw24.MigrateEpochs", spec := "migrateEpochs", unfollowed := true, recurses := true, plainKeys := false, apart := false, narrowed := true }
def MigrateEpochsUptoSaid : Prop := migrateEpochsUptoRow.holds Try.pinned (OpenSpec.upto migrateEpochsSpec)

/-- 'eyrielaw24.MigrateLands', WHERE WHAT IT READS IS OF BULK AT MOST 1048576: true; the input reads as it did. -/
def migrateLandsUptoRow : OpenClaim := { program := "yteogdknlofcpiaa", sum := "1fef55639df68148f7dab3a15d8cd0cd42ce9e3a9a9cae9402cc3b6059e5c4cc", func := "eyrie/eyrielaw24.MigrateLands", spec := "migrateLands", inPlace := ["maps.clone"], unfollowed := true, recurses := true, plainKeys := false, apart := false, narrowed := true }
def MigrateLandsUptoSaid : Prop := migrateLandsUptoRow.holds Try.pinned (OpenSpec.upto migrateLandsSpec)

/-- 'eyrielaw24.MigratePieces', WHERE WHAT IT READS IS OF BULK AT MOST 1048576: true; the input reads as it did. -/
def migratePiecesUptoRow : OpenClaim := { program := "yteogdknlofcpiaa", sum := "1fef55639df68148f7dab3a15d8cd0cd42ce9e3a9a9cae9402cc3b6059e5c4cc", func := "eyrie/eyrielaw24.MigratePieces", spec := "migratePieces", unfollowed := true, recurses := true, plainKeys := false, apart := false, narrowed := true }
def MigratePiecesUptoSaid : Prop := migratePiecesUptoRow.holds Try.pinned (OpenSpec.upto migratePiecesSpec)

/-- 'eyrielaw24.MigrateWhole', WHERE WHAT IT READS IS OF BULK AT MOST 1048576: true; the input reads as it did. -/
def migrateWholeUptoRow : OpenClaim := { program := "yteogdknlofcpiaa", sum := "1fef55639df68148f7dab3a15d8cd0cd42ce9e3a9a9cae9402cc3b6059e5c4cc", func := "eyrie/eyrielaw24.MigrateWhole", spec := "migrateWhole", unfollowed := true, recurses := true, plainKeys := false, apart := false, narrowed := true }
def MigrateWholeUptoSaid : Prop := migrateWholeUptoRow.holds Try.pinned (OpenSpec.upto migrateWholeSpec)

/-- 'eyrielaw24.MigrateNone', WHERE WHAT IT READS IS OF BULK AT MOST 1048576: true; the input reads as it did. -/
def migrateNoneUptoRow : OpenClaim := { program := "yteogdknlofcpiaa", sum := "1fef55639df68148f7dab3a15d8cd0cd42ce9e3a9a9cae9402cc3b6059e5c4cc", func := "eyrie/eyrielaw24.MigrateNone", spec := "migrateNone", inPlace := ["maps.clone"], unfollowed := true, recurses := true, plainKeys := false, apart := false, narrowed := true }
def MigrateNoneUptoSaid : Prop := migrateNoneUptoRow.holds Try.pinned (OpenSpec.upto migrateNoneSpec)

/-- 'eyrielaw24.MigrateMoves', WHERE WHAT IT READS IS OF BULK AT MOST 1048576: true; the input reads as it did. -/
def migrateMovesUptoRow : OpenClaim := { program := "yteogdknlofcpiaa", sum := "1fef55639df68148f7dab3a15d8cd0cd42ce9e3a9a9cae9402cc3b6059e5c4cc", func := "eyrie/eyrielaw24.MigrateMoves", spec := "migrateMoves", inPlace := ["maps.clone"], unfollowed := true, recurses := true, plainKeys := false, apart := false, narrowed := true }
def MigrateMovesUptoSaid : Prop := migrateMovesUptoRow.holds Try.pinned (OpenSpec.upto migrateMovesSpec)

end Rows
end Go.Proofs.Yteogdknlofcpiaa
