/-
  No cell of these rows narrows 'for every input' (looked for: loops, veiled, ifaces, maps, wideKeys, modest, calm, conditions, laid).
  DERIVED. THE GIVEN ROWS OF THIS SEAT. 8 by the template 'for every input the law returns true; each argument reads behind the call as it read before'; 0 by the template 'total and deterministic' (their statements: YtheggchlcpafmaaTotals.lean).
  GIVEN WITH THE SEED: the statements are not yours to turn. If you find one false, say at which input.
  Laid BY PROGRAM, IN A SANDBOX (cutbox-rows.mjs): the forced cells as the released guide's own fill.sh prints them over the translation 1dfd92ff91f29dea… (all of the seat's roots in one cut). By AI agents, Wed Nov 11 2026. No macro, syntax, notation, axiom, sorry.
-/
import Derived.Test.YtheggchlcpafmaaChecked
import GoSem.Claim
import GoSem.ClaimJoined
import GoSem.ClaimMapViews
import Derived.JoinedTies
import Derived.KernelRfl
namespace Go.Proofs.Ytheggchlcpafmaa
/- THE CELL 'sum', in the pinned program and in every row, IS THE sha256 OF THE DUMP (.gsa) THAT YtheggchlcpafmaaProg.lean LOADS. Nothing in Lean hashes anything: it is a label: what it is worth is what the hold of that sum in a sandbox is worth. -/
noncomputable def Try.pinned : Pinned := { name := "ytheggchlcpafmaa", sum := "1dfd92ff91f29dea7ed080080839f0edc335b7e81a13f6201c81a90958f39b7a", checked := Try.checked }
namespace Rows
def none {H : Type} : Left H := { results := [], args := [] }

/-- 'eyrielaw04.EventRises': WHATEVER THE INPUT: true; the input reads as it did. -/
def eventRisesSpec : ChangeSpec := { name := "eventRises", fn := fun _ => fun
  | [d] => { results := [.lit (.bool true)], args := [d] }
  | _ => none }
def eventRisesRow : OpenClaim := { program := "ytheggchlcpafmaa", sum := "1dfd92ff91f29dea7ed080080839f0edc335b7e81a13f6201c81a90958f39b7a", func := "eyrie/eyrielaw04.EventRises", spec := "eventRises", unfollowed := true, recurses := true, apart := false }
def EventRisesSaid : Prop := eventRisesRow.holds Try.pinned (OpenSpec.ofChange eventRisesSpec)

/-- ITS FALSE NEIGHBOUR: 'it returns false'. Refute it at one input. -/
def eventRisesWrong : ChangeSpec := { name := "eventRises", fn := fun _ => fun
  | [d] => { results := [.lit (.bool false)], args := [d] }
  | _ => none }
def EventRisesWrongFalsely : Prop := eventRisesRow.holds Try.pinned (OpenSpec.ofChange eventRisesWrong)

/-- 'eyrielaw04.EventChecks': WHATEVER THE INPUT: true; the input reads as it did. -/
def eventChecksSpec : ChangeSpec := { name := "eventChecks", fn := fun _ => fun
  | [d1, d2] => { results := [.lit (.bool true)], args := [d1, d2] }
  | _ => none }
def eventChecksRow : OpenClaim := { program := "ytheggchlcpafmaa", sum := "1dfd92ff91f29dea7ed080080839f0edc335b7e81a13f6201c81a90958f39b7a", func := "eyrie/eyrielaw04.EventChecks", spec := "eventChecks", unfollowed := true, recurses := true, apart := false }
def EventChecksSaid : Prop := eventChecksRow.holds Try.pinned (OpenSpec.ofChange eventChecksSpec)

/-- ITS FALSE NEIGHBOUR: 'it returns false'. Refute it at one input. -/
def eventChecksWrong : ChangeSpec := { name := "eventChecks", fn := fun _ => fun
  | [d1, d2] => { results := [.lit (.bool false)], args := [d1, d2] }
  | _ => none }
def EventChecksWrongFalsely : Prop := eventChecksRow.holds Try.pinned (OpenSpec.ofChange eventChecksWrong)

/-- 'eyrielaw04.EventStreams': WHATEVER THE INPUT: true; the input reads as it did. -/
def eventStreamsSpec : ChangeSpec := { name := "eventStreams", fn := fun _ => fun
  | [d1, d2] => { results := [.lit (.bool true)], args := [d1, d2] }
  | _ => none }
def eventStreamsRow : OpenClaim := { program := "ytheggchlcpafmaa", sum := "1dfd92ff91f29dea7ed080080839f0edc335b7e81a13f6201c81a90958f39b7a", func := "eyrie/eyrielaw04.EventStreams", spec := "eventStreams", unfollowed := true, recurses := true, apart := false }
def EventStreamsSaid : Prop := eventStreamsRow.holds Try.pinned (OpenSpec.ofChange eventStreamsSpec)

/-- ITS FALSE NEIGHBOUR: 'it returns false'. Refute it at one input. -/
def eventStreamsWrong : ChangeSpec := { name := "eventStreams", fn := fun _ => fun
  | [d1, d2] => { results := [.lit (.bool false)], args := [d1, d2] }
  | _ => none }
def EventStreamsWrongFalsely : Prop := eventStreamsRow.holds Try.pinned (OpenSpec.ofChange eventStreamsWrong)

/-- 'eyrielaw04.EventFull': WHATEVER THE INPUT: true; the input reads as it did. -/
def eventFullSpec : ChangeSpec := { name := "eventFull", fn := fun _ => fun
  | [d1, d2] => { results := [.lit (.bool true)], args := [d1, d2] }
  | _ => none }
def eventFullRow : OpenClaim := { program := "ytheggchlcpafmaa", sum := "1dfd92ff91f29dea7ed080080839f0edc335b7e81a13f6201c81a90958f39b7a", func := "eyrie/eyrielaw04.EventFull", spec := "eventFull", unfollowed := true, recurses := true, apart := false }
def EventFullSaid : Prop := eventFullRow.holds Try.pinned (OpenSpec.ofChange eventFullSpec)

/-- ITS FALSE NEIGHBOUR: 'it returns false'. Refute it at one input. -/
def eventFullWrong : ChangeSpec := { name := "eventFull", fn := fun _ => fun
  | [d1, d2] => { results := [.lit (.bool false)], args := [d1, d2] }
  | _ => none }
def EventFullWrongFalsely : Prop := eventFullRow.holds Try.pinned (OpenSpec.ofChange eventFullWrong)

/-- 'eyrielaw04.EventWrites': WHATEVER THE INPUT: true; the input reads as it did. -/
def eventWritesSpec : ChangeSpec := { name := "eventWrites", fn := fun _ => fun
  | [d1, d2] => { results := [.lit (.bool true)], args := [d1, d2] }
  | _ => none }
def eventWritesRow : OpenClaim := { program := "ytheggchlcpafmaa", sum := "1dfd92ff91f29dea7ed080080839f0edc335b7e81a13f6201c81a90958f39b7a", func := "eyrie/eyrielaw04.EventWrites", spec := "eventWrites", unfollowed := true, recurses := true, apart := false }
def EventWritesSaid : Prop := eventWritesRow.holds Try.pinned (OpenSpec.ofChange eventWritesSpec)

/-- ITS FALSE NEIGHBOUR: 'it returns false'. Refute it at one input. -/
def eventWritesWrong : ChangeSpec := { name := "eventWrites", fn := fun _ => fun
  | [d1, d2] => { results := [.lit (.bool false)], args := [d1, d2] }
  | _ => none }
def EventWritesWrongFalsely : Prop := eventWritesRow.holds Try.pinned (OpenSpec.ofChange eventWritesWrong)

/-- 'eyrielaw04.EventReads': WHATEVER THE INPUT: true; the input reads as it did. -/
def eventReadsSpec : ChangeSpec := { name := "eventReads", fn := fun _ => fun
  | [d1, d2] => { results := [.lit (.bool true)], args := [d1, d2] }
  | _ => none }
def eventReadsRow : OpenClaim := { program := "ytheggchlcpafmaa", sum := "1dfd92ff91f29dea7ed080080839f0edc335b7e81a13f6201c81a90958f39b7a", func := "eyrie/eyrielaw04.EventReads", spec := "eventReads", unfollowed := true, recurses := true, apart := false }
def EventReadsSaid : Prop := eventReadsRow.holds Try.pinned (OpenSpec.ofChange eventReadsSpec)

/-- ITS FALSE NEIGHBOUR: 'it returns false'. Refute it at one input. -/
def eventReadsWrong : ChangeSpec := { name := "eventReads", fn := fun _ => fun
  | [d1, d2] => { results := [.lit (.bool false)], args := [d1, d2] }
  | _ => none }
def EventReadsWrongFalsely : Prop := eventReadsRow.holds Try.pinned (OpenSpec.ofChange eventReadsWrong)

/-- 'eyrielaw04.EventBack': WHATEVER THE INPUT: true; the input reads as it did. -/
def eventBackSpec : ChangeSpec := { name := "eventBack", fn := fun _ => fun
  | [d1, d2] => { results := [.lit (.bool true)], args := [d1, d2] }
  | _ => none }
def eventBackRow : OpenClaim := { program := "ytheggchlcpafmaa", sum := "1dfd92ff91f29dea7ed080080839f0edc335b7e81a13f6201c81a90958f39b7a", func := "eyrie/eyrielaw04.EventBack", spec := "eventBack", unfollowed := true, recurses := true, apart := false }
def EventBackSaid : Prop := eventBackRow.holds Try.pinned (OpenSpec.ofChange eventBackSpec)

/-- ITS FALSE NEIGHBOUR: 'it returns false'. Refute it at one input. -/
def eventBackWrong : ChangeSpec := { name := "eventBack", fn := fun _ => fun
  | [d1, d2] => { results := [.lit (.bool false)], args := [d1, d2] }
  | _ => none }
def EventBackWrongFalsely : Prop := eventBackRow.holds Try.pinned (OpenSpec.ofChange eventBackWrong)

/-- 'eyrielaw04.EventOwn': WHATEVER THE INPUT: true; the input reads as it did. -/
def eventOwnSpec : ChangeSpec := { name := "eventOwn", fn := fun _ => fun
  | [d] => { results := [.lit (.bool true)], args := [d] }
  | _ => none }
def eventOwnRow : OpenClaim := { program := "ytheggchlcpafmaa", sum := "1dfd92ff91f29dea7ed080080839f0edc335b7e81a13f6201c81a90958f39b7a", func := "eyrie/eyrielaw04.EventOwn", spec := "eventOwn", unfollowed := true, recurses := true, apart := false }
def EventOwnSaid : Prop := eventOwnRow.holds Try.pinned (OpenSpec.ofChange eventOwnSpec)

/-- ITS FALSE NEIGHBOUR: 'it returns false'. Refute it at one input. -/
def eventOwnWrong : ChangeSpec := { name := "eventOwn", fn := fun _ => fun
  | [d] => { results := [.lit (.bool false)], args := [d] }
  | _ => none }
def EventOwnWrongFalsely : Prop := eventOwnRow.holds Try.pinned (OpenSpec.ofChange eventOwnWrong)

/- THE SECOND FORM. 'bulk': how many values and letters a reading holds, each counted each time it is reached (what is shared counts as often as it is met; a slice's spare places count too). A statement '..UptoSaid' is the law's where the arguments, and the package variables that the reading takes, are together of bulk at most 1048576: NARROWER than '..Said'. Prove '..Said' where nothing that the law and all that it calls make is longer than what came in: it says more and counts as full. Else prove '..UptoSaid'. A law counts once. -/
mutual
def uptoBulk {H : Type} : DataW H → Nat
  | .lit (.string bytes) => bytes.length + 1
  | .lit _ => 1
  | .nil => 1
  | .ptr d => uptoBulk d + 1
  | .slice elems spare => uptoBulkAll elems + uptoBulkAll spare + 1
  | .agg parts => uptoBulkAll parts + 1
  | .iface _ d => uptoBulk d + 1
  | .map entries => uptoBulkEntries entries + 1
  | .held _ => 1
def uptoBulkAll {H : Type} : List (DataW H) → Nat
  | [] => 0
  | d :: r => uptoBulk d + uptoBulkAll r
def uptoBulkEntries {H : Type} : List (Lit × DataW H) → Nat
  | [] => 0
  | x :: r => uptoBulkEntry x + uptoBulkEntries r
def uptoBulkEntry {H : Type} : Lit × DataW H → Nat
  | (.string bytes, d) => bytes.length + uptoBulk d + 1
  | (_, d) => uptoBulk d + 1
 end
def uptoSmall : (H : Type) → List (DataW H) → Bool := fun _ ds => decide (uptoBulkAll ds ≤ 1048576)
def OpenSpec.upto (s : _root_.Go.ChangeSpec) : _root_.Go.OpenSpec := { _root_.Go.OpenSpec.ofChange s with cond := some uptoSmall }

/-- 'eyrielaw04.EventRises', WHERE WHAT IT READS IS OF BULK AT MOST 1048576: true; the input reads as it did. -/
def eventRisesUptoRow : OpenClaim := { program := "ytheggchlcpafmaa", sum := "1dfd92ff91f29dea7ed080080839f0edc335b7e81a13f6201c81a90958f39b7a", func := "eyrie/eyrielaw04.EventRises", spec := "eventRises", unfollowed := true, recurses := true, apart := false, narrowed := true }
def EventRisesUptoSaid : Prop := eventRisesUptoRow.holds Try.pinned (OpenSpec.upto eventRisesSpec)

/-- 'eyrielaw04.EventChecks', WHERE WHAT IT READS IS OF BULK AT MOST 1048576: true; the input reads as it did. -/
def eventChecksUptoRow : OpenClaim := { program := "ytheggchlcpafmaa", sum := "1dfd92ff91f29dea7ed080080839f0edc335b7e81a13f6201c81a90958f39b7a", func := "eyrie/eyrielaw04.EventChecks", spec := "eventChecks", unfollowed := true, recurses := true, apart := false, narrowed := true }
def EventChecksUptoSaid : Prop := eventChecksUptoRow.holds Try.pinned (OpenSpec.upto eventChecksSpec)

/-- 'eyrielaw04.EventStreams', WHERE WHAT IT READS IS OF BULK AT MOST 1048576: true; the input reads as it did. -/
def eventStreamsUptoRow : OpenClaim := { program := "ytheggchlcpafmaa", sum := "1dfd92ff91f29dea7ed080080839f0edc335b7e81a13f6201c81a90958f39b7a", func := "eyrie/eyrielaw04.EventStreams", spec := "eventStreams", unfollowed := true, recurses := true, apart := false, narrowed := true }
def EventStreamsUptoSaid : Prop := eventStreamsUptoRow.holds Try.pinned (OpenSpec.upto eventStreamsSpec)

/-- 'eyrielaw04.EventFull', WHERE WHAT IT READS IS OF BULK AT MOST 1048576: true; the input reads as it did. -/
def eventFullUptoRow : OpenClaim := { program := "ytheggchlcpafmaa", sum := "1dfd92ff91f29dea7ed080080839f0edc335b7e81a13f6201c81a90958f39b7a", func := "eyrie/eyrielaw04.EventFull", spec := "eventFull", unfollowed := true, recurses := true, apart := false, narrowed := true }
def EventFullUptoSaid : Prop := eventFullUptoRow.holds Try.pinned (OpenSpec.upto eventFullSpec)

/-- 'eyrielaw04.EventWrites', WHERE WHAT IT READS IS OF BULK AT MOST 1048576: true; the input reads as it did. -/
def eventWritesUptoRow : OpenClaim := { program := "ytheggchlcpafmaa", sum := "1dfd92ff91f29dea7ed080080839f0edc335b7e81a13f6201c81a90958f39b7a", func := "eyrie/eyrielaw04.EventWrites", spec := "eventWrites", unfollowed := true, recurses := true, apart := false, narrowed := true }
def EventWritesUptoSaid : Prop := eventWritesUptoRow.holds Try.pinned (OpenSpec.upto eventWritesSpec)

/-- 'eyrielaw04.EventReads', WHERE WHAT IT READS IS OF BULK AT MOST 1048576: true; the input reads as it did. -/
def eventReadsUptoRow : OpenClaim := { program := "ytheggchlcpafmaa", sum := "1dfd92ff91f29dea7ed080080839f0edc335b7e81a13f6201c81a90958f39b7a", func := "eyrie/eyrielaw04.EventReads", spec := "eventReads", unfollowed := true, recurses := true, apart := false, narrowed := true }
def EventReadsUptoSaid : Prop := eventReadsUptoRow.holds Try.pinned (OpenSpec.upto eventReadsSpec)

/-- 'eyrielaw04.EventBack', WHERE WHAT IT READS IS OF BULK AT MOST 1048576: true; the input reads as it did. -/
def eventBackUptoRow : OpenClaim := { program := "ytheggchlcpafmaa", sum := "1dfd92ff91f29dea7ed080080839f0edc335b7e81a13f6201c81a90958f39b7a", func := "eyrie/eyrielaw04.EventBack", spec := "eventBack", unfollowed := true, recurses := true, apart := false, narrowed := true }
def EventBackUptoSaid : Prop := eventBackUptoRow.holds Try.pinned (OpenSpec.upto eventBackSpec)

/-- 'eyrielaw04.EventOwn', WHERE WHAT IT READS IS OF BULK AT MOST 1048576: true; the input reads as it did. -/
def eventOwnUptoRow : OpenClaim := { program := "ytheggchlcpafmaa", sum := "1dfd92ff91f29dea7ed080080839f0edc335b7e81a13f6201c81a90958f39b7a", func := "eyrie/eyrielaw04.EventOwn", spec := "eventOwn", unfollowed := true, recurses := true, apart := false, narrowed := true }
def EventOwnUptoSaid : Prop := eventOwnUptoRow.holds Try.pinned (OpenSpec.upto eventOwnSpec)

end Rows
end Go.Proofs.Ytheggchlcpafmaa
