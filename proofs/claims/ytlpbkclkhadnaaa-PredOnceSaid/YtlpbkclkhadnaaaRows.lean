/-
  NARROWER THAN 'FOR EVERY INPUT', by the rows' own cells (each row's printed sentence says how): PredTests: loops.
  DERIVED. THE GIVEN ROWS OF THIS SEAT. 5 by the template 'for every input the law returns true; each argument reads behind the call as it read before'; 0 by the template 'total and deterministic' (their statements: YtlpbkclkhadnaaaTotals.lean).
  GIVEN WITH THE SEED: the statements are not yours to turn. If you find one false, say at which input.
  Laid BY PROGRAM, IN A SANDBOX (cutbox-rows.mjs): the forced cells as the released guide's own fill.sh prints them over the translation 3666f91579993305… (all of the seat's roots in one cut). By AI agents, Wed Nov 11 2026. No macro, syntax, notation, axiom, sorry.
-/
import Derived.Test.YtlpbkclkhadnaaaChecked
import GoSem.Claim
import GoSem.ClaimJoined
import GoSem.ClaimMapViews
import Derived.JoinedTies
import Derived.KernelRfl
namespace Go.Proofs.Ytlpbkclkhadnaaa
/- THE CELL 'sum', in the pinned program and in every row, IS THE sha256 OF THE DUMP (.gsa) THAT YtlpbkclkhadnaaaProg.lean LOADS. Nothing in Lean hashes anything: it is a label: what it is worth is what the hold of that sum in a sandbox is worth. -/
noncomputable def Try.pinned : Pinned := { name := "ytlpbkclkhadnaaa", sum := "3666f915799933053f7282ec32f280c8d28c2d90255db0d31ed7dd0ff3fde16a", checked := Try.checked }
namespace Rows
def none {H : Type} : Left H := { results := [], args := [] }

/-- 'eyrielaw09.PredTests': WHATEVER THE INPUT: true; the input reads as it did. -/
def predTestsSpec : ChangeSpec := { name := "predTests", fn := fun _ => fun
  | [d1, d2, d3] => { results := [.lit (.bool true)], args := [d1, d2, d3] }
  | _ => none }
def predTestsRow : OpenClaim := { program := "ytlpbkclkhadnaaa", sum := "3666f915799933053f7282ec32f280c8d28c2d90255db0d31ed7dd0ff3fde16a", func := "eyrie/eyrielaw09.PredTests", spec := "predTests", inPlace := ["internal/bytealg.abigen_runtime_cmpstring"], unfollowed := true, recurses := true, loops := true, apart := false }
def PredTestsSaid : Prop := predTestsRow.holds Try.pinned (OpenSpec.ofChange predTestsSpec)

/-- ITS FALSE NEIGHBOUR: 'it returns false'. Refute it at one input. -/
def predTestsWrong : ChangeSpec := { name := "predTests", fn := fun _ => fun
  | [d1, d2, d3] => { results := [.lit (.bool false)], args := [d1, d2, d3] }
  | _ => none }
def PredTestsWrongFalsely : Prop := predTestsRow.holds Try.pinned (OpenSpec.ofChange predTestsWrong)

/-- 'eyrielaw09.PredValues': WHATEVER THE INPUT: true; the input reads as it did. -/
def predValuesSpec : ChangeSpec := { name := "predValues", fn := fun _ => fun
  | [d1, d2] => { results := [.lit (.bool true)], args := [d1, d2] }
  | _ => none }
def predValuesRow : OpenClaim := { program := "ytlpbkclkhadnaaa", sum := "3666f915799933053f7282ec32f280c8d28c2d90255db0d31ed7dd0ff3fde16a", func := "eyrie/eyrielaw09.PredValues", spec := "predValues", inPlace := ["internal/bytealg.abigen_runtime_cmpstring"], unfollowed := true, recurses := true, apart := false }
def PredValuesSaid : Prop := predValuesRow.holds Try.pinned (OpenSpec.ofChange predValuesSpec)

/-- ITS FALSE NEIGHBOUR: 'it returns false'. Refute it at one input. -/
def predValuesWrong : ChangeSpec := { name := "predValues", fn := fun _ => fun
  | [d1, d2] => { results := [.lit (.bool false)], args := [d1, d2] }
  | _ => none }
def PredValuesWrongFalsely : Prop := predValuesRow.holds Try.pinned (OpenSpec.ofChange predValuesWrong)

/-- 'eyrielaw09.PredNames': WHATEVER THE INPUT: true; the input reads as it did. -/
def predNamesSpec : ChangeSpec := { name := "predNames", fn := fun _ => fun
  | [d1, d2] => { results := [.lit (.bool true)], args := [d1, d2] }
  | _ => none }
def predNamesRow : OpenClaim := { program := "ytlpbkclkhadnaaa", sum := "3666f915799933053f7282ec32f280c8d28c2d90255db0d31ed7dd0ff3fde16a", func := "eyrie/eyrielaw09.PredNames", spec := "predNames", inPlace := ["internal/bytealg.abigen_runtime_cmpstring"], unfollowed := true, recurses := true, apart := false }
def PredNamesSaid : Prop := predNamesRow.holds Try.pinned (OpenSpec.ofChange predNamesSpec)

/-- ITS FALSE NEIGHBOUR: 'it returns false'. Refute it at one input. -/
def predNamesWrong : ChangeSpec := { name := "predNames", fn := fun _ => fun
  | [d1, d2] => { results := [.lit (.bool false)], args := [d1, d2] }
  | _ => none }
def PredNamesWrongFalsely : Prop := predNamesRow.holds Try.pinned (OpenSpec.ofChange predNamesWrong)

/-- 'eyrielaw09.PredEarly': WHATEVER THE INPUT: true; the input reads as it did. -/
def predEarlySpec : ChangeSpec := { name := "predEarly", fn := fun _ => fun
  | [d1, d2, d3] => { results := [.lit (.bool true)], args := [d1, d2, d3] }
  | _ => none }
def predEarlyRow : OpenClaim := { program := "ytlpbkclkhadnaaa", sum := "3666f915799933053f7282ec32f280c8d28c2d90255db0d31ed7dd0ff3fde16a", func := "eyrie/eyrielaw09.PredEarly", spec := "predEarly", inPlace := ["internal/bytealg.abigen_runtime_cmpstring"], unfollowed := true, recurses := true, apart := false }
def PredEarlySaid : Prop := predEarlyRow.holds Try.pinned (OpenSpec.ofChange predEarlySpec)

/-- ITS FALSE NEIGHBOUR: 'it returns false'. Refute it at one input. -/
def predEarlyWrong : ChangeSpec := { name := "predEarly", fn := fun _ => fun
  | [d1, d2, d3] => { results := [.lit (.bool false)], args := [d1, d2, d3] }
  | _ => none }
def PredEarlyWrongFalsely : Prop := predEarlyRow.holds Try.pinned (OpenSpec.ofChange predEarlyWrong)

/-- 'eyrielaw09.PredOnce': WHATEVER THE INPUT: true; the input reads as it did. -/
def predOnceSpec : ChangeSpec := { name := "predOnce", fn := fun _ => fun
  | [d1, d2, d3] => { results := [.lit (.bool true)], args := [d1, d2, d3] }
  | _ => none }
def predOnceRow : OpenClaim := { program := "ytlpbkclkhadnaaa", sum := "3666f915799933053f7282ec32f280c8d28c2d90255db0d31ed7dd0ff3fde16a", func := "eyrie/eyrielaw09.PredOnce", spec := "predOnce", inPlace := ["internal/bytealg.abigen_runtime_cmpstring"], unfollowed := true, recurses := true, apart := false }
def PredOnceSaid : Prop := predOnceRow.holds Try.pinned (OpenSpec.ofChange predOnceSpec)

/-- ITS FALSE NEIGHBOUR: 'it returns false'. Refute it at one input. -/
def predOnceWrong : ChangeSpec := { name := "predOnce", fn := fun _ => fun
  | [d1, d2, d3] => { results := [.lit (.bool false)], args := [d1, d2, d3] }
  | _ => none }
def PredOnceWrongFalsely : Prop := predOnceRow.holds Try.pinned (OpenSpec.ofChange predOnceWrong)

/- THE SECOND FORM. 'bulk': how many values and letters a reading holds, each counted each time it is reached (what is shared counts as often as it is met; a slice's spare places count too). A statement '..UptoSaid' is the law's where the arguments, and the package variables that the reading takes, are together of bulk at most 1048576: NARROWER than '..Said'. Prove '..Said' where nothing that the law and all that it calls make is longer than what came in: it says more and counts as full. Else prove '..UptoSaid'. A law counts once. -/
mutual
def uptoBulk {H : Type} : DataW H → Nat
  | .lit (.string bytes) => bytes.length + 1
  | .lit _ => 1
  | .nil => 1
  | .ptr d => uptoBulk d + 1
  | .slice elems spare => uptoBulkAll elems + uptoBulkAll spare + 1
  | .agg parts => uptoBulkAll parts + 1
  | .iface _ d => uptoBulk d + 1
  | .map entries => uptoBulkEntries entries + 1
  | .held _ => 1
def uptoBulkAll {H : Type} : List (DataW H) → Nat
  | [] => 0
  | d :: r => uptoBulk d + uptoBulkAll r
def uptoBulkEntries {H : Type} : List (Lit × DataW H) → Nat
  | [] => 0
  | x :: r => uptoBulkEntry x + uptoBulkEntries r
def uptoBulkEntry {H : Type} : Lit × DataW H → Nat
  | (.string bytes, d) => bytes.length + uptoBulk d + 1
  | (_, d) => uptoBulk d + 1
 end
def uptoSmall : (H : Type) → List (DataW H) → Bool := fun _ ds => decide (uptoBulkAll ds ≤ 1048576)
def OpenSpec.upto (s : _root_.Go.ChangeSpec) : _root_.Go.OpenSpec := { _root_.Go.OpenSpec.ofChange s with cond := some uptoSmall }

/-- 'eyrielaw09.PredTests', WHERE WHAT IT READS IS OF BULK AT MOST 1048576: true; the input reads as it did. -/
def predTestsUptoRow : OpenClaim := { program := "ytlpbkclkhadnaaa", sum := "3666f915799933053f7282ec32f280c8d28c2d90255db0d31ed7dd0ff3fde16a", func := "eyrie/eyrielaw09.PredTests", spec := "predTests", inPlace := ["internal/bytealg.abigen_runtime_cmpstring"], unfollowed := true, recurses := true, loops := true, apart := false, narrowed := true }
def PredTestsUptoSaid : Prop := predTestsUptoRow.holds Try.pinned (OpenSpec.upto predTestsSpec)

/-- 'eyrielaw09.PredValues', WHERE WHAT IT READS IS OF BULK AT MOST 1048576: true; the input reads as it did. -/
def predValuesUptoRow : OpenClaim := { program := "ytlpbkclkhadnaaa", sum := "3666f915799933053f7282ec32f280c8d28c2d90255db0d31ed7dd0ff3fde16a", func := "eyrie/eyrielaw09.PredValues", spec := "predValues", inPlace := ["internal/bytealg.abigen_runtime_cmpstring"], unfollowed := true, recurses := true, apart := false, narrowed := true }
def PredValuesUptoSaid : Prop := predValuesUptoRow.holds Try.pinned (OpenSpec.upto predValuesSpec)

/-- 'eyrielaw09.PredNames', WHERE WHAT IT READS IS OF BULK AT MOST 1048576: true; the input reads as it did. -/
def predNamesUptoRow : OpenClaim := { program := "ytlpbkclkhadnaaa", sum := "3666f915799933053f7282ec32f280c8d28c2d90255db0d31ed7dd0ff3fde16a", func := "eyrie/eyrielaw09.PredNames", spec := "predNames", inPlace := ["internal/bytealg.abigen_runtime_cmpstring"], unfollowed := true, recurses := true, apart := false, narrowed := true }
def PredNamesUptoSaid : Prop := predNamesUptoRow.holds Try.pinned (OpenSpec.upto predNamesSpec)

/-- 'eyrielaw09.PredEarly', WHERE WHAT IT READS IS OF BULK AT MOST 1048576: true; the input reads as it did. -/
def predEarlyUptoRow : OpenClaim := { program := "ytlpbkclkhadnaaa", sum := "3666f915799933053f7282ec32f280c8d28c2d90255db0d31ed7dd0ff3fde16a", func := "eyrie/eyrielaw09.PredEarly", spec := "predEarly", inPlace := ["internal/bytealg.abigen_runtime_cmpstring"], unfollowed := true, recurses := true, apart := false, narrowed := true }
def PredEarlyUptoSaid : Prop := predEarlyUptoRow.holds Try.pinned (OpenSpec.upto predEarlySpec)

/-- 'eyrielaw09.PredOnce', WHERE WHAT IT READS IS OF BULK AT MOST 1048576: true; the input reads as it did. -/
def predOnceUptoRow : OpenClaim := { program := "ytlpbkclkhadnaaa", sum := "3666f915799933053f7282ec32f280c8d28c2d90255db0d31ed7dd0ff3fde16a", func := "eyrie/eyrielaw09.PredOnce", spec := "predOnce", inPlace := ["internal/bytealg.abigen_runtime_cmpstring"], unfollowed := true, recurses := true, apart := false, narrowed := true }
def PredOnceUptoSaid : Prop := predOnceUptoRow.holds Try.pinned (OpenSpec.upto predOnceSpec)

end Rows
end Go.Proofs.Ytlpbkclkhadnaaa
