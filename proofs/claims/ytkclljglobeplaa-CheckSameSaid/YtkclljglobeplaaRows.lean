/-
  NARROWER THAN 'FOR EVERY INPUT', by the rows' own cells (each row's printed sentence says how): CheckPatterns: loops · CheckTrees: loops · CheckSure: loops · CheckParts: loops · CheckSame: loops.
  DERIVED. THE GIVEN ROWS OF THIS SEAT. 6 by the template 'for every input the law returns true; each argument reads behind the call as it read before'; 0 by the template 'total and deterministic' (their statements: YtkclljglobeplaaTotals.lean).
  GIVEN WITH THE SEED: the statements are not yours to turn. If you find one false, say at which input.
  Laid BY PROGRAM, IN A SANDBOX (cutbox-rows.mjs): the forced cells as the released guide's own fill.sh prints them over the translation c43a0ba1ea1cfcdc… (all of the seat's roots in one cut). By AI agents, Wed Nov 11 2026. No macro, syntax, notation, axiom, sorry.
-/
import Derived.Test.YtkclljglobeplaaChecked
import GoSem.Claim
import GoSem.ClaimJoined
import GoSem.ClaimMapViews
import Derived.JoinedTies
import Derived.KernelRfl
namespace Go.Proofs.Ytkclljglobeplaa
/- THE CELL 'sum', in the pinned program and in every row, IS THE sha256 OF THE DUMP (.gsa) THAT YtkclljglobeplaaProg.lean LOADS. Nothing in Lean hashes anything: it is a label: what it is worth is what the hold of that sum in a sandbox is worth. -/
noncomputable def Try.pinned : Pinned := { name := "ytkclljglobeplaa", sum := "c43a0ba1ea1cfcdc63afd4004b42c619eeaf6b938a063e984fc229dae3387c16", checked := Try.checked }
namespace Rows
def none {H : Type} : Left H := { results := [], args := [] }

/-- 'eyrielaw07.CheckPatterns': WHATEVER THE INPUT: true; the input reads as it did. -/
def checkPatternsSpec : ChangeSpec := { name := "checkPatterns", fn := fun _ => fun
  | [d] => { results := [.lit (.bool true)], args := [d] }
  | _ => none }
def checkPatternsRow : OpenClaim := { program := "ytkclljglobeplaa", sum := "c43a0ba1ea1cfcdc63afd4004b42c619eeaf6b938a063e984fc229dae3387c16", func := "eyrie/eyrielaw07.CheckPatterns", spec := "checkPatterns", unfollowed := true, recurses := true, loops := true, apart := false }
def CheckPatternsSaid : Prop := checkPatternsRow.holds Try.pinned (OpenSpec.ofChange checkPatternsSpec)

/-- ITS FALSE NEIGHBOUR: 'it returns false'. Refute it at one input. -/
def checkPatternsWrong : ChangeSpec := { name := "checkPatterns", fn := fun _ => fun
  | [d] => { results := [.lit (.bool false)], args := [d] }
  | _ => none }
def CheckPatternsWrongFalsely : Prop := checkPatternsRow.holds Try.pinned (OpenSpec.ofChange checkPatternsWrong)

/-- 'eyrielaw07.CheckTrees': WHATEVER THE INPUT: true; the input reads as it did. -/
def checkTreesSpec : ChangeSpec := { name := "checkTrees", fn := fun _ => fun
  | [d] => { results := [.lit (.bool true)], args := [d] }
  | _ => none }
def checkTreesRow : OpenClaim := { program := "ytkclljglobeplaa", sum := "c43a0ba1ea1cfcdc63afd4004b42c619eeaf6b938a063e984fc229dae3387c16", func := "eyrie/eyrielaw07.CheckTrees", spec := "checkTrees", unfollowed := true, recurses := true, loops := true, apart := false }
def CheckTreesSaid : Prop := checkTreesRow.holds Try.pinned (OpenSpec.ofChange checkTreesSpec)

/-- ITS FALSE NEIGHBOUR: 'it returns false'. Refute it at one input. -/
def checkTreesWrong : ChangeSpec := { name := "checkTrees", fn := fun _ => fun
  | [d] => { results := [.lit (.bool false)], args := [d] }
  | _ => none }
def CheckTreesWrongFalsely : Prop := checkTreesRow.holds Try.pinned (OpenSpec.ofChange checkTreesWrong)

/-- 'eyrielaw07.CheckConds': WHATEVER THE INPUT: true; the input reads as it did. -/
def checkCondsSpec : ChangeSpec := { name := "checkConds", fn := fun _ => fun
  | [d1, d2] => { results := [.lit (.bool true)], args := [d1, d2] }
  | _ => none }
def checkCondsRow : OpenClaim := { program := "ytkclljglobeplaa", sum := "c43a0ba1ea1cfcdc63afd4004b42c619eeaf6b938a063e984fc229dae3387c16", func := "eyrie/eyrielaw07.CheckConds", spec := "checkConds", unfollowed := true, recurses := true, apart := false }
def CheckCondsSaid : Prop := checkCondsRow.holds Try.pinned (OpenSpec.ofChange checkCondsSpec)

/-- ITS FALSE NEIGHBOUR: 'it returns false'. Refute it at one input. -/
def checkCondsWrong : ChangeSpec := { name := "checkConds", fn := fun _ => fun
  | [d1, d2] => { results := [.lit (.bool false)], args := [d1, d2] }
  | _ => none }
def CheckCondsWrongFalsely : Prop := checkCondsRow.holds Try.pinned (OpenSpec.ofChange checkCondsWrong)

/-- 'eyrielaw07.CheckSure': WHATEVER THE INPUT: true; the input reads as it did. -/
def checkSureSpec : ChangeSpec := { name := "checkSure", fn := fun _ => fun
  | [d] => { results := [.lit (.bool true)], args := [d] }
  | _ => none }
def checkSureRow : OpenClaim := { program := "ytkclljglobeplaa", sum := "c43a0ba1ea1cfcdc63afd4004b42c619eeaf6b938a063e984fc229dae3387c16", func := "eyrie/eyrielaw07.CheckSure", spec := "checkSure", unfollowed := true, recurses := true, loops := true, apart := false }
def CheckSureSaid : Prop := checkSureRow.holds Try.pinned (OpenSpec.ofChange checkSureSpec)

/-- ITS FALSE NEIGHBOUR: 'it returns false'. Refute it at one input. -/
def checkSureWrong : ChangeSpec := { name := "checkSure", fn := fun _ => fun
  | [d] => { results := [.lit (.bool false)], args := [d] }
  | _ => none }
def CheckSureWrongFalsely : Prop := checkSureRow.holds Try.pinned (OpenSpec.ofChange checkSureWrong)

/-- 'eyrielaw07.CheckParts': WHATEVER THE INPUT: true; the input reads as it did. -/
def checkPartsSpec : ChangeSpec := { name := "checkParts", fn := fun _ => fun
  | [d1, d2] => { results := [.lit (.bool true)], args := [d1, d2] }
  | _ => none }
def checkPartsRow : OpenClaim := { program := "ytkclljglobeplaa", sum := "c43a0ba1ea1cfcdc63afd4004b42c619eeaf6b938a063e984fc229dae3387c16", func := "eyrie/eyrielaw07.CheckParts", spec := "checkParts", unfollowed := true, recurses := true, loops := true, apart := false }
def CheckPartsSaid : Prop := checkPartsRow.holds Try.pinned (OpenSpec.ofChange checkPartsSpec)

/-- ITS FALSE NEIGHBOUR: 'it returns false'. Refute it at one input. -/
def checkPartsWrong : ChangeSpec := { name := "checkParts", fn := fun _ => fun
  | [d1, d2] => { results := [.lit (.bool false)], args := [d1, d2] }
  | _ => none }
def CheckPartsWrongFalsely : Prop := checkPartsRow.holds Try.pinned (OpenSpec.ofChange checkPartsWrong)

/-- 'eyrielaw07.CheckSame': WHATEVER THE INPUT: true; the input reads as it did. -/
def checkSameSpec : ChangeSpec := { name := "checkSame", fn := fun _ => fun
  | [d1, d2] => { results := [.lit (.bool true)], args := [d1, d2] }
  | _ => none }
def checkSameRow : OpenClaim := { program := "ytkclljglobeplaa", sum := "c43a0ba1ea1cfcdc63afd4004b42c619eeaf6b938a063e984fc229dae3387c16", func := "eyrie/eyrielaw07.CheckSame", spec := "checkSame", unfollowed := true, recurses := true, loops := true, apart := false }
def CheckSameSaid : Prop := checkSameRow.holds Try.pinned (OpenSpec.ofChange checkSameSpec)

/-- ITS FALSE NEIGHBOUR: 'it returns false'. Refute it at one input. -/
def checkSameWrong : ChangeSpec := { name := "checkSame", fn := fun _ => fun
  | [d1, d2] => { results := [.lit (.bool false)], args := [d1, d2] }
  | _ => none }
def CheckSameWrongFalsely : Prop := checkSameRow.holds Try.pinned (OpenSpec.ofChange checkSameWrong)

/- THE SECOND FORM. 'bulk': how many values and letters a reading holds, each counted each time it is reached (what is shared counts as often as it is met; a slice's spare places count too). A statement '..UptoSaid' is the law's where the arguments, and the package variables that the reading takes, are together of bulk at most 1048576: NARROWER than '..Said'. Prove '..Said' where nothing that the law and all that it calls make is longer than what came in: it says more and counts as full. Else prove '..UptoSaid'. A law counts once. -/
mutual
def uptoBulk {H : Type} : DataW H → Nat
  | .lit (.string bytes) => bytes.length + 1
  | .lit _ => 1
  | .nil => 1
  | .ptr d => uptoBulk d + 1
  | .slice elems spare => uptoBulkAll elems + uptoBulkAll spare + 1
  | .agg parts => uptoBulkAll parts + 1
  | .iface _ d => uptoBulk d + 1
  | .map entries => uptoBulkEntries entries + 1
  | .held _ => 1
def uptoBulkAll {H : Type} : List (DataW H) → Nat
  | [] => 0
  | d :: r => uptoBulk d + uptoBulkAll r
def uptoBulkEntries {H : Type} : List (Lit × DataW H) → Nat
  | [] => 0
  | x :: r => uptoBulkEntry x + uptoBulkEntries r
def uptoBulkEntry {H : Type} : Lit × DataW H → Nat
  | (.string bytes, d) => bytes.length + uptoBulk d + 1
  | (_, d) => uptoBulk d + 1
 end
def uptoSmall : (H : Type) → List (DataW H) → Bool := fun _ ds => decide (uptoBulkAll ds ≤ 1048576)
def OpenSpec.upto (s : _root_.Go.ChangeSpec) : _root_.Go.OpenSpec := { _root_.Go.OpenSpec.ofChange s with cond := some uptoSmall }

/-- 'eyrielaw07.CheckPatterns', WHERE WHAT IT READS IS OF BULK AT MOST 1048576: true; the input reads as it did. -/
def checkPatternsUptoRow : OpenClaim := { program := "ytkclljglobeplaa", sum := "c43a0ba1ea1cfcdc63afd4004b42c619eeaf6b938a063e984fc229dae3387c16", func := "eyrie/eyrielaw07.CheckPatterns", spec := "checkPatterns", unfollowed := true, recurses := true, loops := true, apart := false, narrowed := true }
def CheckPatternsUptoSaid : Prop := checkPatternsUptoRow.holds Try.pinned (OpenSpec.upto checkPatternsSpec)

/-- 'eyrielaw07.CheckTrees', WHERE WHAT IT READS IS OF BULK AT MOST 1048576: true; the input reads as it did. -/
def checkTreesUptoRow : OpenClaim := { program := "ytkclljglobeplaa", sum := "c43a0ba1ea1cfcdc63afd4004b42c619eeaf6b938a063e984fc229dae3387c16", func := "eyrie/eyrielaw07.CheckTrees", spec := "checkTrees", unfollowed := true, recurses := true, loops := true, apart := false, narrowed := true }
def CheckTreesUptoSaid : Prop := checkTreesUptoRow.holds Try.pinned (OpenSpec.upto checkTreesSpec)

/-- 'eyrielaw07.CheckConds', WHERE WHAT IT READS IS OF BULK AT MOST 1048576: true; the input reads as it did. -/
def checkCondsUptoRow : OpenClaim := { program := "ytkclljglobeplaa", sum := "c43a0ba1ea1cfcdc63afd4004b42c619eeaf6b938a063e984fc229dae3387c16", func := "eyrie/eyrielaw07.CheckConds", spec := "checkConds", unfollowed := true, recurses := true, apart := false, narrowed := true }
def CheckCondsUptoSaid : Prop := checkCondsUptoRow.holds Try.pinned (OpenSpec.upto checkCondsSpec)

/-- 'eyrielaw07.CheckSure', WHERE WHAT IT READS IS OF BULK AT MOST 1048576: true; the input reads as it did. -/
def checkSureUptoRow : OpenClaim := { program := "ytkclljglobeplaa", sum := "c43a0ba1ea1cfcdc63afd4004b42c619eeaf6b938a063e984fc229dae3387c16", func := "eyrie/eyrielaw07.CheckSure", spec := "checkSure", unfollowed := true, recurses := true, loops := true, apart := false, narrowed := true }
def CheckSureUptoSaid : Prop := checkSureUptoRow.holds Try.pinned (OpenSpec.upto checkSureSpec)

/-- 'eyrielaw07.CheckParts', WHERE WHAT IT READS IS OF BULK AT MOST 1048576: true; the input reads as it did. -/
def checkPartsUptoRow : OpenClaim := { program := "ytkclljglobeplaa", sum := "c43a0ba1ea1cfcdc63afd4004b42c619eeaf6b938a063e984fc229dae3387c16", func := "eyrie/eyrielaw07.CheckParts", spec := "checkParts", unfollowed := true, recurses := true, loops := true, apart := false, narrowed := true }
def CheckPartsUptoSaid : Prop := checkPartsUptoRow.holds Try.pinned (OpenSpec.upto checkPartsSpec)

/-- 'eyrielaw07.CheckSame', WHERE WHAT IT READS IS OF BULK AT MOST 1048576: true; the input reads as it did. -/
def checkSameUptoRow : OpenClaim := { program := "ytkclljglobeplaa", sum := "c43a0ba1ea1cfcdc63afd4004b42c619eeaf6b938a063e984fc229dae3387c16", func := "eyrie/eyrielaw07.CheckSame", spec := "checkSame", unfollowed := true, recurses := true, loops := true, apart := false, narrowed := true }
def CheckSameUptoSaid : Prop := checkSameUptoRow.holds Try.pinned (OpenSpec.upto checkSameSpec)

end Rows
end Go.Proofs.Ytkclljglobeplaa
