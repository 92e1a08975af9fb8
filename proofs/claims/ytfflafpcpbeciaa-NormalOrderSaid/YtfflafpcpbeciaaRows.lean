/-
  NARROWER THAN 'FOR EVERY INPUT', by the rows' own cells (each row's printed sentence says how): NormalOrder: loops · NormalTurns: loops · NormalOwn: loops · NormalTrees: loops · NormalParts: loops.
  DERIVED. THE GIVEN ROWS OF THIS SEAT. 5 by the template 'for every input the law returns true; each argument reads behind the call as it read before'; 0 by the template 'total and deterministic' (their statements: YtfflafpcpbeciaaTotals.lean).
  GIVEN WITH THE SEED: the statements are not yours to turn. If you find one false, say at which input.
  Laid BY PROGRAM, IN A SANDBOX (cutbox-rows.mjs): the forced cells as the released guide's own fill.sh prints them over the translation de7bcb2cf5334e5d… (all of the seat's roots in one cut). By AI agents, Wed Nov 11 2026. No macro, syntax, notation, axiom, sorry.
-/
import Derived.Test.YtfflafpcpbeciaaChecked
import GoSem.Claim
import GoSem.ClaimJoined
import GoSem.ClaimMapViews
import Derived.JoinedTies
import Derived.KernelRfl
namespace Go.Proofs.Ytfflafpcpbeciaa
/- THE CELL 'sum', in the pinned program and in every row, IS THE sha256 OF THE DUMP (.gsa) THAT YtfflafpcpbeciaaProg.lean LOADS. Nothing in Lean hashes anything: it is a label: what it is worth is what the hold of that sum in a sandbox is worth. -/
noncomputable def Try.pinned : Pinned := { name := "ytfflafpcpbeciaa", sum := "de7bcb2cf5334e5df70cf6adbb4efee3b0bd0780cda42193958fbe65ba619064", checked := Try.checked }
namespace Rows
def none {H : Type} : Left H := { results := [], args := [] }

/-- 'eyrielaw08.NormalOrder': WHATEVER THE INPUT: true; the input reads as it did. -/
def normalOrderSpec : ChangeSpec := { name := "normalOrder", fn := fun _ => fun
  | [d1, d2, d3] => { results := [.lit (.bool true)], args := [d1, d2, d3] }
  | _ => none }
def normalOrderRow : OpenClaim := { program := "ytfflafpcpbeciaa", sum := "de7bcb2cf5334e5df70cf6adbb4efee3b0bd0780cda42193958fbe65ba619064", func := "eyrie/eyrielaw08.NormalOrder", spec := "normalOrder", unfollowed := true, recurses := true, loops := true, apart := false }
def NormalOrderSaid : Prop := normalOrderRow.holds Try.pinned (OpenSpec.ofChange normalOrderSpec)

/-- ITS FALSE NEIGHBOUR: 'it returns false'. Refute it at one input. -/
def normalOrderWrong : ChangeSpec := { name := "normalOrder", fn := fun _ => fun
  | [d1, d2, d3] => { results := [.lit (.bool false)], args := [d1, d2, d3] }
  | _ => none }
def NormalOrderWrongFalsely : Prop := normalOrderRow.holds Try.pinned (OpenSpec.ofChange normalOrderWrong)

/-- 'eyrielaw08.NormalTurns': WHATEVER THE INPUT: true; the input reads as it did. -/
def normalTurnsSpec : ChangeSpec := { name := "normalTurns", fn := fun _ => fun
  | [d1, d2] => { results := [.lit (.bool true)], args := [d1, d2] }
  | _ => none }
def normalTurnsRow : OpenClaim := { program := "ytfflafpcpbeciaa", sum := "de7bcb2cf5334e5df70cf6adbb4efee3b0bd0780cda42193958fbe65ba619064", func := "eyrie/eyrielaw08.NormalTurns", spec := "normalTurns", unfollowed := true, recurses := true, loops := true, apart := false }
def NormalTurnsSaid : Prop := normalTurnsRow.holds Try.pinned (OpenSpec.ofChange normalTurnsSpec)

/-- ITS FALSE NEIGHBOUR: 'it returns false'. Refute it at one input. -/
def normalTurnsWrong : ChangeSpec := { name := "normalTurns", fn := fun _ => fun
  | [d1, d2] => { results := [.lit (.bool false)], args := [d1, d2] }
  | _ => none }
def NormalTurnsWrongFalsely : Prop := normalTurnsRow.holds Try.pinned (OpenSpec.ofChange normalTurnsWrong)

/-- 'eyrielaw08.NormalOwn': WHATEVER THE INPUT: true; the input reads as it did. -/
def normalOwnSpec : ChangeSpec := { name := "normalOwn", fn := fun _ => fun
  | [d] => { results := [.lit (.bool true)], args := [d] }
  | _ => none }
def normalOwnRow : OpenClaim := { program := "ytfflafpcpbeciaa", sum := "de7bcb2cf5334e5df70cf6adbb4efee3b0bd0780cda42193958fbe65ba619064", func := "eyrie/eyrielaw08.NormalOwn", spec := "normalOwn", unfollowed := true, recurses := true, loops := true, apart := false }
def NormalOwnSaid : Prop := normalOwnRow.holds Try.pinned (OpenSpec.ofChange normalOwnSpec)

/-- ITS FALSE NEIGHBOUR: 'it returns false'. Refute it at one input. -/
def normalOwnWrong : ChangeSpec := { name := "normalOwn", fn := fun _ => fun
  | [d] => { results := [.lit (.bool false)], args := [d] }
  | _ => none }
def NormalOwnWrongFalsely : Prop := normalOwnRow.holds Try.pinned (OpenSpec.ofChange normalOwnWrong)

/-- 'eyrielaw08.NormalTrees': WHATEVER THE INPUT: true; the input reads as it did. -/
def normalTreesSpec : ChangeSpec := { name := "normalTrees", fn := fun _ => fun
  | [d] => { results := [.lit (.bool true)], args := [d] }
  | _ => none }
def normalTreesRow : OpenClaim := { program := "ytfflafpcpbeciaa", sum := "de7bcb2cf5334e5df70cf6adbb4efee3b0bd0780cda42193958fbe65ba619064", func := "eyrie/eyrielaw08.NormalTrees", spec := "normalTrees", unfollowed := true, recurses := true, loops := true, apart := false }
def NormalTreesSaid : Prop := normalTreesRow.holds Try.pinned (OpenSpec.ofChange normalTreesSpec)

/-- ITS FALSE NEIGHBOUR: 'it returns false'. Refute it at one input. -/
def normalTreesWrong : ChangeSpec := { name := "normalTrees", fn := fun _ => fun
  | [d] => { results := [.lit (.bool false)], args := [d] }
  | _ => none }
def NormalTreesWrongFalsely : Prop := normalTreesRow.holds Try.pinned (OpenSpec.ofChange normalTreesWrong)

/-- 'eyrielaw08.NormalParts': WHATEVER THE INPUT: true; the input reads as it did. -/
def normalPartsSpec : ChangeSpec := { name := "normalParts", fn := fun _ => fun
  | [d] => { results := [.lit (.bool true)], args := [d] }
  | _ => none }
def normalPartsRow : OpenClaim := { program := "ytfflafpcpbeciaa", sum := "de7bcb2cf5334e5df70cf6adbb4efee3b0bd0780cda42193958fbe65ba619064", func := "eyrie/eyrielaw08.NormalParts", spec := "normalParts", unfollowed := true, recurses := true, loops := true, apart := false }
def NormalPartsSaid : Prop := normalPartsRow.holds Try.pinned (OpenSpec.ofChange normalPartsSpec)

/-- ITS FALSE NEIGHBOUR: 'it returns false'. Refute it at one input. -/
def normalPartsWrong : ChangeSpec := { name := "normalParts", fn := fun _ => fun
  | [d] => { results := [.lit (.bool false)], args := [d] }
  | _ => none }
def NormalPartsWrongFalsely : Prop := normalPartsRow.holds Try.pinned (OpenSpec.ofChange normalPartsWrong)

/- THE SECOND FORM. 'bulk': how many values and letters a reading holds, each counted each time it is reached (what is shared counts as often as it is met; a slice's spare places count too). A statement '..UptoSaid' is the law's where the arguments, and the package variables that the reading takes, are together of bulk at most 1048576: NARROWER than '..Said'. Prove '..Said' where nothing that the law and all that it calls make is longer than what came in: it says more and counts as full. Else prove '..UptoSaid'. A law counts once. -/
mutual
def uptoBulk {H : Type} : DataW H → Nat
  | .lit (.string bytes) => bytes.length + 1
  | .lit _ => 1
  | .nil => 1
  | .ptr d => uptoBulk d + 1
  | .slice elems spare => uptoBulkAll elems + uptoBulkAll spare + 1
  | .agg parts => uptoBulkAll parts + 1
  | .iface _ d => uptoBulk d + 1
  | .map entries => uptoBulkEntries entries + 1
  | .held _ => 1
def uptoBulkAll {H : Type} : List (DataW H) → Nat
  | [] => 0
  | d :: r => uptoBulk d + uptoBulkAll r
def uptoBulkEntries {H : Type} : List (Lit × DataW H) → Nat
  | [] => 0
  | x :: r => uptoBulkEntry x + uptoBulkEntries r
def uptoBulkEntry {H : Type} : Lit × DataW H → Nat
  | (.string bytes, d) => bytes.length + uptoBulk d + 1
  | (_, d) => uptoBulk d + 1
 end
def uptoSmall : (H : Type) → List (DataW H) → Bool := fun _ ds => decide (uptoBulkAll ds ≤ 1048576)
def OpenSpec.upto (s : _root_.Go.ChangeSpec) : _root_.Go.OpenSpec := { _root_.Go.OpenSpec.ofChange s with cond := some uptoSmall }

/-- 'eyrielaw08.NormalOrder', WHERE WHAT IT READS IS OF BULK AT MOST 1048576: true; the input reads as it did. -/
def normalOrderUptoRow : OpenClaim := { program := "ytfflafpcpbeciaa", sum := "de7bcb2cf5334e5df70cf6adbb4efee3b0bd0780cda42193958fbe65ba619064", func := "eyrie/eyrielaw08.NormalOrder", spec := "normalOrder", unfollowed := true, recurses := true, loops := true, apart := false, narrowed := true }
def NormalOrderUptoSaid : Prop := normalOrderUptoRow.holds Try.pinned (OpenSpec.upto normalOrderSpec)

/-- 'eyrielaw08.NormalTurns', WHERE WHAT IT READS IS OF BULK AT MOST 1048576: true; the input reads as it did. -/
def normalTurnsUptoRow : OpenClaim := { program := "ytfflafpcpbeciaa", sum := "de7bcb2cf5334e5df70cf6adbb4efee3b0bd0780cda42193958fbe65ba619064", func := "eyrie/eyrielaw08.NormalTurns", spec := "normalTurns", unfollowed := true, recurses := true, loops := true, apart := false, narrowed := true }
def NormalTurnsUptoSaid : Prop := normalTurnsUptoRow.holds Try.pinned (OpenSpec.upto normalTurnsSpec)

/-- 'eyrielaw08.NormalOwn', WHERE WHAT IT READS IS OF BULK AT MOST 1048576: true; the input reads as it did. -/
def normalOwnUptoRow : OpenClaim := { program := "ytfflafpcpbeciaa", sum := "de7bcb2cf5334e5df70cf6adbb4efee3b0bd0780cda42193958fbe65ba619064", func := "eyrie/eyrielaw08.NormalOwn", spec := "normalOwn", unfollowed := true, recurses := true, loops := true, apart := false, narrowed := true }
def NormalOwnUptoSaid : Prop := normalOwnUptoRow.holds Try.pinned (OpenSpec.upto normalOwnSpec)

/-- 'eyrielaw08.NormalTrees', WHERE WHAT IT READS IS OF BULK AT MOST 1048576: true; the input reads as it did. -/
def normalTreesUptoRow : OpenClaim := { program := "ytfflafpcpbeciaa", sum := "de7bcb2cf5334e5df70cf6adbb4efee3b0bd0780cda42193958fbe65ba619064", func := "eyrie/eyrielaw08.NormalTrees", spec := "normalTrees", unfollowed := true, recurses := true, loops := true, apart := false, narrowed := true }
def NormalTreesUptoSaid : Prop := normalTreesUptoRow.holds Try.pinned (OpenSpec.upto normalTreesSpec)

/-- 'eyrielaw08.NormalParts', WHERE WHAT IT READS IS OF BULK AT MOST 1048576: true; the input reads as it did. -/
def normalPartsUptoRow : OpenClaim := { program := "ytfflafpcpbeciaa", sum := "de7bcb2cf5334e5df70cf6adbb4efee3b0bd0780cda42193958fbe65ba619064", func := "eyrie/eyrielaw08.NormalParts", spec := "normalParts", unfollowed := true, recurses := true, loops := true, apart := false, narrowed := true }
def NormalPartsUptoSaid : Prop := normalPartsUptoRow.holds Try.pinned (OpenSpec.upto normalPartsSpec)

end Rows
end Go.Proofs.Ytfflafpcpbeciaa
