/-
  No cell of these rows narrows 'for every input' (looked for: loops, veiled, ifaces, maps, wideKeys, modest, calm, conditions, laid).
  DERIVED. THE GIVEN ROWS OF THIS SEAT. 12 by the template 'for every input the law returns true; each argument reads behind the call as it read before'; 0 by the template 'total and deterministic' (their statements: YtmecaganodeblaaTotals.lean).
  GIVEN WITH THE SEED: the statements are not yours to turn. If you find one false, say at which input.
  Laid BY PROGRAM, IN A SANDBOX (cutbox-rows.mjs): the forced cells as the released guide's own fill.sh prints them over the translation a901324e2cffaf75… (all of the seat's roots in one cut). By AI agents, Wed Nov 11 2026. No macro, syntax, notation, axiom, sorry.
-/
import Derived.Test.YtmecaganodeblaaChecked
import GoSem.Claim
import GoSem.ClaimJoined
import GoSem.ClaimMapViews
import Derived.JoinedTies
import Derived.KernelRfl
namespace Go.Proofs.Ytmecaganodeblaa
/- THE CELL 'sum', in the pinned program and in every row, IS THE sha256 OF THE DUMP (.gsa) THAT YtmecaganodeblaaProg.lean LOADS. Nothing in Lean hashes anything: it is a label: what it is worth is what the hold of that sum in a sandbox is worth. -/
noncomputable def Try.pinned : Pinned := { name := "ytmecaganodeblaa", sum := "a901324e2cffaf75fa7bb3f80618c909bcb89a311ee45e3754fbe0bb1a73bd5c", checked := Try.checked }
namespace Rows
def none {H : Type} : Left H := { results := [], args := [] }

/-- 'laws.FnExactSensitivityOf': WHATEVER THE INPUT: true; the input reads as it did. -/
def fnExactSensitivityOfSpec : ChangeSpec := { name := "fnExactSensitivityOf", fn := fun _ => fun
  | [d] => { results := [.lit (.bool true)], args := [d] }
  | _ => none }
def fnExactSensitivityOfRow : OpenClaim := { program := "ytmecaganodeblaa", sum := "a901324e2cffaf75fa7bb3f80618c909bcb89a311ee45e3754fbe0bb1a73bd5c", func := "loop.example/switchnetworks/laws.FnExactSensitivityOf", spec := "fnExactSensitivityOf", unfollowed := true, recurses := true, apart := false }
def FnExactSensitivityOfSaid : Prop := fnExactSensitivityOfRow.holds Try.pinned (OpenSpec.ofChange fnExactSensitivityOfSpec)

/-- ITS FALSE NEIGHBOUR: 'it returns false'. Refute it at one input. -/
def fnExactSensitivityOfWrong : ChangeSpec := { name := "fnExactSensitivityOf", fn := fun _ => fun
  | [d] => { results := [.lit (.bool false)], args := [d] }
  | _ => none }
def FnExactSensitivityOfWrongFalsely : Prop := fnExactSensitivityOfRow.holds Try.pinned (OpenSpec.ofChange fnExactSensitivityOfWrong)

/-- 'laws.FnExactAndTables': WHATEVER THE INPUT: true; the input reads as it did. -/
def fnExactAndTablesSpec : ChangeSpec := { name := "fnExactAndTables", fn := fun _ => fun
  | [d1, d2] => { results := [.lit (.bool true)], args := [d1, d2] }
  | _ => none }
def fnExactAndTablesRow : OpenClaim := { program := "ytmecaganodeblaa", sum := "a901324e2cffaf75fa7bb3f80618c909bcb89a311ee45e3754fbe0bb1a73bd5c", func := "loop.example/switchnetworks/laws.FnExactAndTables", spec := "fnExactAndTables", unfollowed := true, recurses := true, apart := false }
def FnExactAndTablesSaid : Prop := fnExactAndTablesRow.holds Try.pinned (OpenSpec.ofChange fnExactAndTablesSpec)

/-- ITS FALSE NEIGHBOUR: 'it returns false'. Refute it at one input. -/
def fnExactAndTablesWrong : ChangeSpec := { name := "fnExactAndTables", fn := fun _ => fun
  | [d1, d2] => { results := [.lit (.bool false)], args := [d1, d2] }
  | _ => none }
def FnExactAndTablesWrongFalsely : Prop := fnExactAndTablesRow.holds Try.pinned (OpenSpec.ofChange fnExactAndTablesWrong)

/-- 'laws.FnExactOrTables': WHATEVER THE INPUT: true; the input reads as it did. -/
def fnExactOrTablesSpec : ChangeSpec := { name := "fnExactOrTables", fn := fun _ => fun
  | [d1, d2] => { results := [.lit (.bool true)], args := [d1, d2] }
  | _ => none }
def fnExactOrTablesRow : OpenClaim := { program := "ytmecaganodeblaa", sum := "a901324e2cffaf75fa7bb3f80618c909bcb89a311ee45e3754fbe0bb1a73bd5c", func := "loop.example/switchnetworks/laws.FnExactOrTables", spec := "fnExactOrTables", unfollowed := true, recurses := true, apart := false }
def FnExactOrTablesSaid : Prop := fnExactOrTablesRow.holds Try.pinned (OpenSpec.ofChange fnExactOrTablesSpec)

/-- ITS FALSE NEIGHBOUR: 'it returns false'. Refute it at one input. -/
def fnExactOrTablesWrong : ChangeSpec := { name := "fnExactOrTables", fn := fun _ => fun
  | [d1, d2] => { results := [.lit (.bool false)], args := [d1, d2] }
  | _ => none }
def FnExactOrTablesWrongFalsely : Prop := fnExactOrTablesRow.holds Try.pinned (OpenSpec.ofChange fnExactOrTablesWrong)

/-- 'laws.FnExactHoldInput': WHATEVER THE INPUT: true; the input reads as it did. -/
def fnExactHoldInputSpec : ChangeSpec := { name := "fnExactHoldInput", fn := fun _ => fun
  | [d1, d2, d3] => { results := [.lit (.bool true)], args := [d1, d2, d3] }
  | _ => none }
def fnExactHoldInputRow : OpenClaim := { program := "ytmecaganodeblaa", sum := "a901324e2cffaf75fa7bb3f80618c909bcb89a311ee45e3754fbe0bb1a73bd5c", func := "loop.example/switchnetworks/laws.FnExactHoldInput", spec := "fnExactHoldInput", unfollowed := true, recurses := true, apart := false }
def FnExactHoldInputSaid : Prop := fnExactHoldInputRow.holds Try.pinned (OpenSpec.ofChange fnExactHoldInputSpec)

/-- ITS FALSE NEIGHBOUR: 'it returns false'. Refute it at one input. -/
def fnExactHoldInputWrong : ChangeSpec := { name := "fnExactHoldInput", fn := fun _ => fun
  | [d1, d2, d3] => { results := [.lit (.bool false)], args := [d1, d2, d3] }
  | _ => none }
def FnExactHoldInputWrongFalsely : Prop := fnExactHoldInputRow.holds Try.pinned (OpenSpec.ofChange fnExactHoldInputWrong)

/-- 'laws.FnExactDecidesAlone': WHATEVER THE INPUT: true; the input reads as it did. -/
def fnExactDecidesAloneSpec : ChangeSpec := { name := "fnExactDecidesAlone", fn := fun _ => fun
  | [d1, d2, d3] => { results := [.lit (.bool true)], args := [d1, d2, d3] }
  | _ => none }
def fnExactDecidesAloneRow : OpenClaim := { program := "ytmecaganodeblaa", sum := "a901324e2cffaf75fa7bb3f80618c909bcb89a311ee45e3754fbe0bb1a73bd5c", func := "loop.example/switchnetworks/laws.FnExactDecidesAlone", spec := "fnExactDecidesAlone", unfollowed := true, recurses := true, apart := false }
def FnExactDecidesAloneSaid : Prop := fnExactDecidesAloneRow.holds Try.pinned (OpenSpec.ofChange fnExactDecidesAloneSpec)

/-- ITS FALSE NEIGHBOUR: 'it returns false'. Refute it at one input. -/
def fnExactDecidesAloneWrong : ChangeSpec := { name := "fnExactDecidesAlone", fn := fun _ => fun
  | [d1, d2, d3] => { results := [.lit (.bool false)], args := [d1, d2, d3] }
  | _ => none }
def FnExactDecidesAloneWrongFalsely : Prop := fnExactDecidesAloneRow.holds Try.pinned (OpenSpec.ofChange fnExactDecidesAloneWrong)

/-- 'laws.FnExactSignOf': WHATEVER THE INPUT: true; the input reads as it did. -/
def fnExactSignOfSpec : ChangeSpec := { name := "fnExactSignOf", fn := fun _ => fun
  | [d1, d2] => { results := [.lit (.bool true)], args := [d1, d2] }
  | _ => none }
def fnExactSignOfRow : OpenClaim := { program := "ytmecaganodeblaa", sum := "a901324e2cffaf75fa7bb3f80618c909bcb89a311ee45e3754fbe0bb1a73bd5c", func := "loop.example/switchnetworks/laws.FnExactSignOf", spec := "fnExactSignOf", unfollowed := true, recurses := true, apart := false }
def FnExactSignOfSaid : Prop := fnExactSignOfRow.holds Try.pinned (OpenSpec.ofChange fnExactSignOfSpec)

/-- ITS FALSE NEIGHBOUR: 'it returns false'. Refute it at one input. -/
def fnExactSignOfWrong : ChangeSpec := { name := "fnExactSignOf", fn := fun _ => fun
  | [d1, d2] => { results := [.lit (.bool false)], args := [d1, d2] }
  | _ => none }
def FnExactSignOfWrongFalsely : Prop := fnExactSignOfRow.holds Try.pinned (OpenSpec.ofChange fnExactSignOfWrong)

/-- 'laws.FnExactMattersIn': WHATEVER THE INPUT: true; the input reads as it did. -/
def fnExactMattersInSpec : ChangeSpec := { name := "fnExactMattersIn", fn := fun _ => fun
  | [d] => { results := [.lit (.bool true)], args := [d] }
  | _ => none }
def fnExactMattersInRow : OpenClaim := { program := "ytmecaganodeblaa", sum := "a901324e2cffaf75fa7bb3f80618c909bcb89a311ee45e3754fbe0bb1a73bd5c", func := "loop.example/switchnetworks/laws.FnExactMattersIn", spec := "fnExactMattersIn", unfollowed := true, recurses := true, apart := false }
def FnExactMattersInSaid : Prop := fnExactMattersInRow.holds Try.pinned (OpenSpec.ofChange fnExactMattersInSpec)

/-- ITS FALSE NEIGHBOUR: 'it returns false'. Refute it at one input. -/
def fnExactMattersInWrong : ChangeSpec := { name := "fnExactMattersIn", fn := fun _ => fun
  | [d] => { results := [.lit (.bool false)], args := [d] }
  | _ => none }
def FnExactMattersInWrongFalsely : Prop := fnExactMattersInRow.holds Try.pinned (OpenSpec.ofChange fnExactMattersInWrong)

/-- 'laws.FnExactIsImplicant': WHATEVER THE INPUT: true; the input reads as it did. -/
def fnExactIsImplicantSpec : ChangeSpec := { name := "fnExactIsImplicant", fn := fun _ => fun
  | [d1, d2] => { results := [.lit (.bool true)], args := [d1, d2] }
  | _ => none }
def fnExactIsImplicantRow : OpenClaim := { program := "ytmecaganodeblaa", sum := "a901324e2cffaf75fa7bb3f80618c909bcb89a311ee45e3754fbe0bb1a73bd5c", func := "loop.example/switchnetworks/laws.FnExactIsImplicant", spec := "fnExactIsImplicant", unfollowed := true, recurses := true, apart := false }
def FnExactIsImplicantSaid : Prop := fnExactIsImplicantRow.holds Try.pinned (OpenSpec.ofChange fnExactIsImplicantSpec)

/-- ITS FALSE NEIGHBOUR: 'it returns false'. Refute it at one input. -/
def fnExactIsImplicantWrong : ChangeSpec := { name := "fnExactIsImplicant", fn := fun _ => fun
  | [d1, d2] => { results := [.lit (.bool false)], args := [d1, d2] }
  | _ => none }
def FnExactIsImplicantWrongFalsely : Prop := fnExactIsImplicantRow.holds Try.pinned (OpenSpec.ofChange fnExactIsImplicantWrong)

/-- 'laws.FnExactTermTable': WHATEVER THE INPUT: true; the input reads as it did. -/
def fnExactTermTableSpec : ChangeSpec := { name := "fnExactTermTable", fn := fun _ => fun
  | [d] => { results := [.lit (.bool true)], args := [d] }
  | _ => none }
def fnExactTermTableRow : OpenClaim := { program := "ytmecaganodeblaa", sum := "a901324e2cffaf75fa7bb3f80618c909bcb89a311ee45e3754fbe0bb1a73bd5c", func := "loop.example/switchnetworks/laws.FnExactTermTable", spec := "fnExactTermTable", unfollowed := true, recurses := true, apart := false }
def FnExactTermTableSaid : Prop := fnExactTermTableRow.holds Try.pinned (OpenSpec.ofChange fnExactTermTableSpec)

/-- ITS FALSE NEIGHBOUR: 'it returns false'. Refute it at one input. -/
def fnExactTermTableWrong : ChangeSpec := { name := "fnExactTermTable", fn := fun _ => fun
  | [d] => { results := [.lit (.bool false)], args := [d] }
  | _ => none }
def FnExactTermTableWrongFalsely : Prop := fnExactTermTableRow.holds Try.pinned (OpenSpec.ofChange fnExactTermTableWrong)

/-- 'laws.FnExactTableOfTerms': WHATEVER THE INPUT: true; the input reads as it did. -/
def fnExactTableOfTermsSpec : ChangeSpec := { name := "fnExactTableOfTerms", fn := fun _ => fun
  | [d1, d2] => { results := [.lit (.bool true)], args := [d1, d2] }
  | _ => none }
def fnExactTableOfTermsRow : OpenClaim := { program := "ytmecaganodeblaa", sum := "a901324e2cffaf75fa7bb3f80618c909bcb89a311ee45e3754fbe0bb1a73bd5c", func := "loop.example/switchnetworks/laws.FnExactTableOfTerms", spec := "fnExactTableOfTerms", unfollowed := true, recurses := true, apart := false }
def FnExactTableOfTermsSaid : Prop := fnExactTableOfTermsRow.holds Try.pinned (OpenSpec.ofChange fnExactTableOfTermsSpec)

/-- ITS FALSE NEIGHBOUR: 'it returns false'. Refute it at one input. -/
def fnExactTableOfTermsWrong : ChangeSpec := { name := "fnExactTableOfTerms", fn := fun _ => fun
  | [d1, d2] => { results := [.lit (.bool false)], args := [d1, d2] }
  | _ => none }
def FnExactTableOfTermsWrongFalsely : Prop := fnExactTableOfTermsRow.holds Try.pinned (OpenSpec.ofChange fnExactTableOfTermsWrong)

/-- 'laws.FnExactPrimesOf': WHATEVER THE INPUT: true; the input reads as it did. -/
def fnExactPrimesOfSpec : ChangeSpec := { name := "fnExactPrimesOf", fn := fun _ => fun
  | [d] => { results := [.lit (.bool true)], args := [d] }
  | _ => none }
def fnExactPrimesOfRow : OpenClaim := { program := "ytmecaganodeblaa", sum := "a901324e2cffaf75fa7bb3f80618c909bcb89a311ee45e3754fbe0bb1a73bd5c", func := "loop.example/switchnetworks/laws.FnExactPrimesOf", spec := "fnExactPrimesOf", unfollowed := true, recurses := true, apart := false }
def FnExactPrimesOfSaid : Prop := fnExactPrimesOfRow.holds Try.pinned (OpenSpec.ofChange fnExactPrimesOfSpec)

/-- ITS FALSE NEIGHBOUR: 'it returns false'. Refute it at one input. -/
def fnExactPrimesOfWrong : ChangeSpec := { name := "fnExactPrimesOf", fn := fun _ => fun
  | [d] => { results := [.lit (.bool false)], args := [d] }
  | _ => none }
def FnExactPrimesOfWrongFalsely : Prop := fnExactPrimesOfRow.holds Try.pinned (OpenSpec.ofChange fnExactPrimesOfWrong)

/-- 'laws.FnExactNeededPrimes': WHATEVER THE INPUT: true; the input reads as it did. -/
def fnExactNeededPrimesSpec : ChangeSpec := { name := "fnExactNeededPrimes", fn := fun _ => fun
  | [d] => { results := [.lit (.bool true)], args := [d] }
  | _ => none }
def fnExactNeededPrimesRow : OpenClaim := { program := "ytmecaganodeblaa", sum := "a901324e2cffaf75fa7bb3f80618c909bcb89a311ee45e3754fbe0bb1a73bd5c", func := "loop.example/switchnetworks/laws.FnExactNeededPrimes", spec := "fnExactNeededPrimes", unfollowed := true, recurses := true, apart := false }
def FnExactNeededPrimesSaid : Prop := fnExactNeededPrimesRow.holds Try.pinned (OpenSpec.ofChange fnExactNeededPrimesSpec)

/-- ITS FALSE NEIGHBOUR: 'it returns false'. Refute it at one input. -/
def fnExactNeededPrimesWrong : ChangeSpec := { name := "fnExactNeededPrimes", fn := fun _ => fun
  | [d] => { results := [.lit (.bool false)], args := [d] }
  | _ => none }
def FnExactNeededPrimesWrongFalsely : Prop := fnExactNeededPrimesRow.holds Try.pinned (OpenSpec.ofChange fnExactNeededPrimesWrong)

/- THE SECOND FORM. 'bulk': how many values and letters a reading holds, each counted each time it is reached (what is shared counts as often as it is met; a slice's spare places count too). A statement '..UptoSaid' is the law's where the arguments, and the package variables that the reading takes, are together of bulk at most 1048576: NARROWER than '..Said'. Prove '..Said' where nothing that the law and all that it calls make is longer than what came in: it says more and counts as full. Else prove '..UptoSaid'. A law counts once. -/
mutual
def uptoBulk {H : Type} : DataW H → Nat
  | .lit (.string bytes) => bytes.length + 1
  | .lit _ => 1
  | .nil => 1
  | .ptr d => uptoBulk d + 1
  | .slice elems spare => uptoBulkAll elems + uptoBulkAll spare + 1
  | .agg parts => uptoBulkAll parts + 1
  | .iface _ d => uptoBulk d + 1
  | .map entries => uptoBulkEntries entries + 1
  | .held _ => 1
def uptoBulkAll {H : Type} : List (DataW H) → Nat
  | [] => 0
  | d :: r => uptoBulk d + uptoBulkAll r
def uptoBulkEntries {H : Type} : List (Lit × DataW H) → Nat
  | [] => 0
  | x :: r => uptoBulkEntry x + uptoBulkEntries r
def uptoBulkEntry {H : Type} : Lit × DataW H → Nat
  | (.string bytes, d) => bytes.length + uptoBulk d + 1
  | (_, d) => uptoBulk d + 1
 end
def uptoSmall : (H : Type) → List (DataW H) → Bool := fun _ ds => decide (uptoBulkAll ds ≤ 1048576)
def OpenSpec.upto (s : _root_.Go.ChangeSpec) : _root_.Go.OpenSpec := { _root_.Go.OpenSpec.ofChange s with cond := some uptoSmall }

/-- 'laws.FnExactSensitivityOf', WHERE WHAT IT READS IS OF BULK AT MOST 1048576: true; the input reads as it did. -/
def fnExactSensitivityOfUptoRow : OpenClaim := { program := "ytmecaganodeblaa", sum := "a901324e2cffaf75fa7bb3f80618c909bcb89a311ee45e3754fbe0bb1a73bd5c", func := "loop.example/switchnetworks/laws.FnExactSensitivityOf", spec := "fnExactSensitivityOf", unfollowed := true, recurses := true, apart := false, narrowed := true }
def FnExactSensitivityOfUptoSaid : Prop := fnExactSensitivityOfUptoRow.holds Try.pinned (OpenSpec.upto fnExactSensitivityOfSpec)

/-- 'laws.FnExactAndTables', WHERE WHAT IT READS IS OF BULK AT MOST 1048576: true; the input reads as it did. -/
def fnExactAndTablesUptoRow : OpenClaim := { program := "ytmecaganodeblaa", sum := "a901324e2cffaf75fa7bb3f80618c909bcb89a311ee45e3754fbe0bb1a73bd5c", func := "loop.example/switchnetworks/laws.FnExactAndTables", spec := "fnExactAndTables", unfollowed := true, recurses := true, apart := false, narrowed := true }
def FnExactAndTablesUptoSaid : Prop := fnExactAndTablesUptoRow.holds Try.pinned (OpenSpec.upto fnExactAndTablesSpec)

/-- 'laws.FnExactOrTables', WHERE WHAT IT READS IS OF BULK AT MOST 1048576: true; the input reads as it did. -/
def fnExactOrTablesUptoRow : OpenClaim := { program := "ytmecaganodeblaa", sum := "a901324e2cffaf75fa7bb3f80618c909bcb89a311ee45e3754fbe0bb1a73bd5c", func := "loop.example/switchnetworks/laws.FnExactOrTables", spec := "fnExactOrTables", unfollowed := true, recurses := true, apart := false, narrowed := true }
def FnExactOrTablesUptoSaid : Prop := fnExactOrTablesUptoRow.holds Try.pinned (OpenSpec.upto fnExactOrTablesSpec)

/-- 'laws.FnExactHoldInput', WHERE WHAT IT READS IS OF BULK AT MOST 1048576: true; the input reads as it did. -/
def fnExactHoldInputUptoRow : OpenClaim := { program := "ytmecaganodeblaa", sum := "a901324e2cffaf75fa7bb3f80618c909bcb89a311ee45e3754fbe0bb1a73bd5c", func := "loop.example/switchnetworks/laws.FnExactHoldInput", spec := "fnExactHoldInput", unfollowed := true, recurses := true, apart := false, narrowed := true }
def FnExactHoldInputUptoSaid : Prop := fnExactHoldInputUptoRow.holds Try.pinned (OpenSpec.upto fnExactHoldInputSpec)

/-- 'laws.FnExactDecidesAlone', WHERE WHAT IT READS IS OF BULK AT MOST 1048576: true; the input reads as it did. -/
def fnExactDecidesAloneUptoRow : OpenClaim := { program := "ytmecaganodeblaa", sum := "a901324e2cffaf75fa7bb3f80618c909bcb89a311ee45e3754fbe0bb1a73bd5c", func := "loop.example/switchnetworks/laws.FnExactDecidesAlone", spec := "fnExactDecidesAlone", unfollowed := true, recurses := true, apart := false, narrowed := true }
def FnExactDecidesAloneUptoSaid : Prop := fnExactDecidesAloneUptoRow.holds Try.pinned (OpenSpec.upto fnExactDecidesAloneSpec)

/-- 'laws.FnExactSignOf', WHERE WHAT IT READS IS OF BULK AT MOST 1048576: true; the input reads as it did. -/
def fnExactSignOfUptoRow : OpenClaim := { program := "ytmecaganodeblaa", sum := "a901324e2cffaf75fa7bb3f80618c909bcb89a311ee45e3754fbe0bb1a73bd5c", func := "loop.example/switchnetworks/laws.FnExactSignOf", spec := "fnExactSignOf", unfollowed := true, recurses := true, apart := false, narrowed := true }
def FnExactSignOfUptoSaid : Prop := fnExactSignOfUptoRow.holds Try.pinned (OpenSpec.upto fnExactSignOfSpec)

/-- 'laws.FnExactMattersIn', WHERE WHAT IT READS IS OF BULK AT MOST 1048576: true; the input reads as it did. -/
def fnExactMattersInUptoRow : OpenClaim := { program := "ytmecaganodeblaa", sum := "a901324e2cffaf75fa7bb3f80618c909bcb89a311ee45e3754fbe0bb1a73bd5c", func := "loop.example/switchnetworks/laws.FnExactMattersIn", spec := "fnExactMattersIn", unfollowed := true, recurses := true, apart := false, narrowed := true }
def FnExactMattersInUptoSaid : Prop := fnExactMattersInUptoRow.holds Try.pinned (OpenSpec.upto fnExactMattersInSpec)

/-- 'laws.FnExactIsImplicant', WHERE WHAT IT READS IS OF BULK AT MOST 1048576: true; the input reads as it did. -/
def fnExactIsImplicantUptoRow : OpenClaim := { program := "ytmecaganodeblaa", sum := "a901324e2cffaf75fa7bb3f80618c909bcb89a311ee45e3754fbe0bb1a73bd5c", func := "loop.example/switchnetworks/laws.FnExactIsImplicant", spec := "fnExactIsImplicant", unfollowed := true, recurses := true, apart := false, narrowed := true }
def FnExactIsImplicantUptoSaid : Prop := fnExactIsImplicantUptoRow.holds Try.pinned (OpenSpec.upto fnExactIsImplicantSpec)

/-- 'laws.FnExactTermTable', WHERE WHAT IT READS IS OF BULK AT MOST 1048576: true; the input reads as it did. -/
def fnExactTermTableUptoRow : OpenClaim := { program := "ytmecaganodeblaa", sum := "a901324e2cffaf75fa7bb3f80618c909bcb89a311ee45e3754fbe0bb1a73bd5c", func := "loop.example/switchnetworks/laws.FnExactTermTable", spec := "fnExactTermTable", unfollowed := true, recurses := true, apart := false, narrowed := true }
def FnExactTermTableUptoSaid : Prop := fnExactTermTableUptoRow.holds Try.pinned (OpenSpec.upto fnExactTermTableSpec)

/-- 'laws.FnExactTableOfTerms', WHERE WHAT IT READS IS OF BULK AT MOST 1048576: true; the input reads as it did. -/
def fnExactTableOfTermsUptoRow : OpenClaim := { program := "ytmecaganodeblaa", sum := "a901324e2cffaf75fa7bb3f80618c909bcb89a311ee45e3754fbe0bb1a73bd5c", func := "loop.example/switchnetworks/laws.FnExactTableOfTerms", spec := "fnExactTableOfTerms", unfollowed := true, recurses := true, apart := false, narrowed := true }
def FnExactTableOfTermsUptoSaid : Prop := fnExactTableOfTermsUptoRow.holds Try.pinned (OpenSpec.upto fnExactTableOfTermsSpec)

/-- 'laws.FnExactPrimesOf', WHERE WHAT IT READS IS OF BULK AT MOST 1048576: true; the input reads as it did. -/
def fnExactPrimesOfUptoRow : OpenClaim := { program := "ytmecaganodeblaa", sum := "a901324e2cffaf75fa7bb3f80618c909bcb89a311ee45e3754fbe0bb1a73bd5c", func := "loop.example/switchnetworks/laws.FnExactPrimesOf", spec := "fnExactPrimesOf", unfollowed := true, recurses := true, apart := false, narrowed := true }
def FnExactPrimesOfUptoSaid : Prop := fnExactPrimesOfUptoRow.holds Try.pinned (OpenSpec.upto fnExactPrimesOfSpec)

/-- 'laws.FnExactNeededPrimes', WHERE WHAT IT READS IS OF BULK AT MOST 1048576: true; the input reads as it did. -/
def fnExactNeededPrimesUptoRow : OpenClaim := { program := "ytmecaganodeblaa", sum := "a901324e2cffaf75fa7bb3f80618c909bcb89a311ee45e3754fbe0bb1a73bd5c", func := "loop.example/switchnetworks/laws.FnExactNeededPrimes", spec := "fnExactNeededPrimes", unfollowed := true, recurses := true, apart := false, narrowed := true }
def FnExactNeededPrimesUptoSaid : Prop := fnExactNeededPrimesUptoRow.holds Try.pinned (OpenSpec.upto fnExactNeededPrimesSpec)

end Rows
end Go.Proofs.Ytmecaganodeblaa
