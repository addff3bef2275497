/-
  No cell of these rows narrows 'for every input' (looked for: loops, veiled, ifaces, maps, wideKeys, modest, calm, conditions, laid).
  DERIVED. THE GIVEN ROWS OF THIS SEAT. 12 by the template 'for every input the law returns true; each argument reads behind the call as it read before'; 0 by the template 'total and deterministic' (their statements: YtamafefcfbloiaaTotals.lean).
  GIVEN WITH THE SEED: the statements are not yours to turn. If you find one false, say at which input.
  Laid BY PROGRAM, IN A SANDBOX (cutbox-rows.mjs): the forced cells as the released guide's own fill.sh prints them over the translation a3c9f133c319b12b… (all of the seat's roots in one cut). By AI agents, Wed Nov 11 2026. No macro, syntax, notation, axiom, sorry.
-/
import Derived.Test.YtamafefcfbloiaaChecked
import GoSem.Claim
import GoSem.ClaimJoined
import GoSem.ClaimMapViews
import Derived.JoinedTies
import Derived.KernelRfl
namespace Go.Proofs.Ytamafefcfbloiaa
/- THE CELL 'sum', in the pinned program and in every row, IS THE sha256 OF THE DUMP (.gsa) THAT YtamafefcfbloiaaProg.lean LOADS. Nothing in Lean hashes anything: it is a label: what it is worth is what the hold of that sum in a sandbox is worth. -/
noncomputable def Try.pinned : Pinned := { name := "ytamafefcfbloiaa", sum := "a3c9f133c319b12b4b5360568e6e1e15e250e0fdedbd2bc31ffd835f49daf508", checked := Try.checked }
namespace Rows
def none {H : Type} : Left H := { results := [], args := [] }

/-- 'laws.FnExactConstants': WHATEVER THE INPUT: true; the input reads as it did. -/
def fnExactConstantsSpec : ChangeSpec := { name := "fnExactConstants", fn := fun _ => fun
  | [] => { results := [.lit (.bool true)], args := [] }
  | _ => none }
def fnExactConstantsRow : OpenClaim := { program := "ytamafefcfbloiaa", sum := "a3c9f133c319b12b4b5360568e6e1e15e250e0fdedbd2bc31ffd835f49daf508", func := "loop.example/switchnetworks/laws.FnExactConstants", spec := "fnExactConstants", apart := false }
def FnExactConstantsSaid : Prop := fnExactConstantsRow.holds Try.pinned (OpenSpec.ofChange fnExactConstantsSpec)

/-- ITS FALSE NEIGHBOUR: 'it returns false'. Refute it at one input. -/
def fnExactConstantsWrong : ChangeSpec := { name := "fnExactConstants", fn := fun _ => fun
  | [] => { results := [.lit (.bool false)], args := [] }
  | _ => none }
def FnExactConstantsWrongFalsely : Prop := fnExactConstantsRow.holds Try.pinned (OpenSpec.ofChange fnExactConstantsWrong)

/-- 'laws.FnExactTermValid': WHATEVER THE INPUT: true; the input reads as it did. -/
def fnExactTermValidSpec : ChangeSpec := { name := "fnExactTermValid", fn := fun _ => fun
  | [d1, d2] => { results := [.lit (.bool true)], args := [d1, d2] }
  | _ => none }
def fnExactTermValidRow : OpenClaim := { program := "ytamafefcfbloiaa", sum := "a3c9f133c319b12b4b5360568e6e1e15e250e0fdedbd2bc31ffd835f49daf508", func := "loop.example/switchnetworks/laws.FnExactTermValid", spec := "fnExactTermValid", apart := false }
def FnExactTermValidSaid : Prop := fnExactTermValidRow.holds Try.pinned (OpenSpec.ofChange fnExactTermValidSpec)

/-- ITS FALSE NEIGHBOUR: 'it returns false'. Refute it at one input. -/
def fnExactTermValidWrong : ChangeSpec := { name := "fnExactTermValid", fn := fun _ => fun
  | [d1, d2] => { results := [.lit (.bool false)], args := [d1, d2] }
  | _ => none }
def FnExactTermValidWrongFalsely : Prop := fnExactTermValidRow.holds Try.pinned (OpenSpec.ofChange fnExactTermValidWrong)

/-- 'laws.FnExactParseState': WHATEVER THE INPUT: true; the input reads as it did. -/
def fnExactParseStateSpec : ChangeSpec := { name := "fnExactParseState", fn := fun _ => fun
  | [d] => { results := [.lit (.bool true)], args := [d] }
  | _ => none }
def fnExactParseStateRow : OpenClaim := { program := "ytamafefcfbloiaa", sum := "a3c9f133c319b12b4b5360568e6e1e15e250e0fdedbd2bc31ffd835f49daf508", func := "loop.example/switchnetworks/laws.FnExactParseState", spec := "fnExactParseState", apart := false }
def FnExactParseStateSaid : Prop := fnExactParseStateRow.holds Try.pinned (OpenSpec.ofChange fnExactParseStateSpec)

/-- ITS FALSE NEIGHBOUR: 'it returns false'. Refute it at one input. -/
def fnExactParseStateWrong : ChangeSpec := { name := "fnExactParseState", fn := fun _ => fun
  | [d] => { results := [.lit (.bool false)], args := [d] }
  | _ => none }
def FnExactParseStateWrongFalsely : Prop := fnExactParseStateRow.holds Try.pinned (OpenSpec.ofChange fnExactParseStateWrong)

/-- 'laws.FnExactConstantTable': WHATEVER THE INPUT: true; the input reads as it did. -/
def fnExactConstantTableSpec : ChangeSpec := { name := "fnExactConstantTable", fn := fun _ => fun
  | [d1, d2] => { results := [.lit (.bool true)], args := [d1, d2] }
  | _ => none }
def fnExactConstantTableRow : OpenClaim := { program := "ytamafefcfbloiaa", sum := "a3c9f133c319b12b4b5360568e6e1e15e250e0fdedbd2bc31ffd835f49daf508", func := "loop.example/switchnetworks/laws.FnExactConstantTable", spec := "fnExactConstantTable", unfollowed := true, recurses := true, apart := false }
def FnExactConstantTableSaid : Prop := fnExactConstantTableRow.holds Try.pinned (OpenSpec.ofChange fnExactConstantTableSpec)

/-- ITS FALSE NEIGHBOUR: 'it returns false'. Refute it at one input. -/
def fnExactConstantTableWrong : ChangeSpec := { name := "fnExactConstantTable", fn := fun _ => fun
  | [d1, d2] => { results := [.lit (.bool false)], args := [d1, d2] }
  | _ => none }
def FnExactConstantTableWrongFalsely : Prop := fnExactConstantTableRow.holds Try.pinned (OpenSpec.ofChange fnExactConstantTableWrong)

/-- 'laws.FnExactInputTable': WHATEVER THE INPUT: true; the input reads as it did. -/
def fnExactInputTableSpec : ChangeSpec := { name := "fnExactInputTable", fn := fun _ => fun
  | [d1, d2] => { results := [.lit (.bool true)], args := [d1, d2] }
  | _ => none }
def fnExactInputTableRow : OpenClaim := { program := "ytamafefcfbloiaa", sum := "a3c9f133c319b12b4b5360568e6e1e15e250e0fdedbd2bc31ffd835f49daf508", func := "loop.example/switchnetworks/laws.FnExactInputTable", spec := "fnExactInputTable", unfollowed := true, recurses := true, apart := false }
def FnExactInputTableSaid : Prop := fnExactInputTableRow.holds Try.pinned (OpenSpec.ofChange fnExactInputTableSpec)

/-- ITS FALSE NEIGHBOUR: 'it returns false'. Refute it at one input. -/
def fnExactInputTableWrong : ChangeSpec := { name := "fnExactInputTable", fn := fun _ => fun
  | [d1, d2] => { results := [.lit (.bool false)], args := [d1, d2] }
  | _ => none }
def FnExactInputTableWrongFalsely : Prop := fnExactInputTableRow.holds Try.pinned (OpenSpec.ofChange fnExactInputTableWrong)

/-- 'laws.FnExactTableValid': WHATEVER THE INPUT: true; the input reads as it did. -/
def fnExactTableValidSpec : ChangeSpec := { name := "fnExactTableValid", fn := fun _ => fun
  | [d] => { results := [.lit (.bool true)], args := [d] }
  | _ => none }
def fnExactTableValidRow : OpenClaim := { program := "ytamafefcfbloiaa", sum := "a3c9f133c319b12b4b5360568e6e1e15e250e0fdedbd2bc31ffd835f49daf508", func := "loop.example/switchnetworks/laws.FnExactTableValid", spec := "fnExactTableValid", unfollowed := true, recurses := true, apart := false }
def FnExactTableValidSaid : Prop := fnExactTableValidRow.holds Try.pinned (OpenSpec.ofChange fnExactTableValidSpec)

/-- ITS FALSE NEIGHBOUR: 'it returns false'. Refute it at one input. -/
def fnExactTableValidWrong : ChangeSpec := { name := "fnExactTableValid", fn := fun _ => fun
  | [d] => { results := [.lit (.bool false)], args := [d] }
  | _ => none }
def FnExactTableValidWrongFalsely : Prop := fnExactTableValidRow.holds Try.pinned (OpenSpec.ofChange fnExactTableValidWrong)

/-- 'laws.FnExactFormatState': WHATEVER THE INPUT: true; the input reads as it did. -/
def fnExactFormatStateSpec : ChangeSpec := { name := "fnExactFormatState", fn := fun _ => fun
  | [d1, d2] => { results := [.lit (.bool true)], args := [d1, d2] }
  | _ => none }
def fnExactFormatStateRow : OpenClaim := { program := "ytamafefcfbloiaa", sum := "a3c9f133c319b12b4b5360568e6e1e15e250e0fdedbd2bc31ffd835f49daf508", func := "loop.example/switchnetworks/laws.FnExactFormatState", spec := "fnExactFormatState", recurses := true, apart := false }
def FnExactFormatStateSaid : Prop := fnExactFormatStateRow.holds Try.pinned (OpenSpec.ofChange fnExactFormatStateSpec)

/-- ITS FALSE NEIGHBOUR: 'it returns false'. Refute it at one input. -/
def fnExactFormatStateWrong : ChangeSpec := { name := "fnExactFormatState", fn := fun _ => fun
  | [d1, d2] => { results := [.lit (.bool false)], args := [d1, d2] }
  | _ => none }
def FnExactFormatStateWrongFalsely : Prop := fnExactFormatStateRow.holds Try.pinned (OpenSpec.ofChange fnExactFormatStateWrong)

/-- 'laws.FnExactIsInside': WHATEVER THE INPUT: true; the input reads as it did. -/
def fnExactIsInsideSpec : ChangeSpec := { name := "fnExactIsInside", fn := fun _ => fun
  | [d1, d2] => { results := [.lit (.bool true)], args := [d1, d2] }
  | _ => none }
def fnExactIsInsideRow : OpenClaim := { program := "ytamafefcfbloiaa", sum := "a3c9f133c319b12b4b5360568e6e1e15e250e0fdedbd2bc31ffd835f49daf508", func := "loop.example/switchnetworks/laws.FnExactIsInside", spec := "fnExactIsInside", apart := false }
def FnExactIsInsideSaid : Prop := fnExactIsInsideRow.holds Try.pinned (OpenSpec.ofChange fnExactIsInsideSpec)

/-- ITS FALSE NEIGHBOUR: 'it returns false'. Refute it at one input. -/
def fnExactIsInsideWrong : ChangeSpec := { name := "fnExactIsInside", fn := fun _ => fun
  | [d1, d2] => { results := [.lit (.bool false)], args := [d1, d2] }
  | _ => none }
def FnExactIsInsideWrongFalsely : Prop := fnExactIsInsideRow.holds Try.pinned (OpenSpec.ofChange fnExactIsInsideWrong)

/-- 'laws.FnExactInputsOf': WHATEVER THE INPUT: true; the input reads as it did. -/
def fnExactInputsOfSpec : ChangeSpec := { name := "fnExactInputsOf", fn := fun _ => fun
  | [d] => { results := [.lit (.bool true)], args := [d] }
  | _ => none }
def fnExactInputsOfRow : OpenClaim := { program := "ytamafefcfbloiaa", sum := "a3c9f133c319b12b4b5360568e6e1e15e250e0fdedbd2bc31ffd835f49daf508", func := "loop.example/switchnetworks/laws.FnExactInputsOf", spec := "fnExactInputsOf", unfollowed := true, recurses := true, apart := false }
def FnExactInputsOfSaid : Prop := fnExactInputsOfRow.holds Try.pinned (OpenSpec.ofChange fnExactInputsOfSpec)

/-- ITS FALSE NEIGHBOUR: 'it returns false'. Refute it at one input. -/
def fnExactInputsOfWrong : ChangeSpec := { name := "fnExactInputsOf", fn := fun _ => fun
  | [d] => { results := [.lit (.bool false)], args := [d] }
  | _ => none }
def FnExactInputsOfWrongFalsely : Prop := fnExactInputsOfRow.holds Try.pinned (OpenSpec.ofChange fnExactInputsOfWrong)

/-- 'laws.FnExactValueAt': WHATEVER THE INPUT: true; the input reads as it did. -/
def fnExactValueAtSpec : ChangeSpec := { name := "fnExactValueAt", fn := fun _ => fun
  | [d1, d2] => { results := [.lit (.bool true)], args := [d1, d2] }
  | _ => none }
def fnExactValueAtRow : OpenClaim := { program := "ytamafefcfbloiaa", sum := "a3c9f133c319b12b4b5360568e6e1e15e250e0fdedbd2bc31ffd835f49daf508", func := "loop.example/switchnetworks/laws.FnExactValueAt", spec := "fnExactValueAt", unfollowed := true, recurses := true, apart := false }
def FnExactValueAtSaid : Prop := fnExactValueAtRow.holds Try.pinned (OpenSpec.ofChange fnExactValueAtSpec)

/-- ITS FALSE NEIGHBOUR: 'it returns false'. Refute it at one input. -/
def fnExactValueAtWrong : ChangeSpec := { name := "fnExactValueAt", fn := fun _ => fun
  | [d1, d2] => { results := [.lit (.bool false)], args := [d1, d2] }
  | _ => none }
def FnExactValueAtWrongFalsely : Prop := fnExactValueAtRow.holds Try.pinned (OpenSpec.ofChange fnExactValueAtWrong)

/-- 'laws.FnExactNotTable': WHATEVER THE INPUT: true; the input reads as it did. -/
def fnExactNotTableSpec : ChangeSpec := { name := "fnExactNotTable", fn := fun _ => fun
  | [d] => { results := [.lit (.bool true)], args := [d] }
  | _ => none }
def fnExactNotTableRow : OpenClaim := { program := "ytamafefcfbloiaa", sum := "a3c9f133c319b12b4b5360568e6e1e15e250e0fdedbd2bc31ffd835f49daf508", func := "loop.example/switchnetworks/laws.FnExactNotTable", spec := "fnExactNotTable", unfollowed := true, recurses := true, apart := false }
def FnExactNotTableSaid : Prop := fnExactNotTableRow.holds Try.pinned (OpenSpec.ofChange fnExactNotTableSpec)

/-- ITS FALSE NEIGHBOUR: 'it returns false'. Refute it at one input. -/
def fnExactNotTableWrong : ChangeSpec := { name := "fnExactNotTable", fn := fun _ => fun
  | [d] => { results := [.lit (.bool false)], args := [d] }
  | _ => none }
def FnExactNotTableWrongFalsely : Prop := fnExactNotTableRow.holds Try.pinned (OpenSpec.ofChange fnExactNotTableWrong)

/-- 'laws.FnExactDualTable': WHATEVER THE INPUT: true; the input reads as it did. -/
def fnExactDualTableSpec : ChangeSpec := { name := "fnExactDualTable", fn := fun _ => fun
  | [d] => { results := [.lit (.bool true)], args := [d] }
  | _ => none }
def fnExactDualTableRow : OpenClaim := { program := "ytamafefcfbloiaa", sum := "a3c9f133c319b12b4b5360568e6e1e15e250e0fdedbd2bc31ffd835f49daf508", func := "loop.example/switchnetworks/laws.FnExactDualTable", spec := "fnExactDualTable", unfollowed := true, recurses := true, apart := false }
def FnExactDualTableSaid : Prop := fnExactDualTableRow.holds Try.pinned (OpenSpec.ofChange fnExactDualTableSpec)

/-- ITS FALSE NEIGHBOUR: 'it returns false'. Refute it at one input. -/
def fnExactDualTableWrong : ChangeSpec := { name := "fnExactDualTable", fn := fun _ => fun
  | [d] => { results := [.lit (.bool false)], args := [d] }
  | _ => none }
def FnExactDualTableWrongFalsely : Prop := fnExactDualTableRow.holds Try.pinned (OpenSpec.ofChange fnExactDualTableWrong)

/- THE SECOND FORM. 'bulk': how many values and letters a reading holds, each counted each time it is reached (what is shared counts as often as it is met; a slice's spare places count too). A statement '..UptoSaid' is the law's where the arguments, and the package variables that the reading takes, are together of bulk at most 1048576: NARROWER than '..Said'. Prove '..Said' where nothing that the law and all that it calls make is longer than what came in: it says more and counts as full. Else prove '..UptoSaid'. A law counts once. -/
mutual
def uptoBulk {H : Type} : DataW H → Nat
  | .lit (.string bytes) => bytes.length + 1
  | .lit _ => 1
  | .nil => 1
  | .ptr d => uptoBulk d + 1
  | .slice elems spare => uptoBulkAll elems + uptoBulkAll spare + 1
  | .agg parts => uptoBulkAll parts + 1
  | .iface _ d => uptoBulk d + 1
  | .map entries => uptoBulkEntries entries + 1
  | .held _ => 1
def uptoBulkAll {H : Type} : List (DataW H) → Nat
  | [] => 0
  | d :: r => uptoBulk d + uptoBulkAll r
def uptoBulkEntries {H : Type} : List (Lit × DataW H) → Nat
  | [] => 0
  | x :: r => uptoBulkEntry x + uptoBulkEntries r
def uptoBulkEntry {H : Type} : Lit × DataW H → Nat
  | (.string bytes, d) => bytes.length + uptoBulk d + 1
  | (_, d) => uptoBulk d + 1
 end
def uptoSmall : (H : Type) → List (DataW H) → Bool := fun _ ds => decide (uptoBulkAll ds ≤ 1048576)
def OpenSpec.upto (s : _root_.Go.ChangeSpec) : _root_.Go.OpenSpec := { _root_.Go.OpenSpec.ofChange s with cond := some uptoSmall }

/-- 'laws.FnExactConstants', WHERE WHAT IT READS IS OF BULK AT MOST 1048576: true; the input reads as it did. -/
def fnExactConstantsUptoRow : OpenClaim := { program := "ytamafefcfbloiaa", sum := "a3c9f133c319b12b4b5360568e6e1e15e250e0fdedbd2bc31ffd835f49daf508", func := "loop.example/switchnetworks/laws.FnExactConstants", spec := "fnExactConstants", apart := false, narrowed := true }
def FnExactConstantsUptoSaid : Prop := fnExactConstantsUptoRow.holds Try.pinned (OpenSpec.upto fnExactConstantsSpec)

/-- 'laws.FnExactTermValid', WHERE WHAT IT READS IS OF BULK AT MOST 1048576: true; the input reads as it did. -/
def fnExactTermValidUptoRow : OpenClaim := { program := "ytamafefcfbloiaa", sum := "a3c9f133c319b12b4b5360568e6e1e15e250e0fdedbd2bc31ffd835f49daf508", func := "loop.example/switchnetworks/laws.FnExactTermValid", spec := "fnExactTermValid", apart := false, narrowed := true }
def FnExactTermValidUptoSaid : Prop := fnExactTermValidUptoRow.holds Try.pinned (OpenSpec.upto fnExactTermValidSpec)

/-- 'laws.FnExactParseState', WHERE WHAT IT READS IS OF BULK AT MOST 1048576: true; the input reads as it did. -/
def fnExactParseStateUptoRow : OpenClaim := { program := "ytamafefcfbloiaa", sum := "a3c9f133c319b12b4b5360568e6e1e15e250e0fdedbd2bc31ffd835f49daf508", func := "loop.example/switchnetworks/laws.FnExactParseState", spec := "fnExactParseState", apart := false, narrowed := true }
def FnExactParseStateUptoSaid : Prop := fnExactParseStateUptoRow.holds Try.pinned (OpenSpec.upto fnExactParseStateSpec)

/-- 'laws.FnExactConstantTable', WHERE WHAT IT READS IS OF BULK AT MOST 1048576: true; the input reads as it did. -/
def fnExactConstantTableUptoRow : OpenClaim := { program := "ytamafefcfbloiaa", sum := "a3c9f133c319b12b4b5360568e6e1e15e250e0fdedbd2bc31ffd835f49daf508", func := "loop.example/switchnetworks/laws.FnExactConstantTable", spec := "fnExactConstantTable", unfollowed := true, recurses := true, apart := false, narrowed := true }
def FnExactConstantTableUptoSaid : Prop := fnExactConstantTableUptoRow.holds Try.pinned (OpenSpec.upto fnExactConstantTableSpec)

/-- 'laws.FnExactInputTable', WHERE WHAT IT READS IS OF BULK AT MOST 1048576: true; the input reads as it did. -/
def fnExactInputTableUptoRow : OpenClaim := { program := "ytamafefcfbloiaa", sum := "a3c9f133c319b12b4b5360568e6e1e15e250e0fdedbd2bc31ffd835f49daf508", func := "loop.example/switchnetworks/laws.FnExactInputTable", spec := "fnExactInputTable", unfollowed := true, recurses := true, apart := false, narrowed := true }
def FnExactInputTableUptoSaid : Prop := fnExactInputTableUptoRow.holds Try.pinned (OpenSpec.upto fnExactInputTableSpec)

/-- 'laws.FnExactTableValid', WHERE WHAT IT READS IS OF BULK AT MOST 1048576: true; the input reads as it did. -/
def fnExactTableValidUptoRow : OpenClaim := { program := "ytamafefcfbloiaa", sum := "a3c9f133c319b12b4b5360568e6e1e15e250e0fdedbd2bc31ffd835f49daf508", func := "loop.example/switchnetworks/laws.FnExactTableValid", spec := "fnExactTableValid", unfollowed := true, recurses := true, apart := false, narrowed := true }
def FnExactTableValidUptoSaid : Prop := fnExactTableValidUptoRow.holds Try.pinned (OpenSpec.upto fnExactTableValidSpec)

/-- 'laws.FnExactFormatState', WHERE WHAT IT READS IS OF BULK AT MOST 1048576: true; the input reads as it did. -/
def fnExactFormatStateUptoRow : OpenClaim := { program := "ytamafefcfbloiaa", sum := "a3c9f133c319b12b4b5360568e6e1e15e250e0fdedbd2bc31ffd835f49daf508", func := "loop.example/switchnetworks/laws.FnExactFormatState", spec := "fnExactFormatState", recurses := true, apart := false, narrowed := true }
def FnExactFormatStateUptoSaid : Prop := fnExactFormatStateUptoRow.holds Try.pinned (OpenSpec.upto fnExactFormatStateSpec)

/-- 'laws.FnExactIsInside', WHERE WHAT IT READS IS OF BULK AT MOST 1048576: true; the input reads as it did. -/
def fnExactIsInsideUptoRow : OpenClaim := { program := "ytamafefcfbloiaa", sum := "a3c9f133c319b12b4b5360568e6e1e15e250e0fdedbd2bc31ffd835f49daf508", func := "loop.example/switchnetworks/laws.FnExactIsInside", spec := "fnExactIsInside", apart := false, narrowed := true }
def FnExactIsInsideUptoSaid : Prop := fnExactIsInsideUptoRow.holds Try.pinned (OpenSpec.upto fnExactIsInsideSpec)

/-- 'laws.FnExactInputsOf', WHERE WHAT IT READS IS OF BULK AT MOST 1048576: true; the input reads as it did. -/
def fnExactInputsOfUptoRow : OpenClaim := { program := "ytamafefcfbloiaa", sum := "a3c9f133c319b12b4b5360568e6e1e15e250e0fdedbd2bc31ffd835f49daf508", func := "loop.example/switchnetworks/laws.FnExactInputsOf", spec := "fnExactInputsOf", unfollowed := true, recurses := true, apart := false, narrowed := true }
def FnExactInputsOfUptoSaid : Prop := fnExactInputsOfUptoRow.holds Try.pinned (OpenSpec.upto fnExactInputsOfSpec)

/-- 'laws.FnExactValueAt', WHERE WHAT IT READS IS OF BULK AT MOST 1048576: true; the input reads as it did. -/
def fnExactValueAtUptoRow : OpenClaim := { program := "ytamafefcfbloiaa", sum := "a3c9f133c319b12b4b5360568e6e1e15e250e0fdedbd2bc31ffd835f49daf508", func := "loop.example/switchnetworks/laws.FnExactValueAt", spec := "fnExactValueAt", unfollowed := true, recurses := true, apart := false, narrowed := true }
def FnExactValueAtUptoSaid : Prop := fnExactValueAtUptoRow.holds Try.pinned (OpenSpec.upto fnExactValueAtSpec)

/-- 'laws.FnExactNotTable', WHERE WHAT IT READS IS OF BULK AT MOST 1048576: true; the input reads as it did. -/
def fnExactNotTableUptoRow : OpenClaim := { program := "ytamafefcfbloiaa", sum := "a3c9f133c319b12b4b5360568e6e1e15e250e0fdedbd2bc31ffd835f49daf508", func := "loop.example/switchnetworks/laws.FnExactNotTable", spec := "fnExactNotTable", unfollowed := true, recurses := true, apart := false, narrowed := true }
def FnExactNotTableUptoSaid : Prop := fnExactNotTableUptoRow.holds Try.pinned (OpenSpec.upto fnExactNotTableSpec)

/-- 'laws.FnExactDualTable', WHERE WHAT IT READS IS OF BULK AT MOST 1048576: true; the input reads as it did. -/
def fnExactDualTableUptoRow : OpenClaim := { program := "ytamafefcfbloiaa", sum := "a3c9f133c319b12b4b5360568e6e1e15e250e0fdedbd2bc31ffd835f49daf508", func := "loop.example/switchnetworks/laws.FnExactDualTable", spec := "fnExactDualTable", unfollowed := true, recurses := true, apart := false, narrowed := true }
def FnExactDualTableUptoSaid : Prop := fnExactDualTableUptoRow.holds Try.pinned (OpenSpec.upto fnExactDualTableSpec)

end Rows
end Go.Proofs.Ytamafefcfbloiaa
