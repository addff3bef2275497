/-
  No cell of these rows narrows 'for every input' (looked for: loops, veiled, ifaces, maps, wideKeys, modest, calm, conditions, laid).
  DERIVED. THE GIVEN ROWS OF THIS SEAT. 5 by the template 'for every input the law returns true; each argument reads behind the call as it read before'; 0 by the template 'total and deterministic' (their statements: YtdpojljcefglmaaTotals.lean).
  GIVEN WITH THE SEED: the statements are not yours to turn. If you find one false, say at which input.
  Laid BY PROGRAM, IN A SANDBOX (cutbox-rows.mjs): the forced cells as the released guide's own fill.sh prints them over the translation b50e01b4b7e6db27… (all of the seat's roots in one cut). By AI agents, Wed Nov 11 2026. No macro, syntax, notation, axiom, sorry.
-/
import Derived.Test.YtdpojljcefglmaaChecked
import GoSem.Claim
import GoSem.ClaimJoined
import GoSem.ClaimMapViews
import Derived.JoinedTies
import Derived.KernelRfl
namespace Go.Proofs.Ytdpojljcefglmaa
/- THE CELL 'sum', in the pinned program and in every row, IS THE sha256 OF THE DUMP (.gsa) THAT YtdpojljcefglmaaProg.lean LOADS. Nothing in Lean hashes anything: it is a label: what it is worth is what the hold of that sum in a sandbox is worth. -/
noncomputable def Try.pinned : Pinned := { name := "ytdpojljcefglmaa", sum := "b50e01b4b7e6db2756253e1001571478542b4bc3b7eada7709130a96597b4869", checked := Try.checked }
namespace Rows
def none {H : Type} : Left H := { results := [], args := [] }

/-- 'laws.FnExactCoverOf': WHATEVER THE INPUT: true; the input reads as it did. -/
def fnExactCoverOfSpec : ChangeSpec := { name := "fnExactCoverOf", fn := fun _ => fun
  | [d] => { results := [.lit (.bool true)], args := [d] }
  | _ => none }
def fnExactCoverOfRow : OpenClaim := { program := "ytdpojljcefglmaa", sum := "b50e01b4b7e6db2756253e1001571478542b4bc3b7eada7709130a96597b4869", func := "loop.example/switchnetworks/laws.FnExactCoverOf", spec := "fnExactCoverOf", unfollowed := true, recurses := true, apart := false }
def FnExactCoverOfSaid : Prop := fnExactCoverOfRow.holds Try.pinned (OpenSpec.ofChange fnExactCoverOfSpec)

/-- ITS FALSE NEIGHBOUR: 'it returns false'. Refute it at one input. -/
def fnExactCoverOfWrong : ChangeSpec := { name := "fnExactCoverOf", fn := fun _ => fun
  | [d] => { results := [.lit (.bool false)], args := [d] }
  | _ => none }
def FnExactCoverOfWrongFalsely : Prop := fnExactCoverOfRow.holds Try.pinned (OpenSpec.ofChange fnExactCoverOfWrong)

/-- 'laws.FnExactFormulaValid': WHATEVER THE INPUT: true; the input reads as it did. -/
def fnExactFormulaValidSpec : ChangeSpec := { name := "fnExactFormulaValid", fn := fun _ => fun
  | [d1, d2] => { results := [.lit (.bool true)], args := [d1, d2] }
  | _ => none }
def fnExactFormulaValidRow : OpenClaim := { program := "ytdpojljcefglmaa", sum := "b50e01b4b7e6db2756253e1001571478542b4bc3b7eada7709130a96597b4869", func := "loop.example/switchnetworks/laws.FnExactFormulaValid", spec := "fnExactFormulaValid", recurses := true, apart := false }
def FnExactFormulaValidSaid : Prop := fnExactFormulaValidRow.holds Try.pinned (OpenSpec.ofChange fnExactFormulaValidSpec)

/-- ITS FALSE NEIGHBOUR: 'it returns false'. Refute it at one input. -/
def fnExactFormulaValidWrong : ChangeSpec := { name := "fnExactFormulaValid", fn := fun _ => fun
  | [d1, d2] => { results := [.lit (.bool false)], args := [d1, d2] }
  | _ => none }
def FnExactFormulaValidWrongFalsely : Prop := fnExactFormulaValidRow.holds Try.pinned (OpenSpec.ofChange fnExactFormulaValidWrong)

/-- 'laws.FnExactTableOf': WHATEVER THE INPUT: true; the input reads as it did. -/
def fnExactTableOfSpec : ChangeSpec := { name := "fnExactTableOf", fn := fun _ => fun
  | [d1, d2] => { results := [.lit (.bool true)], args := [d1, d2] }
  | _ => none }
def fnExactTableOfRow : OpenClaim := { program := "ytdpojljcefglmaa", sum := "b50e01b4b7e6db2756253e1001571478542b4bc3b7eada7709130a96597b4869", func := "loop.example/switchnetworks/laws.FnExactTableOf", spec := "fnExactTableOf", unfollowed := true, recurses := true, apart := false }
def FnExactTableOfSaid : Prop := fnExactTableOfRow.holds Try.pinned (OpenSpec.ofChange fnExactTableOfSpec)

/-- ITS FALSE NEIGHBOUR: 'it returns false'. Refute it at one input. -/
def fnExactTableOfWrong : ChangeSpec := { name := "fnExactTableOf", fn := fun _ => fun
  | [d1, d2] => { results := [.lit (.bool false)], args := [d1, d2] }
  | _ => none }
def FnExactTableOfWrongFalsely : Prop := fnExactTableOfRow.holds Try.pinned (OpenSpec.ofChange fnExactTableOfWrong)

/-- 'laws.FnExactShowFormula': WHATEVER THE INPUT: true; the input reads as it did. -/
def fnExactShowFormulaSpec : ChangeSpec := { name := "fnExactShowFormula", fn := fun _ => fun
  | [d1, d2] => { results := [.lit (.bool true)], args := [d1, d2] }
  | _ => none }
def fnExactShowFormulaRow : OpenClaim := { program := "ytdpojljcefglmaa", sum := "b50e01b4b7e6db2756253e1001571478542b4bc3b7eada7709130a96597b4869", func := "loop.example/switchnetworks/laws.FnExactShowFormula", spec := "fnExactShowFormula", recurses := true, apart := false }
def FnExactShowFormulaSaid : Prop := fnExactShowFormulaRow.holds Try.pinned (OpenSpec.ofChange fnExactShowFormulaSpec)

/-- ITS FALSE NEIGHBOUR: 'it returns false'. Refute it at one input. -/
def fnExactShowFormulaWrong : ChangeSpec := { name := "fnExactShowFormula", fn := fun _ => fun
  | [d1, d2] => { results := [.lit (.bool false)], args := [d1, d2] }
  | _ => none }
def FnExactShowFormulaWrongFalsely : Prop := fnExactShowFormulaRow.holds Try.pinned (OpenSpec.ofChange fnExactShowFormulaWrong)

/-- 'laws.FnExactNetworkOf': WHATEVER THE INPUT: true; the input reads as it did. -/
def fnExactNetworkOfSpec : ChangeSpec := { name := "fnExactNetworkOf", fn := fun _ => fun
  | [d] => { results := [.lit (.bool true)], args := [d] }
  | _ => none }
def fnExactNetworkOfRow : OpenClaim := { program := "ytdpojljcefglmaa", sum := "b50e01b4b7e6db2756253e1001571478542b4bc3b7eada7709130a96597b4869", func := "loop.example/switchnetworks/laws.FnExactNetworkOf", spec := "fnExactNetworkOf", inPlace := ["internal/abi.NoEscape", "internal/bytealg.MakeNoZero"], unfollowed := true, recurses := true, apart := false }
def FnExactNetworkOfSaid : Prop := fnExactNetworkOfRow.holds Try.pinned (OpenSpec.ofChange fnExactNetworkOfSpec)

/-- ITS FALSE NEIGHBOUR: 'it returns false'. Refute it at one input. -/
def fnExactNetworkOfWrong : ChangeSpec := { name := "fnExactNetworkOf", fn := fun _ => fun
  | [d] => { results := [.lit (.bool false)], args := [d] }
  | _ => none }
def FnExactNetworkOfWrongFalsely : Prop := fnExactNetworkOfRow.holds Try.pinned (OpenSpec.ofChange fnExactNetworkOfWrong)

/- THE SECOND FORM. 'bulk': how many values and letters a reading holds, each counted each time it is reached (what is shared counts as often as it is met; a slice's spare places count too). A statement '..UptoSaid' is the law's where the arguments, and the package variables that the reading takes, are together of bulk at most 1048576: NARROWER than '..Said'. Prove '..Said' where nothing that the law and all that it calls make is longer than what came in: it says more and counts as full. Else prove '..UptoSaid'. A law counts once. -/
mutual
def uptoBulk {H : Type} : DataW H → Nat
  | .lit (.string bytes) => bytes.length + 1
  | .lit _ => 1
  | .nil => 1
  | .ptr d => uptoBulk d + 1
  | .slice elems spare => uptoBulkAll elems + uptoBulkAll spare + 1
  | .agg parts => uptoBulkAll parts + 1
  | .iface _ d => uptoBulk d + 1
  | .map entries => uptoBulkEntries entries + 1
  | .held _ => 1
def uptoBulkAll {H : Type} : List (DataW H) → Nat
  | [] => 0
  | d :: r => uptoBulk d + uptoBulkAll r
def uptoBulkEntries {H : Type} : List (Lit × DataW H) → Nat
  | [] => 0
  | x :: r => uptoBulkEntry x + uptoBulkEntries r
def uptoBulkEntry {H : Type} : Lit × DataW H → Nat
  | (.string bytes, d) => bytes.length + uptoBulk d + 1
  | (_, d) => uptoBulk d + 1
 end
def uptoSmall : (H : Type) → List (DataW H) → Bool := fun _ ds => decide (uptoBulkAll ds ≤ 1048576)
def OpenSpec.upto (s : _root_.Go.ChangeSpec) : _root_.Go.OpenSpec := { _root_.Go.OpenSpec.ofChange s with cond := some uptoSmall }

/-- 'laws.FnExactCoverOf', WHERE WHAT IT READS IS OF BULK AT MOST 1048576: true; the input reads as it did. -/
def fnExactCoverOfUptoRow : OpenClaim := { program := "ytdpojljcefglmaa", sum := "b50e01b4b7e6db2756253e1001571478542b4bc3b7eada7709130a96597b4869", func := "loop.example/switchnetworks/laws.FnExactCoverOf", spec := "fnExactCoverOf", unfollowed := true, recurses := true, apart := false, narrowed := true }
def FnExactCoverOfUptoSaid : Prop := fnExactCoverOfUptoRow.holds Try.pinned (OpenSpec.upto fnExactCoverOfSpec)

/-- 'laws.FnExactFormulaValid', WHERE WHAT IT READS IS OF BULK AT MOST 1048576: true; the input reads as it did. -/
def fnExactFormulaValidUptoRow : OpenClaim := { program := "ytdpojljcefglmaa", sum := "b50e01b4b7e6db2756253e1001571478542b4bc3b7eada7709130a96597b4869", func := "loop.example/switchnetworks/laws.FnExactFormulaValid", spec := "fnExactFormulaValid", recurses := true, apart := false, narrowed := true }
def FnExactFormulaValidUptoSaid : Prop := fnExactFormulaValidUptoRow.holds Try.pinned (OpenSpec.upto fnExactFormulaValidSpec)

/-- 'laws.FnExactTableOf', WHERE WHAT IT READS IS OF BULK AT MOST 1048576: true; the input reads as it did. -/
def fnExactTableOfUptoRow : OpenClaim := { program := "ytdpojljcefglmaa", sum := "b50e01b4b7e6db2756253e1001571478542b4bc3b7eada7709130a96597b4869", func := "loop.example/switchnetworks/laws.FnExactTableOf", spec := "fnExactTableOf", unfollowed := true, recurses := true, apart := false, narrowed := true }
def FnExactTableOfUptoSaid : Prop := fnExactTableOfUptoRow.holds Try.pinned (OpenSpec.upto fnExactTableOfSpec)

/-- 'laws.FnExactShowFormula', WHERE WHAT IT READS IS OF BULK AT MOST 1048576: true; the input reads as it did. -/
def fnExactShowFormulaUptoRow : OpenClaim := { program := "ytdpojljcefglmaa", sum := "b50e01b4b7e6db2756253e1001571478542b4bc3b7eada7709130a96597b4869", func := "loop.example/switchnetworks/laws.FnExactShowFormula", spec := "fnExactShowFormula", recurses := true, apart := false, narrowed := true }
def FnExactShowFormulaUptoSaid : Prop := fnExactShowFormulaUptoRow.holds Try.pinned (OpenSpec.upto fnExactShowFormulaSpec)

/-- 'laws.FnExactNetworkOf', WHERE WHAT IT READS IS OF BULK AT MOST 1048576: true; the input reads as it did. -/
def fnExactNetworkOfUptoRow : OpenClaim := { program := "ytdpojljcefglmaa", sum := "b50e01b4b7e6db2756253e1001571478542b4bc3b7eada7709130a96597b4869", func := "loop.example/switchnetworks/laws.FnExactNetworkOf", spec := "fnExactNetworkOf", inPlace := ["internal/abi.NoEscape", "internal/bytealg.MakeNoZero"], unfollowed := true, recurses := true, apart := false, narrowed := true }
def FnExactNetworkOfUptoSaid : Prop := fnExactNetworkOfUptoRow.holds Try.pinned (OpenSpec.upto fnExactNetworkOfSpec)

end Rows
end Go.Proofs.Ytdpojljcefglmaa
