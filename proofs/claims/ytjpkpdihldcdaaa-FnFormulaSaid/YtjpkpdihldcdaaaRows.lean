/-
  No cell of these rows narrows 'for every input' (looked for: loops, veiled, ifaces, maps, wideKeys, modest, calm, conditions, laid).
  DERIVED. THE GIVEN ROWS OF THIS SEAT. 11 by the template 'for every input the law returns true; each argument reads behind the call as it read before'; 0 by the template 'total and deterministic' (their statements: YtjpkpdihldcdaaaTotals.lean).
  GIVEN WITH THE SEED: the statements are not yours to turn. If you find one false, say at which input.
  Laid BY PROGRAM, IN A SANDBOX (cutbox-rows.mjs): the forced cells as the released guide's own fill.sh prints them over the translation ce10fbca24b2aba8… (all of the seat's roots in one cut). By AI agents, Wed Nov 11 2026. No macro, syntax, notation, axiom, sorry.
-/
import Derived.Test.YtjpkpdihldcdaaaChecked
import GoSem.Claim
import GoSem.ClaimJoined
import GoSem.ClaimMapViews
import Derived.JoinedTies
import Derived.KernelRfl
namespace Go.Proofs.Ytjpkpdihldcdaaa
/- THE CELL 'sum', in the pinned program and in every row, IS THE sha256 OF THE DUMP (.gsa) THAT YtjpkpdihldcdaaaProg.lean LOADS. Nothing in Lean hashes anything: it is a label: what it is worth is what the hold of that sum in a sandbox is worth. -/
noncomputable def Try.pinned : Pinned := { name := "ytjpkpdihldcdaaa", sum := "ce10fbca24b2aba802b201141b9ead04d72cde3b0398804e4d5b3b607f9c7456", checked := Try.checked }
namespace Rows
def none {H : Type} : Left H := { results := [], args := [] }

/-- 'laws.FnTable': WHATEVER THE INPUT: true; the input reads as it did. -/
def fnTableSpec : ChangeSpec := { name := "fnTable", fn := fun _ => fun
  | [d] => { results := [.lit (.bool true)], args := [d] }
  | _ => none }
def fnTableRow : OpenClaim := { program := "ytjpkpdihldcdaaa", sum := "ce10fbca24b2aba802b201141b9ead04d72cde3b0398804e4d5b3b607f9c7456", func := "loop.example/switchnetworks/laws.FnTable", spec := "fnTable", unfollowed := true, recurses := true, apart := false }
def FnTableSaid : Prop := fnTableRow.holds Try.pinned (OpenSpec.ofChange fnTableSpec)

/-- ITS FALSE NEIGHBOUR: 'it returns false'. Refute it at one input. -/
def fnTableWrong : ChangeSpec := { name := "fnTable", fn := fun _ => fun
  | [d] => { results := [.lit (.bool false)], args := [d] }
  | _ => none }
def FnTableWrongFalsely : Prop := fnTableRow.holds Try.pinned (OpenSpec.ofChange fnTableWrong)

/-- 'laws.FnAndOr': WHATEVER THE INPUT: true; the input reads as it did. -/
def fnAndOrSpec : ChangeSpec := { name := "fnAndOr", fn := fun _ => fun
  | [d] => { results := [.lit (.bool true)], args := [d] }
  | _ => none }
def fnAndOrRow : OpenClaim := { program := "ytjpkpdihldcdaaa", sum := "ce10fbca24b2aba802b201141b9ead04d72cde3b0398804e4d5b3b607f9c7456", func := "loop.example/switchnetworks/laws.FnAndOr", spec := "fnAndOr", unfollowed := true, recurses := true, apart := false }
def FnAndOrSaid : Prop := fnAndOrRow.holds Try.pinned (OpenSpec.ofChange fnAndOrSpec)

/-- ITS FALSE NEIGHBOUR: 'it returns false'. Refute it at one input. -/
def fnAndOrWrong : ChangeSpec := { name := "fnAndOr", fn := fun _ => fun
  | [d] => { results := [.lit (.bool false)], args := [d] }
  | _ => none }
def FnAndOrWrongFalsely : Prop := fnAndOrRow.holds Try.pinned (OpenSpec.ofChange fnAndOrWrong)

/-- 'laws.FnSensitivity': WHATEVER THE INPUT: true; the input reads as it did. -/
def fnSensitivitySpec : ChangeSpec := { name := "fnSensitivity", fn := fun _ => fun
  | [d] => { results := [.lit (.bool true)], args := [d] }
  | _ => none }
def fnSensitivityRow : OpenClaim := { program := "ytjpkpdihldcdaaa", sum := "ce10fbca24b2aba802b201141b9ead04d72cde3b0398804e4d5b3b607f9c7456", func := "loop.example/switchnetworks/laws.FnSensitivity", spec := "fnSensitivity", unfollowed := true, recurses := true, apart := false }
def FnSensitivitySaid : Prop := fnSensitivityRow.holds Try.pinned (OpenSpec.ofChange fnSensitivitySpec)

/-- ITS FALSE NEIGHBOUR: 'it returns false'. Refute it at one input. -/
def fnSensitivityWrong : ChangeSpec := { name := "fnSensitivity", fn := fun _ => fun
  | [d] => { results := [.lit (.bool false)], args := [d] }
  | _ => none }
def FnSensitivityWrongFalsely : Prop := fnSensitivityRow.holds Try.pinned (OpenSpec.ofChange fnSensitivityWrong)

/-- 'laws.FnDecides': WHATEVER THE INPUT: true; the input reads as it did. -/
def fnDecidesSpec : ChangeSpec := { name := "fnDecides", fn := fun _ => fun
  | [d] => { results := [.lit (.bool true)], args := [d] }
  | _ => none }
def fnDecidesRow : OpenClaim := { program := "ytjpkpdihldcdaaa", sum := "ce10fbca24b2aba802b201141b9ead04d72cde3b0398804e4d5b3b607f9c7456", func := "loop.example/switchnetworks/laws.FnDecides", spec := "fnDecides", unfollowed := true, recurses := true, apart := false }
def FnDecidesSaid : Prop := fnDecidesRow.holds Try.pinned (OpenSpec.ofChange fnDecidesSpec)

/-- ITS FALSE NEIGHBOUR: 'it returns false'. Refute it at one input. -/
def fnDecidesWrong : ChangeSpec := { name := "fnDecides", fn := fun _ => fun
  | [d] => { results := [.lit (.bool false)], args := [d] }
  | _ => none }
def FnDecidesWrongFalsely : Prop := fnDecidesRow.holds Try.pinned (OpenSpec.ofChange fnDecidesWrong)

/-- 'laws.FnTerm': WHATEVER THE INPUT: true; the input reads as it did. -/
def fnTermSpec : ChangeSpec := { name := "fnTerm", fn := fun _ => fun
  | [d] => { results := [.lit (.bool true)], args := [d] }
  | _ => none }
def fnTermRow : OpenClaim := { program := "ytjpkpdihldcdaaa", sum := "ce10fbca24b2aba802b201141b9ead04d72cde3b0398804e4d5b3b607f9c7456", func := "loop.example/switchnetworks/laws.FnTerm", spec := "fnTerm", unfollowed := true, recurses := true, apart := false }
def FnTermSaid : Prop := fnTermRow.holds Try.pinned (OpenSpec.ofChange fnTermSpec)

/-- ITS FALSE NEIGHBOUR: 'it returns false'. Refute it at one input. -/
def fnTermWrong : ChangeSpec := { name := "fnTerm", fn := fun _ => fun
  | [d] => { results := [.lit (.bool false)], args := [d] }
  | _ => none }
def FnTermWrongFalsely : Prop := fnTermRow.holds Try.pinned (OpenSpec.ofChange fnTermWrong)

/-- 'laws.FnHoldInput': WHATEVER THE INPUT: true; the input reads as it did. -/
def fnHoldInputSpec : ChangeSpec := { name := "fnHoldInput", fn := fun _ => fun
  | [d] => { results := [.lit (.bool true)], args := [d] }
  | _ => none }
def fnHoldInputRow : OpenClaim := { program := "ytjpkpdihldcdaaa", sum := "ce10fbca24b2aba802b201141b9ead04d72cde3b0398804e4d5b3b607f9c7456", func := "loop.example/switchnetworks/laws.FnHoldInput", spec := "fnHoldInput", unfollowed := true, recurses := true, apart := false }
def FnHoldInputSaid : Prop := fnHoldInputRow.holds Try.pinned (OpenSpec.ofChange fnHoldInputSpec)

/-- ITS FALSE NEIGHBOUR: 'it returns false'. Refute it at one input. -/
def fnHoldInputWrong : ChangeSpec := { name := "fnHoldInput", fn := fun _ => fun
  | [d] => { results := [.lit (.bool false)], args := [d] }
  | _ => none }
def FnHoldInputWrongFalsely : Prop := fnHoldInputRow.holds Try.pinned (OpenSpec.ofChange fnHoldInputWrong)

/-- 'laws.FnSign': WHATEVER THE INPUT: true; the input reads as it did. -/
def fnSignSpec : ChangeSpec := { name := "fnSign", fn := fun _ => fun
  | [d] => { results := [.lit (.bool true)], args := [d] }
  | _ => none }
def fnSignRow : OpenClaim := { program := "ytjpkpdihldcdaaa", sum := "ce10fbca24b2aba802b201141b9ead04d72cde3b0398804e4d5b3b607f9c7456", func := "loop.example/switchnetworks/laws.FnSign", spec := "fnSign", unfollowed := true, recurses := true, apart := false }
def FnSignSaid : Prop := fnSignRow.holds Try.pinned (OpenSpec.ofChange fnSignSpec)

/-- ITS FALSE NEIGHBOUR: 'it returns false'. Refute it at one input. -/
def fnSignWrong : ChangeSpec := { name := "fnSign", fn := fun _ => fun
  | [d] => { results := [.lit (.bool false)], args := [d] }
  | _ => none }
def FnSignWrongFalsely : Prop := fnSignRow.holds Try.pinned (OpenSpec.ofChange fnSignWrong)

/-- 'laws.FnTableOfTerms': WHATEVER THE INPUT: true; the input reads as it did. -/
def fnTableOfTermsSpec : ChangeSpec := { name := "fnTableOfTerms", fn := fun _ => fun
  | [d] => { results := [.lit (.bool true)], args := [d] }
  | _ => none }
def fnTableOfTermsRow : OpenClaim := { program := "ytjpkpdihldcdaaa", sum := "ce10fbca24b2aba802b201141b9ead04d72cde3b0398804e4d5b3b607f9c7456", func := "loop.example/switchnetworks/laws.FnTableOfTerms", spec := "fnTableOfTerms", unfollowed := true, recurses := true, apart := false }
def FnTableOfTermsSaid : Prop := fnTableOfTermsRow.holds Try.pinned (OpenSpec.ofChange fnTableOfTermsSpec)

/-- ITS FALSE NEIGHBOUR: 'it returns false'. Refute it at one input. -/
def fnTableOfTermsWrong : ChangeSpec := { name := "fnTableOfTerms", fn := fun _ => fun
  | [d] => { results := [.lit (.bool false)], args := [d] }
  | _ => none }
def FnTableOfTermsWrongFalsely : Prop := fnTableOfTermsRow.holds Try.pinned (OpenSpec.ofChange fnTableOfTermsWrong)

/-- 'laws.FnStateText': WHATEVER THE INPUT: true; the input reads as it did. -/
def fnStateTextSpec : ChangeSpec := { name := "fnStateText", fn := fun _ => fun
  | [d1, d2] => { results := [.lit (.bool true)], args := [d1, d2] }
  | _ => none }
def fnStateTextRow : OpenClaim := { program := "ytjpkpdihldcdaaa", sum := "ce10fbca24b2aba802b201141b9ead04d72cde3b0398804e4d5b3b607f9c7456", func := "loop.example/switchnetworks/laws.FnStateText", spec := "fnStateText", recurses := true, apart := false }
def FnStateTextSaid : Prop := fnStateTextRow.holds Try.pinned (OpenSpec.ofChange fnStateTextSpec)

/-- ITS FALSE NEIGHBOUR: 'it returns false'. Refute it at one input. -/
def fnStateTextWrong : ChangeSpec := { name := "fnStateText", fn := fun _ => fun
  | [d1, d2] => { results := [.lit (.bool false)], args := [d1, d2] }
  | _ => none }
def FnStateTextWrongFalsely : Prop := fnStateTextRow.holds Try.pinned (OpenSpec.ofChange fnStateTextWrong)

/-- 'laws.FnFormula': WHATEVER THE INPUT: true; the input reads as it did. -/
def fnFormulaSpec : ChangeSpec := { name := "fnFormula", fn := fun _ => fun
  | [d] => { results := [.lit (.bool true)], args := [d] }
  | _ => none }
def fnFormulaRow : OpenClaim := { program := "ytjpkpdihldcdaaa", sum := "ce10fbca24b2aba802b201141b9ead04d72cde3b0398804e4d5b3b607f9c7456", func := "loop.example/switchnetworks/laws.FnFormula", spec := "fnFormula", unfollowed := true, recurses := true, apart := false }
def FnFormulaSaid : Prop := fnFormulaRow.holds Try.pinned (OpenSpec.ofChange fnFormulaSpec)

/-- ITS FALSE NEIGHBOUR: 'it returns false'. Refute it at one input. -/
def fnFormulaWrong : ChangeSpec := { name := "fnFormula", fn := fun _ => fun
  | [d] => { results := [.lit (.bool false)], args := [d] }
  | _ => none }
def FnFormulaWrongFalsely : Prop := fnFormulaRow.holds Try.pinned (OpenSpec.ofChange fnFormulaWrong)

/-- 'laws.FnPrimes': WHATEVER THE INPUT: true; the input reads as it did. -/
def fnPrimesSpec : ChangeSpec := { name := "fnPrimes", fn := fun _ => fun
  | [d] => { results := [.lit (.bool true)], args := [d] }
  | _ => none }
def fnPrimesRow : OpenClaim := { program := "ytjpkpdihldcdaaa", sum := "ce10fbca24b2aba802b201141b9ead04d72cde3b0398804e4d5b3b607f9c7456", func := "loop.example/switchnetworks/laws.FnPrimes", spec := "fnPrimes", unfollowed := true, recurses := true, apart := false }
def FnPrimesSaid : Prop := fnPrimesRow.holds Try.pinned (OpenSpec.ofChange fnPrimesSpec)

/-- ITS FALSE NEIGHBOUR: 'it returns false'. Refute it at one input. -/
def fnPrimesWrong : ChangeSpec := { name := "fnPrimes", fn := fun _ => fun
  | [d] => { results := [.lit (.bool false)], args := [d] }
  | _ => none }
def FnPrimesWrongFalsely : Prop := fnPrimesRow.holds Try.pinned (OpenSpec.ofChange fnPrimesWrong)

/- THE SECOND FORM. 'bulk': how many values and letters a reading holds, each counted each time it is reached (what is shared counts as often as it is met; a slice's spare places count too). A statement '..UptoSaid' is the law's where the arguments, and the package variables that the reading takes, are together of bulk at most 1048576: NARROWER than '..Said'. Prove '..Said' where nothing that the law and all that it calls make is longer than what came in: it says more and counts as full. Else prove '..UptoSaid'. A law counts once. -/
mutual
def uptoBulk {H : Type} : DataW H → Nat
  | .lit (.string bytes) => bytes.length + 1
  | .lit _ => 1
  | .nil => 1
  | .ptr d => uptoBulk d + 1
  | .slice elems spare => uptoBulkAll elems + uptoBulkAll spare + 1
  | .agg parts => uptoBulkAll parts + 1
  | .iface _ d => uptoBulk d + 1
  | .map entries => uptoBulkEntries entries + 1
  | .held _ => 1
def uptoBulkAll {H : Type} : List (DataW H) → Nat
  | [] => 0
  | d :: r => uptoBulk d + uptoBulkAll r
def uptoBulkEntries {H : Type} : List (Lit × DataW H) → Nat
  | [] => 0
  | x :: r => uptoBulkEntry x + uptoBulkEntries r
def uptoBulkEntry {H : Type} : Lit × DataW H → Nat
  | (.string bytes, d) => bytes.length + uptoBulk d + 1
  | (_, d) => uptoBulk d + 1
 end
def uptoSmall : (H : Type) → List (DataW H) → Bool := fun _ ds => decide (uptoBulkAll ds ≤ 1048576)
def OpenSpec.upto (s : _root_.Go.ChangeSpec) : _root_.Go.OpenSpec := { _root_.Go.OpenSpec.ofChange s with cond := some uptoSmall }

/-- 'laws.FnTable', WHERE WHAT IT READS IS OF BULK AT MOST 1048576: true; the input reads as it did. -/
def fnTableUptoRow : OpenClaim := { program := "ytjpkpdihldcdaaa", sum := "ce10fbca24b2aba802b201141b9ead04d72cde3b0398804e4d5b3b607f9c7456", func := "loop.example/switchnetworks/laws.FnTable", spec := "fnTable", unfollowed := true, recurses := true, apart := false, narrowed := true }
def FnTableUptoSaid : Prop := fnTableUptoRow.holds Try.pinned (OpenSpec.upto fnTableSpec)

/-- 'laws.FnAndOr', WHERE WHAT IT READS IS OF BULK AT MOST 1048576: true; the input reads as it did. -/
def fnAndOrUptoRow : OpenClaim := { program := "ytjpkpdihldcdaaa", sum := "ce10fbca24b2aba802b201141b9ead04d72cde3b0398804e4d5b3b607f9c7456", func := "loop.example/switchnetworks/laws.FnAndOr", spec := "fnAndOr", unfollowed := true, recurses := true, apart := false, narrowed := true }
def FnAndOrUptoSaid : Prop := fnAndOrUptoRow.holds Try.pinned (OpenSpec.upto fnAndOrSpec)

/-- 'laws.FnSensitivity', WHERE WHAT IT READS IS OF BULK AT MOST 1048576: true; the input reads as it did. -/
def fnSensitivityUptoRow : OpenClaim := { program := "ytjpkpdihldcdaaa", sum := "ce10fbca24b2aba802b201141b9ead04d72cde3b0398804e4d5b3b607f9c7456", func := "loop.example/switchnetworks/laws.FnSensitivity", spec := "fnSensitivity", unfollowed := true, recurses := true, apart := false, narrowed := true }
def FnSensitivityUptoSaid : Prop := fnSensitivityUptoRow.holds Try.pinned (OpenSpec.upto fnSensitivitySpec)

/-- 'laws.FnDecides', WHERE WHAT IT READS IS OF BULK AT MOST 1048576: true; the input reads as it did. -/
def fnDecidesUptoRow : OpenClaim := { program := "ytjpkpdihldcdaaa", sum := "ce10fbca24b2aba802b201141b9ead04d72cde3b0398804e4d5b3b607f9c7456", func := "loop.example/switchnetworks/laws.FnDecides", spec := "fnDecides", unfollowed := true, recurses := true, apart := false, narrowed := true }
def FnDecidesUptoSaid : Prop := fnDecidesUptoRow.holds Try.pinned (OpenSpec.upto fnDecidesSpec)

/-- 'laws.FnTerm', WHERE WHAT IT READS IS OF BULK AT MOST 1048576: true; the input reads as it did. -/
def fnTermUptoRow : OpenClaim := { program := "ytjpkpdihldcdaaa", sum := "ce10fbca24b2aba802b201141b9ead04d72cde3b0398804e4d5b3b607f9c7456", func := "loop.example/switchnetworks/laws.FnTerm", spec := "fnTerm", unfollowed := true, recurses := true, apart := false, narrowed := true }
def FnTermUptoSaid : Prop := fnTermUptoRow.holds Try.pinned (OpenSpec.upto fnTermSpec)

/-- 'laws.FnHoldInput', WHERE WHAT IT READS IS OF BULK AT MOST 1048576: true; the input reads as it did. -/
def fnHoldInputUptoRow : OpenClaim := { program := "ytjpkpdihldcdaaa", sum := "ce10fbca24b2aba802b201141b9ead04d72cde3b0398804e4d5b3b607f9c7456", func := "loop.example/switchnetworks/laws.FnHoldInput", spec := "fnHoldInput", unfollowed := true, recurses := true, apart := false, narrowed := true }
def FnHoldInputUptoSaid : Prop := fnHoldInputUptoRow.holds Try.pinned (OpenSpec.upto fnHoldInputSpec)

/-- 'laws.FnSign', WHERE WHAT IT READS IS OF BULK AT MOST 1048576: true; the input reads as it did. -/
def fnSignUptoRow : OpenClaim := { program := "ytjpkpdihldcdaaa", sum := "ce10fbca24b2aba802b201141b9ead04d72cde3b0398804e4d5b3b607f9c7456", func := "loop.example/switchnetworks/laws.FnSign", spec := "fnSign", unfollowed := true, recurses := true, apart := false, narrowed := true }
def FnSignUptoSaid : Prop := fnSignUptoRow.holds Try.pinned (OpenSpec.upto fnSignSpec)

/-- 'laws.FnTableOfTerms', WHERE WHAT IT READS IS OF BULK AT MOST 1048576: true; the input reads as it did. -/
def fnTableOfTermsUptoRow : OpenClaim := { program := "ytjpkpdihldcdaaa", sum := "ce10fbca24b2aba802b201141b9ead04d72cde3b0398804e4d5b3b607f9c7456", func := "loop.example/switchnetworks/laws.FnTableOfTerms", spec := "fnTableOfTerms", unfollowed := true, recurses := true, apart := false, narrowed := true }
def FnTableOfTermsUptoSaid : Prop := fnTableOfTermsUptoRow.holds Try.pinned (OpenSpec.upto fnTableOfTermsSpec)

/-- 'laws.FnStateText', WHERE WHAT IT READS IS OF BULK AT MOST 1048576: true; the input reads as it did. -/
def fnStateTextUptoRow : OpenClaim := { program := "ytjpkpdihldcdaaa", sum := "ce10fbca24b2aba802b201141b9ead04d72cde3b0398804e4d5b3b607f9c7456", func := "loop.example/switchnetworks/laws.FnStateText", spec := "fnStateText", recurses := true, apart := false, narrowed := true }
def FnStateTextUptoSaid : Prop := fnStateTextUptoRow.holds Try.pinned (OpenSpec.upto fnStateTextSpec)

/-- 'laws.FnFormula', WHERE WHAT IT READS IS OF BULK AT MOST 1048576: true; the input reads as it did. -/
def fnFormulaUptoRow : OpenClaim := { program := "ytjpkpdihldcdaaa", sum := "ce10fbca24b2aba802b201141b9ead04d72cde3b0398804e4d5b3b607f9c7456", func := "loop.example/switchnetworks/laws.FnFormula", spec := "fnFormula", unfollowed := true, recurses := true, apart := false, narrowed := true }
def FnFormulaUptoSaid : Prop := fnFormulaUptoRow.holds Try.pinned (OpenSpec.upto fnFormulaSpec)

/-- 'laws.FnPrimes', WHERE WHAT IT READS IS OF BULK AT MOST 1048576: true; the input reads as it did. -/
def fnPrimesUptoRow : OpenClaim := { program := "ytjpkpdihldcdaaa", sum := "ce10fbca24b2aba802b201141b9ead04d72cde3b0398804e4d5b3b607f9c7456", func := "loop.example/switchnetworks/laws.FnPrimes", spec := "fnPrimes", unfollowed := true, recurses := true, apart := false, narrowed := true }
def FnPrimesUptoSaid : Prop := fnPrimesUptoRow.holds Try.pinned (OpenSpec.upto fnPrimesSpec)

end Rows
end Go.Proofs.Ytjpkpdihldcdaaa
