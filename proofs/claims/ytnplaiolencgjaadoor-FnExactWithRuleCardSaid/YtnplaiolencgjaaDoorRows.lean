/-
  NARROWER THAN 'FOR EVERY INPUT', by the rows' own cells (each row's printed sentence says how): FnExactWithRule: laid · FnExactNetworkValid: laid · FnExactSizeOf: laid · FnExactRuleOf: laid · FnExactStepOne: laid · FnExactStepAll: laid · FnExactRestlessOf: laid · FnExactFixedPoints: laid.
  DERIVED. THE GIVEN ROWS OF THIS SEAT. 8 by the template 'for every input the law returns true; each argument reads behind the call as it read before'; 0 by the template 'total and deterministic' (their statements: YtnplaiolencgjaaDoorTotals.lean).
  GIVEN WITH THE SEED: the statements are not yours to turn. If you find one false, say at which input.
  Laid BY PROGRAM, IN A SANDBOX (cutbox-rows.mjs): the forced cells as the released guide's own fill.sh prints them over the translation bc62971f5f7b7bdb… (all of the seat's roots in one cut). By AI agents, Wed Nov 11 2026. No macro, syntax, notation, axiom, sorry.
-/
import Derived.Test.YtnplaiolencgjaaDoorChecked
import GoSem.PinnedTables
import GoSem.Claim
import GoSem.ClaimJoined
import GoSem.ClaimMapViews
import Derived.JoinedTies
import Derived.KernelRfl
namespace Go.Proofs.YtnplaiolencgjaaDoor
/- THE CELL 'sum', in the pinned program and in every row, IS THE sha256 OF THE DUMP (.gsa) THAT YtnplaiolencgjaaDoorProg.lean LOADS. Nothing in Lean hashes anything: it is a label: what it is worth is what the hold of that sum in a sandbox is worth. -/
noncomputable def Tryd.pinned : Pinned := { name := "ytnplaiolencgjaadoor", sum := "bc62971f5f7b7bdb0e08ee091fc2f7573f72daf346812530f4659e35999b0f19", checked := Tryd.checked }
namespace Rows
def none {H : Type} : Left H := { results := [], args := [] }

/- WHAT THE LISTED PACKAGE-LEVEL VARIABLES READ AS WHEN THE CALL BEGINS. Each datum BY PROGRAM (the guide's laid-datum.mjs) off the statement by which the dump's own 'gosem.cut.vars' lays the variable. In a bare row this is a premise. The card (YtnplaiolencgjaaDoorCards.lean) ties it to the program's text. -/
def laid_unicode_utf8_acceptRanges {H : Type} : DataW H := .agg [.agg [.lit (.int .u8 128), .lit (.int .u8 191)], .agg [.lit (.int .u8 160), .lit (.int .u8 191)], .agg [.lit (.int .u8 128), .lit (.int .u8 159)], .agg [.lit (.int .u8 144), .lit (.int .u8 191)], .agg [.lit (.int .u8 128), .lit (.int .u8 143)], .agg [.lit (.int .u8 0), .lit (.int .u8 0)], .agg [.lit (.int .u8 0), .lit (.int .u8 0)], .agg [.lit (.int .u8 0), .lit (.int .u8 0)], .agg [.lit (.int .u8 0), .lit (.int .u8 0)], .agg [.lit (.int .u8 0), .lit (.int .u8 0)], .agg [.lit (.int .u8 0), .lit (.int .u8 0)], .agg [.lit (.int .u8 0), .lit (.int .u8 0)], .agg [.lit (.int .u8 0), .lit (.int .u8 0)], .agg [.lit (.int .u8 0), .lit (.int .u8 0)], .agg [.lit (.int .u8 0), .lit (.int .u8 0)], .agg [.lit (.int .u8 0), .lit (.int .u8 0)]]
/-- One of Go's own tables, pinned by name: the form's constant. -/
def laid_unicode_utf8_first : DataW Unit := Go.Pinned.utf8First

/-- 'laws.FnExactWithRule': WHATEVER THE INPUT: true; the input reads as it did. -/
def fnExactWithRuleSpec : ChangeSpec := { name := "fnExactWithRule", fn := fun _ => fun
  | [d1, d2, d3] => { results := [.lit (.bool true)], args := [d1, d2, d3] }
  | _ => none }
def fnExactWithRuleRow : OpenClaim := { program := "ytnplaiolencgjaadoor", sum := "bc62971f5f7b7bdb0e08ee091fc2f7573f72daf346812530f4659e35999b0f19", func := "loop.example/switchnetworks/laws.FnExactWithRule", spec := "fnExactWithRule", inPlace := ["internal/bytealg.CountString", "internal/bytealg.IndexByteString", "internal/bytealg.IndexString", "internal/abi.NoEscape", "internal/bytealg.MakeNoZero"], unfollowed := true, recurses := true, named := ["unicode/utf8.first", "unicode/utf8.acceptRanges", "internal/bytealg.MaxLen"], apart := false, laid := [("unicode/utf8.acceptRanges", laid_unicode_utf8_acceptRanges), ("unicode/utf8.first", laid_unicode_utf8_first)] }
def FnExactWithRuleSaid : Prop := fnExactWithRuleRow.holds Tryd.pinned (OpenSpec.ofChange fnExactWithRuleSpec)

/-- ITS FALSE NEIGHBOUR: 'it returns false'. Refute it at one input. -/
def fnExactWithRuleWrong : ChangeSpec := { name := "fnExactWithRule", fn := fun _ => fun
  | [d1, d2, d3] => { results := [.lit (.bool false)], args := [d1, d2, d3] }
  | _ => none }
def FnExactWithRuleWrongFalsely : Prop := fnExactWithRuleRow.holds Tryd.pinned (OpenSpec.ofChange fnExactWithRuleWrong)

/-- 'laws.FnExactNetworkValid': WHATEVER THE INPUT: true; the input reads as it did. -/
def fnExactNetworkValidSpec : ChangeSpec := { name := "fnExactNetworkValid", fn := fun _ => fun
  | [d] => { results := [.lit (.bool true)], args := [d] }
  | _ => none }
def fnExactNetworkValidRow : OpenClaim := { program := "ytnplaiolencgjaadoor", sum := "bc62971f5f7b7bdb0e08ee091fc2f7573f72daf346812530f4659e35999b0f19", func := "loop.example/switchnetworks/laws.FnExactNetworkValid", spec := "fnExactNetworkValid", inPlace := ["internal/bytealg.CountString", "internal/bytealg.IndexByteString", "internal/bytealg.IndexString"], unfollowed := true, recurses := true, named := ["unicode/utf8.first", "unicode/utf8.acceptRanges", "internal/bytealg.MaxLen"], apart := false, laid := [("unicode/utf8.acceptRanges", laid_unicode_utf8_acceptRanges), ("unicode/utf8.first", laid_unicode_utf8_first)] }
def FnExactNetworkValidSaid : Prop := fnExactNetworkValidRow.holds Tryd.pinned (OpenSpec.ofChange fnExactNetworkValidSpec)

/-- ITS FALSE NEIGHBOUR: 'it returns false'. Refute it at one input. -/
def fnExactNetworkValidWrong : ChangeSpec := { name := "fnExactNetworkValid", fn := fun _ => fun
  | [d] => { results := [.lit (.bool false)], args := [d] }
  | _ => none }
def FnExactNetworkValidWrongFalsely : Prop := fnExactNetworkValidRow.holds Tryd.pinned (OpenSpec.ofChange fnExactNetworkValidWrong)

/-- 'laws.FnExactSizeOf': WHATEVER THE INPUT: true; the input reads as it did. -/
def fnExactSizeOfSpec : ChangeSpec := { name := "fnExactSizeOf", fn := fun _ => fun
  | [d] => { results := [.lit (.bool true)], args := [d] }
  | _ => none }
def fnExactSizeOfRow : OpenClaim := { program := "ytnplaiolencgjaadoor", sum := "bc62971f5f7b7bdb0e08ee091fc2f7573f72daf346812530f4659e35999b0f19", func := "loop.example/switchnetworks/laws.FnExactSizeOf", spec := "fnExactSizeOf", inPlace := ["internal/bytealg.CountString", "internal/bytealg.IndexByteString", "internal/bytealg.IndexString"], unfollowed := true, recurses := true, named := ["unicode/utf8.first", "unicode/utf8.acceptRanges", "internal/bytealg.MaxLen"], apart := false, laid := [("unicode/utf8.acceptRanges", laid_unicode_utf8_acceptRanges), ("unicode/utf8.first", laid_unicode_utf8_first)] }
def FnExactSizeOfSaid : Prop := fnExactSizeOfRow.holds Tryd.pinned (OpenSpec.ofChange fnExactSizeOfSpec)

/-- ITS FALSE NEIGHBOUR: 'it returns false'. Refute it at one input. -/
def fnExactSizeOfWrong : ChangeSpec := { name := "fnExactSizeOf", fn := fun _ => fun
  | [d] => { results := [.lit (.bool false)], args := [d] }
  | _ => none }
def FnExactSizeOfWrongFalsely : Prop := fnExactSizeOfRow.holds Tryd.pinned (OpenSpec.ofChange fnExactSizeOfWrong)

/-- 'laws.FnExactRuleOf': WHATEVER THE INPUT: true; the input reads as it did. -/
def fnExactRuleOfSpec : ChangeSpec := { name := "fnExactRuleOf", fn := fun _ => fun
  | [d1, d2] => { results := [.lit (.bool true)], args := [d1, d2] }
  | _ => none }
def fnExactRuleOfRow : OpenClaim := { program := "ytnplaiolencgjaadoor", sum := "bc62971f5f7b7bdb0e08ee091fc2f7573f72daf346812530f4659e35999b0f19", func := "loop.example/switchnetworks/laws.FnExactRuleOf", spec := "fnExactRuleOf", inPlace := ["internal/bytealg.CountString", "internal/bytealg.IndexByteString", "internal/bytealg.IndexString"], unfollowed := true, recurses := true, named := ["unicode/utf8.first", "unicode/utf8.acceptRanges", "internal/bytealg.MaxLen"], apart := false, laid := [("unicode/utf8.acceptRanges", laid_unicode_utf8_acceptRanges), ("unicode/utf8.first", laid_unicode_utf8_first)] }
def FnExactRuleOfSaid : Prop := fnExactRuleOfRow.holds Tryd.pinned (OpenSpec.ofChange fnExactRuleOfSpec)

/-- ITS FALSE NEIGHBOUR: 'it returns false'. Refute it at one input. -/
def fnExactRuleOfWrong : ChangeSpec := { name := "fnExactRuleOf", fn := fun _ => fun
  | [d1, d2] => { results := [.lit (.bool false)], args := [d1, d2] }
  | _ => none }
def FnExactRuleOfWrongFalsely : Prop := fnExactRuleOfRow.holds Tryd.pinned (OpenSpec.ofChange fnExactRuleOfWrong)

/-- 'laws.FnExactStepOne': WHATEVER THE INPUT: true; the input reads as it did. -/
def fnExactStepOneSpec : ChangeSpec := { name := "fnExactStepOne", fn := fun _ => fun
  | [d1, d2, d3] => { results := [.lit (.bool true)], args := [d1, d2, d3] }
  | _ => none }
def fnExactStepOneRow : OpenClaim := { program := "ytnplaiolencgjaadoor", sum := "bc62971f5f7b7bdb0e08ee091fc2f7573f72daf346812530f4659e35999b0f19", func := "loop.example/switchnetworks/laws.FnExactStepOne", spec := "fnExactStepOne", inPlace := ["internal/bytealg.CountString", "internal/bytealg.IndexByteString", "internal/bytealg.IndexString"], unfollowed := true, recurses := true, named := ["unicode/utf8.first", "unicode/utf8.acceptRanges", "internal/bytealg.MaxLen"], apart := false, laid := [("unicode/utf8.acceptRanges", laid_unicode_utf8_acceptRanges), ("unicode/utf8.first", laid_unicode_utf8_first)] }
def FnExactStepOneSaid : Prop := fnExactStepOneRow.holds Tryd.pinned (OpenSpec.ofChange fnExactStepOneSpec)

/-- ITS FALSE NEIGHBOUR: 'it returns false'. Refute it at one input. -/
def fnExactStepOneWrong : ChangeSpec := { name := "fnExactStepOne", fn := fun _ => fun
  | [d1, d2, d3] => { results := [.lit (.bool false)], args := [d1, d2, d3] }
  | _ => none }
def FnExactStepOneWrongFalsely : Prop := fnExactStepOneRow.holds Tryd.pinned (OpenSpec.ofChange fnExactStepOneWrong)

/-- 'laws.FnExactStepAll': WHATEVER THE INPUT: true; the input reads as it did. -/
def fnExactStepAllSpec : ChangeSpec := { name := "fnExactStepAll", fn := fun _ => fun
  | [d1, d2] => { results := [.lit (.bool true)], args := [d1, d2] }
  | _ => none }
def fnExactStepAllRow : OpenClaim := { program := "ytnplaiolencgjaadoor", sum := "bc62971f5f7b7bdb0e08ee091fc2f7573f72daf346812530f4659e35999b0f19", func := "loop.example/switchnetworks/laws.FnExactStepAll", spec := "fnExactStepAll", inPlace := ["internal/bytealg.CountString", "internal/bytealg.IndexByteString", "internal/bytealg.IndexString"], unfollowed := true, recurses := true, named := ["unicode/utf8.first", "unicode/utf8.acceptRanges", "internal/bytealg.MaxLen"], apart := false, laid := [("unicode/utf8.acceptRanges", laid_unicode_utf8_acceptRanges), ("unicode/utf8.first", laid_unicode_utf8_first)] }
def FnExactStepAllSaid : Prop := fnExactStepAllRow.holds Tryd.pinned (OpenSpec.ofChange fnExactStepAllSpec)

/-- ITS FALSE NEIGHBOUR: 'it returns false'. Refute it at one input. -/
def fnExactStepAllWrong : ChangeSpec := { name := "fnExactStepAll", fn := fun _ => fun
  | [d1, d2] => { results := [.lit (.bool false)], args := [d1, d2] }
  | _ => none }
def FnExactStepAllWrongFalsely : Prop := fnExactStepAllRow.holds Tryd.pinned (OpenSpec.ofChange fnExactStepAllWrong)

/-- 'laws.FnExactRestlessOf': WHATEVER THE INPUT: true; the input reads as it did. -/
def fnExactRestlessOfSpec : ChangeSpec := { name := "fnExactRestlessOf", fn := fun _ => fun
  | [d1, d2] => { results := [.lit (.bool true)], args := [d1, d2] }
  | _ => none }
def fnExactRestlessOfRow : OpenClaim := { program := "ytnplaiolencgjaadoor", sum := "bc62971f5f7b7bdb0e08ee091fc2f7573f72daf346812530f4659e35999b0f19", func := "loop.example/switchnetworks/laws.FnExactRestlessOf", spec := "fnExactRestlessOf", inPlace := ["internal/bytealg.CountString", "internal/bytealg.IndexByteString", "internal/bytealg.IndexString"], unfollowed := true, recurses := true, named := ["unicode/utf8.first", "unicode/utf8.acceptRanges", "internal/bytealg.MaxLen"], apart := false, laid := [("unicode/utf8.acceptRanges", laid_unicode_utf8_acceptRanges), ("unicode/utf8.first", laid_unicode_utf8_first)] }
def FnExactRestlessOfSaid : Prop := fnExactRestlessOfRow.holds Tryd.pinned (OpenSpec.ofChange fnExactRestlessOfSpec)

/-- ITS FALSE NEIGHBOUR: 'it returns false'. Refute it at one input. -/
def fnExactRestlessOfWrong : ChangeSpec := { name := "fnExactRestlessOf", fn := fun _ => fun
  | [d1, d2] => { results := [.lit (.bool false)], args := [d1, d2] }
  | _ => none }
def FnExactRestlessOfWrongFalsely : Prop := fnExactRestlessOfRow.holds Tryd.pinned (OpenSpec.ofChange fnExactRestlessOfWrong)

/-- 'laws.FnExactFixedPoints': WHATEVER THE INPUT: true; the input reads as it did. -/
def fnExactFixedPointsSpec : ChangeSpec := { name := "fnExactFixedPoints", fn := fun _ => fun
  | [d] => { results := [.lit (.bool true)], args := [d] }
  | _ => none }
def fnExactFixedPointsRow : OpenClaim := { program := "ytnplaiolencgjaadoor", sum := "bc62971f5f7b7bdb0e08ee091fc2f7573f72daf346812530f4659e35999b0f19", func := "loop.example/switchnetworks/laws.FnExactFixedPoints", spec := "fnExactFixedPoints", inPlace := ["internal/bytealg.CountString", "internal/bytealg.IndexByteString", "internal/bytealg.IndexString"], unfollowed := true, recurses := true, named := ["unicode/utf8.first", "unicode/utf8.acceptRanges", "internal/bytealg.MaxLen"], apart := false, laid := [("unicode/utf8.acceptRanges", laid_unicode_utf8_acceptRanges), ("unicode/utf8.first", laid_unicode_utf8_first)] }
def FnExactFixedPointsSaid : Prop := fnExactFixedPointsRow.holds Tryd.pinned (OpenSpec.ofChange fnExactFixedPointsSpec)

/-- ITS FALSE NEIGHBOUR: 'it returns false'. Refute it at one input. -/
def fnExactFixedPointsWrong : ChangeSpec := { name := "fnExactFixedPoints", fn := fun _ => fun
  | [d] => { results := [.lit (.bool false)], args := [d] }
  | _ => none }
def FnExactFixedPointsWrongFalsely : Prop := fnExactFixedPointsRow.holds Tryd.pinned (OpenSpec.ofChange fnExactFixedPointsWrong)

/- THE SECOND FORM. 'bulk': how many values and letters a reading holds, each counted each time it is reached (what is shared counts as often as it is met; a slice's spare places count too). A statement '..UptoSaid' is the law's where the arguments, and the package variables that the reading takes, are together of bulk at most 1048576: NARROWER than '..Said'. Prove '..Said' where nothing that the law and all that it calls make is longer than what came in: it says more and counts as full. Else prove '..UptoSaid'. A law counts once. -/
mutual
def uptoBulk {H : Type} : DataW H → Nat
  | .lit (.string bytes) => bytes.length + 1
  | .lit _ => 1
  | .nil => 1
  | .ptr d => uptoBulk d + 1
  | .slice elems spare => uptoBulkAll elems + uptoBulkAll spare + 1
  | .agg parts => uptoBulkAll parts + 1
  | .iface _ d => uptoBulk d + 1
  | .map entries => uptoBulkEntries entries + 1
  | .held _ => 1
def uptoBulkAll {H : Type} : List (DataW H) → Nat
  | [] => 0
  | d :: r => uptoBulk d + uptoBulkAll r
def uptoBulkEntries {H : Type} : List (Lit × DataW H) → Nat
  | [] => 0
  | x :: r => uptoBulkEntry x + uptoBulkEntries r
def uptoBulkEntry {H : Type} : Lit × DataW H → Nat
  | (.string bytes, d) => bytes.length + uptoBulk d + 1
  | (_, d) => uptoBulk d + 1
 end
def uptoSmall : (H : Type) → List (DataW H) → Bool := fun _ ds => decide (uptoBulkAll ds ≤ 1048576)
def OpenSpec.upto (s : _root_.Go.ChangeSpec) : _root_.Go.OpenSpec := { _root_.Go.OpenSpec.ofChange s with cond := some uptoSmall }

/-- 'laws.FnExactWithRule', WHERE WHAT IT READS IS OF BULK AT MOST 1048576: true; the input reads as it did. -/
def fnExactWithRuleUptoRow : OpenClaim := { program := "ytnplaiolencgjaadoor", sum := "bc62971f5f7b7bdb0e08ee091fc2f7573f72daf346812530f4659e35999b0f19", func := "loop.example/switchnetworks/laws.FnExactWithRule", spec := "fnExactWithRule", inPlace := ["internal/bytealg.CountString", "internal/bytealg.IndexByteString", "internal/bytealg.IndexString", "internal/abi.NoEscape", "internal/bytealg.MakeNoZero"], unfollowed := true, recurses := true, named := ["unicode/utf8.first", "unicode/utf8.acceptRanges", "internal/bytealg.MaxLen"], apart := false, laid := [("unicode/utf8.acceptRanges", laid_unicode_utf8_acceptRanges), ("unicode/utf8.first", laid_unicode_utf8_first)], narrowed := true }
def FnExactWithRuleUptoSaid : Prop := fnExactWithRuleUptoRow.holds Tryd.pinned (OpenSpec.upto fnExactWithRuleSpec)

/-- 'laws.FnExactNetworkValid', WHERE WHAT IT READS IS OF BULK AT MOST 1048576: true; the input reads as it did. -/
def fnExactNetworkValidUptoRow : OpenClaim := { program := "ytnplaiolencgjaadoor", sum := "bc62971f5f7b7bdb0e08ee091fc2f7573f72daf346812530f4659e35999b0f19", func := "loop.example/switchnetworks/laws.FnExactNetworkValid", spec := "fnExactNetworkValid", inPlace := ["internal/bytealg.CountString", "internal/bytealg.IndexByteString", "internal/bytealg.IndexString"], unfollowed := true, recurses := true, named := ["unicode/utf8.first", "unicode/utf8.acceptRanges", "internal/bytealg.MaxLen"], apart := false, laid := [("unicode/utf8.acceptRanges", laid_unicode_utf8_acceptRanges), ("unicode/utf8.first", laid_unicode_utf8_first)], narrowed := true }
def FnExactNetworkValidUptoSaid : Prop := fnExactNetworkValidUptoRow.holds Tryd.pinned (OpenSpec.upto fnExactNetworkValidSpec)

/-- 'laws.FnExactSizeOf', WHERE WHAT IT READS IS OF BULK AT MOST 1048576: true; the input reads as it did. -/
def fnExactSizeOfUptoRow : OpenClaim := { program := "ytnplaiolencgjaadoor", sum := "bc62971f5f7b7bdb0e08ee091fc2f7573f72daf346812530f4659e35999b0f19", func := "loop.example/switchnetworks/laws.FnExactSizeOf", spec := "fnExactSizeOf", inPlace := ["internal/bytealg.CountString", "internal/bytealg.IndexByteString", "internal/bytealg.IndexString"], unfollowed := true, recurses := true, named := ["unicode/utf8.first", "unicode/utf8.acceptRanges", "internal/bytealg.MaxLen"], apart := false, laid := [("unicode/utf8.acceptRanges", laid_unicode_utf8_acceptRanges), ("unicode/utf8.first", laid_unicode_utf8_first)], narrowed := true }
def FnExactSizeOfUptoSaid : Prop := fnExactSizeOfUptoRow.holds Tryd.pinned (OpenSpec.upto fnExactSizeOfSpec)

/-- 'laws.FnExactRuleOf', WHERE WHAT IT READS IS OF BULK AT MOST 1048576: true; the input reads as it did. -/
def fnExactRuleOfUptoRow : OpenClaim := { program := "ytnplaiolencgjaadoor", sum := "bc62971f5f7b7bdb0e08ee091fc2f7573f72daf346812530f4659e35999b0f19", func := "loop.example/switchnetworks/laws.FnExactRuleOf", spec := "fnExactRuleOf", inPlace := ["internal/bytealg.CountString", "internal/bytealg.IndexByteString", "internal/bytealg.IndexString"], unfollowed := true, recurses := true, named := ["unicode/utf8.first", "unicode/utf8.acceptRanges", "internal/bytealg.MaxLen"], apart := false, laid := [("unicode/utf8.acceptRanges", laid_unicode_utf8_acceptRanges), ("unicode/utf8.first", laid_unicode_utf8_first)], narrowed := true }
def FnExactRuleOfUptoSaid : Prop := fnExactRuleOfUptoRow.holds Tryd.pinned (OpenSpec.upto fnExactRuleOfSpec)

/-- 'laws.FnExactStepOne', WHERE WHAT IT READS IS OF BULK AT MOST 1048576: true; the input reads as it did. -/
def fnExactStepOneUptoRow : OpenClaim := { program := "ytnplaiolencgjaadoor", sum := "bc62971f5f7b7bdb0e08ee091fc2f7573f72daf346812530f4659e35999b0f19", func := "loop.example/switchnetworks/laws.FnExactStepOne", spec := "fnExactStepOne", inPlace := ["internal/bytealg.CountString", "internal/bytealg.IndexByteString", "internal/bytealg.IndexString"], unfollowed := true, recurses := true, named := ["unicode/utf8.first", "unicode/utf8.acceptRanges", "internal/bytealg.MaxLen"], apart := false, laid := [("unicode/utf8.acceptRanges", laid_unicode_utf8_acceptRanges), ("unicode/utf8.first", laid_unicode_utf8_first)], narrowed := true }
def FnExactStepOneUptoSaid : Prop := fnExactStepOneUptoRow.holds Tryd.pinned (OpenSpec.upto fnExactStepOneSpec)

/-- 'laws.FnExactStepAll', WHERE WHAT IT READS IS OF BULK AT MOST 1048576: true; the input reads as it did. -/
def fnExactStepAllUptoRow : OpenClaim := { program := "ytnplaiolencgjaadoor", sum := "bc62971f5f7b7bdb0e08ee091fc2f7573f72daf346812530f4659e35999b0f19", func := "loop.example/switchnetworks/laws.FnExactStepAll", spec := "fnExactStepAll", inPlace := ["internal/bytealg.CountString", "internal/bytealg.IndexByteString", "internal/bytealg.IndexString"], unfollowed := true, recurses := true, named := ["unicode/utf8.first", "unicode/utf8.acceptRanges", "internal/bytealg.MaxLen"], apart := false, laid := [("unicode/utf8.acceptRanges", laid_unicode_utf8_acceptRanges), ("unicode/utf8.first", laid_unicode_utf8_first)], narrowed := true }
def FnExactStepAllUptoSaid : Prop := fnExactStepAllUptoRow.holds Tryd.pinned (OpenSpec.upto fnExactStepAllSpec)

/-- 'laws.FnExactRestlessOf', WHERE WHAT IT READS IS OF BULK AT MOST 1048576: true; the input reads as it did. -/
def fnExactRestlessOfUptoRow : OpenClaim := { program := "ytnplaiolencgjaadoor", sum := "bc62971f5f7b7bdb0e08ee091fc2f7573f72daf346812530f4659e35999b0f19", func := "loop.example/switchnetworks/laws.FnExactRestlessOf", spec := "fnExactRestlessOf", inPlace := ["internal/bytealg.CountString", "internal/bytealg.IndexByteString", "internal/bytealg.IndexString"], unfollowed := true, recurses := true, named := ["unicode/utf8.first", "unicode/utf8.acceptRanges", "internal/bytealg.MaxLen"], apart := false, laid := [("unicode/utf8.acceptRanges", laid_unicode_utf8_acceptRanges), ("unicode/utf8.first", laid_unicode_utf8_first)], narrowed := true }
def FnExactRestlessOfUptoSaid : Prop := fnExactRestlessOfUptoRow.holds Tryd.pinned (OpenSpec.upto fnExactRestlessOfSpec)

/-- 'laws.FnExactFixedPoints', WHERE WHAT IT READS IS OF BULK AT MOST 1048576: true; the input reads as it did. -/
def fnExactFixedPointsUptoRow : OpenClaim := { program := "ytnplaiolencgjaadoor", sum := "bc62971f5f7b7bdb0e08ee091fc2f7573f72daf346812530f4659e35999b0f19", func := "loop.example/switchnetworks/laws.FnExactFixedPoints", spec := "fnExactFixedPoints", inPlace := ["internal/bytealg.CountString", "internal/bytealg.IndexByteString", "internal/bytealg.IndexString"], unfollowed := true, recurses := true, named := ["unicode/utf8.first", "unicode/utf8.acceptRanges", "internal/bytealg.MaxLen"], apart := false, laid := [("unicode/utf8.acceptRanges", laid_unicode_utf8_acceptRanges), ("unicode/utf8.first", laid_unicode_utf8_first)], narrowed := true }
def FnExactFixedPointsUptoSaid : Prop := fnExactFixedPointsUptoRow.holds Tryd.pinned (OpenSpec.upto fnExactFixedPointsSpec)

end Rows
end Go.Proofs.YtnplaiolencgjaaDoor
