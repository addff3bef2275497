/-
  DERIVED. GIVEN WITH THE SEED: THE CARDS: each row of YtnplaiolencgjaaDoorRows.lean that lists a variable, with what it lists TIED to the program's text (the seventh form; the later family's looks); each row that meets fmt, with fmt's text TOLD by the authors' own Lean function (tested against real Go, not proved from fmt's source: count such statements apart). THE CARD IS WHAT COUNTS. Prove the row's statement (the work); the ties are given (YtnplaiolencgjaaDoorTie.lean); close each card by the builder's one call (the guide's Derived/Test/ToyasCard.lean, 'card_holds'). Laid BY PROGRAM, IN A SANDBOX (cutbox-door.mjs). By AI agents, Wed Nov 11 2026. No macro, syntax, notation, axiom, sorry.
-/
import Derived.Test.YtnplaiolencgjaaDoorRows
import GoSem.ClaimSeven
namespace Go.Proofs.YtnplaiolencgjaaDoor
namespace Rows

/-- THE TIED CARD OF 'laws.FnExactWithRule'. -/
def fnExactWithRuleCard : Claim7 := { stood := { row := fnExactWithRuleRow, standIns := [], harness := (true, "b73987f70c033121661ea34b94c69c5ece6d60266b63e2e1345a9fffd63b2921"), looks := false }, kinds := [], alts := [], laidByText := true, laidKinds := [.data, .pinned], laidTests := true, laidLooks := .later }
def FnExactWithRuleCardSaid : Prop := Claim7.holds Tryd.pinned (.plain (OpenSpec.ofChange fnExactWithRuleSpec)) fnExactWithRuleCard

/-- THE TIED CARD OF 'laws.FnExactNetworkValid'. -/
def fnExactNetworkValidCard : Claim7 := { stood := { row := fnExactNetworkValidRow, standIns := [], harness := (true, "b73987f70c033121661ea34b94c69c5ece6d60266b63e2e1345a9fffd63b2921"), looks := false }, kinds := [], alts := [], laidByText := true, laidKinds := [.data, .pinned], laidTests := true, laidLooks := .later }
def FnExactNetworkValidCardSaid : Prop := Claim7.holds Tryd.pinned (.plain (OpenSpec.ofChange fnExactNetworkValidSpec)) fnExactNetworkValidCard

/-- THE TIED CARD OF 'laws.FnExactSizeOf'. -/
def fnExactSizeOfCard : Claim7 := { stood := { row := fnExactSizeOfRow, standIns := [], harness := (true, "b73987f70c033121661ea34b94c69c5ece6d60266b63e2e1345a9fffd63b2921"), looks := false }, kinds := [], alts := [], laidByText := true, laidKinds := [.data, .pinned], laidTests := true, laidLooks := .later }
def FnExactSizeOfCardSaid : Prop := Claim7.holds Tryd.pinned (.plain (OpenSpec.ofChange fnExactSizeOfSpec)) fnExactSizeOfCard

/-- THE TIED CARD OF 'laws.FnExactRuleOf'. -/
def fnExactRuleOfCard : Claim7 := { stood := { row := fnExactRuleOfRow, standIns := [], harness := (true, "b73987f70c033121661ea34b94c69c5ece6d60266b63e2e1345a9fffd63b2921"), looks := false }, kinds := [], alts := [], laidByText := true, laidKinds := [.data, .pinned], laidTests := true, laidLooks := .later }
def FnExactRuleOfCardSaid : Prop := Claim7.holds Tryd.pinned (.plain (OpenSpec.ofChange fnExactRuleOfSpec)) fnExactRuleOfCard

/-- THE TIED CARD OF 'laws.FnExactStepOne'. -/
def fnExactStepOneCard : Claim7 := { stood := { row := fnExactStepOneRow, standIns := [], harness := (true, "b73987f70c033121661ea34b94c69c5ece6d60266b63e2e1345a9fffd63b2921"), looks := false }, kinds := [], alts := [], laidByText := true, laidKinds := [.data, .pinned], laidTests := true, laidLooks := .later }
def FnExactStepOneCardSaid : Prop := Claim7.holds Tryd.pinned (.plain (OpenSpec.ofChange fnExactStepOneSpec)) fnExactStepOneCard

/-- THE TIED CARD OF 'laws.FnExactStepAll'. -/
def fnExactStepAllCard : Claim7 := { stood := { row := fnExactStepAllRow, standIns := [], harness := (true, "b73987f70c033121661ea34b94c69c5ece6d60266b63e2e1345a9fffd63b2921"), looks := false }, kinds := [], alts := [], laidByText := true, laidKinds := [.data, .pinned], laidTests := true, laidLooks := .later }
def FnExactStepAllCardSaid : Prop := Claim7.holds Tryd.pinned (.plain (OpenSpec.ofChange fnExactStepAllSpec)) fnExactStepAllCard

/-- THE TIED CARD OF 'laws.FnExactRestlessOf'. -/
def fnExactRestlessOfCard : Claim7 := { stood := { row := fnExactRestlessOfRow, standIns := [], harness := (true, "b73987f70c033121661ea34b94c69c5ece6d60266b63e2e1345a9fffd63b2921"), looks := false }, kinds := [], alts := [], laidByText := true, laidKinds := [.data, .pinned], laidTests := true, laidLooks := .later }
def FnExactRestlessOfCardSaid : Prop := Claim7.holds Tryd.pinned (.plain (OpenSpec.ofChange fnExactRestlessOfSpec)) fnExactRestlessOfCard

/-- THE TIED CARD OF 'laws.FnExactFixedPoints'. -/
def fnExactFixedPointsCard : Claim7 := { stood := { row := fnExactFixedPointsRow, standIns := [], harness := (true, "b73987f70c033121661ea34b94c69c5ece6d60266b63e2e1345a9fffd63b2921"), looks := false }, kinds := [], alts := [], laidByText := true, laidKinds := [.data, .pinned], laidTests := true, laidLooks := .later }
def FnExactFixedPointsCardSaid : Prop := Claim7.holds Tryd.pinned (.plain (OpenSpec.ofChange fnExactFixedPointsSpec)) fnExactFixedPointsCard

/-- THE SECOND FORM's CARD OF 'laws.FnExactWithRule'. -/
def fnExactWithRuleUptoCard : Claim7 := { stood := { row := fnExactWithRuleUptoRow, standIns := [], harness := (true, "b73987f70c033121661ea34b94c69c5ece6d60266b63e2e1345a9fffd63b2921"), looks := false }, kinds := [], alts := [], laidByText := true, laidKinds := [.data, .pinned], laidTests := true, laidLooks := .later }
def FnExactWithRuleUptoCardSaid : Prop := Claim7.holds Tryd.pinned (.plain (OpenSpec.upto fnExactWithRuleSpec)) fnExactWithRuleUptoCard

/-- THE SECOND FORM's CARD OF 'laws.FnExactNetworkValid'. -/
def fnExactNetworkValidUptoCard : Claim7 := { stood := { row := fnExactNetworkValidUptoRow, standIns := [], harness := (true, "b73987f70c033121661ea34b94c69c5ece6d60266b63e2e1345a9fffd63b2921"), looks := false }, kinds := [], alts := [], laidByText := true, laidKinds := [.data, .pinned], laidTests := true, laidLooks := .later }
def FnExactNetworkValidUptoCardSaid : Prop := Claim7.holds Tryd.pinned (.plain (OpenSpec.upto fnExactNetworkValidSpec)) fnExactNetworkValidUptoCard

/-- THE SECOND FORM's CARD OF 'laws.FnExactSizeOf'. -/
def fnExactSizeOfUptoCard : Claim7 := { stood := { row := fnExactSizeOfUptoRow, standIns := [], harness := (true, "b73987f70c033121661ea34b94c69c5ece6d60266b63e2e1345a9fffd63b2921"), looks := false }, kinds := [], alts := [], laidByText := true, laidKinds := [.data, .pinned], laidTests := true, laidLooks := .later }
def FnExactSizeOfUptoCardSaid : Prop := Claim7.holds Tryd.pinned (.plain (OpenSpec.upto fnExactSizeOfSpec)) fnExactSizeOfUptoCard

/-- THE SECOND FORM's CARD OF 'laws.FnExactRuleOf'. -/
def fnExactRuleOfUptoCard : Claim7 := { stood := { row := fnExactRuleOfUptoRow, standIns := [], harness := (true, "b73987f70c033121661ea34b94c69c5ece6d60266b63e2e1345a9fffd63b2921"), looks := false }, kinds := [], alts := [], laidByText := true, laidKinds := [.data, .pinned], laidTests := true, laidLooks := .later }
def FnExactRuleOfUptoCardSaid : Prop := Claim7.holds Tryd.pinned (.plain (OpenSpec.upto fnExactRuleOfSpec)) fnExactRuleOfUptoCard

/-- THE SECOND FORM's CARD OF 'laws.FnExactStepOne'. -/
def fnExactStepOneUptoCard : Claim7 := { stood := { row := fnExactStepOneUptoRow, standIns := [], harness := (true, "b73987f70c033121661ea34b94c69c5ece6d60266b63e2e1345a9fffd63b2921"), looks := false }, kinds := [], alts := [], laidByText := true, laidKinds := [.data, .pinned], laidTests := true, laidLooks := .later }
def FnExactStepOneUptoCardSaid : Prop := Claim7.holds Tryd.pinned (.plain (OpenSpec.upto fnExactStepOneSpec)) fnExactStepOneUptoCard

/-- THE SECOND FORM's CARD OF 'laws.FnExactStepAll'. -/
def fnExactStepAllUptoCard : Claim7 := { stood := { row := fnExactStepAllUptoRow, standIns := [], harness := (true, "b73987f70c033121661ea34b94c69c5ece6d60266b63e2e1345a9fffd63b2921"), looks := false }, kinds := [], alts := [], laidByText := true, laidKinds := [.data, .pinned], laidTests := true, laidLooks := .later }
def FnExactStepAllUptoCardSaid : Prop := Claim7.holds Tryd.pinned (.plain (OpenSpec.upto fnExactStepAllSpec)) fnExactStepAllUptoCard

/-- THE SECOND FORM's CARD OF 'laws.FnExactRestlessOf'. -/
def fnExactRestlessOfUptoCard : Claim7 := { stood := { row := fnExactRestlessOfUptoRow, standIns := [], harness := (true, "b73987f70c033121661ea34b94c69c5ece6d60266b63e2e1345a9fffd63b2921"), looks := false }, kinds := [], alts := [], laidByText := true, laidKinds := [.data, .pinned], laidTests := true, laidLooks := .later }
def FnExactRestlessOfUptoCardSaid : Prop := Claim7.holds Tryd.pinned (.plain (OpenSpec.upto fnExactRestlessOfSpec)) fnExactRestlessOfUptoCard

/-- THE SECOND FORM's CARD OF 'laws.FnExactFixedPoints'. -/
def fnExactFixedPointsUptoCard : Claim7 := { stood := { row := fnExactFixedPointsUptoRow, standIns := [], harness := (true, "b73987f70c033121661ea34b94c69c5ece6d60266b63e2e1345a9fffd63b2921"), looks := false }, kinds := [], alts := [], laidByText := true, laidKinds := [.data, .pinned], laidTests := true, laidLooks := .later }
def FnExactFixedPointsUptoCardSaid : Prop := Claim7.holds Tryd.pinned (.plain (OpenSpec.upto fnExactFixedPointsSpec)) fnExactFixedPointsUptoCard
end Rows
end Go.Proofs.YtnplaiolencgjaaDoor
