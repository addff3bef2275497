/- Walks: lists of numbers are compared, marked, held. -/
import Derived.Test.YtdpojljcefglmaaPd
import Derived.Test.YtdpojljcefglmaaWq
import Derived.Test.YtdpojljcefglmaaChecked
import Derived.WalkLawsBesides
import Derived.WalkSpells
import Derived.Lib.Hide
import Derived.IntWalk
import Derived.Deep.Light
import Derived.Deep.QuietTactic
import Derived.BigQuiet
import Derived.Outline
namespace Go.Proofs.Ytdpojljcefglmaa
set_option linter.unusedVariables false
set_option linter.unusedSimpArgs false
open Go.RowKit

theorem below_drewN {B : Nat} {a w : World} (h : Below B a w) (n : Nat) : Below B a (w.drewN n) := ⟨h.os, h.tape, h.output, h.size, h.block⟩

/-- The numbers 1, 2, .. that a list is marked with. -/
def marksI (n : Nat) : List Nat := (List.range n).map (· + 1)

end Go.Proofs.Ytdpojljcefglmaa
