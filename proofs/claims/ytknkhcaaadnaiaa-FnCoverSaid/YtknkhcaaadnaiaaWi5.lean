/- Walks: the program's signs, decisions, sensitivity. -/
import Derived.Test.YtknkhcaaadnaiaaWi3
namespace Go.Proofs.Ytknkhcaaadnaiaa
set_option linter.unusedVariables false
set_option linter.unusedSimpArgs false
open Go.RowKit

end Go.Proofs.Ytknkhcaaadnaiaa
