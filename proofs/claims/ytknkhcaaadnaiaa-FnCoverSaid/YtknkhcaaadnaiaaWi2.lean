/- Walks: the program's functions that make tables. -/
import Derived.Test.YtknkhcaaadnaiaaWi
namespace Go.Proofs.Ytknkhcaaadnaiaa
set_option linter.unusedVariables false
set_option linter.unusedSimpArgs false
open Go.RowKit

end Go.Proofs.Ytknkhcaaadnaiaa
