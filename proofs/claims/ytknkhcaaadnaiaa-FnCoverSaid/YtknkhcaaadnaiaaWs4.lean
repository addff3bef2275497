/- Walks: the reference's functions on two tables, on a held input, on signs. -/
import Derived.Test.YtknkhcaaadnaiaaPd
import Derived.Test.YtknkhcaaadnaiaaWs3
namespace Go.Proofs.Ytknkhcaaadnaiaa
set_option linter.unusedVariables false
set_option linter.unusedSimpArgs false
open Go.RowKit

end Go.Proofs.Ytknkhcaaadnaiaa
