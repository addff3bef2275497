/- Walks: the program's signs, decisions, sensitivity. -/
import Derived.Test.YtnplaiolencgjaaWi3
namespace Go.Proofs.Ytnplaiolencgjaa
set_option linter.unusedVariables false
set_option linter.unusedSimpArgs false
open Go.RowKit

end Go.Proofs.Ytnplaiolencgjaa
