/- Walks: the reference's signs, decisions, sensitivity. -/
import Derived.Test.YtnplaiolencgjaaWs4
namespace Go.Proofs.Ytnplaiolencgjaa
set_option linter.unusedVariables false
set_option linter.unusedSimpArgs false
open Go.RowKit

end Go.Proofs.Ytnplaiolencgjaa
