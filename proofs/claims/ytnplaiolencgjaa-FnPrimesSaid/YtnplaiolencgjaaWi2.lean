/- Walks: the program's functions that make tables. -/
import Derived.Test.YtnplaiolencgjaaWi
namespace Go.Proofs.Ytnplaiolencgjaa
set_option linter.unusedVariables false
set_option linter.unusedSimpArgs false
open Go.RowKit

end Go.Proofs.Ytnplaiolencgjaa
