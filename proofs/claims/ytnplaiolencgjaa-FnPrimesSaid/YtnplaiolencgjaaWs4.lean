/- Walks: the reference's functions on two tables, on a held input, on signs. -/
import Derived.Test.YtnplaiolencgjaaPd
import Derived.Test.YtnplaiolencgjaaWs3
namespace Go.Proofs.Ytnplaiolencgjaa
set_option linter.unusedVariables false
set_option linter.unusedSimpArgs false
open Go.RowKit

end Go.Proofs.Ytnplaiolencgjaa
