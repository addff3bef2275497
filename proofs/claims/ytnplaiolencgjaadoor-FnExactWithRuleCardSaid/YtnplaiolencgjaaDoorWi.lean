/- Walks: the program's functions on tables. -/
import Derived.Test.YtnplaiolencgjaaDoorWr
namespace Go.Proofs.YtnplaiolencgjaaDoor
set_option linter.unusedVariables false
set_option linter.unusedSimpArgs false
open Go.RowKit

end Go.Proofs.YtnplaiolencgjaaDoor
