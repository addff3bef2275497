/- Walks: a term lies within another one. -/
import Derived.Test.YtnplaiolencgjaaDoorWa
import Derived.Deep.QuietTactic
import Derived.BigQuiet
namespace Go.Proofs.YtnplaiolencgjaaDoor
set_option linter.unusedVariables false
set_option linter.unusedSimpArgs false
open Go.RowKit

end Go.Proofs.YtnplaiolencgjaaDoor
