/- Walks: the program's functions that make tables. -/
import Derived.Test.YtmecaganodeblaaWi
namespace Go.Proofs.Ytmecaganodeblaa
open Go.RowKit

end Go.Proofs.Ytmecaganodeblaa
