/- Walks: the program's functions on tables. -/
import Derived.Test.YtmecaganodeblaaWr
namespace Go.Proofs.Ytmecaganodeblaa
open Go.RowKit

end Go.Proofs.Ytmecaganodeblaa
