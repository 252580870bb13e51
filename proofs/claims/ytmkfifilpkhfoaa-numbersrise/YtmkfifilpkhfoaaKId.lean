/- The walk through the changes. -/
import Derived.Test.YtmkfifilpkhfoaaKIc
namespace Go.Proofs.Ytmkfifilpkhfoaa
open Go.Abs
set_option maxRecDepth 100000

end Go.Proofs.Ytmkfifilpkhfoaa
