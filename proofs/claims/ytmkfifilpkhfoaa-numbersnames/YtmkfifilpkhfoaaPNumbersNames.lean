/- The plain law of NumbersNames: a computation. -/
import Derived.Test.YtmkfifilpkhfoaaF
import Derived.Test.YtmkfifilpkhfoaaA3
namespace Go.Proofs.Ytmkfifilpkhfoaa.numbersNames
open Go.Abs
set_option maxRecDepth 100000
theorem pure (p : (tupT (insL F_law24_NumbersNames.sig.pars)).den) (_ : wfIns F_law24_NumbersNames.sig.pars p) : F_law24_NumbersNames mx p = some true := by
  cases p
  kernel_rfl
end Go.Proofs.Ytmkfifilpkhfoaa.numbersNames
