/- The plain law of ImageNames: a computation. -/
import Derived.Test.YtkggcbfkhkgeaaaF
import Derived.Test.YtkggcbfkhkgeaaaA3
namespace Go.Proofs.Ytkggcbfkhkgeaaa.imageNames
open Go.Abs
set_option maxRecDepth 100000
theorem pure (p : (tupT (insL F_law21_ImageNames.sig.pars)).den) (_ : wfIns F_law21_ImageNames.sig.pars p) : F_law21_ImageNames mx p = some true := by
  cases p
  kernel_rfl
end Go.Proofs.Ytkggcbfkhkgeaaa.imageNames
