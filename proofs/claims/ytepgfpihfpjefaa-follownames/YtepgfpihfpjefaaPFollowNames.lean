/- The plain law of FollowNames: a computation. -/
import Derived.Test.YtepgfpihfpjefaaF
import Derived.Test.YtepgfpihfpjefaaA3
namespace Go.Proofs.Ytepgfpihfpjefaa.followNames
open Go.Abs
set_option maxRecDepth 100000
theorem pure (p : (tupT (insL F_law25_FollowNames.sig.pars)).den) (_ : wfIns F_law25_FollowNames.sig.pars p) : F_law25_FollowNames mx p = some true := by
  cases p
  kernel_rfl
end Go.Proofs.Ytepgfpihfpjefaa.followNames
