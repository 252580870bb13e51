/- The plain law of ReopenNames: a computation. -/
import Derived.Test.YtpfjjbpoikgocaaF
import Derived.Test.YtpfjjbpoikgocaaA3
namespace Go.Proofs.Ytpfjjbpoikgocaa.reopenNames
open Go.Abs
set_option maxRecDepth 100000
theorem pure (p : (tupT (insL F_law23_ReopenNames.sig.pars)).den) (_ : wfIns F_law23_ReopenNames.sig.pars p) : F_law23_ReopenNames mx p = some true := by
  cases p
  kernel_rfl
end Go.Proofs.Ytpfjjbpoikgocaa.reopenNames
