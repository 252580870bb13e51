/- The plain law of PromoteNames: a computation. -/
import Derived.Test.YtajlmgpcfbhgjaaF
import Derived.Test.YtajlmgpcfbhgjaaA3
namespace Go.Proofs.Ytajlmgpcfbhgjaa.promoteNames
open Go.Abs
set_option maxRecDepth 100000
theorem pure (p : (tupT (insL F_law26_PromoteNames.sig.pars)).den) (_ : wfIns F_law26_PromoteNames.sig.pars p) : F_law26_PromoteNames mx p = some true := by
  cases p
  kernel_rfl
end Go.Proofs.Ytajlmgpcfbhgjaa.promoteNames
