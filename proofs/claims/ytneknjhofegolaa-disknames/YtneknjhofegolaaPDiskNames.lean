/- The plain law of DiskNames: a computation. -/
import Derived.Test.YtneknjhofegolaaF
import Derived.Test.YtneknjhofegolaaA3
namespace Go.Proofs.Ytneknjhofegolaa.diskNames
open Go.Abs
set_option maxRecDepth 100000
theorem pure (p : (tupT (insL F_law02_DiskNames.sig.pars)).den) (_ : wfIns F_law02_DiskNames.sig.pars p) : F_law02_DiskNames mx p = some true := by
  cases p
  kernel_rfl
end Go.Proofs.Ytneknjhofegolaa.diskNames
