/- The plain law of SlabNames: a computation. -/
import Derived.Test.YtmkcmchmmemcgaaDoorF
import Derived.Test.YtmkcmchmmemcgaaDoorA3
namespace Go.Proofs.YtmkcmchmmemcgaaDoor.slabNames
open Go.Abs
set_option maxRecDepth 100000
theorem pure (p : (tupT (insL F_law05_SlabNames.sig.pars)).den) (_ : wfIns F_law05_SlabNames.sig.pars p) : F_law05_SlabNames mx p = some true := by
  cases p
  kernel_rfl
end Go.Proofs.YtmkcmchmmemcgaaDoor.slabNames
