/- The plain law of ItemNames: a computation. -/
import Derived.Test.YtekpgceagamjiaaDoorF
import Derived.Test.YtekpgceagamjiaaDoorA3
namespace Go.Proofs.YtekpgceagamjiaaDoor.itemNames
open Go.Abs
set_option maxRecDepth 100000
theorem pure (p : (tupT (insL F_law09_ItemNames.sig.pars)).den) (_ : wfIns F_law09_ItemNames.sig.pars p) : F_law09_ItemNames mx p = some true := by
  cases p
  kernel_rfl
end Go.Proofs.YtekpgceagamjiaaDoor.itemNames
