/- The plain law of QuotaNames: a closed computation. -/
import Derived.Test.YtnnfjeofdcjfoaaF
import Derived.Test.YtnnfjeofdcjfoaaA2
namespace Go.Proofs.Ytnnfjeofdcjfoaa.quotaNames
open Go.Abs
set_option maxRecDepth 100000
theorem pure (p : Unit) (_ : wfIns F_law08_QuotaNames.sig.pars p) : F_law08_QuotaNames mx p = some true := by
  have h : F_law08_QuotaNames mx () = some true := by kernel_rfl
  exact h
end Go.Proofs.Ytnnfjeofdcjfoaa.quotaNames
