/- The plain law of JournalNames: a computation. -/
import Derived.Test.YtdnfmkkaojafhaaF
import Derived.Test.YtdnfmkkaojafhaaA3
namespace Go.Proofs.Ytdnfmkkaojafhaa.journalNames
open Go.Abs
set_option maxRecDepth 100000
theorem pure (p : (tupT (insL F_law22_JournalNames.sig.pars)).den) (_ : wfIns F_law22_JournalNames.sig.pars p) : F_law22_JournalNames mx p = some true := by
  cases p
  kernel_rfl
end Go.Proofs.Ytdnfmkkaojafhaa.journalNames
