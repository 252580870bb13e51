/- The document's own answers on senders; what is alike. -/
import Derived.Test.YtmkfifilpkhfoaaKXo
import Derived.Test.YtmkfifilpkhfoaaKXc
import Derived.Test.YtmkfifilpkhfoaaKNc
namespace Go.Proofs.Ytmkfifilpkhfoaa
open Go.Abs
set_option maxRecDepth 100000
theorem rin24_ok (x : Int) : F_ref24_in mx x = some (decide (inN x)) := by
  simp only [F_ref24_in]
  by_cases h : 0 ≤ x
  · rw [decide_eq_true h, cond_true]; congr 1; exact decide_eq_decide.2 ⟨fun hh => ⟨h, hh⟩, fun hh => hh.2⟩
  · rw [decide_eq_false h, decide_eq_false (fun hh : inN x => h hh.1)]; rfl
end Go.Proofs.Ytmkfifilpkhfoaa
