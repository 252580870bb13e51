/- Records are sent. -/
import Derived.Test.YtajlmgpcfbhgjaaGreatKNb
namespace Go.Proofs.YtajlmgpcfbhgjaaGreat
open Go.Abs
set_option maxRecDepth 100000
theorem newN_ok (e n : Int) : F_numbers_New mx (e, n) = some (if inN e ∧ inN n then (e, n, 0, [], 0) else (0, 0, 0, [], 2)) := by
  simp only [F_numbers_New, inN_ok, Option.bind_some]
  by_cases h1 : inN e
  case neg => rw [decide_eq_false h1, if_neg (fun h => h1 h.1)]; rfl
  by_cases h2 : inN n
  case neg => rw [decide_eq_true h1, decide_eq_false h2, if_neg (fun h => h2 h.2)]; rfl
  rw [decide_eq_true h1, decide_eq_true h2, if_pos ⟨h1, h2⟩]; rfl
/-- The last records. -/
def lastR (l : List (List Int)) : List (List Int) := l.drop (l.length - 32)
theorem lastR_len (l : List (List Int)) : (lastR l).length = min l.length 32 := by unfold lastR; rw [List.length_drop]; omega
abbrev SR := Int × Int × Int × List (List Int) × Int × Int × Int × List Int × Int
end Go.Proofs.YtajlmgpcfbhgjaaGreat
