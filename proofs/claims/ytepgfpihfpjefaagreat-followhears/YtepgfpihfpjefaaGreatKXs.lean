/- The document's own answers on senders; what is alike. -/
import Derived.Test.YtepgfpihfpjefaaGreatKXo
import Derived.Test.YtepgfpihfpjefaaGreatKXc
import Derived.Test.YtepgfpihfpjefaaGreatKNc
namespace Go.Proofs.YtepgfpihfpjefaaGreat
open Go.Abs
set_option maxRecDepth 100000
theorem rin24_ok (x : Int) : F_ref24_in mx x = some (decide (inN x)) := by
  simp only [F_ref24_in]
  by_cases h : 0 ≤ x
  · rw [decide_eq_true h, cond_true]; congr 1; exact decide_eq_decide.2 ⟨fun hh => ⟨h, hh⟩, fun hh => hh.2⟩
  · rw [decide_eq_false h, decide_eq_false (fun hh : inN x => h hh.1)]; rfl
theorem rsame21 {v : Img} (h1 : v.2.1.length ≤ 1000000000000000000) (h2 : v.2.2.1.length ≤ 1000000000000000000) : F_ref21_Same mx (v.1, v.2.1, v.2.2.1, v.2.2.2.1, v.2.2.2.2.1, v.2.2.2.2.2, v) = some true := by
  rw [rsame_ok h1 h2, decide_eq_true rfl]
theorem rtwin21_ok {v : Img} (h1 : v.2.1.length ≤ 4294967296) (h2 : v.2.2.1.length ≤ 4294967296) : F_ref21_Twin mx v = some v := by
  obtain ⟨t, q, l, ie, inn, ib⟩ := v
  dsimp only at h1 h2
  simp only [F_ref21_Twin, ble_t h1, ble_t h2, cond_true]
end Go.Proofs.YtepgfpihfpjefaaGreat
