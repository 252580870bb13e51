/- The document's own answers on followers. -/
import Derived.Test.YtepgfpihfpjefaaGreatKXs
import Derived.Test.YtepgfpihfpjefaaGreatKFo
namespace Go.Proofs.YtepgfpihfpjefaaGreat
open Go.Abs
set_option maxRecDepth 100000
theorem rcheck25_ok {f : Fol} (hb : ∀ k ∈ f.2.2.2.2.1, k.2.1.length ≤ 140737488351232 ∧ k.2.2.1.length ≤ 140737488351232) : F_ref25_Check mx f = some (if okF f then 0 else 8) := by
  have hic := rcheck_ok (v := f.2.2) hb
  obtain ⟨e, n, t, q, l, ie, inn, ib⟩ := f
  dsimp only at hic
  have no : ¬ okF (e, n, t, q, l, ie, inn, ib) → (if okF (e, n, t, q, l, ie, inn, ib) then (0 : Int) else 8) = 8 := fun h => if_neg h
  simp only [F_ref25_Check, Option.bind_some, hic, bne_int]
  by_cases h1 : e < 0
  · rw [decide_eq_true h1, no (fun h => by have := h.1.1; dsimp only at this; omega)]; rfl
  rw [decide_eq_false h1]
  by_cases h2 : 2147483647 < e
  · rw [decide_eq_true h2, no (fun h => by have := h.1.2; dsimp only at this; omega)]; rfl
  rw [decide_eq_false h2]
  by_cases h3 : n < 0
  · rw [decide_eq_true h3, no (fun h => by have := h.2.1.1; dsimp only at this; omega)]; rfl
  rw [decide_eq_false h3]
  by_cases h4 : 2147483647 < n
  · rw [decide_eq_true h4, no (fun h => by have := h.2.1.2; dsimp only at this; omega)]; rfl
  rw [decide_eq_false h4]
  by_cases h5 : okI (t, q, l, ie, inn, ib)
  case neg => rw [if_neg h5, no (fun h => h5 h.2.2.1)]; rfl
  rw [if_pos h5]
  by_cases h6 : ie = e
  case neg => rw [decide_eq_false h6, no (fun h => h6 h.2.2.2.1)]; rfl
  by_cases h7 : inn = n
  case neg => rw [decide_eq_true h6, decide_eq_false h7, no (fun h => h7 h.2.2.2.2.1)]; rfl
  rw [decide_eq_true h6, decide_eq_true h7]
  cases ib with
  | true => rw [no (fun h => by have := h.2.2.2.2.2; cases this)]; rfl
  | false => rw [if_pos (show okF (e, n, t, q, l, ie, inn, false) from ⟨⟨by dsimp only; omega, by dsimp only; omega⟩, ⟨by dsimp only; omega, by dsimp only; omega⟩, h5, h6, h7, rfl⟩)]; rfl
theorem rtwin25_ok {f : Fol} (h1 : f.2.2.2.1.length ≤ 4294967296) (h2 : f.2.2.2.2.1.length ≤ 4294967296) : F_ref25_Twin mx f = some f := by
  have h := rtwin21_ok (v := f.2.2) h1 h2
  obtain ⟨e, n, t, q, l, ie, inn, ib⟩ := f
  dsimp only at h
  simp only [F_ref25_Twin, h, Option.bind_some]
theorem rsame25_ok {f : Fol} (h1 : f.2.2.2.1.length ≤ 1000000000000000000) (h2 : f.2.2.2.2.1.length ≤ 1000000000000000000) : F_ref25_Same mx (f.1, f.2.1, f.2.2.1, f.2.2.2.1, f.2.2.2.2.1, f.2.2.2.2.2.1, f.2.2.2.2.2.2.1, f.2.2.2.2.2.2.2, f) = some true := by
  have h := rsame21 (v := f.2.2) h1 h2
  obtain ⟨e, n, t, q, l, ie, inn, ib⟩ := f
  dsimp only at h ⊢
  simp only [F_ref25_Same, beq_self_eq_true, cond_true, h, Option.bind_some]
end Go.Proofs.YtepgfpihfpjefaaGreat
