/- The document's own changes of an image. -/
import Derived.Test.YtmkfifilpkhfoaaKXb
namespace Go.Proofs.Ytmkfifilpkhfoaa
open Go.Abs
set_option maxRecDepth 100000
theorem left_id {c : Chg} (h1 : c.1 ≠ 1) (h2 : c.1 ≠ 2) (h3 : c.1 ≠ 3) (h4 : c.1 ≠ 4) (l : List Kept) : leftL c l = l := by
  unfold leftL
  refine List.filter_eq_self.2 fun k _ => ?_
  unfold touch
  rw [if_neg h1, if_neg h2, if_neg h3, if_neg h4]; rfl
abbrev ImgE := Int × List Int × List Kept × Int × Int × Bool × Int
def RRes (y : ImgE) : Int ⊕ Img → Prop
  | .inl e => y.2.2.2.2.2.2 = e ∧ e ≠ 0
  | .inr w => y = withE w
theorem new_ok {q : List Int} : F_image_New mx q = some (if quotasOk q then (0, q, [], 0, 0, false, 0) else zeroI 2) := by
  simp only [F_image_New, quotas_ok, Option.bind_some]
  by_cases h : quotasOk q
  · have c1 : Nat.ble q.length 4294967296 = true := ble_t (by have := h.2.1; omega)
    rw [decide_eq_true h, if_pos h]
    simp only [Bool.not_true, cond_false, C_slices_Clone_int, c1, cond_true, Option.bind_some]
  · rw [decide_eq_false h, if_neg h]; rfl
end Go.Proofs.Ytmkfifilpkhfoaa
