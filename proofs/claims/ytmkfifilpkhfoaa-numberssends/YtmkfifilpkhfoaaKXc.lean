/- The document's own changes of an image. -/
import Derived.Test.YtmkfifilpkhfoaaKXb
namespace Go.Proofs.Ytmkfifilpkhfoaa
open Go.Abs
set_option maxRecDepth 100000
theorem left_id {c : Chg} (h1 : c.1 ≠ 1) (h2 : c.1 ≠ 2) (h3 : c.1 ≠ 3) (h4 : c.1 ≠ 4) (l : List Kept) : leftL c l = l := by
  unfold leftL
  refine List.filter_eq_self.2 fun k _ => ?_
  unfold touch
  rw [if_neg h1, if_neg h2, if_neg h3, if_neg h4]; rfl
abbrev ImgE := Int × List Int × List Kept × Int × Int × Bool × Int
def RRes (y : ImgE) : Int ⊕ Img → Prop
  | .inl e => y.2.2.2.2.2.2 = e ∧ e ≠ 0
  | .inr w => y = withE w
end Go.Proofs.Ytmkfifilpkhfoaa
