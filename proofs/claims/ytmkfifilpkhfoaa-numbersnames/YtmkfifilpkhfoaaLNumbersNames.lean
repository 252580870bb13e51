/- What is proved: the statement NumbersNames of this seat: for every input the law returns true, and each argument reads afterwards as it read before. Conditions: none. -/
import Derived.Test.YtmkfifilpkhfoaaRows
import Derived.Test.YtmkfifilpkhfoaaF
import Derived.Test.YtmkfifilpkhfoaaPNumbersNames
namespace Go.Proofs.Ytmkfifilpkhfoaa.numbersNames
open Go.Abs Go.ChangeShapes Go.WideShapes Go.ChangeAt Go.RowKit
set_option maxRecDepth 100000
theorem own : ownKnob Try.prog.godebug = none := by kernel_rfl
theorem fnIs (H : Type) (ds : List (DataW H)) (h : ds.length = Try.f9.params.toList.length) : Rows.numbersNamesSpec.fn H ds = { results := [.lit (.bool true)], args := ds } := by
  have h : ds.length = 0 := h
  match ds, h with
  | [], _ => rfl
theorem lifted (os : Os) (started : os.Started) (H : Type) (enc : TypeId × Value → H) :
    ReturnsInHanded {} Try.checked os 9 .any (Rows.numbersNamesSpec.pre6 enc Try.prog Try.f9 Rows.numbersNamesRow.domain false) (Rows.numbersNamesSpec.post enc Try.prog Try.f9 false true false false) :=
  law_lifted (C := Try.checked) (tb := 4) own started (by kernel_rfl) Try.func9
    (ChangeSpec.witness6 (enc := enc) (C := Try.checked) false ⟨#[], #[], []⟩ 8 (by kernel_rfl) (by kernel_rfl) (by kernel_rfl) (by kernel_rfl))
    (by kernel_rfl) (by kernel_rfl) (by kernel_rfl) (by kernel_rfl) (by kernel_rfl) (by kernel_rfl) (by kernel_rfl) rfl fnIs F_law24_NumbersNames.sound (by kernel_rfl)
    (fun p hp => ⟨mx, true, pure p hp, rfl⟩)
theorem over : Rows.numbersNamesRow.holds Try.pinned (OpenSpec.ofChange Rows.numbersNamesSpec) :=
  OpenClaim.holds_of_wide 9 Try.f9 rfl rfl rfl rfl rfl rfl rfl ⟨rfl, rfl, rfl, rfl, rfl⟩ rfl rfl rfl rfl rfl (by kernel_rfl) Try.func9 (by kernel_rfl)
    (of_decide_eq_true (by kernel_rfl)) (by unfold Func.isWrapper; first | (rw [if_pos (by decide +kernel)]; kernel_rfl) | (rw [if_neg (by decide +kernel)]; exact ⟨rfl, rfl⟩))
    (fun os started H enc _ => lifted os started H enc)
end Go.Proofs.Ytmkfifilpkhfoaa.numbersNames
namespace Go.Proofs.Ytmkfifilpkhfoaa
theorem numbersNames_holds : Rows.NumbersNamesSaid := numbersNames.over
#print axioms numbersNames_holds
end Go.Proofs.Ytmkfifilpkhfoaa
