/- What is proved: the statement ImageNames of this seat: for every input the law returns true, and each argument reads afterwards as it read before. Conditions: none. -/
import Derived.Test.YtkggcbfkhkgeaaaRows
import Derived.Test.YtkggcbfkhkgeaaaF
import Derived.Test.YtkggcbfkhkgeaaaPImageNames
namespace Go.Proofs.Ytkggcbfkhkgeaaa.imageNames
open Go.Abs Go.ChangeShapes Go.WideShapes Go.ChangeAt Go.RowKit
set_option maxRecDepth 100000
theorem own : ownKnob Try.prog.godebug = none := by kernel_rfl
theorem fnIs (H : Type) (ds : List (DataW H)) (h : ds.length = Try.f8.params.toList.length) : Rows.imageNamesSpec.fn H ds = { results := [.lit (.bool true)], args := ds } := by
  have h : ds.length = 0 := h
  match ds, h with
  | [], _ => rfl
theorem lifted (os : Os) (started : os.Started) (H : Type) (enc : TypeId × Value → H) :
    ReturnsInHanded {} Try.checked os 8 .any (Rows.imageNamesSpec.pre6 enc Try.prog Try.f8 Rows.imageNamesRow.domain false) (Rows.imageNamesSpec.post enc Try.prog Try.f8 false true false false) :=
  law_lifted (C := Try.checked) (tb := 4) own started (by kernel_rfl) Try.func8
    (ChangeSpec.witness6 (enc := enc) (C := Try.checked) false ⟨#[], #[], []⟩ 8 (by kernel_rfl) (by kernel_rfl) (by kernel_rfl) (by kernel_rfl))
    (by kernel_rfl) (by kernel_rfl) (by kernel_rfl) (by kernel_rfl) (by kernel_rfl) (by kernel_rfl) (by kernel_rfl) rfl fnIs F_law21_ImageNames.sound (by kernel_rfl)
    (fun p hp => ⟨mx, true, pure p hp, rfl⟩)
theorem over : Rows.imageNamesRow.holds Try.pinned (OpenSpec.ofChange Rows.imageNamesSpec) :=
  OpenClaim.holds_of_wide 8 Try.f8 rfl rfl rfl rfl rfl rfl rfl ⟨rfl, rfl, rfl, rfl, rfl⟩ rfl rfl rfl rfl rfl (by kernel_rfl) Try.func8 (by kernel_rfl)
    (of_decide_eq_true (by kernel_rfl)) (by unfold Func.isWrapper; first | (rw [if_pos (by decide +kernel)]; kernel_rfl) | (rw [if_neg (by decide +kernel)]; exact ⟨rfl, rfl⟩))
    (fun os started H enc _ => lifted os started H enc)
end Go.Proofs.Ytkggcbfkhkgeaaa.imageNames
namespace Go.Proofs.Ytkggcbfkhkgeaaa
theorem imageNames_holds : Rows.ImageNamesSaid := imageNames.over
#print axioms imageNames_holds
end Go.Proofs.Ytkggcbfkhkgeaaa
