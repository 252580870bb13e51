/- What is proved: the statement PromoteNames of this seat: for every input the law returns true, and each argument reads afterwards as it read before. Conditions: none. -/
import Derived.Test.YtajlmgpcfbhgjaaRows
import Derived.Test.YtajlmgpcfbhgjaaF
import Derived.Test.YtajlmgpcfbhgjaaPPromoteNames
namespace Go.Proofs.Ytajlmgpcfbhgjaa.promoteNames
open Go.Abs Go.ChangeShapes Go.WideShapes Go.ChangeAt Go.RowKit
set_option maxRecDepth 100000
theorem own : ownKnob Try.prog.godebug = none := by kernel_rfl
theorem fnIs (H : Type) (ds : List (DataW H)) (h : ds.length = Try.f4.params.toList.length) : Rows.promoteNamesSpec.fn H ds = { results := [.lit (.bool true)], args := ds } := by
  have h : ds.length = 0 := h
  match ds, h with
  | [], _ => rfl
theorem lifted (os : Os) (started : os.Started) (H : Type) (enc : TypeId × Value → H) :
    ReturnsInHanded {} Try.checked os 4 .any (Rows.promoteNamesSpec.pre6 enc Try.prog Try.f4 Rows.promoteNamesRow.domain false) (Rows.promoteNamesSpec.post enc Try.prog Try.f4 false true false false) :=
  law_lifted (C := Try.checked) (tb := 4) own started (by kernel_rfl) Try.func4
    (ChangeSpec.witness6 (enc := enc) (C := Try.checked) false ⟨#[], #[], []⟩ 8 (by kernel_rfl) (by kernel_rfl) (by kernel_rfl) (by kernel_rfl))
    (by kernel_rfl) (by kernel_rfl) (by kernel_rfl) (by kernel_rfl) (by kernel_rfl) (by kernel_rfl) (by kernel_rfl) rfl fnIs F_law26_PromoteNames.sound (by kernel_rfl)
    (fun p hp => ⟨mx, true, pure p hp, rfl⟩)
theorem over : Rows.promoteNamesRow.holds Try.pinned (OpenSpec.ofChange Rows.promoteNamesSpec) :=
  OpenClaim.holds_of_wide 4 Try.f4 rfl rfl rfl rfl rfl rfl rfl ⟨rfl, rfl, rfl, rfl, rfl⟩ rfl rfl rfl rfl rfl (by kernel_rfl) Try.func4 (by kernel_rfl)
    (of_decide_eq_true (by kernel_rfl)) (by unfold Func.isWrapper; first | (rw [if_pos (by decide +kernel)]; kernel_rfl) | (rw [if_neg (by decide +kernel)]; exact ⟨rfl, rfl⟩))
    (fun os started H enc _ => lifted os started H enc)
end Go.Proofs.Ytajlmgpcfbhgjaa.promoteNames
namespace Go.Proofs.Ytajlmgpcfbhgjaa
theorem promoteNames_holds : Rows.PromoteNamesSaid := promoteNames.over
#print axioms promoteNames_holds
end Go.Proofs.Ytajlmgpcfbhgjaa
