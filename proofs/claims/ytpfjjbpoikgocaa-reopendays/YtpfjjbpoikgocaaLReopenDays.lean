/- What is proved: the statement ReopenDays of this seat: for every input the law returns true, and each argument reads afterwards as it read before. Conditions: none. -/
import Derived.Test.YtpfjjbpoikgocaaRows
import Derived.Test.YtpfjjbpoikgocaaF
import Derived.Test.YtpfjjbpoikgocaaPReopenDays
namespace Go.Proofs.Ytpfjjbpoikgocaa.reopenDays
open Go.Abs Go.ChangeShapes Go.WideShapes Go.ChangeAt Go.RowKit
set_option maxRecDepth 100000
theorem own : ownKnob Try.prog.godebug = none := by kernel_rfl
theorem fnIs (H : Type) (ds : List (DataW H)) (h : ds.length = Try.f7.params.toList.length) : Rows.reopenDaysSpec.fn H ds = { results := [.lit (.bool true)], args := ds } := by
  have h : ds.length = 3 := h
  match ds, h with
  | [d0, d1, d2], _ => rfl
theorem lifted (os : Os) (started : os.Started) (H : Type) (enc : TypeId × Value → H) :
    ReturnsInHanded {} Try.checked os 7 .any (Rows.reopenDaysSpec.pre6 enc Try.prog Try.f7 Rows.reopenDaysRow.domain false) (Rows.reopenDaysSpec.post enc Try.prog Try.f7 false true false false) :=
  law_lifted (C := Try.checked) (tb := 4) own started (by kernel_rfl) Try.func7
    (ChangeSpec.witness6 (enc := enc) (C := Try.checked) false ⟨#[], #[.int .i64 0, .slice none 0 0, .slice none 0 0], []⟩ 8 (by kernel_rfl) (by kernel_rfl) (by kernel_rfl) (by kernel_rfl))
    (by kernel_rfl) (by kernel_rfl) (by kernel_rfl) (by kernel_rfl) (by kernel_rfl) (by kernel_rfl) (by kernel_rfl) rfl fnIs F_law23_ReopenDays.sound (by kernel_rfl)
    (fun p hp => ⟨mx, true, pure p hp, rfl⟩)
theorem over : Rows.reopenDaysRow.holds Try.pinned (OpenSpec.ofChange Rows.reopenDaysSpec) :=
  OpenClaim.holds_of_wide 7 Try.f7 rfl rfl rfl rfl rfl rfl rfl ⟨rfl, rfl, rfl, rfl, rfl⟩ rfl rfl rfl rfl rfl (by kernel_rfl) Try.func7 (by kernel_rfl)
    (of_decide_eq_true (by kernel_rfl)) (by unfold Func.isWrapper; first | (rw [if_pos (by decide +kernel)]; kernel_rfl) | (rw [if_neg (by decide +kernel)]; exact ⟨rfl, rfl⟩))
    (fun os started H enc _ => lifted os started H enc)
end Go.Proofs.Ytpfjjbpoikgocaa.reopenDays
namespace Go.Proofs.Ytpfjjbpoikgocaa
theorem reopenDays_holds : Rows.ReopenDaysSaid := reopenDays.over
#print axioms reopenDays_holds
end Go.Proofs.Ytpfjjbpoikgocaa
