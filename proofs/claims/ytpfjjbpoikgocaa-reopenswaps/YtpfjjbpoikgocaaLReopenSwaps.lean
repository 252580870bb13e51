/- What is proved: the statement ReopenSwaps of this seat: for every input the law returns true, and each argument reads afterwards as it read before. Conditions: none. -/
import Derived.Test.YtpfjjbpoikgocaaRows
import Derived.Test.YtpfjjbpoikgocaaF
import Derived.Test.YtpfjjbpoikgocaaPReopenSwaps
namespace Go.Proofs.Ytpfjjbpoikgocaa.reopenSwaps
open Go.Abs Go.ChangeShapes Go.WideShapes Go.ChangeAt Go.RowKit
set_option maxRecDepth 100000
theorem own : ownKnob Try.prog.godebug = none := by kernel_rfl
theorem fnIs (H : Type) (ds : List (DataW H)) (h : ds.length = Try.f3.params.toList.length) : Rows.reopenSwapsSpec.fn H ds = { results := [.lit (.bool true)], args := ds } := by
  have h : ds.length = 3 := h
  match ds, h with
  | [d0, d1, d2], _ => rfl
theorem lifted (os : Os) (started : os.Started) (H : Type) (enc : TypeId × Value → H) :
    ReturnsInHanded {} Try.checked os 3 .any (Rows.reopenSwapsSpec.pre6 enc Try.prog Try.f3 Rows.reopenSwapsRow.domain false) (Rows.reopenSwapsSpec.post enc Try.prog Try.f3 false true false false) :=
  law_lifted (C := Try.checked) (tb := 4) own started (by kernel_rfl) Try.func3
    (ChangeSpec.witness6 (enc := enc) (C := Try.checked) false ⟨#[], #[.agg #[.slice none 0 0], .agg #[.int .i64 0, .slice none 0 0, .slice none 0 0, .int .i64 0, .int .i64 0, .bool false], .int .i64 0], []⟩ 8 (by kernel_rfl) (by kernel_rfl) (by kernel_rfl) (by kernel_rfl))
    (by kernel_rfl) (by kernel_rfl) (by kernel_rfl) (by kernel_rfl) (by kernel_rfl) (by kernel_rfl) (by kernel_rfl) rfl fnIs F_law23_ReopenSwaps.sound (by kernel_rfl)
    (fun p hp => ⟨mx, true, pure p hp, rfl⟩)
theorem over : Rows.reopenSwapsRow.holds Try.pinned (OpenSpec.ofChange Rows.reopenSwapsSpec) :=
  OpenClaim.holds_of_wide 3 Try.f3 rfl rfl rfl rfl rfl rfl rfl ⟨rfl, rfl, rfl, rfl, rfl⟩ rfl rfl rfl rfl rfl (by kernel_rfl) Try.func3 (by kernel_rfl)
    (of_decide_eq_true (by kernel_rfl)) (by unfold Func.isWrapper; first | (rw [if_pos (by decide +kernel)]; kernel_rfl) | (rw [if_neg (by decide +kernel)]; exact ⟨rfl, rfl⟩))
    (fun os started H enc _ => lifted os started H enc)
end Go.Proofs.Ytpfjjbpoikgocaa.reopenSwaps
namespace Go.Proofs.Ytpfjjbpoikgocaa
theorem reopenSwaps_holds : Rows.ReopenSwapsSaid := reopenSwaps.over
#print axioms reopenSwaps_holds
end Go.Proofs.Ytpfjjbpoikgocaa
