/- What is proved: the statement ReopenRoom of this seat: for every input the law returns true, and each argument reads afterwards as it read before. Conditions: none. -/
import Derived.Test.YtpfjjbpoikgocaaRows
import Derived.Test.YtpfjjbpoikgocaaF
import Derived.Test.YtpfjjbpoikgocaaPReopenRoom
namespace Go.Proofs.Ytpfjjbpoikgocaa.reopenRoom
open Go.Abs Go.ChangeShapes Go.WideShapes Go.ChangeAt Go.RowKit
set_option maxRecDepth 100000
theorem own : ownKnob Try.prog.godebug = none := by kernel_rfl
theorem fnIs (H : Type) (ds : List (DataW H)) (h : ds.length = Try.f6.params.toList.length) : Rows.reopenRoomSpec.fn H ds = { results := [.lit (.bool true)], args := ds } := by
  have h : ds.length = 2 := h
  match ds, h with
  | [d0, d1], _ => rfl
theorem lifted (os : Os) (started : os.Started) (H : Type) (enc : TypeId × Value → H) :
    ReturnsInHanded {} Try.checked os 6 .any (Rows.reopenRoomSpec.pre6 enc Try.prog Try.f6 Rows.reopenRoomRow.domain false) (Rows.reopenRoomSpec.post enc Try.prog Try.f6 false true false false) :=
  law_lifted (C := Try.checked) (tb := 4) own started (by kernel_rfl) Try.func6
    (ChangeSpec.witness6 (enc := enc) (C := Try.checked) false ⟨#[], #[.agg #[.slice none 0 0], .slice none 0 0], []⟩ 8 (by kernel_rfl) (by kernel_rfl) (by kernel_rfl) (by kernel_rfl))
    (by kernel_rfl) (by kernel_rfl) (by kernel_rfl) (by kernel_rfl) (by kernel_rfl) (by kernel_rfl) (by kernel_rfl) rfl fnIs F_law23_ReopenRoom.sound (by kernel_rfl)
    (fun p hp => ⟨mx, true, pure p hp, rfl⟩)
theorem over : Rows.reopenRoomRow.holds Try.pinned (OpenSpec.ofChange Rows.reopenRoomSpec) :=
  OpenClaim.holds_of_wide 6 Try.f6 rfl rfl rfl rfl rfl rfl rfl ⟨rfl, rfl, rfl, rfl, rfl⟩ rfl rfl rfl rfl rfl (by kernel_rfl) Try.func6 (by kernel_rfl)
    (of_decide_eq_true (by kernel_rfl)) (by unfold Func.isWrapper; first | (rw [if_pos (by decide +kernel)]; kernel_rfl) | (rw [if_neg (by decide +kernel)]; exact ⟨rfl, rfl⟩))
    (fun os started H enc _ => lifted os started H enc)
end Go.Proofs.Ytpfjjbpoikgocaa.reopenRoom
namespace Go.Proofs.Ytpfjjbpoikgocaa
theorem reopenRoom_holds : Rows.ReopenRoomSaid := reopenRoom.over
#print axioms reopenRoom_holds
end Go.Proofs.Ytpfjjbpoikgocaa
