/- What is proved: the statement FollowHears of this seat: for every input the law returns true, and each argument reads afterwards as it read before. Conditions: none. -/
import Derived.Test.YtepgfpihfpjefaaGreatRows
import Derived.Test.YtepgfpihfpjefaaGreatF
import Derived.Test.YtepgfpihfpjefaaGreatPFollowHears
namespace Go.Proofs.YtepgfpihfpjefaaGreat.followHears
open Go.Abs Go.ChangeShapes Go.WideShapes Go.ChangeAt Go.RowKit
set_option maxRecDepth 100000
theorem own : ownKnob Tryz.prog.godebug = none := by kernel_rfl
theorem fnIs (H : Type) (ds : List (DataW H)) (h : ds.length = Tryz.f3.params.toList.length) : Rows.followHearsSpec.fn H ds = { results := [.lit (.bool true)], args := ds } := by
  have h : ds.length = 4 := h
  match ds, h with
  | [d0, d1, d2, d3], _ => rfl
theorem lifted (os : Os) (started : os.Started) (H : Type) (enc : TypeId × Value → H) :
    ReturnsInHanded {} Tryz.checked os 3 .any (Rows.followHearsSpec.pre6 enc Tryz.prog Tryz.f3 Rows.followHearsRow.domain false) (Rows.followHearsSpec.post enc Tryz.prog Tryz.f3 false true false false) :=
  law_lifted (C := Tryz.checked) (tb := 4) own started (by kernel_rfl) Tryz.func3
    (ChangeSpec.witness6 (enc := enc) (C := Tryz.checked) false ⟨#[], #[.agg #[.int .i64 0, .int .i64 0, .int .i64 0, .slice none 0 0, .slice none 0 0, .int .i64 0, .int .i64 0, .bool false], .agg #[.int .u8 0, .int .i64 0, .int .i64 0, .slice none 0 0], .agg #[.int .i64 0, .slice none 0 0, .slice none 0 0, .int .i64 0, .int .i64 0, .bool false], .int .i64 0], []⟩ 8 (by kernel_rfl) (by kernel_rfl) (by kernel_rfl) (by kernel_rfl))
    (by kernel_rfl) (by kernel_rfl) (by kernel_rfl) (by kernel_rfl) (by kernel_rfl) (by kernel_rfl) (by kernel_rfl) rfl fnIs F_law25_FollowHears.sound (by kernel_rfl)
    (fun p hp => ⟨mx, true, pure p hp, rfl⟩)
theorem over : Rows.followHearsRow.holds Tryz.pinned (OpenSpec.ofChange Rows.followHearsSpec) :=
  OpenClaim.holds_of_wide 3 Tryz.f3 rfl rfl rfl rfl rfl rfl rfl ⟨rfl, rfl, rfl, rfl, rfl⟩ rfl rfl rfl rfl rfl (by kernel_rfl) Tryz.func3 (by kernel_rfl)
    (of_decide_eq_true (by kernel_rfl)) (by unfold Func.isWrapper; first | (rw [if_pos (by decide +kernel)]; kernel_rfl) | (rw [if_neg (by decide +kernel)]; exact ⟨rfl, rfl⟩))
    (fun os started H enc _ => lifted os started H enc)
end Go.Proofs.YtepgfpihfpjefaaGreat.followHears
namespace Go.Proofs.YtepgfpihfpjefaaGreat
theorem followHears_holds : Rows.FollowHearsSaid := followHears.over
#print axioms followHears_holds
end Go.Proofs.YtepgfpihfpjefaaGreat
