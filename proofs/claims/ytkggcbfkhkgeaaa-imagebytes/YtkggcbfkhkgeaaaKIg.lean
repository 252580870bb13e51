/- Guards of the laws; what is known of what is handed in. -/
import Derived.Test.YtkggcbfkhkgeaaaKIf
namespace Go.Proofs.Ytkggcbfkhkgeaaa
open Go.Abs
set_option maxRecDepth 100000
theorem alive_ok : F_law21_alive mx () = some true := by kernel_rfl
theorem small_some (v : Img) (cs : List Chg) (h1 : v.2.2.1.length ≤ 1000000000000000000) (h2 : cs.length ≤ 1000000000000000000) :
    ∃ b, F_law21_small mx (v.1, v.2.1, v.2.2.1, v.2.2.2.1, v.2.2.2.2.1, v.2.2.2.2.2, cs) = some b ∧ (b = true → cs.length ≤ 5000) := by
  obtain ⟨b1, e1, f1⟩ := great_some v h1
  obtain ⟨b2, e2, f2⟩ := heavy_some cs h2
  have e1 : F_ref21_Great mx (v.1, v.2.1, v.2.2.1, v.2.2.2.1, v.2.2.2.2.1, v.2.2.2.2.2) = some b1 := e1
  simp only [F_law21_small, e1, e2, Option.bind_some]
  cases b1 with
  | true => exact ⟨false, rfl, fun h => by cases h⟩
  | false =>
    cases b2 with
    | true => exact ⟨false, rfl, fun h => by cases h⟩
    | false =>
      simp only [Bool.not_false, cond_true]
      by_cases h : cs.length ≤ 300
      · exact ⟨true, by rw [decide_eq_true (show (cs.length : Int) ≤ 300 by omega)]; rfl, fun _ => f2 rfl⟩
      · exact ⟨_, by rw [decide_eq_false (show ¬ (cs.length : Int) ≤ 300 by omega)]; rfl, fun _ => f2 rfl⟩
/-- What is known of an image and of changes that are handed in. -/
def wfV (v : Img) : Prop := v.2.1.length ≤ 140737488351232 ∧ v.2.2.1.length ≤ 140737488351232 ∧ ∀ k ∈ v.2.2.1, k.2.1.length ≤ 140737488351232 ∧ k.2.2.1.length ≤ 140737488351232
abbrev TImg : List Ty := [.int .i64, .sl (.int .i64), .sl (.pr (.int .i64) (.pr .str (.pr .str (.pr (.int .u32) (.pr (.int .i64) (.int .u64)))))), .int .i64, .int .i64, .bool]
theorem wfV_of {v : Img} (h : wfTs TImg v) : wfV v :=
  ⟨h.2.1.2, h.2.2.1.2, fun k hk => ⟨(h.2.2.1.1 k hk).2.1.2, (h.2.2.1.1 k hk).2.2.1.2⟩⟩
abbrev TChg : Ty := .pr (.int .u8) (.pr (.int .i64) (.pr (.pr .str (.pr .str (.pr (.int .u32) (.pr (.int .i64) (.int .u64))))) (.pr .str (.pr (.int .u8) (.pr (.int .i64) .bool)))))
theorem wfC_of {c : Chg} (h : Ty.wf TChg c) : wfC c := ⟨wfu32 h.2.2.1.2.2.1, (wfu64 h.2.2.1.2.2.2.2).1, (wfu64 h.2.2.1.2.2.2.2).2⟩
end Go.Proofs.Ytkggcbfkhkgeaaa
