/- What is proved: the statement JournalReads of this seat: for every input the law returns true, and each argument reads afterwards as it read before. Conditions: none. -/
import Derived.Test.YtdnfmkkaojafhaaRows
import Derived.Test.YtdnfmkkaojafhaaF
import Derived.Test.YtdnfmkkaojafhaaPJournalReads
namespace Go.Proofs.Ytdnfmkkaojafhaa.journalReads
open Go.Abs Go.ChangeShapes Go.WideShapes Go.ChangeAt Go.RowKit
set_option maxRecDepth 100000
theorem own : ownKnob Try.prog.godebug = none := by kernel_rfl
theorem fnIs (H : Type) (ds : List (DataW H)) (h : ds.length = Try.f5.params.toList.length) : Rows.journalReadsSpec.fn H ds = { results := [.lit (.bool true)], args := ds } := by
  have h : ds.length = 5 := h
  match ds, h with
  | [d0, d1, d2, d3, d4], _ => rfl
theorem lifted (os : Os) (started : os.Started) (H : Type) (enc : TypeId × Value → H) :
    ReturnsInHanded {} Try.checked os 5 .any (Rows.journalReadsSpec.pre6 enc Try.prog Try.f5 Rows.journalReadsRow.domain false) (Rows.journalReadsSpec.post enc Try.prog Try.f5 false true false false) :=
  law_lifted (C := Try.checked) (tb := 4) own started (by kernel_rfl) Try.func5
    (ChangeSpec.witness6 (enc := enc) (C := Try.checked) false ⟨#[], #[.agg #[.slice none 0 0], .int .u32 0, .int .i64 0, .int .i64 0, .slice none 0 0], []⟩ 8 (by kernel_rfl) (by kernel_rfl) (by kernel_rfl) (by kernel_rfl))
    (by kernel_rfl) (by kernel_rfl) (by kernel_rfl) (by kernel_rfl) (by kernel_rfl) (by kernel_rfl) (by kernel_rfl) rfl fnIs F_law22_JournalReads.sound (by kernel_rfl)
    (fun p hp => ⟨mx, true, pure p hp, rfl⟩)
theorem over : Rows.journalReadsRow.holds Try.pinned (OpenSpec.ofChange Rows.journalReadsSpec) :=
  OpenClaim.holds_of_wide 5 Try.f5 rfl rfl rfl rfl rfl rfl rfl ⟨rfl, rfl, rfl, rfl, rfl⟩ rfl rfl rfl rfl rfl (by kernel_rfl) Try.func5 (by kernel_rfl)
    (of_decide_eq_true (by kernel_rfl)) (by unfold Func.isWrapper; first | (rw [if_pos (by decide +kernel)]; kernel_rfl) | (rw [if_neg (by decide +kernel)]; exact ⟨rfl, rfl⟩))
    (fun os started H enc _ => lifted os started H enc)
end Go.Proofs.Ytdnfmkkaojafhaa.journalReads
namespace Go.Proofs.Ytdnfmkkaojafhaa
theorem journalReads_holds : Rows.JournalReadsSaid := journalReads.over
#print axioms journalReads_holds
end Go.Proofs.Ytdnfmkkaojafhaa
