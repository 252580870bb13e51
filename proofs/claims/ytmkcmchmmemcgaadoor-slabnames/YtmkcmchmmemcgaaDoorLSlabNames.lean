/- What is proved: the tied card SlabNames of this seat: for every input the law returns true, and each argument reads afterwards as it read before. The row lists one variable of the library; the given tie ties it to the program's text. -/
import Derived.Test.YtmkcmchmmemcgaaDoorRows
import Derived.Test.YtmkcmchmmemcgaaDoorTie
import Derived.Test.YtmkcmchmmemcgaaDoorCards
import Derived.Test.YtmkcmchmmemcgaaDoorF
import Derived.Test.YtmkcmchmmemcgaaDoorPSlabNames
import Derived.LaidMore
import Derived.SevenTiedAt
import Derived.Stop.Joined
namespace Go.Proofs.YtmkcmchmmemcgaaDoor.slabNames
open Go.Abs Go.ChangeShapes Go.WideShapes Go.ChangeAt Go.RowKit
set_option maxRecDepth 100000
theorem own : ownKnob Tryd.prog.godebug = none := by kernel_rfl
theorem fnIs (H : Type) (ds : List (DataW H)) (h : ds.length = Tryd.f7.params.toList.length) : Rows.slabNamesSpec.fn H ds = { results := [.lit (.bool true)], args := ds } := by
  have h : ds.length = 0 := h
  match ds, h with
  | [], _ => rfl
theorem laidIs : Rows.slabNamesRow.laid = laid32 := rfl
theorem door_met (os : Os) (args : Array Value) : laidMetH Tryd.prog laid32 ((World.doorLaid Tryd.prog 400 os).forCall (fun _ _ => 0) ⟨#[], args, []⟩).memory :=
  laidMetH_of_parts3 (fuel := 8) (laidMet_of_run' 8 (by kernel_rfl) (by kernel_rfl)) (by kernel_rfl) (by kernel_rfl)
theorem lifted (os : Os) (started : os.Started) (H : Type) (enc : TypeId × Value → H) :
    ReturnsInHanded {} Tryd.checked os 7 .any (fun w args => (Rows.slabNamesSpec.pre enc Tryd.prog Tryd.f7 [] false w args ∧ laidMetH Tryd.prog laid32 w) ∧ sizedMet enc Tryd.prog Tryd.f7 (OpenSpec.ofChange Rows.slabNamesSpec) false w args) (Rows.slabNamesSpec.post enc Tryd.prog Tryd.f7 false true false false) :=
  law_lifted_laid (C := Tryd.checked) (tb := 4) own started (by kernel_rfl) Tryd.func7
    (ChangeSpec.witness_shaped (enc := enc) (C := Tryd.checked) (os := os) (X := fun w _ => laidMetH Tryd.prog laid32 w) false (World.doorLaid Tryd.prog 400 os) #[] 8 rfl (World.shaped_of_RefB (by kernel_rfl) (by kernel_rfl)) (by kernel_rfl) (by kernel_rfl) (by kernel_rfl) (door_met os _))
    (by kernel_rfl) (by kernel_rfl) (by kernel_rfl) (by kernel_rfl) (by kernel_rfl) (by kernel_rfl) (by kernel_rfl) rfl fnIs F_law05_SlabNames.sound
    (gok_of_laid (P := Tryd.prog) (g := 0) (tT := 69) (eT := 5) (by kernel_rfl) (by kernel_rfl) (by kernel_rfl) (by kernel_rfl) (by kernel_rfl))
    (fun p hp => ⟨mx, true, pure p hp, rfl⟩)
theorem over : Rows.slabNamesRow.holds Tryd.pinned (OpenSpec.ofChange Rows.slabNamesSpec) :=
  OpenClaim.holds_of_wide 7 Tryd.f7 rfl rfl rfl rfl rfl rfl rfl ⟨rfl, rfl, rfl, rfl, rfl⟩ rfl rfl rfl rfl rfl (by kernel_rfl) Tryd.func7 (by kernel_rfl)
    (of_decide_eq_true (by kernel_rfl)) (by unfold Func.isWrapper; first | (rw [if_pos (by decide +kernel)]; kernel_rfl) | (rw [if_neg (by decide +kernel)]; exact ⟨rfl, rfl⟩))
    (fun os started H enc _ => lifted os started H enc)
theorem card : Claim7.holds Tryd.pinned (.plain (OpenSpec.ofChange Rows.slabNamesSpec)) Rows.slabNamesCard :=
  Claim7.holds_tied_plain_at .later [] [.data] true (true, "f67187ae7c4a8562aca53d929a4122358d57378bd2c7b735ba3157e9c3945e38") false over (fun _ h => by cases h) (by kernel_rfl) (fun _ h => by cases h) slabNames_row_tie rfl ⟨rfl, rfl⟩ (by kernel_rfl) rfl
    (fun f fn hf hfn => by
      obtain rfl : f = 7 := Option.some.inj ((show Tryd.prog.funcNamed "cloakroom/cloakroomlaw05.SlabNames" = some 7 by kernel_rfl).symm.trans hf) |>.symm
      obtain rfl : fn = Tryd.f7 := (Option.some.inj (Tryd.func7.symm.trans hfn)).symm
      exact ⟨by kernel_rfl, fun j t ht => by
        have hm : t ∈ Tryd.f7.params.toList := by simpa using Array.mem_of_getElem? ht
        have hall : (Tryd.f7.params.toList.all fun u => !Tryd.prog.wantsStandIn u) = true := by kernel_rfl
        exact (show Tryd.prog.wantsStandIn t = false by simpa using List.all_eq_true.1 hall t hm)⟩)
    (by kernel_rfl)
end Go.Proofs.YtmkcmchmmemcgaaDoor.slabNames
namespace Go.Proofs.YtmkcmchmmemcgaaDoor
theorem slabNames_holds : Rows.SlabNamesCardSaid := slabNames.card
#print axioms slabNames_holds
end Go.Proofs.YtmkcmchmmemcgaaDoor
