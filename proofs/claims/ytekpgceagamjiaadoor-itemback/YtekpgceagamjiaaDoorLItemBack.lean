/- What is proved: the tied card ItemBack of this seat: for every input the law returns true, and each argument reads afterwards as it read before. The row lists five variables of the library; the given tie ties them to the program's text. -/
import Derived.Test.YtekpgceagamjiaaDoorRows
import Derived.Test.YtekpgceagamjiaaDoorTie
import Derived.Test.YtekpgceagamjiaaDoorCards
import Derived.Test.YtekpgceagamjiaaDoorF
import Derived.Test.YtekpgceagamjiaaDoorH7
import Derived.Test.YtekpgceagamjiaaDoorPItemBack
import Derived.LaidMore
import Derived.SevenTiedAt
import Derived.Stop.Joined
namespace Go.Proofs.YtekpgceagamjiaaDoor.itemBack
open Go.Abs Go.ChangeShapes Go.WideShapes Go.ChangeAt Go.RowKit
set_option maxRecDepth 100000
theorem own : ownKnob Tryd.prog.godebug = none := by kernel_rfl
theorem fnIs (H : Type) (ds : List (DataW H)) (h : ds.length = Tryd.f4.params.toList.length) : Rows.itemBackSpec.fn H ds = { results := [.lit (.bool true)], args := ds } := by
  have h : ds.length = 2 := h
  match ds, h with
  | [d0, d1], _ => rfl
theorem laidIs : Rows.itemBackRow.laid = laid5 := rfl
theorem door_met (os : Os) (args : Array Value) : laidMetH Tryd.prog laid5 ((World.doorLaid Tryd.prog 400 os).forCall (fun _ _ => 0) ⟨#[], args, []⟩).memory :=
  laidMetH_of_parts3 (fuel := 8) (laidMet_of_run' 8 (by kernel_rfl) (by kernel_rfl)) (by kernel_rfl) (by kernel_rfl)
theorem lifted (os : Os) (started : os.Started) (H : Type) (enc : TypeId × Value → H) :
    ReturnsInHanded {} Tryd.checked os 4 .any (fun w args => (Rows.itemBackSpec.pre enc Tryd.prog Tryd.f4 [] false w args ∧ laidMetH Tryd.prog laid5 w) ∧ sizedMet enc Tryd.prog Tryd.f4 (OpenSpec.ofChange Rows.itemBackSpec) false w args) (Rows.itemBackSpec.post enc Tryd.prog Tryd.f4 false true false false) :=
  law_lifted_laid (C := Tryd.checked) (tb := 4) own started (by kernel_rfl) Tryd.func4
    (ChangeSpec.witness_shaped (enc := enc) (C := Tryd.checked) (os := os) (X := fun w _ => laidMetH Tryd.prog laid5 w) false (World.doorLaid Tryd.prog 400 os) #[.int .u64 0, .string ByteArray.empty] 8 rfl (World.shaped_of_RefB (by kernel_rfl) (by kernel_rfl)) (by kernel_rfl) (by kernel_rfl) (by kernel_rfl) (door_met os _))
    (by kernel_rfl) (by kernel_rfl) (by kernel_rfl) (by kernel_rfl) (by kernel_rfl) (by kernel_rfl) (by kernel_rfl) rfl fnIs F_law09_ItemBack.sound
    gok5
    (fun p hp => ⟨mx, true, pure p hp, rfl⟩)
theorem over : Rows.itemBackRow.holds Tryd.pinned (OpenSpec.ofChange Rows.itemBackSpec) :=
  OpenClaim.holds_of_wide 4 Tryd.f4 rfl rfl rfl rfl rfl rfl rfl ⟨rfl, rfl, rfl, rfl, rfl⟩ rfl rfl rfl rfl rfl (by kernel_rfl) Tryd.func4 (by kernel_rfl)
    (of_decide_eq_true (by kernel_rfl)) (by unfold Func.isWrapper; first | (rw [if_pos (by decide +kernel)]; kernel_rfl) | (rw [if_neg (by decide +kernel)]; exact ⟨rfl, rfl⟩))
    (fun os started H enc _ => lifted os started H enc)
theorem card : Claim7.holds Tryd.pinned (.plain (OpenSpec.ofChange Rows.itemBackSpec)) Rows.itemBackCard :=
  Claim7.holds_tied_plain_at .later [] [.data, .data, .data, .sentinel, .sentinel] true (true, "df214d8eb5266fd422d9561d66f6ebdd5fd69359ff4188add07b54f2359658d5") true over (fun _ h => by cases h) (by kernel_rfl) (fun _ h => by cases h) itemBack_row_tie rfl ⟨rfl, rfl⟩ (by kernel_rfl) rfl
    (fun f fn hf hfn => by
      obtain rfl : f = 4 := Option.some.inj ((show Tryd.prog.funcNamed "cloakroom/cloakroomlaw09.ItemBack" = some 4 by kernel_rfl).symm.trans hf) |>.symm
      obtain rfl : fn = Tryd.f4 := (Option.some.inj (Tryd.func4.symm.trans hfn)).symm
      exact ⟨by kernel_rfl, fun j t ht => by
        have hm : t ∈ Tryd.f4.params.toList := by simpa using Array.mem_of_getElem? ht
        have hall : (Tryd.f4.params.toList.all fun u => !Tryd.prog.wantsStandIn u) = true := by kernel_rfl
        exact (show Tryd.prog.wantsStandIn t = false by simpa using List.all_eq_true.1 hall t hm)⟩)
    (by kernel_rfl)
end Go.Proofs.YtekpgceagamjiaaDoor.itemBack
namespace Go.Proofs.YtekpgceagamjiaaDoor
theorem itemBack_holds : Rows.ItemBackCardSaid := itemBack.card
#print axioms itemBack_holds
end Go.Proofs.YtekpgceagamjiaaDoor
