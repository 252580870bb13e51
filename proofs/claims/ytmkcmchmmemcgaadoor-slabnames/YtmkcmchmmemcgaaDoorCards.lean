/-
  DERIVED. GIVEN WITH THE SEED: THE CARDS: each row of YtmkcmchmmemcgaaDoorRows.lean that lists a variable, with what it lists TIED to the program's text (the seventh form; the later family's looks); each row that meets fmt, with fmt's text TOLD by the authors' own Lean function (tested against real Go, not proved from fmt's source: count such statements apart). THE CARD IS WHAT COUNTS. Prove the row's statement (the work); the ties are given (YtmkcmchmmemcgaaDoorTie.lean); close each card by the builder's one call (the guide's Derived/Test/ToyasCard.lean, 'card_holds'). Laid BY PROGRAM, IN A SANDBOX (cutbox-door.mjs). By AI agents, Wed Nov 11 2026. No macro, syntax, notation, axiom, sorry.
-/
import Derived.Test.YtmkcmchmmemcgaaDoorRows
import GoSem.ClaimSeven
namespace Go.Proofs.YtmkcmchmmemcgaaDoor
namespace Rows

/-- THE TIED CARD OF 'cloakroomlaw05.SlabFills'. -/
def slabFillsCard : Claim7 := { stood := { row := slabFillsRow, standIns := [], harness := (true, "f67187ae7c4a8562aca53d929a4122358d57378bd2c7b735ba3157e9c3945e38"), looks := false }, kinds := [], alts := [], laidByText := true, laidKinds := [.data], laidTests := true, laidLooks := .later }
def SlabFillsCardSaid : Prop := Claim7.holds Tryd.pinned (.plain (OpenSpec.ofChange slabFillsSpec)) slabFillsCard

/-- THE TIED CARD OF 'cloakroomlaw05.SlabOwns'. -/
def slabOwnsCard : Claim7 := { stood := { row := slabOwnsRow, standIns := [], harness := (true, "f67187ae7c4a8562aca53d929a4122358d57378bd2c7b735ba3157e9c3945e38"), looks := false }, kinds := [], alts := [], laidByText := true, laidKinds := [.data], laidTests := true, laidLooks := .later }
def SlabOwnsCardSaid : Prop := Claim7.holds Tryd.pinned (.plain (OpenSpec.ofChange slabOwnsSpec)) slabOwnsCard

/-- THE TIED CARD OF 'cloakroomlaw05.SlabBack'. -/
def slabBackCard : Claim7 := { stood := { row := slabBackRow, standIns := [], harness := (true, "f67187ae7c4a8562aca53d929a4122358d57378bd2c7b735ba3157e9c3945e38"), looks := false }, kinds := [], alts := [], laidByText := true, laidKinds := [.data], laidTests := true, laidLooks := .later }
def SlabBackCardSaid : Prop := Claim7.holds Tryd.pinned (.plain (OpenSpec.ofChange slabBackSpec)) slabBackCard

/-- THE TIED CARD OF 'cloakroomlaw05.SlabTakes'. -/
def slabTakesCard : Claim7 := { stood := { row := slabTakesRow, standIns := [], harness := (true, "f67187ae7c4a8562aca53d929a4122358d57378bd2c7b735ba3157e9c3945e38"), looks := false }, kinds := [], alts := [], laidByText := true, laidKinds := [.data], laidTests := true, laidLooks := .later }
def SlabTakesCardSaid : Prop := Claim7.holds Tryd.pinned (.plain (OpenSpec.ofChange slabTakesSpec)) slabTakesCard

/-- THE TIED CARD OF 'cloakroomlaw05.SlabNames'. -/
def slabNamesCard : Claim7 := { stood := { row := slabNamesRow, standIns := [], harness := (true, "f67187ae7c4a8562aca53d929a4122358d57378bd2c7b735ba3157e9c3945e38"), looks := false }, kinds := [], alts := [], laidByText := true, laidKinds := [.data], laidTests := true, laidLooks := .later }
def SlabNamesCardSaid : Prop := Claim7.holds Tryd.pinned (.plain (OpenSpec.ofChange slabNamesSpec)) slabNamesCard

/-- THE SECOND FORM's CARD OF 'cloakroomlaw05.SlabFills'. -/
def slabFillsUptoCard : Claim7 := { stood := { row := slabFillsUptoRow, standIns := [], harness := (true, "f67187ae7c4a8562aca53d929a4122358d57378bd2c7b735ba3157e9c3945e38"), looks := false }, kinds := [], alts := [], laidByText := true, laidKinds := [.data], laidTests := true, laidLooks := .later }
def SlabFillsUptoCardSaid : Prop := Claim7.holds Tryd.pinned (.plain (OpenSpec.upto slabFillsSpec)) slabFillsUptoCard

/-- THE SECOND FORM's CARD OF 'cloakroomlaw05.SlabOwns'. -/
def slabOwnsUptoCard : Claim7 := { stood := { row := slabOwnsUptoRow, standIns := [], harness := (true, "f67187ae7c4a8562aca53d929a4122358d57378bd2c7b735ba3157e9c3945e38"), looks := false }, kinds := [], alts := [], laidByText := true, laidKinds := [.data], laidTests := true, laidLooks := .later }
def SlabOwnsUptoCardSaid : Prop := Claim7.holds Tryd.pinned (.plain (OpenSpec.upto slabOwnsSpec)) slabOwnsUptoCard

/-- THE SECOND FORM's CARD OF 'cloakroomlaw05.SlabBack'. -/
def slabBackUptoCard : Claim7 := { stood := { row := slabBackUptoRow, standIns := [], harness := (true, "f67187ae7c4a8562aca53d929a4122358d57378bd2c7b735ba3157e9c3945e38"), looks := false }, kinds := [], alts := [], laidByText := true, laidKinds := [.data], laidTests := true, laidLooks := .later }
def SlabBackUptoCardSaid : Prop := Claim7.holds Tryd.pinned (.plain (OpenSpec.upto slabBackSpec)) slabBackUptoCard

/-- THE SECOND FORM's CARD OF 'cloakroomlaw05.SlabTakes'. -/
def slabTakesUptoCard : Claim7 := { stood := { row := slabTakesUptoRow, standIns := [], harness := (true, "f67187ae7c4a8562aca53d929a4122358d57378bd2c7b735ba3157e9c3945e38"), looks := false }, kinds := [], alts := [], laidByText := true, laidKinds := [.data], laidTests := true, laidLooks := .later }
def SlabTakesUptoCardSaid : Prop := Claim7.holds Tryd.pinned (.plain (OpenSpec.upto slabTakesSpec)) slabTakesUptoCard

/-- THE SECOND FORM's CARD OF 'cloakroomlaw05.SlabNames'. -/
def slabNamesUptoCard : Claim7 := { stood := { row := slabNamesUptoRow, standIns := [], harness := (true, "f67187ae7c4a8562aca53d929a4122358d57378bd2c7b735ba3157e9c3945e38"), looks := false }, kinds := [], alts := [], laidByText := true, laidKinds := [.data], laidTests := true, laidLooks := .later }
def SlabNamesUptoCardSaid : Prop := Claim7.holds Tryd.pinned (.plain (OpenSpec.upto slabNamesSpec)) slabNamesUptoCard
end Rows
end Go.Proofs.YtmkcmchmmemcgaaDoor
