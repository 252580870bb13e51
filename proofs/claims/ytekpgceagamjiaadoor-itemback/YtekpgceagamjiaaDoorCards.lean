/-
  DERIVED. GIVEN WITH THE SEED: THE CARDS: each row of YtekpgceagamjiaaDoorRows.lean that lists a variable, with what it lists TIED to the program's text (the seventh form; the later family's looks); each row that meets fmt, with fmt's text TOLD by the authors' own Lean function (tested against real Go, not proved from fmt's source: count such statements apart). THE CARD IS WHAT COUNTS. Prove the row's statement (the work); the ties are given (YtekpgceagamjiaaDoorTie.lean); close each card by the builder's one call (the guide's Derived/Test/ToyasCard.lean, 'card_holds'). Laid BY PROGRAM, IN A SANDBOX (cutbox-door.mjs). By AI agents, Wed Nov 11 2026. No macro, syntax, notation, axiom, sorry.
-/
import Derived.Test.YtekpgceagamjiaaDoorRows
import GoSem.ClaimSeven
namespace Go.Proofs.YtekpgceagamjiaaDoor
namespace Rows

/-- THE TIED CARD OF 'cloakroomlaw09.ItemCounts'. -/
def itemCountsCard : Claim7 := { stood := { row := itemCountsRow, standIns := [], harness := (true, "df214d8eb5266fd422d9561d66f6ebdd5fd69359ff4188add07b54f2359658d5"), looks := true }, kinds := [], alts := [], laidByText := true, laidKinds := [.data, .data, .data, .sentinel, .sentinel], laidTests := true, laidLooks := .later }
def ItemCountsCardSaid : Prop := Claim7.holds Tryd.pinned (.plain (OpenSpec.ofChange itemCountsSpec)) itemCountsCard

/-- THE TIED CARD OF 'cloakroomlaw09.ItemBack'. -/
def itemBackCard : Claim7 := { stood := { row := itemBackRow, standIns := [], harness := (true, "df214d8eb5266fd422d9561d66f6ebdd5fd69359ff4188add07b54f2359658d5"), looks := true }, kinds := [], alts := [], laidByText := true, laidKinds := [.data, .data, .data, .sentinel, .sentinel], laidTests := true, laidLooks := .later }
def ItemBackCardSaid : Prop := Claim7.holds Tryd.pinned (.plain (OpenSpec.ofChange itemBackSpec)) itemBackCard

/-- THE TIED CARD OF 'cloakroomlaw09.ItemTurns'. -/
def itemTurnsCard : Claim7 := { stood := { row := itemTurnsRow, standIns := [], harness := (true, "df214d8eb5266fd422d9561d66f6ebdd5fd69359ff4188add07b54f2359658d5"), looks := true }, kinds := [], alts := [], laidByText := true, laidKinds := [.data, .data, .data, .sentinel, .sentinel], laidTests := true, laidLooks := .later }
def ItemTurnsCardSaid : Prop := Claim7.holds Tryd.pinned (.plain (OpenSpec.ofChange itemTurnsSpec)) itemTurnsCard

/-- THE TIED CARD OF 'cloakroomlaw09.ItemNames'. -/
def itemNamesCard : Claim7 := { stood := { row := itemNamesRow, standIns := [], harness := (true, "df214d8eb5266fd422d9561d66f6ebdd5fd69359ff4188add07b54f2359658d5"), looks := true }, kinds := [], alts := [], laidByText := true, laidKinds := [.data, .data, .data, .sentinel, .sentinel], laidTests := true, laidLooks := .later }
def ItemNamesCardSaid : Prop := Claim7.holds Tryd.pinned (.plain (OpenSpec.ofChange itemNamesSpec)) itemNamesCard

/-- THE SECOND FORM's CARD OF 'cloakroomlaw09.ItemCounts'. -/
def itemCountsUptoCard : Claim7 := { stood := { row := itemCountsUptoRow, standIns := [], harness := (true, "df214d8eb5266fd422d9561d66f6ebdd5fd69359ff4188add07b54f2359658d5"), looks := true }, kinds := [], alts := [], laidByText := true, laidKinds := [.data, .data, .data, .sentinel, .sentinel], laidTests := true, laidLooks := .later }
def ItemCountsUptoCardSaid : Prop := Claim7.holds Tryd.pinned (.plain (OpenSpec.upto itemCountsSpec)) itemCountsUptoCard

/-- THE SECOND FORM's CARD OF 'cloakroomlaw09.ItemBack'. -/
def itemBackUptoCard : Claim7 := { stood := { row := itemBackUptoRow, standIns := [], harness := (true, "df214d8eb5266fd422d9561d66f6ebdd5fd69359ff4188add07b54f2359658d5"), looks := true }, kinds := [], alts := [], laidByText := true, laidKinds := [.data, .data, .data, .sentinel, .sentinel], laidTests := true, laidLooks := .later }
def ItemBackUptoCardSaid : Prop := Claim7.holds Tryd.pinned (.plain (OpenSpec.upto itemBackSpec)) itemBackUptoCard

/-- THE SECOND FORM's CARD OF 'cloakroomlaw09.ItemTurns'. -/
def itemTurnsUptoCard : Claim7 := { stood := { row := itemTurnsUptoRow, standIns := [], harness := (true, "df214d8eb5266fd422d9561d66f6ebdd5fd69359ff4188add07b54f2359658d5"), looks := true }, kinds := [], alts := [], laidByText := true, laidKinds := [.data, .data, .data, .sentinel, .sentinel], laidTests := true, laidLooks := .later }
def ItemTurnsUptoCardSaid : Prop := Claim7.holds Tryd.pinned (.plain (OpenSpec.upto itemTurnsSpec)) itemTurnsUptoCard

/-- THE SECOND FORM's CARD OF 'cloakroomlaw09.ItemNames'. -/
def itemNamesUptoCard : Claim7 := { stood := { row := itemNamesUptoRow, standIns := [], harness := (true, "df214d8eb5266fd422d9561d66f6ebdd5fd69359ff4188add07b54f2359658d5"), looks := true }, kinds := [], alts := [], laidByText := true, laidKinds := [.data, .data, .data, .sentinel, .sentinel], laidTests := true, laidLooks := .later }
def ItemNamesUptoCardSaid : Prop := Claim7.holds Tryd.pinned (.plain (OpenSpec.upto itemNamesSpec)) itemNamesUptoCard
end Rows
end Go.Proofs.YtekpgceagamjiaaDoor
