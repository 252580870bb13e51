/-
  DERIVED. GIVEN WITH THE SEED: THE CARDS: each row of YtnnfjeofdcjfoaaDoorRows.lean that lists a variable, with what it lists TIED to the program's text (the seventh form; the later family's looks); each row that meets fmt, with fmt's text TOLD by the authors' own Lean function (tested against real Go, not proved from fmt's source: count such statements apart). THE CARD IS WHAT COUNTS. Prove the row's statement (the work); the ties are given (YtnnfjeofdcjfoaaDoorTie.lean); close each card by the builder's one call (the guide's Derived/Test/ToyasCard.lean, 'card_holds'). Laid BY PROGRAM, IN A SANDBOX (cutbox-door.mjs). By AI agents, Wed Nov 11 2026. No macro, syntax, notation, axiom, sorry.
-/
import Derived.Test.YtnnfjeofdcjfoaaDoorRows
import GoSem.ClaimSeven
namespace Go.Proofs.YtnnfjeofdcjfoaaDoor
namespace Rows

/-- THE TIED CARD OF 'cloakroomlaw08.QuotaFree'. -/
def quotaFreeCard : Claim7 := { stood := { row := quotaFreeRow, standIns := [], harness := (true, "17e672b183db9b4f68ac538cc239e4b21fba5b612b16d933c6cfce5c2c939a0e"), looks := false }, kinds := [], alts := [], laidByText := true, laidKinds := [.data], laidTests := true, laidLooks := .later }
def QuotaFreeCardSaid : Prop := Claim7.holds Tryd.pinned (.plain (OpenSpec.ofChange quotaFreeSpec)) quotaFreeCard

/-- THE SECOND FORM's CARD OF 'cloakroomlaw08.QuotaFree'. -/
def quotaFreeUptoCard : Claim7 := { stood := { row := quotaFreeUptoRow, standIns := [], harness := (true, "17e672b183db9b4f68ac538cc239e4b21fba5b612b16d933c6cfce5c2c939a0e"), looks := false }, kinds := [], alts := [], laidByText := true, laidKinds := [.data], laidTests := true, laidLooks := .later }
def QuotaFreeUptoCardSaid : Prop := Claim7.holds Tryd.pinned (.plain (OpenSpec.upto quotaFreeSpec)) quotaFreeUptoCard
end Rows
end Go.Proofs.YtnnfjeofdcjfoaaDoor
