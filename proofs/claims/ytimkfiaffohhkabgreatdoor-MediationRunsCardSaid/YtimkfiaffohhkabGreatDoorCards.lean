/-
  DERIVED. GIVEN WITH THE SEED: THE CARDS: each row of YtimkfiaffohhkabGreatDoorRows.lean that lists a variable, with what it lists TIED to the program's text (the seventh form; the later family's looks); each row that meets fmt, with fmt's text TOLD by the authors' own Lean function (tested against real Go, not proved from fmt's source: count such statements apart). THE CARD IS WHAT COUNTS. Prove the row's statement (the work); the ties are given (YtimkfiaffohhkabGreatDoorTie.lean); close each card by the builder's one call (the guide's Derived/Test/ToyasCard.lean, 'card_holds'). Laid BY PROGRAM, IN A SANDBOX (cutbox-door.mjs). By AI agents, Wed Nov 11 2026. No macro, syntax, notation, axiom, sorry.
-/
import Derived.Test.YtimkfiaffohhkabGreatDoorRows
import GoSem.ClaimSeven
namespace Go.Proofs.YtimkfiaffohhkabGreatDoor
namespace Rows

/-- THE TIED CARD OF 'billinglaw22.MediationRuns'. -/
def mediationRunsCard : Claim7 := { stood := { row := mediationRunsRow, standIns := [], harness := (true, "13ee59345dc59ba7bd73c07ac4935255aaf6fb12afc807d0c02a89f36b7cb08a"), looks := false }, kinds := [], alts := [], laidByText := true, laidKinds := [.data, .data, .data], laidTests := true, laidLooks := .later }
def MediationRunsCardSaid : Prop := Claim7.holds Tryz.pinned (.plain (OpenSpec.ofChange mediationRunsSpec)) mediationRunsCard

/-- THE SECOND FORM's CARD OF 'billinglaw22.MediationRuns'. -/
def mediationRunsUptoCard : Claim7 := { stood := { row := mediationRunsUptoRow, standIns := [], harness := (true, "13ee59345dc59ba7bd73c07ac4935255aaf6fb12afc807d0c02a89f36b7cb08a"), looks := false }, kinds := [], alts := [], laidByText := true, laidKinds := [.data, .data, .data], laidTests := true, laidLooks := .later }
def MediationRunsUptoCardSaid : Prop := Claim7.holds Tryz.pinned (.plain (OpenSpec.upto mediationRunsSpec)) mediationRunsUptoCard
end Rows
end Go.Proofs.YtimkfiaffohhkabGreatDoor
