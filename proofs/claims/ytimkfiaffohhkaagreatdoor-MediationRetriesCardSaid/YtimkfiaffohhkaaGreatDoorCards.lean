/-
  DERIVED. GIVEN WITH THE SEED: THE CARDS: each row of YtimkfiaffohhkaaGreatDoorRows.lean that lists a variable, with what it lists TIED to the program's text (the seventh form; the later family's looks); each row that meets fmt, with fmt's text TOLD by the authors' own Lean function (tested against real Go, not proved from fmt's source: count such statements apart). THE CARD IS WHAT COUNTS. Prove the row's statement (the work); the ties are given (YtimkfiaffohhkaaGreatDoorTie.lean); close each card by the builder's one call (the guide's Derived/Test/ToyasCard.lean, 'card_holds'). Laid BY PROGRAM, IN A SANDBOX (cutbox-door.mjs). By AI agents, Wed Nov 11 2026. No macro, syntax, notation, axiom, sorry.
-/
import Derived.Test.YtimkfiaffohhkaaGreatDoorRows
import GoSem.ClaimSeven
namespace Go.Proofs.YtimkfiaffohhkaaGreatDoor
namespace Rows

/-- THE TIED CARD OF 'billinglaw22.MediationChecks'. -/
def mediationChecksCard : Claim7 := { stood := { row := mediationChecksRow, standIns := [], harness := (true, "e4d11a115cee6cb0794765d23e11d892f8dff7ade243b85a88ffa52b46a81bd6"), looks := false }, kinds := [], alts := [], laidByText := true, laidKinds := [.data, .data, .data], laidTests := true, laidLooks := .later }
def MediationChecksCardSaid : Prop := Claim7.holds Tryz.pinned (.plain (OpenSpec.ofChange mediationChecksSpec)) mediationChecksCard

/-- THE TIED CARD OF 'billinglaw22.MediationFeeds'. -/
def mediationFeedsCard : Claim7 := { stood := { row := mediationFeedsRow, standIns := [], harness := (true, "e4d11a115cee6cb0794765d23e11d892f8dff7ade243b85a88ffa52b46a81bd6"), looks := false }, kinds := [], alts := [], laidByText := true, laidKinds := [.data, .data, .data], laidTests := true, laidLooks := .later }
def MediationFeedsCardSaid : Prop := Claim7.holds Tryz.pinned (.plain (OpenSpec.ofChange mediationFeedsSpec)) mediationFeedsCard

/-- THE TIED CARD OF 'billinglaw22.MediationPlaces'. -/
def mediationPlacesCard : Claim7 := { stood := { row := mediationPlacesRow, standIns := [], harness := (true, "e4d11a115cee6cb0794765d23e11d892f8dff7ade243b85a88ffa52b46a81bd6"), looks := false }, kinds := [], alts := [], laidByText := true, laidKinds := [.data, .data, .data], laidTests := true, laidLooks := .later }
def MediationPlacesCardSaid : Prop := Claim7.holds Tryz.pinned (.plain (OpenSpec.ofChange mediationPlacesSpec)) mediationPlacesCard

/-- THE TIED CARD OF 'billinglaw22.MediationWaits'. -/
def mediationWaitsCard : Claim7 := { stood := { row := mediationWaitsRow, standIns := [], harness := (true, "e4d11a115cee6cb0794765d23e11d892f8dff7ade243b85a88ffa52b46a81bd6"), looks := false }, kinds := [], alts := [], laidByText := true, laidKinds := [.data, .data, .data], laidTests := true, laidLooks := .later }
def MediationWaitsCardSaid : Prop := Claim7.holds Tryz.pinned (.plain (OpenSpec.ofChange mediationWaitsSpec)) mediationWaitsCard

/-- THE TIED CARD OF 'billinglaw22.MediationOnce'. -/
def mediationOnceCard : Claim7 := { stood := { row := mediationOnceRow, standIns := [], harness := (true, "e4d11a115cee6cb0794765d23e11d892f8dff7ade243b85a88ffa52b46a81bd6"), looks := false }, kinds := [], alts := [], laidByText := true, laidKinds := [.data, .data, .data], laidTests := true, laidLooks := .later }
def MediationOnceCardSaid : Prop := Claim7.holds Tryz.pinned (.plain (OpenSpec.ofChange mediationOnceSpec)) mediationOnceCard

/-- THE TIED CARD OF 'billinglaw22.MediationRetries'. -/
def mediationRetriesCard : Claim7 := { stood := { row := mediationRetriesRow, standIns := [], harness := (true, "e4d11a115cee6cb0794765d23e11d892f8dff7ade243b85a88ffa52b46a81bd6"), looks := false }, kinds := [], alts := [], laidByText := true, laidKinds := [.data, .data, .data], laidTests := true, laidLooks := .later }
def MediationRetriesCardSaid : Prop := Claim7.holds Tryz.pinned (.plain (OpenSpec.ofChange mediationRetriesSpec)) mediationRetriesCard

/-- THE SECOND FORM's CARD OF 'billinglaw22.MediationChecks'. -/
def mediationChecksUptoCard : Claim7 := { stood := { row := mediationChecksUptoRow, standIns := [], harness := (true, "e4d11a115cee6cb0794765d23e11d892f8dff7ade243b85a88ffa52b46a81bd6"), looks := false }, kinds := [], alts := [], laidByText := true, laidKinds := [.data, .data, .data], laidTests := true, laidLooks := .later }
def MediationChecksUptoCardSaid : Prop := Claim7.holds Tryz.pinned (.plain (OpenSpec.upto mediationChecksSpec)) mediationChecksUptoCard

/-- THE SECOND FORM's CARD OF 'billinglaw22.MediationFeeds'. -/
def mediationFeedsUptoCard : Claim7 := { stood := { row := mediationFeedsUptoRow, standIns := [], harness := (true, "e4d11a115cee6cb0794765d23e11d892f8dff7ade243b85a88ffa52b46a81bd6"), looks := false }, kinds := [], alts := [], laidByText := true, laidKinds := [.data, .data, .data], laidTests := true, laidLooks := .later }
def MediationFeedsUptoCardSaid : Prop := Claim7.holds Tryz.pinned (.plain (OpenSpec.upto mediationFeedsSpec)) mediationFeedsUptoCard

/-- THE SECOND FORM's CARD OF 'billinglaw22.MediationPlaces'. -/
def mediationPlacesUptoCard : Claim7 := { stood := { row := mediationPlacesUptoRow, standIns := [], harness := (true, "e4d11a115cee6cb0794765d23e11d892f8dff7ade243b85a88ffa52b46a81bd6"), looks := false }, kinds := [], alts := [], laidByText := true, laidKinds := [.data, .data, .data], laidTests := true, laidLooks := .later }
def MediationPlacesUptoCardSaid : Prop := Claim7.holds Tryz.pinned (.plain (OpenSpec.upto mediationPlacesSpec)) mediationPlacesUptoCard

/-- THE SECOND FORM's CARD OF 'billinglaw22.MediationWaits'. -/
def mediationWaitsUptoCard : Claim7 := { stood := { row := mediationWaitsUptoRow, standIns := [], harness := (true, "e4d11a115cee6cb0794765d23e11d892f8dff7ade243b85a88ffa52b46a81bd6"), looks := false }, kinds := [], alts := [], laidByText := true, laidKinds := [.data, .data, .data], laidTests := true, laidLooks := .later }
def MediationWaitsUptoCardSaid : Prop := Claim7.holds Tryz.pinned (.plain (OpenSpec.upto mediationWaitsSpec)) mediationWaitsUptoCard

/-- THE SECOND FORM's CARD OF 'billinglaw22.MediationOnce'. -/
def mediationOnceUptoCard : Claim7 := { stood := { row := mediationOnceUptoRow, standIns := [], harness := (true, "e4d11a115cee6cb0794765d23e11d892f8dff7ade243b85a88ffa52b46a81bd6"), looks := false }, kinds := [], alts := [], laidByText := true, laidKinds := [.data, .data, .data], laidTests := true, laidLooks := .later }
def MediationOnceUptoCardSaid : Prop := Claim7.holds Tryz.pinned (.plain (OpenSpec.upto mediationOnceSpec)) mediationOnceUptoCard

/-- THE SECOND FORM's CARD OF 'billinglaw22.MediationRetries'. -/
def mediationRetriesUptoCard : Claim7 := { stood := { row := mediationRetriesUptoRow, standIns := [], harness := (true, "e4d11a115cee6cb0794765d23e11d892f8dff7ade243b85a88ffa52b46a81bd6"), looks := false }, kinds := [], alts := [], laidByText := true, laidKinds := [.data, .data, .data], laidTests := true, laidLooks := .later }
def MediationRetriesUptoCardSaid : Prop := Claim7.holds Tryz.pinned (.plain (OpenSpec.upto mediationRetriesSpec)) mediationRetriesUptoCard
end Rows
end Go.Proofs.YtimkfiaffohhkaaGreatDoor
