/-
  DERIVED. GIVEN WITH THE SEED: THE CARDS: each row of YtpnegjippkneoaaGreatDoorRows.lean that lists a variable, with what it lists TIED to the program's text (the seventh form; the later family's looks); each row that meets fmt, with fmt's text TOLD by the authors' own Lean function (tested against real Go, not proved from fmt's source: count such statements apart). THE CARD IS WHAT COUNTS. Prove the row's statement (the work); the ties are given (YtpnegjippkneoaaGreatDoorTie.lean); close each card by the builder's one call (the guide's Derived/Test/ToyasCard.lean, 'card_holds'). Laid BY PROGRAM, IN A SANDBOX (cutbox-door.mjs). By AI agents, Wed Nov 11 2026. No macro, syntax, notation, axiom, sorry.
-/
import Derived.Test.YtpnegjippkneoaaGreatDoorRows
import GoSem.ClaimSeven
namespace Go.Proofs.YtpnegjippkneoaaGreatDoor
namespace Rows

/-- THE TIED CARD OF 'billinglaw16.IntakeChecks'. -/
def intakeChecksCard : Claim7 := { stood := { row := intakeChecksRow, standIns := [], harness := (true, "d632b53567770e4af808dd7890639a8240c230276b765301b7e07b711be97218"), looks := false }, kinds := [], alts := [], laidByText := true, laidKinds := [.data, .data, .data], laidTests := true, laidLooks := .later }
def IntakeChecksCardSaid : Prop := Claim7.holds Tryz.pinned (.plain (OpenSpec.ofChange intakeChecksSpec)) intakeChecksCard

/-- THE TIED CARD OF 'billinglaw16.IntakeAccepts'. -/
def intakeAcceptsCard : Claim7 := { stood := { row := intakeAcceptsRow, standIns := [], harness := (true, "d632b53567770e4af808dd7890639a8240c230276b765301b7e07b711be97218"), looks := false }, kinds := [], alts := [], laidByText := true, laidKinds := [.data, .data, .data], laidTests := true, laidLooks := .later }
def IntakeAcceptsCardSaid : Prop := Claim7.holds Tryz.pinned (.plain (OpenSpec.ofChange intakeAcceptsSpec)) intakeAcceptsCard

/-- THE TIED CARD OF 'billinglaw16.IntakePlaces'. -/
def intakePlacesCard : Claim7 := { stood := { row := intakePlacesRow, standIns := [], harness := (true, "d632b53567770e4af808dd7890639a8240c230276b765301b7e07b711be97218"), looks := false }, kinds := [], alts := [], laidByText := true, laidKinds := [.data, .data, .data], laidTests := true, laidLooks := .later }
def IntakePlacesCardSaid : Prop := Claim7.holds Tryz.pinned (.plain (OpenSpec.ofChange intakePlacesSpec)) intakePlacesCard

/-- THE TIED CARD OF 'billinglaw16.IntakeAgain'. -/
def intakeAgainCard : Claim7 := { stood := { row := intakeAgainRow, standIns := [], harness := (true, "d632b53567770e4af808dd7890639a8240c230276b765301b7e07b711be97218"), looks := false }, kinds := [], alts := [], laidByText := true, laidKinds := [.data, .data, .data], laidTests := true, laidLooks := .later }
def IntakeAgainCardSaid : Prop := Claim7.holds Tryz.pinned (.plain (OpenSpec.ofChange intakeAgainSpec)) intakeAgainCard

/-- THE TIED CARD OF 'billinglaw16.IntakeCloses'. -/
def intakeClosesCard : Claim7 := { stood := { row := intakeClosesRow, standIns := [], harness := (true, "d632b53567770e4af808dd7890639a8240c230276b765301b7e07b711be97218"), looks := false }, kinds := [], alts := [], laidByText := true, laidKinds := [.data, .data, .data], laidTests := true, laidLooks := .later }
def IntakeClosesCardSaid : Prop := Claim7.holds Tryz.pinned (.plain (OpenSpec.ofChange intakeClosesSpec)) intakeClosesCard

/-- THE TIED CARD OF 'billinglaw16.IntakeRuns'. -/
def intakeRunsCard : Claim7 := { stood := { row := intakeRunsRow, standIns := [], harness := (true, "d632b53567770e4af808dd7890639a8240c230276b765301b7e07b711be97218"), looks := false }, kinds := [], alts := [], laidByText := true, laidKinds := [.data, .data, .data], laidTests := true, laidLooks := .later }
def IntakeRunsCardSaid : Prop := Claim7.holds Tryz.pinned (.plain (OpenSpec.ofChange intakeRunsSpec)) intakeRunsCard

/-- THE SECOND FORM's CARD OF 'billinglaw16.IntakeChecks'. -/
def intakeChecksUptoCard : Claim7 := { stood := { row := intakeChecksUptoRow, standIns := [], harness := (true, "d632b53567770e4af808dd7890639a8240c230276b765301b7e07b711be97218"), looks := false }, kinds := [], alts := [], laidByText := true, laidKinds := [.data, .data, .data], laidTests := true, laidLooks := .later }
def IntakeChecksUptoCardSaid : Prop := Claim7.holds Tryz.pinned (.plain (OpenSpec.upto intakeChecksSpec)) intakeChecksUptoCard

/-- THE SECOND FORM's CARD OF 'billinglaw16.IntakeAccepts'. -/
def intakeAcceptsUptoCard : Claim7 := { stood := { row := intakeAcceptsUptoRow, standIns := [], harness := (true, "d632b53567770e4af808dd7890639a8240c230276b765301b7e07b711be97218"), looks := false }, kinds := [], alts := [], laidByText := true, laidKinds := [.data, .data, .data], laidTests := true, laidLooks := .later }
def IntakeAcceptsUptoCardSaid : Prop := Claim7.holds Tryz.pinned (.plain (OpenSpec.upto intakeAcceptsSpec)) intakeAcceptsUptoCard

/-- THE SECOND FORM's CARD OF 'billinglaw16.IntakePlaces'. -/
def intakePlacesUptoCard : Claim7 := { stood := { row := intakePlacesUptoRow, standIns := [], harness := (true, "d632b53567770e4af808dd7890639a8240c230276b765301b7e07b711be97218"), looks := false }, kinds := [], alts := [], laidByText := true, laidKinds := [.data, .data, .data], laidTests := true, laidLooks := .later }
def IntakePlacesUptoCardSaid : Prop := Claim7.holds Tryz.pinned (.plain (OpenSpec.upto intakePlacesSpec)) intakePlacesUptoCard

/-- THE SECOND FORM's CARD OF 'billinglaw16.IntakeAgain'. -/
def intakeAgainUptoCard : Claim7 := { stood := { row := intakeAgainUptoRow, standIns := [], harness := (true, "d632b53567770e4af808dd7890639a8240c230276b765301b7e07b711be97218"), looks := false }, kinds := [], alts := [], laidByText := true, laidKinds := [.data, .data, .data], laidTests := true, laidLooks := .later }
def IntakeAgainUptoCardSaid : Prop := Claim7.holds Tryz.pinned (.plain (OpenSpec.upto intakeAgainSpec)) intakeAgainUptoCard

/-- THE SECOND FORM's CARD OF 'billinglaw16.IntakeCloses'. -/
def intakeClosesUptoCard : Claim7 := { stood := { row := intakeClosesUptoRow, standIns := [], harness := (true, "d632b53567770e4af808dd7890639a8240c230276b765301b7e07b711be97218"), looks := false }, kinds := [], alts := [], laidByText := true, laidKinds := [.data, .data, .data], laidTests := true, laidLooks := .later }
def IntakeClosesUptoCardSaid : Prop := Claim7.holds Tryz.pinned (.plain (OpenSpec.upto intakeClosesSpec)) intakeClosesUptoCard

/-- THE SECOND FORM's CARD OF 'billinglaw16.IntakeRuns'. -/
def intakeRunsUptoCard : Claim7 := { stood := { row := intakeRunsUptoRow, standIns := [], harness := (true, "d632b53567770e4af808dd7890639a8240c230276b765301b7e07b711be97218"), looks := false }, kinds := [], alts := [], laidByText := true, laidKinds := [.data, .data, .data], laidTests := true, laidLooks := .later }
def IntakeRunsUptoCardSaid : Prop := Claim7.holds Tryz.pinned (.plain (OpenSpec.upto intakeRunsSpec)) intakeRunsUptoCard
end Rows
end Go.Proofs.YtpnegjippkneoaaGreatDoor
