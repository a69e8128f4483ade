/-
  DERIVED. GIVEN WITH THE SEED: THE CARDS: each row of YtajciinoiacpmaaDoorRows.lean that lists a variable, with what it lists TIED to the program's text (the seventh form; the later family's looks); each row that meets fmt, with fmt's text TOLD by the authors' own Lean function (tested against real Go, not proved from fmt's source: count such statements apart). THE CARD IS WHAT COUNTS. Prove the row's statement (the work); the ties are given (YtajciinoiacpmaaDoorTie.lean); close each card by the builder's one call (the guide's Derived/Test/ToyasCard.lean, 'card_holds'). Laid BY PROGRAM, IN A SANDBOX (cutbox-door.mjs). By AI agents, Wed Nov 11 2026. No macro, syntax, notation, axiom, sorry.
-/
import Derived.Test.YtajciinoiacpmaaDoorRows
import GoSem.ClaimSeven
namespace Go.Proofs.YtajciinoiacpmaaDoor
namespace Rows

/-- THE TIED CARD OF 'billinglaw15.CorrelateJoins'. -/
def correlateJoinsCard : Claim7 := { stood := { row := correlateJoinsRow, standIns := [], harness := (true, "37c462329aca7fffaa88200a81ef4b3a4816b029ba5a8f9c27274be62db87600"), looks := false }, kinds := [], alts := [], laidByText := true, laidKinds := [.data, .data, .data], laidTests := true, laidLooks := .later }
def CorrelateJoinsCardSaid : Prop := Claim7.holds Tryd.pinned (.plain (OpenSpec.ofChange correlateJoinsSpec)) correlateJoinsCard

/-- THE TIED CARD OF 'billinglaw15.CorrelateExpires'. -/
def correlateExpiresCard : Claim7 := { stood := { row := correlateExpiresRow, standIns := [], harness := (true, "37c462329aca7fffaa88200a81ef4b3a4816b029ba5a8f9c27274be62db87600"), looks := false }, kinds := [], alts := [], laidByText := true, laidKinds := [.data, .data, .data], laidTests := true, laidLooks := .later }
def CorrelateExpiresCardSaid : Prop := Claim7.holds Tryd.pinned (.plain (OpenSpec.ofChange correlateExpiresSpec)) correlateExpiresCard

/-- THE TIED CARD OF 'billinglaw15.CorrelateSplits'. -/
def correlateSplitsCard : Claim7 := { stood := { row := correlateSplitsRow, standIns := [], harness := (true, "37c462329aca7fffaa88200a81ef4b3a4816b029ba5a8f9c27274be62db87600"), looks := false }, kinds := [], alts := [], laidByText := true, laidKinds := [.data, .data, .data], laidTests := true, laidLooks := .later }
def CorrelateSplitsCardSaid : Prop := Claim7.holds Tryd.pinned (.plain (OpenSpec.ofChange correlateSplitsSpec)) correlateSplitsCard

/-- THE TIED CARD OF 'billinglaw15.CorrelateCompletes'. -/
def correlateCompletesCard : Claim7 := { stood := { row := correlateCompletesRow, standIns := [], harness := (true, "37c462329aca7fffaa88200a81ef4b3a4816b029ba5a8f9c27274be62db87600"), looks := false }, kinds := [], alts := [], laidByText := true, laidKinds := [.data, .data, .data], laidTests := true, laidLooks := .later }
def CorrelateCompletesCardSaid : Prop := Claim7.holds Tryd.pinned (.plain (OpenSpec.ofChange correlateCompletesSpec)) correlateCompletesCard

/-- THE TIED CARD OF 'billinglaw15.CorrelateUnits'. -/
def correlateUnitsCard : Claim7 := { stood := { row := correlateUnitsRow, standIns := [], harness := (true, "37c462329aca7fffaa88200a81ef4b3a4816b029ba5a8f9c27274be62db87600"), looks := false }, kinds := [], alts := [], laidByText := true, laidKinds := [.data, .data, .data], laidTests := true, laidLooks := .later }
def CorrelateUnitsCardSaid : Prop := Claim7.holds Tryd.pinned (.plain (OpenSpec.ofChange correlateUnitsSpec)) correlateUnitsCard

/-- THE SECOND FORM's CARD OF 'billinglaw15.CorrelateJoins'. -/
def correlateJoinsUptoCard : Claim7 := { stood := { row := correlateJoinsUptoRow, standIns := [], harness := (true, "37c462329aca7fffaa88200a81ef4b3a4816b029ba5a8f9c27274be62db87600"), looks := false }, kinds := [], alts := [], laidByText := true, laidKinds := [.data, .data, .data], laidTests := true, laidLooks := .later }
def CorrelateJoinsUptoCardSaid : Prop := Claim7.holds Tryd.pinned (.plain (OpenSpec.upto correlateJoinsSpec)) correlateJoinsUptoCard

/-- THE SECOND FORM's CARD OF 'billinglaw15.CorrelateExpires'. -/
def correlateExpiresUptoCard : Claim7 := { stood := { row := correlateExpiresUptoRow, standIns := [], harness := (true, "37c462329aca7fffaa88200a81ef4b3a4816b029ba5a8f9c27274be62db87600"), looks := false }, kinds := [], alts := [], laidByText := true, laidKinds := [.data, .data, .data], laidTests := true, laidLooks := .later }
def CorrelateExpiresUptoCardSaid : Prop := Claim7.holds Tryd.pinned (.plain (OpenSpec.upto correlateExpiresSpec)) correlateExpiresUptoCard

/-- THE SECOND FORM's CARD OF 'billinglaw15.CorrelateSplits'. -/
def correlateSplitsUptoCard : Claim7 := { stood := { row := correlateSplitsUptoRow, standIns := [], harness := (true, "37c462329aca7fffaa88200a81ef4b3a4816b029ba5a8f9c27274be62db87600"), looks := false }, kinds := [], alts := [], laidByText := true, laidKinds := [.data, .data, .data], laidTests := true, laidLooks := .later }
def CorrelateSplitsUptoCardSaid : Prop := Claim7.holds Tryd.pinned (.plain (OpenSpec.upto correlateSplitsSpec)) correlateSplitsUptoCard

/-- THE SECOND FORM's CARD OF 'billinglaw15.CorrelateCompletes'. -/
def correlateCompletesUptoCard : Claim7 := { stood := { row := correlateCompletesUptoRow, standIns := [], harness := (true, "37c462329aca7fffaa88200a81ef4b3a4816b029ba5a8f9c27274be62db87600"), looks := false }, kinds := [], alts := [], laidByText := true, laidKinds := [.data, .data, .data], laidTests := true, laidLooks := .later }
def CorrelateCompletesUptoCardSaid : Prop := Claim7.holds Tryd.pinned (.plain (OpenSpec.upto correlateCompletesSpec)) correlateCompletesUptoCard

/-- THE SECOND FORM's CARD OF 'billinglaw15.CorrelateUnits'. -/
def correlateUnitsUptoCard : Claim7 := { stood := { row := correlateUnitsUptoRow, standIns := [], harness := (true, "37c462329aca7fffaa88200a81ef4b3a4816b029ba5a8f9c27274be62db87600"), looks := false }, kinds := [], alts := [], laidByText := true, laidKinds := [.data, .data, .data], laidTests := true, laidLooks := .later }
def CorrelateUnitsUptoCardSaid : Prop := Claim7.holds Tryd.pinned (.plain (OpenSpec.upto correlateUnitsSpec)) correlateUnitsUptoCard
end Rows
end Go.Proofs.YtajciinoiacpmaaDoor
