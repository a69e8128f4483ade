/-
  DERIVED. GIVEN WITH THE SEED: THE CARDS: each row of YtnjdcednocmcnaaDoorRows.lean that lists a variable, with what it lists TIED to the program's text (the seventh form; the later family's looks); each row that meets fmt, with fmt's text TOLD by the authors' own Lean function (tested against real Go, not proved from fmt's source: count such statements apart). THE CARD IS WHAT COUNTS. Prove the row's statement (the work); the ties are given (YtnjdcednocmcnaaDoorTie.lean); close each card by the builder's one call (the guide's Derived/Test/ToyasCard.lean, 'card_holds'). Laid BY PROGRAM, IN A SANDBOX (cutbox-door.mjs). By AI agents, Wed Nov 11 2026. No macro, syntax, notation, axiom, sorry.
-/
import Derived.Test.YtnjdcednocmcnaaDoorRows
import GoSem.ClaimSeven
namespace Go.Proofs.YtnjdcednocmcnaaDoor
namespace Rows

/-- THE TIED CARD OF 'billinglaw21.EnrichUsages'. -/
def enrichUsagesCard : Claim7 := { stood := { row := enrichUsagesRow, standIns := [], harness := (true, "1de66392b20e8682d6492460847c958386d9e265e48018317419b16c4752a596"), looks := false }, kinds := [], alts := [], laidByText := true, laidKinds := [.data, .data, .data], laidTests := true, laidLooks := .later }
def EnrichUsagesCardSaid : Prop := Claim7.holds Tryd.pinned (.plain (OpenSpec.ofChange enrichUsagesSpec)) enrichUsagesCard

/-- THE TIED CARD OF 'billinglaw21.EnrichFields'. -/
def enrichFieldsCard : Claim7 := { stood := { row := enrichFieldsRow, standIns := [], harness := (true, "1de66392b20e8682d6492460847c958386d9e265e48018317419b16c4752a596"), looks := false }, kinds := [], alts := [], laidByText := true, laidKinds := [.data, .data, .data], laidTests := true, laidLooks := .later }
def EnrichFieldsCardSaid : Prop := Claim7.holds Tryd.pinned (.plain (OpenSpec.ofChange enrichFieldsSpec)) enrichFieldsCard

/-- THE TIED CARD OF 'billinglaw21.EnrichLater'. -/
def enrichLaterCard : Claim7 := { stood := { row := enrichLaterRow, standIns := [], harness := (true, "1de66392b20e8682d6492460847c958386d9e265e48018317419b16c4752a596"), looks := false }, kinds := [], alts := [], laidByText := true, laidKinds := [.data, .data, .data], laidTests := true, laidLooks := .later }
def EnrichLaterCardSaid : Prop := Claim7.holds Tryd.pinned (.plain (OpenSpec.ofChange enrichLaterSpec)) enrichLaterCard

/-- THE TIED CARD OF 'billinglaw21.EnrichUnits'. -/
def enrichUnitsCard : Claim7 := { stood := { row := enrichUnitsRow, standIns := [], harness := (true, "1de66392b20e8682d6492460847c958386d9e265e48018317419b16c4752a596"), looks := false }, kinds := [], alts := [], laidByText := true, laidKinds := [.data, .data, .data], laidTests := true, laidLooks := .later }
def EnrichUnitsCardSaid : Prop := Claim7.holds Tryd.pinned (.plain (OpenSpec.ofChange enrichUnitsSpec)) enrichUnitsCard

/-- THE TIED CARD OF 'billinglaw21.EnrichKeys'. -/
def enrichKeysCard : Claim7 := { stood := { row := enrichKeysRow, standIns := [], harness := (true, "1de66392b20e8682d6492460847c958386d9e265e48018317419b16c4752a596"), looks := false }, kinds := [], alts := [], laidByText := true, laidKinds := [.data, .data, .data], laidTests := true, laidLooks := .later }
def EnrichKeysCardSaid : Prop := Claim7.holds Tryd.pinned (.plain (OpenSpec.ofChange enrichKeysSpec)) enrichKeysCard

/-- THE SECOND FORM's CARD OF 'billinglaw21.EnrichUsages'. -/
def enrichUsagesUptoCard : Claim7 := { stood := { row := enrichUsagesUptoRow, standIns := [], harness := (true, "1de66392b20e8682d6492460847c958386d9e265e48018317419b16c4752a596"), looks := false }, kinds := [], alts := [], laidByText := true, laidKinds := [.data, .data, .data], laidTests := true, laidLooks := .later }
def EnrichUsagesUptoCardSaid : Prop := Claim7.holds Tryd.pinned (.plain (OpenSpec.upto enrichUsagesSpec)) enrichUsagesUptoCard

/-- THE SECOND FORM's CARD OF 'billinglaw21.EnrichFields'. -/
def enrichFieldsUptoCard : Claim7 := { stood := { row := enrichFieldsUptoRow, standIns := [], harness := (true, "1de66392b20e8682d6492460847c958386d9e265e48018317419b16c4752a596"), looks := false }, kinds := [], alts := [], laidByText := true, laidKinds := [.data, .data, .data], laidTests := true, laidLooks := .later }
def EnrichFieldsUptoCardSaid : Prop := Claim7.holds Tryd.pinned (.plain (OpenSpec.upto enrichFieldsSpec)) enrichFieldsUptoCard

/-- THE SECOND FORM's CARD OF 'billinglaw21.EnrichLater'. -/
def enrichLaterUptoCard : Claim7 := { stood := { row := enrichLaterUptoRow, standIns := [], harness := (true, "1de66392b20e8682d6492460847c958386d9e265e48018317419b16c4752a596"), looks := false }, kinds := [], alts := [], laidByText := true, laidKinds := [.data, .data, .data], laidTests := true, laidLooks := .later }
def EnrichLaterUptoCardSaid : Prop := Claim7.holds Tryd.pinned (.plain (OpenSpec.upto enrichLaterSpec)) enrichLaterUptoCard

/-- THE SECOND FORM's CARD OF 'billinglaw21.EnrichUnits'. -/
def enrichUnitsUptoCard : Claim7 := { stood := { row := enrichUnitsUptoRow, standIns := [], harness := (true, "1de66392b20e8682d6492460847c958386d9e265e48018317419b16c4752a596"), looks := false }, kinds := [], alts := [], laidByText := true, laidKinds := [.data, .data, .data], laidTests := true, laidLooks := .later }
def EnrichUnitsUptoCardSaid : Prop := Claim7.holds Tryd.pinned (.plain (OpenSpec.upto enrichUnitsSpec)) enrichUnitsUptoCard

/-- THE SECOND FORM's CARD OF 'billinglaw21.EnrichKeys'. -/
def enrichKeysUptoCard : Claim7 := { stood := { row := enrichKeysUptoRow, standIns := [], harness := (true, "1de66392b20e8682d6492460847c958386d9e265e48018317419b16c4752a596"), looks := false }, kinds := [], alts := [], laidByText := true, laidKinds := [.data, .data, .data], laidTests := true, laidLooks := .later }
def EnrichKeysUptoCardSaid : Prop := Claim7.holds Tryd.pinned (.plain (OpenSpec.upto enrichKeysSpec)) enrichKeysUptoCard
end Rows
end Go.Proofs.YtnjdcednocmcnaaDoor
