/-
  DERIVED. GIVEN WITH THE SEED: THE CARDS: each row of YtmdpmallgcekgaaDoorRows.lean that lists a variable, with what it lists TIED to the program's text (the seventh form; the later family's looks); each row that meets fmt, with fmt's text TOLD by the authors' own Lean function (tested against real Go, not proved from fmt's source: count such statements apart). THE CARD IS WHAT COUNTS. Prove the row's statement (the work); the ties are given (YtmdpmallgcekgaaDoorTie.lean); close each card by the builder's one call (the guide's Derived/Test/ToyasCard.lean, 'card_holds'). Laid BY PROGRAM, IN A SANDBOX (cutbox-door.mjs). By AI agents, Wed Nov 11 2026. No macro, syntax, notation, axiom, sorry.
-/
import Derived.Test.YtmdpmallgcekgaaDoorRows
import GoSem.ClaimSeven
namespace Go.Proofs.YtmdpmallgcekgaaDoor
namespace Rows

/-- THE TIED CARD OF 'billinglaw10.TaggedBuilds'. -/
def taggedBuildsCard : Claim7 := { stood := { row := taggedBuildsRow, standIns := [], harness := (true, "778beebb608fb8e81d278ebd104048498ad78b0cc905ce016c9fd0e819397402"), looks := false }, kinds := [], alts := [], laidByText := true, laidKinds := [.data, .data, .data], laidTests := true, laidLooks := .later }
def TaggedBuildsCardSaid : Prop := Claim7.holds Tryd.pinned (.plain (OpenSpec.ofChange taggedBuildsSpec)) taggedBuildsCard

/-- THE TIED CARD OF 'billinglaw10.TaggedElements'. -/
def taggedElementsCard : Claim7 := { stood := { row := taggedElementsRow, standIns := [], harness := (true, "778beebb608fb8e81d278ebd104048498ad78b0cc905ce016c9fd0e819397402"), looks := false }, kinds := [], alts := [], laidByText := true, laidKinds := [.data, .data, .data], laidTests := true, laidLooks := .later }
def TaggedElementsCardSaid : Prop := Claim7.holds Tryd.pinned (.plain (OpenSpec.ofChange taggedElementsSpec)) taggedElementsCard

/-- THE TIED CARD OF 'billinglaw10.TaggedEncodes'. -/
def taggedEncodesCard : Claim7 := { stood := { row := taggedEncodesRow, standIns := [], harness := (true, "778beebb608fb8e81d278ebd104048498ad78b0cc905ce016c9fd0e819397402"), looks := false }, kinds := [], alts := [], laidByText := true, laidKinds := [.data, .data, .data], laidTests := true, laidLooks := .later }
def TaggedEncodesCardSaid : Prop := Claim7.holds Tryd.pinned (.plain (OpenSpec.ofChange taggedEncodesSpec)) taggedEncodesCard

/-- THE TIED CARD OF 'billinglaw10.TaggedDecodes'. -/
def taggedDecodesCard : Claim7 := { stood := { row := taggedDecodesRow, standIns := [], harness := (true, "778beebb608fb8e81d278ebd104048498ad78b0cc905ce016c9fd0e819397402"), looks := false }, kinds := [], alts := [], laidByText := true, laidKinds := [.data, .data, .data], laidTests := true, laidLooks := .later }
def TaggedDecodesCardSaid : Prop := Claim7.holds Tryd.pinned (.plain (OpenSpec.ofChange taggedDecodesSpec)) taggedDecodesCard

/-- THE TIED CARD OF 'billinglaw10.TaggedBack'. -/
def taggedBackCard : Claim7 := { stood := { row := taggedBackRow, standIns := [], harness := (true, "778beebb608fb8e81d278ebd104048498ad78b0cc905ce016c9fd0e819397402"), looks := false }, kinds := [], alts := [], laidByText := true, laidKinds := [.data, .data, .data], laidTests := true, laidLooks := .later }
def TaggedBackCardSaid : Prop := Claim7.holds Tryd.pinned (.plain (OpenSpec.ofChange taggedBackSpec)) taggedBackCard

/-- THE TIED CARD OF 'billinglaw10.TaggedAll'. -/
def taggedAllCard : Claim7 := { stood := { row := taggedAllRow, standIns := [], harness := (true, "778beebb608fb8e81d278ebd104048498ad78b0cc905ce016c9fd0e819397402"), looks := false }, kinds := [], alts := [], laidByText := true, laidKinds := [.data, .data, .data], laidTests := true, laidLooks := .later }
def TaggedAllCardSaid : Prop := Claim7.holds Tryd.pinned (.plain (OpenSpec.ofChange taggedAllSpec)) taggedAllCard

/-- THE SECOND FORM's CARD OF 'billinglaw10.TaggedBuilds'. -/
def taggedBuildsUptoCard : Claim7 := { stood := { row := taggedBuildsUptoRow, standIns := [], harness := (true, "778beebb608fb8e81d278ebd104048498ad78b0cc905ce016c9fd0e819397402"), looks := false }, kinds := [], alts := [], laidByText := true, laidKinds := [.data, .data, .data], laidTests := true, laidLooks := .later }
def TaggedBuildsUptoCardSaid : Prop := Claim7.holds Tryd.pinned (.plain (OpenSpec.upto taggedBuildsSpec)) taggedBuildsUptoCard

/-- THE SECOND FORM's CARD OF 'billinglaw10.TaggedElements'. -/
def taggedElementsUptoCard : Claim7 := { stood := { row := taggedElementsUptoRow, standIns := [], harness := (true, "778beebb608fb8e81d278ebd104048498ad78b0cc905ce016c9fd0e819397402"), looks := false }, kinds := [], alts := [], laidByText := true, laidKinds := [.data, .data, .data], laidTests := true, laidLooks := .later }
def TaggedElementsUptoCardSaid : Prop := Claim7.holds Tryd.pinned (.plain (OpenSpec.upto taggedElementsSpec)) taggedElementsUptoCard

/-- THE SECOND FORM's CARD OF 'billinglaw10.TaggedEncodes'. -/
def taggedEncodesUptoCard : Claim7 := { stood := { row := taggedEncodesUptoRow, standIns := [], harness := (true, "778beebb608fb8e81d278ebd104048498ad78b0cc905ce016c9fd0e819397402"), looks := false }, kinds := [], alts := [], laidByText := true, laidKinds := [.data, .data, .data], laidTests := true, laidLooks := .later }
def TaggedEncodesUptoCardSaid : Prop := Claim7.holds Tryd.pinned (.plain (OpenSpec.upto taggedEncodesSpec)) taggedEncodesUptoCard

/-- THE SECOND FORM's CARD OF 'billinglaw10.TaggedDecodes'. -/
def taggedDecodesUptoCard : Claim7 := { stood := { row := taggedDecodesUptoRow, standIns := [], harness := (true, "778beebb608fb8e81d278ebd104048498ad78b0cc905ce016c9fd0e819397402"), looks := false }, kinds := [], alts := [], laidByText := true, laidKinds := [.data, .data, .data], laidTests := true, laidLooks := .later }
def TaggedDecodesUptoCardSaid : Prop := Claim7.holds Tryd.pinned (.plain (OpenSpec.upto taggedDecodesSpec)) taggedDecodesUptoCard

/-- THE SECOND FORM's CARD OF 'billinglaw10.TaggedBack'. -/
def taggedBackUptoCard : Claim7 := { stood := { row := taggedBackUptoRow, standIns := [], harness := (true, "778beebb608fb8e81d278ebd104048498ad78b0cc905ce016c9fd0e819397402"), looks := false }, kinds := [], alts := [], laidByText := true, laidKinds := [.data, .data, .data], laidTests := true, laidLooks := .later }
def TaggedBackUptoCardSaid : Prop := Claim7.holds Tryd.pinned (.plain (OpenSpec.upto taggedBackSpec)) taggedBackUptoCard

/-- THE SECOND FORM's CARD OF 'billinglaw10.TaggedAll'. -/
def taggedAllUptoCard : Claim7 := { stood := { row := taggedAllUptoRow, standIns := [], harness := (true, "778beebb608fb8e81d278ebd104048498ad78b0cc905ce016c9fd0e819397402"), looks := false }, kinds := [], alts := [], laidByText := true, laidKinds := [.data, .data, .data], laidTests := true, laidLooks := .later }
def TaggedAllUptoCardSaid : Prop := Claim7.holds Tryd.pinned (.plain (OpenSpec.upto taggedAllSpec)) taggedAllUptoCard
end Rows
end Go.Proofs.YtmdpmallgcekgaaDoor
