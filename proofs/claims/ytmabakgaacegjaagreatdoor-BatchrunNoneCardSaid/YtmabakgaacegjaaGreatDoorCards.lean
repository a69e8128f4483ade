/-
  DERIVED. GIVEN WITH THE SEED: THE CARDS: each row of YtmabakgaacegjaaGreatDoorRows.lean that lists a variable, with what it lists TIED to the program's text (the seventh form; the later family's looks); each row that meets fmt, with fmt's text TOLD by the authors' own Lean function (tested against real Go, not proved from fmt's source: count such statements apart). THE CARD IS WHAT COUNTS. Prove the row's statement (the work); the ties are given (YtmabakgaacegjaaGreatDoorTie.lean); close each card by the builder's one call (the guide's Derived/Test/ToyasCard.lean, 'card_holds'). Laid BY PROGRAM, IN A SANDBOX (cutbox-door.mjs). By AI agents, Wed Nov 11 2026. No macro, syntax, notation, axiom, sorry.
-/
import Derived.Test.YtmabakgaacegjaaGreatDoorRows
import GoSem.ClaimSeven
namespace Go.Proofs.YtmabakgaacegjaaGreatDoor
namespace Rows

/-- THE TIED CARD OF 'billinglaw53.BatchrunNone'. -/
def batchrunNoneCard : Claim7 := { stood := { row := batchrunNoneRow, standIns := [], harness := (true, "b6322bba0e8e8b14ba9e40f710a61ac92fd41a452ec5528a6415b62810363244"), looks := false }, kinds := [], alts := [], laidByText := true, laidKinds := [.data, .data, .data, .data, .pinned], laidTests := true, laidLooks := .later }
def BatchrunNoneCardSaid : Prop := Claim7.holds Tryz.pinned (.plain (OpenSpec.ofChange batchrunNoneSpec)) batchrunNoneCard

/-- THE SECOND FORM's CARD OF 'billinglaw53.BatchrunNone'. -/
def batchrunNoneUptoCard : Claim7 := { stood := { row := batchrunNoneUptoRow, standIns := [], harness := (true, "b6322bba0e8e8b14ba9e40f710a61ac92fd41a452ec5528a6415b62810363244"), looks := false }, kinds := [], alts := [], laidByText := true, laidKinds := [.data, .data, .data, .data, .pinned], laidTests := true, laidLooks := .later }
def BatchrunNoneUptoCardSaid : Prop := Claim7.holds Tryz.pinned (.plain (OpenSpec.upto batchrunNoneSpec)) batchrunNoneUptoCard
end Rows
end Go.Proofs.YtmabakgaacegjaaGreatDoor
