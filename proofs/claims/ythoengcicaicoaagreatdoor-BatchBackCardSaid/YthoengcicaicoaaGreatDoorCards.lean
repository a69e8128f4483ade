/-
  DERIVED. GIVEN WITH THE SEED: THE CARDS: each row of YthoengcicaicoaaGreatDoorRows.lean that lists a variable, with what it lists TIED to the program's text (the seventh form; the later family's looks); each row that meets fmt, with fmt's text TOLD by the authors' own Lean function (tested against real Go, not proved from fmt's source: count such statements apart). THE CARD IS WHAT COUNTS. Prove the row's statement (the work); the ties are given (YthoengcicaicoaaGreatDoorTie.lean); close each card by the builder's one call (the guide's Derived/Test/ToyasCard.lean, 'card_holds'). Laid BY PROGRAM, IN A SANDBOX (cutbox-door.mjs). By AI agents, Wed Nov 11 2026. No macro, syntax, notation, axiom, sorry.
-/
import Derived.Test.YthoengcicaicoaaGreatDoorRows
import GoSem.ClaimSeven
namespace Go.Proofs.YthoengcicaicoaaGreatDoor
namespace Rows

/-- THE TIED CARD OF 'billinglaw12.BatchReads'. -/
def batchReadsCard : Claim7 := { stood := { row := batchReadsRow, standIns := [], harness := (true, "b6b7613ed9d08a0c93ce654e8c7f613a04c9643c5564ade4e0dcd0caa64a6944"), looks := false }, kinds := [], alts := [], laidByText := true, laidKinds := [.data, .data, .data, .data, .pinned], laidTests := true, laidLooks := .later }
def BatchReadsCardSaid : Prop := Claim7.holds Tryz.pinned (.plain (OpenSpec.ofChange batchReadsSpec)) batchReadsCard

/-- THE TIED CARD OF 'billinglaw12.BatchBack'. -/
def batchBackCard : Claim7 := { stood := { row := batchBackRow, standIns := [], harness := (true, "b6b7613ed9d08a0c93ce654e8c7f613a04c9643c5564ade4e0dcd0caa64a6944"), looks := false }, kinds := [], alts := [], laidByText := true, laidKinds := [.data, .data, .data, .data, .pinned], laidTests := true, laidLooks := .later }
def BatchBackCardSaid : Prop := Claim7.holds Tryz.pinned (.plain (OpenSpec.ofChange batchBackSpec)) batchBackCard

/-- THE TIED CARD OF 'billinglaw12.BatchValid'. -/
def batchValidCard : Claim7 := { stood := { row := batchValidRow, standIns := [], harness := (true, "b6b7613ed9d08a0c93ce654e8c7f613a04c9643c5564ade4e0dcd0caa64a6944"), looks := false }, kinds := [], alts := [], laidByText := true, laidKinds := [.data, .data, .data, .data, .pinned], laidTests := true, laidLooks := .later }
def BatchValidCardSaid : Prop := Claim7.holds Tryz.pinned (.plain (OpenSpec.ofChange batchValidSpec)) batchValidCard

/-- THE SECOND FORM's CARD OF 'billinglaw12.BatchReads'. -/
def batchReadsUptoCard : Claim7 := { stood := { row := batchReadsUptoRow, standIns := [], harness := (true, "b6b7613ed9d08a0c93ce654e8c7f613a04c9643c5564ade4e0dcd0caa64a6944"), looks := false }, kinds := [], alts := [], laidByText := true, laidKinds := [.data, .data, .data, .data, .pinned], laidTests := true, laidLooks := .later }
def BatchReadsUptoCardSaid : Prop := Claim7.holds Tryz.pinned (.plain (OpenSpec.upto batchReadsSpec)) batchReadsUptoCard

/-- THE SECOND FORM's CARD OF 'billinglaw12.BatchBack'. -/
def batchBackUptoCard : Claim7 := { stood := { row := batchBackUptoRow, standIns := [], harness := (true, "b6b7613ed9d08a0c93ce654e8c7f613a04c9643c5564ade4e0dcd0caa64a6944"), looks := false }, kinds := [], alts := [], laidByText := true, laidKinds := [.data, .data, .data, .data, .pinned], laidTests := true, laidLooks := .later }
def BatchBackUptoCardSaid : Prop := Claim7.holds Tryz.pinned (.plain (OpenSpec.upto batchBackSpec)) batchBackUptoCard

/-- THE SECOND FORM's CARD OF 'billinglaw12.BatchValid'. -/
def batchValidUptoCard : Claim7 := { stood := { row := batchValidUptoRow, standIns := [], harness := (true, "b6b7613ed9d08a0c93ce654e8c7f613a04c9643c5564ade4e0dcd0caa64a6944"), looks := false }, kinds := [], alts := [], laidByText := true, laidKinds := [.data, .data, .data, .data, .pinned], laidTests := true, laidLooks := .later }
def BatchValidUptoCardSaid : Prop := Claim7.holds Tryz.pinned (.plain (OpenSpec.upto batchValidSpec)) batchValidUptoCard
end Rows
end Go.Proofs.YthoengcicaicoaaGreatDoor
