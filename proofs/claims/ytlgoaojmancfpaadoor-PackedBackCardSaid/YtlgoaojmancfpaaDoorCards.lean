/-
  DERIVED. GIVEN WITH THE SEED: THE CARDS: each row of YtlgoaojmancfpaaDoorRows.lean that lists a variable, with what it lists TIED to the program's text (the seventh form; the later family's looks); each row that meets fmt, with fmt's text TOLD by the authors' own Lean function (tested against real Go, not proved from fmt's source: count such statements apart). THE CARD IS WHAT COUNTS. Prove the row's statement (the work); the ties are given (YtlgoaojmancfpaaDoorTie.lean); close each card by the builder's one call (the guide's Derived/Test/ToyasCard.lean, 'card_holds'). Laid BY PROGRAM, IN A SANDBOX (cutbox-door.mjs). By AI agents, Wed Nov 11 2026. No macro, syntax, notation, axiom, sorry.
-/
import Derived.Test.YtlgoaojmancfpaaDoorRows
import GoSem.ClaimSeven
namespace Go.Proofs.YtlgoaojmancfpaaDoor
namespace Rows

/-- THE TIED CARD OF 'billinglaw11.PackedDecimals'. -/
def packedDecimalsCard : Claim7 := { stood := { row := packedDecimalsRow, standIns := [], harness := (true, "31e987a5588d0e5bbda9da110a5ea142339cb546a088a58661fec5681119c742"), looks := false }, kinds := [], alts := [], laidByText := true, laidKinds := [.data, .data, .data], laidTests := true, laidLooks := .later }
def PackedDecimalsCardSaid : Prop := Claim7.holds Tryd.pinned (.plain (OpenSpec.ofChange packedDecimalsSpec)) packedDecimalsCard

/-- THE TIED CARD OF 'billinglaw11.PackedEncodes'. -/
def packedEncodesCard : Claim7 := { stood := { row := packedEncodesRow, standIns := [], harness := (true, "31e987a5588d0e5bbda9da110a5ea142339cb546a088a58661fec5681119c742"), looks := false }, kinds := [], alts := [], laidByText := true, laidKinds := [.data, .data, .data], laidTests := true, laidLooks := .later }
def PackedEncodesCardSaid : Prop := Claim7.holds Tryd.pinned (.plain (OpenSpec.ofChange packedEncodesSpec)) packedEncodesCard

/-- THE TIED CARD OF 'billinglaw11.PackedDecodes'. -/
def packedDecodesCard : Claim7 := { stood := { row := packedDecodesRow, standIns := [], harness := (true, "31e987a5588d0e5bbda9da110a5ea142339cb546a088a58661fec5681119c742"), looks := false }, kinds := [], alts := [], laidByText := true, laidKinds := [.data, .data, .data], laidTests := true, laidLooks := .later }
def PackedDecodesCardSaid : Prop := Claim7.holds Tryd.pinned (.plain (OpenSpec.ofChange packedDecodesSpec)) packedDecodesCard

/-- THE TIED CARD OF 'billinglaw11.PackedBack'. -/
def packedBackCard : Claim7 := { stood := { row := packedBackRow, standIns := [], harness := (true, "31e987a5588d0e5bbda9da110a5ea142339cb546a088a58661fec5681119c742"), looks := false }, kinds := [], alts := [], laidByText := true, laidKinds := [.data, .data, .data], laidTests := true, laidLooks := .later }
def PackedBackCardSaid : Prop := Claim7.holds Tryd.pinned (.plain (OpenSpec.ofChange packedBackSpec)) packedBackCard

/-- THE TIED CARD OF 'billinglaw11.PackedAll'. -/
def packedAllCard : Claim7 := { stood := { row := packedAllRow, standIns := [], harness := (true, "31e987a5588d0e5bbda9da110a5ea142339cb546a088a58661fec5681119c742"), looks := false }, kinds := [], alts := [], laidByText := true, laidKinds := [.data, .data, .data], laidTests := true, laidLooks := .later }
def PackedAllCardSaid : Prop := Claim7.holds Tryd.pinned (.plain (OpenSpec.ofChange packedAllSpec)) packedAllCard

/-- THE SECOND FORM's CARD OF 'billinglaw11.PackedDecimals'. -/
def packedDecimalsUptoCard : Claim7 := { stood := { row := packedDecimalsUptoRow, standIns := [], harness := (true, "31e987a5588d0e5bbda9da110a5ea142339cb546a088a58661fec5681119c742"), looks := false }, kinds := [], alts := [], laidByText := true, laidKinds := [.data, .data, .data], laidTests := true, laidLooks := .later }
def PackedDecimalsUptoCardSaid : Prop := Claim7.holds Tryd.pinned (.plain (OpenSpec.upto packedDecimalsSpec)) packedDecimalsUptoCard

/-- THE SECOND FORM's CARD OF 'billinglaw11.PackedEncodes'. -/
def packedEncodesUptoCard : Claim7 := { stood := { row := packedEncodesUptoRow, standIns := [], harness := (true, "31e987a5588d0e5bbda9da110a5ea142339cb546a088a58661fec5681119c742"), looks := false }, kinds := [], alts := [], laidByText := true, laidKinds := [.data, .data, .data], laidTests := true, laidLooks := .later }
def PackedEncodesUptoCardSaid : Prop := Claim7.holds Tryd.pinned (.plain (OpenSpec.upto packedEncodesSpec)) packedEncodesUptoCard

/-- THE SECOND FORM's CARD OF 'billinglaw11.PackedDecodes'. -/
def packedDecodesUptoCard : Claim7 := { stood := { row := packedDecodesUptoRow, standIns := [], harness := (true, "31e987a5588d0e5bbda9da110a5ea142339cb546a088a58661fec5681119c742"), looks := false }, kinds := [], alts := [], laidByText := true, laidKinds := [.data, .data, .data], laidTests := true, laidLooks := .later }
def PackedDecodesUptoCardSaid : Prop := Claim7.holds Tryd.pinned (.plain (OpenSpec.upto packedDecodesSpec)) packedDecodesUptoCard

/-- THE SECOND FORM's CARD OF 'billinglaw11.PackedBack'. -/
def packedBackUptoCard : Claim7 := { stood := { row := packedBackUptoRow, standIns := [], harness := (true, "31e987a5588d0e5bbda9da110a5ea142339cb546a088a58661fec5681119c742"), looks := false }, kinds := [], alts := [], laidByText := true, laidKinds := [.data, .data, .data], laidTests := true, laidLooks := .later }
def PackedBackUptoCardSaid : Prop := Claim7.holds Tryd.pinned (.plain (OpenSpec.upto packedBackSpec)) packedBackUptoCard

/-- THE SECOND FORM's CARD OF 'billinglaw11.PackedAll'. -/
def packedAllUptoCard : Claim7 := { stood := { row := packedAllUptoRow, standIns := [], harness := (true, "31e987a5588d0e5bbda9da110a5ea142339cb546a088a58661fec5681119c742"), looks := false }, kinds := [], alts := [], laidByText := true, laidKinds := [.data, .data, .data], laidTests := true, laidLooks := .later }
def PackedAllUptoCardSaid : Prop := Claim7.holds Tryd.pinned (.plain (OpenSpec.upto packedAllSpec)) packedAllUptoCard
end Rows
end Go.Proofs.YtlgoaojmancfpaaDoor
