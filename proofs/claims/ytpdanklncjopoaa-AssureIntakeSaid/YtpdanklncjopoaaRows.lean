/-
  No cell of these rows narrows 'for every input' (looked for: loops, veiled, ifaces, maps, wideKeys, modest, calm, conditions, laid).
  DERIVED. THE GIVEN ROWS OF THIS SEAT. 6 by the template 'for every input the law returns true; each argument reads behind the call as it read before'; 0 by the template 'total and deterministic' (their statements: YtpdanklncjopoaaTotals.lean).
  GIVEN WITH THE SEED: the statements are not yours to turn. If you find one false, say at which input.
  Laid BY PROGRAM, IN A SANDBOX (cutbox-rows.mjs): the forced cells as the released guide's own fill.sh prints them over the translation 691163f7564bf92e… (all of the seat's roots in one cut). By AI agents, Wed Nov 11 2026. No macro, syntax, notation, axiom, sorry.
-/
import Derived.Test.YtpdanklncjopoaaChecked
import GoSem.Claim
import GoSem.ClaimJoined
import GoSem.ClaimMapViews
import Derived.JoinedTies
import Derived.KernelRfl
namespace Go.Proofs.Ytpdanklncjopoaa
/- THE CELL 'sum', in the pinned program and in every row, IS THE sha256 OF THE DUMP (.gsa) THAT YtpdanklncjopoaaProg.lean LOADS. Nothing in Lean hashes anything: it is a label: what it is worth is what the hold of that sum in a sandbox is worth. -/
noncomputable def Try.pinned : Pinned := { name := "ytpdanklncjopoaa", sum := "691163f7564bf92e8b9494943061612104157724622c30c6b62335aff5eb26d9", checked := Try.checked }
namespace Rows
def none {H : Type} : Left H := { results := [], args := [] }

/-- 'billinglaw54.AssureIntake': WHATEVER THE INPUT: true; the input reads as it did. -/
def assureIntakeSpec : ChangeSpec := { name := "assureIntake", fn := fun _ => fun
  | [d1, d2, d3] => { results := [.lit (.bool true)], args := [d1, d2, d3] }
  | _ => none }
def assureIntakeRow : OpenClaim := { program := "ytpdanklncjopoaa", sum := "691163f7564bf92e8b9494943061612104157724622c30c6b62335aff5eb26d9", func := "billing/billinglaw54.AssureIntake", spec := "assureIntake", unfollowed := true, recurses := true, apart := false }
def AssureIntakeSaid : Prop := assureIntakeRow.holds Try.pinned (OpenSpec.ofChange assureIntakeSpec)

/-- ITS FALSE NEIGHBOUR: 'it returns false'. Refute it at one input. -/
def assureIntakeWrong : ChangeSpec := { name := "assureIntake", fn := fun _ => fun
  | [d1, d2, d3] => { results := [.lit (.bool false)], args := [d1, d2, d3] }
  | _ => none }
def AssureIntakeWrongFalsely : Prop := assureIntakeRow.holds Try.pinned (OpenSpec.ofChange assureIntakeWrong)

/-- 'billinglaw54.AssureUsages': WHATEVER THE INPUT: true; the input reads as it did. -/
def assureUsagesSpec : ChangeSpec := { name := "assureUsages", fn := fun _ => fun
  | [d1, d2] => { results := [.lit (.bool true)], args := [d1, d2] }
  | _ => none }
def assureUsagesRow : OpenClaim := { program := "ytpdanklncjopoaa", sum := "691163f7564bf92e8b9494943061612104157724622c30c6b62335aff5eb26d9", func := "billing/billinglaw54.AssureUsages", spec := "assureUsages", unfollowed := true, recurses := true, apart := false }
def AssureUsagesSaid : Prop := assureUsagesRow.holds Try.pinned (OpenSpec.ofChange assureUsagesSpec)

/-- ITS FALSE NEIGHBOUR: 'it returns false'. Refute it at one input. -/
def assureUsagesWrong : ChangeSpec := { name := "assureUsages", fn := fun _ => fun
  | [d1, d2] => { results := [.lit (.bool false)], args := [d1, d2] }
  | _ => none }
def AssureUsagesWrongFalsely : Prop := assureUsagesRow.holds Try.pinned (OpenSpec.ofChange assureUsagesWrong)

/-- 'billinglaw54.AssureFound': WHATEVER THE INPUT: true; the input reads as it did. -/
def assureFoundSpec : ChangeSpec := { name := "assureFound", fn := fun _ => fun
  | [d1, d2, d3] => { results := [.lit (.bool true)], args := [d1, d2, d3] }
  | _ => none }
def assureFoundRow : OpenClaim := { program := "ytpdanklncjopoaa", sum := "691163f7564bf92e8b9494943061612104157724622c30c6b62335aff5eb26d9", func := "billing/billinglaw54.AssureFound", spec := "assureFound", unfollowed := true, recurses := true, apart := false }
def AssureFoundSaid : Prop := assureFoundRow.holds Try.pinned (OpenSpec.ofChange assureFoundSpec)

/-- ITS FALSE NEIGHBOUR: 'it returns false'. Refute it at one input. -/
def assureFoundWrong : ChangeSpec := { name := "assureFound", fn := fun _ => fun
  | [d1, d2, d3] => { results := [.lit (.bool false)], args := [d1, d2, d3] }
  | _ => none }
def AssureFoundWrongFalsely : Prop := assureFoundRow.holds Try.pinned (OpenSpec.ofChange assureFoundWrong)

/-- 'billinglaw54.AssureInvoices': WHATEVER THE INPUT: true; the input reads as it did. -/
def assureInvoicesSpec : ChangeSpec := { name := "assureInvoices", fn := fun _ => fun
  | [d1, d2] => { results := [.lit (.bool true)], args := [d1, d2] }
  | _ => none }
def assureInvoicesRow : OpenClaim := { program := "ytpdanklncjopoaa", sum := "691163f7564bf92e8b9494943061612104157724622c30c6b62335aff5eb26d9", func := "billing/billinglaw54.AssureInvoices", spec := "assureInvoices", unfollowed := true, recurses := true, apart := false }
def AssureInvoicesSaid : Prop := assureInvoicesRow.holds Try.pinned (OpenSpec.ofChange assureInvoicesSpec)

/-- ITS FALSE NEIGHBOUR: 'it returns false'. Refute it at one input. -/
def assureInvoicesWrong : ChangeSpec := { name := "assureInvoices", fn := fun _ => fun
  | [d1, d2] => { results := [.lit (.bool false)], args := [d1, d2] }
  | _ => none }
def AssureInvoicesWrongFalsely : Prop := assureInvoicesRow.holds Try.pinned (OpenSpec.ofChange assureInvoicesWrong)

/-- 'billinglaw54.AssureText': WHATEVER THE INPUT: true; the input reads as it did. -/
def assureTextSpec : ChangeSpec := { name := "assureText", fn := fun _ => fun
  | [d] => { results := [.lit (.bool true)], args := [d] }
  | _ => none }
def assureTextRow : OpenClaim := { program := "ytpdanklncjopoaa", sum := "691163f7564bf92e8b9494943061612104157724622c30c6b62335aff5eb26d9", func := "billing/billinglaw54.AssureText", spec := "assureText", unfollowed := true, recurses := true, apart := false }
def AssureTextSaid : Prop := assureTextRow.holds Try.pinned (OpenSpec.ofChange assureTextSpec)

/-- ITS FALSE NEIGHBOUR: 'it returns false'. Refute it at one input. -/
def assureTextWrong : ChangeSpec := { name := "assureText", fn := fun _ => fun
  | [d] => { results := [.lit (.bool false)], args := [d] }
  | _ => none }
def AssureTextWrongFalsely : Prop := assureTextRow.holds Try.pinned (OpenSpec.ofChange assureTextWrong)

/-- 'billinglaw54.AssureBooks': WHATEVER THE INPUT: true; the input reads as it did. -/
def assureBooksSpec : ChangeSpec := { name := "assureBooks", fn := fun _ => fun
  | [d1, d2] => { results := [.lit (.bool true)], args := [d1, d2] }
  | _ => none }
def assureBooksRow : OpenClaim := { program := "ytpdanklncjopoaa", sum := "691163f7564bf92e8b9494943061612104157724622c30c6b62335aff5eb26d9", func := "billing/billinglaw54.AssureBooks", spec := "assureBooks", unfollowed := true, recurses := true, apart := false }
def AssureBooksSaid : Prop := assureBooksRow.holds Try.pinned (OpenSpec.ofChange assureBooksSpec)

/-- ITS FALSE NEIGHBOUR: 'it returns false'. Refute it at one input. -/
def assureBooksWrong : ChangeSpec := { name := "assureBooks", fn := fun _ => fun
  | [d1, d2] => { results := [.lit (.bool false)], args := [d1, d2] }
  | _ => none }
def AssureBooksWrongFalsely : Prop := assureBooksRow.holds Try.pinned (OpenSpec.ofChange assureBooksWrong)

/- THE SECOND FORM. 'bulk': how many values and letters a reading holds, each counted each time it is reached (what is shared counts as often as it is met; a slice's spare places count too). A statement '..UptoSaid' is the law's where the arguments, and the package variables that the reading takes, are together of bulk at most 1048576: NARROWER than '..Said'. Prove '..Said' where nothing that the law and all that it calls make is longer than what came in: it says more and counts as full. Else prove '..UptoSaid'. A law counts once. -/
mutual
def uptoBulk {H : Type} : DataW H → Nat
  | .lit (.string bytes) => bytes.length + 1
  | .lit _ => 1
  | .nil => 1
  | .ptr d => uptoBulk d + 1
  | .slice elems spare => uptoBulkAll elems + uptoBulkAll spare + 1
  | .agg parts => uptoBulkAll parts + 1
  | .iface _ d => uptoBulk d + 1
  | .map entries => uptoBulkEntries entries + 1
  | .held _ => 1
def uptoBulkAll {H : Type} : List (DataW H) → Nat
  | [] => 0
  | d :: r => uptoBulk d + uptoBulkAll r
def uptoBulkEntries {H : Type} : List (Lit × DataW H) → Nat
  | [] => 0
  | x :: r => uptoBulkEntry x + uptoBulkEntries r
def uptoBulkEntry {H : Type} : Lit × DataW H → Nat
  | (.string bytes, d) => bytes.length + uptoBulk d + 1
  | (_, d) => uptoBulk d + 1
 end
def uptoSmall : (H : Type) → List (DataW H) → Bool := fun _ ds => decide (uptoBulkAll ds ≤ 1048576)
def OpenSpec.upto (s : _root_.Go.ChangeSpec) : _root_.Go.OpenSpec := { _root_.Go.OpenSpec.ofChange s with cond := some uptoSmall }

/-- 'billinglaw54.AssureIntake', WHERE WHAT IT READS IS OF BULK AT MOST 1048576: true; the input reads as it did. -/
def assureIntakeUptoRow : OpenClaim := { program := "ytpdanklncjopoaa", sum := "691163f7564bf92e8b9494943061612104157724622c30c6b62335aff5eb26d9", func := "billing/billinglaw54.AssureIntake", spec := "assureIntake", unfollowed := true, recurses := true, apart := false, narrowed := true }
def AssureIntakeUptoSaid : Prop := assureIntakeUptoRow.holds Try.pinned (OpenSpec.upto assureIntakeSpec)

/-- 'billinglaw54.AssureUsages', WHERE WHAT IT READS IS OF BULK AT MOST 1048576: true; the input reads as it did. -/
def assureUsagesUptoRow : OpenClaim := { program := "ytpdanklncjopoaa", sum := "691163f7564bf92e8b9494943061612104157724622c30c6b62335aff5eb26d9", func := "billing/billinglaw54.AssureUsages", spec := "assureUsages", unfollowed := true, recurses := true, apart := false, narrowed := true }
def AssureUsagesUptoSaid : Prop := assureUsagesUptoRow.holds Try.pinned (OpenSpec.upto assureUsagesSpec)

/-- 'billinglaw54.AssureFound', WHERE WHAT IT READS IS OF BULK AT MOST 1048576: true; the input reads as it did. -/
def assureFoundUptoRow : OpenClaim := { program := "ytpdanklncjopoaa", sum := "691163f7564bf92e8b9494943061612104157724622c30c6b62335aff5eb26d9", func := "billing/billinglaw54.AssureFound", spec := "assureFound", unfollowed := true, recurses := true, apart := false, narrowed := true }
def AssureFoundUptoSaid : Prop := assureFoundUptoRow.holds Try.pinned (OpenSpec.upto assureFoundSpec)

/-- 'billinglaw54.AssureInvoices', WHERE WHAT IT READS IS OF BULK AT MOST 1048576: true; the input reads as it did. -/
def assureInvoicesUptoRow : OpenClaim := { program := "ytpdanklncjopoaa", sum := "691163f7564bf92e8b9494943061612104157724622c30c6b62335aff5eb26d9", func := "billing/billinglaw54.AssureInvoices", spec := "assureInvoices", unfollowed := true, recurses := true, apart := false, narrowed := true }
def AssureInvoicesUptoSaid : Prop := assureInvoicesUptoRow.holds Try.pinned (OpenSpec.upto assureInvoicesSpec)

/-- 'billinglaw54.AssureText', WHERE WHAT IT READS IS OF BULK AT MOST 1048576: true; the input reads as it did. -/
def assureTextUptoRow : OpenClaim := { program := "ytpdanklncjopoaa", sum := "691163f7564bf92e8b9494943061612104157724622c30c6b62335aff5eb26d9", func := "billing/billinglaw54.AssureText", spec := "assureText", unfollowed := true, recurses := true, apart := false, narrowed := true }
def AssureTextUptoSaid : Prop := assureTextUptoRow.holds Try.pinned (OpenSpec.upto assureTextSpec)

/-- 'billinglaw54.AssureBooks', WHERE WHAT IT READS IS OF BULK AT MOST 1048576: true; the input reads as it did. -/
def assureBooksUptoRow : OpenClaim := { program := "ytpdanklncjopoaa", sum := "691163f7564bf92e8b9494943061612104157724622c30c6b62335aff5eb26d9", func := "billing/billinglaw54.AssureBooks", spec := "assureBooks", unfollowed := true, recurses := true, apart := false, narrowed := true }
def AssureBooksUptoSaid : Prop := assureBooksUptoRow.holds Try.pinned (OpenSpec.upto assureBooksSpec)

end Rows
end Go.Proofs.Ytpdanklncjopoaa
