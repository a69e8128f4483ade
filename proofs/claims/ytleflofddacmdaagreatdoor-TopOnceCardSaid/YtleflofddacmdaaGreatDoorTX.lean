/- The tie of the listed variables, by one pass over the program's functions. -/
import Derived.Test.YtleflofddacmdaaGreatDoorRows
import Derived.Test.YtleflofddacmdaaGreatDoorFA
import Derived.LaidByTextLater
import Derived.LaidOnce
import Derived.SevenTiedAt
namespace Go.Proofs.YtleflofddacmdaaGreatDoor
open Go Go.Fast
set_option maxRecDepth 100000
theorem pin_laid_unicode_utf8_first : Tryz.pinned.checked.prog.pinnedFits "unicode/utf8.first" = true := by kernel_rfl
theorem noOwnUnsafe : Tryz.pinned.checked.prog.headLifts.contains "ownunsafe" = false := by kernel_rfl
theorem fits1 : Tryz.pinned.checked.prog.listedFits [("unicode/utf8.first", Rows.laid_unicode_utf8_first), ("unicode/utf8.acceptRanges", Rows.laid_unicode_utf8_acceptRanges), ("strconv.ErrSyntax", Rows.laid_strconv_ErrSyntax), ("strconv.ErrRange", Rows.laid_strconv_ErrRange), ("internal/strconv.uint64pow10", Rows.laid_internal_strconv_uint64pow10), ("math/bits.deBruijn32tab", Rows.laid_math_bits_deBruijn32tab), ("math/bits.deBruijn64tab", Rows.laid_math_bits_deBruijn64tab), ("billing/amount.powers", Rows.laid_billing_amount_powers)] = true := by
  unfold Program.listedFits
  rw [noOwnUnsafe]
  kernel_rfl
def laidR : List (String × DataW Unit) := [("unicode/utf8.acceptRanges", Rows.laid_unicode_utf8_acceptRanges), ("strconv.ErrSyntax", Rows.laid_strconv_ErrSyntax), ("strconv.ErrRange", Rows.laid_strconv_ErrRange), ("internal/strconv.uint64pow10", Rows.laid_internal_strconv_uint64pow10), ("math/bits.deBruijn32tab", Rows.laid_math_bits_deBruijn32tab), ("math/bits.deBruijn64tab", Rows.laid_math_bits_deBruijn64tab), ("billing/amount.powers", Rows.laid_billing_amount_powers)]
theorem gvars : Tryz.prog.funcNamed "gosem.cut.vars" = some 807 := named (by kernel_rfl)
theorem vid : varsId Tryz.prog = 807 := by unfold varsId; rw [gvars]; rfl
theorem tw1 : Tryz.prog.worded (varsWordLater true) = true := word (by kernel_rfl)
theorem tw2 : Tryz.prog.worded (varsWordLater !true) = false := word (by kernel_rfl)
theorem tw3 : Tryz.prog.worded rootWordLater = true := word (by kernel_rfl)
theorem tn : varsNamedLaterB Tryz.prog (varsId Tryz.prog) laidR = true := by rw [vid]; kernel_rfl
theorem trun : ∀ os tape, doorLeaves Tryz.prog 80 8 65 laidR os tape = some (laidR.filter fun x => x.2.handleName?.isNone, (funcsListed laidR).map (·.2.funcsOut)) := fun os tape => by
  unfold doorLeaves; rw [vid]
  show _ = _
  kernel_rfl
theorem tie : Tryz.prog.laidByTextLater laidR [.data, .sentinel, .sentinel, .data, .data, .data, .data] true :=
  Program.laidByTextLater_by_one 80 8 65 tw1 tw2 tw3 (by kernel_rfl) (by rw [gvars]; rfl) tn trun
theorem topOnce_row_tie : Rows.topOnceRow.laidByTextAt .later Tryz.pinned [.pinned, .data, .sentinel, .sentinel, .data, .data, .data, .data] true :=
  OpenClaim.laidByTextAt_pinned rfl rfl tie rfl rfl rfl rfl (fun y hy _e => by
    simp only [Rows.topOnceRow, List.zip_cons_cons, List.zip_nil_right, List.mem_cons, List.mem_nil_iff, or_false] at hy
    rcases hy with rfl | rfl | rfl | rfl | rfl | rfl | rfl | rfl
    · exact ⟨pin_laid_unicode_utf8_first, by kernel_rfl⟩
    · cases _e
    · cases _e
    · cases _e
    · cases _e
    · cases _e
    · cases _e
    · cases _e) fits1
end Go.Proofs.YtleflofddacmdaaGreatDoor
