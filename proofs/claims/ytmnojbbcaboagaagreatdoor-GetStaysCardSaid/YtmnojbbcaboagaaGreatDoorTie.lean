/-
  DERIVED. GIVEN WITH THE SEED: THE PROGRAM's TIES (one call each: nine closed facts by the kernel) AND EACH ROW's TIE, after the 31st guide's Derived/Test/Toyas{Tie, Card}.lean. No idea stands in it: it is a product of the set-up. Laid BY PROGRAM, IN A SANDBOX (cutbox-door.mjs). By AI agents, Wed Nov 11 2026. No macro, syntax, notation, axiom, sorry.
-/
import Derived.Test.YtmnojbbcaboagaaGreatDoorRows
import Derived.LaidByTextLater
import Derived.SevenTiedAt
import Derived.LaidSub
import Derived.LaidOnce
namespace Go.Proofs.YtmnojbbcaboagaaGreatDoor
open Go
set_option maxRecDepth 100000
theorem seatTie1 : Tryz.prog.laidByTextLater [("math/bits.deBruijn32tab", Rows.laid_math_bits_deBruijn32tab), ("math/bits.deBruijn64tab", Rows.laid_math_bits_deBruijn64tab), ("internal/strconv.uint64pow10", Rows.laid_internal_strconv_uint64pow10), ("unicode/utf8.acceptRanges", Rows.laid_unicode_utf8_acceptRanges), ("errors.errorType", Rows.laid_errors_errorType), ("pewholder/api.ErrText", Rows.laid_pewholder_api_ErrText), ("pewholder/api.ErrBound", Rows.laid_pewholder_api_ErrBound), ("pewholder/api.ErrShape", Rows.laid_pewholder_api_ErrShape), ("pewholder/api.ErrMajor", Rows.laid_pewholder_api_ErrMajor), ("pewholder/api.ErrNone", Rows.laid_pewholder_api_ErrNone), ("pewholder/api.ErrExist", Rows.laid_pewholder_api_ErrExist), ("pewholder/api.ErrFull", Rows.laid_pewholder_api_ErrFull), ("pewholder/api.ErrOrder", Rows.laid_pewholder_api_ErrOrder), ("pewholder/api.ErrClash", Rows.laid_pewholder_api_ErrClash), ("pewholder/api.ErrSum", Rows.laid_pewholder_api_ErrSum), ("strconv.ErrRange", Rows.laid_strconv_ErrRange), ("strconv.ErrSyntax", Rows.laid_strconv_ErrSyntax)] [.data, .data, .data, .data, .handle, .sentinel, .sentinel, .sentinel, .sentinel, .sentinel, .sentinel, .sentinel, .sentinel, .sentinel, .sentinel, .sentinel, .sentinel] true :=
  Program.laidByTextLater_by_one 269 8 65 (by kernel_rfl) (by kernel_rfl) (by kernel_rfl) (by kernel_rfl) (by kernel_rfl) (by kernel_rfl) (fun _ _ => by kernel_rfl)
theorem pin_laid_unicode_utf8_first : Tryz.pinned.checked.prog.pinnedFits "unicode/utf8.first" = true := by kernel_rfl
theorem noOwnUnsafe : Tryz.pinned.checked.prog.headLifts.contains "ownunsafe" = false := by kernel_rfl
theorem fits1 : Tryz.pinned.checked.prog.listedFits [("math/bits.deBruijn32tab", Rows.laid_math_bits_deBruijn32tab), ("math/bits.deBruijn64tab", Rows.laid_math_bits_deBruijn64tab), ("internal/strconv.uint64pow10", Rows.laid_internal_strconv_uint64pow10), ("unicode/utf8.acceptRanges", Rows.laid_unicode_utf8_acceptRanges), ("pewholder/api.ErrText", Rows.laid_pewholder_api_ErrText), ("pewholder/api.ErrBound", Rows.laid_pewholder_api_ErrBound), ("pewholder/api.ErrShape", Rows.laid_pewholder_api_ErrShape), ("pewholder/api.ErrMajor", Rows.laid_pewholder_api_ErrMajor), ("pewholder/api.ErrNone", Rows.laid_pewholder_api_ErrNone), ("pewholder/api.ErrFull", Rows.laid_pewholder_api_ErrFull), ("pewholder/api.ErrOrder", Rows.laid_pewholder_api_ErrOrder), ("pewholder/api.ErrClash", Rows.laid_pewholder_api_ErrClash), ("strconv.ErrRange", Rows.laid_strconv_ErrRange), ("strconv.ErrSyntax", Rows.laid_strconv_ErrSyntax), ("unicode/utf8.first", Rows.laid_unicode_utf8_first)] = true := by
  unfold Program.listedFits
  rw [noOwnUnsafe]
  kernel_rfl
theorem tie : Tryz.prog.laidByTextLater [("math/bits.deBruijn32tab", Rows.laid_math_bits_deBruijn32tab), ("math/bits.deBruijn64tab", Rows.laid_math_bits_deBruijn64tab), ("internal/strconv.uint64pow10", Rows.laid_internal_strconv_uint64pow10), ("unicode/utf8.acceptRanges", Rows.laid_unicode_utf8_acceptRanges), ("pewholder/api.ErrText", Rows.laid_pewholder_api_ErrText), ("pewholder/api.ErrBound", Rows.laid_pewholder_api_ErrBound), ("pewholder/api.ErrShape", Rows.laid_pewholder_api_ErrShape), ("pewholder/api.ErrMajor", Rows.laid_pewholder_api_ErrMajor), ("pewholder/api.ErrNone", Rows.laid_pewholder_api_ErrNone), ("pewholder/api.ErrFull", Rows.laid_pewholder_api_ErrFull), ("pewholder/api.ErrOrder", Rows.laid_pewholder_api_ErrOrder), ("pewholder/api.ErrClash", Rows.laid_pewholder_api_ErrClash), ("strconv.ErrRange", Rows.laid_strconv_ErrRange), ("strconv.ErrSyntax", Rows.laid_strconv_ErrSyntax)] [.data, .data, .data, .data, .sentinel, .sentinel, .sentinel, .sentinel, .sentinel, .sentinel, .sentinel, .sentinel, .sentinel, .sentinel] true :=
  Program.laidByTextLater.sub seatTie1 ["math/bits.deBruijn32tab", "math/bits.deBruijn64tab", "internal/strconv.uint64pow10", "unicode/utf8.acceptRanges", "pewholder/api.ErrText", "pewholder/api.ErrBound", "pewholder/api.ErrShape", "pewholder/api.ErrMajor", "pewholder/api.ErrNone", "pewholder/api.ErrFull", "pewholder/api.ErrOrder", "pewholder/api.ErrClash", "strconv.ErrRange", "strconv.ErrSyntax"] (by kernel_rfl) (by kernel_rfl)
theorem getStays_row_tie : Rows.getStaysRow.laidByTextAt .later Tryz.pinned [.data, .data, .data, .data, .sentinel, .sentinel, .sentinel, .sentinel, .sentinel, .sentinel, .sentinel, .sentinel, .sentinel, .sentinel, .pinned] true :=
  OpenClaim.laidByTextAt_pinned rfl rfl tie rfl rfl rfl rfl (fun y hy _e => by
    simp only [Rows.getStaysRow, List.zip_cons_cons, List.zip_nil_right, List.mem_cons, List.mem_nil_iff, or_false] at hy
    rcases hy with rfl | rfl | rfl | rfl | rfl | rfl | rfl | rfl | rfl | rfl | rfl | rfl | rfl | rfl | rfl
    · cases _e
    · cases _e
    · cases _e
    · cases _e
    · cases _e
    · cases _e
    · cases _e
    · cases _e
    · cases _e
    · cases _e
    · cases _e
    · cases _e
    · cases _e
    · cases _e
    · exact ⟨pin_laid_unicode_utf8_first, by kernel_rfl⟩) fits1
theorem fits2 : Tryz.pinned.checked.prog.listedFits [("math/bits.deBruijn32tab", Rows.laid_math_bits_deBruijn32tab), ("math/bits.deBruijn64tab", Rows.laid_math_bits_deBruijn64tab), ("internal/strconv.uint64pow10", Rows.laid_internal_strconv_uint64pow10), ("unicode/utf8.acceptRanges", Rows.laid_unicode_utf8_acceptRanges), ("errors.errorType", Rows.laid_errors_errorType), ("pewholder/api.ErrText", Rows.laid_pewholder_api_ErrText), ("pewholder/api.ErrBound", Rows.laid_pewholder_api_ErrBound), ("pewholder/api.ErrShape", Rows.laid_pewholder_api_ErrShape), ("pewholder/api.ErrMajor", Rows.laid_pewholder_api_ErrMajor), ("pewholder/api.ErrNone", Rows.laid_pewholder_api_ErrNone), ("pewholder/api.ErrExist", Rows.laid_pewholder_api_ErrExist), ("pewholder/api.ErrFull", Rows.laid_pewholder_api_ErrFull), ("pewholder/api.ErrOrder", Rows.laid_pewholder_api_ErrOrder), ("pewholder/api.ErrClash", Rows.laid_pewholder_api_ErrClash), ("pewholder/api.ErrSum", Rows.laid_pewholder_api_ErrSum), ("strconv.ErrRange", Rows.laid_strconv_ErrRange), ("strconv.ErrSyntax", Rows.laid_strconv_ErrSyntax), ("unicode/utf8.first", Rows.laid_unicode_utf8_first)] = true := by
  unfold Program.listedFits
  rw [noOwnUnsafe]
  kernel_rfl
theorem tie2 : Tryz.prog.laidByTextLater [("math/bits.deBruijn32tab", Rows.laid_math_bits_deBruijn32tab), ("math/bits.deBruijn64tab", Rows.laid_math_bits_deBruijn64tab), ("internal/strconv.uint64pow10", Rows.laid_internal_strconv_uint64pow10), ("unicode/utf8.acceptRanges", Rows.laid_unicode_utf8_acceptRanges), ("errors.errorType", Rows.laid_errors_errorType), ("pewholder/api.ErrText", Rows.laid_pewholder_api_ErrText), ("pewholder/api.ErrBound", Rows.laid_pewholder_api_ErrBound), ("pewholder/api.ErrShape", Rows.laid_pewholder_api_ErrShape), ("pewholder/api.ErrMajor", Rows.laid_pewholder_api_ErrMajor), ("pewholder/api.ErrNone", Rows.laid_pewholder_api_ErrNone), ("pewholder/api.ErrExist", Rows.laid_pewholder_api_ErrExist), ("pewholder/api.ErrFull", Rows.laid_pewholder_api_ErrFull), ("pewholder/api.ErrOrder", Rows.laid_pewholder_api_ErrOrder), ("pewholder/api.ErrClash", Rows.laid_pewholder_api_ErrClash), ("pewholder/api.ErrSum", Rows.laid_pewholder_api_ErrSum), ("strconv.ErrRange", Rows.laid_strconv_ErrRange), ("strconv.ErrSyntax", Rows.laid_strconv_ErrSyntax)] [.data, .data, .data, .data, .handle, .sentinel, .sentinel, .sentinel, .sentinel, .sentinel, .sentinel, .sentinel, .sentinel, .sentinel, .sentinel, .sentinel, .sentinel] true :=
  Program.laidByTextLater.sub seatTie1 ["math/bits.deBruijn32tab", "math/bits.deBruijn64tab", "internal/strconv.uint64pow10", "unicode/utf8.acceptRanges", "errors.errorType", "pewholder/api.ErrText", "pewholder/api.ErrBound", "pewholder/api.ErrShape", "pewholder/api.ErrMajor", "pewholder/api.ErrNone", "pewholder/api.ErrExist", "pewholder/api.ErrFull", "pewholder/api.ErrOrder", "pewholder/api.ErrClash", "pewholder/api.ErrSum", "strconv.ErrRange", "strconv.ErrSyntax"] (by kernel_rfl) (by kernel_rfl)
theorem getDoes_row_tie : Rows.getDoesRow.laidByTextAt .later Tryz.pinned [.data, .data, .data, .data, .handle, .sentinel, .sentinel, .sentinel, .sentinel, .sentinel, .sentinel, .sentinel, .sentinel, .sentinel, .sentinel, .sentinel, .sentinel, .pinned] true :=
  OpenClaim.laidByTextAt_pinned rfl rfl tie2 rfl rfl rfl rfl (fun y hy _e => by
    simp only [Rows.getDoesRow, List.zip_cons_cons, List.zip_nil_right, List.mem_cons, List.mem_nil_iff, or_false] at hy
    rcases hy with rfl | rfl | rfl | rfl | rfl | rfl | rfl | rfl | rfl | rfl | rfl | rfl | rfl | rfl | rfl | rfl | rfl | rfl
    · cases _e
    · cases _e
    · cases _e
    · cases _e
    · cases _e
    · cases _e
    · cases _e
    · cases _e
    · cases _e
    · cases _e
    · cases _e
    · cases _e
    · cases _e
    · cases _e
    · cases _e
    · cases _e
    · cases _e
    · exact ⟨pin_laid_unicode_utf8_first, by kernel_rfl⟩) fits2
theorem getStaysUpto_row_tie : Rows.getStaysUptoRow.laidByTextAt .later Tryz.pinned [.data, .data, .data, .data, .sentinel, .sentinel, .sentinel, .sentinel, .sentinel, .sentinel, .sentinel, .sentinel, .sentinel, .sentinel, .pinned] true :=
  OpenClaim.laidByTextAt_pinned rfl rfl tie rfl rfl rfl rfl (fun y hy _e => by
    simp only [Rows.getStaysUptoRow, List.zip_cons_cons, List.zip_nil_right, List.mem_cons, List.mem_nil_iff, or_false] at hy
    rcases hy with rfl | rfl | rfl | rfl | rfl | rfl | rfl | rfl | rfl | rfl | rfl | rfl | rfl | rfl | rfl
    · cases _e
    · cases _e
    · cases _e
    · cases _e
    · cases _e
    · cases _e
    · cases _e
    · cases _e
    · cases _e
    · cases _e
    · cases _e
    · cases _e
    · cases _e
    · cases _e
    · exact ⟨pin_laid_unicode_utf8_first, by kernel_rfl⟩) fits1
theorem getDoesUpto_row_tie : Rows.getDoesUptoRow.laidByTextAt .later Tryz.pinned [.data, .data, .data, .data, .handle, .sentinel, .sentinel, .sentinel, .sentinel, .sentinel, .sentinel, .sentinel, .sentinel, .sentinel, .sentinel, .sentinel, .sentinel, .pinned] true :=
  OpenClaim.laidByTextAt_pinned rfl rfl tie2 rfl rfl rfl rfl (fun y hy _e => by
    simp only [Rows.getDoesUptoRow, List.zip_cons_cons, List.zip_nil_right, List.mem_cons, List.mem_nil_iff, or_false] at hy
    rcases hy with rfl | rfl | rfl | rfl | rfl | rfl | rfl | rfl | rfl | rfl | rfl | rfl | rfl | rfl | rfl | rfl | rfl | rfl
    · cases _e
    · cases _e
    · cases _e
    · cases _e
    · cases _e
    · cases _e
    · cases _e
    · cases _e
    · cases _e
    · cases _e
    · cases _e
    · cases _e
    · cases _e
    · cases _e
    · cases _e
    · cases _e
    · cases _e
    · exact ⟨pin_laid_unicode_utf8_first, by kernel_rfl⟩) fits2
end Go.Proofs.YtmnojbbcaboagaaGreatDoor
