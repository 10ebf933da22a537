/- Part of a proof over the program's translation: The tie, with the list in another order, 1. -/
import Derived.Test.YtooafhbgdhjijaaGreatDoorTi1
/- The tie, with the list in another order, 1. -/
namespace Go.Proofs.YtooafhbgdhjijaaGreatDoor
open Go
abbrev tL2 : List (String × DataW Unit) := [("unicode/utf8.acceptRanges", Rows.laid_unicode_utf8_acceptRanges), ("internal/strconv.uint64pow10", Rows.laid_internal_strconv_uint64pow10), ("math/bits.deBruijn32tab", Rows.laid_math_bits_deBruijn32tab), ("math/bits.deBruijn64tab", Rows.laid_math_bits_deBruijn64tab), ("strconv.ErrSyntax", Rows.laid_strconv_ErrSyntax), ("strconv.ErrRange", Rows.laid_strconv_ErrRange), ("errors.errorType", Rows.laid_errors_errorType)]
abbrev tK2 : List LaidKind := [.data, .data, .data, .data, .sentinel, .sentinel, .handle]
theorem t4b : tL2.map (fun x => Tryz.prog.kindOfLater x.1) = tK2.map some := by kernel_rfl
theorem t6b : varsNamedLaterB Tryz.prog (varsId Tryz.prog) tL2 = true := by kernel_rfl
theorem tFits2 : Tryz.pinned.checked.prog.listedFits [("unicode/utf8.first", Rows.laid_unicode_utf8_first), ("unicode/utf8.acceptRanges", Rows.laid_unicode_utf8_acceptRanges), ("internal/strconv.uint64pow10", Rows.laid_internal_strconv_uint64pow10), ("math/bits.deBruijn32tab", Rows.laid_math_bits_deBruijn32tab), ("math/bits.deBruijn64tab", Rows.laid_math_bits_deBruijn64tab), ("strconv.ErrSyntax", Rows.laid_strconv_ErrSyntax), ("strconv.ErrRange", Rows.laid_strconv_ErrRange), ("errors.errorType", Rows.laid_errors_errorType)] = true := by
  unfold Program.listedFits
  rw [tOwn]
  kernel_rfl
end Go.Proofs.YtooafhbgdhjijaaGreatDoor

