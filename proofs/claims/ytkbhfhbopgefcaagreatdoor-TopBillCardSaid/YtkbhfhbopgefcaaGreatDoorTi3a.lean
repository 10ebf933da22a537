/- Part of a proof over the program's translation: The tie, with the list in another order, 1. -/
import Derived.Test.YtkbhfhbopgefcaaGreatDoorTi1
/- The tie, with the list in another order, 1. -/
namespace Go.Proofs.YtkbhfhbopgefcaaGreatDoor
open Go
abbrev tL3 : List (String × DataW Unit) := [("math/bits.deBruijn32tab", Rows.laid_math_bits_deBruijn32tab), ("math/bits.deBruijn64tab", Rows.laid_math_bits_deBruijn64tab), ("internal/strconv.uint64pow10", Rows.laid_internal_strconv_uint64pow10), ("unicode/utf8.acceptRanges", Rows.laid_unicode_utf8_acceptRanges), ("errors.errorType", Rows.laid_errors_errorType), ("strconv.ErrRange", Rows.laid_strconv_ErrRange), ("strconv.ErrSyntax", Rows.laid_strconv_ErrSyntax)]
abbrev tK3 : List LaidKind := [.data, .data, .data, .data, .handle, .sentinel, .sentinel]
theorem t4o3 : tL3.map (fun x => Tryz.prog.kindOfLater x.1) = tK3.map some := by kernel_rfl
theorem t6o3 : varsNamedLaterB Tryz.prog (varsId Tryz.prog) tL3 = true := by kernel_rfl
theorem tFits3 : Tryz.pinned.checked.prog.listedFits [("math/bits.deBruijn32tab", Rows.laid_math_bits_deBruijn32tab), ("math/bits.deBruijn64tab", Rows.laid_math_bits_deBruijn64tab), ("internal/strconv.uint64pow10", Rows.laid_internal_strconv_uint64pow10), ("unicode/utf8.acceptRanges", Rows.laid_unicode_utf8_acceptRanges), ("errors.errorType", Rows.laid_errors_errorType), ("strconv.ErrRange", Rows.laid_strconv_ErrRange), ("strconv.ErrSyntax", Rows.laid_strconv_ErrSyntax), ("unicode/utf8.first", Rows.laid_unicode_utf8_first)] = true := by
  unfold Program.listedFits
  rw [tOwn]
  kernel_rfl
end Go.Proofs.YtkbhfhbopgefcaaGreatDoor

