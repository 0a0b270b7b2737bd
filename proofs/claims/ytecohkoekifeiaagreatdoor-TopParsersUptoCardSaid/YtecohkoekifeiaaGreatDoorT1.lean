/-
  The list that is tied, and closed facts of the tie. No condition.
-/
import Derived.Test.YtecohkoekifeiaaGreatDoorRows
import Derived.LaidByTextLater
import Derived.KernelRfl
namespace Go.Proofs.YtecohkoekifeiaaGreatDoor.tied
open Go
set_option linter.all false
def laid6 : List (String × DataW Unit) := [("unicode/utf8.acceptRanges", Rows.laid_unicode_utf8_acceptRanges), ("strconv.ErrSyntax", Rows.laid_strconv_ErrSyntax), ("strconv.ErrRange", Rows.laid_strconv_ErrRange), ("internal/strconv.uint64pow10", Rows.laid_internal_strconv_uint64pow10), ("math/bits.deBruijn32tab", Rows.laid_math_bits_deBruijn32tab), ("math/bits.deBruijn64tab", Rows.laid_math_bits_deBruijn64tab)]
def kinds6 : List LaidKind := [.data, .sentinel, .sentinel, .data, .data, .data]
theorem hk : laid6.map (fun x => Tryz.prog.kindOfLater x.1) = kinds6.map some := by kernel_rfl
theorem hw : Tryz.prog.worded (varsWordLater true) = true := by kernel_rfl
theorem hw2 : Tryz.prog.worded (varsWordLater !true) = false := by kernel_rfl
end Go.Proofs.YtecohkoekifeiaaGreatDoor.tied
