/- The tie of the row: the door's text lays each variable once. -/
import Derived.Test.YtalejkbicihgnaaGreatDoorRows
import Derived.LaidByTextLater
import Derived.SevenTiedAt
import Derived.LaidSub
import Derived.LaidOnce
set_option maxHeartbeats 4000000
set_option maxRecDepth 20000
set_option linter.unusedVariables false
set_option linter.unusedSimpArgs false
namespace Go.Proofs.YtalejkbicihgnaaGreatDoor.consoleWords
open Go
set_option maxRecDepth 100000
theorem tf : varsNamedLaterB Tryz.prog (varsId Tryz.prog) [("strconv.ErrSyntax", Rows.laid_strconv_ErrSyntax), ("strconv.ErrRange", Rows.laid_strconv_ErrRange), ("internal/strconv.uint64pow10", Rows.laid_internal_strconv_uint64pow10), ("math/bits.deBruijn32tab", Rows.laid_math_bits_deBruijn32tab), ("math/bits.deBruijn64tab", Rows.laid_math_bits_deBruijn64tab), ("unicode/utf8.acceptRanges", Rows.laid_unicode_utf8_acceptRanges), ("commonplace/mutator.names", Rows.laid_commonplace_mutator_names), ("commonplace/patch.names", Rows.laid_commonplace_patch_names)] = true := by kernel_rfl
end Go.Proofs.YtalejkbicihgnaaGreatDoor.consoleWords
