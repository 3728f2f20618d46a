/- The tie of the row to the program's text. -/
import Derived.Test.YtalejkbicihgnaaGreatDoorRows
import Derived.LaidByTextLater
import Derived.SevenTiedAt
import Derived.LaidSub
import Derived.LaidOnce
import Derived.Test.YtalejkbicihgnaaGreatDoorCWdTa
import Derived.Test.YtalejkbicihgnaaGreatDoorCWdTc
import Derived.Test.YtalejkbicihgnaaGreatDoorCWdTe
import Derived.Test.YtalejkbicihgnaaGreatDoorCWdTf
import Derived.Test.YtalejkbicihgnaaGreatDoorCWdTg
import Derived.Test.YtalejkbicihgnaaGreatDoorCWdTh
import Derived.Test.YtalejkbicihgnaaGreatDoorCWdTu
import Derived.Test.YtalejkbicihgnaaGreatDoorCWdTv
set_option maxHeartbeats 4000000
set_option maxRecDepth 20000
set_option linter.unusedVariables false
set_option linter.unusedSimpArgs false
namespace Go.Proofs.YtalejkbicihgnaaGreatDoor.consoleWords
open Go
set_option maxRecDepth 100000
theorem tie : Tryz.prog.laidByTextLater [("strconv.ErrSyntax", Rows.laid_strconv_ErrSyntax), ("strconv.ErrRange", Rows.laid_strconv_ErrRange), ("internal/strconv.uint64pow10", Rows.laid_internal_strconv_uint64pow10), ("math/bits.deBruijn32tab", Rows.laid_math_bits_deBruijn32tab), ("math/bits.deBruijn64tab", Rows.laid_math_bits_deBruijn64tab), ("unicode/utf8.acceptRanges", Rows.laid_unicode_utf8_acceptRanges), ("commonplace/mutator.names", Rows.laid_commonplace_mutator_names), ("commonplace/patch.names", Rows.laid_commonplace_patch_names)] [.sentinel, .sentinel, .data, .data, .data, .data, .data, .data] true :=
  Program.laidByTextLater_by_one 400 8 300 ta tb tc td te tf tg
theorem consoleWords_row_tie : Rows.consoleWordsRow.laidByTextAt .later Tryz.pinned [.sentinel, .sentinel, .data, .data, .data, .pinned, .data, .data, .data] true :=
  OpenClaim.laidByTextAt_pinned rfl rfl tie rfl rfl rfl rfl (fun y hy _e => by
    simp only [Rows.consoleWordsRow, List.zip_cons_cons, List.zip_nil_right, List.mem_cons, List.mem_nil_iff, or_false] at hy
    rcases hy with rfl | rfl | rfl | rfl | rfl | rfl | rfl | rfl | rfl
    · cases _e
    · cases _e
    · cases _e
    · cases _e
    · cases _e
    · exact ⟨pin_laid_unicode_utf8_first, by kernel_rfl⟩
    · cases _e
    · cases _e
    · cases _e) fits1
end Go.Proofs.YtalejkbicihgnaaGreatDoor.consoleWords
