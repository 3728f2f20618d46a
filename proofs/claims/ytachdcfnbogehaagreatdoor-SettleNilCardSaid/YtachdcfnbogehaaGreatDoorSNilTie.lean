/- The tie of the row to the program's text. -/
import Derived.Test.YtachdcfnbogehaaGreatDoorRows
import Derived.LaidByTextLater
import Derived.SevenTiedAt
import Derived.LaidSub
import Derived.LaidOnce
import Derived.Test.YtachdcfnbogehaaGreatDoorSNilTa
import Derived.Test.YtachdcfnbogehaaGreatDoorSNilTc
import Derived.Test.YtachdcfnbogehaaGreatDoorSNilTe
import Derived.Test.YtachdcfnbogehaaGreatDoorSNilTf
import Derived.Test.YtachdcfnbogehaaGreatDoorSNilTg
import Derived.Test.YtachdcfnbogehaaGreatDoorSNilTh
import Derived.Test.YtachdcfnbogehaaGreatDoorSNilTu
import Derived.Test.YtachdcfnbogehaaGreatDoorSNilTv
set_option maxHeartbeats 4000000
set_option maxRecDepth 20000
set_option linter.unusedVariables false
set_option linter.unusedSimpArgs false
namespace Go.Proofs.YtachdcfnbogehaaGreatDoor.settleNil
open Go
set_option maxRecDepth 100000
theorem tie : Tryz.prog.laidByTextLater [("unicode/utf8.acceptRanges", Rows.laid_unicode_utf8_acceptRanges), ("strconv.ErrSyntax", Rows.laid_strconv_ErrSyntax), ("strconv.ErrRange", Rows.laid_strconv_ErrRange), ("internal/strconv.uint64pow10", Rows.laid_internal_strconv_uint64pow10), ("math/bits.deBruijn32tab", Rows.laid_math_bits_deBruijn32tab), ("math/bits.deBruijn64tab", Rows.laid_math_bits_deBruijn64tab), ("commonplace/mutator.names", Rows.laid_commonplace_mutator_names), ("commonplace/patch.names", Rows.laid_commonplace_patch_names)] [.data, .sentinel, .sentinel, .data, .data, .data, .data, .data] true :=
  Program.laidByTextLater_by_one 400 8 300 ta tb tc td te tf tg
theorem settleNil_row_tie : Rows.settleNilRow.laidByTextAt .later Tryz.pinned [.pinned, .data, .sentinel, .sentinel, .data, .data, .data, .data, .data] true :=
  OpenClaim.laidByTextAt_pinned rfl rfl tie rfl rfl rfl rfl (fun y hy _e => by
    simp only [Rows.settleNilRow, List.zip_cons_cons, List.zip_nil_right, List.mem_cons, List.mem_nil_iff, or_false] at hy
    rcases hy with rfl | rfl | rfl | rfl | rfl | rfl | rfl | rfl | rfl
    · exact ⟨pin_laid_unicode_utf8_first, by kernel_rfl⟩
    · cases _e
    · cases _e
    · cases _e
    · cases _e
    · cases _e
    · cases _e
    · cases _e
    · cases _e) fits1
end Go.Proofs.YtachdcfnbogehaaGreatDoor.settleNil
