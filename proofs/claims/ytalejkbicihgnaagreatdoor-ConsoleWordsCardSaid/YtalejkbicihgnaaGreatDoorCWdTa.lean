/- The tie of the row: closed facts of the words that the translation bears. -/
import Derived.Test.YtalejkbicihgnaaGreatDoorRows
import Derived.LaidByTextLater
import Derived.SevenTiedAt
import Derived.LaidSub
import Derived.LaidOnce
set_option maxHeartbeats 4000000
set_option maxRecDepth 20000
set_option linter.unusedVariables false
set_option linter.unusedSimpArgs false
namespace Go.Proofs.YtalejkbicihgnaaGreatDoor.consoleWords
open Go
set_option maxRecDepth 100000
theorem ta : Tryz.prog.worded (varsWordLater true) = true := by kernel_rfl
theorem tb : Tryz.prog.worded (varsWordLater !true) = false := by kernel_rfl
end Go.Proofs.YtalejkbicihgnaaGreatDoor.consoleWords
