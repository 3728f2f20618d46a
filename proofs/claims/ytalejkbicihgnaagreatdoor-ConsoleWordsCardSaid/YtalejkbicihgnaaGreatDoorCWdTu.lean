/- The tie of the row: a closed fact. -/
import Derived.Test.YtalejkbicihgnaaGreatDoorRows
import Derived.LaidByTextLater
import Derived.SevenTiedAt
import Derived.LaidSub
import Derived.LaidOnce
set_option maxHeartbeats 4000000
set_option maxRecDepth 20000
set_option linter.unusedVariables false
set_option linter.unusedSimpArgs false
namespace Go.Proofs.YtalejkbicihgnaaGreatDoor.consoleWords
open Go
set_option maxRecDepth 100000
theorem noOwnUnsafe : Tryz.pinned.checked.prog.headLifts.contains "ownunsafe" = false := by kernel_rfl
end Go.Proofs.YtalejkbicihgnaaGreatDoor.consoleWords
