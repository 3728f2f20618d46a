/- ConsoleWords: a closed fact of the card. -/
import Derived.Test.YtalejkbicihgnaaGreatDoorCards
import Derived.JoinedOf
import Derived.JoinedCond
set_option maxHeartbeats 4000000
set_option maxRecDepth 20000
set_option linter.unusedVariables false
set_option linter.unusedSimpArgs false
namespace Go.Proofs.YtalejkbicihgnaaGreatDoor.consoleWords
theorem cardM : Tryz.pinned.checked.prog.mainIs = some (Rows.consoleWordsCard.stood.harness.1, Rows.consoleWordsCard.stood.harness.2.toList) := by kernel_rfl
end Go.Proofs.YtalejkbicihgnaaGreatDoor.consoleWords
