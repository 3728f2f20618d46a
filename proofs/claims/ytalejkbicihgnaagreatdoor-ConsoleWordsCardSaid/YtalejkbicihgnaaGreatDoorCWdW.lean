/- ConsoleWords: a closed fact of the card. -/
import Derived.Test.YtalejkbicihgnaaGreatDoorCards
import Derived.JoinedOf
import Derived.JoinedCond
set_option maxHeartbeats 4000000
set_option maxRecDepth 20000
set_option linter.unusedVariables false
set_option linter.unusedSimpArgs false
namespace Go.Proofs.YtalejkbicihgnaaGreatDoor.consoleWords
theorem cardW : Rows.consoleWordsRow.wfByText (OpenSpec.ofChange Rows.consoleWordsSpec) = true := by kernel_rfl
end Go.Proofs.YtalejkbicihgnaaGreatDoor.consoleWords
