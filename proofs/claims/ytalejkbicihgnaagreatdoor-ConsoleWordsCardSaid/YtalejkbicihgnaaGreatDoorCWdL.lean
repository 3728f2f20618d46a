/- ConsoleWords: the row's closed facts, by parts. -/
import Derived.Test.YtalejkbicihgnaaGreatDoorCards
import Derived.JoinedOf
import Derived.JoinedCond
set_option maxHeartbeats 4000000
set_option maxRecDepth 20000
set_option linter.unusedVariables false
set_option linter.unusedSimpArgs false
namespace Go.Proofs.YtalejkbicihgnaaGreatDoor.consoleWords
open Go
theorem lo0 : (List.range' 0 140).all (rowFine Tryz.pinned.checked.prog) = true := by kernel_rfl
end Go.Proofs.YtalejkbicihgnaaGreatDoor.consoleWords
