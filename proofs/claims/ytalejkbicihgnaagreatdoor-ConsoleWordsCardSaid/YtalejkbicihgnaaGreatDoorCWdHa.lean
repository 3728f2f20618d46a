/- ConsoleWords: the row's closed facts, by parts. -/
import Derived.Test.YtalejkbicihgnaaGreatDoorCards
import Derived.JoinedOf
import Derived.JoinedCond
set_option maxHeartbeats 4000000
set_option maxRecDepth 20000
set_option linter.unusedVariables false
set_option linter.unusedSimpArgs false
namespace Go.Proofs.YtalejkbicihgnaaGreatDoor.consoleWords
open Go
theorem fuel : (Tryz.pinned.checked.prog.funcs.toList.map fun g => (Tryz.pinned.checked.prog.leadsTo g).length + 1).sum = 1914 := by kernel_rfl
end Go.Proofs.YtalejkbicihgnaaGreatDoor.consoleWords
