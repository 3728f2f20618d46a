/- ConsoleWords: the row's closed facts, one by one. -/
import Derived.Test.YtalejkbicihgnaaGreatDoorCards
import Derived.JoinedOf
import Derived.JoinedCond
set_option maxHeartbeats 4000000
set_option maxRecDepth 20000
set_option linter.unusedVariables false
set_option linter.unusedSimpArgs false
namespace Go.Proofs.YtalejkbicihgnaaGreatDoor.consoleWords
theorem j22 : ((Rows.consoleWordsRow.plainKeys == Tryz.pinned.checked.prog.plainKeys)) = true := by kernel_rfl
theorem j24 : (Tryz.pinned.checked.prog.stopsHeard) = true := by kernel_rfl
theorem j25 : (Tryz.pinned.checked.prog.mayEnter) = true := by kernel_rfl
end Go.Proofs.YtalejkbicihgnaaGreatDoor.consoleWords
