/- ConsoleWords: the row's closed facts, one by one. -/
import Derived.Test.YtalejkbicihgnaaGreatDoorCards
import Derived.JoinedOf
import Derived.JoinedCond
import Derived.Test.YtalejkbicihgnaaGreatDoorCWdHc
set_option maxHeartbeats 4000000
set_option maxRecDepth 20000
set_option linter.unusedVariables false
set_option linter.unusedSimpArgs false
namespace Go.Proofs.YtalejkbicihgnaaGreatDoor.consoleWords
open Go
theorem j2 : (mapsRowed Tryz.pinned.checked.prog) = true := by kernel_rfl
set_option maxRecDepth 1000000 in
theorem j9 : ((Rows.consoleWordsRow.inPlace == Tryz.pinned.checked.prog.inPlace 3)) = true := by
  unfold Program.inPlace
  rw [reach]
  kernel_rfl
end Go.Proofs.YtalejkbicihgnaaGreatDoor.consoleWords
