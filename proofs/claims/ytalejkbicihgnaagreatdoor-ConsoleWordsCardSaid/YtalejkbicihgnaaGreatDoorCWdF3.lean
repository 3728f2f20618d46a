/- ConsoleWords: the row's closed facts, one by one. -/
import Derived.Test.YtalejkbicihgnaaGreatDoorCards
import Derived.JoinedOf
import Derived.JoinedCond
import Derived.Test.YtalejkbicihgnaaGreatDoorCWdHc
set_option maxHeartbeats 4000000
set_option maxRecDepth 20000
set_option linter.unusedVariables false
set_option linter.unusedSimpArgs false
namespace Go.Proofs.YtalejkbicihgnaaGreatDoor.consoleWords
open Go
set_option maxRecDepth 1000000 in
theorem j11 : ((Rows.consoleWordsRow.recurses == Tryz.pinned.checked.prog.recurses 3)) = true := by
  unfold Program.recurses Program.unfollowed
  rw [reach]
  kernel_rfl
end Go.Proofs.YtalejkbicihgnaaGreatDoor.consoleWords
