/- ConsoleWords: the row's closed facts, by parts. -/
import Derived.Test.YtalejkbicihgnaaGreatDoorCards
import Derived.JoinedOf
import Derived.JoinedCond
import Derived.Test.YtalejkbicihgnaaGreatDoorCWdHc
import Derived.Test.YtalejkbicihgnaaGreatDoorCWdHb
set_option maxHeartbeats 4000000
set_option maxRecDepth 20000
set_option linter.unusedVariables false
set_option linter.unusedSimpArgs false
namespace Go.Proofs.YtalejkbicihgnaaGreatDoor.consoleWords
open Go
set_option maxRecDepth 1000000 in
theorem j12 : (Rows.consoleWordsRow.named == Tryz.pinned.checked.prog.varsNamed 3) = true := by
  unfold Program.varsNamed
  rw [reach, heads]
  kernel_rfl
end Go.Proofs.YtalejkbicihgnaaGreatDoor.consoleWords
