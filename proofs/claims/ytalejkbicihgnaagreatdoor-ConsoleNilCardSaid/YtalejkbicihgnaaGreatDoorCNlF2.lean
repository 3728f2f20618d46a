/- ConsoleNil: the row's closed facts, one by one. -/
import Derived.Test.YtalejkbicihgnaaGreatDoorCards
import Derived.JoinedOf
import Derived.JoinedCond
import Derived.Test.YtalejkbicihgnaaGreatDoorCNlHc
set_option maxHeartbeats 4000000
set_option maxRecDepth 20000
set_option linter.unusedVariables false
set_option linter.unusedSimpArgs false
namespace Go.Proofs.YtalejkbicihgnaaGreatDoor.consoleNil
open Go
set_option maxRecDepth 1000000 in
theorem j10 : ((Rows.consoleNilRow.unfollowed == Tryz.pinned.checked.prog.unfollowed 4)) = true := by
  unfold Program.unfollowed
  rw [reach]
  kernel_rfl
end Go.Proofs.YtalejkbicihgnaaGreatDoor.consoleNil
