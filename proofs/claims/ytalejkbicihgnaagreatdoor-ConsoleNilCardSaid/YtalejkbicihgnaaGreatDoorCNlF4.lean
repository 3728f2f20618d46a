/- ConsoleNil: the row's closed facts, by parts. -/
import Derived.Test.YtalejkbicihgnaaGreatDoorCards
import Derived.JoinedOf
import Derived.JoinedCond
import Derived.Test.YtalejkbicihgnaaGreatDoorCNlHc
import Derived.Test.YtalejkbicihgnaaGreatDoorCNlHb
set_option maxHeartbeats 4000000
set_option maxRecDepth 20000
set_option linter.unusedVariables false
set_option linter.unusedSimpArgs false
namespace Go.Proofs.YtalejkbicihgnaaGreatDoor.consoleNil
open Go
set_option maxRecDepth 1000000 in
theorem j12 : (Rows.consoleNilRow.named == Tryz.pinned.checked.prog.varsNamed 4) = true := by
  unfold Program.varsNamed
  rw [reach, heads]
  kernel_rfl
end Go.Proofs.YtalejkbicihgnaaGreatDoor.consoleNil
