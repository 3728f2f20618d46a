/- ConsoleWords: the row's closed facts, by parts. -/
import Derived.Test.YtalejkbicihgnaaGreatDoorCards
import Derived.JoinedOf
import Derived.JoinedCond
set_option maxHeartbeats 4000000
set_option maxRecDepth 20000
set_option linter.unusedVariables false
set_option linter.unusedSimpArgs false
namespace Go.Proofs.YtalejkbicihgnaaGreatDoor.consoleWords
open Go
theorem lo2 : Tryz.pinned.checked.prog.globals.all (fun g => decide (g.type < Tryz.pinned.checked.prog.types.size)) = true := by kernel_rfl
theorem lo3 : Tryz.pinned.checked.prog.funcs.all (fun f => f.params.all fun t => decide (t < Tryz.pinned.checked.prog.types.size)) = true := by kernel_rfl
theorem size : Tryz.pinned.checked.prog.types.size = 772 := by kernel_rfl
end Go.Proofs.YtalejkbicihgnaaGreatDoor.consoleWords
