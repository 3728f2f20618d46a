/- ConsoleWords: the row's closed facts, by parts. -/
import Derived.Test.YtalejkbicihgnaaGreatDoorCards
import Derived.JoinedOf
import Derived.JoinedCond
import Derived.Test.YtalejkbicihgnaaGreatDoorCWdL
import Derived.Test.YtalejkbicihgnaaGreatDoorCWdN
import Derived.Test.YtalejkbicihgnaaGreatDoorCWdP
set_option maxHeartbeats 4000000
set_option maxRecDepth 20000
set_option linter.unusedVariables false
set_option linter.unusedSimpArgs false
namespace Go.Proofs.YtalejkbicihgnaaGreatDoor.consoleWords
open Go
theorem range_parts {f : Nat → Bool} {a n : Nat} (h1 : (List.range' 0 a).all f = true) (h2 : (List.range' a n).all f = true) : (List.range (a + n)).all f = true := by
  rw [List.all_eq_true] at *
  intro x hx
  rw [List.mem_range] at hx
  by_cases h : x < a
  · exact h1 x (by rw [List.mem_range'_1]; omega)
  · exact h2 x (by rw [List.mem_range'_1]; omega)
set_option maxRecDepth 1000000 in
theorem j1 : laidOutB Tryz.pinned.checked.prog = true := by
  unfold laidOutB
  rw [lo2, lo3, size, Bool.and_true, Bool.and_true]
  exact (show (List.range (140 + 632)).all (rowFine Tryz.pinned.checked.prog) = true from range_parts lo0 lo1)
end Go.Proofs.YtalejkbicihgnaaGreatDoor.consoleWords
