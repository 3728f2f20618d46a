/- ConsoleNil: the card: the statement, its row tied to the program's text. -/
import Derived.Test.YtalejkbicihgnaaGreatDoorCNlSaid
import Derived.Test.YtalejkbicihgnaaGreatDoorCNlW
import Derived.Test.YtalejkbicihgnaaGreatDoorCNlG
import Derived.Test.YtalejkbicihgnaaGreatDoorCNlM
import Derived.Test.YtalejkbicihgnaaGreatDoorCNlTie
set_option maxHeartbeats 4000000
set_option maxRecDepth 20000
set_option linter.unusedVariables false
set_option linter.unusedSimpArgs false
namespace Go.Proofs.YtalejkbicihgnaaGreatDoor.consoleNil
open Go.ChangeShapes Go.WideShapes Go.ChangeAt Go.RowKit Go.Ex
/-- THE CARD. -/
theorem card : Rows.ConsoleNilCardSaid :=
  Claim7.holds_tied_plain_at .later [] _ _ Rows.consoleNilCard.stood.harness _ said (fun _ h => by cases h) cardW (fun _ h => by cases h) consoleNil_row_tie rfl ⟨rfl, rfl⟩ cardM rfl plain cardG
#print axioms card
end Go.Proofs.YtalejkbicihgnaaGreatDoor.consoleNil
