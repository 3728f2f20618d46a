/- ConsoleWords: the card: the statement, its row tied to the program's text. -/
import Derived.Test.YtalejkbicihgnaaGreatDoorCWdSaid
import Derived.Test.YtalejkbicihgnaaGreatDoorCWdW
import Derived.Test.YtalejkbicihgnaaGreatDoorCWdG
import Derived.Test.YtalejkbicihgnaaGreatDoorCWdM
import Derived.Test.YtalejkbicihgnaaGreatDoorCWdTie
set_option maxHeartbeats 4000000
set_option maxRecDepth 20000
set_option linter.unusedVariables false
set_option linter.unusedSimpArgs false
namespace Go.Proofs.YtalejkbicihgnaaGreatDoor.consoleWords
open Go.ChangeShapes Go.WideShapes Go.ChangeAt Go.RowKit Go.Ex
/-- THE CARD. -/
theorem card : Rows.ConsoleWordsCardSaid :=
  Claim7.holds_tied_plain_at .later [] _ _ Rows.consoleWordsCard.stood.harness _ said (fun _ h => by cases h) cardW (fun _ h => by cases h) consoleWords_row_tie rfl ⟨rfl, rfl⟩ cardM rfl plain cardG
#print axioms card
end Go.Proofs.YtalejkbicihgnaaGreatDoor.consoleWords
