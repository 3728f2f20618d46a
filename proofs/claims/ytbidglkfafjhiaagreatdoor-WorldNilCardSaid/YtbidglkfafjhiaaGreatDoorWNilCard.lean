/- WorldNil: the card: the statement, its row tied to the program's text. -/
import Derived.Test.YtbidglkfafjhiaaGreatDoorWNilSaid
import Derived.Test.YtbidglkfafjhiaaGreatDoorWNilW
import Derived.Test.YtbidglkfafjhiaaGreatDoorWNilG
import Derived.Test.YtbidglkfafjhiaaGreatDoorWNilM
import Derived.Test.YtbidglkfafjhiaaGreatDoorWNilTie
set_option maxHeartbeats 4000000
set_option maxRecDepth 20000
set_option linter.unusedVariables false
set_option linter.unusedSimpArgs false
namespace Go.Proofs.YtbidglkfafjhiaaGreatDoor.worldNil
open Go.ChangeShapes Go.WideShapes Go.ChangeAt Go.RowKit Go.Ex
/-- THE CARD. -/
theorem card : Rows.WorldNilCardSaid :=
  Claim7.holds_tied_plain_at .later [] _ _ Rows.worldNilCard.stood.harness _ said (fun _ h => by cases h) cardW (fun _ h => by cases h) worldNil_row_tie rfl ⟨rfl, rfl⟩ cardM rfl plain cardG
#print axioms card
end Go.Proofs.YtbidglkfafjhiaaGreatDoor.worldNil
