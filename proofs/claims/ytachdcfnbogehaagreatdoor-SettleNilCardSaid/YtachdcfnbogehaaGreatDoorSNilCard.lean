/- SettleNil: the card: the statement, its row tied to the program's text. -/
import Derived.Test.YtachdcfnbogehaaGreatDoorSNilSaid
import Derived.Test.YtachdcfnbogehaaGreatDoorSNilW
import Derived.Test.YtachdcfnbogehaaGreatDoorSNilG
import Derived.Test.YtachdcfnbogehaaGreatDoorSNilM
import Derived.Test.YtachdcfnbogehaaGreatDoorSNilTie
set_option maxHeartbeats 4000000
set_option maxRecDepth 20000
set_option linter.unusedVariables false
set_option linter.unusedSimpArgs false
namespace Go.Proofs.YtachdcfnbogehaaGreatDoor.settleNil
open Go.ChangeShapes Go.WideShapes Go.ChangeAt Go.RowKit Go.Ex
/-- THE CARD. -/
theorem card : Rows.SettleNilCardSaid :=
  Claim7.holds_tied_plain_at .later [] _ _ Rows.settleNilCard.stood.harness _ said (fun _ h => by cases h) cardW (fun _ h => by cases h) settleNil_row_tie rfl ⟨rfl, rfl⟩ cardM rfl plain cardG
#print axioms card
end Go.Proofs.YtachdcfnbogehaaGreatDoor.settleNil
