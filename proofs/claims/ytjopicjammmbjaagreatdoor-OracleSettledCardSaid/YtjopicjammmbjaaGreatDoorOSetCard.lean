/- OracleSettled: the card: the statement, its row tied to the program's text. -/
import Derived.Test.YtjopicjammmbjaaGreatDoorOSetSaid
import Derived.Test.YtjopicjammmbjaaGreatDoorOSetW
import Derived.Test.YtjopicjammmbjaaGreatDoorOSetG
import Derived.Test.YtjopicjammmbjaaGreatDoorOSetM
set_option maxHeartbeats 4000000
set_option maxRecDepth 20000
set_option linter.unusedVariables false
set_option linter.unusedSimpArgs false
namespace Go.Proofs.YtjopicjammmbjaaGreatDoor.oracleSettled
open Go.ChangeShapes Go.WideShapes Go.ChangeAt Go.RowKit Go.Ex
/-- THE CARD. -/
theorem card : Rows.OracleSettledCardSaid :=
  Claim7.holds_tied_plain_at .later [] _ _ Rows.oracleSettledCard.stood.harness _ said (fun _ h => by cases h) cardW (fun _ h => by cases h) oracleSettled_row_tie rfl ⟨rfl, rfl⟩ cardM rfl plain cardG
#print axioms card
end Go.Proofs.YtjopicjammmbjaaGreatDoor.oracleSettled
