/- ClientBatches: the card: the law answers true, its input reads as it did; the row is tied to the program's text. -/
import Derived.Test.YtacnknlmijkobaaGreatDoorLwSaid
import Derived.Test.YtacnknlmijkobaaGreatDoorLwW
import Derived.Test.YtacnknlmijkobaaGreatDoorLwG2
import Derived.Test.YtacnknlmijkobaaGreatDoorLwM
set_option maxHeartbeats 4000000
set_option maxRecDepth 20000
set_option linter.unusedVariables false
set_option linter.unusedSimpArgs false
namespace Go.Proofs.YtacnknlmijkobaaGreatDoor.clientBatches
open Go.ChangeShapes Go.WideShapes Go.ChangeAt Go.RowKit
theorem card:Rows.ClientBatchesCardSaid:=
 Claim7.holds_tied_plain_at .later [] _ _ Rows.clientBatchesCard.stood.harness _ said (fun _ h=>by cases h) cardW (fun _ h=>by cases h) clientBatches_row_tie rfl ⟨rfl,rfl⟩ cardM rfl plain cardG
#print axioms card
end Go.Proofs.YtacnknlmijkobaaGreatDoor.clientBatches
