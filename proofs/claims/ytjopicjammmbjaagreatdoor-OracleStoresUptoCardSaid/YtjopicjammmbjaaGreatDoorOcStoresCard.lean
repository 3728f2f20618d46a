/- OracleStores: the card of the form that asks that what is read is of bulk at most 1048576: the law answers true, its input reads as it did; the row is tied to the program's text. -/
import Derived.Test.YtjopicjammmbjaaGreatDoorOcStoresSaid
import Derived.Test.YtjopicjammmbjaaGreatDoorOcStoresW
import Derived.Test.YtjopicjammmbjaaGreatDoorOcStoresG
import Derived.Test.YtjopicjammmbjaaGreatDoorOcStoresM
set_option maxHeartbeats 4000000
set_option maxRecDepth 20000
set_option linter.unusedVariables false
set_option linter.unusedSimpArgs false
namespace Go.Proofs.YtjopicjammmbjaaGreatDoor.oracleStores
open Go.ChangeShapes Go.WideShapes Go.ChangeAt Go.RowKit
theorem cardUpto:Rows.OracleStoresUptoCardSaid:=
 Claim7.holds_tied_plain_at .later [] _ _ Rows.oracleStoresUptoCard.stood.harness _ said (fun _ h=>by cases h) cardW (fun _ h=>by cases h) oracleStoresUpto_row_tie rfl ⟨rfl,rfl⟩ cardM rfl plain cardG
#print axioms cardUpto
end Go.Proofs.YtjopicjammmbjaaGreatDoor.oracleStores
