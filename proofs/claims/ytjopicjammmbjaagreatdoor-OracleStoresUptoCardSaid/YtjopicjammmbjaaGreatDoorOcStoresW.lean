/- OracleStores: a closed fact of the card. -/
import Derived.Test.YtjopicjammmbjaaGreatDoorCards
import Derived.JoinedOf
import Derived.JoinedCond
set_option maxHeartbeats 4000000
set_option maxRecDepth 20000
set_option linter.unusedVariables false
set_option linter.unusedSimpArgs false
namespace Go.Proofs.YtjopicjammmbjaaGreatDoor.oracleStores
theorem cardW:Rows.oracleStoresUptoRow.wfByText (Rows.OpenSpec.upto Rows.oracleStoresSpec)=true:=by kernel_rfl
end Go.Proofs.YtjopicjammmbjaaGreatDoor.oracleStores
