/- SettleNil: a closed fact of the card. -/
import Derived.Test.YtachdcfnbogehaaGreatDoorCards
import Derived.JoinedOf
import Derived.JoinedCond
set_option maxHeartbeats 4000000
set_option maxRecDepth 20000
set_option linter.unusedVariables false
set_option linter.unusedSimpArgs false
namespace Go.Proofs.YtachdcfnbogehaaGreatDoor.settleNil
theorem cardW : Rows.settleNilRow.wfByText (OpenSpec.ofChange Rows.settleNilSpec) = true := by kernel_rfl
end Go.Proofs.YtachdcfnbogehaaGreatDoor.settleNil
