/- SettleNil: a closed fact of the card. -/
import Derived.Test.YtachdcfnbogehaaGreatDoorCards
import Derived.JoinedOf
import Derived.JoinedCond
set_option maxHeartbeats 4000000
set_option maxRecDepth 20000
set_option linter.unusedVariables false
set_option linter.unusedSimpArgs false
namespace Go.Proofs.YtachdcfnbogehaaGreatDoor.settleNil
theorem cardM : Tryz.pinned.checked.prog.mainIs = some (Rows.settleNilCard.stood.harness.1, Rows.settleNilCard.stood.harness.2.toList) := by kernel_rfl
end Go.Proofs.YtachdcfnbogehaaGreatDoor.settleNil
