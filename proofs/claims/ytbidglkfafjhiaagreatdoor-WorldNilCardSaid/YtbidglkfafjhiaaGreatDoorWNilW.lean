/- WorldNil: a closed fact of the card. -/
import Derived.Test.YtbidglkfafjhiaaGreatDoorCards
import Derived.JoinedOf
import Derived.JoinedCond
set_option maxHeartbeats 4000000
set_option maxRecDepth 20000
set_option linter.unusedVariables false
set_option linter.unusedSimpArgs false
namespace Go.Proofs.YtbidglkfafjhiaaGreatDoor.worldNil
theorem cardW : Rows.worldNilRow.wfByText (OpenSpec.ofChange Rows.worldNilSpec) = true := by kernel_rfl
end Go.Proofs.YtbidglkfafjhiaaGreatDoor.worldNil
