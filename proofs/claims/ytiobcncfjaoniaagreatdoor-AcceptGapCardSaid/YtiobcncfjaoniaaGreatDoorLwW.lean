/- AcceptGap: a closed fact of the card. -/
import Derived.Test.YtiobcncfjaoniaaGreatDoorCards
import Derived.JoinedOf
import Derived.JoinedCond
set_option maxHeartbeats 4000000
set_option maxRecDepth 20000
set_option linter.unusedVariables false
set_option linter.unusedSimpArgs false
namespace Go.Proofs.YtiobcncfjaoniaaGreatDoor.acceptGap
theorem cardW:Rows.acceptGapRow.wfByText (OpenSpec.ofChange Rows.acceptGapSpec)=true:=by kernel_rfl
end Go.Proofs.YtiobcncfjaoniaaGreatDoor.acceptGap
