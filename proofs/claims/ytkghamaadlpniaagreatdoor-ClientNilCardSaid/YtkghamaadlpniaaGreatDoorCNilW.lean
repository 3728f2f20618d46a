/- ClientNil: a closed fact of the card. -/
import Derived.Test.YtkghamaadlpniaaGreatDoorCards
import Derived.JoinedOf
import Derived.JoinedCond
set_option linter.unusedVariables false
set_option linter.unusedSimpArgs false
namespace Go.Proofs.YtkghamaadlpniaaGreatDoor.clientNil
theorem cardW : Rows.clientNilRow.wfByText (OpenSpec.ofChange Rows.clientNilSpec) = true := by kernel_rfl
end Go.Proofs.YtkghamaadlpniaaGreatDoor.clientNil
