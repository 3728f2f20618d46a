/- ClientNil: a closed fact of the card. -/
import Derived.Test.YtkghamaadlpniaaGreatDoorCards
import Derived.JoinedOf
import Derived.JoinedCond
set_option linter.unusedVariables false
set_option linter.unusedSimpArgs false
namespace Go.Proofs.YtkghamaadlpniaaGreatDoor.clientNil
theorem cardM : Tryz.pinned.checked.prog.mainIs = some (Rows.clientNilCard.stood.harness.1, Rows.clientNilCard.stood.harness.2.toList) := by kernel_rfl
end Go.Proofs.YtkghamaadlpniaaGreatDoor.clientNil
