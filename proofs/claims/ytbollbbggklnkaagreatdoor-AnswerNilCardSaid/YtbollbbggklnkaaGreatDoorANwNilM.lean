/- AnswerNil: a closed fact of the card. -/
import Derived.Test.YtbollbbggklnkaaGreatDoorCards
import Derived.JoinedOf
import Derived.JoinedCond
set_option linter.unusedVariables false
set_option linter.unusedSimpArgs false
namespace Go.Proofs.YtbollbbggklnkaaGreatDoor.answerNil
theorem cardM : Tryz.pinned.checked.prog.mainIs = some (Rows.answerNilCard.stood.harness.1, Rows.answerNilCard.stood.harness.2.toList) := by kernel_rfl
end Go.Proofs.YtbollbbggklnkaaGreatDoor.answerNil
