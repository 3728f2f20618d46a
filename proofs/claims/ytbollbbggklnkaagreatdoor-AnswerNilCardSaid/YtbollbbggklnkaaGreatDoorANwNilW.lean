/- AnswerNil: a closed fact of the card. -/
import Derived.Test.YtbollbbggklnkaaGreatDoorCards
import Derived.JoinedOf
import Derived.JoinedCond
set_option linter.unusedVariables false
set_option linter.unusedSimpArgs false
namespace Go.Proofs.YtbollbbggklnkaaGreatDoor.answerNil
theorem cardW : Rows.answerNilRow.wfByText (OpenSpec.ofChange Rows.answerNilSpec) = true := by kernel_rfl
end Go.Proofs.YtbollbbggklnkaaGreatDoor.answerNil
