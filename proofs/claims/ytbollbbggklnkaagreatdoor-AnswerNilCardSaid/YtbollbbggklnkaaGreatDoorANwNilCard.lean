/- AnswerNil: the card: the statement, its row tied to the program's text. -/
import Derived.Test.YtbollbbggklnkaaGreatDoorANwNilSaid
import Derived.Test.YtbollbbggklnkaaGreatDoorANwNilW
import Derived.Test.YtbollbbggklnkaaGreatDoorANwNilG
import Derived.Test.YtbollbbggklnkaaGreatDoorANwNilM
set_option linter.unusedVariables false
set_option linter.unusedSimpArgs false
namespace Go.Proofs.YtbollbbggklnkaaGreatDoor.answerNil
open Go.ChangeShapes Go.WideShapes Go.ChangeAt Go.RowKit Go.Ex
/-- THE CARD. -/
theorem card : Rows.AnswerNilCardSaid :=
  Claim7.holds_tied_plain_at .later [] _ _ Rows.answerNilCard.stood.harness _ said (fun _ h => by cases h) cardW (fun _ h => by cases h) answerNil_row_tie rfl ⟨rfl, rfl⟩ cardM rfl plain cardG
#print axioms card
end Go.Proofs.YtbollbbggklnkaaGreatDoor.answerNil
