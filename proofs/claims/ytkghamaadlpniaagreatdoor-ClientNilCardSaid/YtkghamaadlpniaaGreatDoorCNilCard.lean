/- ClientNil: the card: the statement, its row tied to the program's text. -/
import Derived.Test.YtkghamaadlpniaaGreatDoorCNilSaid
import Derived.Test.YtkghamaadlpniaaGreatDoorCNilW
import Derived.Test.YtkghamaadlpniaaGreatDoorCNilG
import Derived.Test.YtkghamaadlpniaaGreatDoorCNilM
set_option linter.unusedVariables false
set_option linter.unusedSimpArgs false
namespace Go.Proofs.YtkghamaadlpniaaGreatDoor.clientNil
open Go.ChangeShapes Go.WideShapes Go.ChangeAt Go.RowKit Go.Ex
/-- THE CARD. -/
theorem card : Rows.ClientNilCardSaid :=
  Claim7.holds_tied_plain_at .later [] _ _ Rows.clientNilCard.stood.harness _ said (fun _ h => by cases h) cardW (fun _ h => by cases h) clientNil_row_tie rfl ⟨rfl, rfl⟩ cardM rfl plain cardG
#print axioms card
end Go.Proofs.YtkghamaadlpniaaGreatDoor.clientNil
