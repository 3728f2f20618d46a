/- ClientLast: the card of the form that asks that what is read is of bulk at most 1048576: the law answers true, its input reads as it did; the row is tied to the program's text. -/
import Derived.Test.YtijpiigcgkeepaaGreatDoorLwSaid
import Derived.Test.YtijpiigcgkeepaaGreatDoorLwW
import Derived.Test.YtijpiigcgkeepaaGreatDoorLwG2
import Derived.Test.YtijpiigcgkeepaaGreatDoorLwM
namespace Go.Proofs.YtijpiigcgkeepaaGreatDoor.clientLast
open Go.ChangeShapes Go.WideShapes Go.ChangeAt Go.RowKit
theorem cardUpto:Rows.ClientLastUptoCardSaid:=
 Claim7.holds_tied_plain_at .later [] _ _ Rows.clientLastUptoCard.stood.harness _ said (fun _ h=>by cases h) cardW (fun _ h=>by cases h) clientLastUpto_row_tie rfl ⟨rfl,rfl⟩ cardM rfl plain cardG
#print axioms cardUpto
end Go.Proofs.YtijpiigcgkeepaaGreatDoor.clientLast
