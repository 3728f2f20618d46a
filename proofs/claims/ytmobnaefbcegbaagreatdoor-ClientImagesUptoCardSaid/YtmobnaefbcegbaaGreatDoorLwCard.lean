/- ClientImages: the card of the form that asks that what is read is of bulk at most 1048576: the law answers true, its input reads as it did; the row is tied to the program's text. -/
import Derived.Test.YtmobnaefbcegbaaGreatDoorLwSaid
import Derived.Test.YtmobnaefbcegbaaGreatDoorLwW
import Derived.Test.YtmobnaefbcegbaaGreatDoorLwG2
import Derived.Test.YtmobnaefbcegbaaGreatDoorLwM
namespace Go.Proofs.YtmobnaefbcegbaaGreatDoor.clientImages
open Go.ChangeShapes Go.WideShapes Go.ChangeAt Go.RowKit
theorem cardUpto:Rows.ClientImagesUptoCardSaid:=
 Claim7.holds_tied_plain_at .later [] _ _ Rows.clientImagesUptoCard.stood.harness _ said (fun _ h=>by cases h) cardW (fun _ h=>by cases h) clientImagesUpto_row_tie rfl ⟨rfl,rfl⟩ cardM rfl plain cardG
#print axioms cardUpto
end Go.Proofs.YtmobnaefbcegbaaGreatDoor.clientImages
