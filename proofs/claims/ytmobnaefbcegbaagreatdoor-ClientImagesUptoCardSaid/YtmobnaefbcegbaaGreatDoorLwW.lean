/- ClientImages: a closed fact of the card. -/
import Derived.Test.YtmobnaefbcegbaaGreatDoorCards
import Derived.JoinedOf
import Derived.JoinedCond
namespace Go.Proofs.YtmobnaefbcegbaaGreatDoor.clientImages
theorem cardW:Rows.clientImagesUptoRow.wfByText (Rows.OpenSpec.upto Rows.clientImagesSpec)=true:=by kernel_rfl
end Go.Proofs.YtmobnaefbcegbaaGreatDoor.clientImages
