/- ClientImages: a closed fact of the card. -/
import Derived.Test.YtmobnaefbcegbaaGreatDoorCards
import Derived.JoinedOf
import Derived.JoinedCond
namespace Go.Proofs.YtmobnaefbcegbaaGreatDoor.clientImages
theorem cardM:Tryz.pinned.checked.prog.mainIs=some (Rows.clientImagesUptoCard.stood.harness.1,Rows.clientImagesUptoCard.stood.harness.2.toList):=by kernel_rfl
end Go.Proofs.YtmobnaefbcegbaaGreatDoor.clientImages
