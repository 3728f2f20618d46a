/- ClientImages: a closed fact of the card. -/
import Derived.Test.YtmobnaefbcegbaaGreatDoorLwGo
import Derived.Test.YtmobnaefbcegbaaGreatDoorCards
import Derived.JoinedOf
import Derived.JoinedCond
namespace Go.Proofs.YtmobnaefbcegbaaGreatDoor.clientImages
theorem cardG:false=Rows.clientImagesUptoRow.goesBy Tryz.pinned.checked.prog:=Go.Ab.goesBy_none rfl (by kernel_rfl)
end Go.Proofs.YtmobnaefbcegbaaGreatDoor.clientImages
