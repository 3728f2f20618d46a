/- ClientLast: a closed fact of the card. -/
import Derived.Test.YtijpiigcgkeepaaGreatDoorLwGo
import Derived.Test.YtijpiigcgkeepaaGreatDoorCards
import Derived.JoinedOf
import Derived.JoinedCond
namespace Go.Proofs.YtijpiigcgkeepaaGreatDoor.clientLast
theorem cardG:false=Rows.clientLastUptoRow.goesBy Tryz.pinned.checked.prog:=Go.Ab.goesBy_none rfl (by kernel_rfl)
end Go.Proofs.YtijpiigcgkeepaaGreatDoor.clientLast
