/- ClientLast: a closed fact of the card. -/
import Derived.Test.YtijpiigcgkeepaaGreatDoorCards
import Derived.JoinedOf
import Derived.JoinedCond
namespace Go.Proofs.YtijpiigcgkeepaaGreatDoor.clientLast
theorem cardM:Tryz.pinned.checked.prog.mainIs=some (Rows.clientLastUptoCard.stood.harness.1,Rows.clientLastUptoCard.stood.harness.2.toList):=by kernel_rfl
end Go.Proofs.YtijpiigcgkeepaaGreatDoor.clientLast
