/- ClientLast: a closed fact of the card. -/
import Derived.Test.YtijpiigcgkeepaaGreatDoorCards
import Derived.JoinedOf
import Derived.JoinedCond
namespace Go.Proofs.YtijpiigcgkeepaaGreatDoor.clientLast
theorem cardW:Rows.clientLastUptoRow.wfByText (Rows.OpenSpec.upto Rows.clientLastSpec)=true:=by kernel_rfl
end Go.Proofs.YtijpiigcgkeepaaGreatDoor.clientLast
