/- The table of the law's run; the run at a number. -/
import Derived.Test.YtalejkbicihgnaaGreatDoorCNlE0
set_option maxHeartbeats 4000000
set_option maxRecDepth 20000
set_option linter.unusedVariables false
set_option linter.unusedSimpArgs false
namespace Go.Ex
noncomputable section
set_option maxRecDepth 100000
def tab : Tr (List En) := ((.nil : Tr (List En))).set 7 (some [pureEn 7 35, pureEn 7 28, pureEn 7 22])
def lawAt (z : Int) : Bool := isTrue (call0 cx rcs tab 5000 3 [.v (.int .i64 z)])
end
end Go.Ex
