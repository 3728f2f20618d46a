/- The table of the law's run; the run at a number. -/
import Derived.Test.YtachdcfnbogehaaGreatDoorSNilBE
set_option maxHeartbeats 4000000
set_option maxRecDepth 20000
set_option linter.unusedVariables false
set_option linter.unusedSimpArgs false
namespace Go.Ex
noncomputable section
set_option maxRecDepth 100000
def tab : Tr (List En) := ((((((((.nil : Tr (List En))).set 8 (some [b0])).set 12 (some [b1, b2, b3, b16, b17, b18])).set 57 (some [b4, b8, b12, b19, b23, b27])).set 56 (some [b5, b9, b13, b20, b24, b28])).set 15 (some [b6, b7, b10, b11, b14, b15, b21, b22, b25, b26, b29, b30])).set 7 (some [b31])).set 9 (some [pureEn 9 389230, pureEn 9 33346, pureEn 9 33354])
def lawAt (z : Int) : Bool := isTrue (call0 cx rcs tab 5000 3 [.v (.int .i64 z)])
end
end Go.Ex
