/- Known calls, run by the kernel. -/
import Derived.Test.YtbidglkfafjhiaaGreatDoorWNilE0
set_option maxHeartbeats 4000000
set_option maxRecDepth 20000
set_option linter.unusedVariables false
set_option linter.unusedSimpArgs false
namespace Go.Ex
noncomputable section
set_option maxRecDepth 100000
theorem e2_run : chk e2 ((runE cx rcs .nil 5000).call e2.f e2.args (ofK e2.key .nil) e2.nx) = true := by kernel_rfl
theorem e2_good : e2.Good cx := good_of cx_ok fn_ok goods_nil e2_run
end
end Go.Ex
