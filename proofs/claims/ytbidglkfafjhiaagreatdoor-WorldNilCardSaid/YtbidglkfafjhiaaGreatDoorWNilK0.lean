/- Known calls, run by the kernel. -/
import Derived.Test.YtbidglkfafjhiaaGreatDoorWNilE0
set_option maxHeartbeats 4000000
set_option maxRecDepth 20000
set_option linter.unusedVariables false
set_option linter.unusedSimpArgs false
namespace Go.Ex
noncomputable section
set_option maxRecDepth 100000
theorem e0_run : chk e0 ((runE cx rcs .nil 5000).call e0.f e0.args (ofK e0.key .nil) e0.nx) = true := by kernel_rfl
theorem e0_good : e0.Good cx := good_of cx_ok fn_ok goods_nil e0_run
end
end Go.Ex
