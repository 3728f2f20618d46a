/- Known calls, run by the kernel. -/
import Derived.Test.YtbidglkfafjhiaaGreatDoorWNilE0
set_option maxHeartbeats 4000000
set_option maxRecDepth 20000
set_option linter.unusedVariables false
set_option linter.unusedSimpArgs false
namespace Go.Ex
noncomputable section
set_option maxRecDepth 100000
theorem e1_run : chk e1 ((runE cx rcs .nil 5000).call e1.f e1.args (ofK e1.key .nil) e1.nx) = true := by kernel_rfl
theorem e1_good : e1.Good cx := good_of cx_ok fn_ok goods_nil e1_run
end
end Go.Ex
