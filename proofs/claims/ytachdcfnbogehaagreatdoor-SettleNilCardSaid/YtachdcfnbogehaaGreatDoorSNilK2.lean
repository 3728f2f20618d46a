/- Known calls, run by the kernel. -/
import Derived.Test.YtachdcfnbogehaaGreatDoorSNilE0
set_option maxHeartbeats 4000000
set_option maxRecDepth 20000
set_option linter.unusedVariables false
set_option linter.unusedSimpArgs false
namespace Go.Ex
noncomputable section
set_option maxRecDepth 100000
theorem e5_run : chk e5 ((runE cx rcs .nil 5000).call e5.f e5.args (ofK e5.key .nil) e5.nx) = true := by kernel_rfl
theorem e5_good : e5.Good cx := good_of cx_ok fn_ok goods_nil e5_run
theorem e6_run : chk e6 ((runE cx rcs .nil 5000).call e6.f e6.args (ofK e6.key .nil) e6.nx) = true := by kernel_rfl
theorem e6_good : e6.Good cx := good_of cx_ok fn_ok goods_nil e6_run
end
end Go.Ex
