/- Known calls, run by the kernel. -/
import Derived.Test.YtachdcfnbogehaaGreatDoorSNilE0
set_option maxHeartbeats 4000000
set_option maxRecDepth 20000
set_option linter.unusedVariables false
set_option linter.unusedSimpArgs false
namespace Go.Ex
noncomputable section
set_option maxRecDepth 100000
theorem e12_run : chk e12 ((runE cx rcs .nil 5000).call e12.f e12.args (ofK e12.key .nil) e12.nx) = true := by kernel_rfl
theorem e12_good : e12.Good cx := good_of cx_ok fn_ok goods_nil e12_run
theorem e13_run : chk e13 ((runE cx rcs .nil 5000).call e13.f e13.args (ofK e13.key .nil) e13.nx) = true := by kernel_rfl
theorem e13_good : e13.Good cx := good_of cx_ok fn_ok goods_nil e13_run
end
end Go.Ex
