/- Known calls, run by the kernel. -/
import Derived.Test.YtachdcfnbogehaaGreatDoorSNilE0
set_option maxHeartbeats 4000000
set_option maxRecDepth 20000
set_option linter.unusedVariables false
set_option linter.unusedSimpArgs false
namespace Go.Ex
noncomputable section
set_option maxRecDepth 100000
theorem e22_run : chk e22 ((runE cx rcs .nil 5000).call e22.f e22.args (ofK e22.key .nil) e22.nx) = true := by kernel_rfl
theorem e22_good : e22.Good cx := good_of cx_ok fn_ok goods_nil e22_run
theorem e23_run : chk e23 ((runE cx rcs .nil 5000).call e23.f e23.args (ofK e23.key .nil) e23.nx) = true := by kernel_rfl
theorem e23_good : e23.Good cx := good_of cx_ok fn_ok goods_nil e23_run
theorem e24_run : chk e24 ((runE cx rcs .nil 5000).call e24.f e24.args (ofK e24.key .nil) e24.nx) = true := by kernel_rfl
theorem e24_good : e24.Good cx := good_of cx_ok fn_ok goods_nil e24_run
end
end Go.Ex
