/- Known calls, run by the kernel. -/
import Derived.Test.YtachdcfnbogehaaGreatDoorSNilE0
set_option maxHeartbeats 4000000
set_option maxRecDepth 20000
set_option linter.unusedVariables false
set_option linter.unusedSimpArgs false
namespace Go.Ex
noncomputable section
set_option maxRecDepth 100000
theorem e14_run : chk e14 ((runE cx rcs .nil 5000).call e14.f e14.args (ofK e14.key .nil) e14.nx) = true := by kernel_rfl
theorem e14_good : e14.Good cx := good_of cx_ok fn_ok goods_nil e14_run
theorem e15_run : chk e15 ((runE cx rcs .nil 5000).call e15.f e15.args (ofK e15.key .nil) e15.nx) = true := by kernel_rfl
theorem e15_good : e15.Good cx := good_of cx_ok fn_ok goods_nil e15_run
theorem e16_run : chk e16 ((runE cx rcs .nil 5000).call e16.f e16.args (ofK e16.key .nil) e16.nx) = true := by kernel_rfl
theorem e16_good : e16.Good cx := good_of cx_ok fn_ok goods_nil e16_run
end
end Go.Ex
