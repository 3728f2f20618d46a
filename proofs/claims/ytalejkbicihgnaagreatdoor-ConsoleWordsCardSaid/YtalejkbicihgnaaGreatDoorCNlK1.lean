/- Known calls, run by the kernel. -/
import Derived.Test.YtalejkbicihgnaaGreatDoorCNlE0
set_option maxHeartbeats 4000000
set_option maxRecDepth 20000
set_option linter.unusedVariables false
set_option linter.unusedSimpArgs false
namespace Go.Ex
noncomputable section
set_option maxRecDepth 100000
theorem e2_run : chk e2 ((runE cx rcs .nil 5000).call e2.f e2.args (ofK e2.key .nil) e2.nx) = true := by kernel_rfl
theorem e2_good : e2.Good cx := good_of cx_ok fn_ok goods_nil e2_run
theorem e3_run : chk e3 ((runE cx rcs .nil 5000).call e3.f e3.args (ofK e3.key .nil) e3.nx) = true := by kernel_rfl
theorem e3_good : e3.Good cx := good_of cx_ok fn_ok goods_nil e3_run
theorem e4_run : chk e4 ((runE cx rcs .nil 5000).call e4.f e4.args (ofK e4.key .nil) e4.nx) = true := by kernel_rfl
theorem e4_good : e4.Good cx := good_of cx_ok fn_ok goods_nil e4_run
end
end Go.Ex
