/- Known calls, run by the kernel. -/
import Derived.Test.YtachdcfnbogehaaGreatDoorSNilE0
set_option maxHeartbeats 4000000
set_option maxRecDepth 20000
set_option linter.unusedVariables false
set_option linter.unusedSimpArgs false
namespace Go.Ex
noncomputable section
set_option maxRecDepth 100000
theorem e9_run : chk e9 ((runE cx rcs .nil 5000).call e9.f e9.args (ofK e9.key .nil) e9.nx) = true := by kernel_rfl
theorem e9_good : e9.Good cx := good_of cx_ok fn_ok goods_nil e9_run
theorem e10_run : chk e10 ((runE cx rcs .nil 5000).call e10.f e10.args (ofK e10.key .nil) e10.nx) = true := by kernel_rfl
theorem e10_good : e10.Good cx := good_of cx_ok fn_ok goods_nil e10_run
theorem e11_run : chk e11 ((runE cx rcs .nil 5000).call e11.f e11.args (ofK e11.key .nil) e11.nx) = true := by kernel_rfl
theorem e11_good : e11.Good cx := good_of cx_ok fn_ok goods_nil e11_run
end
end Go.Ex
