/- Known calls, run by the kernel. -/
import Derived.Test.YtachdcfnbogehaaGreatDoorSNilE0
set_option maxHeartbeats 4000000
set_option maxRecDepth 20000
set_option linter.unusedVariables false
set_option linter.unusedSimpArgs false
namespace Go.Ex
noncomputable section
set_option maxRecDepth 100000
theorem e17_run : chk e17 ((runE cx rcs .nil 5000).call e17.f e17.args (ofK e17.key .nil) e17.nx) = true := by kernel_rfl
theorem e17_good : e17.Good cx := good_of cx_ok fn_ok goods_nil e17_run
theorem e18_run : chk e18 ((runE cx rcs .nil 5000).call e18.f e18.args (ofK e18.key .nil) e18.nx) = true := by kernel_rfl
theorem e18_good : e18.Good cx := good_of cx_ok fn_ok goods_nil e18_run
theorem e19_run : chk e19 ((runE cx rcs .nil 5000).call e19.f e19.args (ofK e19.key .nil) e19.nx) = true := by kernel_rfl
theorem e19_good : e19.Good cx := good_of cx_ok fn_ok goods_nil e19_run
end
end Go.Ex
