/- Known calls, run by the kernel. -/
import Derived.Test.YtachdcfnbogehaaGreatDoorSNilBE
set_option maxHeartbeats 4000000
set_option maxRecDepth 20000
set_option linter.unusedVariables false
set_option linter.unusedSimpArgs false
namespace Go.Ex
noncomputable section
set_option maxRecDepth 100000
theorem b21_run : chk b21 ((runE cx rcs .nil 5000).call b21.f b21.args (ofK b21.key .nil) b21.nx) = true := by kernel_rfl
theorem b21_good : b21.Good cx := good_of cx_ok fn_ok goods_nil b21_run
theorem b22_run : chk b22 ((runE cx rcs .nil 5000).call b22.f b22.args (ofK b22.key .nil) b22.nx) = true := by kernel_rfl
theorem b22_good : b22.Good cx := good_of cx_ok fn_ok goods_nil b22_run
theorem b23_run : chk b23 ((runE cx rcs .nil 5000).call b23.f b23.args (ofK b23.key .nil) b23.nx) = true := by kernel_rfl
theorem b23_good : b23.Good cx := good_of cx_ok fn_ok goods_nil b23_run
theorem b24_run : chk b24 ((runE cx rcs .nil 5000).call b24.f b24.args (ofK b24.key .nil) b24.nx) = true := by kernel_rfl
theorem b24_good : b24.Good cx := good_of cx_ok fn_ok goods_nil b24_run
end
end Go.Ex
