/- Known calls, run by the kernel. -/
import Derived.Test.YtachdcfnbogehaaGreatDoorSNilBE
set_option maxHeartbeats 4000000
set_option maxRecDepth 20000
set_option linter.unusedVariables false
set_option linter.unusedSimpArgs false
namespace Go.Ex
noncomputable section
set_option maxRecDepth 100000
theorem b29_run : chk b29 ((runE cx rcs .nil 5000).call b29.f b29.args (ofK b29.key .nil) b29.nx) = true := by kernel_rfl
theorem b29_good : b29.Good cx := good_of cx_ok fn_ok goods_nil b29_run
theorem b30_run : chk b30 ((runE cx rcs .nil 5000).call b30.f b30.args (ofK b30.key .nil) b30.nx) = true := by kernel_rfl
theorem b30_good : b30.Good cx := good_of cx_ok fn_ok goods_nil b30_run
theorem b31_run : chk b31 ((runE cx rcs .nil 5000).call b31.f b31.args (ofK b31.key .nil) b31.nx) = true := by kernel_rfl
theorem b31_good : b31.Good cx := good_of cx_ok fn_ok goods_nil b31_run
end
end Go.Ex
