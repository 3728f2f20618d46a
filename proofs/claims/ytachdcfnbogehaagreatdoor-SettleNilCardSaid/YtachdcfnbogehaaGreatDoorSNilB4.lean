/- Known calls, run by the kernel. -/
import Derived.Test.YtachdcfnbogehaaGreatDoorSNilBE
set_option maxHeartbeats 4000000
set_option maxRecDepth 20000
set_option linter.unusedVariables false
set_option linter.unusedSimpArgs false
namespace Go.Ex
noncomputable section
set_option maxRecDepth 100000
theorem b25_run : chk b25 ((runE cx rcs .nil 5000).call b25.f b25.args (ofK b25.key .nil) b25.nx) = true := by kernel_rfl
theorem b25_good : b25.Good cx := good_of cx_ok fn_ok goods_nil b25_run
theorem b26_run : chk b26 ((runE cx rcs .nil 5000).call b26.f b26.args (ofK b26.key .nil) b26.nx) = true := by kernel_rfl
theorem b26_good : b26.Good cx := good_of cx_ok fn_ok goods_nil b26_run
theorem b27_run : chk b27 ((runE cx rcs .nil 5000).call b27.f b27.args (ofK b27.key .nil) b27.nx) = true := by kernel_rfl
theorem b27_good : b27.Good cx := good_of cx_ok fn_ok goods_nil b27_run
theorem b28_run : chk b28 ((runE cx rcs .nil 5000).call b28.f b28.args (ofK b28.key .nil) b28.nx) = true := by kernel_rfl
theorem b28_good : b28.Good cx := good_of cx_ok fn_ok goods_nil b28_run
end
end Go.Ex
