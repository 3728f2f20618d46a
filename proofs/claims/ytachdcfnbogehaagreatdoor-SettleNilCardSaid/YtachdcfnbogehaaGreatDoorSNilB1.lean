/- Known calls, run by the kernel. -/
import Derived.Test.YtachdcfnbogehaaGreatDoorSNilBE
set_option maxHeartbeats 4000000
set_option maxRecDepth 20000
set_option linter.unusedVariables false
set_option linter.unusedSimpArgs false
namespace Go.Ex
noncomputable section
set_option maxRecDepth 100000
theorem b7_run : chk b7 ((runE cx rcs .nil 5000).call b7.f b7.args (ofK b7.key .nil) b7.nx) = true := by kernel_rfl
theorem b7_good : b7.Good cx := good_of cx_ok fn_ok goods_nil b7_run
theorem b8_run : chk b8 ((runE cx rcs .nil 5000).call b8.f b8.args (ofK b8.key .nil) b8.nx) = true := by kernel_rfl
theorem b8_good : b8.Good cx := good_of cx_ok fn_ok goods_nil b8_run
theorem b9_run : chk b9 ((runE cx rcs .nil 5000).call b9.f b9.args (ofK b9.key .nil) b9.nx) = true := by kernel_rfl
theorem b9_good : b9.Good cx := good_of cx_ok fn_ok goods_nil b9_run
theorem b10_run : chk b10 ((runE cx rcs .nil 5000).call b10.f b10.args (ofK b10.key .nil) b10.nx) = true := by kernel_rfl
theorem b10_good : b10.Good cx := good_of cx_ok fn_ok goods_nil b10_run
theorem b11_run : chk b11 ((runE cx rcs .nil 5000).call b11.f b11.args (ofK b11.key .nil) b11.nx) = true := by kernel_rfl
theorem b11_good : b11.Good cx := good_of cx_ok fn_ok goods_nil b11_run
end
end Go.Ex
