/- Known calls, run by the kernel. -/
import Derived.Test.YtachdcfnbogehaaGreatDoorSNilBE
set_option maxHeartbeats 4000000
set_option maxRecDepth 20000
set_option linter.unusedVariables false
set_option linter.unusedSimpArgs false
namespace Go.Ex
noncomputable section
set_option maxRecDepth 100000
theorem b0_run : chk b0 ((runE cx rcs .nil 5000).call b0.f b0.args (ofK b0.key .nil) b0.nx) = true := by kernel_rfl
theorem b0_good : b0.Good cx := good_of cx_ok fn_ok goods_nil b0_run
theorem b1_run : chk b1 ((runE cx rcs .nil 5000).call b1.f b1.args (ofK b1.key .nil) b1.nx) = true := by kernel_rfl
theorem b1_good : b1.Good cx := good_of cx_ok fn_ok goods_nil b1_run
theorem b2_run : chk b2 ((runE cx rcs .nil 5000).call b2.f b2.args (ofK b2.key .nil) b2.nx) = true := by kernel_rfl
theorem b2_good : b2.Good cx := good_of cx_ok fn_ok goods_nil b2_run
theorem b3_run : chk b3 ((runE cx rcs .nil 5000).call b3.f b3.args (ofK b3.key .nil) b3.nx) = true := by kernel_rfl
theorem b3_good : b3.Good cx := good_of cx_ok fn_ok goods_nil b3_run
theorem b4_run : chk b4 ((runE cx rcs .nil 5000).call b4.f b4.args (ofK b4.key .nil) b4.nx) = true := by kernel_rfl
theorem b4_good : b4.Good cx := good_of cx_ok fn_ok goods_nil b4_run
theorem b5_run : chk b5 ((runE cx rcs .nil 5000).call b5.f b5.args (ofK b5.key .nil) b5.nx) = true := by kernel_rfl
theorem b5_good : b5.Good cx := good_of cx_ok fn_ok goods_nil b5_run
theorem b6_run : chk b6 ((runE cx rcs .nil 5000).call b6.f b6.args (ofK b6.key .nil) b6.nx) = true := by kernel_rfl
theorem b6_good : b6.Good cx := good_of cx_ok fn_ok goods_nil b6_run
end
end Go.Ex
