/- Known calls, run by the kernel. -/
import Derived.Test.YtachdcfnbogehaaGreatDoorSNilBE
set_option maxHeartbeats 4000000
set_option maxRecDepth 20000
set_option linter.unusedVariables false
set_option linter.unusedSimpArgs false
namespace Go.Ex
noncomputable section
set_option maxRecDepth 100000
theorem b12_run : chk b12 ((runE cx rcs .nil 5000).call b12.f b12.args (ofK b12.key .nil) b12.nx) = true := by kernel_rfl
theorem b12_good : b12.Good cx := good_of cx_ok fn_ok goods_nil b12_run
theorem b13_run : chk b13 ((runE cx rcs .nil 5000).call b13.f b13.args (ofK b13.key .nil) b13.nx) = true := by kernel_rfl
theorem b13_good : b13.Good cx := good_of cx_ok fn_ok goods_nil b13_run
theorem b14_run : chk b14 ((runE cx rcs .nil 5000).call b14.f b14.args (ofK b14.key .nil) b14.nx) = true := by kernel_rfl
theorem b14_good : b14.Good cx := good_of cx_ok fn_ok goods_nil b14_run
theorem b15_run : chk b15 ((runE cx rcs .nil 5000).call b15.f b15.args (ofK b15.key .nil) b15.nx) = true := by kernel_rfl
theorem b15_good : b15.Good cx := good_of cx_ok fn_ok goods_nil b15_run
theorem b16_run : chk b16 ((runE cx rcs .nil 5000).call b16.f b16.args (ofK b16.key .nil) b16.nx) = true := by kernel_rfl
theorem b16_good : b16.Good cx := good_of cx_ok fn_ok goods_nil b16_run
theorem b17_run : chk b17 ((runE cx rcs .nil 5000).call b17.f b17.args (ofK b17.key .nil) b17.nx) = true := by kernel_rfl
theorem b17_good : b17.Good cx := good_of cx_ok fn_ok goods_nil b17_run
theorem b18_run : chk b18 ((runE cx rcs .nil 5000).call b18.f b18.args (ofK b18.key .nil) b18.nx) = true := by kernel_rfl
theorem b18_good : b18.Good cx := good_of cx_ok fn_ok goods_nil b18_run
theorem b19_run : chk b19 ((runE cx rcs .nil 5000).call b19.f b19.args (ofK b19.key .nil) b19.nx) = true := by kernel_rfl
theorem b19_good : b19.Good cx := good_of cx_ok fn_ok goods_nil b19_run
theorem b20_run : chk b20 ((runE cx rcs .nil 5000).call b20.f b20.args (ofK b20.key .nil) b20.nx) = true := by kernel_rfl
theorem b20_good : b20.Good cx := good_of cx_ok fn_ok goods_nil b20_run
end
end Go.Ex
