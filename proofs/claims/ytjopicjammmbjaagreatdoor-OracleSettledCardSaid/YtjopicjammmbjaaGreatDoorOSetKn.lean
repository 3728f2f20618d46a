/- known() of chapter 30, by the kernel. -/
import Derived.Test.YtjopicjammmbjaaGreatDoorOSetCx
set_option maxHeartbeats 4000000
set_option maxRecDepth 20000
set_option linter.unusedVariables false
set_option linter.unusedSimpArgs false
namespace Go.Ex
noncomputable section
set_option maxRecDepth 100000
open Go.Proofs
theorem entersK : Go.Ab.entersB Tryz.prog 9 = true := by kernel_rfl
theorem known_run : isTrue (call0 cx rcs .nil 5000 9 []) = true := by kernel_rfl
theorem known_pcall : Go.Ab.PCall Tryz.prog 9 [] (.val (.bool true)) := pcall_true cx_ok fn_ok goods_nil entersK rfl known_run
end
end Go.Ex
