/- The law's run at some numbers, by the kernel. -/
import Derived.Test.YtachdcfnbogehaaGreatDoorSNilBT
set_option maxHeartbeats 4000000
set_option maxRecDepth 20000
set_option linter.unusedVariables false
set_option linter.unusedSimpArgs false
namespace Go.Ex
noncomputable section
set_option maxRecDepth 100000
theorem v17 : lawAt (.ofNat 17) = true := by kernel_rfl
theorem v18 : lawAt (.ofNat 18) = true := by kernel_rfl
theorem v19 : lawAt (.ofNat 19) = true := by kernel_rfl
theorem v20 : lawAt (.ofNat 20) = true := by kernel_rfl
theorem v21 : lawAt (.ofNat 21) = true := by kernel_rfl
theorem v22 : lawAt (.ofNat 22) = true := by kernel_rfl
theorem v23 : lawAt (.ofNat 23) = true := by kernel_rfl
theorem v24 : lawAt (.ofNat 24) = true := by kernel_rfl
theorem v25 : lawAt (.ofNat 25) = true := by kernel_rfl
theorem v26 : lawAt (.ofNat 26) = true := by kernel_rfl
theorem v27 : lawAt (.ofNat 27) = true := by kernel_rfl
theorem v28 : lawAt (.ofNat 28) = true := by kernel_rfl
theorem v29 : lawAt (.ofNat 29) = true := by kernel_rfl
theorem v30 : lawAt (.ofNat 30) = true := by kernel_rfl
theorem v31 : lawAt (.ofNat 31) = true := by kernel_rfl
theorem v32 : lawAt (.ofNat 32) = true := by kernel_rfl
end
end Go.Ex
