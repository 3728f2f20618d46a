/- The law's run at some numbers, by the kernel. -/
import Derived.Test.YtalejkbicihgnaaGreatDoorCWdBT
set_option maxHeartbeats 4000000
set_option maxRecDepth 20000
set_option linter.unusedVariables false
set_option linter.unusedSimpArgs false
namespace Go.Ex
noncomputable section
set_option maxRecDepth 100000
theorem v1 : lawAt (.ofNat 1) = true := by kernel_rfl
theorem v2 : lawAt (.ofNat 2) = true := by kernel_rfl
theorem v3 : lawAt (.ofNat 3) = true := by kernel_rfl
theorem v4 : lawAt (.ofNat 4) = true := by kernel_rfl
theorem v5 : lawAt (.ofNat 5) = true := by kernel_rfl
theorem v6 : lawAt (.ofNat 6) = true := by kernel_rfl
theorem v7 : lawAt (.ofNat 7) = true := by kernel_rfl
theorem v8 : lawAt (.ofNat 8) = true := by kernel_rfl
theorem v9 : lawAt (.ofNat 9) = true := by kernel_rfl
theorem v10 : lawAt (.ofNat 10) = true := by kernel_rfl
theorem v11 : lawAt (.ofNat 11) = true := by kernel_rfl
theorem v12 : lawAt (.ofNat 12) = true := by kernel_rfl
theorem v13 : lawAt (.ofNat 13) = true := by kernel_rfl
theorem v14 : lawAt (.ofNat 14) = true := by kernel_rfl
theorem v15 : lawAt (.ofNat 15) = true := by kernel_rfl
theorem v16 : lawAt (.ofNat 16) = true := by kernel_rfl
theorem v17 : lawAt (.ofNat 17) = true := by kernel_rfl
theorem v18 : lawAt (.ofNat 18) = true := by kernel_rfl
end
end Go.Ex
