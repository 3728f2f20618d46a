/- The law's run at some numbers, by the kernel. -/
import Derived.Test.YtachdcfnbogehaaGreatDoorSNilBT
set_option maxHeartbeats 4000000
set_option maxRecDepth 20000
set_option linter.unusedVariables false
set_option linter.unusedSimpArgs false
namespace Go.Ex
noncomputable section
set_option maxRecDepth 100000
theorem v33 : lawAt (.ofNat 33) = true := by kernel_rfl
theorem v34 : lawAt (.ofNat 34) = true := by kernel_rfl
theorem v35 : lawAt (.ofNat 35) = true := by kernel_rfl
theorem v36 : lawAt (.ofNat 36) = true := by kernel_rfl
theorem v37 : lawAt (.ofNat 37) = true := by kernel_rfl
theorem v38 : lawAt (.ofNat 38) = true := by kernel_rfl
theorem v39 : lawAt (.ofNat 39) = true := by kernel_rfl
theorem v40 : lawAt (.ofNat 40) = true := by kernel_rfl
theorem v41 : lawAt (.ofNat 41) = true := by kernel_rfl
theorem v42 : lawAt (.ofNat 42) = true := by kernel_rfl
theorem v43 : lawAt (.ofNat 43) = true := by kernel_rfl
theorem v44 : lawAt (.ofNat 44) = true := by kernel_rfl
theorem v45 : lawAt (.ofNat 45) = true := by kernel_rfl
theorem v46 : lawAt (.ofNat 46) = true := by kernel_rfl
theorem v47 : lawAt (.ofNat 47) = true := by kernel_rfl
theorem v48 : lawAt (.ofNat 48) = true := by kernel_rfl
end
end Go.Ex
