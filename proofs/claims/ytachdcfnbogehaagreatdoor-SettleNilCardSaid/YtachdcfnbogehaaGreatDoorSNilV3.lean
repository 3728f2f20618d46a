/- The law's run at some numbers, by the kernel. -/
import Derived.Test.YtachdcfnbogehaaGreatDoorSNilBT
set_option maxHeartbeats 4000000
set_option maxRecDepth 20000
set_option linter.unusedVariables false
set_option linter.unusedSimpArgs false
namespace Go.Ex
noncomputable section
set_option maxRecDepth 100000
theorem v49 : lawAt (.ofNat 49) = true := by kernel_rfl
theorem v50 : lawAt (.ofNat 50) = true := by kernel_rfl
theorem v51 : lawAt (.ofNat 51) = true := by kernel_rfl
theorem v52 : lawAt (.ofNat 52) = true := by kernel_rfl
theorem v53 : lawAt (.ofNat 53) = true := by kernel_rfl
theorem v54 : lawAt (.ofNat 54) = true := by kernel_rfl
theorem v55 : lawAt (.ofNat 55) = true := by kernel_rfl
theorem v56 : lawAt (.ofNat 56) = true := by kernel_rfl
theorem v57 : lawAt (.ofNat 57) = true := by kernel_rfl
theorem v58 : lawAt (.ofNat 58) = true := by kernel_rfl
theorem v59 : lawAt (.ofNat 59) = true := by kernel_rfl
theorem v60 : lawAt (.ofNat 60) = true := by kernel_rfl
theorem v61 : lawAt (.ofNat 61) = true := by kernel_rfl
theorem v62 : lawAt (.ofNat 62) = true := by kernel_rfl
theorem v63 : lawAt (.ofNat 63) = true := by kernel_rfl
theorem v64 : lawAt (.ofNat 64) = true := by kernel_rfl
end
end Go.Ex
