/- Known calls, run by the kernel. -/
import Derived.Test.YtalejkbicihgnaaGreatDoorCNlE0
import Derived.Test.YtalejkbicihgnaaGreatDoorCNlK1
set_option maxHeartbeats 4000000
set_option maxRecDepth 20000
set_option linter.unusedVariables false
set_option linter.unusedSimpArgs false
namespace Go.Ex
noncomputable section
set_option maxRecDepth 100000
def etab5 : Tr (List En) := ((.nil : Tr (List En))).set 35 (some [e2, e3, e4])
theorem etab5_ok : Goods cx etab5 := by
  intro g es h e he
  unfold etab5 at h
  rw [get_set] at h
  split at h
  · cases h
    simp only [List.mem_cons, List.not_mem_nil, or_false] at he
    rcases he with rfl | rfl | rfl
    · exact e2_good
    · exact e3_good
    · exact e4_good
  cases h
theorem e5_run : chk e5 ((runE cx rcs etab5 5000).call e5.f e5.args (ofK e5.key .nil) e5.nx) = true := by kernel_rfl
theorem e5_good : e5.Good cx := good_of cx_ok fn_ok etab5_ok e5_run
theorem e6_run : chk e6 ((runE cx rcs .nil 5000).call e6.f e6.args (ofK e6.key .nil) e6.nx) = true := by kernel_rfl
theorem e6_good : e6.Good cx := good_of cx_ok fn_ok goods_nil e6_run
theorem e7_run : chk e7 (catX cx (recE cx rcs .nil 5000) e7.f e7.args (ofK e7.key .nil) e7.nx) = true := by kernel_rfl
theorem e7_good : e7.Good cx := good_cat cx_ok fn_ok goods_nil e7_run
end
end Go.Ex
