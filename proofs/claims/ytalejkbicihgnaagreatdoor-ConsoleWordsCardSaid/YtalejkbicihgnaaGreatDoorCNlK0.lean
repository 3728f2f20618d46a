/- Known calls, run by the kernel. -/
import Derived.Test.YtalejkbicihgnaaGreatDoorCNlE0
set_option maxHeartbeats 4000000
set_option maxRecDepth 20000
set_option linter.unusedVariables false
set_option linter.unusedSimpArgs false
namespace Go.Ex
noncomputable section
set_option maxRecDepth 100000
theorem e0_run : chk e0 ((runE cx rcs .nil 5000).call e0.f e0.args (ofK e0.key .nil) e0.nx) = true := by kernel_rfl
theorem e0_good : e0.Good cx := good_of cx_ok fn_ok goods_nil e0_run
def etab1 : Tr (List En) := ((.nil : Tr (List En))).set 9 (some [e0])
theorem etab1_ok : Goods cx etab1 := by
  intro g es h e he
  unfold etab1 at h
  rw [get_set] at h
  split at h
  · cases h
    simp only [List.mem_cons, List.not_mem_nil, or_false] at he
    subst he
    exact e0_good
  cases h
theorem e1_run : chk e1 ((runE cx rcs etab1 5000).call e1.f e1.args (ofK e1.key .nil) e1.nx) = true := by kernel_rfl
theorem e1_good : e1.Good cx := good_of cx_ok fn_ok etab1_ok e1_run
end
end Go.Ex
