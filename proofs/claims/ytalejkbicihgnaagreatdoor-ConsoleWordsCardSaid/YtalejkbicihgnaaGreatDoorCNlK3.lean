/- Known calls, run by the kernel. -/
import Derived.Test.YtalejkbicihgnaaGreatDoorCNlE0
import Derived.Test.YtalejkbicihgnaaGreatDoorCNlK2
set_option maxHeartbeats 4000000
set_option maxRecDepth 20000
set_option linter.unusedVariables false
set_option linter.unusedSimpArgs false
namespace Go.Ex
noncomputable section
set_option maxRecDepth 100000
def etab8 : Tr (List En) := ((((.nil : Tr (List En))).set 24 (some [e5])).set 35 (some [e6])).set 13 (some [e7])
theorem etab8_ok : Goods cx etab8 := by
  intro g es h e he
  unfold etab8 at h
  rw [get_set] at h
  split at h
  · cases h
    simp only [List.mem_cons, List.not_mem_nil, or_false] at he
    subst he
    exact e7_good
  rw [get_set] at h
  split at h
  · cases h
    simp only [List.mem_cons, List.not_mem_nil, or_false] at he
    subst he
    exact e6_good
  rw [get_set] at h
  split at h
  · cases h
    simp only [List.mem_cons, List.not_mem_nil, or_false] at he
    subst he
    exact e5_good
  cases h
theorem e8_run : chk e8 ((runE cx rcs etab8 5000).call e8.f e8.args (ofK e8.key .nil) e8.nx) = true := by kernel_rfl
theorem e8_good : e8.Good cx := good_of cx_ok fn_ok etab8_ok e8_run
end
end Go.Ex
