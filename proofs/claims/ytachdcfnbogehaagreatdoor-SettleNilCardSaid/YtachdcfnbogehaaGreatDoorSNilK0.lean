/- Known calls, run by the kernel. -/
import Derived.Test.YtachdcfnbogehaaGreatDoorSNilE0
set_option maxHeartbeats 4000000
set_option maxRecDepth 20000
set_option linter.unusedVariables false
set_option linter.unusedSimpArgs false
namespace Go.Ex
noncomputable section
set_option maxRecDepth 100000
theorem e0_run : chk e0 ((runE cx rcs .nil 5000).call e0.f e0.args (ofK e0.key .nil) e0.nx) = true := by kernel_rfl
theorem e0_good : e0.Good cx := good_of cx_ok fn_ok goods_nil e0_run
theorem e1_run : chk e1 ((runE cx rcs .nil 5000).call e1.f e1.args (ofK e1.key .nil) e1.nx) = true := by kernel_rfl
theorem e1_good : e1.Good cx := good_of cx_ok fn_ok goods_nil e1_run
def etab2 : Tr (List En) := ((.nil : Tr (List En))).set 67 (some [e1])
theorem etab2_ok : Goods cx etab2 := by
  intro g es h e he
  unfold etab2 at h
  rw [get_set] at h
  split at h
  · cases h
    simp only [List.mem_cons, List.not_mem_nil, or_false] at he
    subst he
    exact e1_good
  cases h
theorem e2_run : chk e2 ((runE cx rcs etab2 5000).call e2.f e2.args (ofK e2.key .nil) e2.nx) = true := by kernel_rfl
theorem e2_good : e2.Good cx := good_of cx_ok fn_ok etab2_ok e2_run
end
end Go.Ex
