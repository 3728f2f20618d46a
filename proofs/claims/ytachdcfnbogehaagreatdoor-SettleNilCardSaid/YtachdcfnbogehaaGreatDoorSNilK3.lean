/- Known calls, run by the kernel. -/
import Derived.Test.YtachdcfnbogehaaGreatDoorSNilE0
import Derived.Test.YtachdcfnbogehaaGreatDoorSNilK0
import Derived.Test.YtachdcfnbogehaaGreatDoorSNilK1
import Derived.Test.YtachdcfnbogehaaGreatDoorSNilK2
set_option maxHeartbeats 4000000
set_option maxRecDepth 20000
set_option linter.unusedVariables false
set_option linter.unusedSimpArgs false
namespace Go.Ex
noncomputable section
set_option maxRecDepth 100000
def etab7 : Tr (List En) := (((.nil : Tr (List En))).set 15 (some [e0, e2, e3, e5, e6])).set 83 (some [e4])
theorem etab7_ok : Goods cx etab7 := by
  intro g es h e he
  unfold etab7 at h
  rw [get_set] at h
  split at h
  · cases h
    simp only [List.mem_cons, List.not_mem_nil, or_false] at he
    subst he
    exact e4_good
  rw [get_set] at h
  split at h
  · cases h
    simp only [List.mem_cons, List.not_mem_nil, or_false] at he
    rcases he with rfl | rfl | rfl | rfl | rfl
    · exact e0_good
    · exact e2_good
    · exact e3_good
    · exact e5_good
    · exact e6_good
  cases h
theorem e7_run : chk e7 ((runE cx rcs etab7 5000).call e7.f e7.args (ofK e7.key .nil) e7.nx) = true := by kernel_rfl
theorem e7_good : e7.Good cx := good_of cx_ok fn_ok etab7_ok e7_run
theorem e8_run : chk e8 ((runE cx rcs .nil 5000).call e8.f e8.args (ofK e8.key .nil) e8.nx) = true := by kernel_rfl
theorem e8_good : e8.Good cx := good_of cx_ok fn_ok goods_nil e8_run
end
end Go.Ex
