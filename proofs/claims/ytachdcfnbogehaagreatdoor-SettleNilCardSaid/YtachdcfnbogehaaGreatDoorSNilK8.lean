/- Known calls, run by the kernel. -/
import Derived.Test.YtachdcfnbogehaaGreatDoorSNilE0
import Derived.Test.YtachdcfnbogehaaGreatDoorSNilK6
import Derived.Test.YtachdcfnbogehaaGreatDoorSNilK7
set_option maxHeartbeats 4000000
set_option maxRecDepth 20000
set_option linter.unusedVariables false
set_option linter.unusedSimpArgs false
namespace Go.Ex
noncomputable section
set_option maxRecDepth 100000
theorem e20_run : chk e20 ((runE cx rcs .nil 5000).call e20.f e20.args (ofK e20.key .nil) e20.nx) = true := by kernel_rfl
theorem e20_good : e20.Good cx := good_of cx_ok fn_ok goods_nil e20_run
def etab21 : Tr (List En) := ((.nil : Tr (List En))).set 15 (some [e15, e16, e17, e18, e19, e20])
theorem etab21_ok : Goods cx etab21 := by
  intro g es h e he
  unfold etab21 at h
  rw [get_set] at h
  split at h
  · cases h
    simp only [List.mem_cons, List.not_mem_nil, or_false] at he
    rcases he with rfl | rfl | rfl | rfl | rfl | rfl
    · exact e15_good
    · exact e16_good
    · exact e17_good
    · exact e18_good
    · exact e19_good
    · exact e20_good
  cases h
theorem e21_run : chk e21 ((runE cx rcs etab21 5000).call e21.f e21.args (ofK e21.key .nil) e21.nx) = true := by kernel_rfl
theorem e21_good : e21.Good cx := good_of cx_ok fn_ok etab21_ok e21_run
end
end Go.Ex
