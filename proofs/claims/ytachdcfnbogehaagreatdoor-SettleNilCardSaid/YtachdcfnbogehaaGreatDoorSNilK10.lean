/- Known calls, run by the kernel. -/
import Derived.Test.YtachdcfnbogehaaGreatDoorSNilE0
import Derived.Test.YtachdcfnbogehaaGreatDoorSNilK3
import Derived.Test.YtachdcfnbogehaaGreatDoorSNilK4
import Derived.Test.YtachdcfnbogehaaGreatDoorSNilK5
import Derived.Test.YtachdcfnbogehaaGreatDoorSNilK6
import Derived.Test.YtachdcfnbogehaaGreatDoorSNilK8
import Derived.Test.YtachdcfnbogehaaGreatDoorSNilK9
set_option maxHeartbeats 4000000
set_option maxRecDepth 20000
set_option linter.unusedVariables false
set_option linter.unusedSimpArgs false
namespace Go.Ex
noncomputable section
set_option maxRecDepth 100000
theorem e25_run : chk e25 ((runE cx rcs .nil 5000).call e25.f e25.args (ofK e25.key .nil) e25.nx) = true := by kernel_rfl
theorem e25_good : e25.Good cx := good_of cx_ok fn_ok goods_nil e25_run
def etab26 : Tr (List En) := ((.nil : Tr (List En))).set 15 (some [e22, e23, e24, e25])
theorem etab26_ok : Goods cx etab26 := by
  intro g es h e he
  unfold etab26 at h
  rw [get_set] at h
  split at h
  · cases h
    simp only [List.mem_cons, List.not_mem_nil, or_false] at he
    rcases he with rfl | rfl | rfl | rfl
    · exact e22_good
    · exact e23_good
    · exact e24_good
    · exact e25_good
  cases h
theorem e26_run : chk e26 ((runE cx rcs etab26 5000).call e26.f e26.args (ofK e26.key .nil) e26.nx) = true := by kernel_rfl
theorem e26_good : e26.Good cx := good_of cx_ok fn_ok etab26_ok e26_run
def etab27 : Tr (List En) := ((((.nil : Tr (List En))).set 5 (some [e7, e21, e26])).set 15 (some [e8, e9, e10, e11, e13, e14])).set 117 (some [e12])
theorem etab27_ok : Goods cx etab27 := by
  intro g es h e he
  unfold etab27 at h
  rw [get_set] at h
  split at h
  · cases h
    simp only [List.mem_cons, List.not_mem_nil, or_false] at he
    subst he
    exact e12_good
  rw [get_set] at h
  split at h
  · cases h
    simp only [List.mem_cons, List.not_mem_nil, or_false] at he
    rcases he with rfl | rfl | rfl | rfl | rfl | rfl
    · exact e8_good
    · exact e9_good
    · exact e10_good
    · exact e11_good
    · exact e13_good
    · exact e14_good
  rw [get_set] at h
  split at h
  · cases h
    simp only [List.mem_cons, List.not_mem_nil, or_false] at he
    rcases he with rfl | rfl | rfl
    · exact e7_good
    · exact e21_good
    · exact e26_good
  cases h
theorem e27_run : chk e27 ((runE cx rcs etab27 5000).call e27.f e27.args (ofK e27.key .nil) e27.nx) = true := by kernel_rfl
theorem e27_good : e27.Good cx := good_of cx_ok fn_ok etab27_ok e27_run
end
end Go.Ex
