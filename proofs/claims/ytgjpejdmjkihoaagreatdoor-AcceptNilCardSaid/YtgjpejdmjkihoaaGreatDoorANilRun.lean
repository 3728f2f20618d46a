/- The law's run, by the kernel: it answers true. -/
import Derived.Test.YtgjpejdmjkihoaaGreatDoorANilK0
import Derived.Test.YtgjpejdmjkihoaaGreatDoorANilK1
import Derived.Test.YtgjpejdmjkihoaaGreatDoorANilK2
set_option linter.unusedVariables false
set_option linter.unusedSimpArgs false
namespace Go.Ex
noncomputable section
set_option maxRecDepth 100000
open Go.RowKit
open Go.Proofs
def tab : Tr (List En) := ((.nil : Tr (List En)).set 29 (some [e0])).set 48 (some [e1, e2])
theorem tab_ok : Goods cx tab := by
  intro g es h e he
  unfold tab at h
  rw [get_set] at h
  split at h
  · cases h
    simp only [List.mem_cons, List.not_mem_nil, or_false] at he
    rcases he with rfl | rfl
    · exact e1_good
    · exact e2_good
  rw [get_set] at h
  split at h
  · cases h
    simp only [List.mem_cons, List.not_mem_nil, or_false] at he
    subst he
    exact e0_good
  cases h
theorem enters3 : Go.Ab.entersB Tryz.prog 3 = true := by kernel_rfl
theorem law_run : isTrue (call0 cx rcs tab 5000 3 []) = true := by kernel_rfl
theorem law_calls (w : World) (hG : GOk gls w fun _ => False) : Calls Tryz.prog 3 #[] w fun e w' => e = .returned (.bool true) ∧ Below w.heap.size w w' :=
  calls_true (c := cx) (vs := []) cx_ok fn_ok tab_ok enters3 (by rfl) law_run w hG
end
end Go.Ex
