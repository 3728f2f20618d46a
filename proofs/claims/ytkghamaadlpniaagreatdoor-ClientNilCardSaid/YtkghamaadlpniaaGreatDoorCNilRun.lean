/- ClientNil: the law's run, by the kernel: it answers true. -/
import Derived.Test.YtkghamaadlpniaaGreatDoorCNilCx
set_option linter.unusedVariables false
set_option linter.unusedSimpArgs false
namespace Go.Ex
noncomputable section
set_option maxRecDepth 100000
open Go.RowKit Go.ChangeAt Go.ChangeShapes Go.WideShapes
open Go.Proofs
def args : List X := []
def tabK : Tr (List En) := (.nil : Tr (List En))
theorem tabK_ok : Goods cx tabK := by
  intro g es h e he
  unfold tabK at h
  cases h
theorem entersK : Go.Ab.entersB Tryz.prog 16 = true := by kernel_rfl
theorem known_run : isTrue (call0 cx rcs tabK 5000 16 []) = true := by kernel_rfl
theorem known_calls (w : World) (hG : GOk gls w fun _ => False) : Calls Tryz.prog 16 #[] w fun e w' => e = .returned (.bool true) ∧ Below w.heap.size w w' :=
  calls_true (c := cx) (vs := []) cx_ok fn_ok tabK_ok entersK (by rfl) known_run w hG
theorem known_good (nx : Nat) : (pureEn 16 nx).Good cx := pure_good (c := cx) entersK known_calls nx
def tab : Tr (List En) := ((.nil : Tr (List En))).set 16 (some [pureEn 16 485])
theorem tab_ok : Goods cx tab := by
  intro g es h e he
  unfold tab at h
  rw [get_set] at h
  split at h
  · cases h
    simp only [List.mem_cons, List.not_mem_nil, or_false] at he
    subst he
    exact known_good _
  cases h
theorem enters : Go.Ab.entersB Tryz.prog 3 = true := by kernel_rfl
theorem law_run : isTrue (call0 cx rcs tab 5000 3 (args)) = true := by kernel_rfl
theorem law_calls (w : World) (hG : GOk gls w fun _ => False) : Calls Tryz.prog 3 #[] w fun e w' => e = .returned (.bool true) ∧ Below w.heap.size w w' :=
  calls_true (c := cx) (xs := args) (vs := []) cx_ok fn_ok tab_ok enters (by rfl) (law_run) w hG
end
end Go.Ex
