/- ConsoleNil: the law's run, by the kernel: it answers true. -/
import Derived.Test.YtalejkbicihgnaaGreatDoorCNlK0
import Derived.Test.YtalejkbicihgnaaGreatDoorCNlK3
set_option maxHeartbeats 4000000
set_option maxRecDepth 20000
set_option linter.unusedVariables false
set_option linter.unusedSimpArgs false
namespace Go.Ex
noncomputable section
set_option maxRecDepth 100000
open Go.RowKit Go.ChangeAt Go.ChangeShapes Go.WideShapes
open Go.Proofs
def args (n0 : ByteArray) : List X := [.v (.string n0)]
def tabK : Tr (List En) := ((.nil : Tr (List En))).set 10 (some [e1, e8])
theorem tabK_ok : Goods cx tabK := by
  intro g es h e he
  unfold tabK at h
  rw [get_set] at h
  split at h
  · cases h
    simp only [List.mem_cons, List.not_mem_nil, or_false] at he
    rcases he with rfl | rfl
    · exact e1_good
    · exact e8_good
  cases h
theorem entersK : Go.Ab.entersB Tryz.prog 7 = true := by kernel_rfl
theorem known_run : isTrue (call0 cx rcs tabK 5000 7 []) = true := by kernel_rfl
theorem known_calls (w : World) (hG : GOk gls w fun _ => False) : Calls Tryz.prog 7 #[] w fun e w' => e = .returned (.bool true) ∧ Below w.heap.size w w' :=
  calls_true (c := cx) (vs := []) cx_ok fn_ok tabK_ok entersK (by rfl) known_run w hG
theorem known_good (nx : Nat) : (pureEn 7 nx).Good cx := pure_good (c := cx) entersK known_calls nx
def tab : Tr (List En) := ((.nil : Tr (List En))).set 7 (some [pureEn 7 184])
theorem tab_ok : Goods cx tab := by
  intro g es h e he
  unfold tab at h
  rw [get_set] at h
  split at h
  · cases h
    simp only [List.mem_cons, List.not_mem_nil, or_false] at he
    subst he
    exact known_good _
  cases h
theorem enters : Go.Ab.entersB Tryz.prog 4 = true := by kernel_rfl
theorem law_run (n0 : ByteArray) : isTrue (call0 cx rcs tab 5000 4 (args n0)) = true := by kernel_rfl
theorem law_calls (n0 : ByteArray) (w : World) (hG : GOk gls w fun _ => False) : Calls Tryz.prog 4 #[.string n0] w fun e w' => e = .returned (.bool true) ∧ Below w.heap.size w w' :=
  calls_true (c := cx) (xs := args n0) (vs := [.string n0]) cx_ok fn_ok tab_ok enters (by simp only [args, concL, conc, concL_mapV, Option.map_some]) (law_run n0) w hG
end
end Go.Ex
