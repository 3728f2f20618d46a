/- WorldNil: the law's run, by the kernel: it answers true. -/
import Derived.Test.YtbidglkfafjhiaaGreatDoorWNilK0
import Derived.Test.YtbidglkfafjhiaaGreatDoorWNilK1
import Derived.Test.YtbidglkfafjhiaaGreatDoorWNilK2
import Derived.Test.YtbidglkfafjhiaaGreatDoorWNilK3
set_option maxHeartbeats 4000000
set_option maxRecDepth 20000
set_option linter.unusedVariables false
set_option linter.unusedSimpArgs false
namespace Go.Ex
noncomputable section
set_option maxRecDepth 100000
open Go.RowKit Go.ChangeAt Go.ChangeShapes Go.WideShapes
open Go.Proofs
def kA : List CK := [.int .i64, .int .i64, .int .i64, .int .i64, .int .u8, .int .i64, .str, .str, .int .i64, .bool, .int .i64, .bool, .int .i64, .str, .slc, .slc, .bool, .int .i64, .bool, .int .i64, .str, .slc, .slc, .slc, .int .i64, .str, .str, .bool]
def tA : List TypeId := (Tryz.prog.cellTypes Tryz.prog.depth 36).getD []
theorem hA : Tryz.prog.cellTypes Tryz.prog.depth 36 = some tA := by kernel_rfl
theorem bA : allKB Tryz.prog tA kA = true := by kernel_rfl
theorem nA : Tryz.prog.cellsOf 36 = tA.length := by kernel_rfl
theorem stA {W : World} {r : Reach} {base : Nat} {v : Value} (h : Value.okWide Tryz.prog W r base 36 v) : ∃ c : Nat → Value, v = .agg (mkV c kA 0).toArray :=
  struct_cells Tryz.underlying36 (ts := tA) (ks := kA) hA bA nA h
def args (c : Nat → Value) : List X := [.agg (mapV (mkV c kA 0))]
def tabK : Tr (List En) := ((.nil : Tr (List En))).set 9 (some [e0, e1, e2, e3])
theorem tabK_ok : Goods cx tabK := by
  intro g es h e he
  unfold tabK at h
  rw [get_set] at h
  split at h
  · cases h
    simp only [List.mem_cons, List.not_mem_nil, or_false] at he
    rcases he with rfl | rfl | rfl | rfl
    · exact e0_good
    · exact e1_good
    · exact e2_good
    · exact e3_good
  cases h
theorem entersK : Go.Ab.entersB Tryz.prog 13 = true := by kernel_rfl
theorem known_run : isTrue (call0 cx rcs tabK 5000 13 []) = true := by kernel_rfl
theorem known_calls (w : World) (hG : GOk gls w fun _ => False) : Calls Tryz.prog 13 #[] w fun e w' => e = .returned (.bool true) ∧ Below w.heap.size w w' :=
  calls_true (c := cx) (vs := []) cx_ok fn_ok tabK_ok entersK (by rfl) known_run w hG
theorem known_good (nx : Nat) : (pureEn 13 nx).Good cx := pure_good (c := cx) entersK known_calls nx
def tab : Tr (List En) := ((.nil : Tr (List En))).set 13 (some [pureEn 13 21763])
theorem tab_ok : Goods cx tab := by
  intro g es h e he
  unfold tab at h
  rw [get_set] at h
  split at h
  · cases h
    simp only [List.mem_cons, List.not_mem_nil, or_false] at he
    subst he
    exact known_good _
  cases h
theorem enters : Go.Ab.entersB Tryz.prog 3 = true := by kernel_rfl
theorem law_run (c : Nat → Value) : isTrue (call0 cx rcs tab 5000 3 (args c)) = true := by kernel_rfl
theorem law_calls (c : Nat → Value) (w : World) (hG : GOk gls w fun _ => False) : Calls Tryz.prog 3 #[.agg (mkV c kA 0).toArray] w fun e w' => e = .returned (.bool true) ∧ Below w.heap.size w w' :=
  calls_true (c := cx) (xs := args c) (vs := [.agg (mkV c kA 0).toArray]) cx_ok fn_ok tab_ok enters (by simp only [args, concL, conc, concL_mapV, Option.map_some]) (law_run c) w hG
end
end Go.Ex
