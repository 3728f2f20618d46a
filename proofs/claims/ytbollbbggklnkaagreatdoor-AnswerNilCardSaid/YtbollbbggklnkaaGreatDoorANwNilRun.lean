/- AnswerNil: the law's run, by the kernel: it answers true. -/
import Derived.Test.YtbollbbggklnkaaGreatDoorANwNilK0
import Derived.Test.YtbollbbggklnkaaGreatDoorANwNilK1
set_option linter.unusedVariables false
set_option linter.unusedSimpArgs false
namespace Go.Ex
noncomputable section
set_option maxRecDepth 100000
open Go.RowKit Go.ChangeAt Go.ChangeShapes Go.WideShapes
open Go.Proofs
def kR : List CK := [.int .u64, .int .u64]
def tR : List TypeId := (Tryz.prog.cellTypes Tryz.prog.depth 24).getD []
theorem hR : Tryz.prog.cellTypes Tryz.prog.depth 24 = some tR := by kernel_rfl
theorem bR : allKB Tryz.prog tR kR = true := by kernel_rfl
theorem nR : Tryz.prog.cellsOf 24 = tR.length := by kernel_rfl
theorem stR {W : World} {r : Reach} {base : Nat} {v : Value} (h : Value.okWide Tryz.prog W r base 24 v) : ∃ c : Nat → Value, v = .agg (mkV c kR 0).toArray :=
  struct_cells Tryz.underlying24 (ts := tR) (ks := kR) hR bR nR h
def args (c : Nat → Value) : List X := [.agg (mapV (mkV c kR 0))]
def tabK : Tr (List En) := (((.nil : Tr (List En))).set 19 (some [e0])).set 59 (some [e1])
theorem tabK_ok : Goods cx tabK := by
  intro g es h e he
  unfold tabK at h
  rw [get_set] at h
  split at h
  · cases h
    simp only [List.mem_cons, List.not_mem_nil, or_false] at he
    subst he
    exact e1_good
  rw [get_set] at h
  split at h
  · cases h
    simp only [List.mem_cons, List.not_mem_nil, or_false] at he
    subst he
    exact e0_good
  cases h
theorem entersK : Go.Ab.entersB Tryz.prog 7 = true := by kernel_rfl
theorem known_run : isTrue (call0 cx rcs tabK 5000 7 []) = true := by kernel_rfl
theorem known_calls (w : World) (hG : GOk gls w fun _ => False) : Calls Tryz.prog 7 #[] w fun e w' => e = .returned (.bool true) ∧ Below w.heap.size w w' :=
  calls_true (c := cx) (vs := []) cx_ok fn_ok tabK_ok entersK (by rfl) known_run w hG
theorem known_good (nx : Nat) : (pureEn 7 nx).Good cx := pure_good (c := cx) entersK known_calls nx
def tab : Tr (List En) := ((.nil : Tr (List En))).set 7 (some [pureEn 7 360])
theorem tab_ok : Goods cx tab := by
  intro g es h e he
  unfold tab at h
  rw [get_set] at h
  split at h
  · cases h
    simp only [List.mem_cons, List.not_mem_nil, or_false] at he
    subst he
    exact known_good _
  cases h
theorem enters : Go.Ab.entersB Tryz.prog 3 = true := by kernel_rfl
theorem law_run (c : Nat → Value) : isTrue (call0 cx rcs tab 5000 3 (args c)) = true := by kernel_rfl
theorem law_calls (c : Nat → Value) (w : World) (hG : GOk gls w fun _ => False) : Calls Tryz.prog 3 #[.agg (mkV c kR 0).toArray] w fun e w' => e = .returned (.bool true) ∧ Below w.heap.size w w' :=
  calls_true (c := cx) (xs := args c) (vs := [.agg (mkV c kR 0).toArray]) cx_ok fn_ok tab_ok enters (by simp only [args, concL, conc, concL_mapV, Option.map_some]) (law_run c) w hG
end
end Go.Ex
