/- The law's run, whatever the number: it answers true. -/
import Derived.Test.YtachdcfnbogehaaGreatDoorSNilK10
import Derived.Test.YtachdcfnbogehaaGreatDoorSNilB0
import Derived.Test.YtachdcfnbogehaaGreatDoorSNilB1
import Derived.Test.YtachdcfnbogehaaGreatDoorSNilB2
import Derived.Test.YtachdcfnbogehaaGreatDoorSNilB3
import Derived.Test.YtachdcfnbogehaaGreatDoorSNilB4
import Derived.Test.YtachdcfnbogehaaGreatDoorSNilB5
import Derived.Test.YtachdcfnbogehaaGreatDoorSNilV0
import Derived.Test.YtachdcfnbogehaaGreatDoorSNilV1
import Derived.Test.YtachdcfnbogehaaGreatDoorSNilV2
import Derived.Test.YtachdcfnbogehaaGreatDoorSNilV3
set_option maxHeartbeats 4000000
set_option maxRecDepth 20000
set_option linter.unusedVariables false
set_option linter.unusedSimpArgs false
namespace Go.Ex
noncomputable section
set_option maxRecDepth 100000
open Go.RowKit Go.ChangeAt Go.ChangeShapes Go.WideShapes
open Go.Proofs
def tabK : Tr (List En) := ((.nil : Tr (List En))).set 6 (some [e27])
theorem tabK_ok : Goods cx tabK := by
  intro g es h e he
  unfold tabK at h
  rw [get_set] at h
  split at h
  · cases h
    simp only [List.mem_cons, List.not_mem_nil, or_false] at he
    subst he
    exact e27_good
  cases h
theorem entersK : Go.Ab.entersB Tryz.prog 9 = true := by kernel_rfl
theorem known_run : isTrue (call0 cx rcs tabK 5000 9 []) = true := by kernel_rfl
theorem known_calls (w : World) (hG : GOk gls w fun _ => False) : Calls Tryz.prog 9 #[] w fun e w' => e = .returned (.bool true) ∧ Below w.heap.size w w' :=
  calls_true (c := cx) (vs := []) cx_ok fn_ok tabK_ok entersK (by rfl) known_run w hG
theorem known_good (nx : Nat) : (pureEn 9 nx).Good cx := pure_good (c := cx) entersK known_calls nx
theorem tab_ok : Goods cx tab := by
  intro g es h e he
  unfold tab at h
  rw [get_set] at h
  split at h
  · cases h
    simp only [List.mem_cons, List.not_mem_nil, or_false] at he
    rcases he with rfl | rfl | rfl
    · exact known_good _
    · exact known_good _
    · exact known_good _
  rw [get_set] at h
  split at h
  · cases h
    simp only [List.mem_cons, List.not_mem_nil, or_false] at he
    subst he
    exact b31_good
  rw [get_set] at h
  split at h
  · cases h
    simp only [List.mem_cons, List.not_mem_nil, or_false] at he
    rcases he with rfl | rfl | rfl | rfl | rfl | rfl | rfl | rfl | rfl | rfl | rfl | rfl
    · exact b6_good
    · exact b7_good
    · exact b10_good
    · exact b11_good
    · exact b14_good
    · exact b15_good
    · exact b21_good
    · exact b22_good
    · exact b25_good
    · exact b26_good
    · exact b29_good
    · exact b30_good
  rw [get_set] at h
  split at h
  · cases h
    simp only [List.mem_cons, List.not_mem_nil, or_false] at he
    rcases he with rfl | rfl | rfl | rfl | rfl | rfl
    · exact b5_good
    · exact b9_good
    · exact b13_good
    · exact b20_good
    · exact b24_good
    · exact b28_good
  rw [get_set] at h
  split at h
  · cases h
    simp only [List.mem_cons, List.not_mem_nil, or_false] at he
    rcases he with rfl | rfl | rfl | rfl | rfl | rfl
    · exact b4_good
    · exact b8_good
    · exact b12_good
    · exact b19_good
    · exact b23_good
    · exact b27_good
  rw [get_set] at h
  split at h
  · cases h
    simp only [List.mem_cons, List.not_mem_nil, or_false] at he
    rcases he with rfl | rfl | rfl | rfl | rfl | rfl
    · exact b1_good
    · exact b2_good
    · exact b3_good
    · exact b16_good
    · exact b17_good
    · exact b18_good
  rw [get_set] at h
  split at h
  · cases h
    simp only [List.mem_cons, List.not_mem_nil, or_false] at he
    subst he
    exact b0_good
  cases h
theorem enters : Go.Ab.entersB Tryz.prog 3 = true := by kernel_rfl
theorem law_neg (m : Nat) : lawAt (.negSucc m) = true := by kernel_rfl
theorem law_zero : lawAt (.ofNat 0) = true := by kernel_rfl
theorem law_big (m : Nat) : lawAt (.ofNat (Nat.add m 65)) = true := by kernel_rfl
theorem law_nat : ∀ n : Nat, n < 65 → lawAt (.ofNat n) = true
  | 0, _ => law_zero
  | 1, _ => v1
  | 2, _ => v2
  | 3, _ => v3
  | 4, _ => v4
  | 5, _ => v5
  | 6, _ => v6
  | 7, _ => v7
  | 8, _ => v8
  | 9, _ => v9
  | 10, _ => v10
  | 11, _ => v11
  | 12, _ => v12
  | 13, _ => v13
  | 14, _ => v14
  | 15, _ => v15
  | 16, _ => v16
  | 17, _ => v17
  | 18, _ => v18
  | 19, _ => v19
  | 20, _ => v20
  | 21, _ => v21
  | 22, _ => v22
  | 23, _ => v23
  | 24, _ => v24
  | 25, _ => v25
  | 26, _ => v26
  | 27, _ => v27
  | 28, _ => v28
  | 29, _ => v29
  | 30, _ => v30
  | 31, _ => v31
  | 32, _ => v32
  | 33, _ => v33
  | 34, _ => v34
  | 35, _ => v35
  | 36, _ => v36
  | 37, _ => v37
  | 38, _ => v38
  | 39, _ => v39
  | 40, _ => v40
  | 41, _ => v41
  | 42, _ => v42
  | 43, _ => v43
  | 44, _ => v44
  | 45, _ => v45
  | 46, _ => v46
  | 47, _ => v47
  | 48, _ => v48
  | 49, _ => v49
  | 50, _ => v50
  | 51, _ => v51
  | 52, _ => v52
  | 53, _ => v53
  | 54, _ => v54
  | 55, _ => v55
  | 56, _ => v56
  | 57, _ => v57
  | 58, _ => v58
  | 59, _ => v59
  | 60, _ => v60
  | 61, _ => v61
  | 62, _ => v62
  | 63, _ => v63
  | 64, _ => v64
  | n + 65, h => absurd h (by omega)
theorem law_all (z : Int) : lawAt z = true := by
  cases z with
  | negSucc m => exact law_neg m
  | ofNat n =>
    rcases Nat.lt_or_ge n 65 with h | h
    · exact law_nat n h
    · obtain ⟨m, rfl⟩ := Nat.exists_eq_add_of_le' h
      exact law_big m
theorem law_run (n0 : Int) : isTrue (call0 cx rcs tab 5000 3 [.v (.int .i64 n0)]) = true := law_all n0
theorem law_calls (n0 : Int) (w : World) (hG : GOk gls w fun _ => False) : Calls Tryz.prog 3 #[.int .i64 n0] w fun e w' => e = .returned (.bool true) ∧ Below w.heap.size w w' :=
  calls_true (c := cx) (xs := [.v (.int .i64 n0)]) (vs := [.int .i64 n0]) cx_ok fn_ok tab_ok enters (by simp only [concL, conc, Option.map_some]) (law_run n0) w hG
end
end Go.Ex
