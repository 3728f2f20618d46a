/- The law's run, whatever the number: it answers true. -/
import Derived.Test.YtalejkbicihgnaaGreatDoorCNlK0
import Derived.Test.YtalejkbicihgnaaGreatDoorCNlK3
import Derived.Test.YtalejkbicihgnaaGreatDoorCWdV0
set_option maxHeartbeats 4000000
set_option maxRecDepth 20000
set_option linter.unusedVariables false
set_option linter.unusedSimpArgs false
namespace Go.Ex
noncomputable section
set_option maxRecDepth 100000
open Go.RowKit Go.ChangeAt Go.ChangeShapes Go.WideShapes
open Go.Proofs
def tabK : Tr (List En) := ((.nil : Tr (List En))).set 10 (some [e1, e8])
theorem tabK_ok : Goods cx tabK := by
  intro g es h e he
  unfold tabK at h
  rw [get_set] at h
  split at h
  · cases h
    simp only [List.mem_cons, List.not_mem_nil, or_false] at he
    rcases he with rfl | rfl
    · exact e1_good
    · exact e8_good
  cases h
theorem entersK : Go.Ab.entersB Tryz.prog 7 = true := by kernel_rfl
theorem known_run : isTrue (call0 cx rcs tabK 5000 7 []) = true := by kernel_rfl
theorem known_calls (w : World) (hG : GOk gls w fun _ => False) : Calls Tryz.prog 7 #[] w fun e w' => e = .returned (.bool true) ∧ Below w.heap.size w w' :=
  calls_true (c := cx) (vs := []) cx_ok fn_ok tabK_ok entersK (by rfl) known_run w hG
theorem known_good (nx : Nat) : (pureEn 7 nx).Good cx := pure_good (c := cx) entersK known_calls nx
theorem tab_ok : Goods cx tab := by
  intro g es h e he
  unfold tab at h
  rw [get_set] at h
  split at h
  · cases h
    simp only [List.mem_cons, List.not_mem_nil, or_false] at he
    rcases he with rfl | rfl | rfl
    · exact known_good _
    · exact known_good _
    · exact known_good _
  cases h
theorem enters : Go.Ab.entersB Tryz.prog 3 = true := by kernel_rfl
theorem law_neg (m : Nat) : lawAt (.negSucc m) = true := by kernel_rfl
theorem law_zero : lawAt (.ofNat 0) = true := by kernel_rfl
theorem law_big (m : Nat) : lawAt (.ofNat (Nat.add m 19)) = true := by kernel_rfl
theorem law_nat : ∀ n : Nat, n < 19 → lawAt (.ofNat n) = true
  | 0, _ => law_zero
  | 1, _ => v1
  | 2, _ => v2
  | 3, _ => v3
  | 4, _ => v4
  | 5, _ => v5
  | 6, _ => v6
  | 7, _ => v7
  | 8, _ => v8
  | 9, _ => v9
  | 10, _ => v10
  | 11, _ => v11
  | 12, _ => v12
  | 13, _ => v13
  | 14, _ => v14
  | 15, _ => v15
  | 16, _ => v16
  | 17, _ => v17
  | 18, _ => v18
  | n + 19, h => absurd h (by omega)
theorem law_all (z : Int) : lawAt z = true := by
  cases z with
  | negSucc m => exact law_neg m
  | ofNat n =>
    rcases Nat.lt_or_ge n 19 with h | h
    · exact law_nat n h
    · obtain ⟨m, rfl⟩ := Nat.exists_eq_add_of_le' h
      exact law_big m
theorem law_run (n0 : Int) : isTrue (call0 cx rcs tab 5000 3 [.v (.int .i64 n0)]) = true := law_all n0
theorem law_calls (n0 : Int) (w : World) (hG : GOk gls w fun _ => False) : Calls Tryz.prog 3 #[.int .i64 n0] w fun e w' => e = .returned (.bool true) ∧ Below w.heap.size w w' :=
  calls_true (c := cx) (xs := [.v (.int .i64 n0)]) (vs := [.int .i64 n0]) cx_ok fn_ok tab_ok enters (by simp only [concL, conc, Option.map_some]) (law_run n0) w hG
end
end Go.Ex
