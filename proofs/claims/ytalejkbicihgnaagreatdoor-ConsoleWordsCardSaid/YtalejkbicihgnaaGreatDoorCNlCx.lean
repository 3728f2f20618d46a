/- The tables of the laws' program. -/
import Derived.Test.YtalejkbicihgnaaGreatDoorExPan
import Derived.Test.YtalejkbicihgnaaGreatDoorProg
set_option maxHeartbeats 4000000
set_option maxRecDepth 20000
set_option linter.unusedVariables false
set_option linter.unusedSimpArgs false
namespace Go.Ex
noncomputable section
open Go.RowKit
open Go.Proofs
set_option maxRecDepth 100000
def gl0 : List Value := [.string ⟨⟨[]⟩⟩, .string ⟨⟨[112, 117, 116]⟩⟩, .string ⟨⟨[100, 101, 108]⟩⟩, .string ⟨⟨[105, 110, 99]⟩⟩, .string ⟨⟨[99, 97, 115]⟩⟩, .string ⟨⟨[97, 112, 112, 101, 110, 100]⟩⟩, .string ⟨⟨[109, 111, 118, 101]⟩⟩, .string ⟨⟨[115, 101, 113]⟩⟩]
def gl9 : List Value := [.string ⟨⟨[]⟩⟩, .string ⟨⟨[112, 117, 116]⟩⟩, .string ⟨⟨[100, 101, 108]⟩⟩, .string ⟨⟨[99, 108, 101, 97, 114]⟩⟩]
def gls : Tr (List Value) := (((.nil : Tr (List Value))).set 0 (some gl0)).set 9 (some gl9)
def exs : Tr Ext := ((((((((.nil : Tr Ext)).set 316 (some .noEscape)).set 349 (some .idxByte)).set 513 (some .valueOf)).set 514 (some (.swapper 579 580 587))).set 515 (some .rlLen)).set 527 (some .cmpStr)).set 587 (some .swap9)
def rcs : List Nat := [28, 250, 297]
def cx : Cx := cxF Tryz.prog gls exs
theorem mixedX : Tryz.prog.follows .mixedOrders = true := by kernel_rfl
theorem exs_ok (k : Nat) (x : Ext) (h : exs.get k = some x) : x.fits Tryz.prog ∧ ∀ (args : Array Value) (w : World), (callFunc k args).run Tryz.prog w = ((x.entry args).run Tryz.prog w).andThen fun v w' => .ok (.value v) w' := by
  unfold exs at h
  rw [get_set] at h
  split at h
  · rename_i e; subst e; cases h
    exact ⟨trivial, extern_run Tryz.func587 (by kernel_rfl) (by kernel_rfl) (by kernel_rfl) (by kernel_rfl)⟩
  rw [get_set] at h
  split at h
  · rename_i e; subst e; cases h
    exact ⟨trivial, extern_run Tryz.func527 (by kernel_rfl) (by kernel_rfl) (by kernel_rfl) (by kernel_rfl)⟩
  rw [get_set] at h
  split at h
  · rename_i e; subst e; cases h
    exact ⟨trivial, extern_run Tryz.func515 (by kernel_rfl) (by kernel_rfl) (by kernel_rfl) (by kernel_rfl)⟩
  rw [get_set] at h
  split at h
  · rename_i e; subst e; cases h
    exact ⟨⟨by kernel_rfl, by kernel_rfl, by kernel_rfl⟩, extern_run Tryz.func514 (by kernel_rfl) (by kernel_rfl) (by kernel_rfl) (by kernel_rfl)⟩
  rw [get_set] at h
  split at h
  · rename_i e; subst e; cases h
    exact ⟨trivial, extern_run Tryz.func513 (by kernel_rfl) (by kernel_rfl) (by kernel_rfl) (by kernel_rfl)⟩
  rw [get_set] at h
  split at h
  · rename_i e; subst e; cases h
    exact ⟨trivial, extern_run Tryz.func349 (by kernel_rfl) (by kernel_rfl) (by kernel_rfl) (by kernel_rfl)⟩
  rw [get_set] at h
  split at h
  · rename_i e; subst e; cases h
    exact ⟨trivial, extern_run Tryz.func316 (by kernel_rfl) (by kernel_rfl) (by kernel_rfl) (by kernel_rfl)⟩
  cases h
theorem cx_ok : CxOk cx := cxF_ok mixedX exs_ok
theorem enters28 : Go.Ab.entersB Tryz.prog 28 = true := by kernel_rfl
theorem enters250 : Go.Ab.entersB Tryz.prog 250 = true := by kernel_rfl
theorem enters297 : Go.Ab.entersB Tryz.prog 297 = true := by kernel_rfl
theorem fn_ok : FnOk cx rcs := by
  refine ⟨fun f g h => cxF_fn h, fun f hf args w => ?_, fun f hf args w => ?_⟩
  · simp only [rcs, List.mem_cons, List.not_mem_nil, or_false] at hf
    rcases hf with rfl | rfl | rfl
    · exact Go.Ab.run_callFunc enters28 args w
    · exact Go.Ab.run_callFunc enters250 args w
    · exact Go.Ab.run_callFunc enters297 args w
  · simp only [rcs, List.mem_cons, List.not_mem_nil, or_false] at hf
    rcases hf with rfl | rfl | rfl
    · exact rc_ok2 Tryz.func28 rfl rfl (by kernel_rfl) (by decide) (by decide) (by decide) (by decide) args w
    · exact rc_ok Tryz.func250 rfl rfl (by kernel_rfl) (by decide) (by decide) args w
    · exact rc_ok Tryz.func297 rfl rfl (by kernel_rfl) (by decide) (by decide) args w
end
end Go.Ex
