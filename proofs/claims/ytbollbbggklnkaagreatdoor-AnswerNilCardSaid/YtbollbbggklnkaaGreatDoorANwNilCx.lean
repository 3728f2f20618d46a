/- The tables of the laws' program. -/
import Derived.Test.YtbollbbggklnkaaGreatDoorEvH
import Derived.Test.YtbollbbggklnkaaGreatDoorProg
set_option linter.unusedVariables false
set_option linter.unusedSimpArgs false
namespace Go.Ex
noncomputable section
open Go.RowKit
open Go.Proofs
set_option maxRecDepth 100000
def gl1 : List Value := [.string ⟨⟨[]⟩⟩, .string ⟨⟨[112, 117, 116]⟩⟩, .string ⟨⟨[100, 101, 108]⟩⟩, .string ⟨⟨[105, 110, 99]⟩⟩, .string ⟨⟨[99, 97, 115]⟩⟩, .string ⟨⟨[97, 112, 112, 101, 110, 100]⟩⟩, .string ⟨⟨[109, 111, 118, 101]⟩⟩, .string ⟨⟨[115, 101, 113]⟩⟩]
def gls : Tr (List Value) := ((.nil : Tr (List Value))).set 1 (some gl1)
def exs : Tr Ext := (((((((.nil : Tr Ext)).set 157 (some .valueOf)).set 158 (some (.swapper 214 215 222))).set 159 (some .rlLen)).set 222 (some .swap9)).set 298 (some .noEscape)).set 368 (some .cmpStr)
def rcs : List Nat := [148, 162]
def cx : Cx := cxF Tryz.prog gls exs
theorem mixedX : Tryz.prog.follows .mixedOrders = true := by kernel_rfl
theorem exs_ok (k : Nat) (x : Ext) (h : exs.get k = some x) : x.fits Tryz.prog ∧ ∀ (args : Array Value) (w : World), (callFunc k args).run Tryz.prog w = ((x.entry args).run Tryz.prog w).andThen fun v w' => .ok (.value v) w' := by
  unfold exs at h
  rw [get_set] at h
  split at h
  · rename_i e; subst e; cases h
    exact ⟨trivial, extern_run Tryz.func368 (by kernel_rfl) (by kernel_rfl) (by kernel_rfl) (by kernel_rfl)⟩
  rw [get_set] at h
  split at h
  · rename_i e; subst e; cases h
    exact ⟨trivial, extern_run Tryz.func298 (by kernel_rfl) (by kernel_rfl) (by kernel_rfl) (by kernel_rfl)⟩
  rw [get_set] at h
  split at h
  · rename_i e; subst e; cases h
    exact ⟨trivial, extern_run Tryz.func222 (by kernel_rfl) (by kernel_rfl) (by kernel_rfl) (by kernel_rfl)⟩
  rw [get_set] at h
  split at h
  · rename_i e; subst e; cases h
    exact ⟨trivial, extern_run Tryz.func159 (by kernel_rfl) (by kernel_rfl) (by kernel_rfl) (by kernel_rfl)⟩
  rw [get_set] at h
  split at h
  · rename_i e; subst e; cases h
    exact ⟨⟨by kernel_rfl, by kernel_rfl, by kernel_rfl⟩, extern_run Tryz.func158 (by kernel_rfl) (by kernel_rfl) (by kernel_rfl) (by kernel_rfl)⟩
  rw [get_set] at h
  split at h
  · rename_i e; subst e; cases h
    exact ⟨trivial, extern_run Tryz.func157 (by kernel_rfl) (by kernel_rfl) (by kernel_rfl) (by kernel_rfl)⟩
  cases h
theorem cx_ok : CxOk cx := cxF_ok mixedX exs_ok
theorem enters148 : Go.Ab.entersB Tryz.prog 148 = true := by kernel_rfl
theorem enters162 : Go.Ab.entersB Tryz.prog 162 = true := by kernel_rfl
theorem fn_ok : FnOk cx rcs := by
  refine ⟨fun f g h => cxF_fn h, fun f hf args w => ?_, fun f hf args w => ?_⟩
  · simp only [rcs, List.mem_cons, List.not_mem_nil, or_false] at hf
    rcases hf with rfl | rfl
    · exact Go.Ab.run_callFunc enters148 args w
    · exact Go.Ab.run_callFunc enters162 args w
  · simp only [rcs, List.mem_cons, List.not_mem_nil, or_false] at hf
    rcases hf with rfl | rfl
    · exact rc_ok Tryz.func148 rfl rfl (by kernel_rfl) (by decide) (by decide) args w
    · exact rc_ok Tryz.func162 rfl rfl (by kernel_rfl) (by decide) (by decide) args w
end
end Go.Ex
