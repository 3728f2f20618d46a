/- The tables of the laws' program. -/
import Derived.Test.YtjopicjammmbjaaGreatDoorEvH
import Derived.Test.YtjopicjammmbjaaGreatDoorProg
set_option maxHeartbeats 4000000
set_option maxRecDepth 20000
set_option linter.unusedVariables false
set_option linter.unusedSimpArgs false
namespace Go.Ex
noncomputable section
open Go.RowKit
open Go.Proofs
set_option maxRecDepth 100000
def gls : Tr (List Value) := (.nil : Tr (List Value))
def exs : Tr Ext := (((.nil : Tr Ext)).set 194 (some .cmpStr)).set 261 (some .noEscape)
def rcs : List Nat := [111]
def cx : Cx := cxF Tryz.prog gls exs
theorem mixedX : Tryz.prog.follows .mixedOrders = true := by kernel_rfl
theorem exs_ok (k : Nat) (x : Ext) (h : exs.get k = some x) : x.fits Tryz.prog ∧ ∀ (args : Array Value) (w : World), (callFunc k args).run Tryz.prog w = ((x.entry args).run Tryz.prog w).andThen fun v w' => .ok (.value v) w' := by
  unfold exs at h
  rw [get_set] at h
  split at h
  · rename_i e; subst e; cases h
    exact ⟨trivial, extern_run Tryz.func261 (by kernel_rfl) (by kernel_rfl) (by kernel_rfl) (by kernel_rfl)⟩
  rw [get_set] at h
  split at h
  · rename_i e; subst e; cases h
    exact ⟨trivial, extern_run Tryz.func194 (by kernel_rfl) (by kernel_rfl) (by kernel_rfl) (by kernel_rfl)⟩
  cases h
theorem cx_ok : CxOk cx := cxF_ok mixedX exs_ok
theorem enters111 : Go.Ab.entersB Tryz.prog 111 = true := by kernel_rfl
theorem fn_ok : FnOk cx rcs := by
  refine ⟨fun f g h => cxF_fn h, fun f hf args w => ?_, fun f hf args w => ?_⟩
  · simp only [rcs, List.mem_cons, List.not_mem_nil, or_false] at hf
    subst hf
    exact Go.Ab.run_callFunc enters111 args w
  · simp only [rcs, List.mem_cons, List.not_mem_nil, or_false] at hf
    subst hf
    exact rc_ok Tryz.func111 rfl rfl (by kernel_rfl) (by decide) (by decide) args w
end
end Go.Ex
