/- What is known, run by the kernel. -/
import Derived.Test.YtblbhfnpneliiaaGreatDoorExRc
namespace Go.Ex
open Go.RowKit
open Go.Proofs
theorem mixedX : Tryz.prog.follows .mixedOrders = true := by kernel_rfl
theorem enters118 : Go.Ab.entersB Tryz.prog 118 = true := by kernel_rfl
theorem rcOk : FnOk (cxOf Tryz.prog 420) 118 :=
  ⟨fun f g h => cxOf_fn h, fun args w => Go.Ab.run_callFunc enters118 args w, fun args w => rc_ok Tryz.func118 rfl rfl (by kernel_rfl) (by decide) (by decide) args w⟩
theorem enters10 : Go.Ab.entersB Tryz.prog 10 = true := by kernel_rfl
theorem known10_run : isTrue (call0 Tryz.prog 420 118 5000 10 []) = true := by kernel_rfl
theorem known10 : Go.Ab.PCall Tryz.prog 10 [] (.val (.bool true)) := pcall_true mixedX rcOk enters10 known10_run
#print axioms known10
end Go.Ex
