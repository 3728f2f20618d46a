/- The abstract layer, part 16: loops and tactics. -/
import Derived.Test.YtjopicjammmbjaaGreatDoorAbVC
set_option maxHeartbeats 4000000
set_option maxRecDepth 20000
set_option linter.unusedVariables false
set_option linter.unusedSimpArgs false
namespace Go.Ab
open Go.RowKit

def loopQ (R : St → Prop) (Q : AE → St → Prop) : AE → St → Prop
  | .normal, s => R s
  | e, s => Q e s
/-- A loop's heads: states S i that keep Inv; m goes down. -/
theorem AWp.loopI {P : Program} {nt : Nat} {c : Code} {Q : AE → St → Prop} {s : St} {ι : Type} (hm : P.follows .mixedOrders = true) (hc : codeIn nt c = true) (Inv : ι → Prop) (S : ι → St) (m : ι → Nat) (i0 : ι) (hi : Inv i0) (h0 : Weak s (S i0))
    (round : ∀ i, Inv i → VCS P nt c (loopQ (fun s' => ∃ j, Inv j ∧ m j < m i ∧ Weak s' (S j)) Q) (S i)) : AWp P nt (.loop c) Q s := by
  refine AWp.loop (ι := {i // Inv i}) (fun i => S i.1) (fun i => m i.1) ⟨i0, hi⟩ h0 fun i => AWp.mono (VC.sound hm hc (round i.1 i.2)) fun e s' h => ?_
  cases e with
  | normal => obtain ⟨j, h1, h2, h3⟩ := h; exact ⟨⟨j, h1⟩, h2, h3⟩
  | _ => exact h

theorem ordB_intro {ops : Array Oper} {E : List Eff} (h : ordered ops (skOf E) = true) : ordB ops E := h
theorem ordB_intro2 {ops : Array Oper} {E : List Eff} {sk : List (List Nat × List Nat)} (h : skOf E = sk) (k : ordered ops sk = true) : ordB ops E := by rw [ordB, h]; exact k
attribute [push_cast] loopQ renD_pure renL_pure renLL_pure ltD_pure ltL_pure ltLL_pure
end Go.Ab
