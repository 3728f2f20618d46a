/- The exact evaluator, part 19: a program's tables; calls from nothing. -/
import Derived.Test.YtblbhfnpneliiaaGreatDoorExCallB
import Derived.Test.YtblbhfnpneliiaaGreatDoorAbFun
import Derived.Test.YtblbhfnpneliiaaGreatDoorProg
namespace Go.Ex
open Go.RowKit
open Go.Proofs

theorem get_ofL {α : Type} : ∀ (l : List (Option α)) (k : Nat) (t : Tr α) (j : Nat), (ofL k l t).get j = if k ≤ j then (match l[j - k]? with | some x => x | none => t.get j) else t.get j
  | [], k, t, j => by simp [ofL]
  | x :: l, k, t, j => by
    rw [ofL, get_ofL l (Nat.succ k), get_set]
    by_cases h1 : k = j
    · subst h1
      rw [if_neg (Nat.not_succ_le_self k), if_pos rfl, if_pos (Nat.le_refl k), Nat.sub_self]
      rfl
    · by_cases h2 : k ≤ j
      · rw [if_pos (show Nat.succ k ≤ j by omega), if_pos h2, if_neg h1]
        have : j - k = (j - Nat.succ k) + 1 := by omega
        rw [this, List.getElem?_cons_succ]
      · rw [if_neg (by omega), if_neg h2, if_neg h1]
/-- The tables. -/
def cxOf (P : Program) (n : Nat) : Cx := ⟨P, ofL 0 ((List.range n).map (Go.Ab.tiOf P)) .nil, .nil, ofL 0 (P.funcs.toList.map some) .nil⟩
theorem cxOf_ok {P : Program} {n : Nat} (h : P.follows .mixedOrders = true) : CxOk (cxOf P n) := by
  refine ⟨fun t i ht => ?_, h⟩
  simp only [cxOf] at ht
  rw [get_ofL, if_pos (Nat.zero_le _), Nat.sub_zero, List.getElem?_map] at ht
  cases hr : (List.range n)[t]? with
  | none => rw [hr] at ht; cases ht
  | some k =>
    rw [hr] at ht
    have : k = t := by
      obtain ⟨h1, h2⟩ := List.getElem?_eq_some_iff.1 hr
      simpa using h2.symm
    subst this
    exact ht
theorem cxOf_fn {P : Program} {n : Nat} {f : FuncId} {g : Func} (h : (cxOf P n).fn.get f = some g) : P.funcs[f]? = some g := by
  simp only [cxOf] at h
  rw [get_ofL, if_pos (Nat.zero_le _), Nat.sub_zero, List.getElem?_map] at h
  cases hr : P.funcs.toList[f]? with
  | none => rw [hr] at h; cases h
  | some k =>
    rw [hr] at h
    simp only [Option.map_some, Option.some.injEq] at h
    subst h
    simpa using hr

def outX (o : O Cr) : Option X := match o with
  | .ok q => some q.x
  | .no _ => none
def isTrue (o : O Cr) : Bool := match o with
  | .ok q => match q.x with
    | .v (.bool true) => true
    | _ => false
  | .no _ => false
/-- A call of a function without captured values, from nothing. -/
def call0 (P : Program) (n : Nat) (rc : FuncId) (fuel : Nat) (f : FuncId) (args : List X) : O Cr := (run (cxOf P n) rc fuel).call (.fn f [] []) args .nil 0

theorem WR.start (w : World) : WR w (fun _ => False) (fun _ => True) (fun _ => none) (Tr.nil : Tr B).get w :=
  ⟨fun b x h => (by cases h), fun b x k c h => (by cases h), fun b b' x x' k c c' h => (by cases h), fun _ _ => rfl, fun _ _ _ => rfl, Nat.le_refl _, rfl, rfl, rfl⟩

theorem calls_of_call0 {P : Program} {n : Nat} {rc : FuncId} {fuel : Nat} {f : FuncId} {vs : List Value} {q : Cr} (hm : P.follows .mixedOrders = true) (hf : FnOk (cxOf P n) rc) (h : call0 P n rc fuel f (mapV vs) = .ok q) (w : World) (he : Go.Ab.entersB P f = true) :
    Calls P f vs.toArray w fun e w' => ∃ v m, e = .returned v ∧ conc m q.x = some v ∧ WR w (fun _ => False) (fun _ => False) m q.hp.get w' := by
  have hok := (run_ok (cxOf_ok (n := n) hm) hf fuel).call _ _ _ _ _ h (fun b _ => rfl)
  obtain ⟨_, _, _, hc⟩ := hok
  obtain ⟨nx, h1, h2, h3⟩ := hc w (fun _ => False) (fun _ => True) (fun _ => none) w vs (.func (.func f) #[] #[]) (fun g l hg => by cases hg) (WR.start w) (fun _ _ _ => trivial) (by simp [conc, concL]) (concL_mapV vs)
  obtain ⟨g', us, rfl⟩ := h2 f #[] #[] rfl
  simp only [Deferred.ofValue, Sem.run_bind, Sem.run_pure, Result.andThen, invoke] at h1
  have hP : (cxOf P n).P = P := rfl
  rw [hP, Go.Ab.run_callFunc he] at h1
  simp only [Result.ok.injEq, Next.enter.injEq] at h1
  obtain ⟨⟨rfl, h1⟩, _⟩ := h1
  have h3' : CallsIn Fence.wide 0 P f us w _ := h3
  have e1 : us = vs.toArray := by rw [← h1]; simp
  rw [e1] at h3'
  refine Calls.mono (callsIn_wide.1 h3') ?_
  rintro e w' ⟨v, m', rfl, _, h5, h6⟩
  exact ⟨v, m', rfl, h5, h6.less fun _ h => h.elim⟩

theorem isTrue_inv {o : O Cr} (h : isTrue o = true) : ∃ q, o = .ok q ∧ q.x = .v (.bool true) := by
  unfold isTrue at h
  split at h
  · rename_i q
    split at h
    · rename_i hx
      exact ⟨q, rfl, hx⟩
    · cases h
  · cases h
theorem WR.below {w w' : World} {fr : Nat → Prop} {m : Mu} {h : Nat → Option B} (r : WR w (fun _ => False) fr m h w') : Below w.heap.size w w' := ⟨r.os, r.tape, r.output, r.grown, fun k hk => r.old k hk (fun e => e)⟩

/-- A closed function that answers true. -/
theorem pcall_true {P : Program} {n : Nat} {rc : FuncId} {fuel : Nat} {f : FuncId} (hm : P.follows .mixedOrders = true) (hf : FnOk (cxOf P n) rc) (he : Go.Ab.entersB P f = true) (h : isTrue (call0 P n rc fuel f []) = true) : Go.Ab.PCall P f [] (.val (.bool true)) := by
  obtain ⟨q, h1, h2⟩ := isTrue_inv h
  unfold Go.Ab.PCall
  refine ⟨he, fun w I vs hI hl _ => ?_⟩
  have : vs = [] := by cases vs with | nil => rfl | cons => simp at hl
  subst this
  refine Calls.mono (calls_of_call0 (vs := []) hm hf h1 w he) ?_
  rintro e w' ⟨v, m, rfl, h3, h4⟩
  rw [h2] at h3
  have := conc_v h3
  subst this
  exact ⟨_, I, rfl, .val _ trivial, fun _ h => h, fun _ h => .inl h, fun k hk => Nat.lt_of_lt_of_le (hI k hk) h4.grown, h4.below⟩
end Go.Ex
