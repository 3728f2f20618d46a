/- The exact evaluator, part 22: a law that answers true, and leaves all that was there. -/
import Derived.Test.YtblbhfnpneliiaaGreatDoorExCells
import Derived.WalkKit
import Derived.ProofKit
import Derived.OpenShut
import Derived.ReadAgain
import Derived.Below
import Derived.Deep.DeepHandedRow
import Derived.Deep.DeepLaidRun
namespace Go.Ex
open Go.RowKit
open Go.Proofs
open Go.ChangeShapes Go.WideShapes Go.ChangeAt

theorem calls_true {P : Program} {n : Nat} {rc : FuncId} {fuel : Nat} {f : FuncId} {xs : List X} {vs : List Value} (hm : P.follows .mixedOrders = true) (hf : FnOk (cxOf P n) rc) (he : Go.Ab.entersB P f = true) (hx : concL (fun _ => none) xs = some vs) (h : isTrue (call0 P n rc fuel f xs) = true) (w : World) :
    Calls P f vs.toArray w fun e w' => e = .returned (.bool true) ∧ Below w.heap.size w w' := by
  obtain ⟨q, h1, h2⟩ := isTrue_inv h
  have hok := (run_ok (cxOf_ok (n := n) hm) hf fuel).call _ _ _ _ _ h1 (fun b _ => rfl)
  obtain ⟨_, _, _, hc⟩ := hok
  obtain ⟨nx, k1, k2, k3⟩ := hc w (fun _ => False) (fun _ => True) (fun _ => none) w vs (.func (.func f) #[] #[]) (fun g l hg => by cases hg) (WR.start w) (fun _ _ _ => trivial) (by simp [conc, concL]) hx
  obtain ⟨g', us, rfl⟩ := k2 f #[] #[] rfl
  simp only [Deferred.ofValue, Sem.run_bind, Sem.run_pure, Result.andThen, invoke] at k1
  have hP : (cxOf P n).P = P := rfl
  rw [hP, Go.Ab.run_callFunc he] at k1
  simp only [Result.ok.injEq, Next.enter.injEq] at k1
  obtain ⟨⟨rfl, k1⟩, _⟩ := k1
  have k3' : CallsIn Fence.wide 0 P f us w _ := k3
  have e1 : us = vs.toArray := by rw [← k1]; simp
  rw [e1] at k3'
  refine Calls.mono (callsIn_wide.1 k3') ?_
  rintro e w' ⟨v, m', rfl, _, h5, h6⟩
  rw [h2] at h5
  have := conc_v h5
  subst this
  exact ⟨rfl, h6.below⟩

section
variable {H : Type} {enc : TypeId × Value → H} {P : Program} {W W' : World}
theorem trodAll_carry {base : Nat} {spare : Nat → Bool} {held : Bool} : ∀ {ts : List TypeId} {vs : List Value} {ds : List (DataW H)} {ps : List MemPlace}, DataW.TrodAll enc P W base spare held ts vs ds ps → (∀ x ∈ ps, W.sameAt W' x) → DataW.TrodAll enc P W' base spare held ts vs ds ps
  | [], [], [], _, h, _ => h
  | _ :: _, _ :: _, _ :: _, _, ⟨p, q, ⟨n, hn⟩, h2, e⟩, hs => ⟨p, q, ⟨n, DataW.trod_carry n _ _ _ hn fun x hx => hs x (by rw [e]; exact List.mem_append_left _ hx)⟩, trodAll_carry h2 fun x hx => hs x (by rw [e]; exact List.mem_append_right _ hx), e⟩

/-- True is answered; the arguments read as they did. -/
theorem post_true {f : Func} {s : ChangeSpec} {apart fresh handsOn again : Bool} {args : Array Value} {ds gs : List (DataW H)} {before : List MemPlace} {tb : TypeId} (K : Kids P (· < P.types.size)) (hz : ∀ t e, t < P.types.size → P.underlying t = some (.slice e) → 0 < P.cellsOf e)
    (hrows : ∀ t ∈ f.params.toList, t < P.types.size) (hv : s.vars = []) (hres : f.resultTypes = #[tb]) (htb : P.underlying tb = some .bool) (hfn : s.fn H (ds ++ gs) = { results := [.lit (.bool true)], args := ds })
    (hW : DataW.Whole enc P f.params.toList s.vars apart W args.toList ds gs before) (hb : Below W.heap.size W W') : s.post enc P f apart fresh handsOn again W args (.bool true) W' := by
  have hW' := hW
  obtain ⟨p, q, hA, hV, rfl, hfz, hnd⟩ := hW
  have hV' := hV
  rw [hv] at hV'
  obtain ⟨rfl, rfl⟩ := trodVars_none hV'
  have hold : ∀ x ∈ p, x.block < W.heap.size := fun x hx => hW'.lt x (by simpa using hx)
  have hA' := trodAll_carry (W' := W') hA fun x hx => hb.same (hold x hx)
  have hargs : ∀ sp : Nat → Bool, (∀ x ∈ p, sp x.block = true) → DataW.TrodAll enc P W' 0 sp true f.params.toList args.toList ds p := fun sp hsp => DataW.TrodAll.respare K hz hrows hA' hsp
  have hbool : ∀ (b : Nat) (sp : Nat → Bool) (hd : Bool), DataW.TrodAll enc P W' b sp hd f.resultTypes.toList ((Value.bool true).resultList f.resultTypes.size) [.lit (.bool true)] [] := by
    intro b sp hd
    rw [hres]
    exact trodAll_mk1 ⟨1, by simp [DataW.trod, Value.cells, htb]⟩
  have hvars : ∀ sp : Nat → Bool, DataW.TrodVars enc P W' sp s.vars [] [] := by
    intro sp
    rw [hv]
    rfl
  refine ⟨ds, [], p ++ [], [], p, [], hW', ?_, ?_, ?_, hb.frame _, fun _ => ?_⟩
  · rw [hfn]; exact hbool _ _ _
  · rw [hfn]; exact hargs _ fun x hx => by simpa using hold x hx
  · rw [hfn]; exact hvars _
  · refine ⟨ok_one hres rfl (okWide_bool_mk htb _), _, _, ([] ++ p) ++ [], ⟨[] ++ p, [], trodAll_append (hargs _ (fun _ _ => rfl)) (hbool _ _ _), hvars _, rfl, ?_, ?_⟩, ?_⟩
    · intro b off hp
      have hp' : MemPlace.cell b off ∈ p := by simpa using hp
      rw [hb.frozen (hold _ hp')]
      exact hfz b off (by simpa using hp')
    · intro ha
      have := hnd ha
      simpa using this
    · intro x hx _
      simpa using hx
end

/-! a world that holds what is laid -/
mutual
def flatD : DataW Unit → List Value
  | .lit l => [l.value]
  | .agg ps => flatL ps
  | _ => []
def flatL : List (DataW Unit) → List Value
  | [] => []
  | d :: l => flatD d ++ flatL l
end
def layAll (P : Program) (laid : List (String × DataW Unit)) (h : Array Obj) : Array Obj := laid.foldl (fun h x => match P.globalNamed x.1 with
  | some g => h.modify g fun
    | .cells _ t frozen => .cells (flatD x.2).toArray t frozen
    | o => o
  | none => h) h
noncomputable def laidWorld (P : Program) (laid : List (String × DataW Unit)) (os : Os) : World :=
  { World.holding P os ⟨#[], #[], []⟩ with heap := layAll P laid (World.holding P os ⟨#[], #[], []⟩).heap }
end Go.Ex
