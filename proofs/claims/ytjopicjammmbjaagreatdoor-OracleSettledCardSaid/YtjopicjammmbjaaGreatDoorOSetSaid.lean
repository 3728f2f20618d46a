/- OracleSettled: the law answers true, whatever its input. -/
import Derived.Test.YtjopicjammmbjaaGreatDoorOSetKn
import Derived.Test.YtjopicjammmbjaaGreatDoorFnSettled
import Derived.Test.YtjopicjammmbjaaGreatDoorSpArgs
import Derived.Test.YtjopicjammmbjaaGreatDoorEvH
import Derived.Test.YtjopicjammmbjaaGreatDoorOSetFacts
import Derived.Test.YtjopicjammmbjaaGreatDoorCards
import Derived.Test.YtjopicjammmbjaaGreatDoorTie
set_option maxHeartbeats 4000000
set_option maxRecDepth 20000
set_option linter.unusedVariables false
set_option linter.unusedSimpArgs false
namespace Go.Proofs.YtjopicjammmbjaaGreatDoor.oracleSettled
open Go.ChangeShapes Go.WideShapes Go.ChangeAt Go.RowKit Go.Ex
theorem own : ownKnob Tryz.prog.godebug = none := by kernel_rfl
set_option maxRecDepth 100000 in
theorem rows : ∀ t ∈ Tryz.f5.params.toList, t < Tryz.prog.types.size := by
  rw [Tryz.params5]
  intro t ht
  have hsz : (Nat.ble (44 + 1) Tryz.prog.types.size) = true := by kernel_rfl
  have := Nat.le_of_ble_eq_true hsz
  simp at ht
  rcases ht with rfl | rfl
  · exact Nat.lt_of_lt_of_le (by decide) this
  · exact Nat.lt_of_lt_of_le (by decide) this
theorem kids : Kids Tryz.prog (· < Tryz.prog.types.size) := kids_rows j1 j2
theorem full : ∀ t e, t < Tryz.prog.types.size → Tryz.prog.underlying t = some (.slice e) → 0 < Tryz.prog.cellsOf e := slices_full_of Tryz.prog (by kernel_rfl)
theorem result : Tryz.f5.resultTypes = #[4] := by kernel_rfl

/-- Called with what represents it, a function that answers true does so, and leaves all that was there. -/
theorem calls_of_pcall {P : Program} {f : FuncId} {ds : List Go.Ab.D} {vs : List Value} {W : World} (h : Go.Ab.PCall P f ds (.val (.bool true))) (hr : Go.Ab.RR W ds vs) : Calls P f vs.toArray W fun e W' => e = .returned (.bool true) ∧ Below W.heap.size W W' := by
  unfold Go.Ab.PCall at h
  refine (h.2 W _ vs (fun k hk => hk) hr.1 hr.2).mono fun e W' ⟨v, I', he, hv, _, _, _, hb⟩ => ?_
  subst he
  exact ⟨by rw [hv.val_inv], hb⟩
theorem agg_of {W : World} {r : Reach} {base : Nat} {t : TypeId} {fs : Array Field} {v : Value} (hu : Tryz.prog.underlying t = some (.struct fs)) (h : Value.okWide Tryz.prog W r base t v) : ∃ cs, v = .agg cs := by
  simp only [Value.okWide, hu] at h
  obtain ⟨cs, h, _⟩ := h
  exact ⟨cs, h⟩
theorem slice_of {W : World} {r : Reach} {base : Nat} {t e : TypeId} {v : Value} (hu : Tryz.prog.underlying t = some (.slice e)) (h : Value.okWide Tryz.prog W r base t v) : v.cells.toList = [v] := by
  cases v <;> first | rfl | skip
  simp [Value.okWide, hu, Cell.okWide, Cell.ok] at h
theorem rep_agg {W : World} {ds : List Go.Ab.D} {cs : Array Value} (h : Go.Ab.RR W ds cs.toList) : Go.Ab.Rep W (fun k => k < W.heap.size) (fun _ => none) (.agg ds) (.agg cs) := by
  have := Go.Ab.Rep.agg (w := W) (I := fun k => k < W.heap.size) (mu := fun _ => none) ds cs.toList h.1 h.2
  simpa using this
theorem rep_one {W : World} {d : Go.Ab.D} {v : Value} (h : Go.Ab.RR W [d] [v]) : Go.Ab.Rep W (fun k => k < W.heap.size) (fun _ => none) d v := h.2 0 (by simp)
set_option maxRecDepth 100000 in
theorem contract (H : Type) (enc : TypeId × Value → H) (W : World) (base : Nat) (args : Array Value) (ds gs : List (DataW H)) (before : List MemPlace)
    (hval : ∀ (j : Nat) t v, Tryz.f5.params[j]? = some t → args[j]? = some v → Value.okWide Tryz.prog W .any base t v)
    (hW : DataW.Whole enc Tryz.prog Tryz.f5.params.toList Rows.oracleSettledSpec.vars false W args.toList ds gs before) :
    Calls Tryz.prog 5 args W fun e W' => ∃ v, e = .returned v ∧ Rows.oracleSettledSpec.post enc Tryz.prog Tryz.f5 false true false false W args v W' := by
  have hW' := hW
  obtain ⟨p, q, hA0, hV, rfl, hfz, hnd⟩ := hW
  have hA : DataW.TrodAll enc Tryz.prog W 0 (fun _ => true) true Tryz.f5.params.toList args.toList ds p := hA0
  rw [Tryz.params5] at hA hval
  obtain ⟨v0, vs0, d0, ds0, p0, q0, hargs, rfl, rfl, h0, r0⟩ := trodAll_cons hA
  obtain ⟨v1, vs1, d1, ds1, p1, q1, rfl, rfl, rfl, h1, r1⟩ := trodAll_cons r0
  obtain ⟨rfl, rfl, rfl⟩ := trodAll_nil r1
  obtain rfl : args = #[v0, v1] := by cases args; simp_all
  obtain ⟨rfl, rfl⟩ := trodVars_none hV
  obtain ⟨cs, rfl⟩ := agg_of Tryz.underlying43 (hval 0 43 v0 rfl rfl)
  have e1 := slice_of Tryz.underlying44 (hval 1 44 v1 rfl rfl)
  obtain ⟨n0, t0⟩ := h0
  obtain ⟨n1, t1⟩ := h1
  obtain ⟨s, rs⟩ := Go.Ab.rd_S n0 _ _ t0
  obtain ⟨l, rl⟩ := Go.Ab.rd_Ws n1 _ _ t1
  rw [e1] at rl
  have hr : Go.Ab.RR W [.agg (Go.Ab.encS s), .slice (l.map Go.Ab.encW) false] [.agg cs, v1] :=
    Go.Ab.RepL.append (ds := [_]) (vs := [_]) (Go.Ab.RR.one (rep_agg rs)) rl
  refine (calls_of_pcall (Go.Ab.c_OracleSettled known_pcall s l) hr).mono fun e W' ⟨he, hb⟩ => ?_
  subst he
  exact ⟨_, rfl, post_true kids full rows rfl result Tryz.underlying4 rfl hW' hb⟩

/-- A world for the witness. -/
def zeros : Array Value := #[.agg #[.int .u64 0, .slice none 0 0, .slice none 0 0], .slice none 0 0]
def tys (_ : String) : Option TypeId := none
noncomputable def lw (os : Os) : World := laidWorldE Tryz.prog tys Rows.oracleSettledRow.laid os
theorem laid_met (os : Os) : laidMet Tryz.prog Rows.oracleSettledRow.laid ((lw os).forCall (fun _ _ => 0) ⟨#[], zeros, []⟩).memory :=
  laidMet_of_run3 8 (by kernel_rfl) (by kernel_rfl) (by kernel_rfl)
theorem reads (os : Os) {H : Type} (enc : TypeId × Value → H) : ∃ x, DataW.whole enc Tryz.prog ((lw os).forCall (fun _ _ => 0) ⟨#[], zeros, []⟩).memory Tryz.f5.params.toList Rows.oracleSettledSpec.vars false zeros.toList 8 = some x :=
  Option.isSome_iff_exists.1 (by kernel_rfl)

set_option maxRecDepth 100000 in
theorem lifted (os : Os) (started : os.Started) (H : Type) (enc : TypeId × Value → H) (F : Stop.Interp) :
    ReturnsInHanded {} Tryz.checked os 5 .any ((OpenSpec.ofChange Rows.oracleSettledSpec).preRow enc Tryz.prog Tryz.f5 Rows.oracleSettledRow.domain false Rows.oracleSettledRow.laid) (((OpenSpec.ofChange Rows.oracleSettledSpec).at F).post enc Tryz.prog Tryz.f5 false true false false) := by
  obtain ⟨x, hx⟩ := reads os enc
  refine returnsInHanded_of_row (C := Tryz.checked) (s := OpenSpec.ofChange Rows.oracleSettledSpec) own started (by kernel_rfl) Tryz.func5
    (witness_row_at (enc := enc) (C := Tryz.checked) false (lw os) zeros rfl (by kernel_rfl) (by kernel_rfl) (by kernel_rfl)
      (OpenSpec.preRow_of_cond 8 hx (by kernel_rfl) (fun k hk => by cases hk) (by kernel_rfl) (laid_met os))) ?_
  intro W base args ds gs before hval hW _ _ _ hL _ _
  exact contract H enc W base args ds gs before hval hW

set_option maxRecDepth 1000000 in
theorem said : Rows.OracleSettledSaid :=
  OpenClaim.holds_of_cond 5 Tryz.f5 rfl rfl rfl rfl rfl rfl rfl ⟨rfl, rfl, rfl, rfl, rfl⟩ rfl rfl rfl rfl rfl (by kernel_rfl) Tryz.func5 closed
    (of_decide_eq_true (by kernel_rfl)) (by unfold Func.isWrapper; first | (rw [if_pos (by decide +kernel)]; kernel_rfl) | (rw [if_neg (by decide +kernel)]; exact ⟨rfl, rfl⟩))
    (fun os started H enc _ F => by rw [OpenClaim.pre_eq_preRow]; exact lifted os started H enc F)

theorem plain (f : FuncId) (fn : Func) (hf : Tryz.pinned.checked.prog.funcNamed "commonplace/commonplacelaw30.OracleSettled" = some f) (hfn : Tryz.pinned.checked.prog.funcs[f]? = some fn) :
    true = Tryz.pinned.checked.prog.looks [] ∧ ∀ (j : Nat) t, fn.params[j]? = some t → Tryz.pinned.checked.prog.wantsStandIn t = false := by
  obtain rfl : f = 5 := Option.some.inj ((show Tryz.prog.funcNamed "commonplace/commonplacelaw30.OracleSettled" = some 5 by kernel_rfl).symm.trans hf) |>.symm
  obtain rfl : fn = Tryz.f5 := (Option.some.inj (Tryz.func5.symm.trans hfn)).symm
  refine ⟨by kernel_rfl, fun j t ht => ?_⟩
  rw [Tryz.params5] at ht
  have : t = 43 ∨ t = 44 := by simpa using Array.mem_of_getElem? ht
  rcases this with rfl | rfl
  · exact (show Tryz.prog.wantsStandIn 43 = false by kernel_rfl)
  · exact (show Tryz.prog.wantsStandIn 44 = false by kernel_rfl)
end Go.Proofs.YtjopicjammmbjaaGreatDoor.oracleSettled
