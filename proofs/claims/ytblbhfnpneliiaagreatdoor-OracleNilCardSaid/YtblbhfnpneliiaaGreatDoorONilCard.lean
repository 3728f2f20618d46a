/- OracleNil: whatever the act and what it came to, the law answers true, and its input reads as it did. -/
import Derived.Test.YtblbhfnpneliiaaGreatDoorONilRun
import Derived.Test.YtblbhfnpneliiaaGreatDoorExLaw
import Derived.Test.YtblbhfnpneliiaaGreatDoorONilFacts
import Derived.Test.YtblbhfnpneliiaaGreatDoorCards
import Derived.Test.YtblbhfnpneliiaaGreatDoorTie
namespace Go.Proofs.YtblbhfnpneliiaaGreatDoor.oracleNil
open Go.ChangeShapes Go.WideShapes Go.ChangeAt Go.RowKit Go.Ex
theorem own : ownKnob Tryz.prog.godebug = none := by kernel_rfl
set_option maxRecDepth 100000 in
theorem rows : ∀ t ∈ Tryz.f8.params.toList, t < Tryz.prog.types.size := by
  rw [Tryz.params8]
  intro t ht
  have hsz : (Nat.ble 78 Tryz.prog.types.size) = true := by kernel_rfl
  have := Nat.le_of_ble_eq_true hsz
  simp at ht
  rcases ht with rfl | rfl
  · exact Nat.lt_of_lt_of_le (by decide) this
  · exact Nat.lt_of_lt_of_le (by decide) this
theorem kids : Kids Tryz.prog (· < Tryz.prog.types.size) := kids_rows j1 j2
theorem full : ∀ t e, t < Tryz.prog.types.size → Tryz.prog.underlying t = some (.slice e) → 0 < Tryz.prog.cellsOf e := slices_full_of Tryz.prog (by kernel_rfl)
theorem result : Tryz.f8.resultTypes = #[4] := by kernel_rfl

set_option maxRecDepth 100000 in
theorem contract (H : Type) (enc : TypeId × Value → H) (W : World) (base : Nat) (args : Array Value) (ds gs : List (DataW H)) (before : List MemPlace)
    (hval : ∀ (j : Nat) t v, Tryz.f8.params[j]? = some t → args[j]? = some v → Value.okWide Tryz.prog W .any base t v)
    (hW : DataW.Whole enc Tryz.prog Tryz.f8.params.toList Rows.oracleNilSpec.vars false W args.toList ds gs before) :
    Calls Tryz.prog 8 args W fun e W' => ∃ v, e = .returned v ∧ Rows.oracleNilSpec.post enc Tryz.prog Tryz.f8 false true false false W args v W' := by
  have hW' := hW
  obtain ⟨p, q, hA0, hV, rfl, hfz, hnd⟩ := hW
  have hA : DataW.TrodAll enc Tryz.prog W 0 (fun _ => true) true Tryz.f8.params.toList args.toList ds p := hA0
  rw [Tryz.params8] at hA hval
  obtain ⟨v0, vs0, d0, ds0, p0, q0, hargs, rfl, rfl, h0, r0⟩ := trodAll_cons hA
  obtain ⟨v1, vs1, d1, ds1, p1, q1, rfl, rfl, rfl, h1, r1⟩ := trodAll_cons r0
  obtain ⟨rfl, rfl, rfl⟩ := trodAll_nil r1
  obtain rfl : args = #[v0, v1] := by cases args; simp_all
  obtain ⟨rfl, rfl⟩ := trodVars_none hV
  obtain ⟨c, rfl⟩ := act (hval 0 72 v0 rfl rfl)
  obtain ⟨d, rfl⟩ := told (hval 1 77 v1 rfl rfl)
  refine (walk c d W).mono fun e W' ⟨he, hb⟩ => ?_
  subst he
  exact ⟨_, rfl, post_true kids full rows rfl result Tryz.underlying4 rfl hW' hb⟩

/-- A world for the witness. -/
def zeros : Array Value := #[.agg (mkV (fun _ => undef) kAct 0).toArray, .agg (mkV (fun _ => undef) kTold 0).toArray]
noncomputable def lw (os : Os) : World := laidWorld Tryz.prog Rows.oracleNilRow.laid os
theorem laid_met (os : Os) : laidMet Tryz.prog Rows.oracleNilRow.laid ((lw os).forCall (fun _ _ => 0) ⟨#[], zeros, []⟩).memory :=
  laidMet_of_run3 8 (by kernel_rfl) (by kernel_rfl) (by kernel_rfl)
theorem reads (os : Os) {H : Type} (enc : TypeId × Value → H) : ∃ x, DataW.whole enc Tryz.prog ((lw os).forCall (fun _ _ => 0) ⟨#[], zeros, []⟩).memory Tryz.f8.params.toList Rows.oracleNilSpec.vars false zeros.toList 8 = some x :=
  Option.isSome_iff_exists.1 (by kernel_rfl)

set_option maxRecDepth 100000 in
theorem lifted (os : Os) (started : os.Started) (H : Type) (enc : TypeId × Value → H) (F : Stop.Interp) :
    ReturnsInHanded {} Tryz.checked os 8 .any ((OpenSpec.ofChange Rows.oracleNilSpec).preRow enc Tryz.prog Tryz.f8 Rows.oracleNilRow.domain false Rows.oracleNilRow.laid) (((OpenSpec.ofChange Rows.oracleNilSpec).at F).post enc Tryz.prog Tryz.f8 false true false false) := by
  obtain ⟨x, hx⟩ := reads os enc
  refine returnsInHanded_of_row (C := Tryz.checked) (s := OpenSpec.ofChange Rows.oracleNilSpec) own started (by kernel_rfl) Tryz.func8
    (witness_row_at (enc := enc) (C := Tryz.checked) false (lw os) zeros rfl (by kernel_rfl) (by kernel_rfl) (by kernel_rfl)
      (OpenSpec.preRow_of_cond 8 hx (by kernel_rfl) (fun k hk => by cases hk) (by kernel_rfl) (laid_met os))) ?_
  intro W base args ds gs before hval hW _ _ _ hL _ _
  exact contract H enc W base args ds gs before hval hW

theorem said : Rows.OracleNilSaid :=
  OpenClaim.holds_of_cond 8 Tryz.f8 rfl rfl rfl rfl rfl rfl rfl ⟨rfl, rfl, rfl, rfl, rfl⟩ rfl rfl rfl rfl rfl (by kernel_rfl) Tryz.func8 closed
    (of_decide_eq_true (by kernel_rfl)) (by unfold Func.isWrapper; first | (rw [if_pos (by decide +kernel)]; kernel_rfl) | (rw [if_neg (by decide +kernel)]; exact ⟨rfl, rfl⟩))
    (fun os started H enc _ F => by rw [OpenClaim.pre_eq_preRow]; exact lifted os started H enc F)

theorem plain (f : FuncId) (fn : Func) (hf : Tryz.pinned.checked.prog.funcNamed "commonplace/commonplacelaw30.OracleNil" = some f) (hfn : Tryz.pinned.checked.prog.funcs[f]? = some fn) :
    true = Tryz.pinned.checked.prog.looks [] ∧ ∀ (j : Nat) t, fn.params[j]? = some t → Tryz.pinned.checked.prog.wantsStandIn t = false := by
  obtain rfl : f = 8 := Option.some.inj ((show Tryz.prog.funcNamed "commonplace/commonplacelaw30.OracleNil" = some 8 by kernel_rfl).symm.trans hf) |>.symm
  obtain rfl : fn = Tryz.f8 := (Option.some.inj (Tryz.func8.symm.trans hfn)).symm
  refine ⟨by kernel_rfl, fun j t ht => ?_⟩
  rw [Tryz.params8] at ht
  have : t = 72 ∨ t = 77 := by simpa using Array.mem_of_getElem? ht
  rcases this with rfl | rfl
  · exact (show Tryz.prog.wantsStandIn 72 = false by kernel_rfl)
  · exact (show Tryz.prog.wantsStandIn 77 = false by kernel_rfl)

/-- THE CARD. -/
theorem card : Rows.OracleNilCardSaid :=
  Claim7.holds_tied_plain_at .later [] _ _ _ _ said (fun _ h => by cases h) (by kernel_rfl) (fun _ h => by cases h) oracleNil_row_tie rfl ⟨rfl, rfl⟩ (by kernel_rfl) rfl plain (by kernel_rfl)
#print axioms card
end Go.Proofs.YtblbhfnpneliiaaGreatDoor.oracleNil
