/- ConsoleWords: the law answers true, whatever its input; the variables that its row lays are read as laid. -/
import Derived.Test.YtalejkbicihgnaaGreatDoorCWdRun
import Derived.Test.YtalejkbicihgnaaGreatDoorEvH
import Derived.Test.YtalejkbicihgnaaGreatDoorCWdFacts
import Derived.Test.YtalejkbicihgnaaGreatDoorCards
set_option maxHeartbeats 4000000
set_option maxRecDepth 20000
set_option linter.unusedVariables false
set_option linter.unusedSimpArgs false
namespace Go.Proofs.YtalejkbicihgnaaGreatDoor.consoleWords
open Go.ChangeShapes Go.WideShapes Go.ChangeAt Go.RowKit Go.Ex
theorem own : ownKnob Tryz.prog.godebug = none := by kernel_rfl
set_option maxRecDepth 100000 in
theorem rows : ∀ t ∈ Tryz.f3.params.toList, t < Tryz.prog.types.size := by
  rw [Tryz.params3]
  intro t ht
  have hsz : (Nat.ble (3 + 1) Tryz.prog.types.size) = true := by kernel_rfl
  have := Nat.le_of_ble_eq_true hsz
  simp at ht
  subst ht
  exact Nat.lt_of_lt_of_le (by decide) this
theorem kids : Kids Tryz.prog (· < Tryz.prog.types.size) := kids_rows j1 j2
theorem full : ∀ t e, t < Tryz.prog.types.size → Tryz.prog.underlying t = some (.slice e) → 0 < Tryz.prog.cellsOf e := slices_full_of Tryz.prog (by kernel_rfl)
theorem result : Tryz.f3.resultTypes = #[4] := by kernel_rfl

theorem gok {W : World} (hL : laidMetH Tryz.prog Rows.consoleWordsRow.laid W) : GOk gls W fun _ => False := by
  have hL : laidMet Tryz.prog Rows.consoleWordsRow.laid W := hL
  exact gok_set (gok_set (gok_nil) (held_strs (t := 328) (e := 9) (n := 8) (zs := [[], [112, 117, 116], [100, 101, 108], [105, 110, 99], [99, 97, 115], [97, 112, 112, 101, 110, 100], [109, 111, 118, 101], [115, 101, 113]]) (name := "commonplace/mutator.names") hL (by simp [Rows.consoleWordsRow, Rows.laid_commonplace_mutator_names]) (by kernel_rfl) (by kernel_rfl) (by kernel_rfl) (by kernel_rfl) (by kernel_rfl) (by kernel_rfl))) (held_strs (t := 651) (e := 9) (n := 4) (zs := [[], [112, 117, 116], [100, 101, 108], [99, 108, 101, 97, 114]]) (name := "commonplace/patch.names") hL (by simp [Rows.consoleWordsRow, Rows.laid_commonplace_patch_names]) (by kernel_rfl) (by kernel_rfl) (by kernel_rfl) (by kernel_rfl) (by kernel_rfl) (by kernel_rfl))
set_option maxRecDepth 100000 in
theorem contract (H : Type) (enc : TypeId × Value → H) (W : World) (base : Nat) (args : Array Value) (ds gs : List (DataW H)) (before : List MemPlace) (hL : laidMetH Tryz.prog Rows.consoleWordsRow.laid W)
    (hval : ∀ (j : Nat) t v, Tryz.f3.params[j]? = some t → args[j]? = some v → Value.okWide Tryz.prog W .any base t v)
    (hW : DataW.Whole enc Tryz.prog Tryz.f3.params.toList Rows.consoleWordsSpec.vars false W args.toList ds gs before) :
    Calls Tryz.prog 3 args W fun e W' => ∃ v, e = .returned v ∧ Rows.consoleWordsSpec.post enc Tryz.prog Tryz.f3 false true false false W args v W' := by
  have hW' := hW
  obtain ⟨p, q, hA0, hV, rfl, hfz, hnd⟩ := hW
  have hA : DataW.TrodAll enc Tryz.prog W 0 (fun _ => true) true Tryz.f3.params.toList args.toList ds p := hA0
  rw [Tryz.params3] at hA hval
  obtain ⟨v0, vs0, d0, ds0, p0, q0, hargs, rfl, rfl, h0, r0⟩ := trodAll_cons hA
  obtain ⟨rfl, rfl, rfl⟩ := trodAll_nil r0
  obtain rfl : args = #[v0] := by cases args; simp_all
  obtain ⟨rfl, rfl⟩ := trodVars_none hV
  obtain ⟨n0, rfl⟩ := okWide_int Tryz.underlying3 (hval 0 3 v0 rfl rfl)
  refine (law_calls n0 W (gok hL)).mono fun e W' ⟨he, hb⟩ => ?_
  subst he
  exact ⟨_, rfl, post_true kids full rows rfl result Tryz.underlying4 rfl hW' hb⟩

/-- A world for the witness. -/
def zeros : Array Value := #[.int .i64 0]
def tys (n : String) : Option TypeId := if n == "*errors.errorString" then some 632 else none
noncomputable def lw (os : Os) : World := laidWorldE Tryz.prog tys Rows.consoleWordsRow.laid os
theorem laid_met (os : Os) : laidMet Tryz.prog Rows.consoleWordsRow.laid ((lw os).forCall (fun _ _ => 0) ⟨#[], zeros, []⟩).memory :=
  laidMet_of_run3 8 (by kernel_rfl) (by kernel_rfl) (by kernel_rfl)
theorem reads (os : Os) {H : Type} (enc : TypeId × Value → H) : ∃ x, DataW.whole enc Tryz.prog ((lw os).forCall (fun _ _ => 0) ⟨#[], zeros, []⟩).memory Tryz.f3.params.toList Rows.consoleWordsSpec.vars false zeros.toList 8 = some x :=
  Option.isSome_iff_exists.1 (by kernel_rfl)

set_option maxRecDepth 100000 in
theorem lifted (os : Os) (started : os.Started) (H : Type) (enc : TypeId × Value → H) (F : Stop.Interp) :
    ReturnsInHanded {} Tryz.checked os 3 .any ((OpenSpec.ofChange Rows.consoleWordsSpec).preRow enc Tryz.prog Tryz.f3 Rows.consoleWordsRow.domain false Rows.consoleWordsRow.laid) (((OpenSpec.ofChange Rows.consoleWordsSpec).at F).post enc Tryz.prog Tryz.f3 false true false false) := by
  obtain ⟨x, hx⟩ := reads os enc
  refine returnsInHanded_of_row (C := Tryz.checked) (s := OpenSpec.ofChange Rows.consoleWordsSpec) own started (by kernel_rfl) Tryz.func3
    (witness_row_at (enc := enc) (C := Tryz.checked) false (lw os) zeros rfl (by kernel_rfl) (by kernel_rfl) (by kernel_rfl)
      (OpenSpec.preRow_of_cond 8 hx (by kernel_rfl) (fun k hk => by cases hk) (by kernel_rfl) (laid_met os))) ?_
  intro W base args ds gs before hval hW _ _ _ hL _ _
  exact contract H enc W base args ds gs before hL hval hW

set_option maxRecDepth 1000000 in
theorem said : Rows.ConsoleWordsSaid :=
  OpenClaim.holds_of_cond 3 Tryz.f3 rfl rfl rfl rfl rfl rfl rfl ⟨rfl, rfl, rfl, rfl, rfl⟩ rfl rfl rfl rfl rfl (by kernel_rfl) Tryz.func3 closed
    (of_decide_eq_true (by kernel_rfl)) (by unfold Func.isWrapper; first | (rw [if_pos (by decide +kernel)]; kernel_rfl) | (rw [if_neg (by decide +kernel)]; exact ⟨rfl, rfl⟩))
    (fun os started H enc _ F => by rw [OpenClaim.pre_eq_preRow]; exact lifted os started H enc F)

theorem plain (f : FuncId) (fn : Func) (hf : Tryz.pinned.checked.prog.funcNamed "commonplace/commonplacelaw32.ConsoleWords" = some f) (hfn : Tryz.pinned.checked.prog.funcs[f]? = some fn) :
    true = Tryz.pinned.checked.prog.looks [] ∧ ∀ (j : Nat) t, fn.params[j]? = some t → Tryz.pinned.checked.prog.wantsStandIn t = false := by
  obtain rfl : f = 3 := Option.some.inj ((show Tryz.prog.funcNamed "commonplace/commonplacelaw32.ConsoleWords" = some 3 by kernel_rfl).symm.trans hf) |>.symm
  obtain rfl : fn = Tryz.f3 := (Option.some.inj (Tryz.func3.symm.trans hfn)).symm
  refine ⟨by kernel_rfl, fun j t ht => ?_⟩
  rw [Tryz.params3] at ht
  have : t = 3 := by simpa using Array.mem_of_getElem? ht
  subst this
  exact (show Tryz.prog.wantsStandIn 3 = false by kernel_rfl)
end Go.Proofs.YtalejkbicihgnaaGreatDoor.consoleWords
