/- ConsoleWords: a closed fact of the card. -/
import Derived.Test.YtalejkbicihgnaaGreatDoorCards
set_option maxHeartbeats 4000000
set_option maxRecDepth 20000
set_option linter.unusedVariables false
set_option linter.unusedSimpArgs false
namespace Go.Ex
theorem goes_none {P : Program} (h : P.funcs.any Func.goes = false) (f : FuncId) : P.goes f = false := by
  have h1 : ∀ g : FuncId, (P.funcs[g]?).any Func.goes = false := by
    intro g
    cases hg : P.funcs[g]? with
    | none => rfl
    | some fn =>
      have hm := Array.mem_of_getElem? hg
      simp only [Array.any_eq_false', Bool.not_eq_true] at h
      simpa using h fn hm
  unfold Program.goes
  rw [h]
  simp [h1]
theorem goesBy_none {c : OpenClaim} {P : Program} (hs : c.start = .entering) (h : P.funcs.any Func.goes = false) : false = c.goesBy P := by
  unfold OpenClaim.goesBy Program.goesAt Program.goesFrom
  rw [hs]
  cases P.funcNamed c.func with
  | none => rfl
  | some f => simp [goes_none h f]
end Go.Ex
namespace Go.Proofs.YtalejkbicihgnaaGreatDoor.consoleWords
theorem cardG : false = Rows.consoleWordsRow.goesBy Tryz.pinned.checked.prog := Go.Ex.goesBy_none rfl (by kernel_rfl)
end Go.Proofs.YtalejkbicihgnaaGreatDoor.consoleWords
