/- ConsoleWords: the row's closed facts, one by one. -/
import Derived.Test.YtalejkbicihgnaaGreatDoorCards
import Derived.JoinedOf
import Derived.JoinedCond
import Derived.Test.YtalejkbicihgnaaGreatDoorCWdF0
import Derived.Test.YtalejkbicihgnaaGreatDoorCWdF1
import Derived.Test.YtalejkbicihgnaaGreatDoorCWdF2
import Derived.Test.YtalejkbicihgnaaGreatDoorCWdF3
import Derived.Test.YtalejkbicihgnaaGreatDoorCWdF4
import Derived.Test.YtalejkbicihgnaaGreatDoorCWdF5
set_option maxHeartbeats 4000000
set_option maxRecDepth 20000
set_option linter.unusedVariables false
set_option linter.unusedSimpArgs false
namespace Go.Proofs.YtalejkbicihgnaaGreatDoor.consoleWords
theorem band {a b : Bool} (ha : a = true) (hb : b = true) : (a && b) = true := by rw [ha, hb]; rfl
theorem j0 : (Rows.consoleWordsRow.wf (OpenSpec.ofChange (OpenSpec.ofChange Rows.consoleWordsSpec).bare)) = true := by kernel_rfl
theorem j3 : (Tryz.f3.params.all (Tryz.pinned.checked.prog.readableRec ·)) = true := by kernel_rfl
theorem j4 : (namedTie Tryz.pinned.checked.prog Rows.consoleWordsRow.named (OpenSpec.ofChange Rows.consoleWordsSpec).bare.vars) = true := by kernel_rfl
theorem j5 : ((Rows.consoleWordsRow.stops == [])) = true := by kernel_rfl
theorem j6 : ((Tryz.pinned.checked.prog.stops == [])) = true := by kernel_rfl
theorem j7 : ((Rows.consoleWordsRow.knobs == [])) = true := by kernel_rfl
theorem j8 : ((Tryz.pinned.checked.prog.stopKnobs == [])) = true := by kernel_rfl
theorem j13 : ((Rows.consoleWordsRow.maps == (Tryz.f3.params.toList ++ (OpenSpec.ofChange Rows.consoleWordsSpec).bare.plain.varTypes Tryz.pinned.checked.prog).any (Tryz.pinned.checked.prog.mapsRec ·))) = true := by kernel_rfl
theorem j14 : ((Rows.consoleWordsRow.ifaces == (Tryz.f3.params.toList ++ (OpenSpec.ofChange Rows.consoleWordsSpec).bare.plain.varTypes Tryz.pinned.checked.prog).any (Tryz.pinned.checked.prog.ifacesRec ·))) = true := by kernel_rfl
theorem j15 : ((Rows.consoleWordsRow.mapsOut == Tryz.pinned.checked.prog.mapsAmong Tryz.f3.resultTypes.toList)) = true := by kernel_rfl
theorem j16 : ((Rows.consoleWordsRow.loops == (Tryz.f3.params.toList ++ (OpenSpec.ofChange Rows.consoleWordsSpec).bare.plain.varTypes Tryz.pinned.checked.prog).any (Tryz.pinned.checked.prog.loopsFrom ·))) = true := by kernel_rfl
theorem j17 : ((Rows.consoleWordsRow.wideKeys == (Tryz.f3.params.toList ++ (OpenSpec.ofChange Rows.consoleWordsSpec).bare.plain.varTypes Tryz.pinned.checked.prog ++ Tryz.f3.resultTypes.toList).any (Tryz.pinned.checked.prog.wideKeysFrom ·))) = true := by kernel_rfl
theorem j18 : ((OpenSpec.ofChange Rows.consoleWordsSpec).bare.vars.all (Tryz.pinned.checked.prog.varReadable ·)) = true := by kernel_rfl
theorem j19 : (Tryz.f3.resultTypes.all (fun t => Tryz.pinned.checked.prog.readableRec t && decide (t < Tryz.pinned.checked.prog.types.size))) = true := by kernel_rfl
theorem j20 : ((Rows.consoleWordsRow.ifacesOut == Tryz.f3.resultTypes.toList.any (Tryz.pinned.checked.prog.ifacesRec ·))) = true := by kernel_rfl
theorem j21 : ((Rows.consoleWordsRow.loopsOut == Tryz.f3.resultTypes.toList.any (Tryz.pinned.checked.prog.loopsFrom ·))) = true := by kernel_rfl
theorem j23 : (Rows.consoleWordsRow.shortTexts.isNone) = true := by kernel_rfl
theorem j26 : ((Rows.consoleWordsRow.lifted == Tryz.pinned.checked.prog.liftsFinal)) = true := by kernel_rfl
theorem j27 : ((Tryz.pinned.checked.prog.make == some Rows.consoleWordsRow.make)) = true := by kernel_rfl
theorem j28 : ((Rows.consoleWordsRow.kinds == (if Rows.consoleWordsRow.domain.isEmpty then [] else Tryz.f3.params.toList.map fun t => match Tryz.pinned.checked.prog.underlying t with | some (.int k) => some k | _ => Option.none))) = true := by kernel_rfl
theorem j29 : ((Rows.consoleWordsRow.pinned == Rows.consoleWordsRow.pinnedBy)) = true := by kernel_rfl
theorem j30 : ((Rows.consoleWordsRow.veiled == (Tryz.f3.params.toList ++ (OpenSpec.ofChange Rows.consoleWordsSpec).bare.plain.varTypes Tryz.pinned.checked.prog ++ Tryz.f3.resultTypes.toList).any (Tryz.pinned.checked.prog.veiledRec ·))) = true := by kernel_rfl
theorem j31 : (Rows.consoleWordsRow.veiledFits Tryz.pinned.checked.prog Tryz.f3.params.toList (Tryz.f3.params.toList ++ (OpenSpec.ofChange Rows.consoleWordsSpec).bare.plain.varTypes Tryz.pinned.checked.prog ++ Tryz.f3.resultTypes.toList)) = true := by kernel_rfl
set_option maxRecDepth 1000000 in
theorem closed : joinedFacts Tryz.pinned.checked.prog 3 Tryz.f3 (OpenSpec.ofChange Rows.consoleWordsSpec).bare Rows.consoleWordsRow = true := by
  unfold joinedFacts
  exact (band (band (band (band (band (band (band (band (band (band (band (band (band (band (band (band (band (band (band (band (band (band (band (band (band (band (band (band (band (band (band j0 j1) j2) j3) j4) j5) j6) j7) j8) j9) j10) j11) j12) j13) j14) j15) j16) j17) j18) j19) j20) j21) j22) j23) j24) j25) j26) j27) j28) j29) j30) j31)
end Go.Proofs.YtalejkbicihgnaaGreatDoor.consoleWords
