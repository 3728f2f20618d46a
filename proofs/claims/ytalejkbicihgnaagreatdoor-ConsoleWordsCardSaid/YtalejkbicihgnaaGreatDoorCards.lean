/-
  DERIVED. GIVEN WITH THE SEED: THE CARDS: each row of YtalejkbicihgnaaGreatDoorRows.lean that lists a variable, with what it lists TIED to the program's text (the seventh form; the later family's looks); each row that meets fmt, with fmt's text TOLD by the authors' own Lean function (tested against real Go, not proved from fmt's source: count such statements apart). THE CARD IS WHAT COUNTS. Prove the row's statement (the work); the ties are given (YtalejkbicihgnaaGreatDoorTie.lean); close each card by the builder's one call (the guide's Derived/Test/ToyasCard.lean, 'card_holds'). Laid BY PROGRAM, IN A SANDBOX (cutbox-door.mjs). By AI agents, Wed Nov 11 2026. No macro, syntax, notation, axiom, sorry.
-/
import Derived.Test.YtalejkbicihgnaaGreatDoorRows
import GoSem.ClaimSeven
namespace Go.Proofs.YtalejkbicihgnaaGreatDoor
namespace Rows

/-- THE TIED CARD OF 'commonplacelaw32.ConsoleWords'. -/
def consoleWordsCard : Claim7 := { stood := { row := consoleWordsRow, standIns := [], harness := (true, "f4308cc2b61ce4e49f9288c4bf049e0d95bf94288048b7ad11ecdfb331d05936"), looks := true }, kinds := [], alts := [], laidByText := true, laidKinds := [.sentinel, .sentinel, .data, .data, .data, .pinned, .data, .data, .data], laidTests := true, laidLooks := .later }
def ConsoleWordsCardSaid : Prop := Claim7.holds Tryz.pinned (.plain (OpenSpec.ofChange consoleWordsSpec)) consoleWordsCard

/-- THE TIED CARD OF 'commonplacelaw32.ConsoleNil'. -/
def consoleNilCard : Claim7 := { stood := { row := consoleNilRow, standIns := [], harness := (true, "f4308cc2b61ce4e49f9288c4bf049e0d95bf94288048b7ad11ecdfb331d05936"), looks := true }, kinds := [], alts := [], laidByText := true, laidKinds := [.sentinel, .sentinel, .data, .data, .data, .pinned, .data, .data, .data], laidTests := true, laidLooks := .later }
def ConsoleNilCardSaid : Prop := Claim7.holds Tryz.pinned (.plain (OpenSpec.ofChange consoleNilSpec)) consoleNilCard

/-- THE SECOND FORM's CARD OF 'commonplacelaw32.ConsoleWords'. -/
def consoleWordsUptoCard : Claim7 := { stood := { row := consoleWordsUptoRow, standIns := [], harness := (true, "f4308cc2b61ce4e49f9288c4bf049e0d95bf94288048b7ad11ecdfb331d05936"), looks := true }, kinds := [], alts := [], laidByText := true, laidKinds := [.sentinel, .sentinel, .data, .data, .data, .pinned, .data, .data, .data], laidTests := true, laidLooks := .later }
def ConsoleWordsUptoCardSaid : Prop := Claim7.holds Tryz.pinned (.plain (OpenSpec.upto consoleWordsSpec)) consoleWordsUptoCard

/-- THE SECOND FORM's CARD OF 'commonplacelaw32.ConsoleNil'. -/
def consoleNilUptoCard : Claim7 := { stood := { row := consoleNilUptoRow, standIns := [], harness := (true, "f4308cc2b61ce4e49f9288c4bf049e0d95bf94288048b7ad11ecdfb331d05936"), looks := true }, kinds := [], alts := [], laidByText := true, laidKinds := [.sentinel, .sentinel, .data, .data, .data, .pinned, .data, .data, .data], laidTests := true, laidLooks := .later }
def ConsoleNilUptoCardSaid : Prop := Claim7.holds Tryz.pinned (.plain (OpenSpec.upto consoleNilSpec)) consoleNilUptoCard
end Rows
end Go.Proofs.YtalejkbicihgnaaGreatDoor
