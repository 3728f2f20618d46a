/-
  DERIVED. GIVEN WITH THE SEED: THE CARDS: each row of YtbollbbggklnkaaGreatDoorRows.lean that lists a variable, with what it lists TIED to the program's text (the seventh form; the later family's looks); each row that meets fmt, with fmt's text TOLD by the authors' own Lean function (tested against real Go, not proved from fmt's source: count such statements apart). THE CARD IS WHAT COUNTS. Prove the row's statement (the work); the ties are given (YtbollbbggklnkaaGreatDoorTie.lean); close each card by the builder's one call (the guide's Derived/Test/ToyasCard.lean, 'card_holds'). Laid BY PROGRAM, IN A SANDBOX (cutbox-door.mjs). By AI agents, Wed Nov 11 2026. No macro, syntax, notation, axiom, sorry.
-/
import Derived.Test.YtbollbbggklnkaaGreatDoorRows
import GoSem.ClaimSeven
namespace Go.Proofs.YtbollbbggklnkaaGreatDoor
namespace Rows

/-- THE TIED CARD OF 'commonplacelaw22.AnswerNil'. -/
def answerNilCard : Claim7 := { stood := { row := answerNilRow, standIns := [], harness := (true, "ac098c9eb284654e7c9b143c2e51214028d5659a72f2c7f13bca5d0104f48a4e"), looks := true }, kinds := [], alts := [], laidByText := true, laidKinds := [.data, .data, .data, .data, .sentinel, .sentinel, .data, .data, .pinned], laidTests := true, laidLooks := .later }
def AnswerNilCardSaid : Prop := Claim7.holds Tryz.pinned (.plain (OpenSpec.ofChange answerNilSpec)) answerNilCard

/-- THE SECOND FORM's CARD OF 'commonplacelaw22.AnswerNil'. -/
def answerNilUptoCard : Claim7 := { stood := { row := answerNilUptoRow, standIns := [], harness := (true, "ac098c9eb284654e7c9b143c2e51214028d5659a72f2c7f13bca5d0104f48a4e"), looks := true }, kinds := [], alts := [], laidByText := true, laidKinds := [.data, .data, .data, .data, .sentinel, .sentinel, .data, .data, .pinned], laidTests := true, laidLooks := .later }
def AnswerNilUptoCardSaid : Prop := Claim7.holds Tryz.pinned (.plain (OpenSpec.upto answerNilSpec)) answerNilUptoCard
end Rows
end Go.Proofs.YtbollbbggklnkaaGreatDoor
