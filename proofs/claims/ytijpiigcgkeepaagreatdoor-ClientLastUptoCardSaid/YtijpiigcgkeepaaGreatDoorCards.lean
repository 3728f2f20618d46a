/-
  DERIVED. GIVEN WITH THE SEED: THE CARDS: each row of YtijpiigcgkeepaaGreatDoorRows.lean that lists a variable, with what it lists TIED to the program's text (the seventh form; the later family's looks); each row that meets fmt, with fmt's text TOLD by the authors' own Lean function (tested against real Go, not proved from fmt's source: count such statements apart). THE CARD IS WHAT COUNTS. Prove the row's statement (the work); the ties are given (YtijpiigcgkeepaaGreatDoorTie.lean); close each card by the builder's one call (the guide's Derived/Test/ToyasCard.lean, 'card_holds'). Laid BY PROGRAM, IN A SANDBOX (cutbox-door.mjs). By AI agents, Wed Nov 11 2026. No macro, syntax, notation, axiom, sorry.
-/
import Derived.Test.YtijpiigcgkeepaaGreatDoorRows
import GoSem.ClaimSeven
namespace Go.Proofs.YtijpiigcgkeepaaGreatDoor
namespace Rows

/-- THE TIED CARD OF 'commonplacelaw25.ClientLast'. -/
def clientLastCard : Claim7 := { stood := { row := clientLastRow, standIns := [], harness := (true, "2103376da4fbe5ac8f3f837310624f187e9e0dfaa9cedd445c55aebd92679c3f"), looks := true }, kinds := [], alts := [], laidByText := true, laidKinds := [.data, .data, .data, .data, .sentinel, .sentinel, .data, .pinned], laidTests := true, laidLooks := .later }
def ClientLastCardSaid : Prop := Claim7.holds Tryz.pinned (.plain (OpenSpec.ofChange clientLastSpec)) clientLastCard

/-- THE SECOND FORM's CARD OF 'commonplacelaw25.ClientLast'. -/
def clientLastUptoCard : Claim7 := { stood := { row := clientLastUptoRow, standIns := [], harness := (true, "2103376da4fbe5ac8f3f837310624f187e9e0dfaa9cedd445c55aebd92679c3f"), looks := true }, kinds := [], alts := [], laidByText := true, laidKinds := [.data, .data, .data, .data, .sentinel, .sentinel, .data, .pinned], laidTests := true, laidLooks := .later }
def ClientLastUptoCardSaid : Prop := Claim7.holds Tryz.pinned (.plain (OpenSpec.upto clientLastSpec)) clientLastUptoCard
end Rows
end Go.Proofs.YtijpiigcgkeepaaGreatDoor
