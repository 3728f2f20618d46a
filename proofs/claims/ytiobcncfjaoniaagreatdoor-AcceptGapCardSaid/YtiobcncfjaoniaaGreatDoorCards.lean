/-
  DERIVED. GIVEN WITH THE SEED: THE CARDS: each row of YtiobcncfjaoniaaGreatDoorRows.lean that lists a variable, with what it lists TIED to the program's text (the seventh form; the later family's looks); each row that meets fmt, with fmt's text TOLD by the authors' own Lean function (tested against real Go, not proved from fmt's source: count such statements apart). THE CARD IS WHAT COUNTS. Prove the row's statement (the work); the ties are given (YtiobcncfjaoniaaGreatDoorTie.lean); close each card by the builder's one call (the guide's Derived/Test/ToyasCard.lean, 'card_holds'). Laid BY PROGRAM, IN A SANDBOX (cutbox-door.mjs). By AI agents, Wed Nov 11 2026. No macro, syntax, notation, axiom, sorry.
-/
import Derived.Test.YtiobcncfjaoniaaGreatDoorRows
import GoSem.ClaimSeven
namespace Go.Proofs.YtiobcncfjaoniaaGreatDoor
namespace Rows

/-- THE TIED CARD OF 'commonplacelaw21.AcceptGap'. -/
def acceptGapCard : Claim7 := { stood := { row := acceptGapRow, standIns := [], harness := (true, "d79f3f9d4231c3b554c7dcb02a23abef011838683c8f7ba74526937422ff4c01"), looks := true }, kinds := [], alts := [], laidByText := true, laidKinds := [.data, .data, .data, .data, .sentinel, .sentinel, .data, .pinned], laidTests := true, laidLooks := .later }
def AcceptGapCardSaid : Prop := Claim7.holds Tryz.pinned (.plain (OpenSpec.ofChange acceptGapSpec)) acceptGapCard

/-- THE SECOND FORM's CARD OF 'commonplacelaw21.AcceptGap'. -/
def acceptGapUptoCard : Claim7 := { stood := { row := acceptGapUptoRow, standIns := [], harness := (true, "d79f3f9d4231c3b554c7dcb02a23abef011838683c8f7ba74526937422ff4c01"), looks := true }, kinds := [], alts := [], laidByText := true, laidKinds := [.data, .data, .data, .data, .sentinel, .sentinel, .data, .pinned], laidTests := true, laidLooks := .later }
def AcceptGapUptoCardSaid : Prop := Claim7.holds Tryz.pinned (.plain (OpenSpec.upto acceptGapSpec)) acceptGapUptoCard
end Rows
end Go.Proofs.YtiobcncfjaoniaaGreatDoor
