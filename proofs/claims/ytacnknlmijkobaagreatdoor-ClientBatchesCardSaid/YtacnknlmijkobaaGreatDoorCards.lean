/-
  DERIVED. GIVEN WITH THE SEED: THE CARDS: each row of YtacnknlmijkobaaGreatDoorRows.lean that lists a variable, with what it lists TIED to the program's text (the seventh form; the later family's looks); each row that meets fmt, with fmt's text TOLD by the authors' own Lean function (tested against real Go, not proved from fmt's source: count such statements apart). THE CARD IS WHAT COUNTS. Prove the row's statement (the work); the ties are given (YtacnknlmijkobaaGreatDoorTie.lean); close each card by the builder's one call (the guide's Derived/Test/ToyasCard.lean, 'card_holds'). Laid BY PROGRAM, IN A SANDBOX (cutbox-door.mjs). By AI agents, Wed Nov 11 2026. No macro, syntax, notation, axiom, sorry.
-/
import Derived.Test.YtacnknlmijkobaaGreatDoorRows
import GoSem.ClaimSeven
namespace Go.Proofs.YtacnknlmijkobaaGreatDoor
namespace Rows

/-- THE TIED CARD OF 'commonplacelaw25.ClientBatches'. -/
def clientBatchesCard : Claim7 := { stood := { row := clientBatchesRow, standIns := [], harness := (true, "6a65f95af870d6cce68ce4d472200f9da1502b0dd8d9a46d51c5f0d2ebde1160"), looks := true }, kinds := [], alts := [], laidByText := true, laidKinds := [.data, .data, .data, .data, .sentinel, .sentinel, .data, .pinned], laidTests := true, laidLooks := .later }
def ClientBatchesCardSaid : Prop := Claim7.holds Tryz.pinned (.plain (OpenSpec.ofChange clientBatchesSpec)) clientBatchesCard

/-- THE SECOND FORM's CARD OF 'commonplacelaw25.ClientBatches'. -/
def clientBatchesUptoCard : Claim7 := { stood := { row := clientBatchesUptoRow, standIns := [], harness := (true, "6a65f95af870d6cce68ce4d472200f9da1502b0dd8d9a46d51c5f0d2ebde1160"), looks := true }, kinds := [], alts := [], laidByText := true, laidKinds := [.data, .data, .data, .data, .sentinel, .sentinel, .data, .pinned], laidTests := true, laidLooks := .later }
def ClientBatchesUptoCardSaid : Prop := Claim7.holds Tryz.pinned (.plain (OpenSpec.upto clientBatchesSpec)) clientBatchesUptoCard
end Rows
end Go.Proofs.YtacnknlmijkobaaGreatDoor
