/-
  DERIVED. GIVEN WITH THE SEED: THE CARDS: each row of YtgjpejdmjkihoaaGreatDoorRows.lean that lists a variable, with what it lists TIED to the program's text (the seventh form; the later family's looks); each row that meets fmt, with fmt's text TOLD by the authors' own Lean function (tested against real Go, not proved from fmt's source: count such statements apart). THE CARD IS WHAT COUNTS. Prove the row's statement (the work); the ties are given (YtgjpejdmjkihoaaGreatDoorTie.lean); close each card by the builder's one call (the guide's Derived/Test/ToyasCard.lean, 'card_holds'). Laid BY PROGRAM, IN A SANDBOX (cutbox-door.mjs). By AI agents, Wed Nov 11 2026. No macro, syntax, notation, axiom, sorry.
-/
import Derived.Test.YtgjpejdmjkihoaaGreatDoorRows
import GoSem.ClaimSeven
namespace Go.Proofs.YtgjpejdmjkihoaaGreatDoor
namespace Rows

/-- THE TIED CARD OF 'commonplacelaw21.AcceptNil'. -/
def acceptNilCard : Claim7 := { stood := { row := acceptNilRow, standIns := [], harness := (true, "e51673471b33cb515b1cf5f400c21580f177914a83d3bb1ea1682ba221207d58"), looks := true }, kinds := [], alts := [], laidByText := true, laidKinds := [.data, .data, .data, .data, .sentinel, .sentinel, .data, .pinned], laidTests := true, laidLooks := .later }
def AcceptNilCardSaid : Prop := Claim7.holds Tryz.pinned (.plain (OpenSpec.ofChange acceptNilSpec)) acceptNilCard

/-- THE SECOND FORM's CARD OF 'commonplacelaw21.AcceptNil'. -/
def acceptNilUptoCard : Claim7 := { stood := { row := acceptNilUptoRow, standIns := [], harness := (true, "e51673471b33cb515b1cf5f400c21580f177914a83d3bb1ea1682ba221207d58"), looks := true }, kinds := [], alts := [], laidByText := true, laidKinds := [.data, .data, .data, .data, .sentinel, .sentinel, .data, .pinned], laidTests := true, laidLooks := .later }
def AcceptNilUptoCardSaid : Prop := Claim7.holds Tryz.pinned (.plain (OpenSpec.upto acceptNilSpec)) acceptNilUptoCard
end Rows
end Go.Proofs.YtgjpejdmjkihoaaGreatDoor
