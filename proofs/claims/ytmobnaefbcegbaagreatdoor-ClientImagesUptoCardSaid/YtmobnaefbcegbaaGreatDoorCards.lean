/-
  DERIVED. GIVEN WITH THE SEED: THE CARDS: each row of YtmobnaefbcegbaaGreatDoorRows.lean that lists a variable, with what it lists TIED to the program's text (the seventh form; the later family's looks); each row that meets fmt, with fmt's text TOLD by the authors' own Lean function (tested against real Go, not proved from fmt's source: count such statements apart). THE CARD IS WHAT COUNTS. Prove the row's statement (the work); the ties are given (YtmobnaefbcegbaaGreatDoorTie.lean); close each card by the builder's one call (the guide's Derived/Test/ToyasCard.lean, 'card_holds'). Laid BY PROGRAM, IN A SANDBOX (cutbox-door.mjs). By AI agents, Wed Nov 11 2026. No macro, syntax, notation, axiom, sorry.
-/
import Derived.Test.YtmobnaefbcegbaaGreatDoorRows
import GoSem.ClaimSeven
namespace Go.Proofs.YtmobnaefbcegbaaGreatDoor
namespace Rows

/-- THE TIED CARD OF 'commonplacelaw25.ClientImages'. -/
def clientImagesCard : Claim7 := { stood := { row := clientImagesRow, standIns := [], harness := (true, "3dfa5a3fc7c6e8753e527488371730a19ad8d1ac6d5be6e45aee145355cd2b03"), looks := true }, kinds := [], alts := [], laidByText := true, laidKinds := [.data, .data, .data, .data, .sentinel, .sentinel, .data, .pinned], laidTests := true, laidLooks := .later }
def ClientImagesCardSaid : Prop := Claim7.holds Tryz.pinned (.plain (OpenSpec.ofChange clientImagesSpec)) clientImagesCard

/-- THE SECOND FORM's CARD OF 'commonplacelaw25.ClientImages'. -/
def clientImagesUptoCard : Claim7 := { stood := { row := clientImagesUptoRow, standIns := [], harness := (true, "3dfa5a3fc7c6e8753e527488371730a19ad8d1ac6d5be6e45aee145355cd2b03"), looks := true }, kinds := [], alts := [], laidByText := true, laidKinds := [.data, .data, .data, .data, .sentinel, .sentinel, .data, .pinned], laidTests := true, laidLooks := .later }
def ClientImagesUptoCardSaid : Prop := Claim7.holds Tryz.pinned (.plain (OpenSpec.upto clientImagesSpec)) clientImagesUptoCard
end Rows
end Go.Proofs.YtmobnaefbcegbaaGreatDoor
