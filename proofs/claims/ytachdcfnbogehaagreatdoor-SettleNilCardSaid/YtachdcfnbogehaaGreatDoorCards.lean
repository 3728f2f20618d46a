/-
  DERIVED. GIVEN WITH THE SEED: THE CARDS: each row of YtachdcfnbogehaaGreatDoorRows.lean that lists a variable, with what it lists TIED to the program's text (the seventh form; the later family's looks); each row that meets fmt, with fmt's text TOLD by the authors' own Lean function (tested against real Go, not proved from fmt's source: count such statements apart). THE CARD IS WHAT COUNTS. Prove the row's statement (the work); the ties are given (YtachdcfnbogehaaGreatDoorTie.lean); close each card by the builder's one call (the guide's Derived/Test/ToyasCard.lean, 'card_holds'). Laid BY PROGRAM, IN A SANDBOX (cutbox-door.mjs). By AI agents, Wed Nov 11 2026. No macro, syntax, notation, axiom, sorry.
-/
import Derived.Test.YtachdcfnbogehaaGreatDoorRows
import GoSem.ClaimSeven
namespace Go.Proofs.YtachdcfnbogehaaGreatDoor
namespace Rows

/-- THE TIED CARD OF 'commonplacelaw31.SettleNil'. -/
def settleNilCard : Claim7 := { stood := { row := settleNilRow, standIns := [], harness := (true, "2b5c03535eeb692a0c30bfee1a608f09f3c82b1c6004e5488b4fe4251d295290"), looks := true }, kinds := [], alts := [], laidByText := true, laidKinds := [.pinned, .data, .sentinel, .sentinel, .data, .data, .data, .data, .data], laidTests := true, laidLooks := .later }
def SettleNilCardSaid : Prop := Claim7.holds Tryz.pinned (.plain (OpenSpec.ofChange settleNilSpec)) settleNilCard

/-- THE SECOND FORM's CARD OF 'commonplacelaw31.SettleNil'. -/
def settleNilUptoCard : Claim7 := { stood := { row := settleNilUptoRow, standIns := [], harness := (true, "2b5c03535eeb692a0c30bfee1a608f09f3c82b1c6004e5488b4fe4251d295290"), looks := true }, kinds := [], alts := [], laidByText := true, laidKinds := [.pinned, .data, .sentinel, .sentinel, .data, .data, .data, .data, .data], laidTests := true, laidLooks := .later }
def SettleNilUptoCardSaid : Prop := Claim7.holds Tryz.pinned (.plain (OpenSpec.upto settleNilSpec)) settleNilUptoCard
end Rows
end Go.Proofs.YtachdcfnbogehaaGreatDoor
