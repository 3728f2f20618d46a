/-
  DERIVED. GIVEN WITH THE SEED: THE CARDS: each row of YtjopicjammmbjaaGreatDoorRows.lean that lists a variable, with what it lists TIED to the program's text (the seventh form; the later family's looks); each row that meets fmt, with fmt's text TOLD by the authors' own Lean function (tested against real Go, not proved from fmt's source: count such statements apart). THE CARD IS WHAT COUNTS. Prove the row's statement (the work); the ties are given (YtjopicjammmbjaaGreatDoorTie.lean); close each card by the builder's one call (the guide's Derived/Test/ToyasCard.lean, 'card_holds'). Laid BY PROGRAM, IN A SANDBOX (cutbox-door.mjs). By AI agents, Wed Nov 11 2026. No macro, syntax, notation, axiom, sorry.
-/
import Derived.Test.YtjopicjammmbjaaGreatDoorRows
import GoSem.ClaimSeven
namespace Go.Proofs.YtjopicjammmbjaaGreatDoor
namespace Rows

/-- THE TIED CARD OF 'commonplacelaw30.OracleTells'. -/
def oracleTellsCard : Claim7 := { stood := { row := oracleTellsRow, standIns := [], harness := (true, "31fbec2965592164b9e2cd604beb75dbbe0a2ac3a8b51dd1ffca9c3acd06edd4"), looks := true }, kinds := [], alts := [], laidByText := true, laidKinds := [.data, .data, .data, .data, .pinned], laidTests := true, laidLooks := .later }
def OracleTellsCardSaid : Prop := Claim7.holds Tryz.pinned (.plain (OpenSpec.ofChange oracleTellsSpec)) oracleTellsCard

/-- THE TIED CARD OF 'commonplacelaw30.OracleLogs'. -/
def oracleLogsCard : Claim7 := { stood := { row := oracleLogsRow, standIns := [], harness := (true, "31fbec2965592164b9e2cd604beb75dbbe0a2ac3a8b51dd1ffca9c3acd06edd4"), looks := true }, kinds := [], alts := [], laidByText := true, laidKinds := [.data, .data, .data, .data, .pinned], laidTests := true, laidLooks := .later }
def OracleLogsCardSaid : Prop := Claim7.holds Tryz.pinned (.plain (OpenSpec.ofChange oracleLogsSpec)) oracleLogsCard

/-- THE TIED CARD OF 'commonplacelaw30.OracleSettled'. -/
def oracleSettledCard : Claim7 := { stood := { row := oracleSettledRow, standIns := [], harness := (true, "31fbec2965592164b9e2cd604beb75dbbe0a2ac3a8b51dd1ffca9c3acd06edd4"), looks := true }, kinds := [], alts := [], laidByText := true, laidKinds := [.data, .data, .data, .data, .pinned], laidTests := true, laidLooks := .later }
def OracleSettledCardSaid : Prop := Claim7.holds Tryz.pinned (.plain (OpenSpec.ofChange oracleSettledSpec)) oracleSettledCard

/-- THE TIED CARD OF 'commonplacelaw30.OracleStores'. -/
def oracleStoresCard : Claim7 := { stood := { row := oracleStoresRow, standIns := [], harness := (true, "31fbec2965592164b9e2cd604beb75dbbe0a2ac3a8b51dd1ffca9c3acd06edd4"), looks := true }, kinds := [], alts := [], laidByText := true, laidKinds := [.data, .data, .data, .data, .pinned], laidTests := true, laidLooks := .later }
def OracleStoresCardSaid : Prop := Claim7.holds Tryz.pinned (.plain (OpenSpec.ofChange oracleStoresSpec)) oracleStoresCard

/-- THE TIED CARD OF 'commonplacelaw30.OracleClients'. -/
def oracleClientsCard : Claim7 := { stood := { row := oracleClientsRow, standIns := [], harness := (true, "31fbec2965592164b9e2cd604beb75dbbe0a2ac3a8b51dd1ffca9c3acd06edd4"), looks := true }, kinds := [], alts := [], laidByText := true, laidKinds := [.data, .data, .data, .data, .pinned], laidTests := true, laidLooks := .later }
def OracleClientsCardSaid : Prop := Claim7.holds Tryz.pinned (.plain (OpenSpec.ofChange oracleClientsSpec)) oracleClientsCard

/-- THE SECOND FORM's CARD OF 'commonplacelaw30.OracleTells'. -/
def oracleTellsUptoCard : Claim7 := { stood := { row := oracleTellsUptoRow, standIns := [], harness := (true, "31fbec2965592164b9e2cd604beb75dbbe0a2ac3a8b51dd1ffca9c3acd06edd4"), looks := true }, kinds := [], alts := [], laidByText := true, laidKinds := [.data, .data, .data, .data, .pinned], laidTests := true, laidLooks := .later }
def OracleTellsUptoCardSaid : Prop := Claim7.holds Tryz.pinned (.plain (OpenSpec.upto oracleTellsSpec)) oracleTellsUptoCard

/-- THE SECOND FORM's CARD OF 'commonplacelaw30.OracleLogs'. -/
def oracleLogsUptoCard : Claim7 := { stood := { row := oracleLogsUptoRow, standIns := [], harness := (true, "31fbec2965592164b9e2cd604beb75dbbe0a2ac3a8b51dd1ffca9c3acd06edd4"), looks := true }, kinds := [], alts := [], laidByText := true, laidKinds := [.data, .data, .data, .data, .pinned], laidTests := true, laidLooks := .later }
def OracleLogsUptoCardSaid : Prop := Claim7.holds Tryz.pinned (.plain (OpenSpec.upto oracleLogsSpec)) oracleLogsUptoCard

/-- THE SECOND FORM's CARD OF 'commonplacelaw30.OracleSettled'. -/
def oracleSettledUptoCard : Claim7 := { stood := { row := oracleSettledUptoRow, standIns := [], harness := (true, "31fbec2965592164b9e2cd604beb75dbbe0a2ac3a8b51dd1ffca9c3acd06edd4"), looks := true }, kinds := [], alts := [], laidByText := true, laidKinds := [.data, .data, .data, .data, .pinned], laidTests := true, laidLooks := .later }
def OracleSettledUptoCardSaid : Prop := Claim7.holds Tryz.pinned (.plain (OpenSpec.upto oracleSettledSpec)) oracleSettledUptoCard

/-- THE SECOND FORM's CARD OF 'commonplacelaw30.OracleStores'. -/
def oracleStoresUptoCard : Claim7 := { stood := { row := oracleStoresUptoRow, standIns := [], harness := (true, "31fbec2965592164b9e2cd604beb75dbbe0a2ac3a8b51dd1ffca9c3acd06edd4"), looks := true }, kinds := [], alts := [], laidByText := true, laidKinds := [.data, .data, .data, .data, .pinned], laidTests := true, laidLooks := .later }
def OracleStoresUptoCardSaid : Prop := Claim7.holds Tryz.pinned (.plain (OpenSpec.upto oracleStoresSpec)) oracleStoresUptoCard

/-- THE SECOND FORM's CARD OF 'commonplacelaw30.OracleClients'. -/
def oracleClientsUptoCard : Claim7 := { stood := { row := oracleClientsUptoRow, standIns := [], harness := (true, "31fbec2965592164b9e2cd604beb75dbbe0a2ac3a8b51dd1ffca9c3acd06edd4"), looks := true }, kinds := [], alts := [], laidByText := true, laidKinds := [.data, .data, .data, .data, .pinned], laidTests := true, laidLooks := .later }
def OracleClientsUptoCardSaid : Prop := Claim7.holds Tryz.pinned (.plain (OpenSpec.upto oracleClientsSpec)) oracleClientsUptoCard
end Rows
end Go.Proofs.YtjopicjammmbjaaGreatDoor
