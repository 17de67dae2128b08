/-
  DERIVED. GIVEN WITH THE SEED: THE CARDS: each row of YtlbhfjnlpfaioaaGreatDoorRows.lean that lists a variable, with what it lists TIED to the program's text (the seventh form; the later family's looks); each row that meets fmt, with fmt's text TOLD by the authors' own Lean function (tested against real Go, not proved from fmt's source: count such statements apart). THE CARD IS WHAT COUNTS. Prove the row's statement (the work); the ties are given (YtlbhfjnlpfaioaaGreatDoorTie.lean); close each card by the builder's one call (the guide's Derived/Test/ToyasCard.lean, 'card_holds'). Laid BY PROGRAM, IN A SANDBOX (cutbox-door.mjs). By AI agents, Wed Nov 11 2026. No macro, syntax, notation, axiom, sorry.
-/
import Derived.Test.YtlbhfjnlpfaioaaGreatDoorRows
import GoSem.ClaimSeven
namespace Go.Proofs.YtlbhfjnlpfaioaaGreatDoor
namespace Rows

/-- THE TIED CARD OF 'moneyerlaw30.BridgePacks'. -/
def bridgePacksCard : Claim7 := { stood := { row := bridgePacksRow, standIns := [], harness := (true, "3bd34a57a911344065be99a3bcceb5c68040ae55eec5caabc75de999de299ce5"), looks := true }, kinds := [], alts := [], laidByText := true, laidKinds := [.handle, .data, .data], laidTests := true, laidLooks := .later }
def BridgePacksCardSaid : Prop := Claim7.holds Tryz.pinned (.plain (OpenSpec.ofChange bridgePacksSpec)) bridgePacksCard

/-- THE TIED CARD OF 'moneyerlaw30.BridgeNil'. -/
def bridgeNilCard : Claim7 := { stood := { row := bridgeNilRow, standIns := [], harness := (true, "3bd34a57a911344065be99a3bcceb5c68040ae55eec5caabc75de999de299ce5"), looks := true }, kinds := [], alts := [], laidByText := true, laidKinds := [.handle, .data, .data], laidTests := true, laidLooks := .later }
def BridgeNilCardSaid : Prop := Claim7.holds Tryz.pinned (.plain (OpenSpec.ofChange bridgeNilSpec)) bridgeNilCard

/-- THE TIED CARD OF 'moneyerlaw30.BridgeUnpacks'. -/
def bridgeUnpacksCard : Claim7 := { stood := { row := bridgeUnpacksRow, standIns := [], harness := (true, "3bd34a57a911344065be99a3bcceb5c68040ae55eec5caabc75de999de299ce5"), looks := true }, kinds := [], alts := [], laidByText := true, laidKinds := [.handle, .data, .data], laidTests := true, laidLooks := .later }
def BridgeUnpacksCardSaid : Prop := Claim7.holds Tryz.pinned (.plain (OpenSpec.ofChange bridgeUnpacksSpec)) bridgeUnpacksCard

/-- THE TIED CARD OF 'moneyerlaw30.BridgeBack'. -/
def bridgeBackCard : Claim7 := { stood := { row := bridgeBackRow, standIns := [], harness := (true, "3bd34a57a911344065be99a3bcceb5c68040ae55eec5caabc75de999de299ce5"), looks := true }, kinds := [], alts := [], laidByText := true, laidKinds := [.handle, .data, .data], laidTests := true, laidLooks := .later }
def BridgeBackCardSaid : Prop := Claim7.holds Tryz.pinned (.plain (OpenSpec.ofChange bridgeBackSpec)) bridgeBackCard

/-- THE SECOND FORM's CARD OF 'moneyerlaw30.BridgePacks'. -/
def bridgePacksUptoCard : Claim7 := { stood := { row := bridgePacksUptoRow, standIns := [], harness := (true, "3bd34a57a911344065be99a3bcceb5c68040ae55eec5caabc75de999de299ce5"), looks := true }, kinds := [], alts := [], laidByText := true, laidKinds := [.handle, .data, .data], laidTests := true, laidLooks := .later }
def BridgePacksUptoCardSaid : Prop := Claim7.holds Tryz.pinned (.plain (OpenSpec.upto bridgePacksSpec)) bridgePacksUptoCard

/-- THE SECOND FORM's CARD OF 'moneyerlaw30.BridgeNil'. -/
def bridgeNilUptoCard : Claim7 := { stood := { row := bridgeNilUptoRow, standIns := [], harness := (true, "3bd34a57a911344065be99a3bcceb5c68040ae55eec5caabc75de999de299ce5"), looks := true }, kinds := [], alts := [], laidByText := true, laidKinds := [.handle, .data, .data], laidTests := true, laidLooks := .later }
def BridgeNilUptoCardSaid : Prop := Claim7.holds Tryz.pinned (.plain (OpenSpec.upto bridgeNilSpec)) bridgeNilUptoCard

/-- THE SECOND FORM's CARD OF 'moneyerlaw30.BridgeUnpacks'. -/
def bridgeUnpacksUptoCard : Claim7 := { stood := { row := bridgeUnpacksUptoRow, standIns := [], harness := (true, "3bd34a57a911344065be99a3bcceb5c68040ae55eec5caabc75de999de299ce5"), looks := true }, kinds := [], alts := [], laidByText := true, laidKinds := [.handle, .data, .data], laidTests := true, laidLooks := .later }
def BridgeUnpacksUptoCardSaid : Prop := Claim7.holds Tryz.pinned (.plain (OpenSpec.upto bridgeUnpacksSpec)) bridgeUnpacksUptoCard

/-- THE SECOND FORM's CARD OF 'moneyerlaw30.BridgeBack'. -/
def bridgeBackUptoCard : Claim7 := { stood := { row := bridgeBackUptoRow, standIns := [], harness := (true, "3bd34a57a911344065be99a3bcceb5c68040ae55eec5caabc75de999de299ce5"), looks := true }, kinds := [], alts := [], laidByText := true, laidKinds := [.handle, .data, .data], laidTests := true, laidLooks := .later }
def BridgeBackUptoCardSaid : Prop := Claim7.holds Tryz.pinned (.plain (OpenSpec.upto bridgeBackSpec)) bridgeBackUptoCard
end Rows
end Go.Proofs.YtlbhfjnlpfaioaaGreatDoor
