/-
  DERIVED. GIVEN WITH THE SEED: THE CARDS: each row of YtjbgdnnhdmkflaaGreatDoorRows.lean that lists a variable, with what it lists TIED to the program's text (the seventh form; the later family's looks); each row that meets fmt, with fmt's text TOLD by the authors' own Lean function (tested against real Go, not proved from fmt's source: count such statements apart). THE CARD IS WHAT COUNTS. Prove the row's statement (the work); the ties are given (YtjbgdnnhdmkflaaGreatDoorTie.lean); close each card by the builder's one call (the guide's Derived/Test/ToyasCard.lean, 'card_holds'). Laid BY PROGRAM, IN A SANDBOX (cutbox-door.mjs). By AI agents, Wed Nov 11 2026. No macro, syntax, notation, axiom, sorry.
-/
import Derived.Test.YtjbgdnnhdmkflaaGreatDoorRows
import GoSem.ClaimSeven
namespace Go.Proofs.YtjbgdnnhdmkflaaGreatDoor
namespace Rows

/-- THE TIED CARD OF 'moneyerlaw29.FullNil'. -/
def fullNilCard : Claim7 := { stood := { row := fullNilRow, standIns := [], harness := (true, "3c90b2b3bd4c00d258d9a9d4111d1c4d451b10d4a037bf6e8f95763510e9f317"), looks := true }, kinds := [], alts := [], laidByText := true, laidKinds := [.handle, .data, .data], laidTests := true, laidLooks := .later }
def FullNilCardSaid : Prop := Claim7.holds Tryz.pinned (.plain (OpenSpec.ofChange fullNilSpec)) fullNilCard

/-- THE SECOND FORM's CARD OF 'moneyerlaw29.FullNil'. -/
def fullNilUptoCard : Claim7 := { stood := { row := fullNilUptoRow, standIns := [], harness := (true, "3c90b2b3bd4c00d258d9a9d4111d1c4d451b10d4a037bf6e8f95763510e9f317"), looks := true }, kinds := [], alts := [], laidByText := true, laidKinds := [.handle, .data, .data], laidTests := true, laidLooks := .later }
def FullNilUptoCardSaid : Prop := Claim7.holds Tryz.pinned (.plain (OpenSpec.upto fullNilSpec)) fullNilUptoCard
end Rows
end Go.Proofs.YtjbgdnnhdmkflaaGreatDoor
