/-
  DERIVED. GIVEN WITH THE SEED: THE CARDS: each row of YtiicjdicmgdcbaaGreatDoorRows.lean that lists a variable, with what it lists TIED to the program's text (the seventh form; the later family's looks); each row that meets fmt, with fmt's text TOLD by the authors' own Lean function (tested against real Go, not proved from fmt's source: count such statements apart). THE CARD IS WHAT COUNTS. Prove the row's statement (the work); the ties are given (YtiicjdicmgdcbaaGreatDoorTie.lean); close each card by the builder's one call (the guide's Derived/Test/ToyasCard.lean, 'card_holds'). Laid BY PROGRAM, IN A SANDBOX (cutbox-door.mjs). By AI agents, Wed Nov 11 2026. No macro, syntax, notation, axiom, sorry.
-/
import Derived.Test.YtiicjdicmgdcbaaGreatDoorRows
import GoSem.ClaimSeven
namespace Go.Proofs.YtiicjdicmgdcbaaGreatDoor
namespace Rows

/-- THE TIED CARD OF 'moneyerlaw31.SlimNil'. -/
def slimNilCard : Claim7 := { stood := { row := slimNilRow, standIns := [], harness := (true, "73f673a9817881b279c678be40ee003314f8c77c3e02c847855fe4ecd9efff07"), looks := true }, kinds := [], alts := [], laidByText := true, laidKinds := [.handle, .data, .data], laidTests := true, laidLooks := .later }
def SlimNilCardSaid : Prop := Claim7.holds Tryz.pinned (.plain (OpenSpec.ofChange slimNilSpec)) slimNilCard

/-- THE SECOND FORM's CARD OF 'moneyerlaw31.SlimNil'. -/
def slimNilUptoCard : Claim7 := { stood := { row := slimNilUptoRow, standIns := [], harness := (true, "73f673a9817881b279c678be40ee003314f8c77c3e02c847855fe4ecd9efff07"), looks := true }, kinds := [], alts := [], laidByText := true, laidKinds := [.handle, .data, .data], laidTests := true, laidLooks := .later }
def SlimNilUptoCardSaid : Prop := Claim7.holds Tryz.pinned (.plain (OpenSpec.upto slimNilSpec)) slimNilUptoCard
end Rows
end Go.Proofs.YtiicjdicmgdcbaaGreatDoor
