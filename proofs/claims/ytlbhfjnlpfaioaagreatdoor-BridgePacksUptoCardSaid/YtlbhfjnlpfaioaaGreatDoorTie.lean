/-
  DERIVED. GIVEN WITH THE SEED: THE PROGRAM's TIES (one call each: nine closed facts by the kernel) AND EACH ROW's TIE, after the 31st guide's Derived/Test/Toyas{Tie, Card}.lean. No idea stands in it: it is a product of the set-up. Laid BY PROGRAM, IN A SANDBOX (cutbox-door.mjs). By AI agents, Wed Nov 11 2026. No macro, syntax, notation, axiom, sorry.
-/
import Derived.Test.YtlbhfjnlpfaioaaGreatDoorRows
import Derived.LaidByTextLater
import Derived.SevenTiedAt
import Derived.LaidSub
import Derived.LaidOnce
namespace Go.Proofs.YtlbhfjnlpfaioaaGreatDoor
open Go
set_option maxRecDepth 100000
theorem seatTie1 : Tryz.prog.laidByTextLater [("errors.errorType", Rows.laid_errors_errorType), ("moneyer/sha.k", Rows.laid_moneyer_sha_k), ("moneyer/store.areas", Rows.laid_moneyer_store_areas)] [.handle, .data, .data] true :=
  Program.laidByTextLater_by_one 30 8 65 (by kernel_rfl) (by kernel_rfl) (by kernel_rfl) (by kernel_rfl) (by kernel_rfl) (by kernel_rfl) (fun _ _ => by kernel_rfl)
theorem noOwnUnsafe : Tryz.pinned.checked.prog.headLifts.contains "ownunsafe" = false := by kernel_rfl
theorem tie : Tryz.prog.laidByTextLater [("errors.errorType", Rows.laid_errors_errorType), ("moneyer/sha.k", Rows.laid_moneyer_sha_k), ("moneyer/store.areas", Rows.laid_moneyer_store_areas)] [.handle, .data, .data] true :=
  Program.laidByTextLater.sub seatTie1 ["errors.errorType", "moneyer/sha.k", "moneyer/store.areas"] (by kernel_rfl) (by kernel_rfl)
theorem bridgePacks_row_tie : Rows.bridgePacksRow.laidByTextAt .later Tryz.pinned [.handle, .data, .data] true :=
  OpenClaim.laidByTextAt_later rfl rfl tie noOwnUnsafe
theorem bridgeNil_row_tie : Rows.bridgeNilRow.laidByTextAt .later Tryz.pinned [.handle, .data, .data] true :=
  OpenClaim.laidByTextAt_later rfl rfl tie noOwnUnsafe
theorem bridgeUnpacks_row_tie : Rows.bridgeUnpacksRow.laidByTextAt .later Tryz.pinned [.handle, .data, .data] true :=
  OpenClaim.laidByTextAt_later rfl rfl tie noOwnUnsafe
theorem bridgeBack_row_tie : Rows.bridgeBackRow.laidByTextAt .later Tryz.pinned [.handle, .data, .data] true :=
  OpenClaim.laidByTextAt_later rfl rfl tie noOwnUnsafe
theorem bridgePacksUpto_row_tie : Rows.bridgePacksUptoRow.laidByTextAt .later Tryz.pinned [.handle, .data, .data] true :=
  OpenClaim.laidByTextAt_later rfl rfl tie noOwnUnsafe
theorem bridgeNilUpto_row_tie : Rows.bridgeNilUptoRow.laidByTextAt .later Tryz.pinned [.handle, .data, .data] true :=
  OpenClaim.laidByTextAt_later rfl rfl tie noOwnUnsafe
theorem bridgeUnpacksUpto_row_tie : Rows.bridgeUnpacksUptoRow.laidByTextAt .later Tryz.pinned [.handle, .data, .data] true :=
  OpenClaim.laidByTextAt_later rfl rfl tie noOwnUnsafe
theorem bridgeBackUpto_row_tie : Rows.bridgeBackUptoRow.laidByTextAt .later Tryz.pinned [.handle, .data, .data] true :=
  OpenClaim.laidByTextAt_later rfl rfl tie noOwnUnsafe
end Go.Proofs.YtlbhfjnlpfaioaaGreatDoor
