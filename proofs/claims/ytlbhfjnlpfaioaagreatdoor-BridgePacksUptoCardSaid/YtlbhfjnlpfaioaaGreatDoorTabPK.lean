/- A closed fact of the row of BridgePacksUpto: it is well formed. -/
import Derived.Test.YtlbhfjnlpfaioaaGreatDoorRows
import Derived.Test.YtlbhfjnlpfaioaaGreatDoorChecked
import Derived.KernelRfl
import Derived.SevenTiedAt
namespace Go.Proofs.YtlbhfjnlpfaioaaGreatDoor
open Go
theorem bridgePacksUpto_wf : Rows.bridgePacksUptoRow.wfByText (Rows.OpenSpec.upto Rows.bridgePacksSpec) = true := by kernel_rfl
end Go.Proofs.YtlbhfjnlpfaioaaGreatDoor
/- Closed facts of the seat of BridgePacksUpto: its looks; no stand-ins. -/
namespace Go.Proofs.YtlbhfjnlpfaioaaGreatDoor
open Go
theorem bridgePacksUpto_looks : true = Tryz.pinned.checked.prog.looks [] := by kernel_rfl
theorem noStand {t : TypeId} (h : t = 22 ∨ t = 23 ∨ t = 27) : Tryz.prog.wantsStandIn t = false := by
  rcases h with rfl | rfl | rfl <;> kernel_rfl
end Go.Proofs.YtlbhfjnlpfaioaaGreatDoor
/- A closed fact of the row of BridgePacksUpto: the harness. -/
namespace Go.Proofs.YtlbhfjnlpfaioaaGreatDoor
open Go
theorem bridgePacksUpto_main : Tryz.pinned.checked.prog.mainIs = some ((true : Bool), "3bd34a57a911344065be99a3bcceb5c68040ae55eec5caabc75de999de299ce5".toList) := by kernel_rfl
theorem bridgePacksUpto_fn : Tryz.prog.funcNamed "moneyer/moneyerlaw30.BridgePacks" = some 3 := by kernel_rfl
end Go.Proofs.YtlbhfjnlpfaioaaGreatDoor
