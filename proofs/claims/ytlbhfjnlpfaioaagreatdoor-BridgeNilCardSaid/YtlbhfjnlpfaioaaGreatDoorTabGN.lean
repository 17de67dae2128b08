/- Closed facts of the seat of BridgeNil: its looks; no stand-ins. -/
import Derived.Test.YtlbhfjnlpfaioaaGreatDoorRows
import Derived.Test.YtlbhfjnlpfaioaaGreatDoorChecked
import Derived.KernelRfl
import Derived.SevenTiedAt
namespace Go.Proofs.YtlbhfjnlpfaioaaGreatDoor
open Go
theorem bridgeNil_looks : true = Tryz.pinned.checked.prog.looks [] := by kernel_rfl
theorem noStand {t : TypeId} (h : t = 22 ∨ t = 3 ∨ t = 4) : Tryz.prog.wantsStandIn t = false := by
  rcases h with rfl | rfl | rfl <;> kernel_rfl
end Go.Proofs.YtlbhfjnlpfaioaaGreatDoor
