/- A closed fact of the row of BridgePacksUpto: what it goes by. -/
import Derived.Test.YtlbhfjnlpfaioaaGreatDoorRows
import Derived.Test.YtlbhfjnlpfaioaaGreatDoorChecked
import Derived.KernelRfl
import Derived.SevenTiedAt
namespace Go.Proofs.YtlbhfjnlpfaioaaGreatDoor
open Go
theorem bridgePacksUpto_goes : false = Rows.bridgePacksUptoRow.goesBy Tryz.pinned.checked.prog := by kernel_rfl
end Go.Proofs.YtlbhfjnlpfaioaaGreatDoor
