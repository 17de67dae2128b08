/- A closed fact of the row of BridgeNil: it is well formed. -/
import Derived.Test.YtlbhfjnlpfaioaaGreatDoorRows
import Derived.Test.YtlbhfjnlpfaioaaGreatDoorChecked
import Derived.KernelRfl
import Derived.SevenTiedAt
namespace Go.Proofs.YtlbhfjnlpfaioaaGreatDoor
open Go
theorem bridgeNil_wf : Rows.bridgeNilRow.wfByText (OpenSpec.ofChange Rows.bridgeNilSpec) = true := by kernel_rfl
end Go.Proofs.YtlbhfjnlpfaioaaGreatDoor
