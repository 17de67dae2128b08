/- Closed facts of the row bridgePacksUptoRow, one by one. -/
import Derived.Test.YtlbhfjnlpfaioaaGreatDoorRows
import Derived.Test.YtlbhfjnlpfaioaaGreatDoorProg
import Derived.JoinedOf
import Derived.KernelRfl
namespace Go.Proofs.YtlbhfjnlpfaioaaGreatDoor
open Go
set_option maxRecDepth 100000 in
theorem bridgePacksUptoRow_k11 : ((Rows.bridgePacksUptoRow.recurses == Tryz.prog.recurses 3) : Bool) = true := by kernel_rfl
end Go.Proofs.YtlbhfjnlpfaioaaGreatDoor
