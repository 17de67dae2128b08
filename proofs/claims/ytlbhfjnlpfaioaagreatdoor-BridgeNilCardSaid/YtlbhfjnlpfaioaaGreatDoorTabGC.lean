/- Closed facts of the row bridgeNilRow, one by one. -/
import Derived.Test.YtlbhfjnlpfaioaaGreatDoorRows
import Derived.Test.YtlbhfjnlpfaioaaGreatDoorProg
import Derived.JoinedOf
import Derived.KernelRfl
namespace Go.Proofs.YtlbhfjnlpfaioaaGreatDoor
open Go
set_option maxRecDepth 100000 in
theorem bridgeNilRow_k11 : ((Rows.bridgeNilRow.recurses == Tryz.prog.recurses 4) : Bool) = true := by kernel_rfl
end Go.Proofs.YtlbhfjnlpfaioaaGreatDoor
