/- BridgeNil: the law's run at any bytes and any number. -/
import Derived.Test.YtlbhfjnlpfaioaaGreatDoorTabTV
import Derived.Test.YtlbhfjnlpfaioaaGreatDoorEngS14
namespace Go.Proofs.YtlbhfjnlpfaioaaGreatDoor
open Go Go.Eng Go.ChangeShapes Go.WideShapes Go.ChangeAt Go.RowKit

set_option maxRecDepth 100000 in
theorem run_true : saysTrue Tryz.prog 7 (orcAll o4) 100000 50 16 allNeed7 4 [.chan (some 0), .chan (some 1), .bool true] = true := by kernel_rfl
set_option maxRecDepth 100000 in
theorem run_false : saysTrue Tryz.prog 7 (orcAll o4) 100000 50 16 allNeed7 4 [.chan (some 0), .chan (some 1), .bool false] = true := by kernel_rfl

end Go.Proofs.YtlbhfjnlpfaioaaGreatDoor
