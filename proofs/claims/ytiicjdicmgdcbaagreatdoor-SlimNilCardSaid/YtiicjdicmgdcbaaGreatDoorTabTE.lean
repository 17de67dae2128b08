/- SlimNil: the law's run at any bytes and any number. -/
import Derived.Test.YtiicjdicmgdcbaaGreatDoorTabTV
import Derived.Test.YtiicjdicmgdcbaaGreatDoorEngS14
namespace Go.Proofs.YtiicjdicmgdcbaaGreatDoor
open Go Go.Eng Go.ChangeShapes Go.WideShapes Go.ChangeAt Go.RowKit

set_option maxRecDepth 100000 in
theorem run_true : saysTrue Tryz.prog 6 (orcAll o4) 100000 50 15 allNeed7 3 [.chan (some 0), .chan (some 1), .bool true] = true := by kernel_rfl
set_option maxRecDepth 100000 in
theorem run_false : saysTrue Tryz.prog 6 (orcAll o4) 100000 50 15 allNeed7 3 [.chan (some 0), .chan (some 1), .bool false] = true := by kernel_rfl

end Go.Proofs.YtiicjdicmgdcbaaGreatDoor
