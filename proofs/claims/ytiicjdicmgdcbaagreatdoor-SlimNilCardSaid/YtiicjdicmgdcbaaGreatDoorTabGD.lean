/- Closed facts of the row slimNilRow, one by one. -/
import Derived.Test.YtiicjdicmgdcbaaGreatDoorRows
import Derived.Test.YtiicjdicmgdcbaaGreatDoorProg
import Derived.JoinedOf
import Derived.KernelRfl
namespace Go.Proofs.YtiicjdicmgdcbaaGreatDoor
open Go
set_option maxRecDepth 100000 in
theorem slimNilRow_k12 : ((Rows.slimNilRow.named == Tryz.prog.varsNamed 3) : Bool) = true := by kernel_rfl
end Go.Proofs.YtiicjdicmgdcbaaGreatDoor
