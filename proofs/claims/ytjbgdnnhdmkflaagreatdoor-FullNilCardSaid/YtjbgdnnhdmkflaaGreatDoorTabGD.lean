/- Closed facts of the row fullNilRow, one by one. -/
import Derived.Test.YtjbgdnnhdmkflaaGreatDoorRows
import Derived.Test.YtjbgdnnhdmkflaaGreatDoorProg
import Derived.JoinedOf
import Derived.KernelRfl
namespace Go.Proofs.YtjbgdnnhdmkflaaGreatDoor
open Go
set_option maxRecDepth 100000 in
theorem fullNilRow_k12 : ((Rows.fullNilRow.named == Tryz.prog.varsNamed 3) : Bool) = true := by kernel_rfl
end Go.Proofs.YtjbgdnnhdmkflaaGreatDoor
