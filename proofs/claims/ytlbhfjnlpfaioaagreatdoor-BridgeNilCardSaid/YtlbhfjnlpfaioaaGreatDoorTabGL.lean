/- A closed fact of the row of BridgeNil: the harness. -/
import Derived.Test.YtlbhfjnlpfaioaaGreatDoorRows
import Derived.Test.YtlbhfjnlpfaioaaGreatDoorChecked
import Derived.KernelRfl
import Derived.SevenTiedAt
namespace Go.Proofs.YtlbhfjnlpfaioaaGreatDoor
open Go
theorem bridgeNil_main : Tryz.pinned.checked.prog.mainIs = some ((true : Bool), "3bd34a57a911344065be99a3bcceb5c68040ae55eec5caabc75de999de299ce5".toList) := by kernel_rfl
theorem bridgeNil_fn : Tryz.prog.funcNamed "moneyer/moneyerlaw30.BridgeNil" = some 4 := by kernel_rfl
end Go.Proofs.YtlbhfjnlpfaioaaGreatDoor
