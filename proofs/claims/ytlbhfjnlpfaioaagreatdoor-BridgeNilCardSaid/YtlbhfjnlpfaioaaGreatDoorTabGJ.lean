/- The closed facts of the row bridgeNilRow, joined. -/
import Derived.Test.YtlbhfjnlpfaioaaGreatDoorTabGA
import Derived.Test.YtlbhfjnlpfaioaaGreatDoorTabGB
import Derived.Test.YtlbhfjnlpfaioaaGreatDoorTabGC
import Derived.Test.YtlbhfjnlpfaioaaGreatDoorTabGD
import Derived.Test.YtlbhfjnlpfaioaaGreatDoorTabGE
namespace Go.Proofs.YtlbhfjnlpfaioaaGreatDoor
open Go
theorem band {a b : Bool} (h : a = true) (k : b = true) : (a && b) = true := by rw [h, k]; rfl
set_option maxRecDepth 100000 in
theorem bridgeNilRow_facts : joinedFacts Tryz.prog 4 Tryz.f4 Rows.bridgeNilSpec Rows.bridgeNilRow = true := by
  unfold joinedFacts
  exact band (band (band (band (band (band (band (band (band (band (band (band (band (band (band (band (band (band (band (band (band (band (band (band (band (band (band (band (band (band (band bridgeNilRow_k0 bridgeNilRow_k1) bridgeNilRow_k2) bridgeNilRow_k3) bridgeNilRow_k4) bridgeNilRow_k5) bridgeNilRow_k6) bridgeNilRow_k7) bridgeNilRow_k8) bridgeNilRow_k9) bridgeNilRow_k10) bridgeNilRow_k11) bridgeNilRow_k12) bridgeNilRow_k13) bridgeNilRow_k14) bridgeNilRow_k15) bridgeNilRow_k16) bridgeNilRow_k17) bridgeNilRow_k18) bridgeNilRow_k19) bridgeNilRow_k20) bridgeNilRow_k21) bridgeNilRow_k22) bridgeNilRow_k23) bridgeNilRow_k24) bridgeNilRow_k25) bridgeNilRow_k26) bridgeNilRow_k27) bridgeNilRow_k28) bridgeNilRow_k29) bridgeNilRow_k30) bridgeNilRow_k31
end Go.Proofs.YtlbhfjnlpfaioaaGreatDoor
