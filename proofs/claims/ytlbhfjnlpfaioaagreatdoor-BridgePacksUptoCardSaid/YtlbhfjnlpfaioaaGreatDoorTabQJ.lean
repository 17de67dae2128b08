/- The closed facts of the row bridgePacksUptoRow, joined. -/
import Derived.Test.YtlbhfjnlpfaioaaGreatDoorTabQA
import Derived.Test.YtlbhfjnlpfaioaaGreatDoorTabQB
import Derived.Test.YtlbhfjnlpfaioaaGreatDoorTabQC
import Derived.Test.YtlbhfjnlpfaioaaGreatDoorTabQD
import Derived.Test.YtlbhfjnlpfaioaaGreatDoorTabQE
namespace Go.Proofs.YtlbhfjnlpfaioaaGreatDoor
open Go
theorem band {a b : Bool} (h : a = true) (k : b = true) : (a && b) = true := by rw [h, k]; rfl
set_option maxRecDepth 100000 in
theorem bridgePacksUptoRow_facts : joinedFacts Tryz.prog 3 Tryz.f3 Rows.bridgePacksSpec Rows.bridgePacksUptoRow = true := by
  unfold joinedFacts
  exact band (band (band (band (band (band (band (band (band (band (band (band (band (band (band (band (band (band (band (band (band (band (band (band (band (band (band (band (band (band (band bridgePacksUptoRow_k0 bridgePacksUptoRow_k1) bridgePacksUptoRow_k2) bridgePacksUptoRow_k3) bridgePacksUptoRow_k4) bridgePacksUptoRow_k5) bridgePacksUptoRow_k6) bridgePacksUptoRow_k7) bridgePacksUptoRow_k8) bridgePacksUptoRow_k9) bridgePacksUptoRow_k10) bridgePacksUptoRow_k11) bridgePacksUptoRow_k12) bridgePacksUptoRow_k13) bridgePacksUptoRow_k14) bridgePacksUptoRow_k15) bridgePacksUptoRow_k16) bridgePacksUptoRow_k17) bridgePacksUptoRow_k18) bridgePacksUptoRow_k19) bridgePacksUptoRow_k20) bridgePacksUptoRow_k21) bridgePacksUptoRow_k22) bridgePacksUptoRow_k23) bridgePacksUptoRow_k24) bridgePacksUptoRow_k25) bridgePacksUptoRow_k26) bridgePacksUptoRow_k27) bridgePacksUptoRow_k28) bridgePacksUptoRow_k29) bridgePacksUptoRow_k30) bridgePacksUptoRow_k31
end Go.Proofs.YtlbhfjnlpfaioaaGreatDoor
