/- The closed facts of the row fullNilRow, joined. -/
import Derived.Test.YtjbgdnnhdmkflaaGreatDoorTabGA
import Derived.Test.YtjbgdnnhdmkflaaGreatDoorTabGB
import Derived.Test.YtjbgdnnhdmkflaaGreatDoorTabGC
import Derived.Test.YtjbgdnnhdmkflaaGreatDoorTabGD
import Derived.Test.YtjbgdnnhdmkflaaGreatDoorTabGE
namespace Go.Proofs.YtjbgdnnhdmkflaaGreatDoor
open Go
theorem band {a b : Bool} (h : a = true) (k : b = true) : (a && b) = true := by rw [h, k]; rfl
set_option maxRecDepth 100000 in
theorem fullNilRow_facts : joinedFacts Tryz.prog 3 Tryz.f3 Rows.fullNilSpec Rows.fullNilRow = true := by
  unfold joinedFacts
  exact band (band (band (band (band (band (band (band (band (band (band (band (band (band (band (band (band (band (band (band (band (band (band (band (band (band (band (band (band (band (band fullNilRow_k0 fullNilRow_k1) fullNilRow_k2) fullNilRow_k3) fullNilRow_k4) fullNilRow_k5) fullNilRow_k6) fullNilRow_k7) fullNilRow_k8) fullNilRow_k9) fullNilRow_k10) fullNilRow_k11) fullNilRow_k12) fullNilRow_k13) fullNilRow_k14) fullNilRow_k15) fullNilRow_k16) fullNilRow_k17) fullNilRow_k18) fullNilRow_k19) fullNilRow_k20) fullNilRow_k21) fullNilRow_k22) fullNilRow_k23) fullNilRow_k24) fullNilRow_k25) fullNilRow_k26) fullNilRow_k27) fullNilRow_k28) fullNilRow_k29) fullNilRow_k30) fullNilRow_k31
end Go.Proofs.YtjbgdnnhdmkflaaGreatDoor
