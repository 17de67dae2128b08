/- The closed facts of the row slimNilRow, joined. -/
import Derived.Test.YtiicjdicmgdcbaaGreatDoorTabGA
import Derived.Test.YtiicjdicmgdcbaaGreatDoorTabGB
import Derived.Test.YtiicjdicmgdcbaaGreatDoorTabGC
import Derived.Test.YtiicjdicmgdcbaaGreatDoorTabGD
import Derived.Test.YtiicjdicmgdcbaaGreatDoorTabGE
namespace Go.Proofs.YtiicjdicmgdcbaaGreatDoor
open Go
theorem band {a b : Bool} (h : a = true) (k : b = true) : (a && b) = true := by rw [h, k]; rfl
set_option maxRecDepth 100000 in
theorem slimNilRow_facts : joinedFacts Tryz.prog 3 Tryz.f3 Rows.slimNilSpec Rows.slimNilRow = true := by
  unfold joinedFacts
  exact band (band (band (band (band (band (band (band (band (band (band (band (band (band (band (band (band (band (band (band (band (band (band (band (band (band (band (band (band (band (band slimNilRow_k0 slimNilRow_k1) slimNilRow_k2) slimNilRow_k3) slimNilRow_k4) slimNilRow_k5) slimNilRow_k6) slimNilRow_k7) slimNilRow_k8) slimNilRow_k9) slimNilRow_k10) slimNilRow_k11) slimNilRow_k12) slimNilRow_k13) slimNilRow_k14) slimNilRow_k15) slimNilRow_k16) slimNilRow_k17) slimNilRow_k18) slimNilRow_k19) slimNilRow_k20) slimNilRow_k21) slimNilRow_k22) slimNilRow_k23) slimNilRow_k24) slimNilRow_k25) slimNilRow_k26) slimNilRow_k27) slimNilRow_k28) slimNilRow_k29) slimNilRow_k30) slimNilRow_k31
end Go.Proofs.YtiicjdicmgdcbaaGreatDoor
