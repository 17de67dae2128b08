/- Closed facts of the row slimNilRow, one by one. -/
import Derived.Test.YtiicjdicmgdcbaaGreatDoorRows
import Derived.Test.YtiicjdicmgdcbaaGreatDoorProg
import Derived.JoinedOf
import Derived.KernelRfl
namespace Go.Proofs.YtiicjdicmgdcbaaGreatDoor
open Go
set_option maxRecDepth 100000 in
theorem slimNilRow_k0 : (Rows.slimNilRow.wf (OpenSpec.ofChange Rows.slimNilSpec) : Bool) = true := by kernel_rfl
set_option maxRecDepth 100000 in
theorem slimNilRow_k1 : (laidOutB Tryz.prog : Bool) = true := by kernel_rfl
set_option maxRecDepth 100000 in
theorem slimNilRow_k2 : (mapsRowed Tryz.prog : Bool) = true := by kernel_rfl
set_option maxRecDepth 100000 in
theorem slimNilRow_k3 : (Tryz.f3.params.all (Tryz.prog.readableRec ·) : Bool) = true := by kernel_rfl
set_option maxRecDepth 100000 in
theorem slimNilRow_k4 : (namedTie Tryz.prog Rows.slimNilRow.named Rows.slimNilSpec.vars : Bool) = true := by kernel_rfl
set_option maxRecDepth 100000 in
theorem slimNilRow_k5 : ((Rows.slimNilRow.stops == []) : Bool) = true := by kernel_rfl
set_option maxRecDepth 100000 in
theorem slimNilRow_k6 : ((Tryz.prog.stops == []) : Bool) = true := by kernel_rfl
set_option maxRecDepth 100000 in
theorem slimNilRow_k7 : ((Rows.slimNilRow.knobs == []) : Bool) = true := by kernel_rfl
set_option maxRecDepth 100000 in
theorem slimNilRow_k8 : ((Tryz.prog.stopKnobs == []) : Bool) = true := by kernel_rfl
set_option maxRecDepth 100000 in
theorem slimNilRow_k13 : ((Rows.slimNilRow.maps == (Tryz.f3.params.toList ++ Rows.slimNilSpec.plain.varTypes Tryz.prog).any (Tryz.prog.mapsRec ·)) : Bool) = true := by kernel_rfl
set_option maxRecDepth 100000 in
theorem slimNilRow_k14 : ((Rows.slimNilRow.ifaces == (Tryz.f3.params.toList ++ Rows.slimNilSpec.plain.varTypes Tryz.prog).any (Tryz.prog.ifacesRec ·)) : Bool) = true := by kernel_rfl
set_option maxRecDepth 100000 in
theorem slimNilRow_k15 : ((Rows.slimNilRow.mapsOut == Tryz.prog.mapsAmong Tryz.f3.resultTypes.toList) : Bool) = true := by kernel_rfl
set_option maxRecDepth 100000 in
theorem slimNilRow_k16 : ((Rows.slimNilRow.loops == (Tryz.f3.params.toList ++ Rows.slimNilSpec.plain.varTypes Tryz.prog).any (Tryz.prog.loopsFrom ·)) : Bool) = true := by kernel_rfl
set_option maxRecDepth 100000 in
theorem slimNilRow_k17 : ((Rows.slimNilRow.wideKeys == (Tryz.f3.params.toList ++ Rows.slimNilSpec.plain.varTypes Tryz.prog ++ Tryz.f3.resultTypes.toList).any (Tryz.prog.wideKeysFrom ·)) : Bool) = true := by kernel_rfl
set_option maxRecDepth 100000 in
theorem slimNilRow_k18 : (Rows.slimNilSpec.vars.all (Tryz.prog.varReadable ·) : Bool) = true := by kernel_rfl
set_option maxRecDepth 100000 in
theorem slimNilRow_k19 : (Tryz.f3.resultTypes.all (fun t => Tryz.prog.readableRec t && decide (t < Tryz.prog.types.size)) : Bool) = true := by kernel_rfl
set_option maxRecDepth 100000 in
theorem slimNilRow_k20 : ((Rows.slimNilRow.ifacesOut == Tryz.f3.resultTypes.toList.any (Tryz.prog.ifacesRec ·)) : Bool) = true := by kernel_rfl
set_option maxRecDepth 100000 in
theorem slimNilRow_k21 : ((Rows.slimNilRow.loopsOut == Tryz.f3.resultTypes.toList.any (Tryz.prog.loopsFrom ·)) : Bool) = true := by kernel_rfl
set_option maxRecDepth 100000 in
theorem slimNilRow_k22 : ((Rows.slimNilRow.plainKeys == Tryz.prog.plainKeys) : Bool) = true := by kernel_rfl
set_option maxRecDepth 100000 in
theorem slimNilRow_k23 : (Rows.slimNilRow.shortTexts.isNone : Bool) = true := by kernel_rfl
set_option maxRecDepth 100000 in
theorem slimNilRow_k24 : (Tryz.prog.stopsHeard : Bool) = true := by kernel_rfl
set_option maxRecDepth 100000 in
theorem slimNilRow_k25 : (Tryz.prog.mayEnter : Bool) = true := by kernel_rfl
set_option maxRecDepth 100000 in
theorem slimNilRow_k26 : ((Rows.slimNilRow.lifted == Tryz.prog.liftsFinal) : Bool) = true := by kernel_rfl
set_option maxRecDepth 100000 in
theorem slimNilRow_k27 : ((Tryz.prog.make == some Rows.slimNilRow.make) : Bool) = true := by kernel_rfl
set_option maxRecDepth 100000 in
theorem slimNilRow_k28 : ((Rows.slimNilRow.kinds == (if Rows.slimNilRow.domain.isEmpty then [] else Tryz.f3.params.toList.map fun t => match Tryz.prog.underlying t with | some (.int k) => some k | _ => none)) : Bool) = true := by kernel_rfl
set_option maxRecDepth 100000 in
theorem slimNilRow_k29 : ((Rows.slimNilRow.pinned == Rows.slimNilRow.pinnedBy) : Bool) = true := by kernel_rfl
set_option maxRecDepth 100000 in
theorem slimNilRow_k30 : ((Rows.slimNilRow.veiled == (Tryz.f3.params.toList ++ Rows.slimNilSpec.plain.varTypes Tryz.prog ++ Tryz.f3.resultTypes.toList).any (Tryz.prog.veiledRec ·)) : Bool) = true := by kernel_rfl
set_option maxRecDepth 100000 in
theorem slimNilRow_k31 : (Rows.slimNilRow.veiledFits Tryz.prog Tryz.f3.params.toList (Tryz.f3.params.toList ++ Rows.slimNilSpec.plain.varTypes Tryz.prog ++ Tryz.f3.resultTypes.toList) : Bool) = true := by kernel_rfl
end Go.Proofs.YtiicjdicmgdcbaaGreatDoor
