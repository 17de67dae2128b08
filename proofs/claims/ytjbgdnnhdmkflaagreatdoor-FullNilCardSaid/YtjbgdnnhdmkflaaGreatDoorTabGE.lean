/- Closed facts of the row fullNilRow, one by one. -/
import Derived.Test.YtjbgdnnhdmkflaaGreatDoorRows
import Derived.Test.YtjbgdnnhdmkflaaGreatDoorProg
import Derived.JoinedOf
import Derived.KernelRfl
namespace Go.Proofs.YtjbgdnnhdmkflaaGreatDoor
open Go
set_option maxRecDepth 100000 in
theorem fullNilRow_k0 : (Rows.fullNilRow.wf (OpenSpec.ofChange Rows.fullNilSpec) : Bool) = true := by kernel_rfl
set_option maxRecDepth 100000 in
theorem fullNilRow_k1 : (laidOutB Tryz.prog : Bool) = true := by kernel_rfl
set_option maxRecDepth 100000 in
theorem fullNilRow_k2 : (mapsRowed Tryz.prog : Bool) = true := by kernel_rfl
set_option maxRecDepth 100000 in
theorem fullNilRow_k3 : (Tryz.f3.params.all (Tryz.prog.readableRec ·) : Bool) = true := by kernel_rfl
set_option maxRecDepth 100000 in
theorem fullNilRow_k4 : (namedTie Tryz.prog Rows.fullNilRow.named Rows.fullNilSpec.vars : Bool) = true := by kernel_rfl
set_option maxRecDepth 100000 in
theorem fullNilRow_k5 : ((Rows.fullNilRow.stops == []) : Bool) = true := by kernel_rfl
set_option maxRecDepth 100000 in
theorem fullNilRow_k6 : ((Tryz.prog.stops == []) : Bool) = true := by kernel_rfl
set_option maxRecDepth 100000 in
theorem fullNilRow_k7 : ((Rows.fullNilRow.knobs == []) : Bool) = true := by kernel_rfl
set_option maxRecDepth 100000 in
theorem fullNilRow_k8 : ((Tryz.prog.stopKnobs == []) : Bool) = true := by kernel_rfl
set_option maxRecDepth 100000 in
theorem fullNilRow_k13 : ((Rows.fullNilRow.maps == (Tryz.f3.params.toList ++ Rows.fullNilSpec.plain.varTypes Tryz.prog).any (Tryz.prog.mapsRec ·)) : Bool) = true := by kernel_rfl
set_option maxRecDepth 100000 in
theorem fullNilRow_k14 : ((Rows.fullNilRow.ifaces == (Tryz.f3.params.toList ++ Rows.fullNilSpec.plain.varTypes Tryz.prog).any (Tryz.prog.ifacesRec ·)) : Bool) = true := by kernel_rfl
set_option maxRecDepth 100000 in
theorem fullNilRow_k15 : ((Rows.fullNilRow.mapsOut == Tryz.prog.mapsAmong Tryz.f3.resultTypes.toList) : Bool) = true := by kernel_rfl
set_option maxRecDepth 100000 in
theorem fullNilRow_k16 : ((Rows.fullNilRow.loops == (Tryz.f3.params.toList ++ Rows.fullNilSpec.plain.varTypes Tryz.prog).any (Tryz.prog.loopsFrom ·)) : Bool) = true := by kernel_rfl
set_option maxRecDepth 100000 in
theorem fullNilRow_k17 : ((Rows.fullNilRow.wideKeys == (Tryz.f3.params.toList ++ Rows.fullNilSpec.plain.varTypes Tryz.prog ++ Tryz.f3.resultTypes.toList).any (Tryz.prog.wideKeysFrom ·)) : Bool) = true := by kernel_rfl
set_option maxRecDepth 100000 in
theorem fullNilRow_k18 : (Rows.fullNilSpec.vars.all (Tryz.prog.varReadable ·) : Bool) = true := by kernel_rfl
set_option maxRecDepth 100000 in
theorem fullNilRow_k19 : (Tryz.f3.resultTypes.all (fun t => Tryz.prog.readableRec t && decide (t < Tryz.prog.types.size)) : Bool) = true := by kernel_rfl
set_option maxRecDepth 100000 in
theorem fullNilRow_k20 : ((Rows.fullNilRow.ifacesOut == Tryz.f3.resultTypes.toList.any (Tryz.prog.ifacesRec ·)) : Bool) = true := by kernel_rfl
set_option maxRecDepth 100000 in
theorem fullNilRow_k21 : ((Rows.fullNilRow.loopsOut == Tryz.f3.resultTypes.toList.any (Tryz.prog.loopsFrom ·)) : Bool) = true := by kernel_rfl
set_option maxRecDepth 100000 in
theorem fullNilRow_k22 : ((Rows.fullNilRow.plainKeys == Tryz.prog.plainKeys) : Bool) = true := by kernel_rfl
set_option maxRecDepth 100000 in
theorem fullNilRow_k23 : (Rows.fullNilRow.shortTexts.isNone : Bool) = true := by kernel_rfl
set_option maxRecDepth 100000 in
theorem fullNilRow_k24 : (Tryz.prog.stopsHeard : Bool) = true := by kernel_rfl
set_option maxRecDepth 100000 in
theorem fullNilRow_k25 : (Tryz.prog.mayEnter : Bool) = true := by kernel_rfl
set_option maxRecDepth 100000 in
theorem fullNilRow_k26 : ((Rows.fullNilRow.lifted == Tryz.prog.liftsFinal) : Bool) = true := by kernel_rfl
set_option maxRecDepth 100000 in
theorem fullNilRow_k27 : ((Tryz.prog.make == some Rows.fullNilRow.make) : Bool) = true := by kernel_rfl
set_option maxRecDepth 100000 in
theorem fullNilRow_k28 : ((Rows.fullNilRow.kinds == (if Rows.fullNilRow.domain.isEmpty then [] else Tryz.f3.params.toList.map fun t => match Tryz.prog.underlying t with | some (.int k) => some k | _ => none)) : Bool) = true := by kernel_rfl
set_option maxRecDepth 100000 in
theorem fullNilRow_k29 : ((Rows.fullNilRow.pinned == Rows.fullNilRow.pinnedBy) : Bool) = true := by kernel_rfl
set_option maxRecDepth 100000 in
theorem fullNilRow_k30 : ((Rows.fullNilRow.veiled == (Tryz.f3.params.toList ++ Rows.fullNilSpec.plain.varTypes Tryz.prog ++ Tryz.f3.resultTypes.toList).any (Tryz.prog.veiledRec ·)) : Bool) = true := by kernel_rfl
set_option maxRecDepth 100000 in
theorem fullNilRow_k31 : (Rows.fullNilRow.veiledFits Tryz.prog Tryz.f3.params.toList (Tryz.f3.params.toList ++ Rows.fullNilSpec.plain.varTypes Tryz.prog ++ Tryz.f3.resultTypes.toList) : Bool) = true := by kernel_rfl
end Go.Proofs.YtjbgdnnhdmkflaaGreatDoor
