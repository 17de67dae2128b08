/- Closed facts of the row bridgeNilRow, one by one. -/
import Derived.Test.YtlbhfjnlpfaioaaGreatDoorRows
import Derived.Test.YtlbhfjnlpfaioaaGreatDoorProg
import Derived.JoinedOf
import Derived.KernelRfl
namespace Go.Proofs.YtlbhfjnlpfaioaaGreatDoor
open Go
set_option maxRecDepth 100000 in
theorem bridgeNilRow_k0 : (Rows.bridgeNilRow.wf (OpenSpec.ofChange Rows.bridgeNilSpec) : Bool) = true := by kernel_rfl
set_option maxRecDepth 100000 in
theorem bridgeNilRow_k1 : (laidOutB Tryz.prog : Bool) = true := by kernel_rfl
set_option maxRecDepth 100000 in
theorem bridgeNilRow_k2 : (mapsRowed Tryz.prog : Bool) = true := by kernel_rfl
set_option maxRecDepth 100000 in
theorem bridgeNilRow_k3 : (Tryz.f4.params.all (Tryz.prog.readableRec ·) : Bool) = true := by kernel_rfl
set_option maxRecDepth 100000 in
theorem bridgeNilRow_k4 : (namedTie Tryz.prog Rows.bridgeNilRow.named Rows.bridgeNilSpec.vars : Bool) = true := by kernel_rfl
set_option maxRecDepth 100000 in
theorem bridgeNilRow_k5 : ((Rows.bridgeNilRow.stops == []) : Bool) = true := by kernel_rfl
set_option maxRecDepth 100000 in
theorem bridgeNilRow_k6 : ((Tryz.prog.stops == []) : Bool) = true := by kernel_rfl
set_option maxRecDepth 100000 in
theorem bridgeNilRow_k7 : ((Rows.bridgeNilRow.knobs == []) : Bool) = true := by kernel_rfl
set_option maxRecDepth 100000 in
theorem bridgeNilRow_k8 : ((Tryz.prog.stopKnobs == []) : Bool) = true := by kernel_rfl
set_option maxRecDepth 100000 in
theorem bridgeNilRow_k13 : ((Rows.bridgeNilRow.maps == (Tryz.f4.params.toList ++ Rows.bridgeNilSpec.plain.varTypes Tryz.prog).any (Tryz.prog.mapsRec ·)) : Bool) = true := by kernel_rfl
set_option maxRecDepth 100000 in
theorem bridgeNilRow_k14 : ((Rows.bridgeNilRow.ifaces == (Tryz.f4.params.toList ++ Rows.bridgeNilSpec.plain.varTypes Tryz.prog).any (Tryz.prog.ifacesRec ·)) : Bool) = true := by kernel_rfl
set_option maxRecDepth 100000 in
theorem bridgeNilRow_k15 : ((Rows.bridgeNilRow.mapsOut == Tryz.prog.mapsAmong Tryz.f4.resultTypes.toList) : Bool) = true := by kernel_rfl
set_option maxRecDepth 100000 in
theorem bridgeNilRow_k16 : ((Rows.bridgeNilRow.loops == (Tryz.f4.params.toList ++ Rows.bridgeNilSpec.plain.varTypes Tryz.prog).any (Tryz.prog.loopsFrom ·)) : Bool) = true := by kernel_rfl
set_option maxRecDepth 100000 in
theorem bridgeNilRow_k17 : ((Rows.bridgeNilRow.wideKeys == (Tryz.f4.params.toList ++ Rows.bridgeNilSpec.plain.varTypes Tryz.prog ++ Tryz.f4.resultTypes.toList).any (Tryz.prog.wideKeysFrom ·)) : Bool) = true := by kernel_rfl
set_option maxRecDepth 100000 in
theorem bridgeNilRow_k18 : (Rows.bridgeNilSpec.vars.all (Tryz.prog.varReadable ·) : Bool) = true := by kernel_rfl
set_option maxRecDepth 100000 in
theorem bridgeNilRow_k19 : (Tryz.f4.resultTypes.all (fun t => Tryz.prog.readableRec t && decide (t < Tryz.prog.types.size)) : Bool) = true := by kernel_rfl
set_option maxRecDepth 100000 in
theorem bridgeNilRow_k20 : ((Rows.bridgeNilRow.ifacesOut == Tryz.f4.resultTypes.toList.any (Tryz.prog.ifacesRec ·)) : Bool) = true := by kernel_rfl
set_option maxRecDepth 100000 in
theorem bridgeNilRow_k21 : ((Rows.bridgeNilRow.loopsOut == Tryz.f4.resultTypes.toList.any (Tryz.prog.loopsFrom ·)) : Bool) = true := by kernel_rfl
set_option maxRecDepth 100000 in
theorem bridgeNilRow_k22 : ((Rows.bridgeNilRow.plainKeys == Tryz.prog.plainKeys) : Bool) = true := by kernel_rfl
set_option maxRecDepth 100000 in
theorem bridgeNilRow_k23 : (Rows.bridgeNilRow.shortTexts.isNone : Bool) = true := by kernel_rfl
set_option maxRecDepth 100000 in
theorem bridgeNilRow_k24 : (Tryz.prog.stopsHeard : Bool) = true := by kernel_rfl
set_option maxRecDepth 100000 in
theorem bridgeNilRow_k25 : (Tryz.prog.mayEnter : Bool) = true := by kernel_rfl
set_option maxRecDepth 100000 in
theorem bridgeNilRow_k26 : ((Rows.bridgeNilRow.lifted == Tryz.prog.liftsFinal) : Bool) = true := by kernel_rfl
set_option maxRecDepth 100000 in
theorem bridgeNilRow_k27 : ((Tryz.prog.make == some Rows.bridgeNilRow.make) : Bool) = true := by kernel_rfl
set_option maxRecDepth 100000 in
theorem bridgeNilRow_k28 : ((Rows.bridgeNilRow.kinds == (if Rows.bridgeNilRow.domain.isEmpty then [] else Tryz.f4.params.toList.map fun t => match Tryz.prog.underlying t with | some (.int k) => some k | _ => none)) : Bool) = true := by kernel_rfl
set_option maxRecDepth 100000 in
theorem bridgeNilRow_k29 : ((Rows.bridgeNilRow.pinned == Rows.bridgeNilRow.pinnedBy) : Bool) = true := by kernel_rfl
set_option maxRecDepth 100000 in
theorem bridgeNilRow_k30 : ((Rows.bridgeNilRow.veiled == (Tryz.f4.params.toList ++ Rows.bridgeNilSpec.plain.varTypes Tryz.prog ++ Tryz.f4.resultTypes.toList).any (Tryz.prog.veiledRec ·)) : Bool) = true := by kernel_rfl
set_option maxRecDepth 100000 in
theorem bridgeNilRow_k31 : (Rows.bridgeNilRow.veiledFits Tryz.prog Tryz.f4.params.toList (Tryz.f4.params.toList ++ Rows.bridgeNilSpec.plain.varTypes Tryz.prog ++ Tryz.f4.resultTypes.toList) : Bool) = true := by kernel_rfl
end Go.Proofs.YtlbhfjnlpfaioaaGreatDoor
