/- Closed facts of the row bridgePacksUptoRow, one by one. -/
import Derived.Test.YtlbhfjnlpfaioaaGreatDoorRows
import Derived.Test.YtlbhfjnlpfaioaaGreatDoorProg
import Derived.JoinedOf
import Derived.KernelRfl
namespace Go.Proofs.YtlbhfjnlpfaioaaGreatDoor
open Go
set_option maxRecDepth 100000 in
theorem bridgePacksUptoRow_k0 : (Rows.bridgePacksUptoRow.wf (OpenSpec.ofChange Rows.bridgePacksSpec) : Bool) = true := by kernel_rfl
set_option maxRecDepth 100000 in
theorem bridgePacksUptoRow_k1 : (laidOutB Tryz.prog : Bool) = true := by kernel_rfl
set_option maxRecDepth 100000 in
theorem bridgePacksUptoRow_k2 : (mapsRowed Tryz.prog : Bool) = true := by kernel_rfl
set_option maxRecDepth 100000 in
theorem bridgePacksUptoRow_k3 : (Tryz.f3.params.all (Tryz.prog.readableRec ·) : Bool) = true := by kernel_rfl
set_option maxRecDepth 100000 in
theorem bridgePacksUptoRow_k4 : (namedTie Tryz.prog Rows.bridgePacksUptoRow.named Rows.bridgePacksSpec.vars : Bool) = true := by kernel_rfl
set_option maxRecDepth 100000 in
theorem bridgePacksUptoRow_k5 : ((Rows.bridgePacksUptoRow.stops == []) : Bool) = true := by kernel_rfl
set_option maxRecDepth 100000 in
theorem bridgePacksUptoRow_k6 : ((Tryz.prog.stops == []) : Bool) = true := by kernel_rfl
set_option maxRecDepth 100000 in
theorem bridgePacksUptoRow_k7 : ((Rows.bridgePacksUptoRow.knobs == []) : Bool) = true := by kernel_rfl
set_option maxRecDepth 100000 in
theorem bridgePacksUptoRow_k8 : ((Tryz.prog.stopKnobs == []) : Bool) = true := by kernel_rfl
set_option maxRecDepth 100000 in
theorem bridgePacksUptoRow_k13 : ((Rows.bridgePacksUptoRow.maps == (Tryz.f3.params.toList ++ Rows.bridgePacksSpec.plain.varTypes Tryz.prog).any (Tryz.prog.mapsRec ·)) : Bool) = true := by kernel_rfl
set_option maxRecDepth 100000 in
theorem bridgePacksUptoRow_k14 : ((Rows.bridgePacksUptoRow.ifaces == (Tryz.f3.params.toList ++ Rows.bridgePacksSpec.plain.varTypes Tryz.prog).any (Tryz.prog.ifacesRec ·)) : Bool) = true := by kernel_rfl
set_option maxRecDepth 100000 in
theorem bridgePacksUptoRow_k15 : ((Rows.bridgePacksUptoRow.mapsOut == Tryz.prog.mapsAmong Tryz.f3.resultTypes.toList) : Bool) = true := by kernel_rfl
set_option maxRecDepth 100000 in
theorem bridgePacksUptoRow_k16 : ((Rows.bridgePacksUptoRow.loops == (Tryz.f3.params.toList ++ Rows.bridgePacksSpec.plain.varTypes Tryz.prog).any (Tryz.prog.loopsFrom ·)) : Bool) = true := by kernel_rfl
set_option maxRecDepth 100000 in
theorem bridgePacksUptoRow_k17 : ((Rows.bridgePacksUptoRow.wideKeys == (Tryz.f3.params.toList ++ Rows.bridgePacksSpec.plain.varTypes Tryz.prog ++ Tryz.f3.resultTypes.toList).any (Tryz.prog.wideKeysFrom ·)) : Bool) = true := by kernel_rfl
set_option maxRecDepth 100000 in
theorem bridgePacksUptoRow_k18 : (Rows.bridgePacksSpec.vars.all (Tryz.prog.varReadable ·) : Bool) = true := by kernel_rfl
set_option maxRecDepth 100000 in
theorem bridgePacksUptoRow_k19 : (Tryz.f3.resultTypes.all (fun t => Tryz.prog.readableRec t && decide (t < Tryz.prog.types.size)) : Bool) = true := by kernel_rfl
set_option maxRecDepth 100000 in
theorem bridgePacksUptoRow_k20 : ((Rows.bridgePacksUptoRow.ifacesOut == Tryz.f3.resultTypes.toList.any (Tryz.prog.ifacesRec ·)) : Bool) = true := by kernel_rfl
set_option maxRecDepth 100000 in
theorem bridgePacksUptoRow_k21 : ((Rows.bridgePacksUptoRow.loopsOut == Tryz.f3.resultTypes.toList.any (Tryz.prog.loopsFrom ·)) : Bool) = true := by kernel_rfl
set_option maxRecDepth 100000 in
theorem bridgePacksUptoRow_k22 : ((Rows.bridgePacksUptoRow.plainKeys == Tryz.prog.plainKeys) : Bool) = true := by kernel_rfl
set_option maxRecDepth 100000 in
theorem bridgePacksUptoRow_k23 : (Rows.bridgePacksUptoRow.shortTexts.isNone : Bool) = true := by kernel_rfl
set_option maxRecDepth 100000 in
theorem bridgePacksUptoRow_k24 : (Tryz.prog.stopsHeard : Bool) = true := by kernel_rfl
set_option maxRecDepth 100000 in
theorem bridgePacksUptoRow_k25 : (Tryz.prog.mayEnter : Bool) = true := by kernel_rfl
set_option maxRecDepth 100000 in
theorem bridgePacksUptoRow_k26 : ((Rows.bridgePacksUptoRow.lifted == Tryz.prog.liftsFinal) : Bool) = true := by kernel_rfl
set_option maxRecDepth 100000 in
theorem bridgePacksUptoRow_k27 : ((Tryz.prog.make == some Rows.bridgePacksUptoRow.make) : Bool) = true := by kernel_rfl
set_option maxRecDepth 100000 in
theorem bridgePacksUptoRow_k28 : ((Rows.bridgePacksUptoRow.kinds == (if Rows.bridgePacksUptoRow.domain.isEmpty then [] else Tryz.f3.params.toList.map fun t => match Tryz.prog.underlying t with | some (.int k) => some k | _ => none)) : Bool) = true := by kernel_rfl
set_option maxRecDepth 100000 in
theorem bridgePacksUptoRow_k29 : ((Rows.bridgePacksUptoRow.pinned == Rows.bridgePacksUptoRow.pinnedBy) : Bool) = true := by kernel_rfl
set_option maxRecDepth 100000 in
theorem bridgePacksUptoRow_k30 : ((Rows.bridgePacksUptoRow.veiled == (Tryz.f3.params.toList ++ Rows.bridgePacksSpec.plain.varTypes Tryz.prog ++ Tryz.f3.resultTypes.toList).any (Tryz.prog.veiledRec ·)) : Bool) = true := by kernel_rfl
set_option maxRecDepth 100000 in
theorem bridgePacksUptoRow_k31 : (Rows.bridgePacksUptoRow.veiledFits Tryz.prog Tryz.f3.params.toList (Tryz.f3.params.toList ++ Rows.bridgePacksSpec.plain.varTypes Tryz.prog ++ Tryz.f3.resultTypes.toList) : Bool) = true := by kernel_rfl
end Go.Proofs.YtlbhfjnlpfaioaaGreatDoor
