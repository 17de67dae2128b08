/- BridgePacks: the statement of the row's second form. -/
import Derived.Test.YtlbhfjnlpfaioaaGreatDoorTabP11
import Derived.Test.YtlbhfjnlpfaioaaGreatDoorRows
namespace Go.Proofs.YtlbhfjnlpfaioaaGreatDoor
open Go Go.Eng Go.ChangeShapes Go.WideShapes Go.ChangeAt Go.RowKit

def wArgs : Array Value := #[.slice none 0 0, .slice none 0 0, .agg #[.slice none 0 0, .slice none 0 0]]
theorem door_met (os : Os) (args : Array Value) : laidMetH Tryz.prog Rows.bridgePacksUptoRow.laid ((World.doorLaid Tryz.prog 30 os).forCall (fun _ _ => 0) ⟨#[], args, []⟩).memory :=
  laidMetH_of_parts3 (fuel := 8) (laidMet_of_run' 8 (by kernel_rfl) (by kernel_rfl)) (by kernel_rfl) (by kernel_rfl)
set_option maxRecDepth 100000 in
theorem reads (os : Os) {H : Type} (enc : TypeId × Value → H) : DataW.whole enc Tryz.prog ((World.doorLaid Tryz.prog 30 os).forCall (fun _ _ => 0) ⟨#[], wArgs, []⟩).memory Tryz.f3.params.toList Rows.bridgePacksSpec.vars false wArgs.toList 8 = some ([.nil, .nil, .agg [.nil, .nil]], [], []) := by kernel_rfl

set_option maxRecDepth 100000 in
theorem packs_lifted (os : Os) (started : os.Started) (H : Type) (enc : TypeId × Value → H) (F : Stop.Interp) :
    ReturnsInHanded {} Tryz.checked os 3 .any ((Rows.OpenSpec.upto Rows.bridgePacksSpec).preRow enc Tryz.prog Tryz.f3 Rows.bridgePacksUptoRow.domain false Rows.bridgePacksUptoRow.laid) (((Rows.OpenSpec.upto Rows.bridgePacksSpec).at F).post enc Tryz.prog Tryz.f3 false true false false) := by
  refine returnsInHanded_of_row (C := Tryz.checked) (s := Rows.OpenSpec.upto Rows.bridgePacksSpec) own started (by kernel_rfl) Tryz.func3
    (witness_row_atRef (enc := enc) (C := Tryz.checked) false (World.doorLaid Tryz.prog 30 os) wArgs rfl (by kernel_rfl) (by kernel_rfl) (by kernel_rfl)
      (OpenSpec.preRow_of_cond 8 (reads os enc) (by kernel_rfl) (fun k hk => by cases hk; kernel_rfl) (by kernel_rfl) (door_met os _))) ?_
  intro W base args ds gs before hval hW _ hk _ hL _ _
  exact packs_contract H enc W base args ds gs before hval hW (hk _ rfl) hL

set_option maxRecDepth 100000 in
theorem bridgePacksUpto_holds : Rows.BridgePacksUptoSaid :=
  OpenClaim.holds_of_cond 3 Tryz.f3 rfl rfl rfl rfl rfl rfl rfl ⟨rfl, rfl, rfl, rfl, rfl⟩ rfl rfl rfl rfl rfl (by kernel_rfl) Tryz.func3 bridgePacksUptoRow_facts
    (of_decide_eq_true (by kernel_rfl)) (by unfold Func.isWrapper; first | (rw [if_pos (by decide +kernel)]; kernel_rfl) | (rw [if_neg (by decide +kernel)]; exact ⟨rfl, rfl⟩))
    (fun os started H enc _ F => by rw [OpenClaim.pre_eq_preRow]; exact packs_lifted os started H enc F)
end Go.Proofs.YtlbhfjnlpfaioaaGreatDoor
