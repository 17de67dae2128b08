/- sha.Round at three blocks. -/
import Derived.Test.YtlbhfjnlpfaioaaGreatDoorTabT0
namespace Go.Proofs.YtlbhfjnlpfaioaaGreatDoor
open Go Go.Eng
def tRound0 : List (List Value × Value) := [
  ([(nA .u32 [1779033703, 3144134277, 1013904242, 2773480762, 1359893119, 2600822924, 528734635, 1541459225]), (nA .u8 [0, 0, 0, 0, 0, 0, 0, 0, 0, 0, 0, 0, 0, 0, 0, 0, 0, 0, 0, 0, 0, 0, 0, 0, 0, 0, 0, 0, 0, 0, 0, 0, 0, 0, 0, 0, 0, 0, 0, 0, 0, 0, 0, 0, 0, 0, 0, 0, 0, 0, 0, 0, 0, 0, 0, 0, 0, 0, 0, 0, 0, 0, 0, 0])], (nA .u32 [3663108286, 398046313, 1647531929, 2006957770, 2363872401, 3235013187, 3137272298, 406301144]))]
set_option maxRecDepth 100000 in
theorem round0 : runTbl Tryz.prog 7 (fun _ => none) 100000 50 16 kNeed 258 tRound0 = true := by kernel_rfl
def tRound1 : List (List Value × Value) := [
  ([(nA .u32 [3663108286, 398046313, 1647531929, 2006957770, 2363872401, 3235013187, 3137272298, 406301144]), (nA .u8 [0, 0, 0, 0, 255, 255, 127, 32, 0, 0, 0, 0, 128, 0, 0, 0, 0, 0, 0, 0, 0, 0, 0, 0, 0, 0, 0, 0, 0, 0, 0, 0, 0, 0, 0, 0, 0, 0, 0, 0, 0, 0, 0, 0, 0, 0, 0, 0, 0, 0, 0, 0, 0, 0, 0, 0, 0, 0, 0, 0, 0, 0, 2, 96])], (nA .u32 [3669674067, 3867379787, 3146487531, 285306511, 1125299961, 3836771725, 609693610, 2917349780]))]
set_option maxRecDepth 100000 in
theorem round1 : runTbl Tryz.prog 7 (fun _ => none) 100000 50 16 kNeed 258 tRound1 = true := by kernel_rfl
def tRound2 : List (List Value × Value) := [
  ([(nA .u32 [1779033703, 3144134277, 1013904242, 2773480762, 1359893119, 2600822924, 528734635, 1541459225]), (nA .u8 [218, 186, 200, 83, 230, 131, 136, 75, 187, 139, 150, 235, 17, 1, 110, 143, 67, 18, 182, 249, 228, 176, 125, 141, 36, 87, 47, 170, 173, 227, 57, 148, 128, 0, 0, 0, 0, 0, 0, 0, 0, 0, 0, 0, 0, 0, 0, 0, 0, 0, 0, 0, 0, 0, 0, 0, 0, 0, 0, 0, 0, 0, 1, 0])], (nA .u32 [2776393476, 4267693209, 1695559475, 4093677828, 1112999920, 3964131704, 3405983764, 1641680707]))]
set_option maxRecDepth 100000 in
theorem round2 : runTbl Tryz.prog 7 (fun _ => none) 100000 50 16 kNeed 258 tRound2 = true := by kernel_rfl
end Go.Proofs.YtlbhfjnlpfaioaaGreatDoor
