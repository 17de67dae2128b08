/- The work of the first target, the first head's name, what the law asks at the end: out of the tables. -/
import Derived.Test.YtlbhfjnlpfaioaaGreatDoorTabTL0
import Derived.Test.YtlbhfjnlpfaioaaGreatDoorTabTL1
import Derived.Test.YtlbhfjnlpfaioaaGreatDoorTabTS
import Derived.Test.YtlbhfjnlpfaioaaGreatDoorTabTR
namespace Go.Proofs.YtlbhfjnlpfaioaaGreatDoor
open Go Go.Eng
def pLeft : PTbl := ⟨284, [], tLeft0 ++ tLeft1⟩
def pSub : PTbl := ⟨214, [], tSub⟩
def pRound : PTbl := ⟨258, kNeed, tRound0 ++ (tRound1 ++ tRound2)⟩
theorem G_le : 7 ≤ Go.Eng.lim := by decide
theorem kNeedOk : needOk 7 kNeed = true := by kernel_rfl
theorem pLeft_ok : pLeft.Ok Tryz.prog 7 := ⟨rfl, fun x hx => (List.mem_append.1 hx).elim
  (runTbl_ok mixed G_le none_ok (by decide) rfl tLeft0 left0 x) (runTbl_ok mixed G_le none_ok (by decide) rfl tLeft1 left1 x)⟩
theorem pSub_ok : pSub.Ok Tryz.prog 7 := ⟨rfl, runTbl_ok mixed G_le none_ok (by decide) rfl tSub sub0⟩
theorem pRound_ok : pRound.Ok Tryz.prog 7 := ⟨kNeedOk, fun x hx => (List.mem_append.1 hx).elim (runTbl_ok mixed G_le none_ok (by decide) kNeedOk tRound0 round0 x)
  fun hx => (List.mem_append.1 hx).elim (runTbl_ok mixed G_le none_ok (by decide) kNeedOk tRound1 round1 x) (runTbl_ok mixed G_le none_ok (by decide) kNeedOk tRound2 round2 x)⟩
def o1 : List PTbl := [pLeft, pSub]
theorem o1_ok : ∀ e ∈ o1, e.Ok Tryz.prog 7 := fun e he => by
  simp only [o1, List.mem_cons, List.not_mem_nil, or_false] at he
  rcases he with rfl | rfl
  · exact pLeft_ok
  · exact pSub_ok
def tOver : List (List Value × Value) := [
  ([(nA .u64 [18446744073709551615, 18446744073709551615, 18446744073709551615, 9223373136366403583]), (nA .u64 [1, 0, 0, 9223370937343148032])], .tuple ⟨[(nA .u64 [1, 0, 0, 0]), (nA .u64 [18446744073709551614, 18446744073709551615, 18446744073709551615, 2199023255551]), .int .i64 0]⟩)]
set_option maxRecDepth 100000 in
theorem over0 : runTbl Tryz.prog 7 (orcOf o1) 100000 50 16 [] 215 tOver = true := by kernel_rfl
def pOver : PTbl := ⟨215, [], tOver⟩
theorem pOver_ok : pOver.Ok Tryz.prog 7 := ⟨rfl, runTbl_ok mixed G_le (orcOf_ok o1 o1_ok) (by decide) rfl tOver over0⟩
def o2 : List PTbl := [pOver, pRound]
theorem o2_ok : ∀ e ∈ o2, e.Ok Tryz.prog 7 := fun e he => by
  simp only [o2, List.mem_cons, List.not_mem_nil, or_false] at he
  rcases he with rfl | rfl
  · exact pOver_ok
  · exact pRound_ok
def tWork : List (List Value × Value) := [
  ([.int .u32 545259519], .tuple ⟨[(nA .u64 [2, 0, 0, 0]), .int .i64 0]⟩)]
set_option maxRecDepth 100000 in
theorem work0 : runTbl Tryz.prog 7 (orcOf o2) 100000 50 16 [] 130 tWork = true := by kernel_rfl
def tId : List (List Value × Value) := [
  ([.agg ⟨[.int .u8 0, .int .u8 0, .int .u8 0, .int .u8 0, .int .u8 0, .int .u8 0, .int .u8 0, .int .u8 0, .int .u8 0, .int .u8 0, .int .u8 0, .int .u8 0, .int .u8 0, .int .u8 0, .int .u8 0, .int .u8 0, .int .u8 0, .int .u8 0, .int .u8 0, .int .u8 0, .int .u8 0, .int .u8 0, .int .u8 0, .int .u8 0, .int .u8 0, .int .u8 0, .int .u8 0, .int .u8 0, .int .u8 0, .int .u8 0, .int .u8 0, .int .u8 0, .int .u8 0, .int .u8 0, .int .u8 0, .int .u8 0, .int .u8 0, .int .u8 0, .int .u8 0, .int .u8 0, .int .u8 0, .int .u8 0, .int .u8 0, .int .u8 0, .int .u8 0, .int .u8 0, .int .u8 0, .int .u8 0, .int .u8 0, .int .u8 0, .int .u8 0, .int .u8 0, .int .u8 0, .int .u8 0, .int .u8 0, .int .u8 0, .int .u8 0, .int .u8 0, .int .u8 0, .int .u8 0, .int .u8 0, .int .u8 0, .int .u8 0, .int .u8 0, .int .u32 0, .int .u32 545259519, .int .u32 0]⟩], (nA .u8 [165, 124, 103, 4, 254, 95, 212, 153, 101, 16, 47, 51, 244, 0, 145, 4, 66, 87, 7, 240, 236, 71, 217, 120, 203, 3, 48, 20, 97, 218, 15, 67]))]
set_option maxRecDepth 100000 in
theorem id0 : runTbl Tryz.prog 7 (orcOf o2) 100000 50 16 kNeed 84 tId = true := by kernel_rfl
def pWork : PTbl := ⟨130, [], tWork⟩
theorem pWork_ok : pWork.Ok Tryz.prog 7 := ⟨rfl, runTbl_ok mixed G_le (orcOf_ok o2 o2_ok) (by decide) rfl tWork work0⟩
def pId : PTbl := ⟨84, kNeed, tId⟩
theorem pId_ok : pId.Ok Tryz.prog 7 := ⟨kNeedOk, runTbl_ok mixed G_le (orcOf_ok o2 o2_ok) (by decide) kNeedOk tId id0⟩
def o3 : List PTbl := [pWork, pId]
theorem o3_ok : ∀ e ∈ o3, e.Ok Tryz.prog 7 := fun e he => by
  simp only [o3, List.mem_cons, List.not_mem_nil, or_false] at he
  rcases he with rfl | rfl
  · exact pWork_ok
  · exact pId_ok
end Go.Proofs.YtlbhfjnlpfaioaaGreatDoor
