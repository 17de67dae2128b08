/- Values of tables; the number 256 bits wide, twice: a table of calls. -/
import Derived.Test.YtlbhfjnlpfaioaaGreatDoorEngS13
import Derived.KernelRfl
import Derived.Test.YtlbhfjnlpfaioaaGreatDoorProg
namespace Go.Proofs.YtlbhfjnlpfaioaaGreatDoor
open Go Go.Eng
def nA (k : IntKind) (l : List Nat) : Value := .agg ⟨l.map fun n => .int k (Int.ofNat n)⟩
def kTab : List Value := [1116352408, 1899447441, 3049323471, 3921009573, 961987163, 1508970993, 2453635748, 2870763221, 3624381080, 310598401, 607225278, 1426881987, 1925078388, 2162078206, 2614888103, 3248222580, 3835390401, 4022224774, 264347078, 604807628, 770255983, 1249150122, 1555081692, 1996064986, 2554220882, 2821834349, 2952996808, 3210313671, 3336571891, 3584528711, 113926993, 338241895, 666307205, 773529912, 1294757372, 1396182291, 1695183700, 1986661051, 2177026350, 2456956037, 2730485921, 2820302411, 3259730800, 3345764771, 3516065817, 3600352804, 4094571909, 275423344, 430227734, 506948616, 659060556, 883997877, 958139571, 1322822218, 1537002063, 1747873779, 1955562222, 2024104815, 2227730452, 2361852424, 2428436474, 2756734187, 3204031479, 3329325298].map fun n => .int .u32 (Int.ofNat n)
def kNeed : List (Nat × List Value) := [(2, kTab)]
def aTab : List Value := [0, 2, 2, 1, 3, 3, 6, 2].map fun n => .int .i64 (Int.ofNat n)
def allNeed : List (Nat × List Value) := [(0, aTab), (2, kTab)]
theorem mixed : Tryz.prog.follows .mixedOrders = true := by kernel_rfl
theorem none_ok {P : Program} {G : Nat} : OrcOk P G (fun _ => none) := fun _ _ h => by cases h
end Go.Proofs.YtlbhfjnlpfaioaaGreatDoor
