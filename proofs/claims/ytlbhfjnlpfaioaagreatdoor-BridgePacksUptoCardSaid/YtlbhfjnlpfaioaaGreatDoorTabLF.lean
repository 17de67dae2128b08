/- Facts of single operations of the program. -/
import Derived.Test.YtlbhfjnlpfaioaaGreatDoorEngY7
import Derived.KernelRfl
import Derived.Test.YtlbhfjnlpfaioaaGreatDoorProg
namespace Go.Proofs.YtlbhfjnlpfaioaaGreatDoor
open Go Go.Eng
theorem ld_27 : cLoad Tryz.prog 27 = loadAgg 2 := id (by kernel_rfl)
theorem en_7 : enterable Tryz.prog 7 = true := id (by kernel_rfl)
theorem en_8 : enterable Tryz.prog 8 = true := id (by kernel_rfl)
theorem en_9 : enterable Tryz.prog 9 = true := id (by kernel_rfl)
theorem en_10 : enterable Tryz.prog 10 = true := id (by kernel_rfl)
theorem en_22 : enterable Tryz.prog 22 = true := id (by kernel_rfl)
theorem len_23 : ∀ {σ : AHeap} {es : Nat} {v : Value} {n : Nat} {cs : List Value}, Sl σ es v n cs → lenOf Tryz.prog 23 σ v = some (.int .i64 n) := fun h => lenOf_sl h Tryz.underlying23
theorem lens_23 : ∀ {σ : AHeap} {a : Addr} {n c : Nat}, lenOf Tryz.prog 23 σ (.slice (some a) n c) = some (.int .i64 n) := by intro σ a n c; unfold lenOf; rw [Tryz.underlying23]; rfl
theorem lenn_23 : ∀ {σ : AHeap}, lenOf Tryz.prog 23 σ (.slice none 0 0) = some (.int .i64 0) := by intro σ; unfold lenOf; rw [Tryz.underlying23]; rfl
theorem en_23 : enterable Tryz.prog 23 = true := id (by kernel_rfl)
theorem cv_3_63 : ∀ {σ : AHeap} {k : IntKind} {a : Int}, cConvH Tryz.prog 3 63 σ (.int k a) = some (.int .u64 (IntKind.wrap .u64 a)) := conv_int ⟨_, Tryz.underlying3⟩ Tryz.underlying63
theorem en_24 : enterable Tryz.prog 24 = true := id (by kernel_rfl)
theorem ap_22_22 : cAppend Tryz.prog 22 (some 22) = appWith (srcSl 1) 1 1 := id (by kernel_rfl)
theorem ia_23 : cIndexAddr Tryz.prog 23 = ixSl 1 := id (by kernel_rfl)
theorem ld_22 : cLoad Tryz.prog 22 = loadOne := id (by kernel_rfl)
theorem en_25 : enterable Tryz.prog 25 = true := id (by kernel_rfl)
theorem en_26 : enterable Tryz.prog 26 = true := id (by kernel_rfl)
theorem en_27 : enterable Tryz.prog 27 = true := id (by kernel_rfl)
theorem len_22 : ∀ {σ : AHeap} {es : Nat} {v : Value} {n : Nat} {cs : List Value}, Sl σ es v n cs → lenOf Tryz.prog 22 σ v = some (.int .i64 n) := fun h => lenOf_sl h Tryz.underlying22
theorem lens_22 : ∀ {σ : AHeap} {a : Addr} {n c : Nat}, lenOf Tryz.prog 22 σ (.slice (some a) n c) = some (.int .i64 n) := by intro σ a n c; unfold lenOf; rw [Tryz.underlying22]; rfl
theorem lenn_22 : ∀ {σ : AHeap}, lenOf Tryz.prog 22 σ (.slice none 0 0) = some (.int .i64 0) := by intro σ; unfold lenOf; rw [Tryz.underlying22]; rfl
theorem ia_22 : cIndexAddr Tryz.prog 22 = ixSl 1 := id (by kernel_rfl)
theorem ld_5 : cLoad Tryz.prog 5 = loadOne := id (by kernel_rfl)
set_option maxRecDepth 20000 in
theorem dr_9_6 : Go.Eng.drawInfo (regOps Tryz.f9 6) = [⟨0, ⟨some 17, .move (.tmp 0), 22, "ref.go:25", #[], none⟩, .pure, [0], [], 0⟩, ⟨1, ⟨some 18, .move (.tmp 5), 3, "ref.go:25", #[], none⟩, .pure, [5], [], 0⟩, ⟨2, ⟨some 19, .indexAddr 22 (.tmp 17) (.tmp 18), 0, "ref.go:25", #[⟨0, .data⟩, ⟨1, .data⟩], none⟩, .pure, [17, 18], [1, 0], 0⟩, ⟨3, ⟨some 20, .load 5 (.tmp 19), 5, "ref.go:25", #[⟨2, .data⟩], none⟩, .read, [19], [2, 1, 0], 0⟩, ⟨4, ⟨some 21, .move (.tmp 1), 22, "ref.go:25", #[], none⟩, .pure, [1], [], 0⟩, ⟨5, ⟨some 22, .move (.tmp 5), 3, "ref.go:25", #[], none⟩, .pure, [5], [], 0⟩, ⟨6, ⟨some 23, .indexAddr 22 (.tmp 21) (.tmp 22), 0, "ref.go:25", #[⟨4, .data⟩, ⟨5, .data⟩], none⟩, .pure, [21, 22], [5, 4], 0⟩, ⟨7, ⟨some 24, .load 5 (.tmp 23), 5, "ref.go:25", #[⟨6, .data⟩], none⟩, .read, [23], [6, 5, 4], 0⟩, ⟨8, ⟨some 25, .binOp .neq 5 (.tmp 20) (.tmp 24) 5, 4, "ref.go:25", #[⟨3, .data⟩, ⟨7, .data⟩], none⟩, .pure, [20, 24], [7, 6, 5, 4, 3, 2, 1, 0], 0⟩] := by kernel_rfl
theorem fa_27_0 : cFieldAddr Tryz.prog 27 0 = fAddr 0 := id (by kernel_rfl)
theorem ld_24 : cLoad Tryz.prog 24 = loadOne := id (by kernel_rfl)
theorem len_24 : ∀ {σ : AHeap} {es : Nat} {v : Value} {n : Nat} {cs : List Value}, Sl σ es v n cs → lenOf Tryz.prog 24 σ v = some (.int .i64 n) := fun h => lenOf_sl h Tryz.underlying24
theorem lens_24 : ∀ {σ : AHeap} {a : Addr} {n c : Nat}, lenOf Tryz.prog 24 σ (.slice (some a) n c) = some (.int .i64 n) := by intro σ a n c; unfold lenOf; rw [Tryz.underlying24]; rfl
theorem lenn_24 : ∀ {σ : AHeap}, lenOf Tryz.prog 24 σ (.slice none 0 0) = some (.int .i64 0) := by intro σ; unfold lenOf; rw [Tryz.underlying24]; rfl
theorem fa_27_1 : cFieldAddr Tryz.prog 27 1 = fAddr 1 := id (by kernel_rfl)
theorem ld_25 : cLoad Tryz.prog 25 = loadOne := id (by kernel_rfl)
theorem len_25 : ∀ {σ : AHeap} {es : Nat} {v : Value} {n : Nat} {cs : List Value}, Sl σ es v n cs → lenOf Tryz.prog 25 σ v = some (.int .i64 n) := fun h => lenOf_sl h Tryz.underlying25
theorem lens_25 : ∀ {σ : AHeap} {a : Addr} {n c : Nat}, lenOf Tryz.prog 25 σ (.slice (some a) n c) = some (.int .i64 n) := by intro σ a n c; unfold lenOf; rw [Tryz.underlying25]; rfl
theorem lenn_25 : ∀ {σ : AHeap}, lenOf Tryz.prog 25 σ (.slice none 0 0) = some (.int .i64 0) := by intro σ; unfold lenOf; rw [Tryz.underlying25]; rfl
theorem en_48 : enterable Tryz.prog 48 = true := id (by kernel_rfl)
theorem en_49 : enterable Tryz.prog 49 = true := id (by kernel_rfl)
theorem ia_24 : cIndexAddr Tryz.prog 24 = ixSl 1 := id (by kernel_rfl)
theorem ld_63 : cLoad Tryz.prog 63 = loadOne := id (by kernel_rfl)
theorem ia_25 : cIndexAddr Tryz.prog 25 = ixSl 33 := id (by kernel_rfl)
theorem ld_111 : cLoad Tryz.prog 111 = loadAgg 33 := id (by kernel_rfl)
theorem al_111 : ∀ {G : Nat} {t : Tr Value} {σ : AHeap}, aop Tryz.prog G (.alloc 111) t σ = aNew σ (.agg ⟨[.int .u8 0, .int .u8 0, .int .u8 0, .int .u8 0, .int .u8 0, .int .u8 0, .int .u8 0, .int .u8 0, .int .u8 0, .int .u8 0, .int .u8 0, .int .u8 0, .int .u8 0, .int .u8 0, .int .u8 0, .int .u8 0, .int .u8 0, .int .u8 0, .int .u8 0, .int .u8 0, .int .u8 0, .int .u8 0, .int .u8 0, .int .u8 0, .int .u8 0, .int .u8 0, .int .u8 0, .int .u8 0, .int .u8 0, .int .u8 0, .int .u8 0, .int .u8 0, .int .u8 0]⟩) := aop_alloc (by kernel_rfl)
theorem st_111 : cStore Tryz.prog 111 = storeN 33 := id (by kernel_rfl)
theorem fa_111_0 : cFieldAddr Tryz.prog 111 0 = fAddr 0 := id (by kernel_rfl)
theorem bs_22_1 : cBuildSlice Tryz.prog 22 1 = bsl [.int .u8 0] 1 1 := id (by kernel_rfl)
theorem fa_111_1 : cFieldAddr Tryz.prog 111 1 = fAddr 1 := id (by kernel_rfl)
theorem sl_40 : cSlice Tryz.prog 40 = fun _ => slArr 32 1 := id (by kernel_rfl)
theorem en_51 : enterable Tryz.prog 51 = true := id (by kernel_rfl)
theorem en_52 : enterable Tryz.prog 52 = true := id (by kernel_rfl)
theorem ia_40 : cIndexAddr Tryz.prog 40 = ixArr 32 1 := id (by kernel_rfl)
theorem cv_63_5 : ∀ {σ : AHeap} {k : IntKind} {a : Int}, cConvH Tryz.prog 63 5 σ (.int k a) = some (.int .u8 (IntKind.wrap .u8 a)) := conv_int ⟨_, Tryz.underlying63⟩ Tryz.underlying5
theorem en_53 : enterable Tryz.prog 53 = true := id (by kernel_rfl)
theorem en_95 : enterable Tryz.prog 95 = true := id (by kernel_rfl)
theorem en_50 : enterable Tryz.prog 50 = true := id (by kernel_rfl)
theorem ld_40 : cLoad Tryz.prog 40 = loadAgg 32 := id (by kernel_rfl)
theorem bd_40 : cBuild Tryz.prog 40 [] = some (.agg ⟨[.int .u8 0, .int .u8 0, .int .u8 0, .int .u8 0, .int .u8 0, .int .u8 0, .int .u8 0, .int .u8 0, .int .u8 0, .int .u8 0, .int .u8 0, .int .u8 0, .int .u8 0, .int .u8 0, .int .u8 0, .int .u8 0, .int .u8 0, .int .u8 0, .int .u8 0, .int .u8 0, .int .u8 0, .int .u8 0, .int .u8 0, .int .u8 0, .int .u8 0, .int .u8 0, .int .u8 0, .int .u8 0, .int .u8 0, .int .u8 0, .int .u8 0, .int .u8 0]⟩) := id (by kernel_rfl)
theorem eg_40 : Program.eqGuardType Tryz.prog (Program.depth Tryz.prog) 40 = false := id (by kernel_rfl)
theorem ce_40 : cEq Tryz.prog 20 40 = fun x y => ag x fun xs => ag y fun ys => eqElems eqInt 1 32 0 xs ys := id (by kernel_rfl)
theorem ms_22 : cMakeSlice Tryz.prog 22 = mks [.int .u8 0] 1 1 := id (by kernel_rfl)
theorem st_5 : cStore Tryz.prog 5 = storeN 1 := id (by kernel_rfl)
end Go.Proofs.YtlbhfjnlpfaioaaGreatDoor
