/- What the listed package variables give the walk. -/
import Derived.Test.YtlbhfjnlpfaioaaGreatDoorTabTV
import Derived.Test.YtlbhfjnlpfaioaaGreatDoorEngS14
import Derived.Test.YtlbhfjnlpfaioaaGreatDoorRows
namespace Go.Proofs.YtlbhfjnlpfaioaaGreatDoor
open Go Go.Eng Go.ChangeShapes Go.WideShapes Go.ChangeAt Go.RowKit

theorem own : ownKnob Tryz.prog.godebug = none := by kernel_rfl
theorem laidOut : laidOutB Tryz.prog = true := by kernel_rfl
theorem gK : Tryz.prog.globalNamed "moneyer/sha.k" = some 2 := by kernel_rfl
theorem gA : Tryz.prog.globalNamed "moneyer/store.areas" = some 0 := by kernel_rfl
theorem tK : (Tryz.prog.globals[2]?).map (·.type) = some 496 := by kernel_rfl
theorem tA : (Tryz.prog.globals[0]?).map (·.type) = some 238 := by kernel_rfl
theorem cellsU : Tryz.prog.cellsOf 50 = 1 := by kernel_rfl
theorem cells3 : Tryz.prog.cellsOf 3 = 1 := by kernel_rfl
theorem cellsAr : Tryz.prog.cellsOf 236 = 2 := by kernel_rfl

def kInts : List Int := [1116352408, 1899447441, 3049323471, 3921009573, 961987163, 1508970993, 2453635748, 2870763221, 3624381080, 310598401, 607225278, 1426881987, 1925078388, 2162078206, 2614888103, 3248222580, 3835390401, 4022224774, 264347078, 604807628, 770255983, 1249150122, 1555081692, 1996064986, 2554220882, 2821834349, 2952996808, 3210313671, 3336571891, 3584528711, 113926993, 338241895, 666307205, 773529912, 1294757372, 1396182291, 1695183700, 1986661051, 2177026350, 2456956037, 2730485921, 2820302411, 3259730800, 3345764771, 3516065817, 3600352804, 4094571909, 275423344, 430227734, 506948616, 659060556, 883997877, 958139571, 1322822218, 1537002063, 1747873779, 1955562222, 2024104815, 2227730452, 2361852424, 2428436474, 2756734187, 3204031479, 3329325298]
theorem kTab_eq : kTab = kInts.map fun z => .int .u32 z := rfl

theorem laid_k : (Rows.laid_moneyer_sha_k : DataW Unit) = .agg (kInts.map fun z => .lit (.int .u32 z)) := rfl

theorem cell_lt {W : World} {b o : Nat} {u : Value} (h : W.cell? ⟨b, o, none⟩ = some u) : b < W.heap.size := by
  rcases Nat.lt_or_ge b W.heap.size with q | q
  · exact q
  · simp [World.cell?, Array.getElem?_eq_none q] at h

theorem gE : Tryz.prog.globalNamed "errors.errorType" = some 1 := by kernel_rfl
theorem rtE : (Tryz.prog.cutTypes.find? (·.1 == "internal/reflectlite.rtype")).map (·.2) = some 367 := by kernel_rfl
theorem oneRow : ((List.range 612).filter fun t => Tryz.prog.rowNamed t [101, 114, 114, 111, 114]) = [173] := by kernel_rfl
theorem typesSize : Tryz.prog.types.size = 612 := by kernel_rfl

theorem handle_of_laid {W : World} (h : handlesMet Tryz.prog [("errors.errorType", Rows.laid_errors_errorType)] W) : W.cell? ⟨1, 0, none⟩ = some hV := by
  obtain ⟨name, u, ty, e1, e2, e3, e4, e5⟩ := h _ (List.mem_singleton.2 rfl)
  have en : name = [101, 114, 114, 111, 114] := (Option.some.inj e1).symm
  subst en
  obtain rfl := Option.some.inj (rtE.symm.trans e2)
  have hm : ty ∈ (List.range 612).filter fun t => Tryz.prog.rowNamed t [101, 114, 114, 111, 114] := List.mem_filter.2 ⟨List.mem_range.2 (by rw [← typesSize]; exact e3), e4⟩
  rw [oneRow] at hm
  obtain rfl := List.mem_singleton.1 hm
  have hh : typeHandle Tryz.prog 173 = .pointer (some ⟨6, 173, none⟩) := by kernel_rfl
  rw [hh] at e5
  simpa [hV] using World.var?_cell gE e5 0

theorem area_cells {W : World} {m : Nat} {cs : List Value} {o : Nat} {a b : Int} {q : List MemPlace} (h : DataW.trod (fun _ => ()) Tryz.prog W 0 (fun _ => true) false m 236 ((cs.drop o).take 2) = some (DataW.agg [DataW.lit (Lit.int .i64 a), DataW.lit (Lit.int .i64 b)], q)) :
    cs[o]? = some (Value.int .i64 a) ∧ cs[o + 1]? = some (Value.int .i64 b) := by
  obtain ⟨m', hp⟩ := parts_of_trod Tryz.underlying236 h
  obtain ⟨q0, h0⟩ := hp 0 _ _ rfl rfl
  obtain ⟨q1, h1⟩ := hp 1 _ _ rfl rfl
  have h0 : DataW.trod (fun _ => ()) Tryz.prog W 0 (fun _ => true) false m' 3 ((((cs.drop o).take 2).drop 0).take (Tryz.prog.cellsOf 3)) = some (DataW.lit (Lit.int .i64 a), q0) := h0
  have h1 : DataW.trod (fun _ => ()) Tryz.prog W 0 (fun _ => true) false m' 3 ((((cs.drop o).take 2).drop 1).take (Tryz.prog.cellsOf 3)) = some (DataW.lit (Lit.int .i64 b), q1) := h1
  rw [cells3] at h0 h1
  have e0 := int_of_trod Tryz.underlying3 h0 rfl
  have e1 := int_of_trod Tryz.underlying3 h1 rfl
  constructor
  · have : ((((cs.drop o).take 2).drop 0).take 1)[0]? = some (Value.int .i64 a) := by rw [e0]; rfl
    simpa using this
  · have : ((((cs.drop o).take 2).drop 1).take 1)[0]? = some (Value.int .i64 b) := by rw [e1]; rfl
    simpa using this

/-- WHAT THE CONDITION GIVES THE WALK: the two tables' cells. -/
theorem of_laid {W : World} (h : laidMetH Tryz.prog Rows.bridgePacksUptoRow.laid W) : (∀ x ∈ allNeed7, ∀ i u, x.2[i]? = some u → W.cell? ⟨x.1, i, none⟩ = some u) ∧ ∀ x ∈ allNeed7, x.1 < W.heap.size := by
  have h' : laidMet Tryz.prog [("moneyer/sha.k", Rows.laid_moneyer_sha_k), ("moneyer/store.areas", Rows.laid_moneyer_store_areas)] W := h.1
  obtain ⟨ps, ⟨g0, t0, cs0, f0, p0, q0, hg0, ht0, hv0, hd0, ⟨g1, t1, cs1, f1, p1, q1, hg1, ht1, hv1, hd1, _, _⟩, _⟩, _, _⟩ := h'
  obtain rfl := Option.some.inj (gK.symm.trans hg0)
  obtain rfl := Option.some.inj (gA.symm.trans hg1)
  obtain rfl := Option.some.inj (tK.symm.trans ht0)
  obtain rfl := Option.some.inj (tA.symm.trans ht1)
  have c0 := World.var?_cell hg0 hv0
  have c1 := World.var?_cell hg1 hv1
  have hK : ∀ i u, kTab[i]? = some u → W.cell? ⟨2, i, none⟩ = some u := fun i u hi => by
    rw [kTab_eq, List.getElem?_map] at hi
    obtain ⟨z, hz, rfl⟩ := Option.map_eq_some_iff.1 hi
    have := ints_of_trod Tryz.underlying496 Tryz.underlying50 cellsU (by rw [← laid_k]; exact hd0) i z hz
    rw [c0 i]
    simpa using this
  obtain ⟨m, hp⟩ := parts_of_trod Tryz.underlying238 (ds := [.agg [.lit (.int .i64 0), .lit (.int .i64 2)], .agg [.lit (.int .i64 2), .lit (.int .i64 1)], .agg [.lit (.int .i64 3), .lit (.int .i64 3)], .agg [.lit (.int .i64 6), .lit (.int .i64 2)]]) hd1
  obtain ⟨r0, e0⟩ := hp 0 _ _ rfl rfl
  obtain ⟨r1, e1⟩ := hp 1 _ _ rfl rfl
  obtain ⟨r2, e2⟩ := hp 2 _ _ rfl rfl
  obtain ⟨r3, e3⟩ := hp 3 _ _ rfl rfl
  have e0 : DataW.trod (fun _ => ()) Tryz.prog W 0 (fun _ => true) false m 236 ((cs1.toList.drop 0).take (Tryz.prog.cellsOf 236)) = some (DataW.agg [DataW.lit (Lit.int .i64 0), DataW.lit (Lit.int .i64 2)], r0) := e0
  have e1 : DataW.trod (fun _ => ()) Tryz.prog W 0 (fun _ => true) false m 236 ((cs1.toList.drop 2).take (Tryz.prog.cellsOf 236)) = some (DataW.agg [DataW.lit (Lit.int .i64 2), DataW.lit (Lit.int .i64 1)], r1) := e1
  have e2 : DataW.trod (fun _ => ()) Tryz.prog W 0 (fun _ => true) false m 236 ((cs1.toList.drop 4).take (Tryz.prog.cellsOf 236)) = some (DataW.agg [DataW.lit (Lit.int .i64 3), DataW.lit (Lit.int .i64 3)], r2) := e2
  have e3 : DataW.trod (fun _ => ()) Tryz.prog W 0 (fun _ => true) false m 236 ((cs1.toList.drop 6).take (Tryz.prog.cellsOf 236)) = some (DataW.agg [DataW.lit (Lit.int .i64 6), DataW.lit (Lit.int .i64 2)], r3) := e3
  rw [cellsAr] at e0 e1 e2 e3
  have a0 := area_cells e0
  have a1 := area_cells e1
  have a2 := area_cells e2
  have a3 := area_cells e3
  have hA : ∀ i u, aTab[i]? = some u → W.cell? ⟨0, i, none⟩ = some u := fun i u hi => by
    rw [c1 i]
    have hl : i < 8 := by
      rcases Nat.lt_or_ge i 8 with q | q
      · exact q
      · rw [List.getElem?_eq_none (show aTab.length ≤ i from q)] at hi; cases hi
    rw [← Array.getElem?_toList]
    match i, hl, hi with
    | 0, _, hi => rw [← Option.some.inj hi]; exact a0.1
    | 1, _, hi => rw [← Option.some.inj hi]; exact a0.2
    | 2, _, hi => rw [← Option.some.inj hi]; exact a1.1
    | 3, _, hi => rw [← Option.some.inj hi]; exact a1.2
    | 4, _, hi => rw [← Option.some.inj hi]; exact a2.1
    | 5, _, hi => rw [← Option.some.inj hi]; exact a2.2
    | 6, _, hi => rw [← Option.some.inj hi]; exact a3.1
    | 7, _, hi => rw [← Option.some.inj hi]; exact a3.2
  have hE := handle_of_laid h.2
  have hE' : ∀ i u, [hV][i]? = some u → W.cell? ⟨1, i, none⟩ = some u := fun i u hi => by
    match i, hi with
    | 0, hi => rw [← Option.some.inj hi]; exact hE
    | i + 1, hi => simp at hi
  refine ⟨fun x hx => ?_, fun x hx => ?_⟩
  · simp only [allNeed7, allNeed, List.mem_cons, List.not_mem_nil, or_false] at hx
    rcases hx with rfl | rfl | rfl
    · exact hE'
    · exact hA
    · exact hK
  · simp only [allNeed7, allNeed, List.mem_cons, List.not_mem_nil, or_false] at hx
    rcases hx with rfl | rfl | rfl
    · exact cell_lt hE
    · exact cell_lt (hA 0 _ rfl)
    · exact cell_lt (hK 0 _ rfl)

end Go.Proofs.YtlbhfjnlpfaioaaGreatDoor
