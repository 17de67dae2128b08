/- BridgePacks: the row. -/
import Derived.Test.YtlbhfjnlpfaioaaGreatDoorTabP8
import Derived.Test.YtlbhfjnlpfaioaaGreatDoorTabTH
import Derived.Deep.DeepHandedRow
import Derived.Deep.DeepWitnessRowRef
import Derived.JoinedCond
import Derived.ProofKit
import Derived.OpenShut
import Derived.Test.YtlbhfjnlpfaioaaGreatDoorTabQJ
import Derived.Test.YtlbhfjnlpfaioaaGreatDoorRows
namespace Go.Proofs.YtlbhfjnlpfaioaaGreatDoor
open Go Go.Eng Go.ChangeShapes Go.WideShapes Go.ChangeAt Go.RowKit

theorem has0 : Has (roH 16 allNeed7) allNeed7 := fun x hx => by
  simp only [allNeed7, allNeed, List.mem_cons, List.not_mem_nil, or_false] at hx
  rcases hx with rfl | rfl | rfl
  · exact ⟨.ro, by kernel_rfl⟩
  · exact ⟨.ro, by kernel_rfl⟩
  · exact ⟨.ro, by kernel_rfl⟩
theorem simple22 : simpleT Tryz.prog 8 22 = true := by kernel_rfl
theorem simple23 : simpleT Tryz.prog 8 23 = true := by kernel_rfl
theorem simple27 : simpleT Tryz.prog 8 27 = true := by kernel_rfl
theorem cellsOf5 : Tryz.prog.cellsOf 5 = 1 := by kernel_rfl
theorem cellsOf22 : Tryz.prog.cellsOf 22 = 1 := by kernel_rfl
theorem cellsOf23 : Tryz.prog.cellsOf 23 = 1 := by kernel_rfl
theorem cellsOf24 : Tryz.prog.cellsOf 24 = 1 := by kernel_rfl
theorem cellsOf25 : Tryz.prog.cellsOf 25 = 1 := by kernel_rfl
theorem cellsOf27 : Tryz.prog.cellsOf 27 = 2 := by kernel_rfl
theorem cellsOf40 : Tryz.prog.cellsOf 40 = 32 := by kernel_rfl
theorem cellsOf63 : Tryz.prog.cellsOf 63 = 1 := by kernel_rfl
theorem cellsOf111 : Tryz.prog.cellsOf 111 = 33 := by kernel_rfl

theorem len_two {α : Type} {l : List α} (h : l.length = 2) : ∃ x y, l = [x, y] := by
  cases l with
  | nil => simp at h
  | cons x l => cases l with
    | nil => simp at h
    | cons y l => cases l with
      | nil => exact ⟨x, y, rfl⟩
      | cons z l => simp at h
theorem repL_one {ε : Env} {c : List Value} {v : Value} (h : RepL ε c [v]) : ∃ x, c = [x] ∧ Rep ε x v := by
  cases h with
  | cons h t => cases t; exact ⟨_, rfl, h⟩

set_option maxRecDepth 20000 in
theorem packs_walk {H : Type} {enc : TypeId × Value → H} {W : World} {sp : Nat → Bool} {hd : Bool} {v0 v1 : Value} {cs : Array Value} {d0 d1 d2 : DataW H} {p0 p1 p2 : List MemPlace}
    (h0 : DataW.Trod enc Tryz.prog W 0 sp hd 22 v0 d0 p0) (h1 : DataW.Trod enc Tryz.prog W 0 sp hd 23 v1 d1 p1) (h2 : DataW.Trod enc Tryz.prog W 0 sp hd 27 (.agg cs) d2 p2)
    (hv0 : ∃ a l c, v0 = .slice a l c) (hv1 : ∃ a l c, v1 = .slice a l c) (hbulk : Rows.uptoBulk d0 + Rows.uptoBulk d1 + Rows.uptoBulk d2 ≤ 1048576)
    (hc : ∀ x ∈ allNeed7, ∀ i u, x.2[i]? = some u → W.cell? ⟨x.1, i, none⟩ = some u) (hs : ∀ x ∈ allNeed7, x.1 < W.heap.size) :
    Calls Tryz.prog 3 #[v0, v1, .agg cs] W fun e W' => e = .returned (.bool true) ∧ Below W.heap.size W W' := by
  obtain ⟨f0, h0⟩ := h0
  obtain ⟨f1, h1⟩ := h1
  obtain ⟨f2, h2⟩ := h2
  obtain ⟨s0, g0⟩ := base_ls (next := 16) (by decide) allNeedOk hc hs (fun _ => .bool true) (fun _ => rfl)
  obtain ⟨ε1, σ1, c1, t1, s1, l1, e1, r1, a1, q1⟩ := lift f0 8 22 _ _ simple22 h0 _ _ s0
  obtain ⟨ε2, σ2, c2, t2, s2, l2, e2, r2, a2, q2⟩ := lift f1 8 23 _ _ simple23 h1 _ _ s1
  obtain ⟨ε3, σ3, c3, t3, s3, l3, e3, r3, a3, q3⟩ := lift f2 8 27 _ _ simple27 h2 _ _ s2
  obtain ⟨va, vl, vc, rfl⟩ := hv0
  obtain ⟨wa, wl, wc, rfl⟩ := hv1
  obtain ⟨x1, rfl, r1'⟩ := repL_one (show RepL ε1 c1 [.slice va vl vc] from r1)
  obtain ⟨x2, rfl, r2'⟩ := repL_one (show RepL ε2 c2 [.slice wa wl wc] from r2)
  have a1' := (a1.ext e2).ext e3
  have a2' := a2.ext e3
  have rr1 := (r1'.mono l2).mono l3
  have rr2 := r2'.mono l3
  obtain ⟨xl, u1, _, es, u2, u3⟩ := bytes_of_ard Tryz.underlying22 Tryz.underlying5 cellsOf5 a1'
  obtain ⟨dl, u4, u5⟩ := rows8_of_ard Tryz.underlying23 Tryz.underlying22 Tryz.underlying5 cellsOf22 cellsOf5 a2'
  obtain ⟨u6, ds, u7, rfl, u8⟩ := ard_str Tryz.underlying27 a3
  have hd : ds.length = 2 := u7
  clear u7
  obtain ⟨m, n, rfl⟩ := len_two hd
  have f0' := u8 0 _ m rfl rfl
  have f1' := u8 1 _ n rfl rfl
  have u6' : c3.length = 2 := u6.trans cellsOf27
  obtain ⟨x, y, rfl⟩ := len_two u6'
  have f0'' : ARd Tryz.prog σ3 24 [x] m := by
    have h : ARd Tryz.prog σ3 24 (([x, y].drop 0).take (Tryz.prog.cellsOf 24)) m := f0'
    rw [cellsOf24] at h; exact h
  have f1'' : ARd Tryz.prog σ3 25 [y] n := by
    have h : ARd Tryz.prog σ3 25 (([x, y].drop 1).take (Tryz.prog.cellsOf 25)) n := f1'
    rw [cellsOf25] at h; exact h
  obtain ⟨ls, w1, w2, w3⟩ := u64s_of_ard Tryz.underlying24 Tryz.underlying63 cellsOf63 f0''
  obtain ⟨gs, w4, w5, w6⟩ := gs_of_ard Tryz.underlying25 Tryz.underlying111 rfl rfl rfl rfl rfl rfl rfl Tryz.underlying5 Tryz.underlying40 cellsOf5 cellsOf40 cellsOf111 f1''
  have b0 : dtN t1 ≤ Rows.uptoBulk d0 := dr_le q1
  have b1 : dtN t2 ≤ Rows.uptoBulk d1 := dr_le q2
  have b2 : dtN (.agg [m, n]) ≤ Rows.uptoBulk d2 := dr_le q3
  have b3 : xl.length ≤ dtN t1 := by
    have := dtNs_len es
    rw [u2, dtN]; omega
  have b4 : dtN m + dtN n ≤ dtN (.agg [m, n]) := by
    simp only [dtN, dtNs]; omega
  have hE := (e1.trans e2).trans e3
  have hlt0 : ∀ x ∈ allNeed7, x.1 < (roH 16 allNeed7).next := by
    intro x hx
    simp only [allNeed7, allNeed, List.mem_cons, List.not_mem_nil, or_false] at hx
    rw [roH_next]
    rcases hx with rfl | rfl | rfl <;> decide
  obtain ⟨v, σ', hcall, rfl⟩ := packs_run σ3 (has0.ext hE hlt0) (fun x hx => Nat.lt_of_lt_of_le (hlt0 x hx) hE.up) x1 x2 x y xl dl ls gs u1 u4 w1 w2 w4 w5 (by omega) (by omega) (by omega) (by omega)
  have ha : RepL ε3 [x1, x2, .agg ⟨[x, y]⟩] [_, _, .agg cs] := .cons rr1 (.cons rr2 (.cons (.agg (c' := cs.toList) r3) .nil))
  refine (call_ro s3 (g0.le ((l1.trans l2).trans l3)) ha rfl hcall).mono fun e W' hR => ?_
  cases e with
  | returned cv => obtain ⟨rfl, hq⟩ := hR; exact ⟨rfl, hq.below⟩
  | panicked c => exact hR.elim
  | outgrown => exact hR.elim
end Go.Proofs.YtlbhfjnlpfaioaaGreatDoor
/- BridgePacks: the row of the second form. -/
namespace Go.Proofs.YtlbhfjnlpfaioaaGreatDoor
open Go Go.Eng Go.ChangeShapes Go.WideShapes Go.ChangeAt Go.RowKit

set_option maxRecDepth 100000 in
theorem packs_contract (H : Type) (enc : TypeId × Value → H) (W : World) (base : Nat) (args : Array Value) (ds gs : List (DataW H)) (before : List MemPlace)
    (hval0 : ∀ (j : Nat) t v, Tryz.f3.params[j]? = some t → args[j]? = some v → Value.okWide Tryz.prog W .any base t v)
    (hW : DataW.Whole enc Tryz.prog Tryz.f3.params.toList Rows.bridgePacksSpec.vars false W args.toList ds gs before) (hk : Rows.uptoSmall H (ds ++ gs) = true) (hL : laidMetH Tryz.prog Rows.bridgePacksUptoRow.laid W) :
    Calls Tryz.prog 3 args W fun e W' => ∃ v, e = .returned v ∧ Rows.bridgePacksSpec.post enc Tryz.prog Tryz.f3 false true false false W args v W' := by
  have hval : ∀ (j : Nat) t v, Tryz.f3.params[j]? = some t → args[j]? = some v → Value.okWide Tryz.prog W .any base t v := hval0
  have hW' := hW
  obtain ⟨p, q, hA0, hV, rfl, hfz, hnd⟩ := hW
  have hA : DataW.TrodAll enc Tryz.prog W 0 (fun _ => true) true Tryz.f3.params.toList args.toList ds p := hA0
  rw [Tryz.params3] at hA hval
  obtain ⟨v0, v1, v2, d0, d1, d2, p0, p1, p2, rfl, rfl, rfl, h0, h1, h2⟩ := trodAll_three hA
  obtain ⟨rfl, rfl⟩ := trodVars_none hV
  have hv0 := okWide_slice Tryz.underlying22 (hval 0 22 v0 rfl rfl)
  have hv1 := okWide_slice Tryz.underlying23 (hval 1 23 v1 rfl rfl)
  obtain ⟨cs, rfl, _⟩ := okWide_struct Tryz.underlying27 (hval 2 27 v2 rfl rfl)
  obtain ⟨hc, hs⟩ := of_laid hL
  have hbk : Rows.uptoBulk d0 + Rows.uptoBulk d1 + Rows.uptoBulk d2 ≤ 1048576 := by
    have : Rows.uptoBulkAll ([d0, d1, d2] ++ ([] : List (DataW H))) ≤ 1048576 := of_decide_eq_true hk
    simp only [List.append_nil, Rows.uptoBulkAll] at this
    omega
  have hlt : ∀ x, x ∈ p0 ∨ x ∈ p1 ∨ x ∈ p2 → x.block < W.heap.size := fun x hx => by
    have := hW'.lt x (by rcases hx with h | h | h <;> simp [h])
    simpa using this
  refine (packs_walk h0 h1 h2 hv0 hv1 hbk hc hs).mono fun e W' ⟨he, hb⟩ => ?_
  subst he
  refine ⟨_, rfl, _, _, _, [], p0 ++ (p1 ++ p2), [], hW', ?_, ?_, ?_, hb.frame _, fun h => by cases h⟩
  · exact trodAll_mk1 (shut_bool Tryz.underlying4 true)
  · exact trodAll_mk3 (Below.trod laidOut (by kernel_rfl) (of_decide_eq_true (by kernel_rfl)) h0 hb fun x h => hlt x (.inl h)) (Below.trod laidOut (by kernel_rfl) (of_decide_eq_true (by kernel_rfl)) h1 hb fun x h => hlt x (.inr (.inl h)))
      (Below.trod laidOut (by kernel_rfl) (of_decide_eq_true (by kernel_rfl)) h2 hb fun x h => hlt x (.inr (.inr h)))
  · rfl
end Go.Proofs.YtlbhfjnlpfaioaaGreatDoor
