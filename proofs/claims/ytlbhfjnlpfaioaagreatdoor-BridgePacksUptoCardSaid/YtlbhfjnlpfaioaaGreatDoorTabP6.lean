/- Proofs as bytes, by the reference: the whole. -/
import Derived.Test.YtlbhfjnlpfaioaaGreatDoorTabP4
namespace Go.Proofs.YtlbhfjnlpfaioaaGreatDoor
open Go Go.Eng

theorem cell_in {c vs : List Value} {o m : Nat} (h : (c.drop o).take m = vs) {i : Nat} (hi : i < m) : c[o + i]? = vs[i]? := by
  rw [← h, List.getElem?_take, if_pos hi, List.getElem?_drop]

set_option maxRecDepth 20000 in
theorem rput_ok (σ : AHeap) (x y : Value) (ls : List Nat) (gs : List (List Nat)) (hx : Sl σ 1 x ls.length (intsV .u64 ls)) (hls : ∀ n ∈ ls, n < 18446744073709551616) (hy : Sl σ 33 y gs.length (bytesV gs.flatten)) (hg : GsOk gs)
    (hl : ls.length < 4611686018427387904) (hgl : gs.length < 4611686018427387904) :
    ∃ v σ', CallOk Tryz.prog 7 25 [.agg ⟨[x, y]⟩] σ v σ' ∧ putP ls gs [.agg ⟨[x, y]⟩] σ v σ' := by
  refine fn_wp mixed [(52, boolP (putOk ls gs)), (27, countP)] 79 [.tmp 2, .tmp 3] Tryz.func25 rfl rfl rfl (by decide) (by simp) ?_
  have hN : aNew σ (.agg ⟨[x, y]⟩) = some (.val (.pointer (some ⟨σ.next, 0, none⟩)) (σ.push (.cells [x, y] .own))) := aNew_agg (by
    intro z hz
    simp only [List.mem_cons, List.not_mem_nil, or_false] at hz
    rcases hz with rfl | rfl
    · exact hx.one
    · exact hy.one)
  generalize hσ1 : σ.push (.cells [x, y] .own) = σ1 at hN
  have hg1 : σ1.get σ.next = some (.cells [x, y] .own) := by rw [← hσ1, AHeap.get_push, if_pos rfl]
  have hn1 : σ1.next = σ.next + 1 := by rw [← hσ1, AHeap.next_push]
  have hE1 : Ext none σ σ1 := by rw [← hσ1]; exact .push
  have hx1 := hx.ext0 hE1
  have hy1 := hy.ext0 hE1
  have hLA : loadAgg 2 σ1 (.pointer (some ⟨σ.next, 0, none⟩)) = some (.agg ⟨[x, y]⟩) := loadAgg_get hg1 (by simp)
  simp only [↓wpC_seq, ↓wpC_regionL, ↓wpC_cond, ↓wpC_skip, ↓wpC_ret, ↓wpC_block, ↓wpL_cons, ↓wpL_nil, ↓thenX_normal, ↓thenX_ret, initFr_cons, initFr_nil, aop_move, aop_assign, aop_un, aop_conv, aop_load, aop_fieldAddr, aop_box, aop_call, aop_len, aop_append, aval_tmp, aval_nilSlice, aval_int, avals_nil', avals_cons', fget_put, ob_some', obP_some, wpA_val0, wpA_val, wpA_enter, ↓wpPut_some, Nat.reduceLT, Nat.reduceEqDiff, Nat.add_zero, Nat.reduceAdd, reduceIte, resultsK_nil, resultsK_tmp, tup_two, true_and, ne_eq, reduceCtorEq, not_false_eq_true, implies_true, fAddr_eq, callA_enter en_52, callA_enter en_27, ld_27, fa_27_0, ld_24, ap_22_22, fa_27_1, ld_25, hN, hLA]
  refine ⟨hE1.up, ?_⟩
  refine evV_use (p := boolP (putOk ls gs)) rfl (may_ok σ1 x y ls gs hx1 hy1 hg hl hgl) fun v σ2 q => ?_
  obtain ⟨rfl, hE2⟩ := q
  cases hok : putOk ls gs
  · simp only [ob_some', wpA_val0, brP_true, un_not, Bool.not_false]
    exact ⟨fun q => (by rw [hok] at q; cases q), fun _ => ⟨rfl, hE1.trans hE2⟩⟩
  have hoks : ls.length ≤ 256 ∧ gs.length ≤ 5120 := by
    simp only [putOk, Bool.and_eq_true, decide_eq_true_eq] at hok
    exact ⟨hok.1, hok.2.1⟩
  obtain ⟨c1, c2⟩ := hoks
  have hk2 : Kp σ1.next σ1 σ2 := .of_ext hE2 (Nat.le_refl _)
  have cells : ∀ {σ' : AHeap}, Kp σ1.next σ1 σ' → σ'.get σ.next = some (.cells [x, y] .own) := fun k => by rw [k.get _ (by omega)]; exact hg1
  have L0 : ∀ {σ' : AHeap}, Kp σ1.next σ1 σ' → loadOne σ' (.pointer (some ⟨σ.next, 0, none⟩)) = some x := fun k => loadOne_get (cells k) rfl
  have L1 : ∀ {σ' : AHeap}, Kp σ1.next σ1 σ' → loadOne σ' (.pointer (some ⟨σ.next, 1, none⟩)) = some y := fun k => loadOne_get (cells k) rfl
  simp only [ob_some', wpA_val0, brP_false, un_not, cv_3_63, Bool.not_true, L0 hk2, len_24 (hx1.kp0 hk2 (Nat.le_refl _))]
  rw [wrapU64 (by omega) (by omega)]
  refine evV_use (p := countP) rfl (rcount_p σ2 ls.length (by omega)) fun v3 σ3 q => ?_
  have q3 := q ls.length rfl
  have hk3 : Kp σ1.next σ1 σ3 := hk2.trans (.of_ext q3.2 hk2.up)
  have ho3 : Own σ3 σ1.next 1 v3 _ _ := q3.1.mono hk2.up
  refine wpC_loop (fun r t σ' => ∃ i v, r = ls.length - i ∧ i ≤ ls.length ∧ fget 5 t = some (.int .i64 (i : Nat)) ∧ fget 1 t = some (.pointer (some ⟨σ.next, 0, none⟩)) ∧ fget 4 t = some v
    ∧ Own σ' σ1.next 1 v (countB ls.length ++ (ls.take i).flatMap countB).length (bytesV (countB ls.length ++ (ls.take i).flatMap countB)) ∧ Kp σ1.next σ1 σ') ls.length ?_ (LL_big (by omega)) ?_
  · refine ⟨0, v3, by simp, by omega, ?_, ?_, ?_, by simpa using ho3, hk3⟩
    · simp only [fget_put, Nat.reduceLT, Nat.reduceEqDiff, reduceIte, reduceCtorEq]; rfl
    · simp only [fget_put, Nat.reduceLT, Nat.reduceEqDiff, reduceIte, reduceCtorEq]
    · simp only [fget_put, Nat.reduceLT, Nat.reduceEqDiff, reduceIte, reduceCtorEq]
  rintro r t σ4 ⟨i, v4, rfl, hi, h5, h1, h4, ho4, hk4⟩
  have hcl := @countB_le ls.length
  have hfl := flat_le countB 9 (fun x => countB_le) (ls.take i)
  have htl : (ls.take i).length ≤ 256 := by rw [List.length_take]; omega
  have hlen := len_24 (hx1.kp0 hk4 (Nat.le_refl _))
  rcases Nat.lt_or_ge i ls.length with hc | hc
  · have dc : decide ((i : Int) < (ls.length : Nat)) = true := decide_eq_true (by omega)
    obtain ⟨p, e1, e2⟩ := ints_at (hx1.kp0 hk4 (Nat.le_refl _)) hc
    simp only [↓wpC_seq, ↓wpC_regionL, ↓wpC_cond, ↓wpC_skip, ↓wpC_block, ↓wpL_cons, ↓wpL_nil, ↓thenX_normal, ↓blockX_normal, aop_move, aop_assign, aop_bin, aop_load, aop_fieldAddr, aop_indexAddr, aop_call, aop_len, aop_append, aval_tmp, aval_int, avals_nil', avals_cons', fget_put, ob_some', wpA_val0, wpA_enter, ↓wpPut_some, brP_true, Nat.reduceLT, Nat.reduceEqDiff, Nat.add_zero, reduceIte, true_and, bin_lss, bin_add, fAddr_eq, callA_enter en_27, fa_27_0, ld_24, ia_24, ld_63, ap_22_22, h5, h1, h4, L0 hk4, hlen, dc, e1, e2]
    refine evV_use (p := countP) rfl (rcount_p σ4 ls[i] (hls _ (List.getElem_mem hc))) fun v5 σ5 q => ?_
    have q5 := q ls[i] rfl
    have hcl2 := @countB_le ls[i]
    have ho4' := ho4.ext q5.2 (.inl rfl)
    obtain ⟨v6, σ6, e, q1, q2, _⟩ := app_sl (bytes := 1) ho4' (q5.1.sl (by omega)) (by omega) (Nat.le_trans hk4.up q5.2.up) bytesV_one (by rw [List.length_append]; omega)
    rw [e, wpA_val]
    refine ⟨q2.up, ls.length - (i + 1), by omega, i + 1, v6, rfl, by omega, ?_, ?_⟩
    · rw [wrap64 (by omega) (by omega)]; push_cast; rfl
    · refine ⟨rfl, ?_, (hk4.trans (.of_ext q5.2 hk4.up)).trans (.of_own q2 ho4' (Nat.le_trans hk4.up q5.2.up))⟩
      rw [List.take_succ_eq_append_getElem hc, List.flatMap_append, ← List.append_assoc, bytesV_append, List.length_append]
      simpa using q1
  have hc : i = ls.length := by omega
  subst hc
  have dc : decide ((ls.length : Int) < (ls.length : Nat)) = false := decide_eq_false (by omega)
  rw [List.take_length] at ho4 hfl
  simp only [↓wpC_seq, ↓wpC_regionL, ↓wpC_cond, ↓wpC_exit, ↓wpL_cons, ↓wpL_nil, ↓thenX_normal, ↓thenX_exit, ↓blockX_exit, aop_move, aop_bin, aop_load, aop_fieldAddr, aop_len, aval_tmp, fget_put, ob_some', wpA_val0, ↓wpPut_some, brP_false, Nat.reduceLT, Nat.reduceEqDiff, Nat.add_zero, Nat.reduceAdd, reduceIte, bin_lss, fAddr_eq, fa_27_0, ld_24, cv_3_63, h5, h1, h4, L0 hk4, hlen, dc, L1 hk4, len_25 (hy1.kp0 hk4 (Nat.le_refl _))]
  rw [wrapU64 (by omega) (by omega)]
  refine evV_use (p := countP) rfl (rcount_p σ4 gs.length (by omega)) fun v5 σ5 q => ?_
  have q5 := q gs.length rfl
  have hcl2 := @countB_le gs.length
  have ho4' := ho4.ext q5.2 (.inl rfl)
  obtain ⟨v6, σ6, e, q1, q2, _⟩ := app_sl (bytes := 1) ho4' (q5.1.sl (by omega)) (by omega) (Nat.le_trans hk4.up q5.2.up) bytesV_one (by rw [List.length_append]; omega)
  rw [e, wpA_val]
  refine ⟨q2.up, ?_⟩
  have hk6 : Kp σ1.next σ1 σ6 := (hk4.trans (.of_ext q5.2 hk4.up)).trans (.of_own q2 ho4' (Nat.le_trans hk4.up q5.2.up))
  have hpre : (countB ls.length ++ ls.flatMap countB ++ countB gs.length).length ≤ 9 + 256 * 9 + 9 := by
    rw [List.length_append, List.length_append]; omega
  have ho6 : Own σ6 σ1.next 1 v6 (countB ls.length ++ ls.flatMap countB ++ countB gs.length).length (bytesV (countB ls.length ++ ls.flatMap countB ++ countB gs.length)) := by
    rw [bytesV_append, List.length_append]; exact q1
  have hput : putB ls gs = countB ls.length ++ ls.flatMap countB ++ countB gs.length ++ gs.flatMap valB := rfl
  generalize countB ls.length ++ ls.flatMap countB ++ countB gs.length = pre at hpre ho6 hput
  clear ho4 ho4' q1 q2 e q q3 q5 hk4 hfl htl hcl hcl2
  refine wpC_loop (fun r t σ' => ∃ j v, r = gs.length - j ∧ j ≤ gs.length ∧ fget 6 t = some (.int .i64 (j : Nat)) ∧ fget 1 t = some (.pointer (some ⟨σ.next, 0, none⟩)) ∧ fget 4 t = some v
    ∧ Own σ' σ1.next 1 v (pre ++ (gs.take j).flatMap valB).length (bytesV (pre ++ (gs.take j).flatMap valB)) ∧ Kp σ1.next σ1 σ') gs.length ?_ (LL_big (by omega)) ?_
  · refine ⟨0, v6, by simp, by omega, ?_, ?_, ?_, by simpa using ho6, hk6⟩
    · simp only [fget_put, Nat.reduceLT, Nat.reduceEqDiff, reduceIte]; rfl
    · simp only [fget_put, Nat.reduceLT, Nat.reduceEqDiff, reduceIte, h1]
    · simp only [fget_put, Nat.reduceLT, Nat.reduceEqDiff, reduceIte]
  clear h5 h1 h4
  rintro r t σ7 ⟨j, v7, rfl, hj, h6, h1, h4, ho7, hk7⟩
  have hvl := vals_le (gs := gs.take j) fun g hg' => hg g (List.mem_of_mem_take hg')
  have htl : (gs.take j).length ≤ 5120 := by rw [List.length_take]; omega
  have hlen := len_25 (hy1.kp0 hk7 (Nat.le_refl _))
  rcases Nat.lt_or_ge j gs.length with hc | hc
  · have dc : decide ((j : Int) < (gs.length : Nat)) = true := decide_eq_true (by omega)
    obtain ⟨k, h, f6, f7⟩ := hg gs[j] (List.getElem_mem hc)
    -- a value's parts, wherever the run stands
    have at_ : ∀ {σ' : AHeap}, Kp σ1.next σ1 σ' → ∃ b o, ixSl 33 y (.int .i64 j) = some (.pointer (some ⟨b, o, none⟩)) ∧ loadOne σ' (.pointer (some ⟨b, o, none⟩)) = some (.int .u8 (k : Nat)) ∧ ∀ i (hi : i < 32), loadOne σ' (.pointer (some ⟨b, o + 1 + i, none⟩)) = some (.int .u8 ((h[i]'(by omega) : Nat) : Int)) := by
      intro σ' hk
      obtain ⟨b, o, c, kd, f1, f2, f3, f4, f5⟩ := given_at (hy1.kp0 hk (Nat.le_refl _)) hg hc
      rw [f6] at f5
      refine ⟨b, o, f1, loadOne_get f3 ?_, fun i hi => loadOne_get f3 ?_⟩
      · have := cell_in f5 (i := 0) (by omega)
        simpa [bytesV] using this
      · have := cell_in f5 (i := i + 1) (by omega)
        rw [show o + (i + 1) = o + 1 + i by omega] at this
        rw [this]
        show (bytesV h)[i]? = _
        rw [bytesV, List.getElem?_map, List.getElem?_eq_getElem (by omega)]; rfl
    obtain ⟨b, o, f1, f8, f9⟩ := at_ hk7
    have hup7 := hk7.up
    simp only [↓wpC_seq, ↓wpC_regionL, ↓wpC_cond, ↓wpC_skip, ↓wpC_block, ↓wpL_cons, ↓wpL_nil, ↓thenX_normal, aop_move, aop_assign, aop_bin, aop_load, aop_fieldAddr, aop_indexAddr, aop_buildSlice, aParts_nil, aParts_cons, aop_len, aop_append, aval_tmp, aval_int, fget_put, ob_some', wpA_val0, wpA_val, ↓wpPut_some, brP_true, Nat.reduceLT, Nat.reduceEqDiff, Nat.add_zero, Nat.reduceAdd, reduceIte, AHeap.next_push, bin_lss, fAddr_eq, ap_22_22, fa_27_1, ld_25, ia_25, fa_111_0, ld_5, bs_22_1, h6, h1, h4, L1 hk7, hlen, dc, f1, f8, bsl_one]
    refine ⟨by omega, ?_⟩
    have ho8 := ho7.ext (.push (x := .cells [.int .u8 (k : Nat)] .own)) (.inl rfl)
    obtain ⟨v9, σ9, e, q1, q2, _⟩ := app_sl (bytes := 1) ho8 ((own_bsl (k := .u8) (z := (k : Nat)) (Nat.le_refl _)).sl (by omega)) (by omega) (by rw [AHeap.next_push]; omega) (fun y hy => by rw [List.mem_singleton.1 hy]; rfl) (by rw [List.length_append]; omega)
    have hk9 : Kp σ1.next σ1 σ9 := (hk7.trans (.push (by omega))).trans (.of_own q2 ho8 (by rw [AHeap.next_push]; omega))
    rw [e, wpA_val]
    refine ⟨q2.up, ?_⟩
    have hq1 : Own σ9 σ1.next 1 v9 (pre ++ (gs.take j).flatMap valB ++ [k]).length (bytesV (pre ++ (gs.take j).flatMap valB ++ [k])) := by
      rw [bytesV_append, List.length_append]; exact q1
    have hp1 : (pre ++ (gs.take j).flatMap valB ++ [k]).length ≤ 9 + 256 * 9 + 9 + 5120 * 33 + 1 := by
      rw [List.length_append, List.length_append, List.length_singleton]; omega
    have hval : pre ++ (gs.take (j + 1)).flatMap valB = pre ++ (gs.take j).flatMap valB ++ [k] ++ (if k = 2 then h else []) := by
      rw [List.take_succ_eq_append_getElem hc, List.flatMap_append, f6, ← List.append_assoc]
      simp only [List.flatMap_cons, List.flatMap_nil, List.append_nil, valB, List.headD_cons, List.drop_succ_cons, List.drop_zero]
      rw [List.append_assoc _ [k]]; rfl
    generalize pre ++ (gs.take j).flatMap valB ++ [k] = pk at hq1 hp1 hval
    refine wpC_loop (fun r t σ' => ∃ i v, r = 32 - i ∧ i ≤ 32 ∧ (k ≠ 2 → i = 0) ∧ fget 7 t = some (.int .i64 (i : Nat)) ∧ fget 6 t = some (.int .i64 (j : Nat)) ∧ fget 1 t = some (.pointer (some ⟨σ.next, 0, none⟩)) ∧ fget 4 t = some v
      ∧ Own σ' σ1.next 1 v (pk ++ h.take i).length (bytesV (pk ++ h.take i)) ∧ Kp σ1.next σ1 σ') 32 ?_ (LL_big (by omega)) ?_
    · refine ⟨0, v9, by simp, by omega, fun _ => rfl, ?_, ?_, ?_, ?_, by simpa using hq1, hk9⟩
      · simp only [fget_put, Nat.reduceLT, Nat.reduceEqDiff, reduceIte]; rfl
      · simp only [fget_put, Nat.reduceLT, Nat.reduceEqDiff, reduceIte, h6]
      · simp only [fget_put, Nat.reduceLT, Nat.reduceEqDiff, reduceIte, h1]
      · simp only [fget_put, Nat.reduceLT, Nat.reduceEqDiff, reduceIte]
    clear h6 h1 h4
    rintro r t σ10 ⟨i, v10, rfl, hi, hk0, h7, h6, h1, h4, ho10, hk10⟩
    obtain ⟨b', o', g1, g2, g3⟩ := at_ hk10
    have hup10 := hk10.up
    have htk : (h.take i).length ≤ 32 := by rw [List.length_take]; omega
    have hnext : some (Value.int .i64 (IntKind.i64.wrap ((j : Int) + 1))) = some (.int .i64 ((j + 1 : Nat) : Int)) := by rw [wrap64 (by omega) (by omega)]; push_cast; rfl
    rcases Nat.lt_or_ge i 32 with hi2 | hi2
    · have di : decide ((i : Int) < 32) = true := decide_eq_true (by omega)
      by_cases hk2 : k = 2
      · have d2 : ((k : Int) == 2) = true := by simp; omega
        simp only [↓wpC_seq, ↓wpC_regionL, ↓wpC_cond, ↓wpC_skip, ↓wpC_block, ↓wpL_cons, ↓wpL_guard, ↓wpL_nil, ↓thenX_normal, ↓blockX_normal, aop_move, aop_assign, aop_bin, aop_load, aop_fieldAddr, aop_indexAddr, aop_buildSlice, aParts_nil, aParts_cons, aop_append, aval_tmp, aval_int, fget_put, ob_some', obP_some, wpA_val0, ↓wpPut_some, ↓gSlot_zero, ↓gSlot_succ, wpG_tt, brP_true, Nat.reduceLT, Nat.reduceEqDiff, Nat.add_zero, Nat.reduceAdd, reduceIte, true_and, and_self, ne_eq, bin_eql, bin_lss, bin_add, aop_pick, fAddr_eq, ap_22_22, fa_27_1, ld_25, ia_25, fa_111_0, ld_5, bs_22_1, fa_111_1, ia_40, h7, h6, h1, h4, L1 hk10, di, g1, g2, d2]
        rw [ixArr_eq hi2]
        simp only [ob_some', wpA_val0, wpA_val, AHeap.next_push, Nat.mul_one, g3 i hi2, bsl_one]
        refine ⟨by omega, ?_⟩
        have ho11 := ho10.ext (.push (x := .cells [.int .u8 ((h[i]'(by omega) : Nat) : Int)] .own)) (.inl rfl)
        obtain ⟨v12, σ12, e', r1, r2, _⟩ := app_sl (bytes := 1) ho11 ((own_bsl (k := .u8) (z := ((h[i]'(by omega) : Nat) : Int)) (Nat.le_refl _)).sl (by omega)) (by omega) (by rw [AHeap.next_push]; omega) (fun y hy => by rw [List.mem_singleton.1 hy]; rfl) (by rw [List.length_append]; omega)
        rw [e', wpA_val]
        refine ⟨r2.up, 32 - (i + 1), by omega, i + 1, v12, rfl, by omega, fun q => absurd hk2 q, ?_, ?_⟩
        · rw [wrap64 (by omega) (by omega)]; push_cast; rfl
        · refine ⟨rfl, ?_, (hk10.trans (.push (by omega))).trans (.of_own r2 ho11 (by rw [AHeap.next_push]; omega))⟩
          rw [List.take_succ_eq_append_getElem (show i < h.length by omega), ← List.append_assoc, bytesV_append, List.length_append]
          exact r1
      · have d2 : ((k : Int) == 2) = false := by simp; omega
        simp only [↓wpC_seq, ↓wpC_regionL, ↓wpC_cond, ↓wpC_exit, ↓wpL_cons, ↓wpL_guard, ↓wpL_nil, ↓thenX_normal, ↓thenX_exit, ↓blockX_normal, ↓blockX_exit, aop_move, aop_bin, aop_load, aop_fieldAddr, aop_indexAddr, aval_tmp, aval_int, fget_put, ob_some', obP_some, wpA_val0, ↓wpPut_some, ↓gSlot_zero, ↓gSlot_succ, wpG_tt, brP_false, Nat.reduceLT, Nat.reduceEqDiff, Nat.add_zero, Nat.reduceAdd, reduceIte, true_and, and_self, bin_eql, bin_lss, bin_add, aop_pick, fAddr_eq, fa_27_1, ld_25, ia_25, fa_111_0, ld_5, h7, h6, h1, h4, L1 hk10, di, g1, g2, d2]
        refine ⟨gs.length - (j + 1), by omega, j + 1, v10, rfl, by omega, hnext, rfl, ?_, hk10⟩
        obtain rfl := hk0 hk2
        rw [hval, if_neg hk2]
        simpa using ho10
    · have hi3 : i = 32 := by omega
      subst hi3
      have di : decide (((32 : Nat) : Int) < 32) = false := decide_eq_false (by omega)
      have hk2 : k = 2 := Classical.byContradiction fun q => by have := hk0 q; omega
      simp only [↓wpC_seq, ↓wpC_regionL, ↓wpC_cond, ↓wpC_exit, ↓wpL_cons, ↓wpL_guard, ↓wpL_nil, ↓thenX_normal, ↓thenX_exit, ↓blockX_normal, ↓blockX_exit, aop_move, aop_bin, aval_tmp, aval_int, aval_bool, fget_put, ob_some', obP_some, wpA_val0, ↓wpPut_some, ↓gSlot_zero, ↓gSlot_succ, wpG_tf, brP_false, Nat.reduceLT, Nat.reduceEqDiff, reduceIte, true_and, and_self, bin_lss, bin_add, aop_pick, h7, h6, h1, h4, di]
      refine ⟨gs.length - (j + 1), by omega, j + 1, v10, rfl, by omega, hnext, rfl, ?_, hk10⟩
      rw [hval, if_pos hk2]
      rw [List.take_of_length_le (by omega)] at ho10
      exact ho10
  · have hc : j = gs.length := by omega
    subst hc
    have dc : decide ((gs.length : Int) < (gs.length : Nat)) = false := decide_eq_false (by omega)
    rw [List.take_length] at ho7
    simp only [↓wpC_seq, ↓wpC_regionL, ↓wpC_cond, ↓wpC_exit, ↓wpL_cons, ↓wpL_nil, ↓thenX_normal, ↓thenX_exit, ↓blockX_exit, aop_move, aop_bin, aop_load, aop_fieldAddr, aop_len, aval_tmp, fget_put, ob_some', wpA_val0, ↓wpPut_some, brP_false, Nat.reduceLT, Nat.reduceEqDiff, Nat.reduceAdd, reduceIte, bin_lss, fAddr_eq, fa_27_1, ld_25, h6, h1, h4, L1 hk7, hlen, dc]
    rw [← hput] at ho7
    exact ⟨fun _ => ⟨v7, rfl, ho7.mono (by omega), hE1.trans hk7.ext⟩, fun q => by rw [hok] at q; cases q⟩
end Go.Proofs.YtlbhfjnlpfaioaaGreatDoor
/- A block, data and a proof as bytes: by the program and by the reference. -/
namespace Go.Proofs.YtlbhfjnlpfaioaaGreatDoor
open Go Go.Eng

/-- a list of rows of bytes -/
def Rows8 (σ : AHeap) (v : Value) (dl : List (List Nat)) : Prop := ∃ cs, Sl σ 1 v dl.length cs ∧ ∀ i (hi : i < dl.length), ∃ w, cs[i]? = some w ∧ Sl σ 1 w dl[i].length (bytesV dl[i])
theorem Rows8.kp0 {σ σ' : AHeap} {n0 : Nat} {v : Value} {dl : List (List Nat)} (h : Rows8 σ v dl) (k : Kp n0 σ σ') (hn : σ.next ≤ n0) : Rows8 σ' v dl := by
  obtain ⟨cs, h1, h2⟩ := h
  refine ⟨cs, h1.kp0 k hn, fun i hi => ?_⟩
  obtain ⟨w, q1, q2⟩ := h2 i hi
  exact ⟨w, q1, q2.kp0 k hn⟩
theorem Rows8.ext0 {σ σ' : AHeap} {v : Value} {dl : List (List Nat)} (h : Rows8 σ v dl) (e : Ext none σ σ') : Rows8 σ' v dl := h.kp0 (.of_ext e (Nat.le_refl _)) (Nat.le_refl _)
theorem Rows8.at {σ : AHeap} {v : Value} {dl : List (List Nat)} (h : Rows8 σ v dl) {i : Nat} (hi : i < dl.length) : ∃ p w, ixSl 1 v (.int .i64 i) = some p ∧ loadOne σ p = some w ∧ Sl σ 1 w dl[i].length (bytesV dl[i]) := by
  obtain ⟨cs, h1, h2⟩ := h
  obtain ⟨w, q1, q2⟩ := h2 i hi
  obtain ⟨p, e1, e2⟩ := h1.at (k := .i64) hi
  refine ⟨p, w, e1, loadOne_at ?_, q2⟩
  have hl := h1.len
  have : (cs.drop (i * 1)).take 1 = [w] := by
    rw [Nat.mul_one]
    have hi' : i < cs.length := by omega
    rw [List.drop_eq_getElem_cons hi']
    rw [List.getElem?_eq_getElem hi'] at q1
    rw [Option.some.inj q1]; rfl
  rw [this] at e2; exact e2

def packOk (dl : List (List Nat)) (ls : List Nat) (gs : List (List Nat)) : Bool := putOk ls gs && decide (dl.length ≤ 256)
def packB (xl : List Nat) (dl : List (List Nat)) (ls : List Nat) (gs : List (List Nat)) : List Nat := rowB xl ++ countB dl.length ++ dl.flatMap rowB ++ putB ls gs
def packP (xl : List Nat) (dl : List (List Nat)) (ls : List Nat) (gs : List (List Nat)) : Post := fun _ σ v σ' =>
  (packOk dl ls gs = true → ∃ b, v = .tuple ⟨[b, .int .i64 0]⟩ ∧ BP σ σ' b (packB xl dl ls gs)) ∧ (packOk dl ls gs = false → v = .tuple ⟨[.slice none 0 0, .int .i64 2]⟩ ∧ Ext none σ σ')

def total (dl : List (List Nat)) : Nat := (dl.map List.length).sum
theorem rowB_le {l : List Nat} : (rowB l).length ≤ l.length + 9 := by
  have := @countB_le l.length
  rw [rowB, List.length_append]; omega
theorem rows_le : ∀ {dl : List (List Nat)}, (dl.flatMap rowB).length ≤ total dl + dl.length * 9
  | [] => by simp [total]
  | d :: dl => by
    have h1 := rows_le (dl := dl)
    have h2 := @rowB_le d
    have : total (d :: dl) = d.length + total dl := by simp [total]
    rw [List.flatMap_cons, List.length_append, List.length_cons, Nat.succ_mul]
    omega
theorem total_append (a b : List (List Nat)) : total (a ++ b) = total a + total b := by rw [total, List.map_append, List.sum_append]; rfl
theorem total_take {dl : List (List Nat)} (i : Nat) : total (dl.take i) ≤ total dl := by
  have : dl = dl.take i ++ dl.drop i := (List.take_append_drop i dl).symm
  have h : total dl = total (dl.take i) + total (dl.drop i) := by
    conv => lhs; rw [this]
    exact total_append _ _
  omega
theorem total_get {dl : List (List Nat)} {i : Nat} (hi : i < dl.length) : dl[i].length ≤ total dl := by
  have h := total_take (dl := dl) (i + 1)
  rw [List.take_succ_eq_append_getElem hi] at h
  have : total (dl.take i ++ [dl[i]]) = total (dl.take i) + dl[i].length := by rw [total_append]; rfl
  omega
theorem putB_le {ls : List Nat} {gs : List (List Nat)} (hg : GsOk gs) (h : putOk ls gs = true) : (putB ls gs).length ≤ 200000 := by
  simp only [putOk, Bool.and_eq_true, decide_eq_true_eq] at h
  have h1 := @countB_le ls.length
  have h2 := @countB_le gs.length
  have h3 := flat_le countB 9 (fun x => countB_le) ls
  have h4 := vals_le hg
  rw [putB, List.length_append, List.length_append, List.length_append]
  omega

set_option maxRecDepth 20000 in
theorem pack_ok (σ : AHeap) (vx vd x y : Value) (xl : List Nat) (dl : List (List Nat)) (ls : List Nat) (gs : List (List Nat)) (hvx : Sl σ 1 vx xl.length (bytesV xl)) (hvd : Rows8 σ vd dl)
    (hx : Sl σ 1 x ls.length (intsV .u64 ls)) (hls : ∀ n ∈ ls, n < 18446744073709551616) (hy : Sl σ 33 y gs.length (bytesV gs.flatten)) (hg : GsOk gs)
    (hl : ls.length < 4611686018427387904) (hgl : gs.length < 4611686018427387904) (hdl : dl.length < 4611686018427387904) (hsz : xl.length + total dl ≤ 2097152) :
    ∃ v σ', CallOk Tryz.prog 7 7 [vx, vd, .agg ⟨[x, y]⟩] σ v σ' ∧ packP xl dl ls gs [vx, vd, .agg ⟨[x, y]⟩] σ v σ' := by
  refine fn_wp mixed [(22, putP ls gs), (23, rowP), (24, countP)] 46 [.tmp 6, .tmp 7] Tryz.func7 rfl rfl rfl (by decide) (by simp) ?_
  have hN : aNew σ (.agg ⟨[x, y]⟩) = some (.val (.pointer (some ⟨σ.next, 0, none⟩)) (σ.push (.cells [x, y] .own))) := aNew_agg (by
    intro z hz
    simp only [List.mem_cons, List.not_mem_nil, or_false] at hz
    rcases hz with rfl | rfl
    · exact hx.one
    · exact hy.one)
  generalize hσ1 : σ.push (.cells [x, y] .own) = σ1 at hN
  have hg1 : σ1.get σ.next = some (.cells [x, y] .own) := by rw [← hσ1, AHeap.get_push, if_pos rfl]
  have hE1 : Ext none σ σ1 := by rw [← hσ1]; exact .push
  have hLA : loadAgg 2 σ1 (.pointer (some ⟨σ.next, 0, none⟩)) = some (.agg ⟨[x, y]⟩) := loadAgg_get hg1 (by simp)
  simp only [↓wpC_seq, ↓wpC_regionL, ↓wpC_cond, ↓wpC_skip, ↓wpC_ret, ↓wpC_block, ↓wpL_cons, ↓wpL_guard, ↓wpL_nil, ↓thenX_normal, ↓thenX_ret, initFr_cons, initFr_nil, aop_move, aop_assign, aop_bin, aop_conv, aop_load, aop_extract, aop_box, aop_call, aop_len, aop_append, aval_tmp, aval_nilSlice, aval_int, aval_bool, avals_nil', avals_cons', fget_put, ob_some', obP_some, wpA_val0, wpA_val, wpA_enter, ↓wpPut_some, ↓gSlot_zero, ↓gSlot_succ, Nat.reduceLT, Nat.reduceEqDiff, Nat.reduceAdd, reduceIte, resultsK_nil, resultsK_tmp, tup_two, true_and, and_self, ne_eq, reduceCtorEq, not_false_eq_true, implies_true, aop_pick, callA_enter en_22, callA_enter en_23, callA_enter en_24, ld_27, ap_22_22, hN, hLA]
  refine ⟨hE1.up, ?_⟩
  refine evV_use (p := putP ls gs) rfl (put_ok σ1 x y ls gs (hx.ext0 hE1) hls (hy.ext0 hE1) hg hl hgl) fun v σ2 q => ?_
  cases hpo : putOk ls gs
  · obtain ⟨rfl, hE2⟩ := q.2 hpo
    simp only [oExtract_eq, ob_some', wpA_val0, wpG_ft, brP_true, List.getElem?_cons_zero, List.getElem?_cons_succ, bin_neq, show ((2 : Int) != 0) = true from rfl]
    exact ⟨fun q => by simp [packOk, hpo] at q, fun _ => ⟨rfl, hE1.trans hE2⟩⟩
  obtain ⟨b, rfl, hob, hE2⟩ := q.1 hpo
  have hE := hE1.trans hE2
  have hvx2 := hvx.ext0 hE
  have hvd2 := hvd.ext0 hE
  obtain ⟨cd, hcd, _⟩ := id hvd2
  have hlen := len_23 hcd
  rcases Nat.lt_or_ge 256 dl.length with c1 | c1
  · have d1 : decide ((dl.length : Int) > 256) = true := decide_eq_true (by omega)
    simp only [oExtract_eq, ob_some', wpA_val0, wpG_ff, brP_true, List.getElem?_cons_zero, List.getElem?_cons_succ, bin_neq, bin_gtr, show ((0 : Int) != 0) = false from rfl, hlen, d1]
    exact ⟨fun q => by simp [packOk] at q; omega, fun _ => ⟨rfl, hE⟩⟩
  have d1 : decide ((dl.length : Int) > 256) = false := decide_eq_false (by omega)
  have hpk : packOk dl ls gs = true := by simp [packOk, hpo, c1]
  have hpl := putB_le hg hpo
  simp only [oExtract_eq, ob_some', wpA_val0, wpG_ff, brP_false, List.getElem?_cons_zero, List.getElem?_cons_succ, bin_neq, bin_gtr, show ((0 : Int) != 0) = false from rfl, hlen, d1]
  refine evV_use (p := rowP) rfl (row_p σ2 vx xl hvx2 (by omega)) fun v3 σ3 q => ?_
  have q3 := q vx xl rfl hvx2
  have hlen3 := len_23 (hcd.ext0 q3.2)
  simp only [ob_some', wpA_val0, cv_3_63, hlen3]
  rw [wrapU64 (by omega) (by omega)]
  refine evV_use (p := countP) rfl (count_p σ3 dl.length (by omega)) fun v4 σ4 q => ?_
  have q4 := q dl.length rfl
  have hr := @rowB_le xl
  have hcl := @countB_le dl.length
  have ho3 : Own σ4 σ2.next 1 v3 _ _ := q3.1.ext q4.2 (.inl rfl)
  have hup3 := q3.2.up
  have hup4 := q4.2.up
  obtain ⟨v5, σ5, e, q1, q2, _⟩ := app_sl (bytes := 1) ho3 (q4.1.sl (by omega)) (by omega) (by omega) bytesV_one (by omega)
  rw [e, wpA_val]
  refine ⟨q2.up, ?_⟩
  have hk5 : Kp σ2.next σ2 σ5 := ((Kp.of_ext q3.2 (Nat.le_refl _)).trans (.of_ext q4.2 hup3)).trans (.of_own q2 ho3 (by omega))
  have ho5 : Own σ5 σ2.next 1 v5 (rowB xl ++ countB dl.length).length (bytesV (rowB xl ++ countB dl.length)) := by rw [bytesV_append, List.length_append]; exact q1
  have hlen5 := len_23 (hcd.kp0 hk5 (Nat.le_refl _))
  have hpre : (rowB xl ++ countB dl.length).length ≤ xl.length + 18 := by rw [List.length_append]; omega
  simp only [ob_some', wpA_val0, hlen5]
  refine wpC_loop (fun r t σ' => ∃ i v, r = dl.length - i ∧ i ≤ dl.length ∧ fget 34 t = some (.int .i64 (i : Nat)) ∧ fget 33 t = some (.int .i64 dl.length) ∧ fget 32 t = some vd ∧ fget 8 t = some b ∧ fget 10 t = some v
    ∧ Own σ' σ2.next 1 v (rowB xl ++ countB dl.length ++ (dl.take i).flatMap rowB).length (bytesV (rowB xl ++ countB dl.length ++ (dl.take i).flatMap rowB)) ∧ Kp σ2.next σ2 σ') dl.length ?_ (LL_big (by omega)) ?_
  · refine ⟨0, v5, by simp, by omega, ?_, ?_, ?_, ?_, ?_, by simpa using ho5, hk5⟩
    · simp only [fget_put, Nat.reduceLT, Nat.reduceEqDiff, reduceIte, reduceCtorEq]; rfl
    · simp only [fget_put, Nat.reduceLT, Nat.reduceEqDiff, reduceIte, reduceCtorEq]
    · simp only [fget_put, Nat.reduceLT, Nat.reduceEqDiff, reduceIte, reduceCtorEq]
    · simp only [fget_put, Nat.reduceLT, Nat.reduceEqDiff, reduceIte, reduceCtorEq]
    · simp only [fget_put, Nat.reduceLT, Nat.reduceEqDiff, reduceIte, reduceCtorEq]
  rintro r t σ6 ⟨i, v6, rfl, hi, h34, h33, h32, h8, h10, ho6, hk6⟩
  have hrl := rows_le (dl := dl.take i)
  have htt := total_take (dl := dl) i
  have htl : (dl.take i).length ≤ 256 := by rw [List.length_take]; omega
  have hup6 := hk6.up
  rcases Nat.lt_or_ge i dl.length with hc | hc
  · have dc : decide ((i : Int) < (dl.length : Nat)) = true := decide_eq_true (by omega)
    obtain ⟨p, w, e1, e2, e3⟩ := (hvd2.kp0 hk6 (Nat.le_refl _)).at hc
    have htg := total_get hc
    simp only [↓wpC_seq, ↓wpC_regionL, ↓wpC_cond, ↓wpC_skip, ↓wpC_block, ↓wpL_cons, ↓wpL_nil, ↓thenX_normal, ↓blockX_normal, aop_move, aop_assign, aop_bin, aop_load, aop_indexAddr, aop_call, aop_append, aval_tmp, aval_int, avals_nil', avals_cons', fget_put, ob_some', wpA_val0, wpA_enter, ↓wpPut_some, brP_true, Nat.reduceLT, Nat.reduceEqDiff, reduceIte, true_and, bin_lss, bin_add, callA_enter en_23, ap_22_22, ia_23, ld_22, h34, h33, h32, h8, h10, dc, e1, e2]
    refine evV_use (p := rowP) rfl (row_p σ6 w dl[i] e3 (by omega)) fun v7 σ7 q => ?_
    have q7 := q w dl[i] rfl e3
    have hr7 := @rowB_le dl[i]
    have ho7 := ho6.ext q7.2 (.inl rfl)
    have hup7 := q7.2.up
    obtain ⟨v8, σ8, e, r1, r2, _⟩ := app_sl (bytes := 1) ho7 (q7.1.sl (by omega)) (by omega) (by omega) bytesV_one (by rw [List.length_append]; omega)
    rw [e, wpA_val]
    refine ⟨r2.up, dl.length - (i + 1), by omega, i + 1, v8, rfl, by omega, ?_, ?_⟩
    · rw [wrap64 (by omega) (by omega)]; push_cast; rfl
    · refine ⟨rfl, ?_, (hk6.trans (.of_ext q7.2 hup6)).trans (.of_own r2 ho7 (by omega))⟩
      rw [List.take_succ_eq_append_getElem hc, List.flatMap_append, ← List.append_assoc, bytesV_append, List.length_append]
      simpa using r1
  · have hc : i = dl.length := by omega
    subst hc
    have dc : decide ((dl.length : Int) < (dl.length : Nat)) = false := decide_eq_false (by omega)
    rw [List.take_length] at ho6 hrl
    have hb6 : Sl σ6 1 b (putB ls gs).length (bytesV (putB ls gs)) := (hob.sl (by omega)).kp0 hk6 (Nat.le_refl _)
    simp only [↓wpC_seq, ↓wpC_regionL, ↓wpC_cond, ↓wpC_exit, ↓wpL_cons, ↓wpL_nil, ↓thenX_normal, ↓thenX_exit, ↓blockX_exit, aop_bin, aval_tmp, fget_put, ob_some', wpA_val0, ↓wpPut_some, brP_false, Nat.reduceLT, Nat.reduceEqDiff, reduceIte, bin_lss, h34, h33, h8, h10, dc]
    obtain ⟨v8, σ8, e, r1, r2, _⟩ := app_sl (bytes := 1) ho6 hb6 (by omega) (by omega) bytesV_one (by rw [List.length_append]; omega)
    rw [e, wpA_val]
    refine ⟨r2.up, fun _ => ⟨v8, rfl, ?_, ?_⟩, fun q => by rw [hpk] at q; cases q⟩
    · rw [packB, bytesV_append, List.length_append]
      exact r1.mono hE.up
    · exact hE.trans ((hk6.trans (.of_own r2 ho6 (by omega))).ext)

set_option maxRecDepth 20000 in
theorem rpack_ok (σ : AHeap) (vx vd x y : Value) (xl : List Nat) (dl : List (List Nat)) (ls : List Nat) (gs : List (List Nat)) (hvx : Sl σ 1 vx xl.length (bytesV xl)) (hvd : Rows8 σ vd dl)
    (hx : Sl σ 1 x ls.length (intsV .u64 ls)) (hls : ∀ n ∈ ls, n < 18446744073709551616) (hy : Sl σ 33 y gs.length (bytesV gs.flatten)) (hg : GsOk gs)
    (hl : ls.length < 4611686018427387904) (hgl : gs.length < 4611686018427387904) (hdl : dl.length < 4611686018427387904) (hsz : xl.length + total dl ≤ 2097152) :
    ∃ v σ', CallOk Tryz.prog 7 8 [vx, vd, .agg ⟨[x, y]⟩] σ v σ' ∧ packP xl dl ls gs [vx, vd, .agg ⟨[x, y]⟩] σ v σ' := by
  refine fn_wp mixed [(25, putP ls gs), (26, rowP), (27, countP)] 48 [.tmp 6, .tmp 7] Tryz.func8 rfl rfl rfl (by decide) (by simp) ?_
  have hN : aNew σ (.agg ⟨[x, y]⟩) = some (.val (.pointer (some ⟨σ.next, 0, none⟩)) (σ.push (.cells [x, y] .own))) := aNew_agg (by
    intro z hz
    simp only [List.mem_cons, List.not_mem_nil, or_false] at hz
    rcases hz with rfl | rfl
    · exact hx.one
    · exact hy.one)
  generalize hσ1 : σ.push (.cells [x, y] .own) = σ1 at hN
  have hg1 : σ1.get σ.next = some (.cells [x, y] .own) := by rw [← hσ1, AHeap.get_push, if_pos rfl]
  have hE1 : Ext none σ σ1 := by rw [← hσ1]; exact .push
  have hLA : loadAgg 2 σ1 (.pointer (some ⟨σ.next, 0, none⟩)) = some (.agg ⟨[x, y]⟩) := loadAgg_get hg1 (by simp)
  simp only [↓wpC_seq, ↓wpC_regionL, ↓wpC_cond, ↓wpC_skip, ↓wpC_ret, ↓wpC_block, ↓wpL_cons, ↓wpL_guard, ↓wpL_nil, ↓thenX_normal, ↓thenX_ret, initFr_cons, initFr_nil, aop_move, aop_assign, aop_bin, aop_conv, aop_load, aop_extract, aop_box, aop_call, aop_len, aop_append, aval_tmp, aval_nilSlice, aval_int, aval_bool, avals_nil', avals_cons', fget_put, ob_some', obP_some, wpA_val0, wpA_val, wpA_enter, ↓wpPut_some, ↓gSlot_zero, ↓gSlot_succ, Nat.reduceLT, Nat.reduceEqDiff, Nat.reduceAdd, reduceIte, resultsK_nil, resultsK_tmp, tup_two, true_and, and_self, ne_eq, reduceCtorEq, not_false_eq_true, implies_true, aop_pick, callA_enter en_25, callA_enter en_26, callA_enter en_27, ld_27, ap_22_22, hN, hLA]
  refine ⟨hE1.up, ?_⟩
  refine evV_use (p := putP ls gs) rfl (rput_ok σ1 x y ls gs (hx.ext0 hE1) hls (hy.ext0 hE1) hg hl hgl) fun v σ2 q => ?_
  cases hpo : putOk ls gs
  · obtain ⟨rfl, hE2⟩ := q.2 hpo
    simp only [oExtract_eq, ob_some', wpA_val0, wpG_ft, brP_true, List.getElem?_cons_zero, List.getElem?_cons_succ, bin_neq, show ((2 : Int) != 0) = true from rfl]
    exact ⟨fun q => by simp [packOk, hpo] at q, fun _ => ⟨rfl, hE1.trans hE2⟩⟩
  obtain ⟨b, rfl, hob, hE2⟩ := q.1 hpo
  have hE := hE1.trans hE2
  have hvx2 := hvx.ext0 hE
  have hvd2 := hvd.ext0 hE
  obtain ⟨cd, hcd, _⟩ := id hvd2
  have hlen := len_23 hcd
  rcases Nat.lt_or_ge 256 dl.length with c1 | c1
  · have d1 : decide ((dl.length : Int) > 256) = true := decide_eq_true (by omega)
    simp only [oExtract_eq, ob_some', wpA_val0, wpG_ff, brP_true, List.getElem?_cons_zero, List.getElem?_cons_succ, bin_neq, bin_gtr, show ((0 : Int) != 0) = false from rfl, hlen, d1]
    exact ⟨fun q => by simp [packOk] at q; omega, fun _ => ⟨rfl, hE⟩⟩
  have d1 : decide ((dl.length : Int) > 256) = false := decide_eq_false (by omega)
  have hpk : packOk dl ls gs = true := by simp [packOk, hpo, c1]
  have hpl := putB_le hg hpo
  simp only [oExtract_eq, ob_some', wpA_val0, wpG_ff, brP_false, List.getElem?_cons_zero, List.getElem?_cons_succ, bin_neq, bin_gtr, show ((0 : Int) != 0) = false from rfl, hlen, d1]
  refine evV_use (p := rowP) rfl (rrow_p σ2 vx xl hvx2 (by omega)) fun v3 σ3 q => ?_
  have q3 := q vx xl rfl hvx2
  have hlen3 := len_23 (hcd.ext0 q3.2)
  simp only [ob_some', wpA_val0, cv_3_63, hlen3]
  rw [wrapU64 (by omega) (by omega)]
  refine evV_use (p := countP) rfl (rcount_p σ3 dl.length (by omega)) fun v4 σ4 q => ?_
  have q4 := q dl.length rfl
  have hr := @rowB_le xl
  have hcl := @countB_le dl.length
  have ho3 : Own σ4 σ2.next 1 v3 _ _ := q3.1.ext q4.2 (.inl rfl)
  have hup3 := q3.2.up
  have hup4 := q4.2.up
  obtain ⟨v5, σ5, e, q1, q2, _⟩ := app_sl (bytes := 1) ho3 (q4.1.sl (by omega)) (by omega) (by omega) bytesV_one (by omega)
  rw [e, wpA_val]
  refine ⟨q2.up, ?_⟩
  have hk5 : Kp σ2.next σ2 σ5 := ((Kp.of_ext q3.2 (Nat.le_refl _)).trans (.of_ext q4.2 hup3)).trans (.of_own q2 ho3 (by omega))
  have ho5 : Own σ5 σ2.next 1 v5 (rowB xl ++ countB dl.length).length (bytesV (rowB xl ++ countB dl.length)) := by rw [bytesV_append, List.length_append]; exact q1
  have hpre : (rowB xl ++ countB dl.length).length ≤ xl.length + 18 := by rw [List.length_append]; omega
  refine wpC_loop (fun r t σ' => ∃ i v, r = dl.length - i ∧ i ≤ dl.length ∧ fget 11 t = some (.int .i64 (i : Nat)) ∧ fget 1 t = some vd ∧ fget 8 t = some b ∧ fget 10 t = some v
    ∧ Own σ' σ2.next 1 v (rowB xl ++ countB dl.length ++ (dl.take i).flatMap rowB).length (bytesV (rowB xl ++ countB dl.length ++ (dl.take i).flatMap rowB)) ∧ Kp σ2.next σ2 σ') dl.length ?_ (LL_big (by omega)) ?_
  · refine ⟨0, v5, by simp, by omega, ?_, ?_, ?_, ?_, by simpa using ho5, hk5⟩
    · simp only [fget_put, Nat.reduceLT, Nat.reduceEqDiff, reduceIte, reduceCtorEq]; rfl
    · simp only [fget_put, Nat.reduceLT, Nat.reduceEqDiff, reduceIte, reduceCtorEq]
    · simp only [fget_put, Nat.reduceLT, Nat.reduceEqDiff, reduceIte, reduceCtorEq]
    · simp only [fget_put, Nat.reduceLT, Nat.reduceEqDiff, reduceIte, reduceCtorEq]
  rintro r t σ6 ⟨i, v6, rfl, hi, h11, h1, h8, h10, ho6, hk6⟩
  have hrl := rows_le (dl := dl.take i)
  have htt := total_take (dl := dl) i
  have htl : (dl.take i).length ≤ 256 := by rw [List.length_take]; omega
  have hup6 := hk6.up
  have hlen6 := len_23 (hcd.kp0 hk6 (Nat.le_refl _))
  rcases Nat.lt_or_ge i dl.length with hc | hc
  · have dc : decide ((i : Int) < (dl.length : Nat)) = true := decide_eq_true (by omega)
    obtain ⟨p, w, e1, e2, e3⟩ := (hvd2.kp0 hk6 (Nat.le_refl _)).at hc
    have htg := total_get hc
    simp only [↓wpC_seq, ↓wpC_regionL, ↓wpC_cond, ↓wpC_skip, ↓wpC_block, ↓wpL_cons, ↓wpL_nil, ↓thenX_normal, ↓blockX_normal, aop_move, aop_assign, aop_bin, aop_load, aop_indexAddr, aop_call, aop_len, aop_append, aval_tmp, aval_int, avals_nil', avals_cons', fget_put, ob_some', wpA_val0, wpA_enter, ↓wpPut_some, brP_true, Nat.reduceLT, Nat.reduceEqDiff, reduceIte, true_and, bin_lss, bin_add, callA_enter en_26, ap_22_22, ia_23, ld_22, h11, h1, h8, h10, hlen6, dc, e1, e2]
    refine evV_use (p := rowP) rfl (rrow_p σ6 w dl[i] e3 (by omega)) fun v7 σ7 q => ?_
    have q7 := q w dl[i] rfl e3
    have hr7 := @rowB_le dl[i]
    have ho7 := ho6.ext q7.2 (.inl rfl)
    have hup7 := q7.2.up
    obtain ⟨v8, σ8, e, r1, r2, _⟩ := app_sl (bytes := 1) ho7 (q7.1.sl (by omega)) (by omega) (by omega) bytesV_one (by rw [List.length_append]; omega)
    rw [e, wpA_val]
    refine ⟨r2.up, dl.length - (i + 1), by omega, i + 1, v8, rfl, by omega, ?_, ?_⟩
    · rw [wrap64 (by omega) (by omega)]; push_cast; rfl
    · refine ⟨rfl, ?_, (hk6.trans (.of_ext q7.2 hup6)).trans (.of_own r2 ho7 (by omega))⟩
      rw [List.take_succ_eq_append_getElem hc, List.flatMap_append, ← List.append_assoc, bytesV_append, List.length_append]
      simpa using r1
  · have hc : i = dl.length := by omega
    subst hc
    have dc : decide ((dl.length : Int) < (dl.length : Nat)) = false := decide_eq_false (by omega)
    rw [List.take_length] at ho6 hrl
    have hb6 : Sl σ6 1 b (putB ls gs).length (bytesV (putB ls gs)) := (hob.sl (by omega)).kp0 hk6 (Nat.le_refl _)
    simp only [↓wpC_seq, ↓wpC_regionL, ↓wpC_cond, ↓wpC_exit, ↓wpL_cons, ↓wpL_nil, ↓thenX_normal, ↓thenX_exit, ↓blockX_exit, aop_move, aop_bin, aop_len, aval_tmp, fget_put, ob_some', wpA_val0, ↓wpPut_some, brP_false, Nat.reduceLT, Nat.reduceEqDiff, reduceIte, bin_lss, h11, h1, h8, h10, hlen6, dc]
    obtain ⟨v8, σ8, e, r1, r2, _⟩ := app_sl (bytes := 1) ho6 hb6 (by omega) (by omega) bytesV_one (by rw [List.length_append]; omega)
    rw [e, wpA_val]
    refine ⟨r2.up, fun _ => ⟨v8, rfl, ?_, ?_⟩, fun q => by rw [hpk] at q; cases q⟩
    · rw [packB, bytesV_append, List.length_append]
      exact r1.mono hE.up
    · exact hE.trans ((hk6.trans (.of_own r2 ho6 (by omega))).ext)
end Go.Proofs.YtlbhfjnlpfaioaaGreatDoor
