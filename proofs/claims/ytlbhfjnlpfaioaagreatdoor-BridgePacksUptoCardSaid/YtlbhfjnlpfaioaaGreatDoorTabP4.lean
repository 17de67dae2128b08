/- Proofs as bytes, by the program: the whole. -/
import Derived.Test.YtlbhfjnlpfaioaaGreatDoorTabP1
namespace Go.Proofs.YtlbhfjnlpfaioaaGreatDoor
open Go Go.Eng

def putOk (ls : List Nat) (gs : List (List Nat)) : Bool := decide (ls.length ≤ 256) && (decide (gs.length ≤ 5120) && gs.all givenB)
def valB (g : List Nat) : List Nat := g.headD 0 :: (if g.headD 0 = 2 then g.drop 1 else [])
def putB (ls : List Nat) (gs : List (List Nat)) : List Nat := countB ls.length ++ ls.flatMap countB ++ countB gs.length ++ gs.flatMap valB
def putP (ls : List Nat) (gs : List (List Nat)) : Post := fun _ σ v σ' =>
  (putOk ls gs = true → ∃ b, v = .tuple ⟨[b, .int .i64 0]⟩ ∧ BP σ σ' b (putB ls gs)) ∧ (putOk ls gs = false → v = .tuple ⟨[.slice none 0 0, .int .i64 2]⟩ ∧ Ext none σ σ')

theorem intsV_length {k : IntKind} {l : List Nat} : (intsV k l).length = l.length := by simp [intsV]
theorem ints_at {σ : AHeap} {k : IntKind} {x : Value} {a : List Nat} (hx : Sl σ 1 x a.length (intsV k a)) {i : Nat} (hi : i < a.length) : ∃ p, ixSl 1 x (.int .i64 i) = some p ∧ loadOne σ p = some (.int k (a[i] : Nat)) := by
  obtain ⟨p, h1, h2⟩ := hx.at (k := .i64) hi
  refine ⟨p, h1, loadOne_at ?_⟩
  have e : ((intsV k a).drop (i * 1)).take 1 = [.int k (a[i] : Nat)] := by
    rw [Nat.mul_one]
    have hi' : i < (intsV k a).length := by rw [intsV_length]; exact hi
    rw [List.drop_eq_getElem_cons hi']
    simp [intsV]
  rw [e] at h2; exact h2
theorem flat_le {α : Type} (f : α → List Nat) (m : Nat) (hf : ∀ x, (f x).length ≤ m) : ∀ l : List α, (l.flatMap f).length ≤ l.length * m
  | [] => by simp
  | x :: l => by
    have h1 := flat_le f m hf l
    have h2 := hf x
    rw [List.flatMap_cons, List.length_append, List.length_cons, Nat.succ_mul]
    omega
def zeros33 : List Nat := List.replicate 33 0
theorem zero_given : (.agg ⟨[.int .u8 0, .int .u8 0, .int .u8 0, .int .u8 0, .int .u8 0, .int .u8 0, .int .u8 0, .int .u8 0, .int .u8 0, .int .u8 0, .int .u8 0, .int .u8 0, .int .u8 0, .int .u8 0, .int .u8 0, .int .u8 0, .int .u8 0, .int .u8 0, .int .u8 0, .int .u8 0, .int .u8 0, .int .u8 0, .int .u8 0, .int .u8 0, .int .u8 0, .int .u8 0, .int .u8 0, .int .u8 0, .int .u8 0, .int .u8 0, .int .u8 0, .int .u8 0, .int .u8 0]⟩ : Value) = .agg ⟨bytesV zeros33⟩ := rfl
theorem valB_le {g : List Nat} (h : g.length = 33) : (valB g).length ≤ 33 := by
  unfold valB
  split
  · simp [h]
  · simp
theorem vals_le : ∀ {gs : List (List Nat)}, GsOk gs → (gs.flatMap valB).length ≤ gs.length * 33
  | [], _ => by simp
  | g :: gs, h => by
    have h1 := vals_le (gs := gs) fun x hx => h x (.tail _ hx)
    have h2 := valB_le (h.len g (.head _))
    rw [List.flatMap_cons, List.length_append, List.length_cons, Nat.succ_mul]
    omega

set_option maxRecDepth 20000 in
theorem put_ok (σ : AHeap) (x y : Value) (ls : List Nat) (gs : List (List Nat)) (hx : Sl σ 1 x ls.length (intsV .u64 ls)) (hls : ∀ n ∈ ls, n < 18446744073709551616) (hy : Sl σ 33 y gs.length (bytesV gs.flatten)) (hg : GsOk gs)
    (hl : ls.length < 4611686018427387904) (hgl : gs.length < 4611686018427387904) :
    ∃ v σ', CallOk Tryz.prog 7 22 [.agg ⟨[x, y]⟩] σ v σ' ∧ putP ls gs [.agg ⟨[x, y]⟩] σ v σ' := by
  refine fn_wp mixed [(48, boolP (!gs.all givenB)), (24, countP)] 69 [.tmp 2, .tmp 3] Tryz.func22 rfl rfl rfl (by decide) (by simp) ?_
  have hN : aNew σ (.agg ⟨[x, y]⟩) = some (.val (.pointer (some ⟨σ.next, 0, none⟩)) (σ.push (.cells [x, y] .own))) := aNew_agg (by
    intro z hz
    simp only [List.mem_cons, List.not_mem_nil, or_false] at hz
    rcases hz with rfl | rfl
    · exact hx.one
    · exact hy.one)
  generalize hσ1 : σ.push (.cells [x, y] .own) = σ1 at hN
  have hg1 : σ1.get σ.next = some (.cells [x, y] .own) := by rw [← hσ1, AHeap.get_push, if_pos rfl]
  have hn1 : σ1.next = σ.next + 1 := by rw [← hσ1, AHeap.next_push]
  have hE1 : Ext none σ σ1 := by rw [← hσ1]; exact .push
  have hx1 := hx.ext0 hE1
  have hy1 := hy.ext0 hE1
  have hL0 : loadOne σ1 (.pointer (some ⟨σ.next, 0, none⟩)) = some x := loadOne_get hg1 rfl
  have hL1 : loadOne σ1 (.pointer (some ⟨σ.next, 1, none⟩)) = some y := loadOne_get hg1 rfl
  have no : putOk ls gs = false → putP ls gs [.agg ⟨[x, y]⟩] σ (.tuple ⟨[.slice none 0 0, .int .i64 2]⟩) σ1 := fun h => ⟨fun q => by rw [h] at q; (cases q), fun _ => ⟨rfl, hE1⟩⟩
  rcases Nat.lt_or_ge 256 ls.length with c1 | c1
  · have d1 : decide ((ls.length : Int) > 256) = true := decide_eq_true (by omega)
    simp only [↓wpC_seq, ↓wpC_regionL, ↓wpC_cond, ↓wpC_ret, ↓wpL_cons, ↓wpL_guard, ↓wpL_nil, ↓thenX_normal, ↓thenX_ret, initFr_cons, initFr_nil, aop_move, aop_assign, aop_bin, aop_load, aop_fieldAddr, aop_box, aop_len, aval_tmp, aval_nilSlice, aval_int, aval_bool, fget_put, ob_some', obP_some, wpA_val0, wpA_val, ↓wpPut_some, ↓gSlot_zero, ↓gSlot_succ, wpG_ft, brP_true, Nat.reduceLT, Nat.reduceEqDiff, Nat.add_zero, Nat.reduceAdd, reduceIte, resultsK_nil, resultsK_tmp, tup_two, true_and, and_self, ne_eq, reduceCtorEq, not_false_eq_true, implies_true, bin_gtr, aop_pick, fAddr_eq, fa_27_0, ld_24, hN, hL0, len_24 hx1, d1]
    exact ⟨hE1.up, no (by simp [putOk]; omega)⟩
  have d1 : decide ((ls.length : Int) > 256) = false := decide_eq_false (by omega)
  rcases Nat.lt_or_ge 5120 gs.length with c2 | c2
  · have d2 : decide ((gs.length : Int) > 5120) = true := decide_eq_true (by omega)
    simp only [↓wpC_seq, ↓wpC_regionL, ↓wpC_cond, ↓wpC_ret, ↓wpL_cons, ↓wpL_guard, ↓wpL_nil, ↓thenX_normal, ↓thenX_ret, initFr_cons, initFr_nil, aop_move, aop_assign, aop_bin, aop_load, aop_fieldAddr, aop_box, aop_len, aval_tmp, aval_nilSlice, aval_int, aval_bool, fget_put, ob_some', obP_some, wpA_val0, wpA_val, ↓wpPut_some, ↓gSlot_zero, ↓gSlot_succ, wpG_ff, wpG_ft, brP_true, Nat.reduceLT, Nat.reduceEqDiff, Nat.add_zero, Nat.reduceAdd, reduceIte, resultsK_nil, resultsK_tmp, tup_two, true_and, and_self, ne_eq, reduceCtorEq, not_false_eq_true, implies_true, bin_gtr, aop_pick, fAddr_eq, fa_27_0, ld_24, fa_27_1, ld_25, hN, hL0, hL1, len_24 hx1, len_25 hy1, d1, d2]
    exact ⟨hE1.up, no (by simp [putOk]; omega)⟩
  have d2 : decide ((gs.length : Int) > 5120) = false := decide_eq_false (by omega)
  simp only [↓wpC_seq, ↓wpC_regionL, ↓wpC_cond, ↓wpC_skip, ↓wpC_ret, ↓wpC_block, ↓wpL_cons, ↓wpL_guard, ↓wpL_nil, ↓thenX_normal, ↓thenX_ret, initFr_cons, initFr_nil, aop_move, aop_assign, aop_bin, aop_conv, aop_load, aop_fieldAddr, aop_box, aop_call, aop_len, aop_append, aval_tmp, aval_nilSlice, aval_int, aval_func, avals_nil', avals_cons', fget_put, ob_some', obP_some, wpA_val0, wpA_val, wpA_enter, ↓wpPut_some, ↓gSlot_zero, ↓gSlot_succ, wpG_ff, Nat.reduceLT, Nat.reduceEqDiff, Nat.add_zero, Nat.reduceAdd, reduceIte, resultsK_nil, resultsK_tmp, tup_two, true_and, and_self, ne_eq, reduceCtorEq, not_false_eq_true, implies_true, bin_gtr, aop_pick, fAddr_eq, callA_enter en_48, callA_enter en_24, fa_27_0, ld_24, fa_27_1, ld_25, ap_22_22, hN, hL0, hL1, len_24 hx1, len_25 hy1, d1, d2]
  refine ⟨hE1.up, ?_⟩
  refine evV_use (p := boolP (!gs.all givenB)) rfl (has_ok σ1 y gs hy1 hg hgl) fun v σ2 q => ?_
  obtain ⟨rfl, hE2⟩ := q
  cases hall : gs.all givenB
  · simp only [brP_true, Bool.not_false]
    exact ⟨fun q => by simp [putOk, hall] at q, fun _ => ⟨rfl, hE1.trans hE2⟩⟩
  have hok : putOk ls gs = true := by simp [putOk, hall, c1, c2]
  -- all may be
  have hk2 : Kp σ1.next σ1 σ2 := .of_ext hE2 (Nat.le_refl _)
  have cells : ∀ {σ' : AHeap}, Kp σ1.next σ1 σ' → σ'.get σ.next = some (.cells [x, y] .own) := fun k => by rw [k.get _ (by omega)]; exact hg1
  have L0 : ∀ {σ' : AHeap}, Kp σ1.next σ1 σ' → loadOne σ' (.pointer (some ⟨σ.next, 0, none⟩)) = some x := fun k => loadOne_get (cells k) rfl
  have L1 : ∀ {σ' : AHeap}, Kp σ1.next σ1 σ' → loadOne σ' (.pointer (some ⟨σ.next, 1, none⟩)) = some y := fun k => loadOne_get (cells k) rfl
  simp only [ob_some', wpA_val0, brP_false, cv_3_63, Bool.not_true, L0 hk2, len_24 (hx1.kp0 hk2 (Nat.le_refl _))]
  rw [wrapU64 (by omega) (by omega)]
  refine evV_use (p := countP) rfl (count_p σ2 ls.length (by omega)) fun v3 σ3 q => ?_
  have q := q ls.length rfl
  have hk3 : Kp σ1.next σ1 σ3 := hk2.trans (.of_ext q.2 hk2.up)
  have ho3 : Own σ3 σ1.next 1 v3 _ _ := q.1.mono hk2.up
  simp only [ob_some', wpA_val0, L0 hk3, len_24 (hx1.kp0 hk3 (Nat.le_refl _))]
  refine wpC_loop (fun r t σ' => ∃ i v, r = ls.length - i ∧ i ≤ ls.length ∧ fget 32 t = some (.int .i64 (i : Nat)) ∧ fget 31 t = some (.int .i64 ls.length) ∧ fget 30 t = some x ∧ fget 1 t = some (.pointer (some ⟨σ.next, 0, none⟩)) ∧ fget 4 t = some v
    ∧ Own σ' σ1.next 1 v (countB ls.length ++ (ls.take i).flatMap countB).length (bytesV (countB ls.length ++ (ls.take i).flatMap countB)) ∧ Kp σ1.next σ1 σ') ls.length ?_ (LL_big (by omega)) ?_
  · refine ⟨0, v3, by simp, by omega, ?_, ?_, ?_, ?_, ?_, by simpa using ho3, hk3⟩
    · simp only [fget_put, Nat.reduceLT, Nat.reduceEqDiff, reduceIte, reduceCtorEq]; rfl
    · simp only [fget_put, Nat.reduceLT, Nat.reduceEqDiff, reduceIte, reduceCtorEq]
    · simp only [fget_put, Nat.reduceLT, Nat.reduceEqDiff, reduceIte, reduceCtorEq]
    · simp only [fget_put, Nat.reduceLT, Nat.reduceEqDiff, reduceIte, reduceCtorEq]
    · simp only [fget_put, Nat.reduceLT, Nat.reduceEqDiff, reduceIte, reduceCtorEq]
  rintro r t σ4 ⟨i, v4, rfl, hi, h32, h31, h30, h1, h4, ho4, hk4⟩
  have hcl := @countB_le ls.length
  have hfl := flat_le countB 9 (fun x => countB_le) (ls.take i)
  have htl : (ls.take i).length ≤ 256 := by rw [List.length_take]; omega
  simp only [↓wpC_seq, ↓wpC_regionL, ↓wpC_cond, ↓wpC_skip, ↓wpC_exit, ↓wpC_block, ↓wpL_cons, ↓wpL_nil, ↓thenX_normal, ↓thenX_exit, ↓blockX_normal, ↓blockX_exit, aop_move, aop_assign, aop_bin, aop_load, aop_indexAddr, aop_call, aop_append, aval_tmp, aval_int, avals_nil', avals_cons', fget_put, ob_some', wpA_val0, ↓wpPut_some, Nat.reduceLT, Nat.reduceEqDiff, reduceIte, true_and, bin_lss, bin_add, h32, h31]
  refine brP_if (fun hc => ?_) (fun hc => ?_)
  · have hc : i < ls.length := by simpa using hc
    obtain ⟨p, e1, e2⟩ := ints_at (hx1.kp0 hk4 (Nat.le_refl _)) hc
    simp only [ob_some', wpA_val0, wpA_enter, true_and, callA_enter en_24, ia_24, ld_63, ap_22_22, h30, h1, h4, e1, e2]
    refine evV_use (p := countP) rfl (count_p σ4 ls[i] (hls _ (List.getElem_mem hc))) fun v5 σ5 q => ?_
    have q := q ls[i] rfl
    have hcl2 := @countB_le ls[i]
    have ho4' := ho4.ext q.2 (.inl rfl)
    obtain ⟨v6, σ6, e, q1, q2, _⟩ := app_sl (bytes := 1) ho4' (q.1.sl (by omega)) (by omega) (Nat.le_trans hk4.up q.2.up) bytesV_one (by rw [List.length_append]; omega)
    rw [e, wpA_val]
    refine ⟨q2.up, ls.length - (i + 1), by omega, i + 1, v6, rfl, by omega, ?_, ?_⟩
    · rw [wrap64 (by omega) (by omega)]; push_cast; rfl
    · refine ⟨rfl, ?_, (hk4.trans (.of_ext q.2 hk4.up)).trans (.of_own q2 ho4' (Nat.le_trans hk4.up q.2.up))⟩
      rw [List.take_succ_eq_append_getElem hc, List.flatMap_append, ← List.append_assoc, bytesV_append, List.length_append]
      simpa using q1
  · have hc : i = ls.length := by simp at hc; omega
    subst hc
    rw [List.take_length] at ho4 hfl
    simp only [ob_some', wpA_val0, Nat.reduceAdd, fAddr_eq, cv_3_63, h1, h4, L1 hk4, len_25 (hy1.kp0 hk4 (Nat.le_refl _))]
    rw [wrapU64 (by omega) (by omega)]
    refine evV_use (p := countP) rfl (count_p σ4 gs.length (by omega)) fun v5 σ5 q => ?_
    have q := q gs.length rfl
    have hcl2 := @countB_le gs.length
    have ho4' := ho4.ext q.2 (.inl rfl)
    obtain ⟨v6, σ6, e, q1, q2, _⟩ := app_sl (bytes := 1) ho4' (q.1.sl (by omega)) (by omega) (Nat.le_trans hk4.up q.2.up) bytesV_one (by rw [List.length_append]; omega)
    rw [e, wpA_val]
    refine ⟨q2.up, ?_⟩
    have hk6 : Kp σ1.next σ1 σ6 := (hk4.trans (.of_ext q.2 hk4.up)).trans (.of_own q2 ho4' (Nat.le_trans hk4.up q.2.up))
    simp only [ob_some', wpA_val0, L1 hk6, len_25 (hy1.kp0 hk6 (Nat.le_refl _))]
    have hpre : (countB ls.length ++ ls.flatMap countB ++ countB gs.length).length ≤ 9 + 256 * 9 + 9 := by
      rw [List.length_append, List.length_append]; omega
    have ho6 : Own σ6 σ1.next 1 v6 (countB ls.length ++ ls.flatMap countB ++ countB gs.length).length (bytesV (countB ls.length ++ ls.flatMap countB ++ countB gs.length)) := by
      rw [bytesV_append, List.length_append]; exact q1
    have hput : putB ls gs = countB ls.length ++ ls.flatMap countB ++ countB gs.length ++ gs.flatMap valB := rfl
    generalize countB ls.length ++ ls.flatMap countB ++ countB gs.length = pre at hpre ho6 hput
    clear ho4 ho4' q1 q2 e q hk4 hfl htl hcl hcl2
    refine wpC_loop (fun r t σ' => ∃ j v, r = gs.length - j ∧ j ≤ gs.length ∧ fget 51 t = some (.int .i64 (j : Nat)) ∧ fget 50 t = some (.int .i64 gs.length) ∧ fget 49 t = some y ∧ fget 4 t = some v
      ∧ Own σ' σ1.next 1 v (pre ++ (gs.take j).flatMap valB).length (bytesV (pre ++ (gs.take j).flatMap valB)) ∧ Kp σ1.next σ1 σ') gs.length ?_ (LL_big (by omega)) ?_
    · refine ⟨0, v6, by simp, by omega, ?_, ?_, ?_, ?_, by simpa using ho6, hk6⟩
      · simp only [fget_put, Nat.reduceLT, Nat.reduceEqDiff, reduceIte]; rfl
      · simp only [fget_put, Nat.reduceLT, Nat.reduceEqDiff, reduceIte]
      · simp only [fget_put, Nat.reduceLT, Nat.reduceEqDiff, reduceIte]
      · simp only [fget_put, Nat.reduceLT, Nat.reduceEqDiff, reduceIte]
    rintro r t σ7 ⟨j, v7, rfl, hj, h51, h50, h49, h4, ho7, hk7⟩
    have hvl := vals_le (gs := gs.take j) fun g hg' => hg g (List.mem_of_mem_take hg')
    have htl : (gs.take j).length ≤ 5120 := by rw [List.length_take]; omega
    simp only [↓wpC_seq, ↓wpC_regionL, ↓wpC_cond, ↓wpC_skip, ↓wpC_exit, ↓wpC_block, ↓wpL_cons, ↓wpL_nil, ↓thenX_normal, ↓thenX_exit, ↓blockX_normal, ↓blockX_exit, aop_move, aop_assign, aop_bin, aop_load, aop_store, aop_fieldAddr, aop_indexAddr, aop_slice, avalO_none, aop_buildSlice, aParts_nil, aParts_cons, aop_append, aval_tmp, aval_int, fget_put, ob_some', wpA_val0, ↓wpPut_some, ↓wpPut_none, Nat.reduceLT, Nat.reduceEqDiff, reduceIte, true_and, bin_lss, bin_add, h51, h50]
    refine brP_if (fun hc => ?_) (fun hc => ?_)
    · have hc : j < gs.length := by simpa using hc
      obtain ⟨b, o, c, kd, f1, f2, f3, f4, f5⟩ := given_at (hy1.kp0 hk7 (Nat.le_refl _)) hg hc
      obtain ⟨k, h, f6, f7⟩ := hg gs[j] (List.getElem_mem hc)
      have hL := loadAgg_get f3 f4
      rw [f5, f6] at hL
      have hZ : aNew σ7 (.agg ⟨bytesV zeros33⟩) = _ := aNew_agg bytesV_one
      obtain ⟨σ8, hS, hg8, hn8, hE8⟩ := push_store (σ := σ7) (m := 33) (v := .agg ⟨bytesV (k :: h)⟩) (c := bytesV zeros33) (vs := bytesV (k :: h)) rfl (by rw [bytesV_length, List.length_cons, f7]) (by rw [bytesV_length]; simp [zeros33]) bytesV_one
      have h80 : loadOne σ8 (.pointer (some ⟨σ7.next, 0, none⟩)) = some (.int .u8 (k : Nat)) := loadOne_get hg8 rfl
      simp only [ob_some', wpA_val0, wpA_val, wpA_skip, Nat.add_zero, Nat.reduceAdd, AHeap.next_push, true_and, fAddr_eq, ap_22_22, ia_25, ld_111, al_111, st_111, fa_111_0, ld_5, bs_22_1, fa_111_1, sl_40, h49, h4, f1, hL, zero_given, hZ, hS, h80, bsl_one]
      refine ⟨by omega, by omega, by omega, ?_⟩
      have hne : blk v7 ≠ some σ7.next := fun e => by have := (ho7.blk_ge e).2; omega
      have hup7 := hk7.up
      have ho8 := (ho7.ext hE8 (.inl rfl)).ext (.push (x := .cells [.int .u8 (k : Nat)] .own)) (.inl rfl)
      obtain ⟨v9, σ9, e, q1, q2, _⟩ := app_sl (bytes := 1) ho8 ((own_bsl (k := .u8) (z := (k : Nat)) (Nat.le_refl _)).sl (by omega)) (by omega) (by rw [AHeap.next_push]; omega) (fun y hy => by rw [List.mem_singleton.1 hy]; rfl) (by rw [List.length_append]; omega)
      have hup9 := q2.up
      rw [AHeap.next_push] at hup9
      have hg9 : σ9.get σ7.next = some (.cells (bytesV (k :: h)) .own) := by
        rw [q2.get _ (by rw [AHeap.next_push]; omega) hne, AHeap.get_push, if_neg (by omega)]; exact hg8
      have h90 : loadOne σ9 (.pointer (some ⟨σ7.next, 0, none⟩)) = some (.int .u8 (k : Nat)) := loadOne_get hg9 rfl
      have hk9 : Kp σ1.next σ1 σ9 := ((hk7.trans (.of_ext hE8 hup7)).trans (.push (by omega))).trans (.of_own q2 ho8 (by rw [AHeap.next_push]; omega))
      rw [e, wpA_val]
      refine ⟨q2.up, ?_⟩
      simp only [ob_some', wpA_val0, bin_eql, h90]
      have hnext : some (Value.int .i64 (IntKind.i64.wrap ((j : Int) + 1))) = some (.int .i64 ((j + 1 : Nat) : Int)) := by rw [wrap64 (by omega) (by omega)]; push_cast; rfl
      refine brP_if (fun hd => ?_) (fun hd => ?_)
      · have hd : k = 2 := by simp only [beq_iff_eq] at hd; omega
        have hs : Sl σ9 1 (.slice (some ⟨σ7.next, 1, none⟩) 32 32) 32 (bytesV h) := by
          have := Sl.exact (σ := σ9) (es := 1) (b := σ7.next) (off := 1) (n := 32) (cap := 32) (by decide) (by decide) (by omega) hg9 (by rw [bytesV_length, List.length_cons, f7]; omega)
          have e : ((bytesV (k :: h)).drop 1).take (32 * 1) = bytesV h := by
            show (bytesV h).take 32 = _
            exact List.take_of_length_le (by rw [bytesV_length]; omega)
          rw [e] at this; exact this
        simp only [ob_some', wpA_val0, slArr_all (n := 32) (size := 1) (b := σ7.next) (off := 1) (by decide) (by decide)]
        obtain ⟨v10, σ10, e', r1, r2, _⟩ := app_sl (bytes := 1) q1 hs (by omega) (by omega) bytesV_one (by rw [List.length_append]; omega)
        rw [e', wpA_val]
        refine ⟨r2.up, gs.length - (j + 1), by omega, j + 1, v10, rfl, by omega, hnext, rfl, ?_, hk9.trans (.of_own r2 q1 (by omega))⟩
        rw [List.take_succ_eq_append_getElem hc, List.flatMap_append, f6, ← List.append_assoc, bytesV_append, List.length_append]
        have : valB (k :: h) = k :: h := by simp [valB, hd]
        simp only [List.flatMap_cons, List.flatMap_nil, List.append_nil, this, List.length_cons, f7]
        rw [List.append_assoc] at r1
        exact r1
      · have hd : k ≠ 2 := by simp only [beq_eq_false_iff_ne, ne_eq] at hd; omega
        refine ⟨gs.length - (j + 1), by omega, j + 1, v9, rfl, by omega, hnext, rfl, ?_, hk9⟩
        rw [List.take_succ_eq_append_getElem hc, List.flatMap_append, f6, ← List.append_assoc, bytesV_append, List.length_append]
        have : valB (k :: h) = [k] := by simp [valB, hd]
        simp only [List.flatMap_cons, List.flatMap_nil, List.append_nil, this, List.length_cons, List.length_nil]
        exact q1
    · have hc : j = gs.length := by simp at hc; omega
      subst hc
      rw [List.take_length] at ho7
      simp only [ob_some', wpA_val0, h4]
      rw [← hput] at ho7
      exact ⟨fun _ => ⟨v7, rfl, ho7.mono (by omega), hE1.trans hk7.ext⟩, fun q => by rw [hok] at q; cases q⟩
end Go.Proofs.YtlbhfjnlpfaioaaGreatDoor
/- Proofs as bytes, by the reference. -/
namespace Go.Proofs.YtlbhfjnlpfaioaaGreatDoor
open Go Go.Eng

theorem givenB_may (k : Nat) (h : List Nat) : givenB (k :: h) = !(decide (k < 1) || (decide (k > 3) || (decide (k ≠ 2) && decide (h ≠ zeros32)))) := by
  simp only [givenB, List.headD_cons, List.drop_succ_cons, List.drop_zero]
  by_cases h2 : k = 2
  · subst h2; simp
  by_cases h1 : k = 1
  · subst h1; simp
  by_cases h3 : k = 3
  · subst h3; simp
  have : k < 1 ∨ k > 3 := by omega
  rcases this with q | q
  · simp [h1, h2, h3, q]
  · simp [h1, h2, h3, q]

set_option maxRecDepth 20000 in
theorem may_ok (σ : AHeap) (x y : Value) (ls : List Nat) (gs : List (List Nat)) (hx : Sl σ 1 x ls.length (intsV .u64 ls)) (hy : Sl σ 33 y gs.length (bytesV gs.flatten)) (hg : GsOk gs)
    (hl : ls.length < 4611686018427387904) (hgl : gs.length < 4611686018427387904) :
    ∃ v σ', CallOk Tryz.prog 7 52 [.agg ⟨[x, y]⟩] σ v σ' ∧ boolP (putOk ls gs) [.agg ⟨[x, y]⟩] σ v σ' := by
  refine fn_wp mixed [] 46 [.tmp 2] Tryz.func52 rfl rfl rfl (by decide) (by simp) ?_
  have hN : aNew σ (.agg ⟨[x, y]⟩) = some (.val (.pointer (some ⟨σ.next, 0, none⟩)) (σ.push (.cells [x, y] .own))) := aNew_agg (by
    intro z hz
    simp only [List.mem_cons, List.not_mem_nil, or_false] at hz
    rcases hz with rfl | rfl
    · exact hx.one
    · exact hy.one)
  generalize hσ1 : σ.push (.cells [x, y] .own) = σ1 at hN
  have hg1 : σ1.get σ.next = some (.cells [x, y] .own) := by rw [← hσ1, AHeap.get_push, if_pos rfl]
  have hn1 : σ1.next = σ.next + 1 := by rw [← hσ1, AHeap.next_push]
  have hE1 : Ext none σ σ1 := by rw [← hσ1]; exact .push
  have hx1 := hx.ext0 hE1
  have hy1 := hy.ext0 hE1
  have hL0 : loadOne σ1 (.pointer (some ⟨σ.next, 0, none⟩)) = some x := loadOne_get hg1 rfl
  have hL1 : loadOne σ1 (.pointer (some ⟨σ.next, 1, none⟩)) = some y := loadOne_get hg1 rfl
  rcases Nat.lt_or_ge 256 ls.length with c1 | c1
  · have d1 : decide ((ls.length : Int) > 256) = true := decide_eq_true (by omega)
    simp only [↓wpC_seq, ↓wpC_regionL, ↓wpC_cond, ↓wpC_ret, ↓wpL_cons, ↓wpL_guard, ↓wpL_nil, ↓thenX_normal, ↓thenX_ret, initFr_cons, initFr_nil, aop_move, aop_assign, aop_bin, aop_load, aop_fieldAddr, aop_box, aop_len, aval_tmp, aval_int, aval_bool, fget_put, ob_some', obP_some, wpA_val0, wpA_val, ↓wpPut_some, ↓gSlot_zero, ↓gSlot_succ, wpG_ft, brP_true, Nat.reduceLT, Nat.reduceEqDiff, Nat.add_zero, Nat.reduceAdd, reduceIte, resultsK_nil, resultsK_tmp, tup_one, true_and, and_self, ne_eq, reduceCtorEq, not_false_eq_true, implies_true, bin_gtr, aop_pick, fAddr_eq, fa_27_0, ld_24, hN, hL0, len_24 hx1, d1]
    exact ⟨hE1.up, by simp [putOk]; omega, hE1⟩
  have d1 : decide ((ls.length : Int) > 256) = false := decide_eq_false (by omega)
  rcases Nat.lt_or_ge 5120 gs.length with c2 | c2
  · have d2 : decide ((gs.length : Int) > 5120) = true := decide_eq_true (by omega)
    simp only [↓wpC_seq, ↓wpC_regionL, ↓wpC_cond, ↓wpC_ret, ↓wpL_cons, ↓wpL_guard, ↓wpL_nil, ↓thenX_normal, ↓thenX_ret, initFr_cons, initFr_nil, aop_move, aop_assign, aop_bin, aop_load, aop_fieldAddr, aop_box, aop_len, aval_tmp, aval_int, aval_bool, fget_put, ob_some', obP_some, wpA_val0, wpA_val, ↓wpPut_some, ↓gSlot_zero, ↓gSlot_succ, wpG_ff, brP_true, Nat.reduceLT, Nat.reduceEqDiff, Nat.add_zero, Nat.reduceAdd, reduceIte, resultsK_nil, resultsK_tmp, tup_one, true_and, and_self, ne_eq, reduceCtorEq, not_false_eq_true, implies_true, bin_gtr, aop_pick, fAddr_eq, fa_27_0, ld_24, fa_27_1, ld_25, hN, hL0, hL1, len_24 hx1, len_25 hy1, d1, d2]
    exact ⟨hE1.up, by simp [putOk]; omega, hE1⟩
  have d2 : decide ((gs.length : Int) > 5120) = false := decide_eq_false (by omega)
  simp only [↓wpC_seq, ↓wpC_regionL, ↓wpC_cond, ↓wpC_skip, ↓wpC_ret, ↓wpC_block, ↓wpL_cons, ↓wpL_guard, ↓wpL_nil, ↓thenX_normal, initFr_cons, initFr_nil, aop_move, aop_assign, aop_bin, aop_load, aop_fieldAddr, aop_box, aop_len, aval_tmp, aval_int, aval_bool, fget_put, ob_some', obP_some, wpA_val0, wpA_val, ↓wpPut_some, ↓gSlot_zero, ↓gSlot_succ, wpG_ff, brP_false, Nat.reduceLT, Nat.reduceEqDiff, Nat.add_zero, Nat.reduceAdd, reduceIte, resultsK_nil, resultsK_tmp, tup_one, true_and, and_self, ne_eq, reduceCtorEq, not_false_eq_true, implies_true, bin_gtr, aop_pick, fAddr_eq, fa_27_0, ld_24, fa_27_1, ld_25, hN, hL0, hL1, len_24 hx1, len_25 hy1, d1, d2]
  refine ⟨hE1.up, ?_⟩
  refine wpC_loop (fun r t σ' => ∃ i, r = gs.length - i ∧ i ≤ gs.length ∧ fget 3 t = some (.int .i64 (i : Nat)) ∧ fget 1 t = some (.pointer (some ⟨σ.next, 0, none⟩)) ∧ (gs.take i).all givenB = true ∧ Ext none σ1 σ') gs.length ?_ (LL_big (by omega)) ?_
  · refine ⟨0, by simp, by omega, ?_, ?_, rfl, .refl _⟩
    · simp only [fget_put, Nat.reduceLT, Nat.reduceEqDiff, reduceIte, reduceCtorEq]; rfl
    · simp only [fget_put, Nat.reduceLT, Nat.reduceEqDiff, reduceIte, reduceCtorEq]
  rintro r t σ2 ⟨i, rfl, hi, h3, h1, hp, hE2⟩
  have hL2 : loadOne σ2 (.pointer (some ⟨σ.next, 1, none⟩)) = some y := loadOne_get (by rw [hE2.get _ (by omega) (by simp)]; exact hg1) rfl
  have hlen := len_25 (hy1.ext0 hE2)
  rcases Nat.lt_or_ge i gs.length with hc | hc
  · have dc : decide ((i : Int) < (gs.length : Nat)) = true := decide_eq_true (by omega)
    obtain ⟨b, o, c, kd, f1, f2, f3, f4, f5⟩ := given_at (hy1.ext0 hE2) hg hc
    obtain ⟨k, h, f6, f7⟩ := hg gs[i] (List.getElem_mem hc)
    have hL := loadAgg_get f3 f4
    rw [f5, f6] at hL
    have hZ : aNew σ2 (.agg ⟨bytesV zeros33⟩) = _ := aNew_agg bytesV_one
    obtain ⟨σ3, hS, hg3, hn3, hE3⟩ := push_store (σ := σ2) (m := 33) (v := .agg ⟨bytesV (k :: h)⟩) (c := bytesV zeros33) (vs := bytesV (k :: h)) rfl (by rw [bytesV_length, List.length_cons, f7]) (by rw [bytesV_length]; simp [zeros33]) bytesV_one
    have h30 : loadOne σ3 (.pointer (some ⟨σ2.next, 0, none⟩)) = some (.int .u8 (k : Nat)) := loadOne_get hg3 rfl
    have h31 : loadAgg 32 σ3 (.pointer (some ⟨σ2.next, 1, none⟩)) = some (.agg ⟨bytesV h⟩) := by
      rw [loadAgg_get hg3 (by rw [bytesV_length, List.length_cons]; omega)]
      congr 3
      show (bytesV h).take 32 = _
      exact List.take_of_length_le (by rw [bytesV_length]; omega)
    have hall : (gs.take (i + 1)).all givenB = givenB (k :: h) := by
      rw [List.take_succ_eq_append_getElem hc, List.all_append, hp, f6]; simp
    have hE13 := hE2.trans hE3
    have bad : givenB (k :: h) = false → boolP (putOk ls gs) [.agg ⟨[x, y]⟩] σ (.bool false) σ3 := fun q => by
      refine ⟨?_, hE1.trans hE13⟩
      have : gs.all givenB = false := by
        rw [List.all_eq_false]
        exact ⟨gs[i], List.getElem_mem hc, by rw [f6, q]; simp⟩
      simp [putOk, this]
    have good : givenB (k :: h) = true → ∃ m', m' < gs.length - i ∧ ∃ i_1, m' = gs.length - i_1 ∧ i_1 ≤ gs.length ∧ some (Value.int .i64 (IntKind.i64.wrap ((i : Int) + 1))) = some (Value.int .i64 (i_1 : Nat)) ∧ (gs.take i_1).all givenB = true ∧ Ext none σ1 σ3 := fun q =>
      ⟨gs.length - (i + 1), by omega, i + 1, rfl, by omega, by rw [wrap64 (by omega) (by omega)]; push_cast; rfl, by rw [hall, q], hE13⟩
    have hmay := givenB_may k h
    by_cases g1 : k < 1
    · have e1 : decide ((k : Int) < 1) = true := decide_eq_true (by omega)
      simp only [↓wpC_seq, ↓wpC_regionL, ↓wpC_cond, ↓wpC_skip, ↓wpC_ret, ↓wpC_block, ↓wpL_cons, ↓wpL_guard, ↓wpL_nil, ↓thenX_normal, ↓thenX_ret, ↓blockX_ret, aop_move, aop_assign, aop_bin, aop_load, aop_store, aop_fieldAddr, aop_indexAddr, aop_len, aval_tmp, aval_int, aval_bool, fget_put, ob_some', obP_some, wpA_val0, wpA_val, wpA_skip, ↓wpPut_some, ↓wpPut_none, ↓gSlot_zero, ↓gSlot_succ, wpG_ft, wpG_un, brP_true, Nat.reduceLT, Nat.reduceEqDiff, Nat.add_zero, Nat.reduceAdd, reduceIte, AHeap.next_push, tup_one, true_and, and_self, reduceCtorEq, not_false_eq_true, implies_true, bin_lss, aop_pick, fAddr_eq, fa_27_1, ld_25, ia_25, ld_111, al_111, st_111, fa_111_0, ld_5, h3, h1, hL2, hlen, dc, f1, hL, zero_given, hZ, hS, h30, e1]
      exact ⟨by omega, by omega, bad (by rw [hmay]; simp [g1])⟩
    have e1 : decide ((k : Int) < 1) = false := decide_eq_false (by omega)
    by_cases g2 : k > 3
    · have e2 : decide ((k : Int) > 3) = true := decide_eq_true (by omega)
      simp only [↓wpC_seq, ↓wpC_regionL, ↓wpC_cond, ↓wpC_skip, ↓wpC_ret, ↓wpC_block, ↓wpL_cons, ↓wpL_guard, ↓wpL_nil, ↓thenX_normal, ↓thenX_ret, ↓blockX_ret, aop_move, aop_assign, aop_bin, aop_load, aop_store, aop_fieldAddr, aop_indexAddr, aop_len, aval_tmp, aval_int, aval_bool, fget_put, ob_some', obP_some, wpA_val0, wpA_val, wpA_skip, ↓wpPut_some, ↓wpPut_none, ↓gSlot_zero, ↓gSlot_succ, wpG_ff, wpG_ft, wpG_un, brP_true, Nat.reduceLT, Nat.reduceEqDiff, Nat.add_zero, Nat.reduceAdd, reduceIte, AHeap.next_push, tup_one, true_and, and_self, reduceCtorEq, not_false_eq_true, implies_true, bin_lss, bin_gtr, aop_pick, fAddr_eq, fa_27_1, ld_25, ia_25, ld_111, al_111, st_111, fa_111_0, ld_5, h3, h1, hL2, hlen, dc, f1, hL, zero_given, hZ, hS, h30, e1, e2]
      exact ⟨by omega, by omega, bad (by rw [hmay]; simp [g2])⟩
    have e2 : decide ((k : Int) > 3) = false := decide_eq_false (by omega)
    by_cases g3 : k = 2
    · have e3 : ((k : Int) != 2) = false := by simp; omega
      simp only [↓wpC_seq, ↓wpC_regionL, ↓wpC_cond, ↓wpC_skip, ↓wpC_block, ↓wpL_cons, ↓wpL_guard, ↓wpL_nil, ↓thenX_normal, ↓blockX_normal, aop_move, aop_assign, aop_bin, aop_load, aop_store, aop_fieldAddr, aop_indexAddr, aop_len, aval_tmp, aval_int, aval_bool, fget_put, ob_some', obP_some, wpA_val0, wpA_val, wpA_skip, ↓wpPut_some, ↓wpPut_none, ↓gSlot_zero, ↓gSlot_succ, wpG_ff, wpG_tf, brP_true, brP_false, Nat.reduceLT, Nat.reduceEqDiff, Nat.add_zero, Nat.reduceAdd, reduceIte, AHeap.next_push, true_and, and_self, bin_neq, bin_lss, bin_gtr, bin_add, aop_pick, fAddr_eq, fa_27_1, ld_25, ia_25, ld_111, al_111, st_111, fa_111_0, ld_5, h3, h1, hL2, hlen, dc, f1, hL, zero_given, hZ, hS, h30, e1, e2, e3]
      exact ⟨by omega, by omega, good (by rw [hmay]; simp [g3])⟩
    have e3 : ((k : Int) != 2) = true := by simp; omega
    by_cases g4 : h = zeros32
    · simp only [↓wpC_seq, ↓wpC_regionL, ↓wpC_cond, ↓wpC_skip, ↓wpC_block, ↓wpL_cons, ↓wpL_guard, ↓wpL_nil, ↓thenX_normal, ↓blockX_normal, aop_move, aop_assign, aop_bin, aop_load, aop_store, aop_fieldAddr, aop_indexAddr, aop_build, aParts_nil, aop_len, aval_tmp, aval_int, fget_put, ob_some', obP_some, wpA_val0, wpA_val, wpA_skip, ↓wpPut_some, ↓wpPut_none, ↓gSlot_zero, ↓gSlot_succ, wpG_tt, wpG_ff, brP_true, brP_false, Nat.reduceLT, Nat.reduceEqDiff, Nat.add_zero, Nat.reduceAdd, reduceIte, AHeap.next_push, true_and, and_self, bin_neq, bin_lss, bin_gtr, bin_add, aop_pick, fAddr_eq, bin_neqA, fa_27_1, ld_25, ia_25, ld_111, al_111, st_111, fa_111_0, ld_5, fa_111_1, ld_40, bd_40, h3, h1, hL2, hlen, dc, f1, hL, zero_given, hZ, hS, h30, h31, e1, e2, e3, zero_hash, given_eq f7, decide_eq_true g4, Bool.not_true]
      exact ⟨by omega, by omega, good (by rw [hmay]; simp [g1, g2, g4])⟩
    · simp only [↓wpC_seq, ↓wpC_regionL, ↓wpC_cond, ↓wpC_skip, ↓wpC_ret, ↓wpC_block, ↓wpL_cons, ↓wpL_guard, ↓wpL_nil, ↓thenX_normal, ↓thenX_ret, ↓blockX_ret, aop_move, aop_assign, aop_bin, aop_load, aop_store, aop_fieldAddr, aop_indexAddr, aop_build, aParts_nil, aop_len, aval_tmp, aval_int, aval_bool, fget_put, ob_some', obP_some, wpA_val0, wpA_val, wpA_skip, ↓wpPut_some, ↓wpPut_none, ↓gSlot_zero, ↓gSlot_succ, wpG_tt, wpG_ff, brP_true, Nat.reduceLT, Nat.reduceEqDiff, Nat.add_zero, Nat.reduceAdd, reduceIte, AHeap.next_push, tup_one, true_and, and_self, reduceCtorEq, not_false_eq_true, implies_true, bin_neq, bin_lss, bin_gtr, aop_pick, fAddr_eq, bin_neqA, fa_27_1, ld_25, ia_25, ld_111, al_111, st_111, fa_111_0, ld_5, fa_111_1, ld_40, bd_40, h3, h1, hL2, hlen, dc, f1, hL, zero_given, hZ, hS, h30, h31, e1, e2, e3, zero_hash, given_eq f7, decide_eq_false g4, Bool.not_false]
      exact ⟨by omega, by omega, bad (by rw [hmay]; simp [g3, g4])⟩
  · have hc : i = gs.length := by omega
    subst hc
    have dc : decide ((gs.length : Int) < (gs.length : Nat)) = false := decide_eq_false (by omega)
    simp only [↓wpC_seq, ↓wpC_regionL, ↓wpC_cond, ↓wpC_exit, ↓wpL_cons, ↓wpL_nil, ↓thenX_normal, ↓thenX_exit, ↓blockX_exit, aop_move, aop_bin, aop_load, aop_fieldAddr, aop_len, aval_tmp, fget_put, ob_some', wpA_val0, ↓wpPut_some, brP_false, Nat.reduceLT, Nat.reduceEqDiff, Nat.reduceAdd, reduceIte, bin_lss, fAddr_eq, fa_27_1, ld_25, h3, h1, hL2, hlen, dc]
    rw [List.take_length] at hp
    exact ⟨by simp [putOk, c1, c2, hp], hE1.trans hE2⟩
end Go.Proofs.YtlbhfjnlpfaioaaGreatDoor
