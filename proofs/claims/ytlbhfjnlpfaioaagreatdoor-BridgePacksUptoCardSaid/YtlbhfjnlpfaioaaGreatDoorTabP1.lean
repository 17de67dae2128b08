/- Numbers and rows as bytes, by the program and by the reference. -/
import Derived.Test.YtlbhfjnlpfaioaaGreatDoorEngY7
import Derived.Test.YtlbhfjnlpfaioaaGreatDoorTabT0
import Derived.Test.YtlbhfjnlpfaioaaGreatDoorTabLF
namespace Go.Proofs.YtlbhfjnlpfaioaaGreatDoor
open Go Go.Eng

def lowB (n m : Nat) : List Nat := (List.range m).map fun i => n / 2 ^ (8 * i) % 256
theorem lowB_length {n m : Nat} : (lowB n m).length = m := by simp [lowB]
theorem lowB_succ {n m : Nat} : lowB n (m + 1) = lowB n m ++ [n / 2 ^ (8 * m) % 256] := by simp [lowB, List.range_succ]
def countB (n : Nat) : List Nat := if n < 253 then lowB n 1 else if n < 65536 then 253 :: lowB n 2 else if n < 4294967296 then 254 :: lowB n 4 else 255 :: lowB n 8
theorem countB_le {n : Nat} : (countB n).length ≤ 9 := by
  unfold countB
  split
  · rw [lowB_length]; omega
  split
  · rw [List.length_cons, lowB_length]; omega
  split
  · rw [List.length_cons, lowB_length]; omega
  · rw [List.length_cons, lowB_length]; omega
def rowB (l : List Nat) : List Nat := countB l.length ++ l

/-- bytes of one's own, new -/
def BP (σ σ' : AHeap) (v : Value) (l : List Nat) : Prop := Own σ' σ.next 1 v l.length (bytesV l) ∧ Ext none σ σ'
def lowP : Post := fun args σ v σ' => ∀ n m : Nat, args = [.int .u64 n, .int .i64 m] → BP σ σ' v (lowB n m)
def countP : Post := fun args σ v σ' => ∀ n : Nat, args = [.int .u64 n] → BP σ σ' v (countB n)
def rowP : Post := fun args σ v σ' => ∀ x l, args = [x] → Sl σ 1 x l.length (bytesV l) → BP σ σ' v (rowB l)

set_option maxRecDepth 20000 in
theorem low_ok (σ : AHeap) (n m : Nat) (hm : m ≤ 8) : ∃ v σ', CallOk Tryz.prog 7 51 [.int .u64 n, .int .i64 m] σ v σ' ∧ BP σ σ' v (lowB n m) := by
  refine fn_wp mixed [] 24 [.tmp 4] Tryz.func51 rfl rfl rfl (by decide) (by simp) ?_
  simp only [↓wpC_seq, ↓wpC_regionL, ↓wpC_ret, ↓wpC_block, ↓wpL_cons, ↓wpL_nil, ↓thenX_normal, initFr_cons, initFr_nil, aop_move, aop_assign, aop_makeSlice, aop_len, aval_tmp, aval_nilSlice, aval_int, fget_put, ob_some', obP_some, wpA_val0, ↓wpPut_some, Nat.reduceLT, Nat.reduceEqDiff, Nat.reduceAdd, reduceIte, resultsK_nil, resultsK_tmp, tup_one, true_and, ne_eq, reduceCtorEq, not_false_eq_true, implies_true, ms_22]
  rw [mks_eq (by omega) (by omega) (by omega)]
  simp only [ob_some', wpA_val0, wpA_val, AHeap.next_push, lens_22]
  refine ⟨by omega, ?_⟩
  refine wpC_loop (fun r t σ' => ∃ i, r = m - i ∧ i ≤ m ∧ fget 11 t = some (.int .i64 (i : Nat)) ∧ fget 10 t = some (.int .i64 m) ∧ fget 5 t = some (.slice (some ⟨σ.next, 0, none⟩) m m) ∧ fget 0 t = some (.int .u64 n)
    ∧ σ'.get σ.next = some (.cells (bytesV (lowB n i) ++ List.replicate (m - i) (.int .u8 0)) .own) ∧ σ'.next = σ.next + 1 ∧ Ext none σ σ') m ?_ (LL_big (by omega)) ?_
  · refine ⟨0, by simp, by omega, ?_, ?_, ?_, ?_, ?_, rfl, .push⟩
    · simp only [fget_put, Nat.reduceLT, Nat.reduceEqDiff, reduceIte, reduceCtorEq]; rfl
    · simp only [fget_put, Nat.reduceLT, Nat.reduceEqDiff, reduceIte, reduceCtorEq]
    · simp only [fget_put, Nat.reduceLT, Nat.reduceEqDiff, reduceIte, reduceCtorEq]
    · simp only [fget_put, Nat.reduceLT, reduceIte, reduceCtorEq]
    · rw [AHeap.get_push, if_pos rfl, Nat.mul_one, cyc_one _ _ (.inr rfl)]; rfl
  · rintro r t σ' ⟨i, rfl, hi, h11, h10, h5, h0, hg, hn, he⟩
    simp only [↓wpC_seq, ↓wpC_regionL, ↓wpC_cond, ↓wpC_skip, ↓wpC_exit, ↓wpC_block, ↓wpL_cons, ↓wpL_nil, ↓thenX_normal, ↓thenX_exit, ↓blockX_normal, ↓blockX_exit, aop_move, aop_assign, aop_bin, aop_conv, aop_store, aop_indexAddr, aval_tmp, aval_int, fget_put, ob_some', wpA_val0, ↓wpPut_some, ↓wpPut_none, Nat.reduceLT, Nat.reduceEqDiff, reduceIte, true_and, reduceCtorEq, bin_lss, bin_add, bin_mul, h11, h10]
    refine brP_if (fun hc => ?_) (fun hc => ?_)
    · have hc : i < m := by simpa using hc
      simp only [ob_some', wpA_val0, true_and, h5, h0]
      have e1 : IntKind.i64.wrap (8 * (i : Int)) = ((8 * i : Nat) : Int) := by rw [wrap64 (by omega) (by omega)]; push_cast; rfl
      rw [e1, bin_shrN (by omega)]
      simp only [ob_some', wpA_val0, IntKind.bits, cv_63_5, ia_22, st_5]
      rw [ixSl_eq hc]
      simp only [ob_some', wpA_val0]
      rw [storeN_one hg rfl rfl (by rw [List.length_append, bytesV_length, lowB_length, List.length_replicate]; omega)]
      simp only [ob_some', wpA_skip, AHeap.next_set]
      refine ⟨Nat.le_refl _, m - (i + 1), by omega, i + 1, rfl, by omega, ?_, ?_, hn, ?_⟩
      · rw [wrap64 (by omega) (by omega)]; push_cast; rfl
      · rw [AHeap.get_set', if_pos rfl, Nat.mul_one, Nat.zero_add, take_fill (by rw [bytesV_length, lowB_length]) hc, lowB_succ, bytesV_append]
        have e2 : min ((8 * i : Nat) : Int).toNat 64 = 8 * i := by rw [Int.toNat_natCast]; omega
        rw [e2, wrapU8_mod]
        rfl
      · exact he.drop (.set (by omega)) (Nat.le_refl _)
    · have hc : i = m := by simp at hc; omega
      subst hc
      simp only [ob_some', wpA_val0, h5]
      refine ⟨?_, he⟩
      rw [Nat.sub_self, List.replicate_zero, List.append_nil] at hg
      have := Own.exact (σ := σ') (n0 := σ.next) (es := 1) (b := σ.next) (n := i) (cap := i) (by omega) (Nat.le_refl _) (Nat.le_refl _) (by omega) hg (by rw [bytesV_length, lowB_length, Nat.mul_one])
      rw [Nat.mul_one, List.take_of_length_le (by rw [bytesV_length, lowB_length]; exact Nat.le_refl _)] at this
      rw [lowB_length]; exact this

theorem low_p (σ : AHeap) (n m : Nat) (hm : m ≤ 8) : ∃ v σ', CallOk Tryz.prog 7 51 [.int .u64 n, .int .i64 m] σ v σ' ∧ lowP [.int .u64 n, .int .i64 m] σ v σ' := by
  obtain ⟨v, σ', h1, h2⟩ := low_ok σ n m hm
  refine ⟨v, σ', h1, fun n' m' e => ?_⟩
  simp only [List.cons.injEq, Value.int.injEq, true_and, and_true, Int.natCast_inj] at e
  obtain ⟨rfl, rfl⟩ := e
  exact h2

set_option maxRecDepth 20000 in
theorem count_ok (σ : AHeap) (n : Nat) (hn : n < 18446744073709551616) : ∃ v σ', CallOk Tryz.prog 7 24 [.int .u64 n] σ v σ' ∧ BP σ σ' v (countB n) := by
  refine fn_wp mixed [(51, lowP)] 28 [.tmp 2] Tryz.func24 rfl rfl rfl (by decide) (by simp) ?_
  simp only [↓wpC_seq, ↓wpC_regionL, ↓wpC_cond, ↓wpC_skip, ↓wpC_ret, ↓wpC_block, ↓wpL_cons, ↓wpL_nil, ↓thenX_normal, ↓thenX_ret, ↓blockX_normal, ↓blockX_ret, initFr_cons, initFr_nil, aop_move, aop_assign, aop_bin, aop_buildSlice, aParts_nil, aParts_cons, aop_call, aop_append, aval_tmp, aval_nilSlice, aval_int, avals_nil', avals_cons', fget_put, ob_some', obP_some, wpA_val0, wpA_enter, ↓wpPut_some, Nat.reduceLT, Nat.reduceEqDiff, Nat.reduceAdd, reduceIte, resultsK_nil, resultsK_tmp, tup_one, true_and, ne_eq, reduceCtorEq, not_false_eq_true, implies_true, bin_eql, bin_lss, bin_shrN, Int.reduceLE, Int.reduceToNat, Nat.min_eq_left, Nat.reduceLeDiff, Nat.reducePow, IntKind.bits, callA_enter en_51, bs_22_1, ap_22_22]
  refine brP_if (fun hc => ?_) (fun hc => ?_)
  · have hc : n < 253 := by have := of_decide_eq_true hc; omega
    have e : countB n = lowB n 1 := by simp [countB, hc]
    refine evV_use (p := lowP) rfl (low_p σ n 1 (by omega)) fun v σ' h => ?_
    have h := h n 1 rfl
    rw [e]; exact h
  · have hc : ¬ n < 253 := by have := of_decide_eq_false hc; omega
    refine brP_if (fun hd => ?_) (fun hd => ?_)
    · have hd : n / 65536 = 0 := by simp only [beq_iff_eq] at hd; omega
      have e2 : countB n = 253 :: lowB n 2 := by simp [countB, hc, show n < 65536 by omega]
      simp only [wpA_val, AHeap.next_push, bsl_one]
      refine ⟨by omega, ?_⟩
      refine evV_use (p := lowP) rfl (low_p (σ.push (.cells [.int .u8 (253 : Nat)] .own)) n 2 (by omega)) fun v σ' h => ?_
      have h := h n 2 rfl
      have ho := (own_bsl (σ := σ) (k := .u8) (z := (253 : Nat)) (Nat.le_refl σ.next)).ext h.2 (.inl rfl)
      have hup := h.2.up
      rw [AHeap.next_push] at hup
      obtain ⟨v', σ'', e, q1, q2, _⟩ := app_sl (bytes := 1) ho (h.1.sl (by omega)) (by omega) (by omega) bytesV_one (by rw [lowB_length]; omega)
      rw [e, wpA_val]
      refine ⟨q2.up, ?_, (Ext.push.trans h.2).own q2 ho (Nat.le_refl _)⟩
      rw [e2, List.length_cons, Nat.add_comm]
      exact q1

    · have hd : ¬ n / 65536 = 0 := by simp only [beq_eq_false_iff_ne, ne_eq] at hd; omega
      refine brP_if (fun hf => ?_) (fun hf => ?_)
      · have hf : n / 4294967296 = 0 := by simp only [beq_iff_eq] at hf; omega
        have e2 : countB n = 254 :: lowB n 4 := by simp [countB, hc, show ¬ n < 65536 by omega, show n < 4294967296 by omega]
        simp only [wpA_val, AHeap.next_push, bsl_one]
        refine ⟨by omega, ?_⟩
        refine evV_use (p := lowP) rfl (low_p (σ.push (.cells [.int .u8 (254 : Nat)] .own)) n 4 (by omega)) fun v σ' h => ?_
        have h := h n 4 rfl
        have ho := (own_bsl (σ := σ) (k := .u8) (z := (254 : Nat)) (Nat.le_refl σ.next)).ext h.2 (.inl rfl)
        have hup := h.2.up
        rw [AHeap.next_push] at hup
        obtain ⟨v', σ'', e, q1, q2, _⟩ := app_sl (bytes := 1) ho (h.1.sl (by omega)) (by omega) (by omega) bytesV_one (by rw [lowB_length]; omega)
        rw [e, wpA_val]
        refine ⟨q2.up, ?_, (Ext.push.trans h.2).own q2 ho (Nat.le_refl _)⟩
        rw [e2, List.length_cons, Nat.add_comm]
        exact q1

      · have hf : ¬ n / 4294967296 = 0 := by simp only [beq_eq_false_iff_ne, ne_eq] at hf; omega
        have e2 : countB n = 255 :: lowB n 8 := by simp [countB, hc, show ¬ n < 65536 by omega, show ¬ n < 4294967296 by omega]
        simp only [wpA_val, AHeap.next_push, bsl_one]
        refine ⟨by omega, ?_⟩
        refine evV_use (p := lowP) rfl (low_p (σ.push (.cells [.int .u8 (255 : Nat)] .own)) n 8 (by omega)) fun v σ' h => ?_
        have h := h n 8 rfl
        have ho := (own_bsl (σ := σ) (k := .u8) (z := (255 : Nat)) (Nat.le_refl σ.next)).ext h.2 (.inl rfl)
        have hup := h.2.up
        rw [AHeap.next_push] at hup
        obtain ⟨v', σ'', e, q1, q2, _⟩ := app_sl (bytes := 1) ho (h.1.sl (by omega)) (by omega) (by omega) bytesV_one (by rw [lowB_length]; omega)
        rw [e, wpA_val]
        refine ⟨q2.up, ?_, (Ext.push.trans h.2).own q2 ho (Nat.le_refl _)⟩
        rw [e2, List.length_cons, Nat.add_comm]
        exact q1

theorem count_p (σ : AHeap) (n : Nat) (hn : n < 18446744073709551616) : ∃ v σ', CallOk Tryz.prog 7 24 [.int .u64 n] σ v σ' ∧ countP [.int .u64 n] σ v σ' := by
  obtain ⟨v, σ', h1, h2⟩ := count_ok σ n hn
  refine ⟨v, σ', h1, fun n' e => ?_⟩
  simp only [List.cons.injEq, Value.int.injEq, true_and, and_true, Int.natCast_inj] at e
  subst e; exact h2

theorem bytesV_inj {a b : List Nat} (h : bytesV a = bytesV b) : a = b := by
  induction a generalizing b with
  | nil =>
    cases b with
    | nil => rfl
    | cons y b => cases h
  | cons x a ih =>
    cases b with
    | nil => cases h
    | cons y b =>
      have h' : (Value.int .u8 (x : Int)) :: bytesV a = (Value.int .u8 (y : Int)) :: bytesV b := h
      obtain ⟨h1, h2⟩ := List.cons.inj h'
      rw [ih h2]
      congr 1
      simp only [Value.int.injEq, true_and] at h1
      omega
theorem bytes_uniq {σ : AHeap} {v : Value} {a b : List Nat} (h : Sl σ 1 v a.length (bytesV a)) (k : Sl σ 1 v b.length (bytesV b)) : a = b := bytesV_inj (h.uniq k).2

set_option maxRecDepth 20000 in
theorem row_ok (σ : AHeap) (x : Value) (l : List Nat) (hx : Sl σ 1 x l.length (bytesV l)) (hl : l.length ≤ 60000000) : ∃ v σ', CallOk Tryz.prog 7 23 [x] σ v σ' ∧ BP σ σ' v (rowB l) := by
  refine fn_wp mixed [(24, countP)] 9 [.tmp 2] Tryz.func23 rfl rfl rfl (by decide) (by simp) ?_
  simp only [↓wpC_seq, ↓wpC_regionL, ↓wpC_ret, ↓wpL_cons, ↓wpL_nil, ↓thenX_normal, initFr_cons, initFr_nil, aop_move, aop_assign, aop_conv, aop_call, aop_len, aop_append, aval_tmp, aval_nilSlice, avals_nil', avals_cons', fget_put, ob_some', obP_some, wpA_val0, wpA_enter, ↓wpPut_some, Nat.reduceLT, Nat.reduceEqDiff, Nat.reduceAdd, reduceIte, resultsK_nil, resultsK_tmp, tup_one, true_and, ne_eq, reduceCtorEq, not_false_eq_true, implies_true, callA_enter en_24, cv_3_63, ap_22_22, len_22 hx]
  rw [wrapU64 (by omega) (by omega)]
  refine evV_use (p := countP) rfl (count_p σ l.length (by omega)) fun v σ' h => ?_
  have h := h l.length rfl
  have hc := @countB_le l.length
  obtain ⟨v', σ'', e, q1, q2, _⟩ := app_sl (bytes := 1) h.1 (hx.ext0 h.2) (by omega) h.2.up bytesV_one (by omega)
  rw [e, wpA_val]
  refine ⟨q2.up, ?_, h.2.own q2 h.1 (Nat.le_refl _)⟩
  unfold rowB
  rw [List.length_append, bytesV_append]; exact q1
theorem row_p (σ : AHeap) (x : Value) (l : List Nat) (hx : Sl σ 1 x l.length (bytesV l)) (hl : l.length ≤ 60000000) : ∃ v σ', CallOk Tryz.prog 7 23 [x] σ v σ' ∧ rowP [x] σ v σ' := by
  obtain ⟨v, σ', h1, h2⟩ := row_ok σ x l hx hl
  refine ⟨v, σ', h1, fun x' l' e hx' => ?_⟩
  obtain rfl : x = x' := by simpa using e
  rw [← bytes_uniq hx hx']; exact h2
end Go.Proofs.YtlbhfjnlpfaioaaGreatDoor
/- Numbers and rows as bytes, by the reference; the same bytes? -/
namespace Go.Proofs.YtlbhfjnlpfaioaaGreatDoor
open Go Go.Eng

set_option maxRecDepth 20000 in
theorem rlow_ok (σ : AHeap) (n m : Nat) (hm : m ≤ 8) (hn : n < 18446744073709551616) : ∃ v σ', CallOk Tryz.prog 7 53 [.int .u64 n, .int .i64 m] σ v σ' ∧ BP σ σ' v (lowB n m) := by
  refine fn_wp mixed [] 21 [.tmp 4] Tryz.func53 rfl rfl rfl (by decide) (by simp) ?_
  simp only [↓wpC_seq, ↓wpC_regionL, ↓wpC_ret, ↓wpC_block, ↓wpL_cons, ↓wpL_nil, ↓thenX_normal, initFr_cons, initFr_nil, aop_move, aop_assign, aval_tmp, aval_nilSlice, aval_int, fget_put, ob_some', obP_some, wpA_val0, ↓wpPut_some, Nat.reduceLT, Nat.reduceEqDiff, Nat.reduceAdd, reduceIte, resultsK_nil, resultsK_tmp, tup_one, true_and, ne_eq, reduceCtorEq, not_false_eq_true, implies_true]
  refine wpC_loop (fun r t σ' => ∃ i v, r = m - i ∧ i ≤ m ∧ fget 6 t = some (.int .i64 (i : Nat)) ∧ fget 1 t = some (.int .i64 m) ∧ fget 5 t = some v ∧ fget 0 t = some (.int .u64 ((n / 2 ^ (8 * i) : Nat) : Int))
    ∧ Own σ' σ.next 1 v i (bytesV (lowB n i)) ∧ Kp σ.next σ σ') m ?_ (LL_big (by omega)) ?_
  · refine ⟨0, .slice none 0 0, by simp, by omega, ?_, ?_, ?_, ?_, .nil, .refl _⟩
    · simp only [fget_put, Nat.reduceLT, Nat.reduceEqDiff, reduceIte, reduceCtorEq]; rfl
    · simp only [fget_put, Nat.reduceLT, Nat.reduceEqDiff, reduceIte, reduceCtorEq]
    · simp only [fget_put, Nat.reduceLT, Nat.reduceEqDiff, reduceIte, reduceCtorEq]
    · simp only [fget_put, Nat.reduceLT, reduceIte, reduceCtorEq]; simp
  · rintro r t σ' ⟨i, v, rfl, hi, h6, h1, h5, h0, ho, hk⟩
    have hup := hk.up
    simp only [↓wpC_seq, ↓wpC_regionL, ↓wpC_cond, ↓wpC_skip, ↓wpC_exit, ↓wpC_block, ↓wpL_cons, ↓wpL_nil, ↓thenX_normal, ↓thenX_exit, ↓blockX_normal, ↓blockX_exit, aop_move, aop_assign, aop_bin, aop_conv, aop_buildSlice, aParts_nil, aParts_cons, aop_append, aval_tmp, aval_int, fget_put, ob_some', wpA_val0, ↓wpPut_some, Nat.reduceLT, Nat.reduceEqDiff, reduceIte, true_and, reduceCtorEq, bin_lss, bin_add, h6, h1]
    refine brP_if (fun hc => ?_) (fun hc => ?_)
    · have hc : i < m := by simpa using hc
      have hq : n / 2 ^ (8 * i) < 18446744073709551616 := Nat.lt_of_le_of_lt (Nat.div_le_self _ _) hn
      have hs : n / 2 ^ (8 * (i + 1)) = n / 2 ^ (8 * i) / 256 := by rw [Nat.mul_add, Nat.pow_add, ← Nat.div_div_eq_div_mul]
      have hb : bytesV (lowB n (i + 1)) = bytesV (lowB n i) ++ [.int .u8 ((n / 2 ^ (8 * i) % 256 : Nat) : Int)] := by rw [lowB_succ, bytesV_append]; rfl
      rw [show n / 2 ^ (8 * i) % 256 = n / 2 ^ (8 * i) % 256 from rfl] at hb
      generalize n / 2 ^ (8 * i) = q at *
      simp only [ob_some', wpA_val0, wpA_val, AHeap.next_push, Int.reduceToNat, bin_remN, bin_quoN, Int.reduceLT, h5, h0, cv_63_5, bs_22_1, ap_22_22, bsl_one]
      refine ⟨by omega, ?_⟩
      rw [wrapU8 (by omega) (by omega)]
      obtain ⟨v', σ'', e, q1, q2, _⟩ := app_sl (bytes := 1) (ho.ext (.push (x := .cells [.int .u8 ((q % 256 : Nat) : Int)] .own)) (.inl rfl)) ((own_bsl (Nat.le_refl _)).sl (by omega)) (by omega) (by rw [AHeap.next_push]; omega) (fun y hy => by rw [List.mem_singleton.1 hy]; rfl) (by omega)
      rw [e, wpA_val]
      refine ⟨q2.up, ?_⟩
      refine ⟨m - (i + 1), by omega, i + 1, v', rfl, by omega, ?_, rfl, ?_, ?_, (hk.trans (.push (by omega))).trans (.of_own q2 (ho.ext .push (.inl rfl)) (by rw [AHeap.next_push]; omega))⟩
      · rw [wrap64 (by omega) (by omega)]; push_cast; rfl
      · rw [hs, wrapU64 (by omega) (by omega)]
      · rw [hb]; exact q1
    · have hc : i = m := by simp at hc; omega
      subst hc
      simp only [ob_some', wpA_val0, h5]
      refine ⟨?_, hk.ext⟩
      rw [lowB_length]; exact ho
theorem rlow_p (σ : AHeap) (n m : Nat) (hm : m ≤ 8) (hn : n < 18446744073709551616) : ∃ v σ', CallOk Tryz.prog 7 53 [.int .u64 n, .int .i64 m] σ v σ' ∧ lowP [.int .u64 n, .int .i64 m] σ v σ' := by
  obtain ⟨v, σ', h1, h2⟩ := rlow_ok σ n m hm hn
  refine ⟨v, σ', h1, fun n' m' e => ?_⟩
  simp only [List.cons.injEq, Value.int.injEq, true_and, and_true, Int.natCast_inj] at e
  obtain ⟨rfl, rfl⟩ := e
  exact h2

set_option maxRecDepth 20000 in
theorem rcount_ok (σ : AHeap) (n : Nat) (hn : n < 18446744073709551616) : ∃ v σ', CallOk Tryz.prog 7 27 [.int .u64 n] σ v σ' ∧ BP σ σ' v (countB n) := by
  refine fn_wp mixed [(53, lowP)] 27 [.tmp 2] Tryz.func27 rfl rfl rfl (by decide) (by simp) ?_
  simp only [↓wpC_seq, ↓wpC_regionL, ↓wpC_cond, ↓wpC_skip, ↓wpC_ret, ↓wpC_block, ↓wpL_cons, ↓wpL_nil, ↓thenX_normal, ↓thenX_ret, ↓blockX_normal, ↓blockX_ret, initFr_cons, initFr_nil, aop_move, aop_assign, aop_bin, aop_conv, aop_buildSlice, aParts_nil, aParts_cons, aop_call, aop_append, aval_tmp, aval_nilSlice, aval_int, avals_nil', avals_cons', fget_put, ob_some', obP_some, wpA_val0, wpA_enter, ↓wpPut_some, Nat.reduceLT, Nat.reduceEqDiff, Nat.reduceAdd, reduceIte, resultsK_nil, resultsK_tmp, tup_one, true_and, ne_eq, reduceCtorEq, not_false_eq_true, implies_true, bin_lss, callA_enter en_53, cv_63_5, bs_22_1, ap_22_22]
  refine brP_if (fun hc => ?_) (fun hc => ?_)
  · have hc : n < 253 := by have := of_decide_eq_true hc; omega
    have e : countB n = [n] := by simp [countB, hc, lowB]; omega
    simp only [wpA_val, AHeap.next_push, bsl_one]
    refine ⟨by omega, ?_, .push⟩
    rw [wrapU8 (by omega) (by omega), e]
    exact own_bsl (Nat.le_refl _)
  · have hc : ¬ n < 253 := by have := of_decide_eq_false hc; omega
    refine brP_if (fun hd => ?_) (fun hd => ?_)
    · have hd : n < 65536 := by have := of_decide_eq_true hd; omega
      have e2 : countB n = 253 :: lowB n 2 := by simp [countB, hc, hd]
      simp only [wpA_val, AHeap.next_push, bsl_one]
      refine ⟨by omega, ?_⟩
      refine evV_use (p := lowP) rfl (rlow_p (σ.push (.cells [.int .u8 (253 : Nat)] .own)) n 2 (by omega) hn) fun v σ' h => ?_
      have h := h n 2 rfl
      have ho := (own_bsl (σ := σ) (k := .u8) (z := (253 : Nat)) (Nat.le_refl σ.next)).ext h.2 (.inl rfl)
      have hup := h.2.up
      rw [AHeap.next_push] at hup
      obtain ⟨v', σ'', e, q1, q2, _⟩ := app_sl (bytes := 1) ho (h.1.sl (by omega)) (by omega) (by omega) bytesV_one (by rw [lowB_length]; omega)
      rw [e, wpA_val]
      refine ⟨q2.up, ?_, (Ext.push.trans h.2).own q2 ho (Nat.le_refl _)⟩
      rw [e2, List.length_cons, Nat.add_comm]
      exact q1

    · have hd : ¬ n < 65536 := by have := of_decide_eq_false hd; omega
      refine brP_if (fun hf => ?_) (fun hf => ?_)
      · have hf : n < 4294967296 := by have := of_decide_eq_true hf; omega
        have e2 : countB n = 254 :: lowB n 4 := by simp [countB, hc, hd, hf]
        simp only [wpA_val, AHeap.next_push, bsl_one]
        refine ⟨by omega, ?_⟩
        refine evV_use (p := lowP) rfl (rlow_p (σ.push (.cells [.int .u8 (254 : Nat)] .own)) n 4 (by omega) hn) fun v σ' h => ?_
        have h := h n 4 rfl
        have ho := (own_bsl (σ := σ) (k := .u8) (z := (254 : Nat)) (Nat.le_refl σ.next)).ext h.2 (.inl rfl)
        have hup := h.2.up
        rw [AHeap.next_push] at hup
        obtain ⟨v', σ'', e, q1, q2, _⟩ := app_sl (bytes := 1) ho (h.1.sl (by omega)) (by omega) (by omega) bytesV_one (by rw [lowB_length]; omega)
        rw [e, wpA_val]
        refine ⟨q2.up, ?_, (Ext.push.trans h.2).own q2 ho (Nat.le_refl _)⟩
        rw [e2, List.length_cons, Nat.add_comm]
        exact q1

      · have hf : ¬ n < 4294967296 := by have := of_decide_eq_false hf; omega
        have e2 : countB n = 255 :: lowB n 8 := by simp [countB, hc, hd, hf]
        simp only [wpA_val, AHeap.next_push, bsl_one]
        refine ⟨by omega, ?_⟩
        refine evV_use (p := lowP) rfl (rlow_p (σ.push (.cells [.int .u8 (255 : Nat)] .own)) n 8 (by omega) hn) fun v σ' h => ?_
        have h := h n 8 rfl
        have ho := (own_bsl (σ := σ) (k := .u8) (z := (255 : Nat)) (Nat.le_refl σ.next)).ext h.2 (.inl rfl)
        have hup := h.2.up
        rw [AHeap.next_push] at hup
        obtain ⟨v', σ'', e, q1, q2, _⟩ := app_sl (bytes := 1) ho (h.1.sl (by omega)) (by omega) (by omega) bytesV_one (by rw [lowB_length]; omega)
        rw [e, wpA_val]
        refine ⟨q2.up, ?_, (Ext.push.trans h.2).own q2 ho (Nat.le_refl _)⟩
        rw [e2, List.length_cons, Nat.add_comm]
        exact q1

theorem rcount_p (σ : AHeap) (n : Nat) (hn : n < 18446744073709551616) : ∃ v σ', CallOk Tryz.prog 7 27 [.int .u64 n] σ v σ' ∧ countP [.int .u64 n] σ v σ' := by
  obtain ⟨v, σ', h1, h2⟩ := rcount_ok σ n hn
  refine ⟨v, σ', h1, fun n' e => ?_⟩
  simp only [List.cons.injEq, Value.int.injEq, true_and, and_true, Int.natCast_inj] at e
  subst e; exact h2

set_option maxRecDepth 20000 in
theorem rrow_ok (σ : AHeap) (x : Value) (l : List Nat) (hx : Sl σ 1 x l.length (bytesV l)) (hl : l.length ≤ 60000000) : ∃ v σ', CallOk Tryz.prog 7 26 [x] σ v σ' ∧ BP σ σ' v (rowB l) := by
  refine fn_wp mixed [(27, countP)] 9 [.tmp 2] Tryz.func26 rfl rfl rfl (by decide) (by simp) ?_
  simp only [↓wpC_seq, ↓wpC_regionL, ↓wpC_ret, ↓wpL_cons, ↓wpL_nil, ↓thenX_normal, initFr_cons, initFr_nil, aop_move, aop_assign, aop_conv, aop_call, aop_len, aop_append, aval_tmp, aval_nilSlice, avals_nil', avals_cons', fget_put, ob_some', obP_some, wpA_val0, wpA_enter, ↓wpPut_some, Nat.reduceLT, Nat.reduceEqDiff, Nat.reduceAdd, reduceIte, resultsK_nil, resultsK_tmp, tup_one, true_and, ne_eq, reduceCtorEq, not_false_eq_true, implies_true, callA_enter en_27, cv_3_63, ap_22_22, len_22 hx]
  rw [wrapU64 (by omega) (by omega)]
  refine evV_use (p := countP) rfl (rcount_p σ l.length (by omega)) fun v σ' h => ?_
  have h := h l.length rfl
  have hc := @countB_le l.length
  obtain ⟨v', σ'', e, q1, q2, _⟩ := app_sl (bytes := 1) h.1 (hx.ext0 h.2) (by omega) h.2.up bytesV_one (by omega)
  rw [e, wpA_val]
  refine ⟨q2.up, ?_, h.2.own q2 h.1 (Nat.le_refl _)⟩
  unfold rowB
  rw [List.length_append, bytesV_append]; exact q1
theorem rrow_p (σ : AHeap) (x : Value) (l : List Nat) (hx : Sl σ 1 x l.length (bytesV l)) (hl : l.length ≤ 60000000) : ∃ v σ', CallOk Tryz.prog 7 26 [x] σ v σ' ∧ rowP [x] σ v σ' := by
  obtain ⟨v, σ', h1, h2⟩ := rrow_ok σ x l hx hl
  refine ⟨v, σ', h1, fun x' l' e hx' => ?_⟩
  obtain rfl : x = x' := by simpa using e
  rw [← bytes_uniq hx hx']; exact h2

/-- the same bytes? -/
def sameP : Post := fun args σ v σ' => ∀ x y a b, args = [x, y] → Sl σ 1 x a.length (bytesV a) → Sl σ 1 y b.length (bytesV b) → v = .bool (decide (a = b)) ∧ σ' = σ
theorem bytes_at {σ : AHeap} {x : Value} {a : List Nat} (hx : Sl σ 1 x a.length (bytesV a)) {i : Nat} (hi : i < a.length) : ∃ p, ixSl 1 x (.int .i64 i) = some p ∧ loadOne σ p = some (.int .u8 (a[i] : Nat)) := by
  obtain ⟨p, h1, h2⟩ := hx.at (k := .i64) hi
  refine ⟨p, h1, loadOne_at ?_⟩
  have e : ((bytesV a).drop (i * 1)).take 1 = [.int .u8 (a[i] : Nat)] := by
    rw [Nat.mul_one]
    have hi' : i < (bytesV a).length := by rw [bytesV_length]; exact hi
    rw [List.drop_eq_getElem_cons hi']
    simp [bytesV]
  rw [e] at h2; exact h2
set_option maxRecDepth 20000 in
theorem same_ok (σ : AHeap) (x y : Value) (a b : List Nat) (hx : Sl σ 1 x a.length (bytesV a)) (hy : Sl σ 1 y b.length (bytesV b)) (ha : a.length < 4611686018427387904) (_hb : b.length < 4611686018427387904) : ∃ v σ', CallOk Tryz.prog 7 9 [x, y] σ v σ' ∧ v = .bool (decide (a = b)) ∧ σ' = σ := by
  refine fn_wp mixed [] 26 [.tmp 4] Tryz.func9 rfl rfl rfl (by decide) (by simp) ?_
  simp only [↓wpC_seq, ↓wpC_regionL, ↓wpC_cond, ↓wpC_skip, ↓wpC_ret, ↓wpC_block, ↓wpL_cons, ↓wpL_nil, ↓thenX_normal, ↓thenX_ret, initFr_cons, initFr_nil, aop_move, aop_assign, aop_bin, aop_len, aval_tmp, aval_int, aval_bool, fget_put, ob_some', obP_some, wpA_val0, ↓wpPut_some, Nat.reduceLT, Nat.reduceEqDiff, Nat.reduceAdd, reduceIte, resultsK_nil, resultsK_tmp, tup_one, true_and, and_true, ne_eq, reduceCtorEq, not_false_eq_true, implies_true, bin_neq, len_22 hx, len_22 hy]
  refine brP_if (fun hc => ?_) (fun hc => ?_)
  · have hc : a.length ≠ b.length := by simp only [bne_iff_ne, ne_eq] at hc; omega
    rw [decide_eq_false (fun e => hc (by rw [e]))]
  · have hc : a.length = b.length := by simp at hc; omega
    refine wpC_loop (fun r t σ' => ∃ i, r = a.length - i ∧ i ≤ a.length ∧ fget 5 t = some (.int .i64 (i : Nat)) ∧ fget 0 t = some x ∧ fget 1 t = some y ∧ a.take i = b.take i ∧ σ' = σ) a.length ?_ (LL_big (by omega)) ?_
    · refine ⟨0, by simp, by omega, ?_, ?_, ?_, rfl, rfl⟩
      · simp only [fget_put, Nat.reduceLT, Nat.reduceEqDiff, reduceIte, reduceCtorEq]; rfl
      · simp only [fget_put, Nat.reduceLT, reduceIte, reduceCtorEq]
      · simp only [fget_put, Nat.reduceLT, Nat.reduceEqDiff, reduceIte, reduceCtorEq]
    · rintro r t σ' ⟨i, rfl, hi, h5, h0, h1, hp, rfl⟩
      simp only [↓wpC_seq, ↓wpC_regionL, ↓wpC_cond, ↓wpC_skip, ↓wpC_ret, ↓wpC_exit, ↓wpC_block, ↓wpL_cons, ↓wpL_nil, ↓thenX_normal, ↓thenX_exit, ↓thenX_ret, ↓blockX_normal, ↓blockX_exit, ↓blockX_ret, aop_move, aop_assign, aop_bin, aop_len, aval_tmp, aval_int, aval_bool, fget_put, ob_some', obP_some, wpA_val0, ↓wpPut_some, Nat.reduceLT, Nat.reduceEqDiff, reduceIte, tup_one, true_and, and_true, reduceCtorEq, not_false_eq_true, implies_true, bin_lss, h5, h0, len_22 hx]
      refine brP_if (fun hd => ?_) (fun hd => ?_)
      · have hd : i < a.length := by simpa using hd
        obtain ⟨p, p1, p2⟩ := bytes_at hx hd
        obtain ⟨q, q1, q2⟩ := bytes_at hy (show i < b.length by omega)
        refine wpC_draw0 dr_9_6 rfl rfl rfl ?_
        simp only [↓thenX_normal, aop_move, aop_bin, aop_load, aop_indexAddr, aval_tmp, fget_put, ob_some', obP_some, wpA_val0, Nat.reduceLT, Nat.reduceEqDiff, reduceIte, true_and, and_true, reduceCtorEq, bin_neq, bin_add, ↓wpD_nil, ↓wpD_pure, ↓wpD_read, restr_cons', restr_nil, putO_some, ia_22, ld_5, h5, h0, h1, p1, p2, q1, q2]
        refine brP_if (fun he => ?_) (fun he => ?_)
        · have he : a[i] ≠ b[i] := by simp only [bne_iff_ne, ne_eq] at he; omega
          rw [decide_eq_false (fun e => he (by simp [e]))]
        · have he : a[i] = b[i] := by simp at he; omega
          refine ⟨a.length - (i + 1), by omega, i + 1, rfl, by omega, ?_, ?_⟩
          · rw [wrap64 (by omega) (by omega)]; push_cast; rfl
          · rw [List.take_succ_eq_append_getElem hd, List.take_succ_eq_append_getElem (show i < b.length by omega), hp, he]
      · have hd : i = a.length := by simp at hd; omega
        subst hd
        rw [List.take_length, hc, List.take_length] at hp
        rw [decide_eq_true hp]
theorem same_p (σ : AHeap) (x y : Value) (a b : List Nat) (hx : Sl σ 1 x a.length (bytesV a)) (hy : Sl σ 1 y b.length (bytesV b)) (ha : a.length < 4611686018427387904) (hb : b.length < 4611686018427387904) : ∃ v σ', CallOk Tryz.prog 7 9 [x, y] σ v σ' ∧ sameP [x, y] σ v σ' := by
  obtain ⟨v, σ', h1, h2⟩ := same_ok σ x y a b hx hy ha hb
  refine ⟨v, σ', h1, fun x' y' a' b' e hx' hy' => ?_⟩
  obtain ⟨rfl, rfl⟩ : x = x' ∧ y = y' := by simpa using e
  rw [← bytes_uniq hx hx', ← bytes_uniq hy hy']; exact h2
end Go.Proofs.YtlbhfjnlpfaioaaGreatDoor
/- Proofs as bytes, by the program. -/
namespace Go.Proofs.YtlbhfjnlpfaioaaGreatDoor
open Go Go.Eng

/-- A value in a proof: its kind, its hash: 33 bytes. -/
def zeros32 : List Nat := List.replicate 32 0
def givenB (g : List Nat) : Bool := decide (g.headD 0 = 2) || ((decide (g.headD 0 = 1) || decide (g.headD 0 = 3)) && decide (g.drop 1 = zeros32))
def boolP (b : Bool) : Post := fun _ σ v σ' => v = .bool b ∧ Ext none σ σ'

theorem given_eq {c : Bool} {h : List Nat} (hh : h.length = 32) : otherEq Tryz.prog c 40 (.agg ⟨bytesV h⟩) (.agg ⟨bytesV zeros32⟩) = some (decide (h = zeros32)) :=
  otherEq_ints (k := .u8) eg_40 ce_40 hh (by simp [zeros32])
theorem zero_hash : (.agg ⟨[.int .u8 0, .int .u8 0, .int .u8 0, .int .u8 0, .int .u8 0, .int .u8 0, .int .u8 0, .int .u8 0, .int .u8 0, .int .u8 0, .int .u8 0, .int .u8 0, .int .u8 0, .int .u8 0, .int .u8 0, .int .u8 0, .int .u8 0, .int .u8 0, .int .u8 0, .int .u8 0, .int .u8 0, .int .u8 0, .int .u8 0, .int .u8 0, .int .u8 0, .int .u8 0, .int .u8 0, .int .u8 0, .int .u8 0, .int .u8 0, .int .u8 0, .int .u8 0]⟩ : Value) = .agg ⟨bytesV zeros32⟩ := rfl

set_option maxRecDepth 20000 in
theorem given_ok (σ : AHeap) (k : Nat) (h : List Nat) (hh : h.length = 32) : ∃ v σ', CallOk Tryz.prog 7 50 [.agg ⟨bytesV (k :: h)⟩] σ v σ' ∧ boolP (givenB (k :: h)) [.agg ⟨bytesV (k :: h)⟩] σ v σ' := by
  refine fn_wp mixed [] 14 [.tmp 2] Tryz.func50 rfl rfl rfl (by decide) (by simp) ?_
  have hN : aNew σ (.agg ⟨bytesV (k :: h)⟩) = _ := aNew_agg bytesV_one
  have hg : (σ.push (.cells (bytesV (k :: h)) .own)).get σ.next = some (.cells (bytesV (k :: h)) .own) := by rw [AHeap.get_push, if_pos rfl]
  have h0 : loadOne (σ.push (.cells (bytesV (k :: h)) .own)) (.pointer (some ⟨σ.next, 0, none⟩)) = some (.int .u8 (k : Nat)) := loadOne_get hg rfl
  have h1 : loadAgg 32 (σ.push (.cells (bytesV (k :: h)) .own)) (.pointer (some ⟨σ.next, 1, none⟩)) = some (.agg ⟨bytesV h⟩) := by
    rw [loadAgg_get hg (by rw [bytesV_length, List.length_cons]; omega)]
    congr 3
    show (bytesV h).take 32 = _
    exact List.take_of_length_le (by rw [bytesV_length]; omega)
  simp only [↓wpC_seq, ↓wpC_regionL, ↓wpC_cond, ↓wpC_skip, ↓wpC_ret, ↓wpC_block, ↓wpL_cons, ↓wpL_nil, ↓thenX_normal, ↓thenX_ret, ↓blockX_normal, ↓blockX_ret, initFr_cons, initFr_nil, aop_assign, aop_bin, aop_load, aop_fieldAddr, aop_box, aop_build, aParts_nil, aval_tmp, aval_int, aval_bool, fget_put, ob_some', obP_some, wpA_val0, wpA_val, ↓wpPut_some, Nat.reduceLT, Nat.reduceEqDiff, Nat.add_zero, Nat.reduceAdd, reduceIte, AHeap.next_push, resultsK_nil, resultsK_tmp, tup_one, true_and, ne_eq, reduceCtorEq, not_false_eq_true, implies_true, bin_eql, fAddr_eq, fa_111_0, ld_5, fa_111_1, ld_40, bd_40, hN, h0]
  refine ⟨by omega, ?_⟩
  refine brP_if (fun hc => ?_) (fun hc => ?_)
  · have hc : k = 2 := by simp only [beq_iff_eq] at hc; omega
    subst hc
    exact ⟨rfl, .push⟩
  · have hc : k ≠ 2 := by simp only [beq_eq_false_iff_ne, ne_eq] at hc; omega
    have fin : ∀ b : Bool, b = (decide (k = 1) || decide (k = 3)) → boolP (givenB (k :: h)) [.agg ⟨bytesV (k :: h)⟩] σ (.bool (b && decide (h = zeros32))) (σ.push (.cells (bytesV (k :: h)) .own)) := by
      intro b hb
      refine ⟨?_, .push⟩
      simp [givenB, hc, hb]
    refine brP_if (fun hd0 => ?_) (fun hd0 => ?_)
    · have hd : k = 1 := by simp only [beq_iff_eq] at hd0; omega
      simp only [ob_some', wpA_val0, bin_eqlA, h1, zero_hash, given_eq hh]
      exact brP_if (fun _ => fin true (by simp [hd])) (fun q => by rw [hd0] at q; cases q)
    · have hd : k ≠ 1 := by simp only [beq_eq_false_iff_ne, ne_eq] at hd0; omega
      refine brP_if (fun hf => ?_) (fun hf => ?_)
      · have hf : k = 3 := by simp only [beq_iff_eq] at hf; omega
        simp only [ob_some', wpA_val0, bin_eqlA, h1, zero_hash, given_eq hh]
        exact fin true (by simp [hf])
      · have hf : k ≠ 3 := by simp only [beq_eq_false_iff_ne, ne_eq] at hf; omega
        exact fin false (by simp [hd, hf])

set_option maxRecDepth 20000 in
theorem put1_ok (σ : AHeap) (k : Nat) (h : List Nat) (hh : h.length = 32) : ∃ v σ', CallOk Tryz.prog 7 49 [.agg ⟨bytesV (k :: h)⟩] σ v σ' ∧ boolP (!givenB (k :: h)) [.agg ⟨bytesV (k :: h)⟩] σ v σ' := by
  refine fn_wp mixed [(50, boolP (givenB (k :: h)))] 6 [.tmp 2] Tryz.func49 rfl rfl rfl (by decide) (by simp) ?_
  have hN : aNew σ (.agg ⟨bytesV (k :: h)⟩) = _ := aNew_agg bytesV_one
  have hg : (σ.push (.cells (bytesV (k :: h)) .own)).get σ.next = some (.cells (bytesV (k :: h)) .own) := by rw [AHeap.get_push, if_pos rfl]
  have h1 : loadAgg 33 (σ.push (.cells (bytesV (k :: h)) .own)) (.pointer (some ⟨σ.next, 0, none⟩)) = some (.agg ⟨bytesV (k :: h)⟩) := by
    rw [loadAgg_get hg (by rw [bytesV_length, List.length_cons]; omega)]
    congr 3
    rw [List.drop_zero]
    exact List.take_of_length_le (by rw [bytesV_length, List.length_cons]; omega)
  simp only [↓wpC_seq, ↓wpC_regionL, ↓wpC_ret, ↓wpL_cons, ↓wpL_nil, ↓thenX_normal, initFr_cons, initFr_nil, aop_assign, aop_un, aop_load, aop_box, aop_call, aval_tmp, aval_bool, avals_nil', avals_cons', fget_put, ob_some', obP_some, wpA_val0, wpA_val, wpA_enter, ↓wpPut_some, Nat.reduceLT, Nat.reduceEqDiff, Nat.reduceAdd, reduceIte, AHeap.next_push, resultsK_nil, resultsK_tmp, tup_one, true_and, ne_eq, reduceCtorEq, not_false_eq_true, implies_true, callA_enter en_50, ld_111, hN, h1]
  refine ⟨by omega, ?_⟩
  refine evV_use (p := boolP (givenB (k :: h))) rfl (given_ok _ k h hh) fun v σ' q => ?_
  obtain ⟨rfl, q⟩ := q
  simp only [ob_some', wpA_val0, un_not]
  exact ⟨rfl, Ext.push.trans q⟩

/-- lists of 33 bytes each -/
def GsOk (gs : List (List Nat)) : Prop := ∀ g ∈ gs, ∃ k h, g = k :: h ∧ h.length = 32
theorem GsOk.len {gs : List (List Nat)} (h : GsOk gs) : ∀ g ∈ gs, g.length = 33 := fun g hg => by
  obtain ⟨k, t, rfl, hk⟩ := h g hg
  simp [hk]
theorem bytesV_flat {gs : List (List Nat)} : bytesV gs.flatten = (gs.map bytesV).flatten := by
  show List.map _ gs.flatten = _
  rw [List.map_flatten]
  rfl
theorem given_at {σ : AHeap} {y : Value} {gs : List (List Nat)} (hy : Sl σ 33 y gs.length (bytesV gs.flatten)) (hg : GsOk gs) {i : Nat} (hi : i < gs.length) : ∃ b o c k, ixSl 33 y (.int .i64 i) = some (.pointer (some ⟨b, o, none⟩)) ∧ b < σ.next ∧ σ.get b = some (.cells c k) ∧ o + 33 ≤ c.length ∧ (c.drop o).take 33 = bytesV gs[i] := by
  obtain ⟨p, h1, h2⟩ := hy.at (k := .i64) hi
  obtain ⟨b, o, c, k, rfl, hb, hc, hl, hv⟩ := h2.ex
  refine ⟨b, o, c, k, h1, hb, hc, hl, ?_⟩
  rw [hv, bytesV_flat]
  exact flat_piece (gs.map bytesV) (fun x hx => by
    obtain ⟨g, hg', rfl⟩ := List.mem_map.1 hx
    rw [bytesV_length]; exact hg.len g hg') i _ (by simp [hi])

def idxP (gs : List (List Nat)) : Post := fun _ σ v σ' => ∃ z : Int, v = .int .i64 z ∧ (0 ≤ z ↔ gs.all givenB = false) ∧ Ext none σ σ'
set_option maxRecDepth 20000 in
theorem idx_ok (σ : AHeap) (y : Value) (gs : List (List Nat)) (hy : Sl σ 33 y gs.length (bytesV gs.flatten)) (hg : GsOk gs) (hl : gs.length < 4611686018427387904) :
    ∃ v σ', CallOk Tryz.prog 7 95 [y, .func (.func 49) ⟨[]⟩ ⟨[]⟩] σ v σ' ∧ idxP gs [y, .func (.func 49) ⟨[]⟩ ⟨[]⟩] σ v σ' := by
  refine fn_wp mixed [(49, fun args σ v σ' => ∀ k h, args = [.agg ⟨bytesV (k :: h)⟩] → boolP (!givenB (k :: h)) args σ v σ')] 19 [.tmp 4] Tryz.func95 rfl rfl rfl (by decide) (by simp) ?_
  simp only [↓wpC_seq, ↓wpC_regionL, ↓wpC_ret, ↓wpC_block, ↓wpL_cons, ↓wpL_nil, ↓thenX_normal, initFr_cons, initFr_nil, aop_move, aop_assign, aop_len, aval_tmp, aval_int, fget_put, ob_some', obP_some, wpA_val0, ↓wpPut_some, Nat.reduceLT, Nat.reduceEqDiff, Nat.reduceAdd, reduceIte, resultsK_nil, resultsK_tmp, tup_one, true_and, ne_eq, reduceCtorEq, not_false_eq_true, implies_true, len_25 hy]
  refine wpC_loop (fun r t σ' => ∃ i, r = gs.length - i ∧ i ≤ gs.length ∧ fget 8 t = some (.int .i64 (i : Nat)) ∧ fget 7 t = some (.int .i64 gs.length) ∧ fget 0 t = some y ∧ fget 1 t = some (.func (.func 49) ⟨[]⟩ ⟨[]⟩)
    ∧ (gs.take i).all givenB = true ∧ Ext none σ σ') gs.length ?_ (LL_big (by omega)) ?_
  · refine ⟨0, by simp, by omega, ?_, ?_, ?_, ?_, rfl, .refl _⟩
    · simp only [fget_put, Nat.reduceLT, Nat.reduceEqDiff, reduceIte, reduceCtorEq]; rfl
    · simp only [fget_put, Nat.reduceLT, Nat.reduceEqDiff, reduceIte, reduceCtorEq]
    · simp only [fget_put, Nat.reduceLT, reduceIte, reduceCtorEq]
    · simp only [fget_put, Nat.reduceLT, Nat.reduceEqDiff, reduceIte, reduceCtorEq]
  · rintro r t σ' ⟨i, rfl, hi, h8, h7, h0, h1, hp, he⟩
    simp only [↓wpC_seq, ↓wpC_regionL, ↓wpC_cond, ↓wpC_skip, ↓wpC_ret, ↓wpC_exit, ↓wpC_block, ↓wpL_cons, ↓wpL_nil, ↓thenX_normal, ↓thenX_exit, ↓thenX_ret, ↓blockX_normal, ↓blockX_exit, ↓blockX_ret, aop_move, aop_assign, aop_bin, aop_load, aop_indexAddr, aop_callT, aval_tmp, aval_int, avals_nil', avals_cons', fget_put, ob_some', obP_some, wpA_val0, ↓wpPut_some, Nat.reduceLT, Nat.reduceEqDiff, reduceIte, tup_one, true_and, reduceCtorEq, not_false_eq_true, implies_true, bin_lss, bin_add, h8, h7]
    refine brP_if (fun hc => ?_) (fun hc => ?_)
    · have hc : i < gs.length := by simpa using hc
      obtain ⟨b, o, c, kd, e1, e2, e3, e4, e5⟩ := given_at (hy.ext0 he) hg hc
      obtain ⟨k, h, e6, e7⟩ := hg gs[i] (List.getElem_mem hc)
      have hL := loadAgg_get e3 e4
      rw [e5, e6] at hL
      simp only [callV_func, ob_some', wpA_val0, wpA_enter, List.nil_append, List.append_nil, true_and, ia_25, ld_111, h0, h1, e1, hL, callA_enter en_49, List.nil_append, List.append_nil]
      refine evV_use (p := fun args σ v σ' => ∀ k h, args = [.agg ⟨bytesV (k :: h)⟩] → boolP (!givenB (k :: h)) args σ v σ') rfl ?_ fun v σ'' q => ?_
      · obtain ⟨v, σ'', q1, q2⟩ := put1_ok σ' k h e7
        refine ⟨v, σ'', q1, fun k' h' e => ?_⟩
        have : bytesV (k :: h) = bytesV (k' :: h') := by simpa using e
        rw [← bytesV_inj this]; exact q2
      obtain ⟨rfl, qe⟩ := q k h rfl
      have hall : (gs.take (i + 1)).all givenB = givenB (k :: h) := by
        rw [List.take_succ_eq_append_getElem hc, List.all_append, hp, e6]; simp
      refine brP_if (fun hd => ?_) (fun hd => ?_)
      · have hd : givenB (k :: h) = false := by simpa using hd
        refine ⟨i, rfl, ?_, he.trans qe⟩
        refine ⟨fun _ => ?_, fun _ => by omega⟩
        rw [List.all_eq_false]
        exact ⟨gs[i], List.getElem_mem hc, by rw [e6, hd]; simp⟩
      · have hd : givenB (k :: h) = true := by simpa using hd
        refine ⟨gs.length - (i + 1), by omega, i + 1, rfl, by omega, ?_, by rw [hall, hd], he.trans qe⟩
        rw [wrap64 (by omega) (by omega)]; push_cast; rfl
    · have hc : i = gs.length := by simp at hc; omega
      subst hc
      rw [List.take_length] at hp
      refine ⟨-1, rfl, ?_, he⟩
      rw [hp]; simp

set_option maxRecDepth 20000 in
theorem has_ok (σ : AHeap) (y : Value) (gs : List (List Nat)) (hy : Sl σ 33 y gs.length (bytesV gs.flatten)) (hg : GsOk gs) (hl : gs.length < 4611686018427387904) :
    ∃ v σ', CallOk Tryz.prog 7 48 [y, .func (.func 49) ⟨[]⟩ ⟨[]⟩] σ v σ' ∧ boolP (!gs.all givenB) [y, .func (.func 49) ⟨[]⟩ ⟨[]⟩] σ v σ' := by
  refine fn_wp mixed [(95, idxP gs)] 9 [.tmp 4] Tryz.func48 rfl rfl rfl (by decide) (by simp) ?_
  simp only [↓wpC_seq, ↓wpC_regionL, ↓wpC_ret, ↓wpL_cons, ↓wpL_nil, ↓thenX_normal, initFr_cons, initFr_nil, aop_move, aop_assign, aop_bin, aop_call, aval_tmp, aval_int, aval_bool, avals_nil', avals_cons', fget_put, ob_some', obP_some, wpA_val0, wpA_enter, ↓wpPut_some, Nat.reduceLT, Nat.reduceEqDiff, Nat.reduceAdd, reduceIte, resultsK_nil, resultsK_tmp, tup_one, true_and, ne_eq, reduceCtorEq, not_false_eq_true, implies_true, callA_enter en_95]
  refine evV_use (p := idxP gs) rfl (idx_ok σ y gs hy hg hl) fun v σ' q => ?_
  obtain ⟨z, rfl, q1, q2⟩ := q
  simp only [ob_some', wpA_val0, bin_geq]
  refine ⟨?_, q2⟩
  congr 1
  cases ha : gs.all givenB
  · simpa [ha] using q1
  · simpa [ha] using q1
end Go.Proofs.YtlbhfjnlpfaioaaGreatDoor
