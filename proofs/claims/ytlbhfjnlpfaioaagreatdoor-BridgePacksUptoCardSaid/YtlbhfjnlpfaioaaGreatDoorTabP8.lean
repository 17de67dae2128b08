/- BridgePacks: the law's run at any block, data and proof. -/
import Derived.Test.YtlbhfjnlpfaioaaGreatDoorTabP6
import Derived.Test.YtlbhfjnlpfaioaaGreatDoorTabTV
import Derived.Test.YtlbhfjnlpfaioaaGreatDoorEngY7
import Derived.Test.YtlbhfjnlpfaioaaGreatDoorRows
namespace Go.Proofs.YtlbhfjnlpfaioaaGreatDoor
open Go Go.Eng

def livesP : Post := fun _ σ v σ' => v = .bool true ∧ σ' = σ
theorem lives_p (σ : AHeap) (h : Has σ allNeed7) : ∃ v σ', CallOk Tryz.prog 7 10 [] σ v σ' ∧ livesP [] σ v σ' := by
  have hb : holdsB σ allNeed7 = true := holdsB_of h (by kernel_rfl)
  refine ⟨.bool true, σ, tblOrc_ok pLives_ok.1 pLives_ok.2 ?_, rfl, rfl⟩
  show ifb (holdsB σ allNeed7) (ob (tblFind [] tLives) fun v => some (v, σ)) none = _
  rw [hb]; rfl

theorem packB_le {xl : List Nat} {dl : List (List Nat)} {ls : List Nat} {gs : List (List Nat)} (hg : GsOk gs) (h : packOk dl ls gs = true) : (packB xl dl ls gs).length ≤ xl.length + total dl + 300000 := by
  simp only [packOk, Bool.and_eq_true, decide_eq_true_eq] at h
  have h1 := putB_le hg h.1
  have h2 := @rowB_le xl
  have h3 := @countB_le dl.length
  have h4 := @rows_le dl
  have h5 := h.2
  rw [packB, List.length_append, List.length_append, List.length_append]
  omega

set_option maxRecDepth 20000 in
theorem packs_run (σ : AHeap) (hh : Has σ allNeed7) (hlt : ∀ x ∈ allNeed7, x.1 < σ.next) (vx vd x y : Value) (xl : List Nat) (dl : List (List Nat)) (ls : List Nat) (gs : List (List Nat)) (hvx : Sl σ 1 vx xl.length (bytesV xl)) (hvd : Rows8 σ vd dl)
    (hx : Sl σ 1 x ls.length (intsV .u64 ls)) (hls : ∀ n ∈ ls, n < 18446744073709551616) (hy : Sl σ 33 y gs.length (bytesV gs.flatten)) (hg : GsOk gs)
    (hl : ls.length < 4611686018427387904) (hgl : gs.length < 4611686018427387904) (hdl : dl.length < 4611686018427387904) (hsz : xl.length + total dl ≤ 2097152) :
    ∃ v σ', CallOk Tryz.prog 7 3 [vx, vd, .agg ⟨[x, y]⟩] σ v σ' ∧ v = .bool true := by
  refine fn_wp mixed [(7, packP xl dl ls gs), (8, packP xl dl ls gs), (9, sameP), (10, livesP)] 36 [.tmp 6] Tryz.func3 rfl rfl rfl (by decide) (by simp) ?_
  have hN : aNew σ (.agg ⟨[x, y]⟩) = some (.val (.pointer (some ⟨σ.next, 0, none⟩)) (σ.push (.cells [x, y] .own))) := aNew_agg (by
    intro z hz
    simp only [List.mem_cons, List.not_mem_nil, or_false] at hz
    rcases hz with rfl | rfl
    · exact hx.one
    · exact hy.one)
  generalize hσ1 : σ.push (.cells [x, y] .own) = σ1 at hN
  have hg1 : σ1.get σ.next = some (.cells [x, y] .own) := by rw [← hσ1, AHeap.get_push, if_pos rfl]
  have hn1 : σ1.next = σ.next + 1 := by rw [← hσ1, AHeap.next_push]
  have hE1 : Ext none σ σ1 := by rw [← hσ1]; exact .push
  have hLA : loadAgg 2 σ1 (.pointer (some ⟨σ.next, 0, none⟩)) = some (.agg ⟨[x, y]⟩) := loadAgg_get hg1 (by simp)
  simp only [↓wpC_seq, ↓wpC_regionL, ↓wpC_ret, ↓wpL_cons, ↓wpL_guard, ↓wpL_nil, ↓thenX_normal, initFr_cons, initFr_nil, aop_move, aop_assign, aop_bin, aop_load, aop_extract, aop_box, aop_call, aval_tmp, aval_bool, avals_nil', avals_cons', fget_put, ob_some', obP_some, wpA_val0, wpA_val, wpA_enter, ↓wpPut_some, ↓gSlot_zero, ↓gSlot_succ, Nat.reduceLT, Nat.reduceEqDiff, Nat.reduceAdd, reduceIte, resultsK_nil, resultsK_tmp, tup_one, true_and, and_self, ne_eq, reduceCtorEq, not_false_eq_true, implies_true, aop_pick, callA_enter en_7, callA_enter en_8, callA_enter en_9, callA_enter en_10, ld_27, hN, hLA]
  refine ⟨hE1.up, ?_⟩
  refine evV_use (p := packP xl dl ls gs) rfl (pack_ok σ1 vx vd x y xl dl ls gs (hvx.ext0 hE1) (hvd.ext0 hE1) (hx.ext0 hE1) hls (hy.ext0 hE1) hg hl hgl hdl hsz) fun v2 σ2 q2 => ?_
  cases hpk : packOk dl ls gs
  · obtain ⟨rfl, hE2⟩ := q2.2 hpk
    have hLA2 : loadAgg 2 σ2 (.pointer (some ⟨σ.next, 0, none⟩)) = some (.agg ⟨[x, y]⟩) := loadAgg_get ((hE2.get σ.next (by omega) (by simp)).trans hg1) (by simp)
    have hE := hE1.trans hE2
    simp only [oExtract_eq, ob_some', wpA_val0, List.getElem?_cons_zero, List.getElem?_cons_succ, hLA2]
    refine evV_use (p := packP xl dl ls gs) rfl (rpack_ok σ2 vx vd x y xl dl ls gs (hvx.ext0 hE) (hvd.ext0 hE) (hx.ext0 hE) hls (hy.ext0 hE) hg hl hgl hdl hsz) fun v3 σ3 q3 => ?_
    obtain ⟨rfl, hE3⟩ := q3.2 hpk
    have hE4 := hE.trans hE3
    simp only [oExtract_eq, ob_some', wpA_val0, List.getElem?_cons_zero, List.getElem?_cons_succ, bin_eql]
    refine evV_use (p := sameP) rfl (same_p σ3 (.slice none 0 0) (.slice none 0 0) [] [] .nil .nil (by decide) (by decide)) fun v5 σ5 q5 => ?_
    obtain ⟨rfl, rfl⟩ := q5 _ _ [] [] rfl .nil .nil
    simp only [wpA_val0, wpG_tt, decide_true, show ((2 : Int) == 2) = true from rfl]
    refine evV_use (p := livesP) rfl (lives_p σ5 (hh.ext hE4 hlt)) fun v6 σ6 q6 => ?_
    obtain ⟨rfl, rfl⟩ := q6
    simp only []
  · obtain ⟨b, rfl, hob, hE2⟩ := q2.1 hpk
    have hle := packB_le (xl := xl) hg hpk
    have hLA2 : loadAgg 2 σ2 (.pointer (some ⟨σ.next, 0, none⟩)) = some (.agg ⟨[x, y]⟩) := loadAgg_get ((hE2.get σ.next (by omega) (by simp)).trans hg1) (by simp)
    have hE := hE1.trans hE2
    simp only [oExtract_eq, ob_some', wpA_val0, List.getElem?_cons_zero, List.getElem?_cons_succ, hLA2]
    refine evV_use (p := packP xl dl ls gs) rfl (rpack_ok σ2 vx vd x y xl dl ls gs (hvx.ext0 hE) (hvd.ext0 hE) (hx.ext0 hE) hls (hy.ext0 hE) hg hl hgl hdl hsz) fun v3 σ3 q3 => ?_
    obtain ⟨b3, rfl, hob3, hE3⟩ := q3.1 hpk
    have hE4 := hE.trans hE3
    have hs2 := (hob.sl (by omega)).ext0 hE3
    have hs3 := hob3.sl (by omega)
    simp only [oExtract_eq, ob_some', wpA_val0, List.getElem?_cons_zero, List.getElem?_cons_succ, bin_eql]
    refine evV_use (p := sameP) rfl (same_p σ3 b b3 _ _ hs2 hs3 (by omega) (by omega)) fun v5 σ5 q5 => ?_
    obtain ⟨rfl, rfl⟩ := q5 _ _ _ _ rfl hs2 hs3
    simp only [wpA_val0, wpG_tt, decide_true, show ((0 : Int) == 0) = true from rfl]
    refine evV_use (p := livesP) rfl (lives_p σ5 (hh.ext hE4 hlt)) fun v6 σ6 q6 => ?_
    obtain ⟨rfl, rfl⟩ := q6
    simp only []
end Go.Proofs.YtlbhfjnlpfaioaaGreatDoor
/- From readings of arguments to data: how big they are; rows of bytes; numbers; given values. -/
namespace Go.Proofs.YtlbhfjnlpfaioaaGreatDoor
open Go Go.Eng

mutual
def dtN : Dt → Nat
  | .int _ => 1
  | .bool _ => 1
  | .agg l => dtNs l + 1
  | .sl l => dtNs l + 1
def dtNs : List Dt → Nat
  | [] => 0
  | d :: r => dtN d + dtNs r
end
theorem dtN_pos (d : Dt) : 1 ≤ dtN d := by cases d <;> simp [dtN]
theorem dtNs_len : ∀ l : List Dt, l.length ≤ dtNs l
  | [] => by simp [dtNs]
  | d :: l => by
    have := dtNs_len l
    have := dtN_pos d
    simp only [dtNs, List.length_cons]; omega
theorem dtNs_le {H : Type} : ∀ (l : List (DataW H)) (r : List Dt), l.length = r.length → (∀ (i : Nat) (a : DataW H) (b : Dt), l[i]? = some a → r[i]? = some b → dtN b ≤ Rows.uptoBulk a) → dtNs r ≤ Rows.uptoBulkAll l
  | [], [], _, _ => by simp [dtNs, Rows.uptoBulkAll]
  | [], _ :: _, h, _ => by simp at h
  | _ :: _, [], h, _ => by simp at h
  | a :: l, b :: r, h, hh => by
    have h1 := dtNs_le l r (by simpa using h) fun i a b ha hb => hh (i + 1) a b (by simpa using ha) (by simpa using hb)
    have h2 := hh 0 a b rfl rfl
    simp only [dtNs, Rows.uptoBulkAll]; omega
theorem dr_le {H : Type} {d : DataW H} {t : Dt} (h : DR d t) : dtN t ≤ Rows.uptoBulk d := by
  induction h with
  | int k z => simp [dtN, Rows.uptoBulk]
  | bool b => simp [dtN, Rows.uptoBulk]
  | agg hl _ ih => have := dtNs_le _ _ hl ih; simp only [dtN, Rows.uptoBulk]; omega
  | nil => simp [dtN, dtNs, Rows.uptoBulk]
  | sl hl _ ih => have := dtNs_le _ _ hl ih; simp only [dtN, Rows.uptoBulk]; omega

section
variable {P : Program} {σ : AHeap}
theorem ard_int {e : TypeId} {k : IntKind} {x : List Value} {d : Dt} (he : P.underlying e = some (.int k)) (h : ARd P σ e x d) : ∃ z, x = [.int k z] ∧ k.min ≤ z ∧ z ≤ k.max := by
  cases h with
  | int h' hz => rw [he] at h'; cases h'; exact ⟨_, rfl, hz.1, hz.2⟩
  | bool h' => rw [he] at h'; cases h'
  | arr h' _ _ _ => rw [he] at h'; cases h'
  | str h' _ _ _ => rw [he] at h'; cases h'
  | sl h' _ _ _ => rw [he] at h'; cases h'
theorem ard_sl {t e : TypeId} {x : List Value} {d : Dt} (ht : P.underlying t = some (.slice e)) (h : ARd P σ t x d) :
    ∃ v n cs ds, x = [v] ∧ Sl σ (P.cellsOf e) v n cs ∧ ds.length = n ∧ d = .sl ds ∧ ∀ (i : Nat) (d : Dt), ds[i]? = some d → ARd P σ e ((cs.drop (i * P.cellsOf e)).take (P.cellsOf e)) d := by
  cases h with
  | int h' hz => rw [ht] at h'; cases h'
  | bool h' => rw [ht] at h'; cases h'
  | arr h' _ _ _ => rw [ht] at h'; cases h'
  | str h' _ _ _ => rw [ht] at h'; cases h'
  | sl h' h1 h2 h3 => rw [ht] at h'; cases h'; exact ⟨_, _, _, _, rfl, h1, h2, rfl, h3⟩
theorem ard_arr {t e : TypeId} {n : Nat} {x : List Value} {d : Dt} (ht : P.underlying t = some (.array n e)) (h : ARd P σ t x d) :
    x.length = P.cellsOf t ∧ ∃ ds, ds.length = n ∧ d = .agg ds ∧ ∀ (i : Nat) (d : Dt), ds[i]? = some d → ARd P σ e ((x.drop (i * P.cellsOf e)).take (P.cellsOf e)) d := by
  cases h with
  | int h' hz => rw [ht] at h'; cases h'
  | bool h' => rw [ht] at h'; cases h'
  | arr h' h1 h2 h3 => rw [ht] at h'; cases h'; exact ⟨h1, _, h2, rfl, h3⟩
  | str h' _ _ _ => rw [ht] at h'; cases h'
  | sl h' h1 h2 h3 => rw [ht] at h'; cases h'
theorem ard_str {t : TypeId} {fs : Array Field} {x : List Value} {d : Dt} (ht : P.underlying t = some (.struct fs)) (h : ARd P σ t x d) :
    x.length = P.cellsOf t ∧ ∃ ds, ds.length = fs.size ∧ d = .agg ds ∧ ∀ (i : Nat) (f : Field) (d : Dt), fs[i]? = some f → ds[i]? = some d → ARd P σ f.type ((x.drop f.offset).take (P.cellsOf f.type)) d := by
  cases h with
  | int h' hz => rw [ht] at h'; cases h'
  | bool h' => rw [ht] at h'; cases h'
  | arr h' h1 h2 h3 => rw [ht] at h'; cases h'
  | str h' h1 h2 h3 => rw [ht] at h'; cases h'; exact ⟨h1, _, h2, rfl, h3⟩
  | sl h' h1 h2 h3 => rw [ht] at h'; cases h'

theorem choose_list {α : Type} {p : Nat → α → Prop} : ∀ n, (∀ i, i < n → ∃ x, p i x) → ∃ l : List α, l.length = n ∧ ∀ i (h : i < l.length), p i l[i]
  | 0, _ => ⟨[], rfl, fun i h => by simp at h⟩
  | n + 1, h => by
    obtain ⟨l, h1, h2⟩ := choose_list n fun i hi => h i (by omega)
    obtain ⟨x, hx⟩ := h n (by omega)
    refine ⟨l ++ [x], by simp [h1], fun i hi => ?_⟩
    rcases Nat.lt_or_ge i n with c | c
    · rw [List.getElem_append_left (by omega)]; exact h2 i (by omega)
    · have : i = n := by simp at hi; omega
      subst this
      rw [List.getElem_append_right (by omega)]; simpa [h1] using hx

/-- cells that are bytes -/
theorem bytes_cells (cs : List Value) (h : ∀ i, i < cs.length → ∃ z : Nat, z < 256 ∧ cs[i]? = some (.int .u8 z)) : ∃ l : List Nat, cs = bytesV l ∧ ∀ x ∈ l, x < 256 := by
  induction cs with
  | nil => exact ⟨[], rfl, fun x hx => by cases hx⟩
  | cons c cs ih =>
    obtain ⟨z, h1, h2⟩ := h 0 (by simp)
    obtain ⟨l, h3, h4⟩ := ih fun i hi => by
      obtain ⟨z, p1, p2⟩ := h (i + 1) (by simpa using hi)
      exact ⟨z, p1, by simpa using p2⟩
    simp only [List.getElem?_cons_zero, Option.some.injEq] at h2
    refine ⟨z :: l, by rw [h2, h3]; rfl, fun x hx => ?_⟩
    rcases List.mem_cons.1 hx with rfl | hx
    · exact h1
    · exact h4 x hx

theorem ard_byte {e : TypeId} {c : Value} {d : Dt} (he : P.underlying e = some (.int .u8)) (h : ARd P σ e [c] d) : ∃ z : Nat, z < 256 ∧ c = .int .u8 z := by
  obtain ⟨z, h1, h2, h3⟩ := ard_int he h
  simp [IntKind.min, IntKind.max, IntKind.signed, IntKind.bits] at h2 h3
  refine ⟨z.toNat, by omega, ?_⟩
  rw [List.head_eq_of_cons_eq h1]
  congr 1; omega
theorem piece_one {cs : List Value} {i : Nat} (hi : i < cs.length) : (cs.drop i).take 1 = [cs[i]] := by
  rw [List.drop_eq_getElem_cons hi]; rfl

theorem rows8_of_ard {t e b : TypeId} {v : Value} {d : Dt} (ht : P.underlying t = some (.slice e)) (he : P.underlying e = some (.slice b)) (hb : P.underlying b = some (.int .u8)) (ce : P.cellsOf e = 1) (cb : P.cellsOf b = 1) (h : ARd P σ t [v] d) :
    ∃ dl, Rows8 σ v dl ∧ dl.length + total dl ≤ dtN d := by
  obtain ⟨v', n, cs, ds, h1, h2, h3, rfl, h4⟩ := ard_sl ht h
  obtain rfl : v = v' := List.head_eq_of_cons_eq h1
  rw [ce] at h2 h4
  have hl := h2.len
  have key : ∀ i, i < n → ∃ x : List Nat, ∃ w, cs[i]? = some w ∧ Sl σ 1 w x.length (bytesV x) ∧ ∃ d, ds[i]? = some d ∧ x.length + 1 ≤ dtN d := fun i hi => by
    have hd : i < ds.length := by omega
    have := h4 i ds[i] (List.getElem?_eq_getElem hd)
    rw [Nat.mul_one, piece_one (by omega)] at this
    obtain ⟨l, p1, _, es, p2, p3⟩ := bytes_of_ard he hb cb this
    refine ⟨l, cs[i]'(by omega), List.getElem?_eq_getElem (by omega), p1, ds[i], List.getElem?_eq_getElem hd, ?_⟩
    have := dtNs_len es
    rw [p2, dtN]; omega
  obtain ⟨dl, q1, q2⟩ := choose_list n key
  subst q1
  refine ⟨dl, ⟨cs, h2, fun i hi => ?_⟩, ?_⟩
  · obtain ⟨w, r1, r2, _⟩ := q2 i hi
    exact ⟨w, r1, r2⟩
  · have sums : ∀ (dl : List (List Nat)) (ds : List Dt), ds.length = dl.length → (∀ i (h : i < dl.length), ∃ d, ds[i]? = some d ∧ dl[i].length + 1 ≤ dtN d) → dl.length + total dl ≤ dtNs ds := by
      intro dl
      induction dl with
      | nil => intro ds _ _; simp [total]
      | cons x dl ih =>
        intro ds hl hh
        cases ds with
        | nil => simp at hl
        | cons d ds =>
          have h1 := ih ds (by simpa using hl) fun i hi => by
            obtain ⟨d', r1, r2⟩ := hh (i + 1) (by simpa using hi)
            exact ⟨d', by simpa using r1, by simpa using r2⟩
          obtain ⟨d', r1, r2⟩ := hh 0 (by simp)
          simp only [List.getElem?_cons_zero, Option.some.injEq] at r1
          subst r1
          have : total (x :: dl) = x.length + total dl := by simp [total]
          simp only [dtNs, List.length_cons]
          simp only [List.getElem_cons_zero] at r2
          omega
    have := sums dl ds h3 fun i hi => by
      obtain ⟨w, _, _, d, r1, r2⟩ := q2 i hi
      exact ⟨d, r1, r2⟩
    rw [dtN]; omega

theorem u64s_of_ard {t e : TypeId} {v : Value} {d : Dt} (ht : P.underlying t = some (.slice e)) (he : P.underlying e = some (.int .u64)) (ce : P.cellsOf e = 1) (h : ARd P σ t [v] d) :
    ∃ ls : List Nat, Sl σ 1 v ls.length (intsV .u64 ls) ∧ (∀ x ∈ ls, x < 18446744073709551616) ∧ ls.length ≤ dtN d := by
  obtain ⟨v', n, cs, ds, h1, h2, h3, rfl, h4⟩ := ard_sl ht h
  obtain rfl : v = v' := List.head_eq_of_cons_eq h1
  rw [ce] at h2 h4
  have hl := h2.len
  have key : ∀ i, i < n → ∃ x : Nat, x < 18446744073709551616 ∧ cs[i]? = some (.int .u64 x) := fun i hi => by
    have hd : i < ds.length := by omega
    have := h4 i ds[i] (List.getElem?_eq_getElem hd)
    rw [Nat.mul_one, piece_one (by omega)] at this
    obtain ⟨z, p1, p2, p3⟩ := ard_int he this
    simp [IntKind.min, IntKind.max, IntKind.signed, IntKind.bits] at p2 p3
    refine ⟨z.toNat, by omega, ?_⟩
    rw [List.getElem?_eq_getElem (by omega), List.head_eq_of_cons_eq p1]
    congr 2; omega
  obtain ⟨ls, q1, q2⟩ := choose_list n key
  subst q1
  have hcs : cs = intsV .u64 ls := by
    refine List.ext_getElem? fun i => ?_
    rcases Nat.lt_or_ge i ls.length with c | c
    · rw [(q2 i c).2]; simp [intsV, c]
    · rw [List.getElem?_eq_none (by omega), List.getElem?_eq_none (by simpa [intsV] using c)]
  refine ⟨ls, by rw [← hcs]; exact h2, fun x hx => ?_, ?_⟩
  · obtain ⟨i, hi, rfl⟩ := List.getElem_of_mem hx
    exact (q2 i hi).1
  · have := dtNs_len ds
    rw [dtN]; omega
end
end Go.Proofs.YtlbhfjnlpfaioaaGreatDoor
/- From a reading of a proof to its data. -/
namespace Go.Proofs.YtlbhfjnlpfaioaaGreatDoor
open Go Go.Eng
section
variable {P : Program} {σ : AHeap}
theorem chunks_flat : ∀ (gs : List (List Nat)) (cs : List Value), cs.length = gs.length * 33 → (∀ i (h : i < gs.length), (cs.drop (i * 33)).take 33 = bytesV gs[i]) → cs = (gs.map bytesV).flatten
  | [], cs, hl, _ => by
    have : cs = [] := List.length_eq_zero_iff.1 (by simpa using hl)
    simp [this]
  | g :: gs, cs, hl, h => by
    have h0 := h 0 (by simp)
    have ih := chunks_flat gs (cs.drop 33) (by rw [List.length_drop, hl, List.length_cons, Nat.succ_mul]; omega) fun i hi => by
      have := h (i + 1) (by simpa using hi)
      rw [Nat.succ_mul] at this
      rw [List.drop_drop, Nat.add_comm]; simpa using this
    rw [Nat.zero_mul, List.drop_zero] at h0
    rw [List.map_cons, List.flatten_cons, ← ih]
    have := List.take_append_drop 33 cs
    rw [h0] at this
    exact this.symm

theorem given_cells {b h e : TypeId} {fs : Array Field} {f0 f1 : Field} {x : List Value} {d : Dt} (he : P.underlying e = some (.struct fs)) (hsz : fs.size = 2) (h0 : fs[0]? = some f0) (h1 : fs[1]? = some f1) (t0 : f0.type = b) (o0 : f0.offset = 0) (t1 : f1.type = h) (o1 : f1.offset = 1)
    (hb : P.underlying b = some (.int .u8)) (hh : P.underlying h = some (.array 32 b)) (cb : P.cellsOf b = 1) (ch : P.cellsOf h = 32) (ce : P.cellsOf e = 33) (ha : ARd P σ e x d) : ∃ g : List Nat, x = bytesV g ∧ ∃ k t, g = k :: t ∧ t.length = 32 := by
  obtain ⟨hx, ds, hd, rfl, hf⟩ := ard_str he ha
  rw [ce] at hx
  have a0 := hf 0 f0 ds[0] h0 (List.getElem?_eq_getElem (by omega))
  have a1 := hf 1 f1 ds[1] h1 (List.getElem?_eq_getElem (by omega))
  rw [t0, o0, cb, piece_one (by omega)] at a0
  rw [t1, o1, ch] at a1
  obtain ⟨z0, hz0, e0⟩ := ard_byte hb a0
  obtain ⟨_, es, hes, _, hg⟩ := ard_arr hh a1
  have hl1 : ((x.drop 1).take 32).length = 32 := by simp; omega
  obtain ⟨g, hgx, _⟩ := bytes_cells x fun i hi => by
    cases i with
    | zero => exact ⟨z0, hz0, by rw [List.getElem?_eq_getElem (by omega)]; exact congrArg some e0⟩
    | succ i =>
      have := hg i es[i] (List.getElem?_eq_getElem (by omega))
      rw [cb, Nat.mul_one, piece_one (by omega)] at this
      obtain ⟨z, hz, e⟩ := ard_byte hb this
      refine ⟨z, hz, ?_⟩
      rw [List.getElem_take, List.getElem_drop] at e
      rw [List.getElem?_eq_getElem hi, ← e]
      congr 2; omega
  refine ⟨g, hgx, ?_⟩
  have hgl : g.length = 33 := by rw [hgx, bytesV_length] at hx; exact hx
  cases g with
  | nil => simp at hgl
  | cons k t => exact ⟨k, t, rfl, by simpa using hgl⟩

theorem gs_of_ard {t b h e : TypeId} {fs : Array Field} {f0 f1 : Field} {v : Value} {d : Dt} (ht : P.underlying t = some (.slice e)) (he : P.underlying e = some (.struct fs)) (hsz : fs.size = 2) (h0 : fs[0]? = some f0) (h1 : fs[1]? = some f1) (t0 : f0.type = b) (o0 : f0.offset = 0) (t1 : f1.type = h) (o1 : f1.offset = 1)
    (hb : P.underlying b = some (.int .u8)) (hh : P.underlying h = some (.array 32 b)) (cb : P.cellsOf b = 1) (ch : P.cellsOf h = 32) (ce : P.cellsOf e = 33) (ha : ARd P σ t [v] d) :
    ∃ gs : List (List Nat), Sl σ 33 v gs.length (bytesV gs.flatten) ∧ GsOk gs ∧ gs.length ≤ dtN d := by
  obtain ⟨v', n, cs, ds, p1, p2, p3, rfl, p4⟩ := ard_sl ht ha
  obtain rfl : v = v' := List.head_eq_of_cons_eq p1
  rw [ce] at p2 p4
  have hl := p2.len
  have key : ∀ i, i < n → ∃ g : List Nat, (cs.drop (i * 33)).take 33 = bytesV g ∧ ∃ k t, g = k :: t ∧ t.length = 32 := fun i hi => by
    have := p4 i (ds[i]'(by omega)) (List.getElem?_eq_getElem (by omega))
    exact given_cells he hsz h0 h1 t0 o0 t1 o1 hb hh cb ch ce this
  obtain ⟨gs, q1, q2⟩ := choose_list n key
  subst q1
  have hcs := chunks_flat gs cs hl fun i hi => (q2 i hi).1
  refine ⟨gs, by rw [bytesV_flat, ← hcs]; exact p2, fun g hg => ?_, ?_⟩
  · obtain ⟨i, hi, rfl⟩ := List.getElem_of_mem hg
    exact (q2 i hi).2
  · have := dtNs_len ds
    rw [dtN]; omega
end
end Go.Proofs.YtlbhfjnlpfaioaaGreatDoor
