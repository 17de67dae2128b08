/- The engine with open data: slicing, making, storing, appending. -/
import Derived.Test.YtlbhfjnlpfaioaaGreatDoorEngY1
namespace Go.Eng
open Go
variable {P : Program} {G n : Nat} {t : Tr Value}

theorem srcSl_sl {σ : AHeap} {es : Nat} {v : Value} {n : Nat} {cs : List Value} (h : Sl σ es v n cs) : srcSl es σ v = some (n, cs) := by
  show ob (lenA v) (fun n => ob (firstA σ es n v) fun c => some (n, c)) = _
  rw [lenA_sl h, ob_some, h.src n (Nat.le_refl _), ob_some, ← h.len, List.take_length]

/- bounds -/
def LoV (lo : Option Value) (l : Nat) : Prop := (lo = none ∧ l = 0) ∨ ∃ k, lo = some (.int k l)
def HiV (hi : Option Value) (h n : Nat) : Prop := (hi = none ∧ h = n) ∨ ∃ k, hi = some (.int k h)
theorem LoV.none : LoV none 0 := .inl ⟨rfl, rfl⟩
theorem LoV.int {k : IntKind} {l : Nat} : LoV (some (.int k l)) l := .inr ⟨k, rfl⟩
theorem HiV.none {n : Nat} : HiV none n n := .inl ⟨rfl, rfl⟩
theorem HiV.int {k : IntKind} {h n : Nat} : HiV (some (.int k h)) h n := .inr ⟨k, rfl⟩
theorem aBound_eq {k : IntKind} {y l : Nat} (h : l ≤ y) : aBound y (.int k l) = some l := by
  show ifb (Nat.ble l y) (some l) none = _
  rw [Nat.ble_eq_true_of_le h]; rfl
theorem aLow_eq {lo : Option Value} {l h : Nat} (hl : LoV lo l) (hle : l ≤ h) : aLow h lo = some l := by
  rcases hl with ⟨rfl, rfl⟩ | ⟨k, rfl⟩
  · rfl
  · exact aBound_eq hle
theorem aHigh_eq {hi : Option Value} {h n y : Nat} (hh : HiV hi h n) (hn : n ≤ y) (hle : h ≤ y) : aHigh n y hi = some h := by
  rcases hh with ⟨rfl, rfl⟩ | ⟨k, rfl⟩
  · show ifb (Nat.ble h y) _ _ = _
    rw [Nat.ble_eq_true_of_le hn]; rfl
  · exact aBound_eq hle

theorem at_eq (b off l size m : Nat) : ∃ o, at_ b off l size m = some ⟨b, o, none⟩ ∧ (m ≠ l → o = off + l * size) := by
  unfold at_
  cases h : Nat.beq m l
  · exact ⟨_, rfl, fun _ => rfl⟩
  · exact ⟨off, rfl, fun e => absurd (Nat.eq_of_beq_eq_true h) e⟩

theorem Sl.slice {σ : AHeap} {es : Nat} {v : Value} {n : Nat} {cs : List Value} (hs : Sl σ es v n cs) {lo hi : Option Value} {l h : Nat} (hlo : LoV lo l) (hhi : HiV hi h n) (hlh : l ≤ h) (hn : h ≤ n) :
    ∃ v', slSl es σ v lo hi .none = some v' ∧ Sl σ es v' (h - l) ((cs.drop (l * es)).take ((h - l) * es)) ∧ (blk v' = blk v ∨ v' = emptyMark) := by
  have hmul : h * es ≤ n * es := Nat.mul_le_mul_right _ hn
  have hmul' : l * es ≤ h * es := Nat.mul_le_mul_right _ hlh
  have hsub : (h - l) * es = h * es - l * es := Nat.sub_mul _ _ _
  cases hs with
  | nil =>
    obtain rfl : h = 0 := by omega
    obtain rfl : l = 0 := by omega
    refine ⟨.slice .none 0 0, ?_, by simpa using Sl.nil, .inl rfl⟩
    show ob (aHigh 0 0 hi) (fun h => ob (aLow h lo) fun _ => some (Value.slice .none 0 0)) = _
    rw [aHigh_eq hhi (Nat.le_refl _) (Nat.le_refl _), ob_some, aLow_eq hlo (Nat.le_refl _)]; rfl
  | mark =>
    obtain rfl : h = 0 := by omega
    obtain rfl : l = 0 := by omega
    refine ⟨emptyMark, ?_, by simpa using Sl.mark, .inl rfl⟩
    show ob (aHigh 0 0 hi) (fun h => ob (aLow h lo) fun _ => some emptyMark) = _
    rw [aHigh_eq hhi (Nat.le_refl _) (Nat.le_refl _), ob_some, aLow_eq hlo (Nat.le_refl _)]; rfl
  | exact hc hn' hb hg hl =>
    rename_i b off cap c k
    obtain ⟨o, e1, e2⟩ := at_eq b off l es cap
    refine ⟨.slice (some ⟨b, o, .none⟩) (h - l) (cap - l), ?_, ?_, .inl rfl⟩
    · show ifb (Nat.blt cap BIG) (slExact es b off n cap lo hi .none) _ = _
      have : Nat.blt cap BIG = true := by rw [Nat.blt_eq]; exact hc
      rw [this, ifb_true]
      show ob (aHigh n cap hi) (fun h => ob (aLow h lo) fun l => some (Value.slice (at_ b off l es cap) (h - l) (cap - l))) = _
      rw [aHigh_eq hhi hn' (by omega), ob_some, aLow_eq hlo hlh, ob_some, e1]
    · by_cases hcl : cap = l
      · obtain rfl : h = l := by omega
        simp only [Nat.sub_self, Nat.zero_mul, List.take_zero]
        have := Sl.exact (σ := σ) (es := es) (b := b) (off := 0) (n := 0) (cap := cap - h) (by omega) (by omega) hb hg (by simp)
        by_cases ho : o ≤ c.length
        · have := Sl.exact (σ := σ) (es := es) (b := b) (off := o) (n := 0) (cap := cap - h) (by omega) (by omega) hb hg (by simpa using ho)
          simpa using this
        · exfalso
          unfold at_ at e1
          have : Nat.beq cap h = true := by rw [hcl]; exact Nat.beq_refl h
          rw [this] at e1
          have := Option.some.inj (show some _ = some _ from e1)
          injection this with _ q _
          omega
      · rw [e2 hcl]
        have := Sl.exact (σ := σ) (es := es) (b := b) (off := off + l * es) (n := h - l) (cap := cap - l) (by omega) (by omega) hb hg (by omega)
        rw [List.drop_take, List.take_take, List.drop_drop, Nat.min_eq_left (by omega)]
        exact this
  | grown hb hg he hne hl =>
    rename_i b kk c
    rw [Nat.add_mul] at hl
    have hkn : kk + n ≤ c.length / es := (Nat.le_div_iff_mul_le he).2 (by rw [Nat.add_mul]; exact hl)
    have hk : known σ b es = some (c.length / es) := by
      show ob (σ.get b) (fun x => cl x fun c k => match k with
        | .grow es' => ifb (Nat.beq es es' && Nat.blt 0 es) (some (c.length / es)) Option.none
        | _ => Option.none) = _
      rw [hg, ob_some]
      show ifb (Nat.beq es es && Nat.blt 0 es) _ _ = _
      have : Nat.blt 0 es = true := by rw [Nat.blt_eq]; exact he
      rw [Nat.beq_refl, this]; rfl
    have hbig : Nat.blt (BIG + kk) BIG = false := by
      cases q : Nat.blt (BIG + kk) BIG
      · rfl
      · rw [Nat.blt_eq] at q; omega
    have e0 : slSl es σ (.slice (some ⟨b, kk * es, .none⟩) n (BIG + kk)) lo hi .none = ifb (Nat.beq l h && !(Nat.beq l 0) && !(Nat.blt (kk + l) (c.length / es))) (some emptyMark) (some (.slice (some ⟨b, kk * es + l * es, .none⟩) (h - l) (BIG + (kk + l)))) := by
      show ifb (Nat.blt (BIG + kk) BIG) _ (slGrow σ es b (kk * es) n (BIG + kk - BIG) lo hi .none) = _
      rw [hbig, ifb_false, Nat.add_sub_cancel_left]
      show ob (known σ b es) (fun kn => ob (aHigh n (kn - kk) hi) fun h => ob (aLow h lo) fun l =>
        ifb (Nat.ble (kk + h) kn) (ifb (Nat.beq l h && !(Nat.beq l 0) && !(Nat.blt (kk + l) kn)) (some emptyMark) (some (.slice (some ⟨b, kk * es + l * es, .none⟩) (h - l) (BIG + (kk + l))))) Option.none) = _
      rw [hk, ob_some, aHigh_eq hhi (by omega) (by omega), ob_some, aLow_eq hlo hlh, ob_some, Nat.ble_eq_true_of_le (by omega), ifb_true]
    rw [e0]
    cases hq : (Nat.beq l h && !(Nat.beq l 0) && !(Nat.blt (kk + l) (c.length / es)))
    · refine ⟨_, rfl, ?_, .inl rfl⟩
      rw [← Nat.add_mul]
      have := Sl.grown (σ := σ) (es := es) (b := b) (kk := kk + l) (n := h - l) hb hg he hne (by rw [Nat.add_mul, Nat.add_mul]; omega)
      rw [List.drop_take, List.take_take, List.drop_drop, Nat.min_eq_left (by omega), ← Nat.add_mul]
      exact this
    · refine ⟨_, rfl, ?_, .inr rfl⟩
      simp only [Bool.and_eq_true] at hq
      obtain rfl := Nat.eq_of_beq_eq_true hq.1.1
      simpa using Sl.mark

theorem Sl.slice3 {σ : AHeap} {es : Nat} {v : Value} {n : Nat} {cs : List Value} (hs : Sl σ es v n cs) {lo : Option Value} {k1 k2 : IntKind} {l h m : Nat} (hlo : LoV lo l) (hlh : l ≤ h) (hm : h ≤ m) (hn : m ≤ n) (hnb : n < BIG) :
    ∃ v', slSl es σ v lo (some (.int k1 h)) (some (.int k2 m)) = some v' ∧ Sl σ es v' (h - l) ((cs.drop (l * es)).take ((h - l) * es)) ∧ blk v' = blk v := by
  have hmul : h * es ≤ m * es := Nat.mul_le_mul_right _ hm
  have hmul0 : m * es ≤ n * es := Nat.mul_le_mul_right _ hn
  have hmul' : l * es ≤ h * es := Nat.mul_le_mul_right _ hlh
  have hsub : (h - l) * es = h * es - l * es := Nat.sub_mul _ _ _
  have fin : ∀ {b off : Nat} {c : List Value} {kd : AKind}, b < σ.next → σ.get b = some (.cells c kd) → off + n * es ≤ c.length →
      Sl σ es (.slice (at_ b off l es m) (h - l) (m - l)) (h - l) ((((c.drop off).take (n * es)).drop (l * es)).take ((h - l) * es)) ∧ blk (.slice (at_ b off l es m) (h - l) (m - l)) = some b := by
    intro b off c kd hb hg hl
    obtain ⟨o, e1, e2⟩ := at_eq b off l es m
    rw [e1]
    refine ⟨?_, rfl⟩
    by_cases hcl : m = l
    · obtain rfl : h = l := by omega
      have ho : o ≤ c.length := by
        unfold at_ at e1
        have : Nat.beq m h = true := by rw [hcl]; exact Nat.beq_refl h
        rw [this] at e1
        have := Option.some.inj (show some _ = some _ from e1)
        injection this with _ q _
        omega
      have := Sl.exact (σ := σ) (es := es) (b := b) (off := o) (n := 0) (cap := m - h) (by omega) (by omega) hb hg (by simpa using ho)
      simpa using this
    · rw [e2 hcl]
      have := Sl.exact (σ := σ) (es := es) (b := b) (off := off + l * es) (n := h - l) (cap := m - l) (by omega) (by omega) hb hg (by omega)
      rw [List.drop_take, List.take_take, List.drop_drop, Nat.min_eq_left (by omega)]
      exact this
  cases hs with
  | nil =>
    obtain rfl : m = 0 := by omega
    obtain rfl : h = 0 := by omega
    obtain rfl : l = 0 := by omega
    refine ⟨.slice .none 0 0, ?_, by simpa using Sl.nil, rfl⟩
    show ob (aBound 0 (.int k2 (0 : Nat))) (fun m => ob (aBound m (.int k1 (0 : Nat))) fun h => ob (aLow h lo) fun _ => some (Value.slice .none 0 0)) = _
    rw [aBound_eq (Nat.le_refl _), ob_some, aBound_eq (Nat.le_refl _), ob_some, aLow_eq hlo (Nat.le_refl _)]; rfl
  | mark =>
    obtain rfl : m = 0 := by omega
    obtain rfl : h = 0 := by omega
    obtain rfl : l = 0 := by omega
    refine ⟨emptyMark, ?_, by simpa using Sl.mark, rfl⟩
    show ob (aBound 0 (.int k2 (0 : Nat))) (fun m => ob (aBound m (.int k1 (0 : Nat))) fun h => ob (aLow h lo) fun _ => some emptyMark) = _
    rw [aBound_eq (Nat.le_refl _), ob_some, aBound_eq (Nat.le_refl _), ob_some, aLow_eq hlo (Nat.le_refl _)]; rfl
  | exact hc hn' hb hg hl =>
    rename_i b off cap c k
    obtain ⟨f1, f2⟩ := fin hb hg hl
    refine ⟨_, ?_, f1, f2⟩
    show ifb (Nat.blt cap BIG) (slExact es b off n cap lo (some (.int k1 h)) (some (.int k2 m))) _ = _
    have : Nat.blt cap BIG = true := by rw [Nat.blt_eq]; exact hc
    rw [this, ifb_true]
    show ob (aBound cap (.int k2 m)) (fun m => ob (aBound m (.int k1 h)) fun h => ob (aLow h lo) fun l => some (Value.slice (at_ b off l es m) (h - l) (m - l))) = _
    rw [aBound_eq (by omega), ob_some, aBound_eq hm, ob_some, aLow_eq hlo hlh]; rfl
  | grown hb hg he hne hl =>
    rename_i b kk c
    rw [Nat.add_mul] at hl
    have hkn : kk + n ≤ c.length / es := (Nat.le_div_iff_mul_le he).2 (by rw [Nat.add_mul]; exact hl)
    have hk : known σ b es = some (c.length / es) := by
      show ob (σ.get b) (fun x => cl x fun c k => match k with
        | .grow es' => ifb (Nat.beq es es' && Nat.blt 0 es) (some (c.length / es)) Option.none
        | _ => Option.none) = _
      rw [hg, ob_some]
      show ifb (Nat.beq es es && Nat.blt 0 es) _ _ = _
      have : Nat.blt 0 es = true := by rw [Nat.blt_eq]; exact he
      rw [Nat.beq_refl, this]; rfl
    have hbig : Nat.blt (BIG + kk) BIG = false := by
      cases q : Nat.blt (BIG + kk) BIG
      · rfl
      · rw [Nat.blt_eq] at q; omega
    have h1 : 0 < c.length / es := Nat.div_pos hne he
    obtain ⟨f1, f2⟩ := fin hb hg hl
    refine ⟨_, ?_, f1, f2⟩
    show ifb (Nat.blt (BIG + kk) BIG) _ (slGrow σ es b (kk * es) n (BIG + kk - BIG) lo (some (.int k1 h)) (some (.int k2 m))) = _
    rw [hbig, ifb_false, Nat.add_sub_cancel_left]
    show ob (known σ b es) (fun kn => ob (aBound (kn - kk) (.int k2 m)) fun m => ob (aBound m (.int k1 h)) fun h => ob (aLow h lo) fun l =>
        ifb (Nat.ble (kk + m) kn && Nat.blt m BIG && Nat.blt 0 kn) (some (Value.slice (at_ b (kk * es) l es m) (h - l) (m - l))) Option.none) = _
    rw [hk, ob_some, aBound_eq (by omega), ob_some, aBound_eq hm, ob_some, aLow_eq hlo hlh, ob_some]
    have q1 : Nat.blt m BIG = true := by rw [Nat.blt_eq]; omega
    have q2 : Nat.blt 0 (c.length / es) = true := by rw [Nat.blt_eq]; exact h1
    rw [Nat.ble_eq_true_of_le (by omega), q1, q2]; rfl

/- making -/
theorem cyc_one {z : Value} : ∀ (n : Nat) (l : List Value), l = [] ∨ l = [z] → cyc [z] n l = List.replicate n z
  | 0, _, _ => rfl
  | n + 1, l, h => by
    rcases h with rfl | rfl
    · show z :: cyc [z] n [] = _
      rw [cyc_one n [] (.inl rfl)]; rfl
    · show z :: cyc [z] n [] = _
      rw [cyc_one n [] (.inl rfl)]; rfl
theorem cyc_len {z : List Value} (hz : z ≠ []) : ∀ (n : Nat) (l : List Value), (cyc z n l).length = n
  | 0, _ => rfl
  | n + 1, v :: l => by
    show (v :: cyc z n l).length = _
    simp [cyc_len hz n l]
  | n + 1, [] => by
    cases z with
    | nil => exact absurd rfl hz
    | cons v z =>
      show (v :: cyc (v :: z) n z).length = _
      simp [cyc_len hz n z]
theorem mks_eq {z : List Value} {size bytes : Nat} {σ : AHeap} {k k' : IntKind} {l c : Nat} (h1 : bytes * c ≤ 281474976710656) (h2 : l ≤ c) (h3 : c < 9223372036854775808) :
    mks z size bytes σ (.int k l) (.int k' c) = some (.val (.slice (some ⟨σ.next, 0, .none⟩) l c) (σ.push (.cells (cyc z (c * size) z) .own))) := by
  show ifb (Nat.ble (bytes * c) 281474976710656 && Nat.ble l c && Nat.blt c 9223372036854775808) (Go.Eng.push σ _ _) none = _
  have : Nat.blt c 9223372036854775808 = true := by rw [Nat.blt_eq]; exact h3
  rw [Nat.ble_eq_true_of_le h1, Nat.ble_eq_true_of_le h2, this]
  rfl

/- storing -/
theorem allL_of {α : Type} (p : α → Bool) : ∀ (l : List α), (∀ x ∈ l, p x = true) → allL p l = true
  | [], _ => rfl
  | x :: l, h => by
    show ifb (p x) (allL p l) false = true
    rw [h x (.head _)]; exact allL_of p l fun y hy => h y (.tail _ hy)
theorem storeN_eq {σ : AHeap} {b o m : Nat} {v : Value} {c vs : List Value} {k : AKind} (hg : σ.get b = some (.cells c k)) (hv : v.cells.toList = vs) (hl : vs.length = m) (hw : writable k = true) (ho : o + m ≤ c.length) (h1 : ∀ x ∈ vs, oneV x = true) :
    storeN m σ (.pointer (some ⟨b, o, .none⟩)) v = some (σ.set b (some (.cells (c.take o ++ vs ++ c.drop (o + m)) k))) := by
  show ob (σ.get b) (fun x => cl x fun c k => (fun vs => ifb (Nat.beq vs.length m) (ifb (writable k) (ifb (hasLen (o + m) c) (ifb (allL oneV vs) (some (σ.set b (some (.cells (splice o vs c) k)))) none) none) none) none) v.cells.toList) = _
  rw [hg, ob_some]
  show (fun vs => ifb (Nat.beq vs.length m) (ifb (writable k) (ifb (hasLen (o + m) c) (ifb (allL oneV vs) (some (σ.set b (some (.cells (splice o vs c) k)))) none) none) none) none) v.cells.toList = _
  rw [hv]
  show ifb (Nat.beq vs.length m) _ _ = _
  rw [hl, Nat.beq_refl, hw, hasLen_of _ _ ho, allL_of _ _ h1, splice_eq o vs c (by omega), hl]
  rfl

/- appending: a slice of one's own -/
inductive Own (σ : AHeap) (n0 es : Nat) : Value → Nat → List Value → Prop
  | nil : Own σ n0 es (.slice none 0 0) 0 []
  | grown {b n : Nat} {c : List Value} (h0 : n0 ≤ b) (hb : b < σ.next) (h : σ.get b = some (.cells c (.grow es))) (hn : 0 < n) (hl : c.length = n * es) : Own σ n0 es (.slice (some ⟨b, 0, none⟩) n (BIG + 0)) n c
  | exact {b n cap : Nat} {c : List Value} (hc : cap ≤ 67108864) (hn : n ≤ cap) (h0 : n0 ≤ b) (hb : b < σ.next) (h : σ.get b = some (.cells c .own)) (hl : c.length = cap * es) : Own σ n0 es (.slice (some ⟨b, 0, none⟩) n cap) n (c.take (n * es))
theorem Own.sl {σ : AHeap} {n0 es : Nat} {v : Value} {n : Nat} {cs : List Value} (h : Own σ n0 es v n cs) (he : 0 < es) : Sl σ es v n cs := by
  cases h with
  | nil => exact .nil
  | grown h0 hb h hn hl =>
    have e : es ≤ n * es := Nat.le_mul_of_pos_left _ hn
    have := Sl.grown (σ := σ) (es := es) (kk := 0) (n := n) hb h he (by omega) (by simp; omega)
    simp only [Nat.zero_mul, List.drop_zero, ← hl, List.take_length] at this
    exact this
  | exact hc hn h0 hb h hl =>
    rename_i b cap c
    have := Sl.exact (σ := σ) (es := es) (b := b) (off := 0) (n := n) (cap := cap) (by unfold BIG; omega) hn hb h (by rw [hl]; simpa using Nat.mul_le_mul_right es hn)
    simpa using this
theorem Own.ne_mark {σ : AHeap} {n0 es : Nat} {v : Value} {n : Nat} {cs : List Value} (h : Own σ n0 es v n cs) : v ≠ emptyMark := by
  intro e
  rw [e] at h
  cases h
theorem Own.ext {B : Option Nat} {σ σ' : AHeap} {n0 es : Nat} {v : Value} {n : Nat} {cs : List Value} (h : Own σ n0 es v n cs) (e : Ext B σ σ') (hB : B = none ∨ blk v ≠ B) : Own σ' n0 es v n cs := by
  have key : ∀ b, b < σ.next → (B = none ∨ some b ≠ B) → σ'.get b = σ.get b := fun b hb hB => e.get b hb (hB.elim (fun q => by rw [q]; simp) fun q => q.symm)
  cases h with
  | nil => exact .nil
  | grown h0 hb h hn hl => exact .grown h0 (Nat.lt_of_lt_of_le hb e.up) (by rw [key _ hb hB]; exact h) hn hl
  | exact hc hn h0 hb h hl => exact .exact hc hn h0 (Nat.lt_of_lt_of_le hb e.up) (by rw [key _ hb hB]; exact h) hl
theorem Own.len {σ : AHeap} {n0 es : Nat} {v : Value} {n : Nat} {cs : List Value} (h : Own σ n0 es v n cs) (he : 0 < es) : cs.length = n * es := (h.sl he).len

theorem capOk_of {need bytes : Nat} (h : need ≤ 67108864) (hb : bytes ≤ 4096) : capOk need bytes = true := by
  refine Nat.ble_eq_true_of_le ?_
  have := Nat.mul_le_mul h hb
  omega
theorem fresh_eq {σ : AHeap} {es len : Nat} {c : List Value} : fresh σ es len c = some (.val (.slice (some ⟨σ.next, 0, .none⟩) len (BIG + 0)) (σ.push (.cells c (.grow es)))) := rfl

theorem app_own {σ : AHeap} {n0 es bytes : Nat} {v : Value} {n : Nat} {cs : List Value} (h : Own σ n0 es v n cs) (hb : bytes ≤ 4096) (hn0 : n0 ≤ σ.next) {m : Nat} {new : List Value} (hm : new.length = m * es) (h1 : ∀ x ∈ new, oneV x = true) (hnm : n + m ≤ 67108864) :
    ∃ v' σ', appAt es bytes σ v m new = some (.val v' σ') ∧ Own σ' n0 es v' (n + m) (cs ++ new) ∧ Ext (blk v) σ σ' ∧ (blk v' = blk v ∨ ∃ b, blk v' = some b ∧ σ.next ≤ b) := by
  have hcap := capOk_of hnm hb
  cases h with
  | nil =>
    by_cases h0 : m = 0
    · subst h0
      obtain rfl : new = [] := List.length_eq_zero_iff.1 (by simpa using hm)
      exact ⟨_, _, rfl, .nil, .refl _, .inl rfl⟩
    · refine ⟨.slice (some ⟨σ.next, 0, .none⟩) m (BIG + 0), σ.push (.cells new (.grow es)), ?_, ?_, .push, .inr ⟨σ.next, rfl, Nat.le_refl _⟩⟩
      · show ifb (Nat.beq m 0) _ (ifb (capOk m bytes) (fresh σ es m new) none) = _
        have : Nat.beq m 0 = false := by
          cases q : Nat.beq m 0
          · rfl
          · exact absurd (Nat.eq_of_beq_eq_true q) h0
        rw [Nat.zero_add] at hcap
        rw [this, hcap]; rfl
      · rw [Nat.zero_add, List.nil_append]
        exact .grown hn0 (by rw [AHeap.next_push]; omega) (by rw [AHeap.get_push, if_pos rfl]) (by omega) hm
  | grown h0 hbn hg hn hl =>
    rename_i b
    refine ⟨.slice (some ⟨σ.next, 0, .none⟩) (n + m) (BIG + 0), ((σ.set b none).push (.cells (cs ++ new) (.grow es))), ?_, ?_, ?_, .inr ⟨σ.next, rfl, Nat.le_refl _⟩⟩
    · show ob (σ.get b) (fun x => cl x fun c k => ob (sub c 0 (n * es)) fun old => ifb (Nat.blt (BIG + 0) BIG) _ (appGrow σ es bytes b 0 n (BIG + 0 - BIG) k old m new)) = _
      rw [hg, ob_some]
      show ob (sub cs 0 (n * es)) _ = _
      rw [sub_eq (by omega), ob_some]
      have hbig : Nat.blt (BIG + 0) BIG = false := by
        cases q : Nat.blt (BIG + 0) BIG
        · rfl
        · rw [Nat.blt_eq] at q; omega
      rw [hbig, ifb_false]
      show ifb (Nat.beq es es && Nat.beq 0 ((BIG + 0 - BIG) * es) && allL oneV new && capOk (n + m) bytes) (fresh (σ.set b none) es (n + m) (((cs.drop 0).take (n * es)) ++ new)) none = _
      rw [Nat.beq_refl, allL_of _ _ h1, hcap, List.drop_zero, ← hl, List.take_length]
      have : Nat.beq 0 ((BIG + 0 - BIG) * es) = true := by simp
      rw [this]; rfl
    · exact .grown (Nat.le_trans hn0 (Nat.le_refl _)) (by rw [AHeap.next_push, AHeap.next_set]; exact Nat.lt_succ_self _) (by rw [AHeap.get_push, AHeap.next_set, if_pos rfl]) (by omega) (by rw [List.length_append, hl, hm, Nat.add_mul])
    · exact (Ext.set hbn).trans .push
  | exact hc hn h0 hbn hg hl =>
    rename_i b cap c
    have hmul : n * es ≤ cap * es := Nat.mul_le_mul_right _ hn
    have e0 : appAt es bytes σ (.slice (some ⟨b, 0, .none⟩) n cap) m new = appExact σ es bytes b 0 n cap c .own ((c.drop 0).take (n * es)) m new := by
      show ob (σ.get b) (fun x => cl x fun c k => ob (sub c 0 (n * es)) fun old => ifb (Nat.blt cap BIG) (appExact σ es bytes b 0 n cap c k old m new) _) = _
      rw [hg, ob_some]
      show ob (sub c 0 (n * es)) _ = _
      have : Nat.blt cap BIG = true := by rw [Nat.blt_eq]; unfold BIG; omega
      rw [sub_eq (by omega), ob_some, this, ifb_true]
    rw [e0]
    by_cases hroom : n + m ≤ cap
    · have hmul2 : (n + m) * es ≤ cap * es := Nat.mul_le_mul_right _ hroom
      rw [Nat.add_mul] at hmul2
      refine ⟨.slice (some ⟨b, 0, .none⟩) (n + m) cap, σ.set b (some (.cells (c.take (n * es) ++ new ++ c.drop (n * es + new.length)) .own)), ?_, ?_, .set hbn, .inl rfl⟩
      · show ifb (Nat.ble (n + m) cap) (ifb (writable .own && hasLen (0 + (n + m) * es) c && allL oneV new && capOk (n + m) bytes) (some (AR.val (Value.slice (some ⟨b, 0, .none⟩) (n + m) cap) (σ.set b (some (.cells (splice (0 + n * es) new c) .own))))) none) _ = _
        rw [Nat.ble_eq_true_of_le hroom, ifb_true, hasLen_of _ _ (by rw [Nat.add_mul]; omega), allL_of _ _ h1, hcap, splice_eq _ _ _ (by omega), Nat.zero_add]; rfl
      · have := Own.exact (σ := σ.set b (some (.cells (c.take (n * es) ++ new ++ c.drop (n * es + new.length)) .own))) (n0 := n0) (es := es) (b := b) (n := n + m) (cap := cap) (c := c.take (n * es) ++ new ++ c.drop (n * es + new.length)) hc hroom h0 hbn (by rw [AHeap.get_set', if_pos rfl]) (by simp; omega)
        have e : (c.take (n * es) ++ new ++ c.drop (n * es + new.length)).take ((n + m) * es) = c.take (n * es) ++ new := by
          rw [List.take_append_of_le_length (by simp; rw [Nat.add_mul]; omega)]
          exact List.take_of_length_le (by simp; rw [Nat.add_mul]; omega)
        rw [e] at this
        exact this
    · refine ⟨.slice (some ⟨σ.next, 0, .none⟩) (n + m) (BIG + 0), σ.push (.cells (c.take (n * es) ++ new) (.grow es)), ?_, ?_, .push, .inr ⟨σ.next, rfl, Nat.le_refl _⟩⟩
      · show ifb (Nat.ble (n + m) cap) _ (ifb (capOk (n + m) bytes && capOk cap bytes) (fresh σ es (n + m) ((c.drop 0).take (n * es) ++ new)) none) = _
        have : Nat.ble (n + m) cap = false := by
          cases q : Nat.ble (n + m) cap
          · rfl
          · exact absurd (Nat.le_of_ble_eq_true q) hroom
        rw [this, ifb_false, hcap, capOk_of hc hb, List.drop_zero]; rfl
      · exact .grown hn0 (by rw [AHeap.next_push]; omega) (by rw [AHeap.get_push, if_pos rfl]) (by omega) (by rw [List.length_append, List.length_take, Nat.min_eq_left (by omega), hm, Nat.add_mul])
end Go.Eng
/- The engine with open data: what is asked ahead of a piece of code (a function of the code), and that it is enough. -/
namespace Go.Eng
open Go
variable {P : Program} {G n : Nat} {call : CallF} {all : List Oper}

def wpA (call : CallF) (σ : AHeap) (r : Option AR) (K : Value → AHeap → Prop) : Prop := match r with
  | some (.val v σ') => σ.next ≤ σ'.next ∧ K v σ'
  | some (.skip σ') => σ.next ≤ σ'.next ∧ K undef σ'
  | some (.enter f args) => EvV (call f args σ) K
  | none => False
theorem wpA_val0 {σ : AHeap} {v : Value} {K : Value → AHeap → Prop} : wpA call σ (some (.val v σ)) K = K v σ := by simp [wpA]
theorem wpA_val {σ σ' : AHeap} {v : Value} {K : Value → AHeap → Prop} : wpA call σ (some (.val v σ')) K = (σ.next ≤ σ'.next ∧ K v σ') := _root_.id rfl
theorem wpA_skip {σ σ' : AHeap} {K : Value → AHeap → Prop} : wpA call σ (some (.skip σ')) K = (σ.next ≤ σ'.next ∧ K undef σ') := _root_.id rfl
theorem wpA_enter {σ : AHeap} {f : FuncId} {args : List Value} {K : Value → AHeap → Prop} : wpA call σ (some (.enter f args)) K = EvV (call f args σ) K := _root_.id rfl
@[congr] theorem wpA_congr {σ : AHeap} {r r' : Option AR} {K : Value → AHeap → Prop} (h : r = r') : wpA call σ r K = wpA call σ r' K := by rw [h]
@[congr] theorem evV_congr {m m' : (Value → AHeap → RR) → RR} {K : Value → AHeap → Prop} (h : m = m') : EvV m K = EvV m' K := by rw [h]

/-- a value that must be there -/
def obP {α : Type} (x : Option α) (f : α → Prop) : Prop := match x with
  | some a => f a
  | none => False
theorem obP_some {α : Type} {a : α} {f : α → Prop} : obP (some a) f = f a := _root_.id rfl
theorem ob_some' {α β : Type} {a : α} {f : α → Option β} : ob (some a) f = f a := _root_.id rfl
@[congr] theorem obP_congr {α : Type} {x y : Option α} {f : α → Prop} (h : x = y) : obP x f = obP y f := by rw [h]
@[congr] theorem ob_congr {α β : Type} {x y : Option α} {f : α → Option β} (h : x = y) : ob x f = ob y f := by rw [h]

def gSlot : List Oper → Nat → Option Nat
  | [], _ => none
  | o :: _, 0 => o.dst
  | _ :: l, j + 1 => gSlot l j
theorem gSlot_nth {j d : Nat} : ∀ {l : List Oper}, gSlot l j = some d → ∃ o, nth j l = some o ∧ o.dst = some d
  | [], h => by cases h
  | o :: l, h => by
    cases j with
    | zero => exact ⟨o, rfl, h⟩
    | succ j => exact gSlot_nth (l := l) h

/-- is it wanted? -/
def wpG (want : Bool) (x : Option Value) (A B : Prop) : Prop := match x with
  | some (.bool b) => (b = want → A) ∧ (b ≠ want → B)
  | some (.tuple _) => B
  | _ => False
theorem wpG_yes {A B : Prop} {w : Bool} : wpG w (some (.bool w)) A B = A := by simp [wpG]
theorem wpG_tt {A B : Prop} : wpG true (some (.bool true)) A B = A := by simp [wpG]
theorem wpG_ff {A B : Prop} : wpG false (some (.bool false)) A B = A := by simp [wpG]
theorem wpG_tf {A B : Prop} : wpG true (some (.bool false)) A B = B := by simp [wpG]
theorem wpG_ft {A B : Prop} : wpG false (some (.bool true)) A B = B := by simp [wpG]
theorem wpG_u {A B : Prop} {w : Bool} {vs : Array Value} : wpG w (some (.tuple vs)) A B = B := _root_.id rfl
theorem wpG_un {A B : Prop} {w : Bool} : wpG w (some undef) A B = B := _root_.id rfl
@[congr] theorem wpG_congr {w : Bool} {x y : Option Value} {A B : Prop} (h : x = y) : wpG w x A B = wpG w y A B := by rw [h]

def wpS (P : Program) (G n : Nat) (call : CallF) (all : List Oper) (o : Oper) (t : Tr Value) (σ : AHeap) (K : Value → AHeap → Prop) : Prop := match o.guard with
  | none => wpA call σ (aop P G o.op t σ) K
  | some (j, want) => obP (gSlot all j) fun d => (d < n ∧ d < 65536) ∧ wpG want (fget d t) (wpA call σ (aop P G o.op t σ) K) (K undef σ)
def wpPut (n : Nat) (d : Option Nat) (v : Value) (t : Tr Value) (K : Tr Value → Prop) : Prop := match d with
  | none => K t
  | some d => (d < n ∧ d < 65536) ∧ K (put d v t)
def wpL (P : Program) (G n : Nat) (call : CallF) (all : List Oper) : List Oper → Tr Value → AHeap → (Tr Value → AHeap → Prop) → Prop
  | [], t, σ, Q => Q t σ
  | o :: l, t, σ, Q => wpS P G n call all o t σ fun v σ' => wpPut n o.dst v t fun t' => wpL P G n call all l t' σ' Q

theorem blt_and {d : Nat} (h : d < n ∧ d < 65536) : (Nat.blt d n && Nat.blt d 65536) = true := by
  rw [Bool.and_eq_true, Nat.blt_eq, Nat.blt_eq]; exact h

theorem wpA_ok {o : Oper} {t : Tr Value} {σ : AHeap} {K : Value → AHeap → Prop} (hg : o.guard = none) (h : wpA call σ (aop P G o.op t σ) K) : EvS P G n call all o t σ K := by
  cases hr : aop P G o.op t σ with
  | none => rw [hr] at h; exact h.elim
  | some r =>
    rw [hr] at h
    cases r with
    | val v σ' => exact evS_val hg hr h.1 h.2
    | skip σ' => exact evS_skip hg hr h.1 h.2
    | enter f args => exact evS_enter hg hr h
theorem wpS_ok {o : Oper} {t : Tr Value} {σ : AHeap} {K : Value → AHeap → Prop} (h : wpS P G n call all o t σ K) : EvS P G n call all o t σ K := by
  unfold wpS at h
  cases hg : o.guard with
  | none => rw [hg] at h; exact wpA_ok hg h
  | some g =>
    obtain ⟨j, want⟩ := g
    rw [hg] at h
    dsimp only at h
    cases hs : gSlot all j with
    | none => rw [hs] at h; exact h.elim
    | some d =>
      rw [hs] at h
      obtain ⟨hb, h⟩ := h
      obtain ⟨oj, h1, h2⟩ := gSlot_nth hs
      cases hv : fget d t with
      | none => rw [hv] at h; exact h.elim
      | some v =>
        rw [hv] at h
        cases v <;> try (exact h.elim)
        case bool b =>
          cases q : (b == want)
          · exact evS_off hg h1 h2 (blt_and hb) hv q (h.2 (by simpa using q))
          · exact evS_on hg h1 h2 (blt_and hb) hv q (wpA_ok rfl (h.1 (by simpa using q)))
        case tuple vs => exact evS_offU hg h1 h2 (blt_and hb) hv h
theorem wpL_ok : ∀ {l : List Oper} {t : Tr Value} {σ : AHeap} {Q : Tr Value → AHeap → Prop}, wpL P G n call all l t σ Q → EvL P G n call all l t σ Q
  | [], _, _, _, h => evL_nil h
  | o :: l, t, σ, Q, h => by
    have h1 := wpS_ok h
    cases hd : o.dst with
    | none =>
      obtain ⟨v, σ', e, h2⟩ := h1
      rw [hd] at h2
      exact evL_cons0 hd ⟨v, σ', e, wpL_ok h2⟩
    | some d =>
      obtain ⟨v, σ', e, h2⟩ := h1
      rw [hd] at h2
      exact evL_cons hd (blt_and h2.1) ⟨v, σ', e, wpL_ok h2.2⟩

/- regions that draw -/
def wpDS (P : Program) (G : Nat) (o : Oper) (t : Tr Value) (σ : AHeap) (K : Value → Prop) : Prop := match o.guard with
  | none => obP (aop P G o.op t σ) fun r => match r with
    | .val v _ => K v
    | _ => False
  | some _ => False
def wpD (P : Program) (G n : Nat) (call : CallF) (all : List Oper) (b0 : Nat) : List DI → Tr Value → AHeap → List RdE → (Tr Value → AHeap → Prop) → Prop
  | [], t, σ, _, Q => Q t σ
  | x :: is, t, σ, rd, Q => match x.kd with
    | .pure => wpDS P G x.o (restr t x.rs) (emptyH 0) fun v => wpPut n x.o.dst v t fun t' => x.o.dst ≠ none ∧ wpD P G n call all b0 is t' σ rd Q
    | .read => wpDS P G x.o (restr t x.rs) σ fun v => wpPut n x.o.dst v t fun t' => x.o.dst ≠ none ∧ wpD P G n call all b0 is t' σ (⟨x, restr t x.rs, v⟩ :: rd) Q
    | .new => wpS P G n call all x.o (restr t x.rs) (emptyH (b0 + x.nm)) fun v σe => wpPut n x.o.dst v t fun t' => x.o.dst ≠ none ∧ σe.next ≤ b0 + x.nm + 1 ∧ wpD P G n call all b0 is t' (σ.set (b0 + x.nm) (σe.get (b0 + x.nm))) rd Q
    | .act => wpS P G n call all x.o (restr t x.rs) σ fun v σ' => wpPut n x.o.dst v t fun t' => laterFree b0 σ' is = true ∧ recheck P G n all x.ah σ' rd = true ∧ wpD P G n call all b0 is t' σ' rd Q
theorem wpDS_ok {o : Oper} {t : Tr Value} {σ : AHeap} {K : Value → Prop} (h : wpDS P G o t σ K) : ∃ v, stillS P G n all o t σ = some v ∧ K v := by
  unfold wpDS at h
  cases hg : o.guard with
  | some g => rw [hg] at h; exact h.elim
  | none =>
    rw [hg] at h
    cases hr : aop P G o.op t σ with
    | none => rw [hr] at h; exact h.elim
    | some r =>
      rw [hr] at h
      cases r with
      | val v σ' => exact ⟨v, still_val hg hr, h⟩
      | skip σ' => exact h.elim
      | enter f args => exact h.elim
theorem wpD_ok {b0 : Nat} : ∀ {is : List DI} {t : Tr Value} {σ : AHeap} {rd : List RdE} {Q : Tr Value → AHeap → Prop}, wpD P G n call all b0 is t σ rd Q → EvD P G n call all b0 is t σ rd Q
  | [], _, _, _, _, h => evD_nil h
  | x :: is, t, σ, rd, Q, h => by
    unfold wpD at h
    cases hk : x.kd with
    | pure =>
      rw [hk] at h
      obtain ⟨v, h1, h2⟩ := wpDS_ok (n := n) (all := all) h
      cases hd : x.o.dst with
      | none => rw [hd] at h2; exact absurd rfl h2.1
      | some d => rw [hd] at h2; exact evD_pure hk hd (blt_and h2.1) h1 (wpD_ok h2.2.2)
    | read =>
      rw [hk] at h
      obtain ⟨v, h1, h2⟩ := wpDS_ok (n := n) (all := all) h
      cases hd : x.o.dst with
      | none => rw [hd] at h2; exact absurd rfl h2.1
      | some d => rw [hd] at h2; exact evD_read hk hd (blt_and h2.1) h1 (wpD_ok h2.2.2)
    | new =>
      rw [hk] at h
      obtain ⟨v, σe, e, h2⟩ := wpS_ok h
      cases hd : x.o.dst with
      | none => rw [hd] at h2; exact absurd rfl h2.1
      | some d => rw [hd] at h2; exact evD_new hk hd (blt_and h2.1) ⟨v, σe, e, h2.2.2.1, wpD_ok h2.2.2.2⟩
    | act =>
      rw [hk] at h
      obtain ⟨v, σ', e, h2⟩ := wpS_ok h
      cases hd : x.o.dst with
      | none => rw [hd] at h2; exact evD_act0 hk hd ⟨v, σ', e, h2.1, h2.2.1, wpD_ok h2.2.2⟩
      | some d => rw [hd] at h2; exact evD_act hk hd (blt_and h2.1) ⟨v, σ', e, h2.2.1, h2.2.2.1, wpD_ok h2.2.2.2⟩

/-- two ways -/
def brP (x : Option Value) (A B : Prop) : Prop := match x with
  | some (.bool c) => (c = true → A) ∧ (c = false → B)
  | _ => False
theorem brP_bool {c : Bool} {A B : Prop} : brP (some (.bool c)) A B = ((c = true → A) ∧ (c = false → B)) := _root_.id rfl
theorem brP_true {A B : Prop} : brP (some (.bool true)) A B = A := by simp [brP]
theorem brP_false {A B : Prop} : brP (some (.bool false)) A B = B := by simp [brP]
theorem brP_if {c : Bool} {A B : Prop} (h1 : c = true → A) (h2 : c = false → B) : brP (some (.bool c)) A B := ⟨h1, h2⟩
@[congr] theorem brP_congr {x y : Option Value} {A B : Prop} (h : x = y) : brP x A B = brP y A B := by rw [h]

def wpC (P : Program) (G n : Nat) (call : CallF) : Code → Tr Value → AHeap → (AEx → Tr Value → AHeap → Prop) → Prop
  | .skip, t, σ, Q => Q .normal t σ
  | .region _ ops false, t, σ, Q => wpL P G n call ops.toList ops.toList t σ (fun t σ => Q .normal t σ)
  | .region _ ops true, t, σ, Q => ∃ is, drawInfo ops.toList = is ∧ Nat.beq is.length ops.toList.length = true ∧ laterFree σ.next σ is = true ∧ wpD P G n call ops.toList σ.next is t (σ.skip (newsIn is)) [] (fun t σ => Q .normal t σ)
  | .seq a b, t, σ, Q => wpC P G n call a t σ (thenX (fun t σ => wpC P G n call b t σ Q) Q)
  | .cond x a b, t, σ, Q => brP (aval G x t) (wpC P G n call a t σ Q) (wpC P G n call b t σ Q)
  | .block id c, t, σ, Q => wpC P G n call c t σ (blockX id Q)
  | .scope c, t, σ, Q => wpC P G n call c t σ Q
  | .loop c, t, σ, Q => ∃ (I : Nat → Tr Value → AHeap → Prop) (m : Nat), I m t σ ∧ m < LL ∧ ∀ m t σ, I m t σ → wpC P G n call c t σ (thenX (fun t' σ' => ∃ m', m' < m ∧ I m' t' σ') Q)
  | .exit id, t, σ, Q => Q (.exit id) t σ
  | .label _, t, σ, Q => Q .normal t σ
  | .ret, t, σ, Q => Q .ret t σ
  | _, _, _, _ => False
theorem thenX_mono {f g : Tr Value → AHeap → Prop} {Q : AEx → Tr Value → AHeap → Prop} (h : ∀ t σ, f t σ → g t σ) : ∀ e t σ, thenX f Q e t σ → thenX g Q e t σ := fun e t σ k => by
  cases e with
  | normal => exact h t σ k
  | exit i => exact k
  | ret => exact k
theorem wpC_ok : ∀ {c : Code} {t : Tr Value} {σ : AHeap} {Q : AEx → Tr Value → AHeap → Prop}, wpC P G n call c t σ Q → EvC P G n call c t σ Q := by
  intro c
  induction c with
  | skip => exact fun h => evC_skip h
  | region id ops d =>
    intro t σ Q h
    cases d with
    | false => exact evC_region (wpL_ok h)
    | true =>
      obtain ⟨is, h1, h2, h3, h4⟩ := h
      exact evC_draw h1 h2 rfl h3 (wpD_ok h4)
  | seq a b iha ihb => exact fun h => evC_seq ((iha h).mono (thenX_mono fun t σ h => ihb h))
  | cond x a b iha ihb =>
    intro t σ Q h
    unfold wpC at h
    cases hv : aval G x t with
    | none => rw [hv] at h; exact h.elim
    | some v =>
      rw [hv] at h
      cases v <;> try (exact h.elim)
      case bool b => exact evC_cond hv (fun q => iha (h.1 q)) (fun q => ihb (h.2 q))
  | block id c ih => exact fun h => evC_block (ih h)
  | scope c ih => exact fun h => evC_scope (ih h)
  | loop c ih =>
    intro t σ Q h
    obtain ⟨I, m, h0, hm, hs⟩ := h
    exact evC_loop I h0 hm fun m t σ hI => ih (hs m t σ hI)
  | exit id => exact fun h => evC_exit h
  | label l => exact fun h => evC_label h
  | ret => exact fun h => evC_ret h
  | _ => exact fun h => h.elim

/-- A function, by what is asked ahead of its code. -/
theorem fn_wp (hm : P.follows .mixedOrders = true) {f : FuncId} {fn : Func} {c : Code} {args : List Value} {σ : AHeap} {Q : Value → AHeap → Prop} (l : List (FuncId × Post)) (n : Nat) (rs : List ResultVar)
    (hf : P.funcs[f]? = some fn) (hb : fn.body = some c) (hr : fn.results.toList = rs) (hn : fn.ntmps = n) (hn' : n < 65536) (ha : args.length ≤ n)
    (h : wpC P G n (callS P G l) c (initFr args 0 .nil) σ fun e t σ' => (∀ i, e ≠ .exit i) ∧ obP (resultsK P rs t σ') fun vs => Q (tup vs) σ') : ∃ v σ', CallOk P G f args σ v σ' ∧ Q v σ' := by
  subst hn; subst hr
  refine fn_ok hm l hf hb hn' ha ((wpC_ok h).mono fun e t σ k => ⟨k.1, ?_⟩)
  have k := k.2
  cases hv : resultsK P fn.results.toList t σ with
  | none => rw [hv] at k; exact k.elim
  | some vs => rw [hv] at k; exact ⟨vs, rfl, k⟩
end Go.Eng
/- The engine with open data: operations as equations. -/
namespace Go.Eng
open Go
variable {P : Program} {G n : Nat} {t : Tr Value} {σ : AHeap} {call : CallF} {all : List Oper}

theorem avals_nil' : avals G [] t = some [] := _root_.id rfl
theorem avals_cons' {x : Operand} {l : List Operand} : avals G (x :: l) t = ob (aval G x t) fun v => ob (avals G l t) fun r => some (v :: r) := _root_.id rfl
theorem aop_move {x : Operand} : aop P G (.move x) t σ = ob (aval G x t) fun v => some (.val v σ) := _root_.id rfl
theorem aop_assign {x : Operand} : aop P G (.assign x) t σ = ob (aval G x t) fun v => some (.val v σ) := _root_.id rfl
theorem aop_bin {op : BinOp} {ty ty' : TypeId} {x y : Operand} : aop P G (.binOp op ty x y ty') t σ = ob (aval G x t) fun u => ob (aval G y t) fun v => ob (cBin P (isC x || isC y) op ty u v) fun r => some (.val r σ) := _root_.id rfl
theorem aop_un {op : UnOp} {ty : TypeId} {x : Operand} : aop P G (.unOp op ty x) t σ = ob (aval G x t) fun u => ob (oUn P op u) fun r => some (.val r σ) := _root_.id rfl
theorem aop_conv {s d : TypeId} {x : Operand} : aop P G (.convert s d x) t σ = ob (aval G x t) fun u => ob (cConvH P s d σ u) fun r => some (.val r σ) := _root_.id rfl
theorem aop_load {ty : TypeId} {a : Operand} : aop P G (.load ty a) t σ = ob (aval G a t) fun p => ob (cLoad P ty σ p) fun r => some (.val r σ) := _root_.id rfl
theorem aop_store {ty : TypeId} {a x : Operand} : aop P G (.store ty a x) t σ = ob (aval G a t) fun p => ob (aval G x t) fun v => ob (cStore P ty σ p v) fun r => some (.skip r) := _root_.id rfl
theorem aop_nilCheck {x : Operand} : aop P G (.nilCheck x) t σ = ob (aval G x t) fun p => ob (nilC p) fun r => some (.val r σ) := _root_.id rfl
theorem aop_fieldAddr {ty : TypeId} {x : Operand} {f : Nat} : aop P G (.fieldAddr ty x f) t σ = ob (aval G x t) fun p => ob (cFieldAddr P ty f p) fun r => some (.val r σ) := _root_.id rfl
theorem aop_field {ty : TypeId} {x : Operand} {f : Nat} : aop P G (.field ty x f) t σ = ob (aval G x t) fun p => ob (cField P ty f p) fun r => some (.val r σ) := _root_.id rfl
theorem aop_indexAddr {ty : TypeId} {x i : Operand} : aop P G (.indexAddr ty x i) t σ = ob (aval G x t) fun p => ob (aval G i t) fun j => ob (cIndexAddr P ty p j) fun r => some (.val r σ) := _root_.id rfl
theorem aop_index {ty : TypeId} {x i : Operand} : aop P G (.index ty x i) t σ = ob (aval G x t) fun p => ob (aval G i t) fun j => ob (cIndex P ty p j) fun r => some (.val r σ) := _root_.id rfl
theorem aop_extract {x : Operand} {i : Nat} : aop P G (.extract x i) t σ = ob (aval G x t) fun p => ob (oExtract i p) fun r => some (.val r σ) := _root_.id rfl
theorem aop_iface {ty : TypeId} {x : Operand} : aop P G (.makeInterface ty x) t σ = ob (aval G x t) fun p => ob (cIface P ty p) fun r => some (.val r σ) := _root_.id rfl
theorem aop_s2a {ty : TypeId} {x : Operand} : aop P G (.sliceToArrayPointer ty x) t σ = ob (aval G x t) fun p => ob (cS2a P ty p) fun r => some (.val r σ) := _root_.id rfl
theorem aop_lookup {ty : TypeId} {m k : Operand} {ok : Bool} : aop P G (.lookup ty m k ok) t σ = ob (aval G m t) fun p => ob (aval G k t) fun j => ob (cLookup P ty ok σ p j) fun r => some (.val r σ) := _root_.id rfl
theorem aop_mapUpdate {ty : TypeId} {m k x : Operand} : aop P G (.mapUpdate ty m k x) t σ = ob (aval G m t) fun p => ob (aval G k t) fun j => ob (aval G x t) fun v => ob (cMapUpdate P ty σ p j v) fun r => some (.skip r) := _root_.id rfl
theorem aop_insert {ty : TypeId} {m k x : Operand} : aop P G (.insert ty m k x) t σ = ob (aval G m t) fun p => ob (aval G k t) fun j => ob (aval G x t) fun v => ob (cMapUpdate P ty σ p j v) fun r => some (.skip r) := _root_.id rfl
theorem aop_makeMap {ty : TypeId} : aop P G (.makeMap ty none) t σ = some (.val (.map (some σ.next)) (σ.push (.map [] 0))) := _root_.id rfl
theorem aop_makeSlice {ty : TypeId} {l c : Operand} : aop P G (.makeSlice ty l c) t σ = ob (aval G l t) fun u => ob (aval G c t) fun v => cMakeSlice P ty σ u v := _root_.id rfl
theorem aop_box {ty : TypeId} {x : Operand} : aop P G (.box ty x) t σ = ob (aval G x t) fun v => aNew σ v := _root_.id rfl
theorem aop_alloc {ty : TypeId} {z : Value} (h : zeroOf P ty = some z) : aop P G (.alloc ty) t σ = aNew σ z := by
  show alc (zeroOf P ty) t σ = _
  rw [h]; rfl
theorem aop_slice {ty : TypeId} {x : Operand} {lo hi mx : Option Operand} : aop P G (.slice ty x lo hi mx) t σ = ob (aval G x t) fun v => ob (avalO G lo t) fun l => ob (avalO G hi t) fun h => ob (avalO G mx t) fun m => ob (cSlice P ty σ v l h m) fun r => some (.val r σ) := _root_.id rfl
theorem avalO_none : avalO G none t = some none := _root_.id rfl
theorem avalO_some {x : Operand} : avalO G (some x) t = ob (aval G x t) fun v => some (some v) := _root_.id rfl
theorem aop_build {ty : TypeId} {ps : Array (Nat × Operand)} : aop P G (.build ty ps) t σ = ob (aParts G ps.toList t) fun l => ob (cBuild P ty l) fun r => some (.val r σ) := _root_.id rfl
theorem aop_buildSlice {ty : TypeId} {m : Nat} {ps : Array (Nat × Operand)} : aop P G (.buildSlice ty m ps) t σ = ob (aParts G ps.toList t) fun l => cBuildSlice P ty m σ l := _root_.id rfl
theorem aParts_nil : aParts G [] t = some [] := _root_.id rfl
theorem aParts_cons {i : Nat} {x : Operand} {l : List (Nat × Operand)} : aParts G ((i, x) :: l) t = ob (aval G x t) fun v => ob (aParts G l t) fun r => some ((i, v) :: r) := _root_.id rfl
theorem aop_pick {c a b : Operand} : aop P G (.pick c a b) t σ = ob (aval G c t) fun v => (match v with
    | .bool true => ob (aval G a t) fun r => some (.val r σ)
    | .bool false => ob (aval G b t) fun r => some (.val r σ)
    | _ => none) := _root_.id rfl
theorem aop_pick' {c a b : Operand} {p : Bool} {u v : Value} (h : aval G c t = some (.bool p)) (h1 : aval G a t = some u) (h2 : aval G b t = some v) : aop P G (.pick c a b) t σ = some (.val (if p then u else v) σ) := by
  rw [aop_pick, h, ob_some]
  cases p
  · dsimp only; rw [h2]; rfl
  · dsimp only; rw [h1]; rfl
theorem aop_makeFunc {fn : Fn} {first captured : Array Operand} : aop P G (.makeFunc fn first captured) t σ = vs1 σ (cFunc G fn first captured t) := _root_.id rfl
theorem vs1_val {v : Value} : vs1 σ (some v) = some (.val v σ) := _root_.id rfl
theorem cFunc_eq {f : FuncId} {first captured : Array Operand} : cFunc G (.func f) first captured t = ob (avals G first.toList t) fun a => ob (avals G captured.toList t) fun b => some (.func (.func f) ⟨a⟩ ⟨b⟩) := _root_.id rfl
theorem aop_call {f : FuncId} {args : Array Operand} {ts : Array TypeId} : aop P G (.call ⟨.value (.func f), args, ts⟩) t σ = ob (avals G args.toList t) fun as => callA P f σ as := _root_.id rfl
theorem aop_callT {i : Nat} {args : Array Operand} {ts : Array TypeId} : aop P G (.call ⟨.value (.tmp i), args, ts⟩) t σ = ob (aval G (.tmp i) t) fun fv => ob (avals G args.toList t) fun as => callV P σ fv as := _root_.id rfl
theorem aop_invoke {x : Operand} {nm : String} {args : Array Operand} {ts : Array TypeId} : aop P G (.call ⟨.invoke x nm, args, ts⟩) t σ = ob (aval G x t) fun fv => ob (avals G args.toList t) fun as => callI P nm σ fv as := _root_.id rfl
theorem callV_func {f : FuncId} {a b : List Value} {args : List Value} : callV P σ (.func (.func f) ⟨a⟩ ⟨b⟩) args = callA P f σ (a ++ args ++ b) := _root_.id rfl
theorem callA_enter {f : FuncId} {as : List Value} (h : enterable P f = true) : callA P f σ as = some (.enter f as) := by
  show ifb (enterable P f) (fun _ args => some (AR.enter f args)) (extern P f) σ as = _
  rw [h]; rfl
theorem aop_len {x : Operand} {ty : TypeId} : aop P G (.call ⟨.builtin .len, #[x], #[ty]⟩) t σ = ob (aval G x t) fun v => ob (lenOf P ty σ v) fun r => some (.val r σ) := by
  show ob (ob (aval G x t) fun v => ob (some []) fun r => some (v :: r)) (fun args => (match args with
    | [x] => vs1 σ (lenOf P ty σ x)
    | _ => none)) = _
  cases aval G x t with
  | none => rfl
  | some v =>
    show vs1 σ (lenOf P ty σ v) = ob (lenOf P ty σ v) fun r => some (.val r σ)
    cases lenOf P ty σ v <;> rfl
theorem aop_append {x y : Operand} {ty ty' : TypeId} : aop P G (.call ⟨.builtin .append, #[x, y], #[ty, ty']⟩) t σ = ob (aval G x t) fun u => ob (aval G y t) fun v => cAppend P ty (some ty') σ u v := by
  show ob (ob (aval G x t) fun u => ob (ob (aval G y t) fun v => ob (some []) fun r => some (v :: r)) fun r => some (u :: r)) (fun args => (match args with
    | [s, x] => cAppend P ty (some ty') σ s x
    | _ => none)) = _
  cases aval G x t with
  | none => rfl
  | some u => cases aval G y t <;> rfl
theorem aop_copy {x y : Operand} {ty : TypeId} {ts : List TypeId} : aop P G (.call ⟨.builtin .copy, #[x, y], ⟨ty :: ts⟩⟩) t σ = ob (aval G x t) fun u => ob (aval G y t) fun v => cCopy P ty σ u v := by
  show ob (ob (aval G x t) fun u => ob (ob (aval G y t) fun v => ob (some []) fun r => some (v :: r)) fun r => some (u :: r)) (fun args => (match args with
    | [s, x] => cCopy P ty σ s x
    | _ => none)) = _
  cases aval G x t with
  | none => rfl
  | some u => cases aval G y t <;> rfl
theorem oExtract_eq {i : Nat} {vs : List Value} : oExtract i (.tuple ⟨vs⟩) = vs[i]? := by
  show nth i vs = _
  exact nth_eq i vs

theorem wpL_nil {Q : Tr Value → AHeap → Prop} : wpL P G n call all [] t σ Q = Q t σ := _root_.id rfl
theorem wpL_cons {dst : Option Nat} {op : Op} {ty : TypeId} {pos : String} {after : Array Edge} {l : List Oper} {Q : Tr Value → AHeap → Prop} :
    wpL P G n call all (⟨dst, op, ty, pos, after, none⟩ :: l) t σ Q = wpA call σ (aop P G op t σ) fun v σ' => wpPut n dst v t fun t' => wpL P G n call all l t' σ' Q := _root_.id rfl
theorem wpL_guard {dst : Option Nat} {op : Op} {ty : TypeId} {pos : String} {after : Array Edge} {j : Nat} {w : Bool} {l : List Oper} {Q : Tr Value → AHeap → Prop} :
    wpL P G n call all (⟨dst, op, ty, pos, after, some (j, w)⟩ :: l) t σ Q = obP (gSlot all j) fun d => (d < n ∧ d < 65536) ∧ wpG w (fget d t) (wpA call σ (aop P G op t σ) fun v σ' => wpPut n dst v t fun t' => wpL P G n call all l t' σ' Q) (wpPut n dst undef t fun t' => wpL P G n call all l t' σ Q) := _root_.id rfl
theorem wpPut_some {d : Nat} {v : Value} {K : Tr Value → Prop} (h1 : d < n) (h2 : d < 65536) : wpPut n (some d) v t K = K (put d v t) := by
  simp [wpPut, h1, h2]
theorem wpPut_none {v : Value} {K : Tr Value → Prop} : wpPut n none v t K = K t := _root_.id rfl
theorem gSlot_zero {o : Oper} {l : List Oper} : gSlot (o :: l) 0 = o.dst := _root_.id rfl
theorem gSlot_succ {o : Oper} {l : List Oper} {j : Nat} : gSlot (o :: l) (j + 1) = gSlot l j := _root_.id rfl

section
variable {Q : AEx → Tr Value → AHeap → Prop}
theorem wpC_skip : wpC P G n call .skip t σ Q = Q .normal t σ := _root_.id rfl
theorem wpC_region {id : Nat} {ops : Array Oper} : wpC P G n call (.region id ops false) t σ Q = wpL P G n call ops.toList ops.toList t σ (fun t σ => Q .normal t σ) := _root_.id rfl
theorem wpC_seq {a b : Code} : wpC P G n call (.seq a b) t σ Q = wpC P G n call a t σ (thenX (fun t σ => wpC P G n call b t σ Q) Q) := _root_.id rfl
theorem wpC_cond {x : Operand} {a b : Code} : wpC P G n call (.cond x a b) t σ Q = brP (aval G x t) (wpC P G n call a t σ Q) (wpC P G n call b t σ Q) := _root_.id rfl
theorem wpC_block {id : Nat} {c : Code} : wpC P G n call (.block id c) t σ Q = wpC P G n call c t σ (blockX id Q) := _root_.id rfl
theorem wpC_scope {c : Code} : wpC P G n call (.scope c) t σ Q = wpC P G n call c t σ Q := _root_.id rfl
theorem wpC_exit {i : Nat} : wpC P G n call (.exit i) t σ Q = Q (.exit i) t σ := _root_.id rfl
theorem wpC_label {i : Nat} : wpC P G n call (.label i) t σ Q = Q .normal t σ := _root_.id rfl
theorem wpC_ret : wpC P G n call .ret t σ Q = Q .ret t σ := _root_.id rfl
theorem thenX_normal {f : Tr Value → AHeap → Prop} : thenX f Q .normal t σ = f t σ := _root_.id rfl
theorem thenX_exit {f : Tr Value → AHeap → Prop} {i : Nat} : thenX f Q (.exit i) t σ = Q (.exit i) t σ := _root_.id rfl
theorem thenX_ret {f : Tr Value → AHeap → Prop} : thenX f Q .ret t σ = Q .ret t σ := _root_.id rfl
theorem blockX_normal {i : Nat} : blockX i Q .normal t σ = Q .normal t σ := _root_.id rfl
theorem blockX_exit {i : Nat} : blockX i Q (.exit i) t σ = Q .normal t σ := by simp [blockX]
theorem blockX_other {i j : Nat} (h : j ≠ i) : blockX i Q (.exit j) t σ = Q (.exit j) t σ := by simp [blockX, h]
theorem blockX_ret {i : Nat} : blockX i Q .ret t σ = Q .ret t σ := _root_.id rfl
end
theorem resultsK_nil : resultsK P [] t σ = some [] := _root_.id rfl
theorem resultsK_tmp {d : Nat} {l : List ResultVar} (h : d < 65536) : resultsK P (.tmp d :: l) t σ = ob (fget d t) fun v => ob (resultsK P l t σ) fun r => some (v :: r) := by
  show ifb (Nat.blt d 65536) (fun t σ => ob (fget d t) fun v => ob (resultsK P l t σ) fun l => some (v :: l)) (fun _ _ => none) t σ = _
  have : Nat.blt d 65536 = true := by rw [Nat.blt_eq]; exact h
  rw [this]; rfl
theorem resultsK_cell {d : Nat} {ty : TypeId} {l : List ResultVar} (h : d < 65536) : resultsK P (.cell d ty :: l) t σ = ob (fget d t) fun p => ob (cLoad P ty σ p) fun v => ob (resultsK P l t σ) fun r => some (v :: r) := by
  show ifb (Nat.blt d 65536) (fun t σ => ob (fget d t) fun p => ob (cLoad P ty σ p) fun v => ob (resultsK P l t σ) fun l => some (v :: l)) (fun _ _ => none) t σ = _
  have : Nat.blt d 65536 = true := by rw [Nat.blt_eq]; exact h
  rw [this]; rfl
theorem tup_one {v : Value} : tup [v] = v := _root_.id rfl
theorem tup_two {v w : Value} {l : List Value} : tup (v :: w :: l) = .tuple ⟨v :: w :: l⟩ := _root_.id rfl
theorem tup_nil : tup [] = .tuple ⟨[]⟩ := _root_.id rfl
end Go.Eng
