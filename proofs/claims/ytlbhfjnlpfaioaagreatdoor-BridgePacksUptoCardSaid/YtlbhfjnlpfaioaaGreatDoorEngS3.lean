/- The engine: operations that make memory; append; copy. -/
import Derived.Test.YtlbhfjnlpfaioaaGreatDoorEngS2
import Derived.Laws.MakeOwn
namespace Go.Eng
open Go
variable {P : Program}

theorem cyc_zero (z t : List Value) : cyc z 0 t = [] := rfl
theorem cyc_cons (z : List Value) (n : Nat) (v : Value) (t : List Value) : cyc z (n + 1) (v :: t) = v :: cyc z n t := rfl
theorem cyc_nil (n : Nat) (v : Value) (t : List Value) : cyc (v :: t) (n + 1) [] = v :: cyc (v :: t) n t := rfl

theorem cyc_get (z : List Value) (hz : z ≠ []) : ∀ (n k i : Nat), k ≤ z.length → i < n → (cyc z n (z.drop k))[i]? = some (z[(k + i) % z.length]!)
  | 0, _, _, _, h => by omega
  | n + 1, k, i, hk, hi => by
    have hpos : 0 < z.length := List.length_pos_iff.2 hz
    by_cases hlt : k < z.length
    · rw [List.drop_eq_getElem_cons hlt, cyc_cons]
      cases i with
      | zero => simp [Nat.mod_eq_of_lt hlt, hlt]
      | succ i =>
        have := cyc_get z hz n (k + 1) i hlt (by omega)
        simp only [List.getElem?_cons_succ, this]
        rw [show k + 1 + i = k + (i + 1) by omega]
    · have hk' : k = z.length := by omega
      subst hk'
      rw [List.drop_length]
      obtain ⟨v, t, rfl⟩ : ∃ v t, z = v :: t := by cases z with
        | nil => exact absurd rfl hz
        | cons v t => exact ⟨v, t, rfl⟩
      rw [cyc_nil]
      cases i with
      | zero => simp
      | succ i =>
        have := cyc_get (v :: t) hz n 1 i (by simp) (by omega)
        simp only [List.drop_one, List.tail_cons] at this
        simp only [List.getElem?_cons_succ, this]
        rw [show (v :: t).length + (i + 1) = (1 + i) + (v :: t).length by omega, Nat.add_mod_right]

theorem cyc_length (z : List Value) (hz : z ≠ []) : ∀ (n : Nat) (t : List Value), (cyc z n t).length = n
  | 0, _ => rfl
  | n + 1, v :: t => by rw [cyc_cons, List.length_cons, cyc_length z hz n t]
  | n + 1, [] => by
    obtain ⟨v, t, rfl⟩ : ∃ v t, z = v :: t := by cases z with
      | nil => exact absurd rfl hz
      | cons v t => exact ⟨v, t, rfl⟩
    rw [cyc_nil, List.length_cons, cyc_length _ hz n t]

theorem cyc_mem (z : List Value) : ∀ (n : Nat) (t : List Value) (v : Value), v ∈ cyc z n t → v ∈ z ∨ v ∈ t
  | 0, _, _, h => by rw [cyc_zero] at h; cases h
  | n + 1, u :: t, v, h => by
    rw [cyc_cons] at h
    rcases List.mem_cons.1 h with h | h
    · exact .inr (by simp [h])
    · rcases cyc_mem z n t v h with h | h
      · exact .inl h
      · exact .inr (by simp [h])
  | n + 1, [], v, h => by
    cases z with
    | nil => cases h
    | cons u t =>
      rw [cyc_nil] at h
      rcases List.mem_cons.1 h with h | h
      · exact .inl (by simp [h])
      · rcases cyc_mem (u :: t) n t v h with h | h
        · exact .inl h
        · exact .inl (by simp [h])

theorem madeCells_eq (z : Array Value) (hz : z.toList ≠ []) (n : Nat) : (madeCells z n).toList = cyc z.toList n z.toList := by
  apply List.ext_getElem?
  intro i
  by_cases hi : i < n
  · have := cyc_get z.toList hz n 0 i (by omega) hi
    simp only [List.drop_zero, Nat.zero_add] at this
    rw [this]
    have hpos : 0 < z.size := by
      have := List.length_pos_iff.2 hz
      simpa using this
    have hm : i % z.size < z.size := Nat.mod_lt _ hpos
    simp [madeCells, hi, hm]
  · rw [List.getElem?_eq_none (by simp [madeCells]; omega), List.getElem?_eq_none (by rw [cyc_length _ hz]; omega)]

/- zero values -/
theorem zero_cells {t : TypeId} {z : Value} (h : zeroOf P t = some z) {v : Value} (hv : v ∈ z.cells.toList) : closedD 8 v = true := by
  have hc : closedD 8 z = true := (run_zeroValue h default).2
  have up : ∀ (n : Nat) (v : Value), closedD n v = true → closedD (n + 1) v = true := by
    intro n
    induction n with
    | zero => intro v h; cases h
    | succ n ih =>
      intro v h
      unfold closedD at h ⊢
      split at h <;> simp_all
  cases z with
  | agg cs =>
    have hc' : cs.toList.all (closedD 7) = true := hc
    exact up 7 v (List.all_eq_true.1 hc' v hv)
  | _ => simp [Value.cells] at hv; subst hv; exact hc

theorem closed_list {ε : Env} : ∀ {l : List Value}, (∀ v ∈ l, closedD 8 v = true) → RepL ε l l
  | [], _ => .nil
  | v :: l, h => .cons (rep_closedD 8 v (h v (by simp))) (closed_list (fun u hu => h u (by simp [hu])))

theorem zero_rep {ε : Env} {t : TypeId} {z : Value} (h : zeroOf P t = some z) : Rep ε z z := rep_closedD 8 z (run_zeroValue h default).2

theorem info_of_zero {t : TypeId} {z : Value} (h : zeroOf P t = some z) : ∃ i, P.info? t = some i ∧ i.zero = some z := by
  unfold zeroOf at h
  split at h
  · cases h
  · rename_i i hi
    split at h
    · cases h
    · rename_i z' hz
      cases hc : closedD 8 z' <;> rw [hc] at h <;> simp at h
      subst h
      exact ⟨i, hi, hz⟩

/- parts laid into cells -/
theorem foldl_set : ∀ (vs : List Value) (off j : Nat) (cs : List Value), off + j + vs.length ≤ cs.length →
    ((vs.zipIdx j).foldl (fun (cs : Array Value) (p : Value × Nat) => cs.setIfInBounds (off + p.2) p.1) ⟨cs⟩) = ⟨cs.take (off + j) ++ vs ++ cs.drop (off + j + vs.length)⟩
  | [], off, j, cs, h => by simp
  | v :: vs, off, j, cs, h => by
    simp only [List.length_cons] at h
    rw [List.zipIdx_cons, List.foldl_cons]
    have e : (⟨cs⟩ : Array Value).setIfInBounds (off + j) v = ⟨cs.set (off + j) v⟩ := by
      apply Array.ext'
      simp
    rw [e, foldl_set vs off (j + 1) (cs.set (off + j) v) (by simp; omega)]
    congr 1
    have hlt : off + j < cs.length := by omega
    rw [show off + (j + 1) = off + j + 1 by omega]
    rw [List.take_succ_eq_append_getElem (by simpa using hlt)]
    simp only [List.getElem_set_self, List.take_set_of_le (Nat.le_refl _), List.append_assoc, List.cons_append, List.nil_append, List.length_cons]
    rw [List.drop_set_of_lt (by omega), show off + j + 1 + vs.length = off + j + (vs.length + 1) by omega]

inductive RepP (ε : Env) : List (Nat × Value) → List (Nat × Value) → Prop
  | nil : RepP ε [] []
  | cons {i : Nat} {v v' : Value} {l l' : List (Nat × Value)} (h : Rep ε v v') (t : RepP ε l l') : RepP ε ((i, v) :: l) ((i, v') :: l')

theorem RepL.splice {ε : Env} {c cc vs cvs : List Value} {off : Nat} (hc : RepL ε c cc) (hv : RepL ε vs cvs) (h : off + vs.length ≤ c.length) : RepL ε (Eng.splice off vs c) (cc.take off ++ cvs ++ cc.drop (off + cvs.length)) := by
  rw [splice_eq off vs c h, hv.length]
  exact ((hc.take off).append hv).append (hc.drop _)

theorem fill_ok {ε : Env} {place : Nat → Option (Nat × Nat)} : ∀ (parts cparts : List (Nat × Value)) (c cc r : List Value), fillA place parts c = some r → RepP ε parts cparts → RepL ε c cc →
    ∃ rr, Instr.fill place ⟨cc⟩ cparts = some ⟨rr⟩ ∧ RepL ε r rr
  | [], cp, c, cc, r, h, hp, hc => by
    cases hp
    obtain rfl := Option.some.inj (show some c = some r from h)
    exact ⟨cc, rfl, hc⟩
  | (i, v) :: l, cp, c, cc, r, h, hp, hc => by
    obtain ⟨v', l', hv, t, rfl⟩ : ∃ v' l', Rep ε v v' ∧ RepP ε l l' ∧ cp = (i, v') :: l' := by
      cases hp with
      | cons h t => exact ⟨_, _, h, t, rfl⟩
    obtain ⟨pl, h1, h⟩ := ob_eq_some (show (ob (place i) fun pl => (fun vs => ifb (Nat.beq vs.length pl.2) (ifb (hasLen (pl.1 + vs.length) c) (ifb (allL oneV vs) (fillA place l (Eng.splice pl.1 vs c)) none) none) none) v.cells.toList) = some r from h)
    obtain ⟨h2, h⟩ := ifb_eq_some h
    obtain ⟨h3, h⟩ := ifb_eq_some h
    obtain ⟨h4, h⟩ := ifb_eq_some h
    have h2 := Nat.eq_of_beq_eq_true h2
    have h3 := hasLen_le _ _ h3
    have hvc := hv.cells (allL_all _ _ h4)
    have hs := RepL.splice hc hvc h3
    obtain ⟨rr, e1, e2⟩ := fill_ok l l' _ _ r h t hs
    refine ⟨rr, ?_, e2⟩
    obtain ⟨off, size⟩ := pl
    have h2' : v.cells.toList.length = size := h2
    have h3' : off + v.cells.toList.length ≤ c.length := h3
    have hcl := hc.length
    have hvl := hvc.length
    simp only [Array.length_toList] at hvl h2' h3'
    have hno : (decide (v'.cells.size ≠ size) || decide (off + v'.cells.size > cc.length)) = false := by
      simp; omega
    unfold Instr.fill
    simp only [h1, List.size_toArray, hno]
    have hf := foldl_set v'.cells.toList off 0 cc (by simp; omega)
    rw [← Array.foldl_toList, Array.toList_zipIdx]
    simp only [Nat.add_zero] at hf
    rw [hf]
    exact e1

theorem run_places : ∀ (l : List Field) (pl : List (Nat × Nat)), placesOf P l = some pl → ∀ w, (l.mapM fun f => do Pure.pure (f.offset, ← sizeOf f.type) : Sem (List (Nat × Nat))).run P w = .ok pl w
  | [], pl, h, w => by simp [placesOf] at h; subst h; simp
  | f :: l, pl, h, w => by
    unfold placesOf at h
    split at h
    · cases h
    · rename_i i hi
      split at h
      · cases h
      · rename_i l' hl
        obtain rfl := Option.some.inj h
        have ih := run_places l l' hl w
        simp only [List.mapM_cons, Sem.run_bind, run_sizeOf hi, Result.andThen_ok, Sem.run_pure, ih]

theorem cBuild_ok {ε : Env} {t : TypeId} {ps cps : List (Nat × Value)} {v : Value} (h : cBuild P t ps = some v) (hp : RepP ε ps cps) (w : World) : ∃ cv, (Instr.build t ⟨cps⟩).run P w = .ok cv w ∧ Rep ε v cv := by
  unfold cBuild at h
  generalize hz : zeroOf P t = oz at h
  rcases oz with _ | z
  · cases h
  have hzr := (run_zeroValue hz w).1
  have hzl : RepL ε z.cells.toList z.cells.toList := closed_list fun v hv => zero_cells hz hv
  dsimp only at h
  generalize hd : P.underlying t = od at h
  rcases od with _ | d
  · cases h
  cases d <;> try (cases h; done)
  case struct fields =>
    dsimp only at h
    generalize hpl : placesOf P fields.toList = opl at h
    rcases opl with _ | pl
    · cases h
    obtain ⟨c, h1, h2⟩ := ob_eq_some (show (ob (fillA (fun i => nth i pl) ps z.cells.toList) fun c => some (Value.agg ⟨c⟩)) = some v from h)
    obtain rfl := Option.some.inj h2
    obtain ⟨rr, e1, e2⟩ := fill_ok ps cps _ _ c h1 hp hzl
    refine ⟨.agg ⟨rr⟩, ?_, .agg e2⟩
    have hm : (fields.mapM fun f => do Pure.pure (f.offset, ← sizeOf f.type) : Sem (Array (Nat × Nat))).run P w = .ok ⟨pl⟩ w := by
      rw [Array.mapM_eq_mapM_toList]
      have := run_places fields.toList pl hpl w
      simp only [Sem.run_map]
      rw [this]; rfl
    have e1' : Instr.fill (fun x => (⟨pl⟩ : Array (Nat × Nat))[x]?) z.cells cps = some ⟨rr⟩ := by
      have : (fun x => (⟨pl⟩ : Array (Nat × Nat))[x]?) = fun i => nth i pl := by
        funext i; rw [nth_eq]; simp
      rw [this]; exact e1
    simp only [Instr.build, Sem.run_bind, hzr, Result.andThen_ok, run_underlying hd]
    rw [hm]
    simp only [Result.andThen_ok]
    rw [e1']
    rfl
  case array n elem =>
    dsimp only at h
    generalize hi : P.info? elem = oi at h
    rcases oi with _ | i
    · cases h
    obtain ⟨c, h1, h2⟩ := ob_eq_some (show (ob (fillA (fun j => some (j * i.size, i.size)) ps z.cells.toList) fun c => some (Value.agg ⟨c⟩)) = some v from h)
    obtain rfl := Option.some.inj h2
    obtain ⟨rr, e1, e2⟩ := fill_ok ps cps _ _ c h1 hp hzl
    refine ⟨.agg ⟨rr⟩, ?_, .agg e2⟩
    have e1' : Instr.fill (fun j => some (j * i.size, i.size)) z.cells cps = some ⟨rr⟩ := e1
    simp only [Instr.build, Sem.run_bind, hzr, Result.andThen_ok, run_underlying hd, run_sizeOf hi]
    rw [e1']
    rfl

theorem cells_size (z : Value) : z.cells.toList.length = z.cells.size := by simp

theorem cBuildSlice_ok {ε : Env} {σ : AHeap} {w : World} (he : Emb ε σ.get w) {t : TypeId} {len : Nat} {ps cps : List (Nat × Value)} {r : AR} (h : cBuildSlice P t len σ ps = some r) (hp : RepP ε ps cps) :
    ∃ σ' : AHeap, ∃ v, r = .val v σ' ∧ σ'.next = σ.next + 1 ∧ (ε.m σ.next = none → ∃ ε' w' cv, (Instr.buildSlice t len ⟨cps⟩).run P w = .ok cv w' ∧ Rep ε' v cv ∧ Step σ.next (σ.next + 1) ε σ.get w ε' σ'.get w') := by
  unfold cBuildSlice at h
  generalize hd : P.underlying t = od at h
  rcases od with _ | d
  · cases h
  cases d <;> try (cases h; done)
  case slice elem =>
    dsimp only at h
    generalize hi : P.info? elem = oi at h
    generalize hz : zeroOf P elem = oz at h
    rcases oi with _ | i
    · cases h
    rcases oz with _ | z
    · cases h
    dsimp only at h
    cases hc : (Nat.ble (len * i.size) 16777216 && Nat.blt len BIG && Nat.beq z.cells.size i.size)
    · rw [hc, ifb_false] at h; cases h
    rw [hc, ifb_true] at h
    simp only [Bool.and_eq_true, Nat.blt_eq] at hc
    obtain ⟨⟨c1, c2⟩, c3⟩ := hc
    have c1 := Nat.le_of_ble_eq_true c1
    have c3 := Nat.eq_of_beq_eq_true c3
    obtain ⟨c, h1, h2⟩ := ob_eq_some (show (ob _ fun c => push σ (.cells c .own) fun b σ' => some (AR.val (.slice (some ⟨b, 0, none⟩) len len) σ')) = some r from h)
    obtain ⟨σ', p1, p2, p3⟩ := push_some h2
    obtain rfl := Option.some.inj p3
    have hcl : RepL ε (cyc z.cells.toList (len * i.size) z.cells.toList) (cyc z.cells.toList (len * i.size) z.cells.toList) := closed_list fun v hv => by
      rcases cyc_mem _ _ _ _ hv with hv | hv <;> exact zero_cells hz hv
    obtain ⟨rr, e1, e2⟩ := fill_ok ps cps _ _ c h1 hp hcl
    refine ⟨σ', _, rfl, p2, fun hf => ?_⟩
    have hs := Step.alloc he hf elem e2
    rw [← p1] at hs
    refine ⟨_, _, _, ?_, Rep.slice c2 (Env.upd_self _ _ _), hs⟩
    have hbig : ¬ (len * i.size > 2 ^ 24) := by omega
    have hzr : ∀ w, (zeroValue elem).run P w = .ok z w := fun w => (run_zeroValue hz w).1
    simp only [Instr.buildSlice, Sem.run_bind, run_underlying hd, Result.andThen_ok, run_sizeOf hi, if_neg hbig]
    by_cases h0 : len * i.size = 0
    · have hcy : Instr.fill (fun j => some (j * i.size, i.size)) ((Array.range (len * i.size)).map fun x => (#[] : Array Value)[x % (#[] : Array Value).size]!) cps = some ⟨rr⟩ := by
        have : ((Array.range (len * i.size)).map fun x => (#[] : Array Value)[x % (#[] : Array Value).size]!) = ⟨cyc z.cells.toList (len * i.size) z.cells.toList⟩ := by
          rw [h0]; simp [Array.range_zero', cyc_zero]
        rw [this]; exact e1
      simp only [if_pos h0, pure_bind]
      rw [hcy]
      simp [newRow]
    · have hne : z.cells.toList ≠ [] := by
        intro e
        have : z.cells.toList.length = 0 := by rw [e]; rfl
        simp only [Array.length_toList] at this
        rw [this] at c3
        rw [← c3] at h0
        simp at h0
      have hcy : Instr.fill (fun j => some (j * i.size, i.size)) ((Array.range (len * i.size)).map fun x => z.cells[x % z.cells.size]!) cps = some ⟨rr⟩ := by
        have := madeCells_eq z.cells hne (len * i.size)
        have h' : ((Array.range (len * i.size)).map fun x => z.cells[x % z.cells.size]!) = ⟨cyc z.cells.toList (len * i.size) z.cells.toList⟩ := by
          apply Array.ext'
          exact this
        rw [h']; exact e1
      simp only [if_neg h0, pure_bind, Sem.run_bind, hzr, Result.andThen_ok]
      rw [hcy]
      simp [newRow]

theorem cMakeSlice_ok {ε : Env} {σ : AHeap} {w : World} (he : Emb ε σ.get w) {t : TypeId} {l c cl cc : Value} {r : AR} (h : cMakeSlice P t σ l c = some r) (hl : Rep ε l cl) (hc : Rep ε c cc) :
    ∃ σ' : AHeap, ∃ v, r = .val v σ' ∧ σ'.next = σ.next + 1 ∧ (ε.m σ.next = none → ∃ ε' w' cv, (Instr.makeSlice t cl cc).run P w = .ok cv w' ∧ Rep ε' v cv ∧ Step σ.next (σ.next + 1) ε σ.get w ε' σ'.get w') := by
  unfold cMakeSlice at h
  generalize hd : P.underlying t = od at h
  rcases od with _ | d
  · cases h
  cases d <;> try (cases h; done)
  case slice elem =>
    dsimp only at h
    generalize hi : P.info? elem = oi at h
    generalize hz : zeroOf P elem = oz at h
    rcases oi with _ | i
    · cases h
    rcases oz with _ | z
    · cases h
    dsimp only at h
    cases h3 : Nat.beq z.cells.size i.size
    · rw [h3, ifb_false] at h; cases h
    rw [h3, ifb_true] at h
    have h3 := Nat.eq_of_beq_eq_true h3
    obtain ⟨kl, l', rfl, q1⟩ := nn_some (show nn l _ = some r from h)
    obtain ⟨kc, c', rfl, q2⟩ := nn_some q1
    obtain ⟨h4, q3⟩ := ifb_eq_some q2
    simp only [Bool.and_eq_true, Nat.blt_eq] at h4
    obtain ⟨⟨h5, h6⟩, h7⟩ := h4
    have h5 := Nat.le_of_ble_eq_true h5
    have h6 := Nat.le_of_ble_eq_true h6
    obtain ⟨σ', p1, p2, p3⟩ := push_some q3
    obtain rfl := Option.some.inj p3
    obtain rfl := hl.int_inv
    obtain rfl := hc.int_inv
    obtain ⟨i', hi', hzz⟩ := info_of_zero hz
    rw [hi] at hi'; obtain rfl := Option.some.inj hi'
    have hb : (i.bytes : Int) * (Int.ofNat c') ≤ 281474976710656 := by
      have : ((i.bytes * c' : Nat) : Int) ≤ 281474976710656 := by omega
      simpa using this
    have hr := run_make (P := P) w t elem i z hd hi hzz kl kc (Int.ofNat l') (Int.ofNat c') (by simp) (by simp; omega) hb (by simp; omega)
    have hcl : RepL ε (cyc z.cells.toList (c' * i.size) z.cells.toList) (madeCells z.cells (c' * i.size)).toList := by
      by_cases h0 : c' * i.size = 0
      · rw [h0]; simp [madeCells, Array.range_zero', cyc_zero]; exact .nil
      · have hne : z.cells.toList ≠ [] := by
          intro e
          have : z.cells.toList.length = 0 := by rw [e]; rfl
          simp only [Array.length_toList] at this
          rw [this] at h3
          rw [← h3] at h0
          simp at h0
        rw [madeCells_eq z.cells hne]
        exact closed_list fun v hv => by rcases cyc_mem _ _ _ _ hv with hv | hv <;> exact zero_cells hz hv
    refine ⟨σ', _, rfl, p2, fun hf => ?_⟩
    have hs := Step.alloc he hf elem hcl
    rw [← p1] at hs
    exact ⟨_, _, _, hr, Rep.slice (show c' < BIG from by unfold BIG; omega) (Env.upd_self _ _ _), hs⟩
end Go.Eng
