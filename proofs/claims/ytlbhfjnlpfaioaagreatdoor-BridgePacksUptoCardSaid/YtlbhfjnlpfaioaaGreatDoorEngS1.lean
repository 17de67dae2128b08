/- The engine: the operations on memory do in the model what they do here. -/
import Derived.Test.YtlbhfjnlpfaioaaGreatDoorEngD
import Derived.Laws.Entries
namespace Go.Eng
open Go
variable {P : Program}

theorem adda (b o n : Nat) : (⟨b, o, none⟩ : Addr).add n = ⟨b, o + n, none⟩ := by unfold Addr.add; split <;> simp_all

theorem run_isAgg {t : TypeId} {d : TypeDesc} (h : P.underlying t = some d) (w : World) : (isAgg t).run P w = .ok (isAggD d) w := by
  simp only [isAgg, Sem.run_bind, run_underlying h, Result.andThen_ok]
  cases d <;> rfl

theorem run_sizeOf {t : TypeId} {i : TypeInfo} (h : P.info? t = some i) (w : World) : (sizeOf t).run P w = .ok i.size w := by simp [sizeOf, typeInfo, h]

theorem run_zeroValue {t : TypeId} {z : Value} (h : zeroOf P t = some z) (w : World) : (zeroValue t).run P w = .ok z w ∧ closedD 8 z = true := by
  unfold zeroOf at h
  split at h
  · cases h
  · rename_i i hi
    split at h
    · cases h
    · rename_i z' hz
      cases hc : closedD 8 z'
      · rw [hc] at h; cases h
      · rw [hc] at h
        simp at h; subst h
        exact ⟨by simp [zeroValue, typeInfo, hi, hz], hc⟩

theorem cellsAt_list {ε : Env} {w : World} {b o : Nat} {s : Option Nat} {c : List Value} (h : cellsAt ε w ⟨b, o, s⟩ c) (off n : Nat) (hn : off + n ≤ c.length) :
    ∃ cc, RepL ε ((c.drop off).take n) cc ∧ cc.length = n ∧ ∀ j v, cc[j]? = some v → w.cell? ((⟨b, o + off, none⟩ : Addr).add j) = some v := by
  induction n generalizing off with
  | zero => exact ⟨[], by simp; exact .nil, rfl, by simp⟩
  | succ n ih =>
    obtain ⟨cc, h1, h2, h3⟩ := ih (off + 1) (by omega)
    have hlt : off < c.length := by omega
    obtain ⟨cv, e1, e2⟩ := h off c[off] (by simp [hlt])
    refine ⟨cv :: cc, ?_, by simp [h2], ?_⟩
    · rw [List.drop_eq_getElem_cons hlt]
      exact .cons e2 h1
    · intro j v hj
      cases j with
      | zero => simp at hj; subst hj; rw [adda]; exact e1
      | succ j =>
        simp at hj
        have := h3 j v hj
        rw [adda] at this ⊢
        rw [show o + off + (j + 1) = o + (off + 1) + j by omega]
        exact this

/-- what a pointer stands for -/
theorem Rep.pt_inv {ε : Env} {b off : Nat} {cv : Value} (h : Rep ε (.pointer (some ⟨b, off, none⟩)) cv) : ∃ a c, ε.m b = some (some a, c) ∧ cv = .pointer (some ⟨a.block, a.off + off, none⟩) := by
  cases h with
  | ptr h => exact ⟨_, _, h, rfl⟩

theorem Rep.int_inv {ε : Env} {k : IntKind} {n : Int} {cv : Value} (h : Rep ε (.int k n) cv) : cv = .int k n := by cases h; rfl
theorem Rep.bool_inv {ε : Env} {b : Bool} {cv : Value} (h : Rep ε (.bool b) cv) : cv = .bool b := by cases h; rfl

theorem Emb.cells {ε : Env} {g : AMap} {w : World} (he : Emb ε g w) {b : Nat} {c : List Value} {k : AKind} (hb : g b = some (.cells c k)) {a : Addr} {m : Nat} (hm : ε.m b = some (some a, m)) :
    a.block < w.heap.size ∧ cellsAt ε w a c ∧ KOk k a m c w := by
  rcases he.ok _ _ hb with ⟨es, h1, h2, h3⟩ | ⟨a', n', h1, h2, h3, h4⟩
  · rw [hm] at h3; simp at h3
  · rw [hm] at h1; simp at h1; obtain ⟨rfl, rfl⟩ := h1; exact ⟨h2, h3, h4⟩

theorem loadCells_ok {ε : Env} {g : AMap} {w : World} (he : Emb ε g w) {b : Nat} {c : List Value} {k : AKind} (hb : g b = some (.cells c k)) {a : Addr} {m : Nat} (hm : ε.m b = some (some a, m)) (off n : Nat) (hn : off + n ≤ c.length) :
    ∃ cc, (loadCells ⟨a.block, a.off + off, none⟩ n).run P w = .ok ⟨cc⟩ w ∧ RepL ε ((c.drop off).take n) cc := by
  obtain ⟨_, hc, _⟩ := he.cells hb hm
  obtain ⟨cc, h1, h2, h3⟩ := cellsAt_list (b := a.block) (o := a.off) (s := a.spot) hc off n hn
  have := run_loadCells_list (P := P) w ⟨a.block, a.off + off, none⟩ cc h3
  rw [h2] at this
  exact ⟨cc, this, h1⟩

theorem cLoad_ok {ε : Env} {σ : AHeap} {w : World} (he : Emb ε σ.get w) {t : TypeId} {p cp v : Value} (h : cLoad P t σ p = some v) (hr : Rep ε p cp) :
    ∃ cv, (Instr.loadAt t cp).run P w = .ok cv w ∧ Rep ε v cv := by
  unfold cLoad at h
  generalize hd : P.underlying t = od at h
  generalize hi : P.info? t = oi at h
  cases od with
  | none => cases h
  | some d => cases oi with
  | none => cases h
  | some i =>
    replace h : ifb (isAggD d) (loadAgg i.size) loadOne σ p = some v := h
    cases hg : isAggD d
    · rw [hg] at h
      replace h : loadOne σ p = some v := h
      obtain ⟨b, off, rfl, h⟩ := pt_some h
      obtain ⟨c, k, hb, h⟩ := cellsIn_some h
      obtain ⟨a, m, hm, rfl⟩ := hr.pt_inv
      obtain ⟨_, hc, _⟩ := he.cells hb hm
      rw [nth_eq] at h
      obtain ⟨cv, e1, e2⟩ := hc off v h
      refine ⟨cv, ?_, e2⟩
      simp [Instr.loadAt, Instr.sureAddr, loadVar, run_isAgg hd, hg, e1]
    · rw [hg] at h
      replace h : loadAgg i.size σ p = some v := h
      obtain ⟨b, off, rfl, h⟩ := pt_some h
      obtain ⟨c, k, hb, h⟩ := cellsIn_some h
      obtain ⟨r, h1, h2⟩ := ob_eq_some h
      obtain ⟨h3, rfl⟩ := sub_some h1
      simp at h2; subst h2
      obtain ⟨a, m, hm, rfl⟩ := hr.pt_inv
      obtain ⟨cc, e1, e2⟩ := loadCells_ok (P := P) he hb hm off i.size h3
      refine ⟨.agg ⟨cc⟩, ?_, .agg e2⟩
      simp [Instr.loadAt, Instr.sureAddr, loadVar, run_isAgg hd, hg, run_sizeOf hi, e1]

theorem oneV_eq (v : Value) : v.oneCell' = oneV v := by cases v <;> rfl

theorem RepL.oneV {ε : Env} : ∀ {l l' : List Value}, RepL ε l l' → l.all oneV = true → ∀ v ∈ l', v.oneCell' = true
  | _, _, .nil, _, v, hv => by simp at hv
  | _, _, .cons h t, ha, v, hv => by
    simp only [List.all_cons, Bool.and_eq_true] at ha
    rcases List.mem_cons.1 hv with e | e
    · subst e; rw [oneV_eq, h.oneCell]; exact ha.1
    · exact RepL.oneV t ha.2 v e

theorem setCells_heap (b : Nat) : ∀ (vs : List Value) (o : Nat) (w : World) (k : Nat), k ≠ b → (w.setCells b o vs).heap[k]? = w.heap[k]?
  | [], _, _, _, _ => rfl
  | v :: r, o, w, k, h => by
    rw [World.setCells, setCells_heap b r (o + 1) _ k h]
    simp only [World.setCell, Array.getElem?_modify]
    rw [if_neg (by simpa using fun e => h e.symm)]
theorem setCells_size (b : Nat) : ∀ (vs : List Value) (o : Nat) (w : World), (w.setCells b o vs).heap.size = w.heap.size
  | [], _, _ => rfl
  | v :: r, o, w => by rw [World.setCells, setCells_size b r (o + 1)]; simp
theorem setCells_os (b : Nat) : ∀ (vs : List Value) (o : Nat) (w : World), (w.setCells b o vs).os = w.os ∧ (w.setCells b o vs).tape = w.tape ∧ (w.setCells b o vs).output = w.output
  | [], _, _ => ⟨rfl, rfl, rfl⟩
  | v :: r, o, w => by rw [World.setCells]; have := setCells_os b r (o + 1) (w.setCell ⟨b, o, none⟩ v); exact this

/-- Cells of an owned block are written: the world, and the heap. -/
theorem Step.write {ε : Env} {σ : AHeap} {w : World} (he : Emb ε σ.get w) {b : Nat} {c : List Value} {k : AKind} (hb : σ.get b = some (.cells c k)) (hk : writable k = true) {a : Addr} {m : Nat} (hm : ε.m b = some (some a, m))
    {vs cvs : List Value} (off : Nat) (hn : off + vs.length ≤ c.length) (hr : RepL ε vs cvs) (h1 : vs.all oneV = true) :
    (storeCells ⟨a.block, a.off + off, none⟩ cvs).run P w = .ok () (w.setCells a.block (a.off + off) cvs) ∧
    Step σ.next σ.next ε σ.get w ε (σ.set b (some (.cells (splice off vs c) k))).get (w.setCells a.block (a.off + off) cvs) := by
  obtain ⟨hlt, hc, hko⟩ := he.cells hb hm
  have hl : cvs.length = vs.length := hr.length
  have hsome : ∀ i, i < c.length → (w.cell? ⟨a.block, a.off + i, none⟩).isSome = true := fun i hi => by
    obtain ⟨cv, e1, _⟩ := hc i c[i] (by simp [hi])
    simp [e1]
  have hfr : ∀ i, i < c.length → w.frozen? ⟨a.block, a.off + i, none⟩ = false := fun i hi => by
    cases k with
    | ro => cases hk
    | own => exact hko i hi
    | grow es => exact (hko.2 i (by have := hko.1; omega)).2
  constructor
  · have := run_storeCells_cells (P := P) a.block (a.off + off) cvs 0 w
      (fun j hj => by rw [Nat.add_zero, Nat.add_assoc]; exact hsome _ (by omega))
      (fun j hj => by rw [Nat.add_zero, Nat.add_assoc]; exact hfr _ (by omega)) (hr.oneV h1)
    simpa using this
  · rw [AHeap.get_set σ _]
    have ho : (ABlk.cells c k).isOwn = true := by cases k <;> first | rfl | cases hk
    obtain ⟨o1, o2, o3⟩ := setCells_os a.block cvs (a.off + off) w
    refine Step.turn σ.next he hb ho hm o1 o2 o3 (setCells_size _ _ _ _) (fun k hk => setCells_heap _ _ _ _ _ hk) ?_ (by cases k <;> first | rfl | cases hk)
    have hsp := splice_eq off vs c hn
    have hlen : (splice off vs c).length = c.length := by rw [hsp]; simp; omega
    refine .inr ⟨a, m, hm, by rw [setCells_size]; exact hlt, ?_, ?_⟩
    · intro i v hi
      rw [hsp] at hi
      by_cases hi1 : i < off
      · rw [List.getElem?_append_left (by simp; omega), List.getElem?_append_left (by simp; omega)] at hi
        rw [List.getElem?_take, if_pos hi1] at hi
        obtain ⟨cv, e1, e2⟩ := hc i v hi
        refine ⟨cv, ?_, e2⟩
        rw [World.cell?_setCells_out _ _ _ _ _ (fun _ _ => .inl (by simp; omega))]
        exact e1
      · by_cases hi2 : i < off + vs.length
        · rw [List.getElem?_append_left (by simp; omega), List.getElem?_append_right (by simp; omega)] at hi
          simp only [List.length_take] at hi
          rw [Nat.min_eq_left (by omega)] at hi
          obtain ⟨cv, e1, e2⟩ := hr.get hi
          refine ⟨cv, ?_, e2⟩
          have hj : i - off < cvs.length := by omega
          have := World.cell?_setCells_in a.block cvs (a.off + off) w (fun j hj => by rw [Nat.add_assoc]; exact hsome _ (by omega)) (i - off) hj
          rw [show a.off + off + (i - off) = a.off + i by omega] at this
          rw [this]
          rw [← e1]; simp [hj]
        · rw [List.getElem?_append_right (by simp; omega)] at hi
          simp only [List.length_append, List.length_take] at hi
          rw [Nat.min_eq_left (by omega), List.getElem?_drop, show off + vs.length + (i - (off + vs.length)) = i by omega] at hi
          obtain ⟨cv, e1, e2⟩ := hc i v hi
          refine ⟨cv, ?_, e2⟩
          rw [World.cell?_setCells_out _ _ _ _ _ (fun _ _ => .inr (by simp; omega))]
          exact e1
    · cases k with
      | ro => cases hk
      | own => intro i hi; rw [World.frozen?_setCells]; exact hfr i (by rw [← hlen]; exact hi)
      | grow es =>
        refine ⟨by rw [hlen]; exact hko.1, fun i hi => ?_⟩
        obtain ⟨e1, e2⟩ := hko.2 i hi
        refine ⟨?_, by rw [World.frozen?_setCells]; exact e2⟩
        by_cases hi2 : off ≤ i ∧ i < off + vs.length
        · have hj : i - off < cvs.length := by omega
          have := World.cell?_setCells_in a.block cvs (a.off + off) w (fun j hj => by rw [Nat.add_assoc]; exact hsome _ (by omega)) (i - off) hj
          rw [show a.off + off + (i - off) = a.off + i by omega] at this
          rw [this]; rfl
        · rw [World.cell?_setCells_out _ _ _ _ _ (fun _ _ => by simp; omega)]
          exact e1

theorem cStore_ok {ε : Env} {σ σ' : AHeap} {w : World} (he : Emb ε σ.get w) {t : TypeId} {p cp v cv : Value} (h : cStore P t σ p v = some σ') (hr : Rep ε p cp) (hv : Rep ε v cv) :
    ∃ w', (Instr.storeAt t cp cv).run P w = .ok () w' ∧ Step σ.next σ'.next ε σ.get w ε σ'.get w' := by
  unfold cStore at h
  generalize hi : P.info? t = oi at h
  cases oi with
  | none => cases h
  | some i =>
    replace h : storeN i.size σ p v = some σ' := h
    obtain ⟨b, off, rfl, h⟩ := pt_some h
    obtain ⟨c, k, hb, h⟩ := cellsIn_some h
    obtain ⟨h1, h⟩ := ifb_eq_some h
    obtain ⟨h2, h⟩ := ifb_eq_some h
    obtain ⟨h3, h⟩ := ifb_eq_some h
    obtain ⟨h4, h⟩ := ifb_eq_some h
    simp at h; subst h
    have h1 := Nat.eq_of_beq_eq_true h1
    have h3 := hasLen_le _ _ h3
    have h4 := allL_all _ _ h4
    obtain ⟨a, m, hm, rfl⟩ := hr.pt_inv
    have hrl := hv.cells h4
    obtain ⟨e1, e2⟩ := Step.write (P := P) he hb h2 hm off (by omega) hrl h4
    refine ⟨_, ?_, e2⟩
    have hsz : cv.cells.size = i.size := by rw [← h1, ← hrl.length]; simp
    simp [Instr.storeAt, Instr.sureAddr, storeVar, run_sizeOf hi, hsz, e1]

/-- a new variable -/
theorem aNew_ok {ε : Env} {σ : AHeap} {w : World} (he : Emb ε σ.get w) {v cv : Value} {r : AR} (h : aNew σ v = some r) (hv : Rep ε v cv) (t : TypeId) :
    ∃ σ' : AHeap, r = .val (.pointer (some ⟨σ.next, 0, none⟩)) σ' ∧ σ'.next = σ.next + 1 ∧ (ε.m σ.next = none → ∃ ε' w', (newVar t cv).run P w = .ok ⟨w.heap.size, 0, none⟩ w' ∧
      Rep ε' (.pointer (some ⟨σ.next, 0, none⟩)) (.pointer (some ⟨w.heap.size, 0, none⟩)) ∧ Step σ.next (σ.next + 1) ε σ.get w ε' σ'.get w') := by
  obtain ⟨h1, h⟩ := ifb_eq_some h
  obtain ⟨σ', e1, e2, e3⟩ := push_some h
  simp at e3
  have hrl := hv.cells (allL_all _ _ h1)
  refine ⟨σ', e3.symm, e2, fun hf => ?_⟩
  have hs := Step.alloc he hf t hrl
  rw [← e1] at hs
  have hp : Rep (ε.upd σ.next (some ⟨w.heap.size, 0, none⟩, 0)) (.pointer (some ⟨σ.next, 0, none⟩)) (.pointer (some ⟨w.heap.size, 0 + 0, none⟩)) := Rep.ptr (a := ⟨w.heap.size, 0, none⟩) (Env.upd_self _ _ _)
  exact ⟨_, _, rfl, hp, hs⟩
end Go.Eng
