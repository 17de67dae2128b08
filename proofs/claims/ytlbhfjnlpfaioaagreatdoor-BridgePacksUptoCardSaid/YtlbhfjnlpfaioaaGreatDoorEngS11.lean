/- The engine: a region that draws its order, whole. -/
import Derived.Test.YtlbhfjnlpfaioaaGreatDoorEngS10
namespace Go.Eng
open Go
variable {P : Program}

theorem count_one : ∀ (l : List Bool) (i : Nat), l[i]? = some false → (l.set i true).count false + 1 = l.count false
  | [], i, h => by simp at h
  | b :: l, 0, h => by simp at h; subst h; simp
  | b :: l, i + 1, h => by
    have := count_one l i (by simpa using h)
    simp only [List.set_cons_succ, List.count_cons]
    omega

theorem count_zero : ∀ (l : List Bool) (i : Nat) (b : Bool), l.count false = 0 → l[i]? = some b → b = true
  | [], i, b, _, h => by simp at h
  | x :: l, 0, b, hc, h => by
    simp at h; subst h
    cases x
    · simp at hc
    · rfl
  | x :: l, i + 1, b, hc, h => count_zero l i b (by rw [List.count_cons] at hc; omega) (by simpa using h)

theorem ready_iff {ops : Array Oper} {listed : Array Bool} (hsz : listed.size = ops.size) {i : Nat} : i ∈ Region.ready .any ops listed ↔ ∃ o, ops[i]? = some o ∧ listed[i]? ≠ some true ∧ ∀ e ∈ o.after.toList, Region.binds .any e = true → listed[e.on]? = some true := by
  unfold Region.ready
  rw [List.mem_filter, List.mem_range]
  constructor
  · rintro ⟨h1, h2⟩
    rw [Bool.and_eq_true] at h2
    obtain ⟨h2, h3⟩ := h2
    obtain ⟨o, ho⟩ : ∃ o, ops[i]? = some o := ⟨ops[i], by simp [h1]⟩
    rw [ho] at h3
    refine ⟨o, ho, fun q => ?_, fun e he hb => ?_⟩
    · simp [Array.getD_eq_getD_getElem?, q] at h2
    · simp only [Option.map_some, Option.getD_some, Array.all_eq_true'] at h3
      have h3 := h3 e (by simpa using he)
      rw [hb, Bool.not_true, Bool.false_or, Array.getD_eq_getD_getElem?] at h3
      cases q : listed[e.on]? with
      | none => rw [q] at h3; simp at h3
      | some b => rw [q] at h3; simp at h3; rw [h3]
  · rintro ⟨o, ho, h2, h3⟩
    have hi : i < ops.size := by
      rcases Nat.lt_or_ge i ops.size with h | h
      · exact h
      · rw [Array.getElem?_eq_none h] at ho; cases ho
    refine ⟨hi, ?_⟩
    rw [Bool.and_eq_true]
    constructor
    · obtain ⟨b, hb⟩ : ∃ b, listed[i]? = some b := ⟨listed[i], by simp [hsz, hi]⟩
      cases b
      · simp [Array.getD_eq_getD_getElem?, hb]
      · exact absurd hb h2
    · rw [ho]
      simp only [Option.map_some, Option.getD_some, Array.all_eq_true']
      intro e he
      cases hb : Region.binds .any e
      · simp
      · have := h3 e (by simpa using he) hb
        simp [Array.getD_eq_getD_getElem?, this]

section
variable {G n : Nat} {ops : Array Oper} {b0 m : Nat} {t0 : Tr Value} {σ1 σN : AHeap} {recs : List Rec}

theorem any_ok (H : Setting P G n ops b0 m t0 σ1 σN recs) {n0 : Nat} {ε0 : Env} {g0 : AMap} {w0 : World} (hn0 : n0 ≤ b0) {Q : Exit → Act → World → Prop}
    (hQ : ∀ ε' a' w', Step n0 σN.next ε0 g0 w0 ε' σN.get w' → FR ε' n (tOf t0 recs) a' → Q .normal a' w') : ∀ (fuel : Nat) (listed : Array Bool) (S : Nat → Prop) (A B : List Rec) (σq : AHeap) (ε : Env) (a : Act) (w : World),
    (∀ k, S k ↔ listed[k]? = some true) → listed.size = ops.size → listed.toList.count false ≤ fuel → b0 + m ≤ σq.next → Inv P G n ops b0 m t0 σ1 σN recs n0 ε0 g0 w0 S A B σq ε a w → wpAny P .any ops Q fuel listed a w := by
  have done : ∀ (listed : Array Bool) (S : Nat → Prop) (A B : List Rec) (σq : AHeap) (ε : Env) (a : Act) (w : World), (∀ k, S k ↔ listed[k]? = some true) → listed.size = ops.size →
      Inv P G n ops b0 m t0 σ1 σN recs n0 ε0 g0 w0 S A B σq ε a w → (∀ y ∈ recs, S y.x.j) → Q .normal a w := by
    intro listed S A B σq ε a w hS hsz I hall
    obtain ⟨p1, p2⟩ := chain_noact H.all B A [] (by rw [I.split]; simp) I.cB (fun y hy h => I.noB y hy h (hall y (I.mB y hy)))
    refine hQ ε a w (I.step.trans2 ((Step.forget σN.next I.step.emb fun b x h => ?_).widen (by have := I.step.up; omega) (Nat.le_refl _))) ⟨I.size, I.defers, fun s v hs hv => I.slot s v hs ?_⟩
    · unfold gS
      rcases p2 b x h with ⟨y, h1, h2, h3, h4⟩ | h5
      · have := H.XS_of (S := S) (I.mB) h1 h2 (hall y (I.mB y h1))
        rw [h3, h4] at this
        exact ovr_some this
      · have : XS b0 S B b = none := by
          cases e' : XS b0 S B b with
          | none => rfl
          | some y =>
            obtain ⟨z', q1, q2, q3, _, _⟩ := XS_some e'
            have := I.free z' q1 q2
            rw [q3, h5] at this; cases this
        rw [ovr_none this]; exact h5
    · rcases tOf_get hs recs t0 (fun y hy d hd => by
        obtain ⟨A', B', e'⟩ := List.append_of_mem hy
        exact ((H.all.ok A' y B' e').dst d hd).2) hv with ⟨y, hy, q1, q2⟩ | ⟨q1, q2⟩
      · exact .inl ⟨y, hy, q1, hall y hy, q2⟩
      · exact .inr ⟨fun y hy h => absurd h (q1 y hy), q2⟩
  -- where nothing is ready, all is done
  have stuck : ∀ (listed : Array Bool) (S : Nat → Prop), (∀ k, S k ↔ listed[k]? = some true) → listed.size = ops.size → Region.ready .any ops listed = [] → ∀ y ∈ recs, S y.x.j := by
    intro listed S hS hsz hr
    have key : ∀ (k : Nat) (A B : List Rec), A.length = k → recs = A ++ B → ∀ y ∈ A, S y.x.j := by
      intro k
      induction k with
      | zero => intro A B hA _ y hy; have : A = [] := List.length_eq_zero_iff.1 hA; subst this; cases hy
      | succ k ih =>
        intro A B hA e y hy
        obtain ⟨A', z, rfl⟩ : ∃ A' z, A = A' ++ [z] := by
          have hne : A ≠ [] := fun q => by rw [q] at hA; simp at hA
          exact ⟨A.dropLast, A.getLast hne, (List.dropLast_concat_getLast hne).symm⟩
        have hA' := ih A' (z :: B) (by simp at hA; exact hA) (by rw [e]; simp)
        simp only [List.mem_append, List.mem_singleton] at hy
        rcases hy with hy | rfl
        · exact hA' y hy
        · by_cases q : S y.x.j
          · exact q
          · exfalso
            have hst := H.st A' y B (by rw [e]; simp)
            have : y.x.j ∈ Region.ready .any ops listed := (ready_iff hsz).2 ⟨_, hst.idx, fun h => q ((hS _).2 h), fun ed h1 h2 => by
              obtain ⟨z, hz, h3⟩ := hst.after ed h1 h2
              rw [← h3]; exact (hS _).1 (hA' z hz)⟩
            rw [hr] at this; cases this
    exact key recs.length recs [] rfl (by simp)
  intro fuel
  induction fuel with
  | zero =>
    intro listed S A B σq ε a w hS hsz hc hq I
    have hall : ∀ i, i < ops.size → listed[i]? = some true := fun i hi => by
      obtain ⟨b, hb⟩ : ∃ b, listed[i]? = some b := ⟨listed[i]'(by omega), by simp [hsz, hi]⟩
      have := count_zero listed.toList i b (by omega) (by simpa using hb)
      rw [hb, this]
    have hr : Region.ready .any ops listed = [] := by
      cases hrd : Region.ready .any ops listed with
      | nil => rfl
      | cons i l =>
        exfalso
        obtain ⟨o, ho, h2, _⟩ := (ready_iff hsz (i := i)).1 (by rw [hrd]; exact .head _)
        refine h2 (hall i ?_)
        rcases Nat.lt_or_ge i ops.size with h | h
        · exact h
        · rw [Array.getElem?_eq_none h] at ho; cases ho
    exact ⟨hr, done listed S A B σq ε a w hS hsz I (stuck listed S hS hsz hr)⟩
  | succ fuel ih =>
    intro listed S A B σq ε a w hS hsz hc hq I
    refine ⟨fun hr => done listed S A B σq ε a w hS hsz I (stuck listed S hS hsz hr), fun i hi => ?_⟩
    obtain ⟨o, ho, h2, h3⟩ := (ready_iff hsz).1 hi
    have hi' : i < ops.size := by
      rcases Nat.lt_or_ge i ops.size with h | h
      · exact h
      · rw [Array.getElem?_eq_none h] at ho; cases ho
    obtain ⟨r, hr, rfl⟩ := H.has hi'
    obtain ⟨C, D, e⟩ := List.append_of_mem hr
    have hst := H.st C r D e
    rw [hst.idx] at ho
    obtain rfl := Option.some.inj ho
    have hn : ¬ S r.x.j := fun q => h2 ((hS _).1 q)
    have hready : ∀ e ∈ r.x.o.after.toList, Region.binds .any e = true → S e.on := fun e he hb => (hS _).2 (h3 e he hb)
    have hS' : ∀ k, S1 S r.x.j k ↔ (listed.setIfInBounds r.x.j true)[k]? = some true := fun k => by
      rw [Array.getElem?_setIfInBounds]
      unfold S1
      by_cases q : r.x.j = k
      · subst q; simp [hsz, hi']
      · rw [if_neg q]
        constructor
        · rintro (h | h)
          · exact (hS k).1 h
          · exact absurd h.symm q
        · exact fun h => .inl ((hS k).2 h)
    have hsz' : (listed.setIfInBounds r.x.j true).size = ops.size := by simp [hsz]
    have hfalse : listed[r.x.j]? = some false := by
      obtain ⟨b, hb⟩ : ∃ b, listed[r.x.j]? = some b := ⟨listed[r.x.j]'(by omega), by simp [hsz, hi']⟩
      cases b
      · exact hb
      · exact absurd hb h2
    have hc' : (listed.setIfInBounds r.x.j true).toList.count false ≤ fuel := by
      have := count_one listed.toList r.x.j (by simpa using hfalse)
      rw [Array.toList_setIfInBounds]
      omega
    have hNge : b0 + m ≤ σN.next := by
      have := chain_next H.all recs [] [] (by simp) H.chain
      have := H.names
      omega
    have goal : (if Region.wanted r.x.o (yielded ops a.tmps) then r.x.o.wp P a w (wpAny P .any ops Q fuel (listed.setIfInBounds r.x.j true)) Q else wpAny P .any ops Q fuel (listed.setIfInBounds r.x.j true) (a.put r.x.o.dst undef) w) := by
      cases hk : r.x.kd with
      | pure => exact I.still H hr hn hready (.inl hk) fun a' I' => ih _ _ A B σq ε a' w hS' hsz' hc' hq I'
      | read => exact I.still H hr hn hready (.inr hk) fun a' I' => ih _ _ A B σq ε a' w hS' hsz' hc' hq I'
      | new => exact I.makes H hr hn hready hk hn0 hq hNge fun ε' a' w' I' => ih _ _ A B σq ε' a' w' hS' hsz' hc' hq I'
      | act => exact I.acts H hr hn hready hk hn0 hq fun A' B' σ' ε' a' w' hq' I' => ih _ _ A' B' σ' ε' a' w' hS' hsz' hc' hq' I'
    unfold wpOp
    rw [hst.idx]
    dsimp only
    split
    · rename_i hw; rw [if_pos hw] at goal; exact .inl goal
    · rename_i hw; rw [if_neg hw] at goal; exact goal
end
end Go.Eng
